/-
  DERIVED. GIVEN WITH THE SEED: THE PROGRAM's TIES (one call each: nine closed facts by the kernel) AND EACH ROW's TIE, after the 31st guide's Derived/Test/Toyas{Tie, Card}.lean. No idea stands in it: it is a product of the set-up. Laid BY PROGRAM, IN A SANDBOX (cutbox-door.mjs). By AI agents, Wed Nov 11 2026. No macro, syntax, notation, axiom, sorry.
-/
import Derived.Test.YtelnnehpbkainaaGreatDoorRows
import Derived.LaidByTextLater
import Derived.SevenTiedAt
import Derived.LaidSub
import Derived.LaidOnce
namespace Go.Proofs.YtelnnehpbkainaaGreatDoor
open Go
set_option maxRecDepth 100000
theorem seatTie1 : Tryz.prog.laidByTextLater [("unicode.White_Space", Rows.laid_unicode_White_Space), ("strings.asciiSpace", Rows.laid_strings_asciiSpace), ("reprise/syntax.shapes", Rows.laid_reprise_syntax_shapes), ("reprise/linear.calm", Rows.laid_reprise_linear_calm)] [.listed, .data, .data, .widerDeep] true :=
  Program.laidByTextLater_by_one 78 8 257 (by kernel_rfl) (by kernel_rfl) (by kernel_rfl) (by kernel_rfl) (by kernel_rfl) (by kernel_rfl) (fun _ _ => by kernel_rfl)
theorem seatTie2 : Tryz.prog.laidByTextLater [("math/bits.deBruijn32tab", Rows.laid_math_bits_deBruijn32tab), ("math/bits.deBruijn64tab", Rows.laid_math_bits_deBruijn64tab), ("internal/strconv.uint64pow10", Rows.laid_internal_strconv_uint64pow10), ("unicode.White_Space", Rows.laid_unicode_White_Space), ("strings.asciiSpace", Rows.laid_strings_asciiSpace), ("reprise/syntax.shapes", Rows.laid_reprise_syntax_shapes), ("reprise/linear.calm", Rows.laid_reprise_linear_calm)] [.data, .data, .data, .listed, .data, .data, .widerDeep] true :=
  Program.laidByTextLater_by_one 78 8 257 (by kernel_rfl) (by kernel_rfl) (by kernel_rfl) (by kernel_rfl) (by kernel_rfl) (by kernel_rfl) (fun _ _ => by kernel_rfl)
theorem noOwnUnsafe : Tryz.pinned.checked.prog.headLifts.contains "ownunsafe" = false := by kernel_rfl
theorem tie : Tryz.prog.laidByTextLater [("unicode.White_Space", Rows.laid_unicode_White_Space), ("strings.asciiSpace", Rows.laid_strings_asciiSpace), ("reprise/syntax.shapes", Rows.laid_reprise_syntax_shapes), ("reprise/linear.calm", Rows.laid_reprise_linear_calm)] [.listed, .data, .data, .widerDeep] true :=
  Program.laidByTextLater.sub seatTie1 ["unicode.White_Space", "strings.asciiSpace", "reprise/syntax.shapes", "reprise/linear.calm"] (by kernel_rfl) (by kernel_rfl)
theorem linearClauses_row_tie : Rows.linearClausesRow.laidByTextAt .later Tryz.pinned [.listed, .data, .data, .widerDeep] true :=
  OpenClaim.laidByTextAt_later rfl rfl tie noOwnUnsafe
theorem linearExprs_row_tie : Rows.linearExprsRow.laidByTextAt .later Tryz.pinned [.listed, .data, .data, .widerDeep] true :=
  OpenClaim.laidByTextAt_later rfl rfl tie noOwnUnsafe
theorem linearChecks_row_tie : Rows.linearChecksRow.laidByTextAt .later Tryz.pinned [.listed, .data, .data, .widerDeep] true :=
  OpenClaim.laidByTextAt_later rfl rfl tie noOwnUnsafe
theorem linearKnown_row_tie : Rows.linearKnownRow.laidByTextAt .later Tryz.pinned [.listed, .data, .data, .widerDeep] true :=
  OpenClaim.laidByTextAt_later rfl rfl tie noOwnUnsafe
theorem linearSites_row_tie : Rows.linearSitesRow.laidByTextAt .later Tryz.pinned [.listed, .data, .data, .widerDeep] true :=
  OpenClaim.laidByTextAt_later rfl rfl tie noOwnUnsafe
theorem linearParts_row_tie : Rows.linearPartsRow.laidByTextAt .later Tryz.pinned [.listed, .data, .data, .widerDeep] true :=
  OpenClaim.laidByTextAt_later rfl rfl tie noOwnUnsafe
theorem linearTail_row_tie : Rows.linearTailRow.laidByTextAt .later Tryz.pinned [.listed, .data, .data, .widerDeep] true :=
  OpenClaim.laidByTextAt_later rfl rfl tie noOwnUnsafe
theorem linearOnce_row_tie : Rows.linearOnceRow.laidByTextAt .later Tryz.pinned [.listed, .data, .data, .widerDeep] true :=
  OpenClaim.laidByTextAt_later rfl rfl tie noOwnUnsafe
theorem tie2 : Tryz.prog.laidByTextLater [("math/bits.deBruijn32tab", Rows.laid_math_bits_deBruijn32tab), ("math/bits.deBruijn64tab", Rows.laid_math_bits_deBruijn64tab), ("internal/strconv.uint64pow10", Rows.laid_internal_strconv_uint64pow10), ("unicode.White_Space", Rows.laid_unicode_White_Space), ("strings.asciiSpace", Rows.laid_strings_asciiSpace), ("reprise/syntax.shapes", Rows.laid_reprise_syntax_shapes), ("reprise/linear.calm", Rows.laid_reprise_linear_calm)] [.data, .data, .data, .listed, .data, .data, .widerDeep] true :=
  Program.laidByTextLater.sub seatTie2 ["math/bits.deBruijn32tab", "math/bits.deBruijn64tab", "internal/strconv.uint64pow10", "unicode.White_Space", "strings.asciiSpace", "reprise/syntax.shapes", "reprise/linear.calm"] (by kernel_rfl) (by kernel_rfl)
theorem linearWrapped_row_tie : Rows.linearWrappedRow.laidByTextAt .later Tryz.pinned [.data, .data, .data, .listed, .data, .data, .widerDeep] true :=
  OpenClaim.laidByTextAt_later rfl rfl tie2 noOwnUnsafe
theorem linearFlaw_row_tie : Rows.linearFlawRow.laidByTextAt .later Tryz.pinned [.data, .data, .data, .listed, .data, .data, .widerDeep] true :=
  OpenClaim.laidByTextAt_later rfl rfl tie2 noOwnUnsafe
theorem linearClausesUpto_row_tie : Rows.linearClausesUptoRow.laidByTextAt .later Tryz.pinned [.listed, .data, .data, .widerDeep] true :=
  OpenClaim.laidByTextAt_later rfl rfl tie noOwnUnsafe
theorem linearExprsUpto_row_tie : Rows.linearExprsUptoRow.laidByTextAt .later Tryz.pinned [.listed, .data, .data, .widerDeep] true :=
  OpenClaim.laidByTextAt_later rfl rfl tie noOwnUnsafe
theorem linearChecksUpto_row_tie : Rows.linearChecksUptoRow.laidByTextAt .later Tryz.pinned [.listed, .data, .data, .widerDeep] true :=
  OpenClaim.laidByTextAt_later rfl rfl tie noOwnUnsafe
theorem linearKnownUpto_row_tie : Rows.linearKnownUptoRow.laidByTextAt .later Tryz.pinned [.listed, .data, .data, .widerDeep] true :=
  OpenClaim.laidByTextAt_later rfl rfl tie noOwnUnsafe
theorem linearSitesUpto_row_tie : Rows.linearSitesUptoRow.laidByTextAt .later Tryz.pinned [.listed, .data, .data, .widerDeep] true :=
  OpenClaim.laidByTextAt_later rfl rfl tie noOwnUnsafe
theorem linearPartsUpto_row_tie : Rows.linearPartsUptoRow.laidByTextAt .later Tryz.pinned [.listed, .data, .data, .widerDeep] true :=
  OpenClaim.laidByTextAt_later rfl rfl tie noOwnUnsafe
theorem linearTailUpto_row_tie : Rows.linearTailUptoRow.laidByTextAt .later Tryz.pinned [.listed, .data, .data, .widerDeep] true :=
  OpenClaim.laidByTextAt_later rfl rfl tie noOwnUnsafe
theorem linearOnceUpto_row_tie : Rows.linearOnceUptoRow.laidByTextAt .later Tryz.pinned [.listed, .data, .data, .widerDeep] true :=
  OpenClaim.laidByTextAt_later rfl rfl tie noOwnUnsafe
theorem linearWrappedUpto_row_tie : Rows.linearWrappedUptoRow.laidByTextAt .later Tryz.pinned [.data, .data, .data, .listed, .data, .data, .widerDeep] true :=
  OpenClaim.laidByTextAt_later rfl rfl tie2 noOwnUnsafe
theorem linearFlawUpto_row_tie : Rows.linearFlawUptoRow.laidByTextAt .later Tryz.pinned [.data, .data, .data, .listed, .data, .data, .widerDeep] true :=
  OpenClaim.laidByTextAt_later rfl rfl tie2 noOwnUnsafe
end Go.Proofs.YtelnnehpbkainaaGreatDoor
