/-
  DERIVED. GIVEN WITH THE SEED: THE CARDS: each row of YthmlommnlihgcaaGreatDoorRows.lean that lists a variable, with what it lists TIED to the program's text (the seventh form; the later family's looks); each row that meets fmt, with fmt's text TOLD by the authors' own Lean function (tested against real Go, not proved from fmt's source: count such statements apart). THE CARD IS WHAT COUNTS. Prove the row's statement (the work); the ties are given (YthmlommnlihgcaaGreatDoorTie.lean); close each card by the builder's one call (the guide's Derived/Test/ToyasCard.lean, 'card_holds'). Laid BY PROGRAM, IN A SANDBOX (cutbox-door.mjs). By AI agents, Wed Nov 11 2026. No macro, syntax, notation, axiom, sorry.
-/
import Derived.Test.YthmlommnlihgcaaGreatDoorRows
import GoSem.ClaimSeven
namespace Go.Proofs.YthmlommnlihgcaaGreatDoor
namespace Rows

/-- THE TIED CARD OF 'repriselaw17.VerifyKnown'. -/
def verifyKnownCard : Claim7 := { stood := { row := verifyKnownRow, standIns := [], harness := (true, "1f95cf28ba0710c035c9ebb5bbbc2600d6719a2f6179514111aea40d8a4c1dc9"), looks := true }, kinds := [], alts := [], laidByText := true, laidKinds := [.listed, .data, .data], laidTests := true, laidLooks := .later }
def VerifyKnownCardSaid : Prop := Claim7.holds Tryz.pinned (.plain (OpenSpec.ofChange verifyKnownSpec)) verifyKnownCard

/-- THE SECOND FORM's CARD OF 'repriselaw17.VerifyKnown'. -/
def verifyKnownUptoCard : Claim7 := { stood := { row := verifyKnownUptoRow, standIns := [], harness := (true, "1f95cf28ba0710c035c9ebb5bbbc2600d6719a2f6179514111aea40d8a4c1dc9"), looks := true }, kinds := [], alts := [], laidByText := true, laidKinds := [.listed, .data, .data], laidTests := true, laidLooks := .later }
def VerifyKnownUptoCardSaid : Prop := Claim7.holds Tryz.pinned (.plain (OpenSpec.upto verifyKnownSpec)) verifyKnownUptoCard
end Rows
end Go.Proofs.YthmlommnlihgcaaGreatDoor
