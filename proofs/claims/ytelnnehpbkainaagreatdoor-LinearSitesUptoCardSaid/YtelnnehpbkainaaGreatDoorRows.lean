/-
  NARROWER THAN 'FOR EVERY INPUT', by the rows' own cells (each row's printed sentence says how): LinearClauses: loops, laid · LinearExprs: loops, laid · LinearChecks: loops, laid · LinearKnown: laid · LinearSites: loops, laid · LinearParts: loops, laid · LinearTail: loops, laid · LinearOnce: loops, laid · LinearWrapped: loops, laid · LinearFlaw: loops, laid.
  DERIVED. THE GIVEN ROWS OF THIS SEAT. 10 by the template 'for every input the law returns true; each argument reads behind the call as it read before'; 0 by the template 'total and deterministic' (their statements: YtelnnehpbkainaaGreatDoorTotals.lean).
  GIVEN WITH THE SEED: the statements are not yours to turn. If you find one false, say at which input.
  Laid BY PROGRAM, IN A SANDBOX (cutbox-rows.mjs): the forced cells as the released guide's own fill.sh prints them over the translation a818f4fddce28572… (all of the seat's roots in one cut). By AI agents, Wed Nov 11 2026. No macro, syntax, notation, axiom, sorry.
-/
import Derived.Test.YtelnnehpbkainaaGreatDoorChecked
import GoSem.Claim
import GoSem.ClaimJoined
import GoSem.ClaimMapViews
import Derived.JoinedTies
import Derived.KernelRfl
namespace Go.Proofs.YtelnnehpbkainaaGreatDoor
/- THE CELL 'sum', in the pinned program and in every row, IS THE sha256 OF THE DUMP (.gsa) THAT YtelnnehpbkainaaGreatDoorProg.lean LOADS. Nothing in Lean hashes anything: it is a label: what it is worth is what the hold of that sum in a sandbox is worth. -/
noncomputable def Tryz.pinned : Pinned := { name := "ytelnnehpbkainaagreatdoor", sum := "a818f4fddce28572e8d5ae3e2d26c1aa1d27ed699b4f4a6a34127a81c727efa1", checked := Tryz.checked }
namespace Rows
def none {H : Type} : Left H := { results := [], args := [] }

/- WHAT THE LISTED PACKAGE-LEVEL VARIABLES READ AS WHEN THE CALL BEGINS. Each datum BY PROGRAM (the guide's laid-datum.mjs) off the statement by which the dump's own 'gosem.cut.vars' lays the variable. In a bare row this is a premise. The card (YtelnnehpbkainaaGreatDoorCards.lean) ties it to the program's text. -/
def laid_unicode_White_Space {H : Type} : DataW H := .ptr (.agg [.slice [.agg [.lit (.int .u16 9), .lit (.int .u16 13), .lit (.int .u16 1)], .agg [.lit (.int .u16 32), .lit (.int .u16 133), .lit (.int .u16 101)], .agg [.lit (.int .u16 160), .lit (.int .u16 5760), .lit (.int .u16 5600)], .agg [.lit (.int .u16 8192), .lit (.int .u16 8202), .lit (.int .u16 1)], .agg [.lit (.int .u16 8232), .lit (.int .u16 8233), .lit (.int .u16 1)], .agg [.lit (.int .u16 8239), .lit (.int .u16 8287), .lit (.int .u16 48)], .agg [.lit (.int .u16 12288), .lit (.int .u16 12288), .lit (.int .u16 1)]] [], .nil, .lit (.int .i64 2)])
def laid_strings_asciiSpace {H : Type} : DataW H := .agg [.lit (.int .u8 0), .lit (.int .u8 0), .lit (.int .u8 0), .lit (.int .u8 0), .lit (.int .u8 0), .lit (.int .u8 0), .lit (.int .u8 0), .lit (.int .u8 0), .lit (.int .u8 0), .lit (.int .u8 1), .lit (.int .u8 1), .lit (.int .u8 1), .lit (.int .u8 1), .lit (.int .u8 1), .lit (.int .u8 0), .lit (.int .u8 0), .lit (.int .u8 0), .lit (.int .u8 0), .lit (.int .u8 0), .lit (.int .u8 0), .lit (.int .u8 0), .lit (.int .u8 0), .lit (.int .u8 0), .lit (.int .u8 0), .lit (.int .u8 0), .lit (.int .u8 0), .lit (.int .u8 0), .lit (.int .u8 0), .lit (.int .u8 0), .lit (.int .u8 0), .lit (.int .u8 0), .lit (.int .u8 0), .lit (.int .u8 1), .lit (.int .u8 0), .lit (.int .u8 0), .lit (.int .u8 0), .lit (.int .u8 0), .lit (.int .u8 0), .lit (.int .u8 0), .lit (.int .u8 0), .lit (.int .u8 0), .lit (.int .u8 0), .lit (.int .u8 0), .lit (.int .u8 0), .lit (.int .u8 0), .lit (.int .u8 0), .lit (.int .u8 0), .lit (.int .u8 0), .lit (.int .u8 0), .lit (.int .u8 0), .lit (.int .u8 0), .lit (.int .u8 0), .lit (.int .u8 0), .lit (.int .u8 0), .lit (.int .u8 0), .lit (.int .u8 0), .lit (.int .u8 0), .lit (.int .u8 0), .lit (.int .u8 0), .lit (.int .u8 0), .lit (.int .u8 0), .lit (.int .u8 0), .lit (.int .u8 0), .lit (.int .u8 0), .lit (.int .u8 0), .lit (.int .u8 0), .lit (.int .u8 0), .lit (.int .u8 0), .lit (.int .u8 0), .lit (.int .u8 0), .lit (.int .u8 0), .lit (.int .u8 0), .lit (.int .u8 0), .lit (.int .u8 0), .lit (.int .u8 0), .lit (.int .u8 0), .lit (.int .u8 0), .lit (.int .u8 0), .lit (.int .u8 0), .lit (.int .u8 0), .lit (.int .u8 0), .lit (.int .u8 0), .lit (.int .u8 0), .lit (.int .u8 0), .lit (.int .u8 0), .lit (.int .u8 0), .lit (.int .u8 0), .lit (.int .u8 0), .lit (.int .u8 0), .lit (.int .u8 0), .lit (.int .u8 0), .lit (.int .u8 0), .lit (.int .u8 0), .lit (.int .u8 0), .lit (.int .u8 0), .lit (.int .u8 0), .lit (.int .u8 0), .lit (.int .u8 0), .lit (.int .u8 0), .lit (.int .u8 0), .lit (.int .u8 0), .lit (.int .u8 0), .lit (.int .u8 0), .lit (.int .u8 0), .lit (.int .u8 0), .lit (.int .u8 0), .lit (.int .u8 0), .lit (.int .u8 0), .lit (.int .u8 0), .lit (.int .u8 0), .lit (.int .u8 0), .lit (.int .u8 0), .lit (.int .u8 0), .lit (.int .u8 0), .lit (.int .u8 0), .lit (.int .u8 0), .lit (.int .u8 0), .lit (.int .u8 0), .lit (.int .u8 0), .lit (.int .u8 0), .lit (.int .u8 0), .lit (.int .u8 0), .lit (.int .u8 0), .lit (.int .u8 0), .lit (.int .u8 0), .lit (.int .u8 0), .lit (.int .u8 0), .lit (.int .u8 0), .lit (.int .u8 0), .lit (.int .u8 0), .lit (.int .u8 0), .lit (.int .u8 0), .lit (.int .u8 0), .lit (.int .u8 0), .lit (.int .u8 0), .lit (.int .u8 0), .lit (.int .u8 0), .lit (.int .u8 0), .lit (.int .u8 0), .lit (.int .u8 0), .lit (.int .u8 0), .lit (.int .u8 0), .lit (.int .u8 0), .lit (.int .u8 0), .lit (.int .u8 0), .lit (.int .u8 0), .lit (.int .u8 0), .lit (.int .u8 0), .lit (.int .u8 0), .lit (.int .u8 0), .lit (.int .u8 0), .lit (.int .u8 0), .lit (.int .u8 0), .lit (.int .u8 0), .lit (.int .u8 0), .lit (.int .u8 0), .lit (.int .u8 0), .lit (.int .u8 0), .lit (.int .u8 0), .lit (.int .u8 0), .lit (.int .u8 0), .lit (.int .u8 0), .lit (.int .u8 0), .lit (.int .u8 0), .lit (.int .u8 0), .lit (.int .u8 0), .lit (.int .u8 0), .lit (.int .u8 0), .lit (.int .u8 0), .lit (.int .u8 0), .lit (.int .u8 0), .lit (.int .u8 0), .lit (.int .u8 0), .lit (.int .u8 0), .lit (.int .u8 0), .lit (.int .u8 0), .lit (.int .u8 0), .lit (.int .u8 0), .lit (.int .u8 0), .lit (.int .u8 0), .lit (.int .u8 0), .lit (.int .u8 0), .lit (.int .u8 0), .lit (.int .u8 0), .lit (.int .u8 0), .lit (.int .u8 0), .lit (.int .u8 0), .lit (.int .u8 0), .lit (.int .u8 0), .lit (.int .u8 0), .lit (.int .u8 0), .lit (.int .u8 0), .lit (.int .u8 0), .lit (.int .u8 0), .lit (.int .u8 0), .lit (.int .u8 0), .lit (.int .u8 0), .lit (.int .u8 0), .lit (.int .u8 0), .lit (.int .u8 0), .lit (.int .u8 0), .lit (.int .u8 0), .lit (.int .u8 0), .lit (.int .u8 0), .lit (.int .u8 0), .lit (.int .u8 0), .lit (.int .u8 0), .lit (.int .u8 0), .lit (.int .u8 0), .lit (.int .u8 0), .lit (.int .u8 0), .lit (.int .u8 0), .lit (.int .u8 0), .lit (.int .u8 0), .lit (.int .u8 0), .lit (.int .u8 0), .lit (.int .u8 0), .lit (.int .u8 0), .lit (.int .u8 0), .lit (.int .u8 0), .lit (.int .u8 0), .lit (.int .u8 0), .lit (.int .u8 0), .lit (.int .u8 0), .lit (.int .u8 0), .lit (.int .u8 0), .lit (.int .u8 0), .lit (.int .u8 0), .lit (.int .u8 0), .lit (.int .u8 0), .lit (.int .u8 0), .lit (.int .u8 0), .lit (.int .u8 0), .lit (.int .u8 0), .lit (.int .u8 0), .lit (.int .u8 0), .lit (.int .u8 0), .lit (.int .u8 0), .lit (.int .u8 0), .lit (.int .u8 0), .lit (.int .u8 0), .lit (.int .u8 0), .lit (.int .u8 0), .lit (.int .u8 0), .lit (.int .u8 0), .lit (.int .u8 0), .lit (.int .u8 0), .lit (.int .u8 0), .lit (.int .u8 0), .lit (.int .u8 0), .lit (.int .u8 0), .lit (.int .u8 0), .lit (.int .u8 0), .lit (.int .u8 0), .lit (.int .u8 0), .lit (.int .u8 0)]
def laid_reprise_syntax_shapes {H : Type} : DataW H := .agg [.agg [.lit (.int .i64 1), .lit (.int .i64 0), .lit (.int .i64 0), .lit (.int .i64 0), .lit (.int .i64 0), .lit (.int .i64 0), .lit (.bool false), .lit (.int .i64 0), .lit (.int .i64 0)], .agg [.lit (.int .i64 0), .lit (.int .i64 0), .lit (.int .i64 0), .lit (.int .i64 0), .lit (.int .i64 0), .lit (.int .i64 0), .lit (.bool false), .lit (.int .i64 (-999999999)), .lit (.int .i64 999999999)], .agg [.lit (.int .i64 0), .lit (.int .i64 0), .lit (.int .i64 0), .lit (.int .i64 0), .lit (.int .i64 0), .lit (.int .i64 0), .lit (.bool false), .lit (.int .i64 0), .lit (.int .i64 1)], .agg [.lit (.int .i64 0), .lit (.int .i64 0), .lit (.int .i64 0), .lit (.int .i64 0), .lit (.int .i64 0), .lit (.int .i64 0), .lit (.bool false), .lit (.int .i64 0), .lit (.int .i64 0)], .agg [.lit (.int .i64 0), .lit (.int .i64 0), .lit (.int .i64 1), .lit (.int .i64 0), .lit (.int .i64 1), .lit (.int .i64 0), .lit (.bool false), .lit (.int .i64 0), .lit (.int .i64 0)], .agg [.lit (.int .i64 0), .lit (.int .i64 0), .lit (.int .i64 0), .lit (.int .i64 0), .lit (.int .i64 2), .lit (.int .i64 0), .lit (.bool false), .lit (.int .i64 0), .lit (.int .i64 0)], .agg [.lit (.int .i64 0), .lit (.int .i64 0), .lit (.int .i64 1), .lit (.int .i64 0), .lit (.int .i64 2), .lit (.int .i64 0), .lit (.bool false), .lit (.int .i64 0), .lit (.int .i64 0)], .agg [.lit (.int .i64 0), .lit (.int .i64 0), .lit (.int .i64 2), .lit (.int .i64 0), .lit (.int .i64 2), .lit (.int .i64 0), .lit (.bool false), .lit (.int .i64 0), .lit (.int .i64 0)], .agg [.lit (.int .i64 0), .lit (.int .i64 0), .lit (.int .i64 0), .lit (.int .i64 0), .lit (.int .i64 3), .lit (.int .i64 0), .lit (.bool false), .lit (.int .i64 0), .lit (.int .i64 0)], .agg [.lit (.int .i64 3), .lit (.int .i64 0), .lit (.int .i64 0), .lit (.int .i64 0), .lit (.int .i64 2), .lit (.int .i64 0), .lit (.bool false), .lit (.int .i64 0), .lit (.int .i64 0)], .agg [.lit (.int .i64 2), .lit (.int .i64 0), .lit (.int .i64 0), .lit (.int .i64 0), .lit (.int .i64 0), .lit (.int .i64 4), .lit (.bool false), .lit (.int .i64 0), .lit (.int .i64 0)], .agg [.lit (.int .i64 0), .lit (.int .i64 0), .lit (.int .i64 0), .lit (.int .i64 0), .lit (.int .i64 1), .lit (.int .i64 0), .lit (.bool true), .lit (.int .i64 0), .lit (.int .i64 0)], .agg [.lit (.int .i64 1), .lit (.int .i64 0), .lit (.int .i64 0), .lit (.int .i64 0), .lit (.int .i64 1), .lit (.int .i64 0), .lit (.bool false), .lit (.int .i64 0), .lit (.int .i64 0)], .agg [.lit (.int .i64 1), .lit (.int .i64 1), .lit (.int .i64 0), .lit (.int .i64 0), .lit (.int .i64 1), .lit (.int .i64 0), .lit (.bool false), .lit (.int .i64 0), .lit (.int .i64 0)], .agg [.lit (.int .i64 2), .lit (.int .i64 0), .lit (.int .i64 0), .lit (.int .i64 0), .lit (.int .i64 1), .lit (.int .i64 0), .lit (.bool true), .lit (.int .i64 0), .lit (.int .i64 1)], .agg [.lit (.int .i64 2), .lit (.int .i64 0), .lit (.int .i64 1), .lit (.int .i64 0), .lit (.int .i64 1), .lit (.int .i64 0), .lit (.bool true), .lit (.int .i64 0), .lit (.int .i64 0)], .agg [.lit (.int .i64 2), .lit (.int .i64 0), .lit (.int .i64 0), .lit (.int .i64 0), .lit (.int .i64 1), .lit (.int .i64 0), .lit (.bool false), .lit (.int .i64 0), .lit (.int .i64 0)], .agg [.lit (.int .i64 0), .lit (.int .i64 0), .lit (.int .i64 1), .lit (.int .i64 12), .lit (.int .i64 3), .lit (.int .i64 0), .lit (.bool false), .lit (.int .i64 0), .lit (.int .i64 0)], .agg [.lit (.int .i64 1), .lit (.int .i64 0), .lit (.int .i64 0), .lit (.int .i64 0), .lit (.int .i64 1), .lit (.int .i64 0), .lit (.bool false), .lit (.int .i64 0), .lit (.int .i64 0)], .agg [.lit (.int .i64 1), .lit (.int .i64 0), .lit (.int .i64 0), .lit (.int .i64 0), .lit (.int .i64 0), .lit (.int .i64 0), .lit (.bool false), .lit (.int .i64 0), .lit (.int .i64 0)]]
def laid_reprise_linear_calm {H : Type} : DataW H := .agg [.lit (.int .i64 0), .lit (.int .i64 1), .lit (.int .i64 2), .lit (.int .i64 3), .lit (.int .i64 4), .lit (.int .i64 6), .lit (.int .i64 8), .lit (.int .i64 9), .lit (.int .i64 10), .lit (.int .i64 11)]
def laid_math_bits_deBruijn32tab {H : Type} : DataW H := .agg [.lit (.int .u8 0), .lit (.int .u8 1), .lit (.int .u8 28), .lit (.int .u8 2), .lit (.int .u8 29), .lit (.int .u8 14), .lit (.int .u8 24), .lit (.int .u8 3), .lit (.int .u8 30), .lit (.int .u8 22), .lit (.int .u8 20), .lit (.int .u8 15), .lit (.int .u8 25), .lit (.int .u8 17), .lit (.int .u8 4), .lit (.int .u8 8), .lit (.int .u8 31), .lit (.int .u8 27), .lit (.int .u8 13), .lit (.int .u8 23), .lit (.int .u8 21), .lit (.int .u8 19), .lit (.int .u8 16), .lit (.int .u8 7), .lit (.int .u8 26), .lit (.int .u8 12), .lit (.int .u8 18), .lit (.int .u8 6), .lit (.int .u8 11), .lit (.int .u8 5), .lit (.int .u8 10), .lit (.int .u8 9)]
def laid_math_bits_deBruijn64tab {H : Type} : DataW H := .agg [.lit (.int .u8 0), .lit (.int .u8 1), .lit (.int .u8 56), .lit (.int .u8 2), .lit (.int .u8 57), .lit (.int .u8 49), .lit (.int .u8 28), .lit (.int .u8 3), .lit (.int .u8 61), .lit (.int .u8 58), .lit (.int .u8 42), .lit (.int .u8 50), .lit (.int .u8 38), .lit (.int .u8 29), .lit (.int .u8 17), .lit (.int .u8 4), .lit (.int .u8 62), .lit (.int .u8 47), .lit (.int .u8 59), .lit (.int .u8 36), .lit (.int .u8 45), .lit (.int .u8 43), .lit (.int .u8 51), .lit (.int .u8 22), .lit (.int .u8 53), .lit (.int .u8 39), .lit (.int .u8 33), .lit (.int .u8 30), .lit (.int .u8 24), .lit (.int .u8 18), .lit (.int .u8 12), .lit (.int .u8 5), .lit (.int .u8 63), .lit (.int .u8 55), .lit (.int .u8 48), .lit (.int .u8 27), .lit (.int .u8 60), .lit (.int .u8 41), .lit (.int .u8 37), .lit (.int .u8 16), .lit (.int .u8 46), .lit (.int .u8 35), .lit (.int .u8 44), .lit (.int .u8 21), .lit (.int .u8 52), .lit (.int .u8 32), .lit (.int .u8 23), .lit (.int .u8 11), .lit (.int .u8 54), .lit (.int .u8 26), .lit (.int .u8 40), .lit (.int .u8 15), .lit (.int .u8 34), .lit (.int .u8 20), .lit (.int .u8 31), .lit (.int .u8 10), .lit (.int .u8 25), .lit (.int .u8 14), .lit (.int .u8 19), .lit (.int .u8 9), .lit (.int .u8 13), .lit (.int .u8 8), .lit (.int .u8 7), .lit (.int .u8 6)]
def laid_internal_strconv_uint64pow10 {H : Type} : DataW H := .agg [.lit (.int .u64 1), .lit (.int .u64 10), .lit (.int .u64 100), .lit (.int .u64 1000), .lit (.int .u64 10000), .lit (.int .u64 100000), .lit (.int .u64 1000000), .lit (.int .u64 10000000), .lit (.int .u64 100000000), .lit (.int .u64 1000000000), .lit (.int .u64 10000000000), .lit (.int .u64 100000000000), .lit (.int .u64 1000000000000), .lit (.int .u64 10000000000000), .lit (.int .u64 100000000000000), .lit (.int .u64 1000000000000000), .lit (.int .u64 10000000000000000), .lit (.int .u64 100000000000000000), .lit (.int .u64 1000000000000000000), .lit (.int .u64 10000000000000000000)]

/-- 'repriselaw10.LinearClauses': WHATEVER THE INPUT: true; the input reads as it did. -/
def linearClausesSpec : ChangeSpec := { name := "linearClauses", fn := fun _ => fun
  | [d1, d2] => { results := [.lit (.bool true)], args := [d1, d2] }
  | _ => none }
def linearClausesRow : OpenClaim := { program := "ytelnnehpbkainaagreatdoor", sum := "a818f4fddce28572e8d5ae3e2d26c1aa1d27ed699b4f4a6a34127a81c727efa1", func := "reprise/repriselaw10.LinearClauses", spec := "linearClauses", unfollowed := true, recurses := true, named := ["reprise/syntax.shapes", "strings.asciiSpace", "unicode.White_Space", "reprise/linear.calm"], loops := true, apart := false, laid := [("unicode.White_Space", laid_unicode_White_Space), ("strings.asciiSpace", laid_strings_asciiSpace), ("reprise/syntax.shapes", laid_reprise_syntax_shapes), ("reprise/linear.calm", laid_reprise_linear_calm)] }
def LinearClausesSaid : Prop := linearClausesRow.holds Tryz.pinned (OpenSpec.ofChange linearClausesSpec)

/-- ITS FALSE NEIGHBOUR: 'it returns false'. Refute it at one input. -/
def linearClausesWrong : ChangeSpec := { name := "linearClauses", fn := fun _ => fun
  | [d1, d2] => { results := [.lit (.bool false)], args := [d1, d2] }
  | _ => none }
def LinearClausesWrongFalsely : Prop := linearClausesRow.holds Tryz.pinned (OpenSpec.ofChange linearClausesWrong)

/-- 'repriselaw10.LinearExprs': WHATEVER THE INPUT: true; the input reads as it did. -/
def linearExprsSpec : ChangeSpec := { name := "linearExprs", fn := fun _ => fun
  | [d1, d2] => { results := [.lit (.bool true)], args := [d1, d2] }
  | _ => none }
def linearExprsRow : OpenClaim := { program := "ytelnnehpbkainaagreatdoor", sum := "a818f4fddce28572e8d5ae3e2d26c1aa1d27ed699b4f4a6a34127a81c727efa1", func := "reprise/repriselaw10.LinearExprs", spec := "linearExprs", unfollowed := true, recurses := true, named := ["strings.asciiSpace", "unicode.White_Space", "reprise/syntax.shapes", "reprise/linear.calm"], loops := true, apart := false, laid := [("unicode.White_Space", laid_unicode_White_Space), ("strings.asciiSpace", laid_strings_asciiSpace), ("reprise/syntax.shapes", laid_reprise_syntax_shapes), ("reprise/linear.calm", laid_reprise_linear_calm)] }
def LinearExprsSaid : Prop := linearExprsRow.holds Tryz.pinned (OpenSpec.ofChange linearExprsSpec)

/-- ITS FALSE NEIGHBOUR: 'it returns false'. Refute it at one input. -/
def linearExprsWrong : ChangeSpec := { name := "linearExprs", fn := fun _ => fun
  | [d1, d2] => { results := [.lit (.bool false)], args := [d1, d2] }
  | _ => none }
def LinearExprsWrongFalsely : Prop := linearExprsRow.holds Tryz.pinned (OpenSpec.ofChange linearExprsWrong)

/-- 'repriselaw10.LinearChecks': WHATEVER THE INPUT: true; the input reads as it did. -/
def linearChecksSpec : ChangeSpec := { name := "linearChecks", fn := fun _ => fun
  | [d] => { results := [.lit (.bool true)], args := [d] }
  | _ => none }
def linearChecksRow : OpenClaim := { program := "ytelnnehpbkainaagreatdoor", sum := "a818f4fddce28572e8d5ae3e2d26c1aa1d27ed699b4f4a6a34127a81c727efa1", func := "reprise/repriselaw10.LinearChecks", spec := "linearChecks", unfollowed := true, recurses := true, named := ["strings.asciiSpace", "unicode.White_Space", "reprise/syntax.shapes", "reprise/linear.calm"], loops := true, apart := false, laid := [("unicode.White_Space", laid_unicode_White_Space), ("strings.asciiSpace", laid_strings_asciiSpace), ("reprise/syntax.shapes", laid_reprise_syntax_shapes), ("reprise/linear.calm", laid_reprise_linear_calm)] }
def LinearChecksSaid : Prop := linearChecksRow.holds Tryz.pinned (OpenSpec.ofChange linearChecksSpec)

/-- ITS FALSE NEIGHBOUR: 'it returns false'. Refute it at one input. -/
def linearChecksWrong : ChangeSpec := { name := "linearChecks", fn := fun _ => fun
  | [d] => { results := [.lit (.bool false)], args := [d] }
  | _ => none }
def LinearChecksWrongFalsely : Prop := linearChecksRow.holds Tryz.pinned (OpenSpec.ofChange linearChecksWrong)

/-- 'repriselaw10.LinearKnown': WHATEVER THE INPUT: true; the input reads as it did. -/
def linearKnownSpec : ChangeSpec := { name := "linearKnown", fn := fun _ => fun
  | [] => { results := [.lit (.bool true)], args := [] }
  | _ => none }
def linearKnownRow : OpenClaim := { program := "ytelnnehpbkainaagreatdoor", sum := "a818f4fddce28572e8d5ae3e2d26c1aa1d27ed699b4f4a6a34127a81c727efa1", func := "reprise/repriselaw10.LinearKnown", spec := "linearKnown", unfollowed := true, recurses := true, named := ["reprise/syntax.shapes", "strings.asciiSpace", "unicode.White_Space", "reprise/linear.calm"], apart := false, laid := [("unicode.White_Space", laid_unicode_White_Space), ("strings.asciiSpace", laid_strings_asciiSpace), ("reprise/syntax.shapes", laid_reprise_syntax_shapes), ("reprise/linear.calm", laid_reprise_linear_calm)] }
def LinearKnownSaid : Prop := linearKnownRow.holds Tryz.pinned (OpenSpec.ofChange linearKnownSpec)

/-- ITS FALSE NEIGHBOUR: 'it returns false'. Refute it at one input. -/
def linearKnownWrong : ChangeSpec := { name := "linearKnown", fn := fun _ => fun
  | [] => { results := [.lit (.bool false)], args := [] }
  | _ => none }
def LinearKnownWrongFalsely : Prop := linearKnownRow.holds Tryz.pinned (OpenSpec.ofChange linearKnownWrong)

/-- 'repriselaw10.LinearSites': WHATEVER THE INPUT: true; the input reads as it did. -/
def linearSitesSpec : ChangeSpec := { name := "linearSites", fn := fun _ => fun
  | [d1, d2] => { results := [.lit (.bool true)], args := [d1, d2] }
  | _ => none }
def linearSitesRow : OpenClaim := { program := "ytelnnehpbkainaagreatdoor", sum := "a818f4fddce28572e8d5ae3e2d26c1aa1d27ed699b4f4a6a34127a81c727efa1", func := "reprise/repriselaw10.LinearSites", spec := "linearSites", unfollowed := true, recurses := true, named := ["reprise/syntax.shapes", "strings.asciiSpace", "unicode.White_Space", "reprise/linear.calm"], loops := true, apart := false, laid := [("unicode.White_Space", laid_unicode_White_Space), ("strings.asciiSpace", laid_strings_asciiSpace), ("reprise/syntax.shapes", laid_reprise_syntax_shapes), ("reprise/linear.calm", laid_reprise_linear_calm)] }
def LinearSitesSaid : Prop := linearSitesRow.holds Tryz.pinned (OpenSpec.ofChange linearSitesSpec)

/-- ITS FALSE NEIGHBOUR: 'it returns false'. Refute it at one input. -/
def linearSitesWrong : ChangeSpec := { name := "linearSites", fn := fun _ => fun
  | [d1, d2] => { results := [.lit (.bool false)], args := [d1, d2] }
  | _ => none }
def LinearSitesWrongFalsely : Prop := linearSitesRow.holds Tryz.pinned (OpenSpec.ofChange linearSitesWrong)

/-- 'repriselaw10.LinearParts': WHATEVER THE INPUT: true; the input reads as it did. -/
def linearPartsSpec : ChangeSpec := { name := "linearParts", fn := fun _ => fun
  | [d1, d2] => { results := [.lit (.bool true)], args := [d1, d2] }
  | _ => none }
def linearPartsRow : OpenClaim := { program := "ytelnnehpbkainaagreatdoor", sum := "a818f4fddce28572e8d5ae3e2d26c1aa1d27ed699b4f4a6a34127a81c727efa1", func := "reprise/repriselaw10.LinearParts", spec := "linearParts", unfollowed := true, recurses := true, named := ["strings.asciiSpace", "unicode.White_Space", "reprise/syntax.shapes", "reprise/linear.calm"], loops := true, apart := false, laid := [("unicode.White_Space", laid_unicode_White_Space), ("strings.asciiSpace", laid_strings_asciiSpace), ("reprise/syntax.shapes", laid_reprise_syntax_shapes), ("reprise/linear.calm", laid_reprise_linear_calm)] }
def LinearPartsSaid : Prop := linearPartsRow.holds Tryz.pinned (OpenSpec.ofChange linearPartsSpec)

/-- ITS FALSE NEIGHBOUR: 'it returns false'. Refute it at one input. -/
def linearPartsWrong : ChangeSpec := { name := "linearParts", fn := fun _ => fun
  | [d1, d2] => { results := [.lit (.bool false)], args := [d1, d2] }
  | _ => none }
def LinearPartsWrongFalsely : Prop := linearPartsRow.holds Tryz.pinned (OpenSpec.ofChange linearPartsWrong)

/-- 'repriselaw10.LinearTail': WHATEVER THE INPUT: true; the input reads as it did. -/
def linearTailSpec : ChangeSpec := { name := "linearTail", fn := fun _ => fun
  | [d1, d2, d3] => { results := [.lit (.bool true)], args := [d1, d2, d3] }
  | _ => none }
def linearTailRow : OpenClaim := { program := "ytelnnehpbkainaagreatdoor", sum := "a818f4fddce28572e8d5ae3e2d26c1aa1d27ed699b4f4a6a34127a81c727efa1", func := "reprise/repriselaw10.LinearTail", spec := "linearTail", unfollowed := true, recurses := true, named := ["reprise/syntax.shapes", "strings.asciiSpace", "unicode.White_Space", "reprise/linear.calm"], loops := true, apart := false, laid := [("unicode.White_Space", laid_unicode_White_Space), ("strings.asciiSpace", laid_strings_asciiSpace), ("reprise/syntax.shapes", laid_reprise_syntax_shapes), ("reprise/linear.calm", laid_reprise_linear_calm)] }
def LinearTailSaid : Prop := linearTailRow.holds Tryz.pinned (OpenSpec.ofChange linearTailSpec)

/-- ITS FALSE NEIGHBOUR: 'it returns false'. Refute it at one input. -/
def linearTailWrong : ChangeSpec := { name := "linearTail", fn := fun _ => fun
  | [d1, d2, d3] => { results := [.lit (.bool false)], args := [d1, d2, d3] }
  | _ => none }
def LinearTailWrongFalsely : Prop := linearTailRow.holds Tryz.pinned (OpenSpec.ofChange linearTailWrong)

/-- 'repriselaw10.LinearOnce': WHATEVER THE INPUT: true; the input reads as it did. -/
def linearOnceSpec : ChangeSpec := { name := "linearOnce", fn := fun _ => fun
  | [d1, d2] => { results := [.lit (.bool true)], args := [d1, d2] }
  | _ => none }
def linearOnceRow : OpenClaim := { program := "ytelnnehpbkainaagreatdoor", sum := "a818f4fddce28572e8d5ae3e2d26c1aa1d27ed699b4f4a6a34127a81c727efa1", func := "reprise/repriselaw10.LinearOnce", spec := "linearOnce", unfollowed := true, recurses := true, named := ["reprise/syntax.shapes", "strings.asciiSpace", "unicode.White_Space", "reprise/linear.calm"], loops := true, apart := false, laid := [("unicode.White_Space", laid_unicode_White_Space), ("strings.asciiSpace", laid_strings_asciiSpace), ("reprise/syntax.shapes", laid_reprise_syntax_shapes), ("reprise/linear.calm", laid_reprise_linear_calm)] }
def LinearOnceSaid : Prop := linearOnceRow.holds Tryz.pinned (OpenSpec.ofChange linearOnceSpec)

/-- ITS FALSE NEIGHBOUR: 'it returns false'. Refute it at one input. -/
def linearOnceWrong : ChangeSpec := { name := "linearOnce", fn := fun _ => fun
  | [d1, d2] => { results := [.lit (.bool false)], args := [d1, d2] }
  | _ => none }
def LinearOnceWrongFalsely : Prop := linearOnceRow.holds Tryz.pinned (OpenSpec.ofChange linearOnceWrong)

/-- 'repriselaw10.LinearWrapped': WHATEVER THE INPUT: true; the input reads as it did. -/
def linearWrappedSpec : ChangeSpec := { name := "linearWrapped", fn := fun _ => fun
  | [d1, d2, d3] => { results := [.lit (.bool true)], args := [d1, d2, d3] }
  | _ => none }
def linearWrappedRow : OpenClaim := { program := "ytelnnehpbkainaagreatdoor", sum := "a818f4fddce28572e8d5ae3e2d26c1aa1d27ed699b4f4a6a34127a81c727efa1", func := "reprise/repriselaw10.LinearWrapped", spec := "linearWrapped", unfollowed := true, recurses := true, named := ["reprise/syntax.shapes", "strings.asciiSpace", "unicode.White_Space", "reprise/linear.calm", "internal/strconv.uint64pow10", "math/bits.deBruijn32tab", "math/bits.deBruijn64tab"], loops := true, apart := false, laid := [("math/bits.deBruijn32tab", laid_math_bits_deBruijn32tab), ("math/bits.deBruijn64tab", laid_math_bits_deBruijn64tab), ("internal/strconv.uint64pow10", laid_internal_strconv_uint64pow10), ("unicode.White_Space", laid_unicode_White_Space), ("strings.asciiSpace", laid_strings_asciiSpace), ("reprise/syntax.shapes", laid_reprise_syntax_shapes), ("reprise/linear.calm", laid_reprise_linear_calm)] }
def LinearWrappedSaid : Prop := linearWrappedRow.holds Tryz.pinned (OpenSpec.ofChange linearWrappedSpec)

/-- ITS FALSE NEIGHBOUR: 'it returns false'. Refute it at one input. -/
def linearWrappedWrong : ChangeSpec := { name := "linearWrapped", fn := fun _ => fun
  | [d1, d2, d3] => { results := [.lit (.bool false)], args := [d1, d2, d3] }
  | _ => none }
def LinearWrappedWrongFalsely : Prop := linearWrappedRow.holds Tryz.pinned (OpenSpec.ofChange linearWrappedWrong)

/-- 'repriselaw10.LinearFlaw': WHATEVER THE INPUT: true; the input reads as it did. -/
def linearFlawSpec : ChangeSpec := { name := "linearFlaw", fn := fun _ => fun
  | [d1, d2] => { results := [.lit (.bool true)], args := [d1, d2] }
  | _ => none }
def linearFlawRow : OpenClaim := { program := "ytelnnehpbkainaagreatdoor", sum := "a818f4fddce28572e8d5ae3e2d26c1aa1d27ed699b4f4a6a34127a81c727efa1", func := "reprise/repriselaw10.LinearFlaw", spec := "linearFlaw", unfollowed := true, recurses := true, named := ["reprise/syntax.shapes", "strings.asciiSpace", "unicode.White_Space", "reprise/linear.calm", "internal/strconv.uint64pow10", "math/bits.deBruijn32tab", "math/bits.deBruijn64tab"], loops := true, apart := false, laid := [("math/bits.deBruijn32tab", laid_math_bits_deBruijn32tab), ("math/bits.deBruijn64tab", laid_math_bits_deBruijn64tab), ("internal/strconv.uint64pow10", laid_internal_strconv_uint64pow10), ("unicode.White_Space", laid_unicode_White_Space), ("strings.asciiSpace", laid_strings_asciiSpace), ("reprise/syntax.shapes", laid_reprise_syntax_shapes), ("reprise/linear.calm", laid_reprise_linear_calm)] }
def LinearFlawSaid : Prop := linearFlawRow.holds Tryz.pinned (OpenSpec.ofChange linearFlawSpec)

/-- ITS FALSE NEIGHBOUR: 'it returns false'. Refute it at one input. -/
def linearFlawWrong : ChangeSpec := { name := "linearFlaw", fn := fun _ => fun
  | [d1, d2] => { results := [.lit (.bool false)], args := [d1, d2] }
  | _ => none }
def LinearFlawWrongFalsely : Prop := linearFlawRow.holds Tryz.pinned (OpenSpec.ofChange linearFlawWrong)

/- THE SECOND FORM. 'bulk': how many values and letters a reading holds, each counted each time it is reached (what is shared counts as often as it is met; a slice's spare places count too). A statement '..UptoSaid' is the law's where the arguments, and the package variables that the reading takes, are together of bulk at most 1048576: NARROWER than '..Said'. Prove '..Said' where nothing that the law and all that it calls make is longer than what came in: it says more and counts as full. Else prove '..UptoSaid'. A law counts once. -/
mutual
def uptoBulk {H : Type} : DataW H → Nat
  | .lit (.string bytes) => bytes.length + 1
  | .lit _ => 1
  | .nil => 1
  | .ptr d => uptoBulk d + 1
  | .slice elems spare => uptoBulkAll elems + uptoBulkAll spare + 1
  | .agg parts => uptoBulkAll parts + 1
  | .iface _ d => uptoBulk d + 1
  | .map entries => uptoBulkEntries entries + 1
  | .held _ => 1
def uptoBulkAll {H : Type} : List (DataW H) → Nat
  | [] => 0
  | d :: r => uptoBulk d + uptoBulkAll r
def uptoBulkEntries {H : Type} : List (Lit × DataW H) → Nat
  | [] => 0
  | x :: r => uptoBulkEntry x + uptoBulkEntries r
def uptoBulkEntry {H : Type} : Lit × DataW H → Nat
  | (.string bytes, d) => bytes.length + uptoBulk d + 1
  | (_, d) => uptoBulk d + 1
 end
def uptoSmall : (H : Type) → List (DataW H) → Bool := fun _ ds => decide (uptoBulkAll ds ≤ 1048576)
def OpenSpec.upto (s : _root_.Go.ChangeSpec) : _root_.Go.OpenSpec := { _root_.Go.OpenSpec.ofChange s with cond := some uptoSmall }

/-- 'repriselaw10.LinearClauses', WHERE WHAT IT READS IS OF BULK AT MOST 1048576: true; the input reads as it did. -/
def linearClausesUptoRow : OpenClaim := { program := "ytelnnehpbkainaagreatdoor", sum := "a818f4fddce28572e8d5ae3e2d26c1aa1d27ed699b4f4a6a34127a81c727efa1", func := "reprise/repriselaw10.LinearClauses", spec := "linearClauses", unfollowed := true, recurses := true, named := ["reprise/syntax.shapes", "strings.asciiSpace", "unicode.White_Space", "reprise/linear.calm"], loops := true, apart := false, laid := [("unicode.White_Space", laid_unicode_White_Space), ("strings.asciiSpace", laid_strings_asciiSpace), ("reprise/syntax.shapes", laid_reprise_syntax_shapes), ("reprise/linear.calm", laid_reprise_linear_calm)], narrowed := true }
def LinearClausesUptoSaid : Prop := linearClausesUptoRow.holds Tryz.pinned (OpenSpec.upto linearClausesSpec)

/-- 'repriselaw10.LinearExprs', WHERE WHAT IT READS IS OF BULK AT MOST 1048576: true; the input reads as it did. -/
def linearExprsUptoRow : OpenClaim := { program := "ytelnnehpbkainaagreatdoor", sum := "a818f4fddce28572e8d5ae3e2d26c1aa1d27ed699b4f4a6a34127a81c727efa1", func := "reprise/repriselaw10.LinearExprs", spec := "linearExprs", unfollowed := true, recurses := true, named := ["strings.asciiSpace", "unicode.White_Space", "reprise/syntax.shapes", "reprise/linear.calm"], loops := true, apart := false, laid := [("unicode.White_Space", laid_unicode_White_Space), ("strings.asciiSpace", laid_strings_asciiSpace), ("reprise/syntax.shapes", laid_reprise_syntax_shapes), ("reprise/linear.calm", laid_reprise_linear_calm)], narrowed := true }
def LinearExprsUptoSaid : Prop := linearExprsUptoRow.holds Tryz.pinned (OpenSpec.upto linearExprsSpec)

/-- 'repriselaw10.LinearChecks', WHERE WHAT IT READS IS OF BULK AT MOST 1048576: true; the input reads as it did. -/
def linearChecksUptoRow : OpenClaim := { program := "ytelnnehpbkainaagreatdoor", sum := "a818f4fddce28572e8d5ae3e2d26c1aa1d27ed699b4f4a6a34127a81c727efa1", func := "reprise/repriselaw10.LinearChecks", spec := "linearChecks", unfollowed := true, recurses := true, named := ["strings.asciiSpace", "unicode.White_Space", "reprise/syntax.shapes", "reprise/linear.calm"], loops := true, apart := false, laid := [("unicode.White_Space", laid_unicode_White_Space), ("strings.asciiSpace", laid_strings_asciiSpace), ("reprise/syntax.shapes", laid_reprise_syntax_shapes), ("reprise/linear.calm", laid_reprise_linear_calm)], narrowed := true }
def LinearChecksUptoSaid : Prop := linearChecksUptoRow.holds Tryz.pinned (OpenSpec.upto linearChecksSpec)

/-- 'repriselaw10.LinearKnown', WHERE WHAT IT READS IS OF BULK AT MOST 1048576: true; the input reads as it did. -/
def linearKnownUptoRow : OpenClaim := { program := "ytelnnehpbkainaagreatdoor", sum := "a818f4fddce28572e8d5ae3e2d26c1aa1d27ed699b4f4a6a34127a81c727efa1", func := "reprise/repriselaw10.LinearKnown", spec := "linearKnown", unfollowed := true, recurses := true, named := ["reprise/syntax.shapes", "strings.asciiSpace", "unicode.White_Space", "reprise/linear.calm"], apart := false, laid := [("unicode.White_Space", laid_unicode_White_Space), ("strings.asciiSpace", laid_strings_asciiSpace), ("reprise/syntax.shapes", laid_reprise_syntax_shapes), ("reprise/linear.calm", laid_reprise_linear_calm)], narrowed := true }
def LinearKnownUptoSaid : Prop := linearKnownUptoRow.holds Tryz.pinned (OpenSpec.upto linearKnownSpec)

/-- 'repriselaw10.LinearSites', WHERE WHAT IT READS IS OF BULK AT MOST 1048576: true; the input reads as it did. -/
def linearSitesUptoRow : OpenClaim := { program := "ytelnnehpbkainaagreatdoor", sum := "a818f4fddce28572e8d5ae3e2d26c1aa1d27ed699b4f4a6a34127a81c727efa1", func := "reprise/repriselaw10.LinearSites", spec := "linearSites", unfollowed := true, recurses := true, named := ["reprise/syntax.shapes", "strings.asciiSpace", "unicode.White_Space", "reprise/linear.calm"], loops := true, apart := false, laid := [("unicode.White_Space", laid_unicode_White_Space), ("strings.asciiSpace", laid_strings_asciiSpace), ("reprise/syntax.shapes", laid_reprise_syntax_shapes), ("reprise/linear.calm", laid_reprise_linear_calm)], narrowed := true }
def LinearSitesUptoSaid : Prop := linearSitesUptoRow.holds Tryz.pinned (OpenSpec.upto linearSitesSpec)

/-- 'repriselaw10.LinearParts', WHERE WHAT IT READS IS OF BULK AT MOST 1048576: true; the input reads as it did. -/
def linearPartsUptoRow : OpenClaim := { program := "ytelnnehpbkainaagreatdoor", sum := "a818f4fddce28572e8d5ae3e2d26c1aa1d27ed699b4f4a6a34127a81c727efa1", func := "reprise/repriselaw10.LinearParts", spec := "linearParts", unfollowed := true, recurses := true, named := ["strings.asciiSpace", "unicode.White_Space", "reprise/syntax.shapes", "reprise/linear.calm"], loops := true, apart := false, laid := [("unicode.White_Space", laid_unicode_White_Space), ("strings.asciiSpace", laid_strings_asciiSpace), ("reprise/syntax.shapes", laid_reprise_syntax_shapes), ("reprise/linear.calm", laid_reprise_linear_calm)], narrowed := true }
def LinearPartsUptoSaid : Prop := linearPartsUptoRow.holds Tryz.pinned (OpenSpec.upto linearPartsSpec)

/-- 'repriselaw10.LinearTail', WHERE WHAT IT READS IS OF BULK AT MOST 1048576: true; the input reads as it did. -/
def linearTailUptoRow : OpenClaim := { program := "ytelnnehpbkainaagreatdoor", sum := "a818f4fddce28572e8d5ae3e2d26c1aa1d27ed699b4f4a6a34127a81c727efa1", func := "reprise/repriselaw10.LinearTail", spec := "linearTail", unfollowed := true, recurses := true, named := ["reprise/syntax.shapes", "strings.asciiSpace", "unicode.White_Space", "reprise/linear.calm"], loops := true, apart := false, laid := [("unicode.White_Space", laid_unicode_White_Space), ("strings.asciiSpace", laid_strings_asciiSpace), ("reprise/syntax.shapes", laid_reprise_syntax_shapes), ("reprise/linear.calm", laid_reprise_linear_calm)], narrowed := true }
def LinearTailUptoSaid : Prop := linearTailUptoRow.holds Tryz.pinned (OpenSpec.upto linearTailSpec)

/-- 'repriselaw10.LinearOnce', WHERE WHAT IT READS IS OF BULK AT MOST 1048576: true; the input reads as it did. -/
def linearOnceUptoRow : OpenClaim := { program := "ytelnnehpbkainaagreatdoor", sum := "a818f4fddce28572e8d5ae3e2d26c1aa1d27ed699b4f4a6a34127a81c727efa1", func := "reprise/repriselaw10.LinearOnce", spec := "linearOnce", unfollowed := true, recurses := true, named := ["reprise/syntax.shapes", "strings.asciiSpace", "unicode.White_Space", "reprise/linear.calm"], loops := true, apart := false, laid := [("unicode.White_Space", laid_unicode_White_Space), ("strings.asciiSpace", laid_strings_asciiSpace), ("reprise/syntax.shapes", laid_reprise_syntax_shapes), ("reprise/linear.calm", laid_reprise_linear_calm)], narrowed := true }
def LinearOnceUptoSaid : Prop := linearOnceUptoRow.holds Tryz.pinned (OpenSpec.upto linearOnceSpec)

/-- 'repriselaw10.LinearWrapped', WHERE WHAT IT READS IS OF BULK AT MOST 1048576: true; the input reads as it did. -/
def linearWrappedUptoRow : OpenClaim := { program := "ytelnnehpbkainaagreatdoor", sum := "a818f4fddce28572e8d5ae3e2d26c1aa1d27ed699b4f4a6a34127a81c727efa1", func := "reprise/repriselaw10.LinearWrapped", spec := "linearWrapped", unfollowed := true, recurses := true, named := ["reprise/syntax.shapes", "strings.asciiSpace", "unicode.White_Space", "reprise/linear.calm", "internal/strconv.uint64pow10", "math/bits.deBruijn32tab", "math/bits.deBruijn64tab"], loops := true, apart := false, laid := [("math/bits.deBruijn32tab", laid_math_bits_deBruijn32tab), ("math/bits.deBruijn64tab", laid_math_bits_deBruijn64tab), ("internal/strconv.uint64pow10", laid_internal_strconv_uint64pow10), ("unicode.White_Space", laid_unicode_White_Space), ("strings.asciiSpace", laid_strings_asciiSpace), ("reprise/syntax.shapes", laid_reprise_syntax_shapes), ("reprise/linear.calm", laid_reprise_linear_calm)], narrowed := true }
def LinearWrappedUptoSaid : Prop := linearWrappedUptoRow.holds Tryz.pinned (OpenSpec.upto linearWrappedSpec)

/-- 'repriselaw10.LinearFlaw', WHERE WHAT IT READS IS OF BULK AT MOST 1048576: true; the input reads as it did. -/
def linearFlawUptoRow : OpenClaim := { program := "ytelnnehpbkainaagreatdoor", sum := "a818f4fddce28572e8d5ae3e2d26c1aa1d27ed699b4f4a6a34127a81c727efa1", func := "reprise/repriselaw10.LinearFlaw", spec := "linearFlaw", unfollowed := true, recurses := true, named := ["reprise/syntax.shapes", "strings.asciiSpace", "unicode.White_Space", "reprise/linear.calm", "internal/strconv.uint64pow10", "math/bits.deBruijn32tab", "math/bits.deBruijn64tab"], loops := true, apart := false, laid := [("math/bits.deBruijn32tab", laid_math_bits_deBruijn32tab), ("math/bits.deBruijn64tab", laid_math_bits_deBruijn64tab), ("internal/strconv.uint64pow10", laid_internal_strconv_uint64pow10), ("unicode.White_Space", laid_unicode_White_Space), ("strings.asciiSpace", laid_strings_asciiSpace), ("reprise/syntax.shapes", laid_reprise_syntax_shapes), ("reprise/linear.calm", laid_reprise_linear_calm)], narrowed := true }
def LinearFlawUptoSaid : Prop := linearFlawUptoRow.holds Tryz.pinned (OpenSpec.upto linearFlawSpec)

end Rows
end Go.Proofs.YtelnnehpbkainaaGreatDoor
