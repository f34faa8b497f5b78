/- 'reprise/repriselaw17.VerifyKnown': THE STATEMENT, out of what the interpreter answers at all typed arguments. -/
import Derived.Test.YthmlommnlihgcaaGreatDoorLawVerifyKnown
import Derived.Test.YthmlommnlihgcaaGreatDoorCodeOk
import Derived.Test.YthmlommnlihgcaaGreatDoorGl
import Derived.Test.YthmlommnlihgcaaGreatDoorRows
import Derived.Test.YthmlommnlihgcaaGreatDoorTie
import Derived.Test.YthmlommnlihgcaaGreatDoorCards
import Derived.ProofKit
import Derived.OpenShut
import Derived.LaidMore
import Derived.Lay
import Derived.SevenTiedAt
import Derived.Stop.Joined
import Derived.Deep.DeepHandedRow
import Derived.JoinedCond
namespace Go.Proofs.YthmlommnlihgcaaGreatDoor
open Go Go.Fw Go.ChangeShapes Go.WideShapes Go.ChangeAt Go.RowKit
set_option maxRecDepth 100000
theorem verifyKnown_own : ownKnob Tryz.prog.godebug = none := by kernel_rfl
def verifyKnown_tys : List TypeId := [233, 237, 234, 240, 238, 235, 243, 102, 3, 226, 5, 206, 205, 4]
theorem verifyKnown_lifted (os : Os) (started : os.Started) (H : Type) (enc : TypeId × Value → H) :
    ReturnsInHanded {} Tryz.checked os 3 .any (fun w args => (Rows.verifyKnownSpec.pre enc Tryz.prog Tryz.f3 Rows.verifyKnownRow.domain false w args ∧ laidMetH Tryz.prog Rows.verifyKnownRow.laid w) ∧ sizedMet enc Tryz.prog Tryz.f3 (OpenSpec.ofChange Rows.verifyKnownSpec) false w args)
      (Rows.verifyKnownSpec.post enc Tryz.prog Tryz.f3 false true false false) := by
  refine returnsInHanded_of_change_and (C := Tryz.checked) (X := fun w _ => laidMetH Tryz.prog Rows.verifyKnownRow.laid w) (fun _ _ _ hh h => h.of_heap hh) verifyKnown_own started (by kernel_rfl) Tryz.func3
    (ChangeSpec.witness_shaped (enc := enc) (C := Tryz.checked) (os := os) (X := fun w _ => laidMetH Tryz.prog Rows.verifyKnownRow.laid w) false (World.laidAll Tryz.prog os Rows.verifyKnownRow.laid) #[] 8 (World.laidAll_os _ _ _)
      (World.shaped_of_ZipB (by kernel_rfl) (by kernel_rfl)) (by kernel_rfl) (by kernel_rfl) (by kernel_rfl)
      (by rw [MakeChecks.laidMetH_plain _ _ _ (by kernel_rfl)]; exact laidMet_laidAll _ (by kernel_rfl) (by kernel_rfl))) ?_
  intro W base args ds gs before hval0 hW hc _ hL _
  have hval : ∀ (j : Nat) t v, Tryz.f3.params[j]? = some t → args[j]? = some v → Value.okWide Tryz.prog W .any base t v := hval0
  have hL2 : laidMetH Tryz.prog Rows.verifyKnownRow.laid W := hL
  rw [MakeChecks.laidMetH_plain _ _ _ (by kernel_rfl)] at hL2
  obtain ⟨lps, hLV, _⟩ := hL2
  have hts : verifyKnown_tys.all (tyOk Tryz.prog verifyKnown_tys) = true := by kernel_rfl
  have hg : GlobOk (progOf Code.tab gl0) (G0 W) := fun g => laid_ok hts (by kernel_rfl) (by kernel_rfl) hLV g
  exact law_contract (P := Tryz.prog) (P' := progOf Code.tab gl0) (ts := verifyKnown_tys) (progOf_ok Code.tab_ok (by kernel_rfl) (by kernel_rfl)) progOf_prim (f := 3) (fn := Tryz.f3) (af := Code.c3) (by kernel_rfl) hts (by kernel_rfl) (by kernel_rfl) (by kernel_rfl) (tb := 4) (by kernel_rfl) (by kernel_rfl) (s := Rows.verifyKnownSpec) rfl
    (fun ds hl => by
      have hl' : ds.length = 0 := hl
      obtain rfl := List.length_eq_zero_iff.1 hl'
      simp [Rows.verifyKnownSpec])
    (fun avs h => verifyKnown_law avs h) hval hW hg
theorem verifyKnown_holds : Rows.VerifyKnownSaid :=
  OpenClaim.holds_of_wide 3 Tryz.f3 rfl rfl rfl rfl rfl rfl rfl ⟨rfl, rfl, rfl, rfl, rfl⟩ rfl rfl rfl rfl rfl (by kernel_rfl) Tryz.func3 (by kernel_rfl)
    (of_decide_eq_true (by kernel_rfl)) (by unfold Func.isWrapper; first | (rw [if_pos (by decide +kernel)]; kernel_rfl) | (rw [if_neg (by decide +kernel)]; exact ⟨rfl, rfl⟩))
    (fun os started H enc _ => by first | exact verifyKnown_lifted os started H enc | (rw [OpenClaim.pre_eq_preRow]; exact verifyKnown_lifted os started H enc))
theorem verifyKnown_card : Rows.VerifyKnownCardSaid :=
  Claim7.holds_tied_plain_at .later [] [.listed, .data, .data] true (true, "1f95cf28ba0710c035c9ebb5bbbc2600d6719a2f6179514111aea40d8a4c1dc9") true verifyKnown_holds (fun _ h => by cases h) (by kernel_rfl) (fun _ h => by cases h) verifyKnown_row_tie rfl ⟨rfl, rfl⟩ (by kernel_rfl) rfl
    (fun f fn hf hfn => by
      obtain rfl : f = 3 := Option.some.inj ((show Tryz.prog.funcNamed "reprise/repriselaw17.VerifyKnown" = some 3 by kernel_rfl).symm.trans hf) |>.symm
      obtain rfl : fn = Tryz.f3 := (Option.some.inj (Tryz.func3.symm.trans hfn)).symm
      exact ⟨by kernel_rfl, fun j t ht => by
        have hm : t ∈ [] := by
          have hq : Tryz.f3.params.toList = [] := by kernel_rfl
          rw [← hq]; exact Array.mem_toList_iff.2 (Array.mem_of_getElem? ht)
        have hall : (([] : List TypeId).all fun u => !Tryz.prog.wantsStandIn u) = true := by kernel_rfl
        exact (show Tryz.prog.wantsStandIn t = false by simpa using List.all_eq_true.1 hall t hm)⟩)
    (by kernel_rfl)
end Go.Proofs.YthmlommnlihgcaaGreatDoor
