/- 'reprise/repriselaw10.LinearKnown': THE STATEMENT, out of what the interpreter answers at all typed arguments. -/
import Derived.Test.YtelnnehpbkainaaGreatDoorLawLinearKnown
import Derived.Test.YtelnnehpbkainaaGreatDoorCodeOk
import Derived.Test.YtelnnehpbkainaaGreatDoorGl
import Derived.Test.YtelnnehpbkainaaGreatDoorRows
import Derived.Test.YtelnnehpbkainaaGreatDoorTie
import Derived.Test.YtelnnehpbkainaaGreatDoorCards
import Derived.ProofKit
import Derived.OpenShut
import Derived.LaidMore
import Derived.Lay
import Derived.SevenTiedAt
import Derived.Stop.Joined
namespace Go.Proofs.YtelnnehpbkainaaGreatDoor
open Go Go.Fw Go.ChangeShapes Go.WideShapes Go.ChangeAt Go.RowKit
set_option maxRecDepth 100000
theorem linearKnown_own : ownKnob Tryz.prog.godebug = none := by kernel_rfl
def linearKnown_tys : List TypeId := [266, 280, 277, 283, 281, 278, 286, 264, 3, 244, 5, 241, 240, 4, 154, 22]
theorem linearKnown_lifted (os : Os) (started : os.Started) (H : Type) (enc : TypeId × Value → H) :
    ReturnsInHanded {} Tryz.checked os 6 .any (fun w args => (Rows.linearKnownSpec.pre enc Tryz.prog Tryz.f6 Rows.linearKnownRow.domain false w args ∧ laidMetH Tryz.prog Rows.linearKnownRow.laid w) ∧ sizedMet enc Tryz.prog Tryz.f6 (OpenSpec.ofChange Rows.linearKnownSpec) false w args)
      (Rows.linearKnownSpec.post enc Tryz.prog Tryz.f6 false true false false) := by
  refine returnsInHanded_of_change_and (C := Tryz.checked) (X := fun w _ => laidMetH Tryz.prog Rows.linearKnownRow.laid w) (fun _ _ _ hh h => h.of_heap hh) linearKnown_own started (by kernel_rfl) Tryz.func6
    (ChangeSpec.witness_shaped (enc := enc) (C := Tryz.checked) (os := os) (X := fun w _ => laidMetH Tryz.prog Rows.linearKnownRow.laid w) false (World.laidAll Tryz.prog os Rows.linearKnownRow.laid) #[] 8 (World.laidAll_os _ _ _)
      (World.shaped_of_ZipB (by kernel_rfl) (by kernel_rfl)) (by kernel_rfl) (by kernel_rfl) (by kernel_rfl)
      (by rw [MakeChecks.laidMetH_plain _ _ _ (by kernel_rfl)]; exact laidMet_laidAll _ (by kernel_rfl) (by kernel_rfl))) ?_
  intro W base args ds gs before hval0 hW hc _ hL _
  have hval : ∀ (j : Nat) t v, Tryz.f6.params[j]? = some t → args[j]? = some v → Value.okWide Tryz.prog W .any base t v := hval0
  have hL2 : laidMetH Tryz.prog Rows.linearKnownRow.laid W := hL
  rw [MakeChecks.laidMetH_plain _ _ _ (by kernel_rfl)] at hL2
  obtain ⟨lps, hLV, _⟩ := hL2
  have hts : linearKnown_tys.all (tyOk Tryz.prog linearKnown_tys) = true := by kernel_rfl
  have hg : GlobOk (progOf Code.tab gl0) (G0 W) := fun g => laid_ok hts (by kernel_rfl) (by kernel_rfl) hLV g
  exact law_contract (P := Tryz.prog) (P' := progOf Code.tab gl0) (ts := linearKnown_tys) (progOf_ok Code.tab_ok (by kernel_rfl) (by kernel_rfl)) progOf_prim (f := 6) (fn := Tryz.f6) (af := Code.c6) (by kernel_rfl) hts (by kernel_rfl) (by kernel_rfl) (by kernel_rfl) (tb := 4) (by kernel_rfl) (by kernel_rfl) (s := Rows.linearKnownSpec) rfl
    (fun ds hl => by
      have hl' : ds.length = 0 := hl
      obtain rfl := List.length_eq_zero_iff.1 hl'
      simp [Rows.linearKnownSpec])
    (fun avs h => linearKnown_law avs h) hval hW hg
theorem linearKnown_holds : Rows.LinearKnownSaid :=
  OpenClaim.holds_of_wide 6 Tryz.f6 rfl rfl rfl rfl rfl rfl rfl ⟨rfl, rfl, rfl, rfl, rfl⟩ rfl rfl rfl rfl rfl (by kernel_rfl) Tryz.func6 (by kernel_rfl)
    (of_decide_eq_true (by kernel_rfl)) (by unfold Func.isWrapper; first | (rw [if_pos (by decide +kernel)]; kernel_rfl) | (rw [if_neg (by decide +kernel)]; exact ⟨rfl, rfl⟩))
    (fun os started H enc _ => linearKnown_lifted os started H enc)
theorem linearKnown_card : Rows.LinearKnownCardSaid :=
  Claim7.holds_tied_plain_at .later [] [.listed, .data, .data, .widerDeep] true (true, "798fd9b8000fda1d5b00c7d7626b4820eb45570a61c66c9fe5fb42989f4f2cbb") true linearKnown_holds (fun _ h => by cases h) (by kernel_rfl) (fun _ h => by cases h) linearKnown_row_tie rfl ⟨rfl, rfl⟩ (by kernel_rfl) rfl
    (fun f fn hf hfn => by
      obtain rfl : f = 6 := Option.some.inj ((show Tryz.prog.funcNamed "reprise/repriselaw10.LinearKnown" = some 6 by kernel_rfl).symm.trans hf) |>.symm
      obtain rfl : fn = Tryz.f6 := (Option.some.inj (Tryz.func6.symm.trans hfn)).symm
      exact ⟨by kernel_rfl, fun j t ht => by
        have hm : t ∈ [] := by
          have hq : Tryz.f6.params.toList = [] := by kernel_rfl
          rw [← hq]; exact Array.mem_toList_iff.2 (Array.mem_of_getElem? ht)
        have hall : (([] : List TypeId).all fun u => !Tryz.prog.wantsStandIn u) = true := by kernel_rfl
        exact (show Tryz.prog.wantsStandIn t = false by simpa using List.all_eq_true.1 hall t hm)⟩)
    (by kernel_rfl)
end Go.Proofs.YtelnnehpbkainaaGreatDoor
