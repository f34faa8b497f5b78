/- The framework, part 11: whatever the interpreter answers, the model answers. -/
import Derived.Test.YthmlommnlihgcaaGreatDoorFwDef
namespace Go.Fw
open Go
section
variable {P : Program} {B : Bs} {P' : AProg} {nt : Nat} {s : ASt} {w : World} {G : Gh} {H : Handler}

/-- The deferred calls, and the results behind them. -/
theorem runDs_ok (hH : HOk P P' H) {fn : Func} {env : Env} {tmps : Array Value} {R : Ending → World → Prop} : ∀ {as : List ADef} {ds : List Deferred} {m m' : DM} {s s' : ASt} {G : Gh} {w : World} {u : FrameMode}, DsOk G as ds → runDs H as m s = some (m', s') → Inv P B G s w →
    EnvOk G nt env tmps → GlobOk P' G → ModeOk G m u →
    (∀ G' w' u', G.le G' → Inv P B G' s' w' → EnvOk G' nt env tmps → ModeOk G' m' u' → LeavesIn (FV P) 0 P fn tmps R [] u' w') → LeavesInM (FV P) 0 P fn tmps R ds u w
  | [], ds, m, m', s, s', G, w, u, hD, h, hI, hE, hG, hM, hK => by
    cases hD
    simp only [runDs, Option.some.injEq, Prod.mk.injEq] at h
    obtain ⟨rfl, rfl⟩ := h
    exact hK G w u (.refl _) hI hE hM
  | .mark l :: as, ds, m, m', s, s', G, w, u, hD, h, hI, hE, hG, hM, hK => by
    cases hD with
    | @cons _ d _ ds hd hds =>
      obtain ⟨b, ht, hL⟩ := hd
      simp only [runDs] at h
      split at h
      · rename_i hl
        obtain ⟨o, ho, hok⟩ := hI.at hL hl
        have hok' : o = .deferred (some []) := hok
        subst hok'
        have hI2 : Inv P B G { s with blks := s.blks.set l .dead } (w.putObj b (.deferred none)) := hI.put hL trivial fun j x hx => by
          have := hI.m b j x hx
          simp [World.cell?, ho] at this
        refine ⟨by rintro rfl; cases m <;> exact hM, .inl ⟨b, _, ht, run_takeDeferred ho, ?_⟩⟩
        exact runDs_ok hH hds h hI2 hE hG hM hK
      · cases h
  | .call f args :: as, ds, m, m', s, s', G, w, u, hD, h, hI, hE, hG, hM, hK => by
    cases hD with
    | @cons _ d _ ds hd hds =>
      obtain ⟨cap, xs, ht, ha, hr⟩ := hd
      simp only [runDs] at h
      split at h
      · rename_i m1 s1 hc
        obtain ⟨h1, h2⟩ := hH.dcall f args m s m1 s1 hc B G w _ u hI hG hr hM
        have e1 : (xs ++ cap).toArray = xs.toArray ++ cap.toArray := by simp
        refine ⟨by rintro rfl; cases m <;> exact hM, .inr ⟨by simp [FV], .func f, cap.toArray, f, (xs ++ cap).toArray, ht, ?_, ?_, ?_⟩⟩
        · rw [ht, ha]
          show (callFunc f (xs.toArray ++ cap.toArray)).run P w = _
          rw [← e1]; exact h1
        · intro f' hf'
          rw [ht] at hf'
          simp only [Target.leads, Option.some.injEq] at hf'
          subst hf'
          exact callFunc_valid h1
        · refine h2.mono fun e u' w' hq => ?_
          obtain ⟨G1, hle, hI1, ⟨x, rfl⟩, hM1⟩ := hq
          exact runDs_ok hH (hds.mono hle) h hI1 (hE.mono hle) (hG.mono hle) hM1 fun G' w'' u'' hle' => hK G' w'' u'' (hle.trans hle')
      · cases h

theorem ExOk.mode {ex : AExit} {e : Exit} {m : DM} (h : (match ex with | .normal => some DM.ret | .ret => some DM.ret | .panic v => some (DM.pan v) | .exit _ => none) = some m) (hX : ExOk G ex e) :
    (∃ u, ModeOk G m u ∧ ((e = .normal ∨ e = .ret) ∧ u = .returning ∨ ∃ chain, e = .panic chain ∧ u = .panicking chain)) := by
  cases ex with
  | normal => cases h; cases e <;> first | exact hX.elim | exact ⟨.returning, trivial, .inl ⟨.inl rfl, rfl⟩⟩
  | ret => cases h; cases e <;> first | exact hX.elim | exact ⟨.returning, trivial, .inl ⟨.inr rfl, rfl⟩⟩
  | exit i => cases h
  | panic v => cases h; cases e <;> first | exact hX.elim | exact ⟨.panicking _, hX, .inr ⟨_, rfl, rfl⟩⟩

theorem runF_ok (hP : POk P P') (hH : HOk P P' H) (hLow : HLow H) {lf : Nat} {f : Nat} {af : AF} (haf : P'.fn f = some af) {args : List AV} {r : ARes} {s' : ASt} (h : runF H P' lf af args s = some (r, s')) (hI : Inv P B G s w) (hG : GlobOk P' G)
    {xs : List Value} (hr : R G (.l args xs)) : (callFunc f xs.toArray).run P w = .ok (.enter f xs.toArray) w ∧ CallsIn (FV P) 0 P f xs.toArray w (CPost P B G s' r) := by
  obtain ⟨fn, hh, hf, hc, hok, hn⟩ := hP.fn f af haf
  have hc' := hc
  unfold cookF at hc'
  split at hc'
  · rename_i cb cr hcb hcr
    cases hc'
    obtain ⟨c, hb, hcc⟩ := Option.bind_eq_some_iff.1 hcb
    refine ⟨run_callFunc hf hb hn _ _, ?_⟩
    unfold runF at h
    split at h
    · cases h
    rename_i hnt
    have hnt : args.length ≤ fn.ntmps := by simpa using Nat.le_of_ble_eq_true hnt
    split at h
    · rename_i ex fr s1 hev
      have hlow1 := evC_low hLow _ hev
      split at h
      · rename_i m hm
        refine callsIn_of_wp_marks hf hb ⟨_, hf⟩ ?_
        have hIc : Inv P B G (cleanS s) w := hI.cong rfl rfl
        have hw := evC_ok hP hH (rd := none) (rb := none) (h := hh) c (a := { tmps := xs.toArray ++ Array.replicate (fn.ntmps - xs.toArray.size) undef, defers := [] }) hcc hok hev hIc (argsEnv_ok hr hnt) hG .nil trivial
        refine wpIn_mono hw fun e a1 w1 hq => ?_
        obtain ⟨G1, hle1, hI1, hE1, hD1, hX⟩ := hq
        obtain ⟨u, hM, hu⟩ := hX.mode hm
        have key : LeavesInM (FV P) 0 P fn a1.tmps (CPost P B G s' r) a1.defers u w1 := by
          split at h
          · rename_i v s2 hrd
            cases h
            have hlow2 := hlow1.trans (runDs_low hLow hrd)
            refine runDs_ok hH hD1 hrd hI1 hE1 (hG.mono hle1) hM fun G2 w2 u2 hle2 hI2 hE2 hM2 => ?_
            cases u2 with
            | run => exact hM2.elim
            | returning => exact hM2.elim
            | panicking chain =>
              obtain ⟨x, rfl, hx⟩ := hM2
              obtain ⟨G4, k1, k2, k3⟩ := trim_v hI hlow2 (hle1.trans hle2) hI2 hx
              exact ⟨G4, k1, k2, x, rfl, k3⟩
          · rename_i s2 hrd
            split at h
            · rename_i vs hvs
              split at h
              · rename_i v s3 hrv
                split at h
                rename_i v' s4 hset
                cases h
                have hlow3 := (hlow1.trans (runDs_low hLow hrd)).trans (resVal_low hrv)
                refine runDs_ok hH hD1 hrd hI1 hE1 (hG.mono hle1) hM fun G2 w2 u2 hle2 hI2 hE2 hM2 => ?_
                cases u2 with
                | run => exact hM2.elim
                | panicking chain => exact hM2.elim
                | returning =>
                  obtain ⟨x, G3, q1, q2, q3, q4⟩ := results_ok hI2 hE2 hcr hvs hrv
                  obtain ⟨G4, k1, k2, k3⟩ := settle_ok hI hlow3 ((hle1.trans hle2).trans q2) q3 q4 hset
                  exact ⟨x, q1, G4, k1, k2, k3⟩
              · cases h
            · cases h
          · cases h
        rcases hu with ⟨he | he, rfl⟩ | ⟨chain, rfl, rfl⟩
        · subst he; exact key
        · subst he; exact key
        · exact key
      · cases h
    · cases h
  · cases hc'

theorem runD_ok (hP : POk P P') (hH : HOk P P' H) (hLow : HLow H) {lf : Nat} {f : Nat} {af : AF} (haf : P'.fn f = some af) {args : List AV} {m m' : DM} {s' : ASt} (h : runD H P' lf af args m s = some (m', s')) (hI : Inv P B G s w) (hG : GlobOk P' G)
    {xs : List Value} (hr : R G (.l args xs)) {u : FrameMode} (hm : ModeOk G m u) :
    (callFunc f xs.toArray).run P w = .ok (.enter f xs.toArray) w ∧ CallsDIn (FV P) 0 P f xs.toArray u w fun e u' w' => ∃ G', G.le G' ∧ Inv P B G' s' w' ∧ (∃ x, e = .returned x) ∧ ModeOk G' m' (Go.settle u') := by
  obtain ⟨fn, hh, hf, hc, hok, hn⟩ := hP.fn f af haf
  have hc' := hc
  unfold cookF at hc'
  split at hc'
  · rename_i cb cr hcb hcr
    cases hc'
    obtain ⟨c, hb, hcc⟩ := Option.bind_eq_some_iff.1 hcb
    refine ⟨run_callFunc hf hb hn _ _, ?_⟩
    unfold runD at h
    split at h
    · cases h
    rename_i hnt0
    have hnt : args.length ≤ fn.ntmps := by simpa using Nat.le_of_ble_eq_true hnt0
    split at h
    · rename_i ex env rc s1 hev
      have hlow1 := evD_low hLow _ hev
      split at h
      · rename_i hex
        split at h
        · rename_i hres
          simp only at hres
          clear hnt0
          subst hres
          refine callsDIn_of_wpSIn hf hb ⟨_, hf⟩ fun c₀ cs hc0 => ?_
          have hIc : Inv P B G (cleanS s) w := hI.cong rfl rfl
          have hw := evD_ok (c₀ := c₀) (cs := cs) (h := hh) (a := { tmps := xs.toArray ++ Array.replicate (fn.ntmps - xs.toArray.size) undef, defers := [] }) hP hH c hcc hok hev hIc (argsEnv_ok hr hnt) hG .nil (RcMode.of_mode hm)
          have e0 : ({ c₀ with mode := u } : Frame) = c₀ := by subst hc0; rfl
          rw [e0] at hw
          refine wpSIn_mono hw fun e a1 cs1 w1 hq => ?_
          obtain ⟨u1, G1, hle, hI1, hE1, hD1, hX, rfl, hR1⟩ := hq
          have hd1 := hD1.nil_inv
          obtain ⟨x, G3, q1, q2, q3, _⟩ := results_ok (P' := P') hI1 hE1 hcr (vs := []) rfl (v := .tuple []) (s1 := s1) rfl
          have hfin : ∃ G', G.le G' ∧ Inv P B G' s' w1 ∧ (∃ y, Ending.returned x = .returned y) ∧ ModeOk G' m' (Go.settle u1) := by
            have hset := hR1.settle
            split at h
            · rename_i v
              cases h
              simp only at hset
              cases hu : Go.settle u1 with
              | run => rw [hu] at hset; exact hset.elim
              | returning => rw [hu] at hset; exact hset.elim
              | panicking chain =>
                rw [hu] at hset
                obtain ⟨y, rfl, hy⟩ := hset
                obtain ⟨G4, k1, k2, k3⟩ := trim_v hI hlow1 (hle.trans q2) q3 (hy.mono q2)
                exact ⟨G4, k1, k2, ⟨x, rfl⟩, y, rfl, k3⟩
            · rename_i hnp
              cases h
              obtain ⟨G4, k1, k2, _⟩ := trim_ok hI hlow1 (hle.trans q2) q3 false false
              refine ⟨G4, k1, k2, ⟨x, rfl⟩, ?_⟩
              cases rc with
              | pan v => exact absurd rfl (hnp v)
              | ret => simp only at hset; cases hu : Go.settle u1 <;> rw [hu] at hset <;> first | exact hset.elim | trivial
              | recd => simp only at hset; cases hu : Go.settle u1 <;> rw [hu] at hset <;> first | exact hset.elim | trivial
          cases ex with
          | normal =>
            have he := hX.normal_inv rfl
            subst he
            exact ⟨hd1, u1, rfl, x, q1, hfin⟩
          | ret =>
            cases e <;> first | exact hX.elim | skip
            exact ⟨hd1, u1, rfl, x, q1, hfin⟩
          | exit i => cases hex
          | panic v => cases hex
        · cases h
      · cases h
    · cases h
  · cases hc'

/-- The functions that the interpreter knows by heart are the model's. -/
structure PrimOk (P : Program) (P' : AProg) : Prop where
  ok : ∀ f p, P'.prim f = some p → ∀ H, HOk P P' H → ∀ args s r s', primRun H p args s = some (r, s') → ∀ B G w xs, Inv P B G s w → GlobOk P' G → R G (.l args xs) → Upon P (callFunc f xs.toArray) w (CPost P B G s' r)

theorem callN_ok (hP : POk P P') (hp : PrimOk P P') : ∀ n, HOk P P' (callN P' n)
  | 0 => ⟨fun _ _ _ _ _ h => by simp [callN] at h, fun _ _ _ _ _ h => by simp [callN] at h, fun _ _ _ _ _ _ h => by simp [callN] at h⟩
  | n + 1 => by
    have ih := callN_ok hP hp n
    have hl := callN_low (P := P') n
    refine ⟨fun f args s r s' h B G w xs hI hG hr => ?_, fun l args s r s' h B G w xs b hI hG hr hL => ?_, fun f args m s m' s' h B G w xs u hI hG hr hm => ?_⟩
    · simp only [callN] at h
      split at h
      · rename_i p hq; exact hp.ok _ _ hq _ ih _ _ _ _ h B G w xs hI hG hr
      · split at h
        · rename_i af haf
          obtain ⟨k1, k2⟩ := runF_ok hP ih hl haf h hI hG hr
          exact ⟨_, _, k1, k2⟩
        · cases h
    · simp only [callN] at h
      exact round_ok hP ih h hI hG hr hL
    · simp only [callN] at h
      split at h
      · rename_i af haf
        exact runD_ok hP ih hl haf h hI hG hr hm
      · cases h

end
end Go.Fw
