/- The framework, part 10: rounds and functions. -/
import Derived.Test.YthmlommnlihgcaaGreatDoorFwCode
import Derived.Test.YthmlommnlihgcaaGreatDoorFwTrim
namespace Go.Fw
open Go
/-- What is asked at a round's end; a panic is passed on. -/
def roundPost' (P : Program) (l : Nat) (R : Ending → World → Prop) : Exit → Act → World → Prop
  | .panic chain, a, w => a.defers = [] ∧ R (.panicked chain) w
  | e, a, w => roundPost P l R e a w

/-- One round, out of its body's walk, where the body may panic. -/
theorem roundIn_of_wpIn' {P : Program} {l : Nat} {f : FuncId} {tmps : Array Value} {assign body : Code} {w : World} {R : Ending → World → Prop} (hF : (FV P).fn f)
    (h : assign.wpIn ((FV P).inRound l) 0 P (Exit.then (fun a₁ w₁ => ∃ w₂, (Instr.beginRound l).run P w₁ = .ok () w₂ ∧ body.wpIn ((FV P).inRound l) 0 P (roundPost' P l R) a₁ w₂) (fun _ _ _ => False))
      { tmps := tmps, defers := [] } w) :
    RoundIn (FV P) 0 P l f tmps assign body w R := by
  refine ⟨hF, fun c cs hr => ?_⟩
  let b : Frame := { (default : Frame) with fn := f, kind := .normal, roundOf := some l }
  have hb0 : Frame.round l f tmps assign body .normal = b.atR { tmps := tmps, defers := [] } [.code assign, .beginRound, .code body] := by
    simp [Frame.round, Frame.atR, b]
  have hr' : ((FV P).inRound l).room ((c :: cs).length + 1 + 0) := hr
  have hF' : ((FV P).inRound l).fn b.fn := hF
  obtain ⟨e, a₁, w₁, hq, harr⟩ := h b [.beginRound, .code body] (c :: cs) rfl hF' hr'
  rw [← hb0] at harr
  cases e with
  | normal =>
    obtain ⟨w₂, hbr, hbody⟩ := hq
    have s1 : StepsIn (Machine.fenced P ((FV P).inRound l)) P (lone (b.atR a₁ [.beginRound, .code body]) (c :: cs) w₁) (lone (b.atR a₁ [.code body]) (c :: cs) w₂) :=
      .one (fenced_calm (fr := b.atR a₁ [.beginRound, .code body]) hF' hr' rfl) (stepR_beginRound rfl hbr)
    obtain ⟨e₂, a₂, w₃, hq₂, harr₂⟩ := hbody b [] (c :: cs) rfl hF' hr'
    cases e₂ with
    | normal =>
      obtain ⟨v, w₄, hend, hR⟩ := hq₂
      exact ⟨.returned v, w₄, hR, (StepsIn.trans harr s1).trans (StepsIn.trans harr₂ (.one (fenced_calm (fr := b.atR a₂ []) hF' hr' rfl) (stepR_round_end rfl rfl hend)))⟩
    | ret =>
      obtain ⟨v, w₄, hend, hR⟩ := hq₂
      obtain ⟨k₁, hs⟩ := harr₂.2 rfl
      exact ⟨.returned v, w₄, hR, (StepsIn.trans harr s1).trans (StepsIn.trans hs (.one (fenced_calm (fr := b.atR a₂ (.code .ret :: k₁)) hF' hr' rfl) (stepR_round_ret rfl rfl hend)))⟩
    | exit id =>
      obtain ⟨v, w₄, hend, hR⟩ := hq₂
      obtain ⟨k₁, hk, hs⟩ := harr₂.2 rfl rfl
      exact ⟨.returned v, w₄, hR, (StepsIn.trans harr s1).trans (StepsIn.trans hs (.one (fenced_calm (fr := b.atR a₂ (.code (.exit id) :: k₁)) hF' hr' rfl) (stepR_round_exit rfl rfl hk hend)))⟩
    | goto t =>
      obtain ⟨v, w₄, hend, hR⟩ := hq₂
      obtain ⟨k₁, hk, hs⟩ := harr₂.2 rfl rfl
      exact ⟨.returned v, w₄, hR, (StepsIn.trans harr s1).trans (StepsIn.trans hs (.one (fenced_calm (fr := b.atR a₂ (.code (.goto t) :: k₁)) hF' hr' rfl) (stepR_round_goto rfl rfl hk hend)))⟩
    | panic chain =>
      obtain ⟨hd, hR⟩ := hq₂
      obtain ⟨todo, hs⟩ := harr₂
      obtain ⟨fn, hfn⟩ := hF
      have hl : ({ b.atR a₂ todo with mode := .panicking chain } : Frame).leaving P w₃ (.panicked chain) := ⟨rfl, hd, fn, hfn⟩
      exact ⟨.panicked chain, w₃, hR, (StepsIn.trans harr s1).trans (StepsIn.trans hs (.one (fenced_leaving (F := (FV P).inRound l) (n := 0) ⟨fn, hfn⟩ hr' hl) (step_leave_panicked hl)))⟩
    | outgrown => exact hq₂.elim
  | exit id => exact hq.elim
  | goto t => exact hq.elim
  | ret => exact hq.elim
  | panic chain => exact hq.elim
  | outgrown => exact hq.elim

section
variable {P : Program} {B : Bs} {P' : AProg} {nt : Nat} {s : ASt} {w : World} {G : Gh} {H : Handler}

/-! ### A round -/
theorem paramsEnv_ok : ∀ {ps : List Nat} {vs : List AV} {xs : List Value} {env : Env} {tmps : Array Value}, EnvOk G nt env tmps → R G (.l vs xs) → ps.length = vs.length → ps.all (fun d => Nat.blt d nt) = true →
    EnvOk G nt (paramsEnv env ps vs) ((ps.zip xs).foldl (fun tmps (p : Nat × Value) => tmps.setIfInBounds p.1 p.2) tmps)
  | [], vs, xs, env, tmps, hE, _, hl, _ => by
    cases vs with
    | nil => simpa [paramsEnv] using hE
    | cons v vs => simp at hl
  | p :: ps, vs, xs, env, tmps, hE, r, hl, hp => by
    cases vs with
    | nil => simp at hl
    | cons v vs =>
      cases r with
      | @lcons _ x _ xs r1 r2 =>
        simp only [List.all_cons, Bool.and_eq_true, Nat.blt_eq] at hp
        simp only [paramsEnv, List.zip_cons_cons, List.foldl_cons]
        exact paramsEnv_ok (hE.put hp.1 r1) r2 (by simpa using hl) hp.2

theorem Exit.then_mono {K K' : Act → World → Prop} {Q Q' : Exit → Act → World → Prop} (hk : ∀ a w, K a w → K' a w) (hq : ∀ e a w, Q e a w → Q' e a w) (e : Exit) (a : Act) (w : World) (h : Exit.then K Q e a w) : Exit.then K' Q' e a w := by
  cases e <;> first | exact hk _ _ h | exact hq _ _ _ h

theorem DsOk.nil_inv {ds : List Deferred} (h : DsOk G [] ds) : ds = [] := by cases h; rfl

theorem round_ok (hP : POk P P') (hH : HOk P P' H) {lf l : Nat} {args : List AV} {r : ARes} {s' : ASt} (h : roundN H P' lf l args s = some (r, s')) (hI : Inv P B G s w) (hG : GlobOk P' G) {xs : List Value} (hr : R G (.l args xs)) {b : Nat} (hL : G.L l = some b) :
    ∃ f tmps as bd, (Instr.yield b xs.toArray).run P w = .ok (.round b f tmps as bd) w ∧ RoundIn (FV P) 0 P b f tmps as bd w (CPost P B G s' r) := by
  unfold roundN at h
  split at h
  · rename_i lp hlp
    split at h
    · rename_i hst hlen
      split at h
      · rename_i e1 s1 hev1
        split at h
        · rename_i s2 hs2
          split at h
          · rename_i ex e3 s3 hev3
            obtain ⟨o, ho, hok⟩ := hI.at hL hlp
            obtain ⟨L, rfl, hLk⟩ := hok
            have hlen' : args.length = lp.params.length := by simpa using hlen
            have hsize : xs.toArray.size = L.params.size := by
              have := hLk.params
              have h2 := hr.l_length
              have h3 : L.params.toList.length = lp.params.length := by rw [this]
              simp at h3 ⊢; omega
            refine ⟨_, _, _, _, run_yield ho hsize, ?_⟩
            obtain ⟨ha, hca, hoa⟩ := hLk.assign
            obtain ⟨hb, hcb, hob⟩ := hLk.body
            have hE0 : EnvOk G L.tmps.size (paramsEnv lp.env lp.params args) ((L.params.zip xs.toArray).foldl (fun tmps (x : Nat × Value) => tmps.setIfInBounds x.1 x.2) L.tmps) := by
              have := paramsEnv_ok (G := G) (nt := L.tmps.size) (env := lp.env) (tmps := L.tmps) ⟨rfl, hLk.env⟩ hr hlen'.symm hLk.pok
              rw [← hLk.params] at this ⊢
              rw [← Array.foldl_toList, Array.toList_zip]
              exact this
            refine roundIn_of_wpIn' hLk.fnok ?_
            have hw1 := evC_ok hP hH (rd := some l) (rb := some b) (h := ha) L.assign hca hoa hev1 (a := { tmps := (L.params.zip xs.toArray).foldl (fun tmps (x : Nat × Value) => tmps.setIfInBounds x.1 x.2) L.tmps, defers := [] }) hI hE0 hG .nil hL
            refine wpIn_mono hw1 fun e a1 w1 hq => ?_
            obtain ⟨G1, hle1, hI1, hE1, hD1, hX⟩ := hq
            cases e <;> first | exact hX.elim | skip
            have hd1 := hD1.nil_inv
            show ∃ w₂, _
            have hL1 := hle1.L _ _ hL
            unfold setReady at hs2
            split at hs2
            · rename_i lp1 hlp1
              split at hs2
              · rename_i hst1
                cases hs2
                obtain ⟨o1, ho1, hok1⟩ := hI1.at hL1 hlp1
                obtain ⟨L1, rfl, hLk1⟩ := hok1
                have hready : L1.state = .ready := by
                  have := hLk1.st
                  rw [hst1] at this
                  cases hq : L1.state <;> rw [hq] at this <;> first | rfl | exact this.elim
                refine ⟨_, run_beginRound ho1 hready, ?_⟩
                have hI2 := hI1.setLoop (lp' := { lp1 with st := .busy }) (L' := { L1 with state := .busy }) hL1 hlp1 ho1 ⟨trivial, hLk1.pend, hLk1.env, hLk1.params, hLk1.pok, hLk1.assign, hLk1.body, hLk1.dq, hLk1.fnok⟩
                have hw3 := evC_ok hP hH (rd := some l) (rb := some b) (h := hb) L.body hcb hob hev3 (a := a1) hI2 hE1 (hG.mono hle1) (by rw [hd1]; exact .nil) hL1
                refine wpIn_mono hw3 fun e2 a2 w2 hq2 => ?_
                obtain ⟨G3, hle3, hI3, hE3, hD3, hX3⟩ := hq2
                have hL3 := hle3.L _ _ hL1
                have hfin : ∀ {st : LSt} {st' : LoopState} {pd : Option AExit} {jump : Option Code} {s4 : ASt}, stOk st st' → exOk pd jump → setLoop s3 l (fun lp => { lp with st := st, pend := pd }) = some s4 → (st' = if jump.isNone then .ready else .done) →
                    ∃ v w', (Instr.endRound b jump).run P w2 = .ok v w' ∧ v = .bool jump.isNone ∧ Inv P B G3 s4 w' := by
                  intro st st' pd jump s4 h1 h2 h3 h4
                  unfold setLoop at h3
                  split at h3
                  · rename_i lp3 hlp3
                    cases h3
                    obtain ⟨o3, ho3, hok3⟩ := hI3.at hL3 hlp3
                    obtain ⟨L3, rfl, hLk3⟩ := hok3
                    refine ⟨_, _, run_endRound jump ho3, rfl, ?_⟩
                    exact hI3.setLoop hL3 hlp3 ho3 ⟨h4 ▸ h1, h2, hLk3.env, hLk3.params, hLk3.pok, hLk3.assign, hLk3.body, hLk3.dq, hLk3.fnok⟩
                  · cases h3
                have hle := hle1.trans hle3
                split at h
                · cases h
                  cases e2 <;> first | exact hX3.elim | skip
                  obtain ⟨x, hch, hx⟩ := hX3
                  exact ⟨hD3.nil_inv, G3, hle, hI3, x, hch, hx⟩
                · split at h
                  · rename_i s4 hs4
                    cases h
                    cases e2 <;> first | exact hX3.elim | skip
                    obtain ⟨v, w', q1, q2, q3⟩ := hfin (st := .ready) (st' := .ready) (pd := none) (jump := none) trivial trivial hs4 rfl
                    subst q2
                    exact ⟨_, w', q1, G3, hle, q3, .bool true⟩
                  · cases h
                · rename_i hnn hnp
                  split at h
                  · rename_i s4 hs4
                    cases h
                    cases ex with
                    | normal => exact absurd rfl hnp
                    | panic v => exact absurd rfl (hnn v)
                    | ret =>
                      cases e2 <;> first | exact hX3.elim | skip
                      obtain ⟨v, w', q1, q2, q3⟩ := hfin (st := .done) (st' := .done) (pd := some .ret) (jump := some .ret) trivial trivial hs4 rfl
                      subst q2
                      exact ⟨_, w', q1, G3, hle, q3, .bool false⟩
                    | exit i =>
                      cases e2 <;> first | exact hX3.elim | skip
                      rename_i j
                      obtain ⟨v, w', q1, q2, q3⟩ := hfin (st := .done) (st' := .done) (pd := some (.exit i)) (jump := some (.exit j)) trivial hX3 hs4 rfl
                      subst q2
                      exact ⟨_, w', q1, G3, hle, q3, .bool false⟩
                  · cases h
              · cases hs2
            · cases hs2
          · cases h
        · cases h
      · cases h
    · cases h
  · cases h

/-! ### Results -/
theorem loadCells_same {a : Addr} : ∀ {n i : Nat} {acc : Array Value} {y : Array Value} {w w' : World}, (loadCellsFrom a i n acc).run P w = .ok y w' → w' = w
  | 0, i, acc, y, w, w', h => by simp [loadCellsFrom] at h; exact h.2.symm
  | n + 1, i, acc, y, w, w', h => by
    simp only [loadCellsFrom, Sem.run_bind, run_load] at h
    cases hc : w.cell? (a.add i) with
    | none =>
      simp only [hc] at h
      cases hf : World.farLoad P w (a.add i) (Mode.plain == Mode.atomic) with
      | ok x => simp [hf, Result.andThen] at h; exact loadCells_same h
      | error x => simp [hf, Result.andThen] at h
    | some v => simp [hc, Result.andThen] at h; exact loadCells_same h

theorem loadAt_var {t : TypeId} {ag : Bool} (hag : aggT P t = some ag) {x y : Value} {w' : World} (h : (Instr.loadAt t x).run P w = .ok y w') : (do loadVar t (← asAddr x)).run P w = .ok y w ∧ w' = w := by
  obtain ⟨d, hd⟩ := under_of_agg hag
  cases x with
  | pointer p =>
    cases p with
    | none => simp [Instr.loadAt, Instr.sureAddr, stuck] at h
    | some a =>
      have e1 : (do loadVar t (← asAddr (.pointer (some a)))).run P w = (Instr.loadAt t (.pointer (some a))).run P w := by
        simp [Instr.loadAt, Instr.sureAddr, asAddr]
      have e2 : w' = w := by
        simp only [Instr.loadAt, Instr.sureAddr, loadVar, Sem.run_bind, Sem.run_pure, Result.andThen, run_isAgg hag] at h
        cases ag with
        | true =>
          simp only [if_true, Sem.run_bind, run_sizeOf_u hd, Result.andThen, loadCells] at h
          cases hq : (loadCellsFrom a 0 (P.cellsOf t) #[]).run P w with
          | ok z w2 =>
            rw [hq] at h
            simp at h
            rw [← h.2]; exact loadCells_same hq
          | halt z w2 => rw [hq] at h; simp at h
        | false =>
          simp only [Bool.false_eq_true, if_false, run_load] at h
          cases hc : w.cell? a with
          | none =>
            simp only [hc] at h
            cases hf : World.farLoad P w a (Mode.plain == Mode.atomic) with
            | ok x => simp [hf] at h; exact h.2.symm
            | error x => simp [hf] at h
          | some v => simp [hc] at h; exact h.2.symm
      rw [e1, h]; exact ⟨by rw [e2], e2⟩
  | _ => simp [Instr.loadAt, Instr.sureAddr, stuck] at h

theorem resAll_ok (hI : Inv P B G s w) {env : Env} {tmps : Array Value} (hE : EnvOk G nt env tmps) : ∀ {rs : List ResultVar} {as : List ARV} {vs : List AV}, cookRes P rs = some as → resAll P' env s as = some vs →
    ∃ xs, (rs.mapM (fun (r : ResultVar) => (match r with | .tmp t => pure (tmps.getD t undef) | .cell a t => do loadVar t (← asAddr (tmps.getD a undef)) : Sem Value))).run P w = .ok xs w ∧ R G (.l vs xs)
  | [], as, vs, hk, h => by
    simp [cookRes] at hk; subst hk
    simp [resAll] at h; subst h
    exact ⟨[], rfl, .lnil⟩
  | .tmp t :: rs, as, vs, hk, h => by
    simp only [cookRes, Option.map_eq_some_iff] at hk
    obtain ⟨as', h1, rfl⟩ := hk
    simp only [resAll, resOf] at h
    split at h
    · rename_i v vs' hv hvs
      cases h; cases hv
      obtain ⟨xs, q1, q2⟩ := resAll_ok hI hE h1 hvs
      refine ⟨_ :: xs, ?_, .lcons (hE.2 t) q2⟩
      rw [List.mapM_cons]
      simp only [Sem.run_bind, Sem.run_pure, Result.andThen_ok, q1]
    · cases h
  | .cell a t :: rs, as, vs, hk, h => by
    simp only [cookRes] at hk
    split at hk
    · rename_i ag as' hag h1
      cases hk
      simp only [resAll, resOf] at h
      split at h
      · rename_i v vs' hv hvs
        cases h
        obtain ⟨xs, q1, q2⟩ := resAll_ok hI hE h1 hvs
        simp only [aopR] at hv
        obtain ⟨x, w', G', hx, hq, hr⟩ := load_ok hI hag (hE.2 a) hv
        obtain ⟨k1, k2⟩ := loadAt_var hag hx
        subst k2
        have hxr : R G (.v v x) := by
          refine R.mono (G := G') ?_ hr
          exact {
            M := fun b o y hy => by
              have h2 := hq.new
              have h3 := hq.old
              rcases Nat.lt_or_ge b w'.heap.size with hb | hb
              · rw [h3 b hb] at hy; exact hy
              · have := h2 b o y hb hy
                have := cell_lt (a := ⟨b, o, none⟩) this
                exact absurd this (Nat.not_lt.2 hb)
            L := fun l b hl => by rw [hq.L] at hl; exact hl
            H := fun t n y hy => by rw [hq.H] at hy; exact hy }
        refine ⟨x :: xs, ?_, .lcons hxr q2⟩
        rw [List.mapM_cons]
        rw [Sem.run_bind, k1]
        simp only [Sem.run_bind, Sem.run_pure, Result.andThen_ok, q1]
      · cases h
    · cases hk

theorem results_ok (hI : Inv P B G s w) {fn : Func} {env : Env} {tmps : Array Value} (hE : EnvOk G nt env tmps) {as : List ARV} {vs : List AV} (hk : cookRes P fn.results.toList = some as) (h : resAll P' env s as = some vs)
    {v : AV} {s1 : ASt} (hv : resVal s vs = some (v, s1)) : ∃ x G', (results fn tmps).run P w = .ok x w ∧ G.le G' ∧ Inv P B G' s1 w ∧ R G' (.v v x) := by
  obtain ⟨xs, h1, h2⟩ := resAll_ok hI hE hk h
  have hrun : (results fn tmps).run P w = .ok (if h : xs.toArray.size = 1 then xs.toArray[0] else .tuple xs.toArray) w := by
    unfold results
    rw [Sem.run_bind, Array.mapM_eq_mapM_toList, Sem.run_map]
    erw [h1]
    rfl
  unfold resVal at hv
  split at hv
  · cases hv
    cases h2 with
    | lcons h3 h4 =>
      cases h4
      exact ⟨_, G, by rw [hrun]; rfl, .refl _, hI, h3⟩
  · cases h2 with
    | lcons h3 h4 =>
      cases h4
      obtain ⟨G', q1, q2, q3⟩ := fixv_ok hI h3 hv
      exact ⟨_, G', by rw [hrun]; rfl, q1, q2, q3⟩
  · rename_i hn1 hn2
    split at hv
    · rename_i ws s2 hf
      cases hv
      obtain ⟨G', q1, q2, q3⟩ := fixvs_ok hI h2 hf
      have hne : ¬ xs.toArray.size = 1 := by
        intro hq
        have hl := h2.l_length
        simp at hq
        rw [hq] at hl
        match vs, hl with
        | [v], _ => exact hn2 v rfl
      exact ⟨_, G', by rw [hrun, dif_neg hne], q1, q2, .tuple q3⟩
    · cases hv

theorem argsEnv_ok {args : List AV} {xs : List Value} (r : R G (.l args xs)) (hn : args.length ≤ nt) : EnvOk G nt (argsEnv args) (xs.toArray ++ Array.replicate (nt - xs.toArray.size) undef) := by
  have hl := r.l_length
  refine ⟨by simp; omega, fun i => ?_⟩
  unfold argsEnv
  have hget : (xs.toArray ++ Array.replicate (nt - xs.toArray.size) undef).getD i undef = xs.getD i undef := by
    simp only [Array.getD_eq_getD_getElem?, List.getD_eq_getElem?_getD]
    rcases Nat.lt_or_ge i xs.length with h | h
    · rw [Array.getElem?_append_left (by simpa using h)]; simp
    · rw [Array.getElem?_append_right (by simpa using h), List.getElem?_eq_none h]
      simp only [Array.getElem?_replicate]
      split <;> rfl
  rw [hget]
  simp only [List.getD_eq_getElem?_getD]
  rcases Nat.lt_or_ge i args.length with h | h
  · obtain ⟨x, h1, h2⟩ := r.l_get (List.getElem?_eq_getElem h)
    rw [h1, List.getElem?_eq_getElem h]; exact h2
  · rw [List.getElem?_eq_none h, List.getElem?_eq_none (by omega)]; exact .undef'

end
end Go.Fw
