/- The framework, part 7: code. -/
import Derived.Test.YthmlommnlihgcaaGreatDoorFwRegW
import Derived.LoopNIn
namespace Go.Fw
open Go

/-- The cooked program is the model's. -/
structure POk (P : Program) (P' : AProg) : Prop where
  fn : ∀ f af, P'.fn f = some af → ∃ (fn : Func) (h : Hint), P.funcs[f]? = some fn ∧ cookF P h fn = some af ∧ acOk fn.ntmps false af.body = true ∧ (fn.name == "runtime.NumGoroutine") = false
  glob : ∀ g, pureV (P'.gl g) = true
  mixed : P.follows .mixedOrders = true

theorem run_callFunc {P : Program} {f : Nat} {fn : Func} (hf : P.funcs[f]? = some fn) {c : Code} (hb : fn.body = some c) (hn : (fn.name == "runtime.NumGoroutine") = false) (args : Array Value) (w : World) :
    (callFunc f args).run P w = .ok (.enter f args) w := by
  unfold callFunc
  simp only [Sem.run_bind]
  have : (program : Sem Program).run P w = .ok P w := rfl
  rw [this]
  simp only [Result.andThen, hf, hn, hb, Option.isNone_some]
  rfl

theorem cookF_body {P : Program} {h : Hint} {fn : Func} {af : AF} (hc : cookF P h fn = some af) : ∃ c, fn.body = some c ∧ cookC P h c = some af.body := by
  unfold cookF at hc
  split at hc
  · rename_i b r hb hr
    cases hc
    obtain ⟨c, h1, h2⟩ := Option.bind_eq_some_iff.1 hb
    exact ⟨c, h1, h2⟩
  · cases hc

/-- The activation is (not) a round's. -/
def RdOk (G : Gh) : Option Nat → Option Nat → Prop
  | none, none => True
  | some l, some b => G.L l = some b
  | _, _ => False
theorem RdOk.mono {G G' : Gh} (hG : G.le G') {rd rb : Option Nat} (h : RdOk G rd rb) : RdOk G' rd rb := by
  cases rd <;> cases rb <;> first | exact h | exact hG.L _ _ h

section
variable {P : Program} {B : Bs} {P' : AProg} {nt : Nat} {s : ASt} {w : World} {G : Gh} {H : Handler} {h : Hint}

theorem run_enterLoop_in {l₀ : Nat} {r₀ : Loop} (h : w.heap[l₀]? = some (.loop r₀)) (fn : FuncId) (tmps : Array Value) (ps : Array Tmp) (assign body : Code) :
    (Instr.enterLoop fn tmps ps assign body (some l₀)).run P w =
      .ok (w.heap.size, []) (w.alloc (.loop { state := .ready, pending := none, fn, tmps, params := ps, assign, body, defers := r₀.defers })) := by
  unfold Instr.enterLoop
  simp only [Sem.run_bind, run_getLoop h, run_newObj_alloc, Result.andThen, Sem.run_pure]

/-- A scope through which the run goes without a jump to a label. -/
theorem wpIn_scope {F : Fence} {n : Nat} {c : Code} {Q : Exit → Act → World → Prop} {a : Act} {w : World} (hg : ∀ l a w, ¬ Q (.goto l) a w) (h : c.wpIn F n P Q a w) : (Code.scope c).wpIn F n P Q a w := by
  intro b k cs hro hb hr
  have s0 : step P (lone (b.atR a (.code (.scope c) :: k)) cs w) = .next (lone (b.atR a (.code c :: .inScope c :: k)) cs w) :=
    step_lone_go (by simp [stepG, stepG.exec, Frame.atR])
  have s1 : ∀ a w, step P (lone (b.atR a (.inScope c :: k)) cs w) = .next (lone (b.atR a k) cs w) :=
    fun a w => step_lone_go (by simp [stepG, stepG.exec, Frame.atR])
  have h0 : (lone (b.atR a (.code (.scope c) :: k)) cs w).fenced P F := fenced_calm hb hr rfl
  obtain ⟨e, a₁, w₁, hq, harr⟩ := h b (.inScope c :: k) cs hro hb hr
  cases e with
  | normal => exact ⟨.normal, a₁, w₁, hq, .head h0 s0 (StepsIn.trans harr (.one (fenced_calm hb hr rfl) (s1 _ _)))⟩
  | exit id =>
    have hx : exitTo id (.inScope c :: k) = exitTo id k := by simp [exitTo]
    exact ⟨.exit id, a₁, w₁, hq, fun k' hk => .head h0 s0 (harr.1 k' (by rw [hx]; exact hk)), fun hr' hk => let ⟨k₁, h1, h2⟩ := harr.2 hr' (by rw [hx]; exact hk); ⟨k₁, h1, .head h0 s0 h2⟩⟩
  | goto l => exact absurd hq (hg _ _ _)
  | ret => exact ⟨_, a₁, w₁, hq, .of_steps (.one h0 s0) harr⟩
  | panic ch => exact ⟨_, a₁, w₁, hq, .of_steps (.one h0 s0) harr⟩
  | outgrown => exact ⟨_, a₁, w₁, hq, .of_steps (.one h0 s0) harr⟩

/-- What is laid ahead of a range over a function. -/
theorem loopLay_ok (hI : Inv P B G s w) {fr : Fr} {a : Act} (hE : EnvOk G nt fr.env a.tmps) {rd rb : Option Nat} (hrd : RdOk G rd rb) {ps : Array Nat} {assign body : Code} {as bd : AC}
    (hps : ps.toList.all (fun d => Nat.blt d nt) = true) (ha : cookC P h assign = some as) (hao : acOk nt true as = true) (hb : cookC P h body = some bd) (hbo : acOk nt true bd = true)
    {l : Nat} {mk : List ADef} {s1 : ASt} (hl : loopLay rd ps.toList as bd fr s = some (l, mk, s1)) (fn : FuncId) (hfn : ∃ f, P.funcs[fn]? = some f) :
    ∃ bl mark w1 G1, (Instr.enterLoop fn a.tmps ps assign body rb).run P w = .ok (bl, mark) w1 ∧ G.le G1 ∧ Inv P B G1 s1 w1 ∧ G1.L l = some bl ∧ DsOk G1 mk mark := by
  have hEn : ∀ {G1 : Gh}, G.le G1 → ∀ i, R G1 (.v (fr.env i) (a.tmps.getD i undef)) := fun hle i => (hE.2 i).mono hle
  have hsz := hE.1
  cases rd with
  | none =>
    cases rb with
    | some b => exact hrd.elim
    | none =>
      simp only [loopLay, Option.some.injEq, Prod.mk.injEq] at hl
      obtain ⟨rfl, rfl, rfl⟩ := hl
      have hI1 := hI.allocL (.deferred (some [])) .defq rfl
      have hle1 : G.le (G.addL s.blks.length w.heap.size) := Gh.addL_le hI.Lend
      have hle2 := Gh.addL_le (l := s.blks.length + 1) (b := w.heap.size + 1) (G := G.addL s.blks.length w.heap.size) (by
        have := hI1.Lend
        simpa using this)
      have hI2 := hI1.allocL (.loop { state := .ready, pending := none, fn, tmps := a.tmps, params := ps, assign, body, defers := w.heap.size })
        (.loop { st := .ready, pend := none, env := fr.env, dq := s.blks.length, params := ps.toList, assign := as, body := bd }) ?_
      · refine ⟨w.heap.size + 1, _, _, _, run_enterLoop_outer fn a.tmps ps assign body, hle1.trans hle2, ?_, ?_, ?_⟩
        · simpa using hI2
        · simp [addL_eq]
        · exact .cons ⟨w.heap.size, rfl, hle2.L _ _ addL_eq⟩ .nil
      · refine ⟨_, rfl, trivial, trivial, ?_, rfl, ?_, ⟨h, ha, ?_⟩, ⟨h, hb, ?_⟩, ?_, hfn⟩
        · have h2 := hEn (hle1.trans hle2)
          simpa using h2
        · simpa [hsz] using hps
        · simpa [hsz] using hao
        · simpa [hsz] using hbo
        · have := hle2.L _ _ (addL_eq (G := G) (l := s.blks.length) (b := w.heap.size))
          simpa using this
  | some r =>
    cases rb with
    | none => exact hrd.elim
    | some b =>
      simp only [loopLay] at hl
      split at hl
      · rename_i lp hlp
        cases hl
        obtain ⟨o, ho, hok⟩ := hI.at hrd hlp
        obtain ⟨L0, rfl, hL0⟩ := hok
        have hle1 : G.le (G.addL s.blks.length w.heap.size) := Gh.addL_le hI.Lend
        have hI1 := hI.allocL (.loop { state := .ready, pending := none, fn, tmps := a.tmps, params := ps, assign, body, defers := L0.defers })
          (.loop { st := .ready, pend := none, env := fr.env, dq := lp.dq, params := ps.toList, assign := as, body := bd }) ?_
        · exact ⟨w.heap.size, _, _, _, run_enterLoop_in ho fn a.tmps ps assign body, hle1, hI1, addL_eq, .nil⟩
        · refine ⟨_, rfl, trivial, trivial, hEn hle1, rfl, ?_, ⟨h, ha, ?_⟩, ⟨h, hb, ?_⟩, hle1.L _ _ hL0.dq, hfn⟩
          · simpa [hsz] using hps
          · simpa [hsz] using hao
          · simpa [hsz] using hbo
      · cases hl

/-- A loop's record is turned. -/
theorem Inv.setLoop (hI : Inv P B G s w) {l b : Nat} (hL : G.L l = some b) {lp lp' : ALoop} (hb : s.blks[l]? = some (.loop lp)) {L L' : Loop} (ho : w.heap[b]? = some (.loop L)) (hk : LoopOk P G lp' L') :
    Inv P B G { s with blks := s.blks.set l (.loop lp') } (w.putObj b (.loop L')) :=
  hI.put hL ⟨L', rfl, hk⟩ fun j x hx => by
    have := hI.m b j x hx
    simp [World.cell?, ho] at this

theorem ExOk.normal_inv {ex : AExit} {e : Exit} (h : ExOk G ex e) (hn : ex = .normal) : e = .normal := by
  subst hn; cases e <;> first | rfl | exact h.elim
theorem ExOk.not_normal {ex : AExit} {e : Exit} (h : ExOk G ex e) (hn : ex ≠ .normal) : e ≠ .normal := by
  rintro rfl; cases ex <;> first | exact hn rfl | exact h.elim

theorem then_not_normal {K : Act → World → Prop} {Q : Exit → Act → World → Prop} {e : Exit} {a : Act} {w : World} (hn : e ≠ .normal) (h : Q e a w) : Exit.then K Q e a w := by
  cases e <;> first | exact absurd rfl hn | exact h

theorem run_range {a : Act} {g : Operand} {fn : Fn} {fa fb : Array Value} (hv : a.eval g = .func fn fa fb) {bl : Nat} (w : World) :
    (resolve a.eval (rangeCall g bl) 0).run P w = .ok { target := .fn fn fb, args := fa ++ #[.func (.yield bl) #[] #[]] } w := by
  have h := run_resolve (P := P) (ρ := a.eval) (c := rangeCall g bl) rfl hv 0 w
  have h1 : (rangeCall g bl).args.map a.eval = #[.func (.yield bl) #[] #[]] := by simp [rangeCall, Act.eval]
  rw [h1] at h
  exact h

theorem evC_ok (hP : POk P P') (hH : HOk P P' H) {lf : Nat} {rd rb : Option Nat} : ∀ (code : Code) {c : AC} {nt : Nat} {B : Bs} {G : Gh} {fr : Fr} {s : ASt} {a : Act} {w : World} {r : CR},
    cookC P h code = some c → acOk nt rb.isSome c = true → evC H P' rd lf c fr s = some r →
    Inv P B G s w → EnvOk G nt fr.env a.tmps → GlobOk P' G → DsOk G fr.ds a.defers → RdOk G rd rb → code.wpIn (FR P rb) 0 P (CQ P B nt G r.ex r.fr r.s) a w := by
  intro code
  induction code with
  | skip =>
    intro c nt B G fr s a w r hk hok hev hI hE hG hD hR
    simp only [cookC, Option.some.injEq] at hk; subst hk
    simp only [evC, Option.some.injEq] at hev; subst hev
    exact wpIn_skip ⟨G, .refl _, hI, hE, hD, trivial⟩
  | label l =>
    intro c nt B G fr s a w r hk hok hev hI hE hG hD hR
    simp only [cookC, Option.some.injEq] at hk; subst hk
    simp only [evC, Option.some.injEq] at hev; subst hev
    exact wpIn_label ⟨G, .refl _, hI, hE, hD, trivial⟩
  | ret =>
    intro c nt B G fr s a w r hk hok hev hI hE hG hD hR
    simp only [cookC, Option.some.injEq] at hk; subst hk
    simp only [evC, Option.some.injEq] at hev; subst hev
    exact wpIn_ret ⟨G, .refl _, hI, hE, hD, trivial⟩
  | exit id =>
    intro c nt B G fr s a w r hk hok hev hI hE hG hD hR
    simp only [cookC, Option.some.injEq] at hk; subst hk
    simp only [evC, Option.some.injEq] at hev; subst hev
    exact wpIn_exit ⟨G, .refl _, hI, hE, hD, rfl⟩
  | goto l => intro c nt B G fr s a w r hk; simp [cookC] at hk
  | refuse y => intro c nt B G fr s a w r hk; simp [cookC] at hk
  | scope b ih =>
    intro c nt B G fr s a w r hk hok hev hI hE hG hD hR
    simp only [cookC, Option.map_eq_some_iff] at hk
    obtain ⟨cb, hb, rfl⟩ := hk
    simp only [evC] at hev
    simp only [acOk] at hok
    refine wpIn_scope (fun l a w hq => ?_) (ih hb hok hev hI hE hG hD hR)
    obtain ⟨_, _, _, _, _, hX⟩ := hq
    cases hx : r.ex <;> rw [hx] at hX <;> exact hX.elim
  | region id all draw =>
    intro c nt B G fr s a w r hk hok hev hI hE hG hD hR
    have hk' := hk
    simp only [cookC] at hk'
    split at hk'
    · cases hk'
    simp only [Option.map_eq_some_iff] at hk'
    obtain ⟨ops, _, hc⟩ := hk'
    have hi : RI P B P' nt [] fr s a w G B := ⟨.refl _, hI, .nil, hE, hG, hD⟩
    split at hc
    · subst hc
      simp only [evC] at hev
      split at hev
      · rename_i fr' s' hr
        split at hev
        · rename_i hdj
          cases hev
          exact region_okW hP.mixed hH hP.glob hk hok hi hr hdj
        · cases hev
      · cases hev
    subst hc
    simp only [evC] at hev
    split at hev
    · rename_i fr' s' hr
      cases hev
      exact region_ok hP.mixed hH hP.glob hk hok hi hr
    · rename_i v fr' s' hr
      cases hev
      exact region_ok hP.mixed hH hP.glob hk hok hi hr
    · cases hev
  | seq x y ihx ihy =>
    intro c nt B G fr s a w r hk hok hev hI hE hG hD hR
    simp only [cookC] at hk
    split at hk
    · rename_i cx cy hx hy
      cases hk
      simp only [acOk, Bool.and_eq_true] at hok
      simp only [evC] at hev
      cases hr1 : evC H P' rd lf cx fr s with
      | none => rw [hr1] at hev; cases hev
      | some r1 =>
        rw [hr1] at hev
        simp only at hev
        refine wpIn_seq (wpIn_mono (ihx hx hok.1 hr1 hI hE hG hD hR) fun e a1 w1 hq => ?_)
        obtain ⟨G1, hle, hI1, hE1, hD1, hX⟩ := hq
        by_cases hn : r1.ex = .normal
        · have he := hX.normal_inv hn
          subst he
          rw [hn] at hev
          exact wpIn_mono (ihy hy hok.2 hev hI1 hE1 (hG.mono hle) hD1 (hR.mono hle)) fun e a w h => h.le hle
        · refine then_not_normal (hX.not_normal hn) ?_
          have : r1 = r := by
            revert hev
            cases hq : r1.ex with
            | normal => exact absurd hq hn
            | _ => simp
          subst this
          exact ⟨G1, hle, hI1, hE1, hD1, hX⟩
    · cases hk
  | cond co x y ihx ihy =>
    intro c nt B G fr s a w r hk hok hev hI hE hG hD hR
    simp only [cookC] at hk
    split at hk
    · rename_i ac cx cy hc hx hy
      cases hk
      simp only [acOk, Bool.and_eq_true] at hok
      simp only [evC] at hev
      have hro := (opn_of hE hG).out _ _ hc
      split at hev
      · rename_i b hb
        rw [hb] at hro
        generalize hv : a.eval co = v at hro
        cases hro
        cases b with
        | true => exact wpIn_cond_true hv (ihx hx hok.1 hev hI hE hG hD hR)
        | false => exact wpIn_cond_false hv (ihy hy hok.2 hev hI hE hG hD hR)
      · cases hev
    · cases hk
  | block id b ih =>
    intro c nt B G fr s a w r hk hok hev hI hE hG hD hR
    simp only [cookC, Option.map_eq_some_iff] at hk
    obtain ⟨cb, hb, rfl⟩ := hk
    simp only [acOk] at hok
    simp only [evC] at hev
    cases hr1 : evC H P' rd lf cb fr s with
    | none => rw [hr1] at hev; cases hev
    | some r1 =>
      rw [hr1] at hev
      simp only at hev
      refine wpIn_block (wpIn_mono (ih hb hok hr1 hI hE hG hD hR) fun e a1 w1 hq => ?_)
      obtain ⟨G1, hle, hI1, hE1, hD1, hX⟩ := hq
      revert hev hX
      cases hex : r1.ex with
      | exit j =>
        simp only
        intro hev hX
        cases e <;> first | exact hX.elim | skip
        rename_i j'
        have hjj : j = j' := hX
        subst hjj
        cases hj : Nat.beq j id with
        | true =>
          rw [hj] at hev
          cases hev
          have := Nat.eq_of_beq_eq_true hj
          simp only [Exit.inBlock, this, if_true]
          exact ⟨G1, hle, hI1, hE1, hD1, trivial⟩
        | false =>
          rw [hj] at hev
          cases hev
          have : j ≠ id := fun q => by subst q; simp at hj
          simp only [Exit.inBlock, this, if_false]
          exact ⟨G1, hle, hI1, hE1, hD1, by rw [hex]; rfl⟩
      | normal =>
        simp only [Option.some.injEq]
        rintro rfl hX
        cases e <;> first | exact hX.elim | skip
        exact ⟨G1, hle, hI1, hE1, hD1, by rw [hex]; exact hX⟩
      | ret =>
        simp only [Option.some.injEq]
        rintro rfl hX
        cases e <;> first | exact hX.elim | skip
        exact ⟨G1, hle, hI1, hE1, hD1, by rw [hex]; exact hX⟩
      | panic v =>
        simp only [Option.some.injEq]
        rintro rfl hX
        cases e <;> first | exact hX.elim | skip
        exact ⟨G1, hle, hI1, hE1, hD1, by rw [hex]; exact hX⟩
  | loop b ih =>
    intro c nt B G fr s a w r hk hok hev hI hE hG hD hR
    simp only [cookC, Option.map_eq_some_iff] at hk
    obtain ⟨cb, hb, rfl⟩ := hk
    simp only [acOk] at hok
    simp only [evC] at hev
    refine wpIn_loop_rounds lf ?_
    have key : ∀ (n : Nat) {G1 : Gh} {fr : Fr} {s : ASt} {a : Act} {w : World}, G.le G1 → loopN (evC H P' rd lf cb) n fr s = some r → Inv P B G1 s w → EnvOk G1 nt fr.env a.tmps → DsOk G1 fr.ds a.defers →
        Code.roundsIn (FR P rb) 0 P b (CQ P B nt G r.ex r.fr r.s) n a w := by
      intro n
      induction n with
      | zero => intro G1 fr s a w _ hev; simp [loopN] at hev
      | succ n ihn =>
        intro G1 fr s a w hle hev hI hE hD
        simp only [loopN] at hev
        cases hr1 : evC H P' rd lf cb fr s with
        | none => rw [hr1] at hev; cases hev
        | some r1 =>
          rw [hr1] at hev
          simp only at hev
          rw [roundsIn_succ]
          refine wpIn_mono (ih hb hok hr1 hI hE (hG.mono hle) hD (hR.mono hle)) fun e a1 w1 hq => ?_
          obtain ⟨G2, hle2, hI2, hE2, hD2, hX⟩ := hq
          by_cases hn : r1.ex = .normal
          · have he := hX.normal_inv hn
            subst he
            rw [hn] at hev
            exact ihn (hle.trans hle2) hev hI2 hE2 hD2
          · refine then_not_normal (hX.not_normal hn) ?_
            have : r1 = r := by
              revert hev
              cases hq : r1.ex with
              | normal => exact absurd hq hn
              | _ => simp
            subst this
            exact ⟨G2, hle.trans hle2, hI2, hE2, hD2, hX⟩
    exact key lf (.refl _) hev hI hE hD
  | rangeFunc g ps as bd iha ihb =>
    intro c nt B G fr s a w r hk hok hev hI hE hG hD hR
    simp only [cookC] at hk
    split at hk
    · rename_i cg ca cb hg ha hb
      cases hk
      simp only [acOk, Bool.and_eq_true] at hok
      simp only [evC] at hev
      split at hev
      · rename_i l mk s1 gf x y hlay hfv
        split at hev
        · -- it returns
          rename_i v s2 hbody hcall
          split at hev
          · rename_i lp hlp
            refine wpIn_rangeFunc fun fn hfnv => ?_
            obtain ⟨bl, mark, w1, G1, hrun, hle1, hI1, hL1, hD1⟩ := loopLay_ok hI hE hR hok.1.1 ha hok.1.2 hb hok.2 hlay fn hfnv
            have hrf := ((opn_of hE hG).out _ _ hg).mono hle1
            rw [hfv] at hrf
            generalize hxv : a.eval g = xv at hrf
            cases hrf with
            | @func _ _ _ fa fb hfa hfb =>
            have hargs : R G1 (.l (x ++ .yield l :: y) (fa ++ .func (.yield bl) #[] #[] :: fb)) := hfa.l_append (.lcons (.yield hL1) hfb)
            obtain ⟨n, w1', hn1, hn2⟩ := hH.func gf _ _ _ _ hcall B G1 w1 _ hI1 (hG.mono hle1) hargs
            simp only [hasBody, Bool.and_eq_true, Option.isSome_iff_exists] at hbody
            obtain ⟨af, haf⟩ := hbody.2
            obtain ⟨gfn, gh, hgf, hgc, _, hgn⟩ := hP.fn gf af haf
            obtain ⟨gc, hgb, _⟩ := cookF_body hgc
            rw [run_callFunc hgf hgb hgn] at hn1
            cases hn1
            refine ⟨bl, mark, w1, { target := .fn (.func gf) fb.toArray, args := fa.toArray ++ #[.func (.yield bl) #[] #[]] }, w1, gf, (fa ++ .func (.yield bl) #[] #[] :: fb).toArray, w1, hrun, ?_, (by intro f' hf'; simp only [Target.leads, Option.some.injEq] at hf'; subst hf'; exact ⟨_, hgf⟩), ?_, by simp [FR, FV], FR_calls (hn2.mono ?_)⟩
            · exact run_range hxv w1
            · have := run_callFunc hgf hgb hgn ((fa ++ .func (.yield bl) #[] #[] :: fb).toArray) w1
              simpa [invoke] using this
            · rintro e w2 ⟨G2, hle2, hI2, hres⟩
              cases e with
              | panicked chain => exact hres.elim
              | outgrown => exact hres.elim
              | returned xr =>
                have hL2 := hle2.L _ _ hL1
                obtain ⟨o, ho, hok2⟩ := hI2.at hL2 hlp
                obtain ⟨L, rfl, hLk⟩ := hok2
                have hnb : L.state ≠ .busy := by
                  intro hq
                  have := hLk.st
                  rw [hq] at this
                  revert hev
                  cases hst : lp.st with
                  | busy => simp
                  | _ => rw [hst] at this; exact this.elim
                have hI3 := hI2.setLoop (lp' := { lp with st := .exhausted }) (L' := { L with state := .exhausted }) hL2 hlp ho ⟨trivial, hLk.pend, hLk.env, hLk.params, hLk.pok, hLk.assign, hLk.body, hLk.dq, hLk.fnok⟩
                refine ⟨L.pending, _, run_endLoop ho hnb, ?_⟩
                have hr : r = ⟨lp.pend.getD .normal, { fr with ds := mk ++ fr.ds }, { s2 with blks := s2.blks.set l (.loop { lp with st := .exhausted }) }⟩ := by
                  revert hev
                  cases hst : lp.st with
                  | busy => simp
                  | _ => simp only [Option.some.injEq]; exact fun q => q.symm
                subst hr
                have hDs : ∀ {as ds as' ds'}, DsOk G2 as ds → DsOk G2 as' ds' → DsOk G2 (as ++ as') (ds ++ ds') := by
                  intro as ds as' ds' h1 h2
                  induction h1 with
                  | nil => exact h2
                  | cons h _ ih => exact .cons h ih
                have hD3 : DsOk G2 (mk ++ fr.ds) (mark ++ a.defers) := hDs (hD1.mono hle2) (hD.mono (hle1.trans hle2))
                have hE3 := hE.mono (hle1.trans hle2)
                have hp := hLk.pend
                cases hpa : lp.pend with
                | none =>
                  rw [hpa] at hp hI3
                  cases hpl : L.pending with
                  | some j => rw [hpl] at hp; exact hp.elim
                  | none => rw [hpl] at hI3; exact ⟨G2, hle1.trans hle2, hI3, hE3, hD3, trivial⟩
                | some ex =>
                  rw [hpa] at hp hI3
                  cases hpl : L.pending with
                  | none => rw [hpl] at hp; cases ex <;> exact hp.elim
                  | some j =>
                    rw [hpl] at hp hI3
                    cases ex with
                    | ret =>
                      cases j <;> first | exact hp.elim | skip
                      exact wpIn_ret ⟨G2, hle1.trans hle2, hI3, hE3, hD3, trivial⟩
                    | exit i =>
                      cases j <;> first | exact hp.elim | skip
                      exact wpIn_exit ⟨G2, hle1.trans hle2, hI3, hE3, hD3, hp⟩
                    | normal => exact hp.elim
                    | panic v => exact hp.elim
          · cases hev
        · -- it panics
          rename_i v s2 hbody hcall
          cases hev
          refine wpIn_rangeFunc fun fn hfnv => ?_
          obtain ⟨bl, mark, w1, G1, hrun, hle1, hI1, hL1, hD1⟩ := loopLay_ok hI hE hR hok.1.1 ha hok.1.2 hb hok.2 hlay fn hfnv
          have hrf := ((opn_of hE hG).out _ _ hg).mono hle1
          rw [hfv] at hrf
          generalize hxv : a.eval g = xv at hrf
          cases hrf with
          | @func _ _ _ fa fb hfa hfb =>
          have hargs : R G1 (.l (x ++ .yield l :: y) (fa ++ .func (.yield bl) #[] #[] :: fb)) := hfa.l_append (.lcons (.yield hL1) hfb)
          obtain ⟨n, w1', hn1, hn2⟩ := hH.func gf _ _ _ _ hcall B G1 w1 _ hI1 (hG.mono hle1) hargs
          simp only [hasBody, Bool.and_eq_true, Option.isSome_iff_exists] at hbody
          obtain ⟨af, haf⟩ := hbody.2
          obtain ⟨gfn, gh, hgf, hgc, _, hgn⟩ := hP.fn gf af haf
          obtain ⟨gc, hgb, _⟩ := cookF_body hgc
          rw [run_callFunc hgf hgb hgn] at hn1
          cases hn1
          refine ⟨bl, mark, w1, { target := .fn (.func gf) fb.toArray, args := fa.toArray ++ #[.func (.yield bl) #[] #[]] }, w1, gf, (fa ++ .func (.yield bl) #[] #[] :: fb).toArray, w1, hrun, ?_, (by intro f' hf'; simp only [Target.leads, Option.some.injEq] at hf'; subst hf'; exact ⟨_, hgf⟩), ?_, by simp [FR, FV], FR_calls (hn2.mono ?_)⟩
          · exact run_range hxv w1
          · have := run_callFunc hgf hgb hgn ((fa ++ .func (.yield bl) #[] #[] :: fb).toArray) w1
            simpa [invoke] using this
          · rintro e w2 ⟨G2, hle2, hI2, hres⟩
            cases e with
            | returned v => exact hres.elim
            | outgrown => exact hres.elim
            | panicked chain =>
              have hDs : ∀ {as ds as' ds'}, DsOk G2 as ds → DsOk G2 as' ds' → DsOk G2 (as ++ as') (ds ++ ds') := by
                intro as ds as' ds' h1 h2
                induction h1 with
                | nil => exact h2
                | cons h _ ih => exact .cons h ih
              exact ⟨G2, hle1.trans hle2, hI2, hE.mono (hle1.trans hle2), hDs (hD1.mono hle2) (hD.mono (hle1.trans hle2)), hres⟩
        · cases hev
      · cases hev
    · cases hk

end
end Go.Fw
