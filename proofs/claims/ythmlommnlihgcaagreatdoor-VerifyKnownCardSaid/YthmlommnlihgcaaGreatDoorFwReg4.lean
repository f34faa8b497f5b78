/- The framework, part 6d: what an operation does, in the model. -/
import Derived.Test.YthmlommnlihgcaaGreatDoorFwReg3
import Derived.Test.YthmlommnlihgcaaGreatDoorFwEff
namespace Go.Fw
open Go
section
variable {P : Program} {B B' : Bs} {P' : AProg} {nt : Nat} {pd : List (Nat × Nat)} {fr : Fr} {e : Env} {ds ds' : List ADef} {s s' : ASt} {a : Act} {w : World} {G : Gh}

theorem R.undef' {G : Gh} : R G (.v undefA undef) := .tuple .lnil

theorem cook_defer_ne {h : Hint} {d : Option Nat} {op : Op} {aop : AOp} (hk : cookOp P h d op = some aop) (hn : ∀ f xs, aop ≠ .defer f xs) : ∀ c, op ≠ .defer c := by
  intro c hc
  subst hc
  simp only [cookOp] at hk
  split at hk
  · split at hk
    · cases hk; exact hn _ _ rfl
    · cases hk
  · cases hk

theorem cook_pend {h : Hint} {d : Option Nat} {op : Op} {z : List AV} (hk : cookOp P h d op = some (.pend z)) : ∃ t, op = .alloc t ∧ zeroOf P t = some z := by
  unfold cookOp at hk
  split at hk
  all_goals (try unfold cookBuiltin at hk); (try unfold eqNil at hk)
  all_goals (repeat' split at hk)
  all_goals first
    | (cases hk; done)
    | (simp only [Option.map_eq_some_iff, reduceCtorEq, and_false, exists_false] at hk; done)
    | (cases hk; exact ⟨_, rfl, by assumption⟩)

theorem cook_shut {h : Hint} {d : Option Nat} {op : Op} {i sz : Nat} {x : AOpnd} (hk : cookOp P h d op = some (.shut i sz x)) :
    ∃ t ti xv, op = .store t (.tmp i) xv ∧ P.info? t = some ti ∧ opnd xv = some x ∧ sz = P.cellsOf t := by
  unfold cookOp at hk
  split at hk
  case h_9 =>
    rename_i t xa xv
    split at hk
    · rename_i ti a v h1 h2 h3
      simp only [Option.some.injEq] at hk
      split at hk
      · rename_i j
        split at hk
        · cases hk
          cases xa with
          | tmp k => simp [opnd] at h2; subst h2; exact ⟨_, _, _, rfl, h1, h3, rfl⟩
          | const v => simp [opnd] at h2
          | global g => simp [opnd] at h2
          | func f => simp [opnd] at h2
        · cases hk
      · cases hk
    · cases hk
  all_goals (try unfold cookBuiltin at hk); (try unfold eqNil at hk)
  all_goals (repeat' split at hk)
  all_goals first
    | (cases hk; done)
    | (simp only [Option.map_eq_some_iff, reduceCtorEq, and_false, exists_false] at hk; done)
    | (simp only [Option.some.injEq] at hk; split at hk <;> first | cases hk | (split at hk <;> cases hk))

theorem cook_call {h : Hint} {d : Option Nat} {op : Op} {f : AOpnd} {xs : List AOpnd} (hk : cookOp P h d op = some (.call f xs) ∨ ∃ st, cookOp P h d op = some (.callP st f xs)) :
    ∃ c fo, op = .call c ∧ c.callee = .value fo ∧ opnd fo = some f ∧ opnds c.args.toList = some xs ∧ okFn P fo = true := by
  rcases hk with hk | ⟨st, hk⟩
  all_goals
    unfold cookOp at hk
    split at hk
    case h_30 =>
      rename_i c
      split at hk
      · unfold cookBuiltin at hk
        repeat' split at hk
        all_goals first | (cases hk; done) | (simp only [Option.map_eq_some_iff, reduceCtorEq, and_false, exists_false] at hk; done)
      · rename_i fo hc
        split at hk
        · rename_i f' xs' h0 h1 h2
          simp only [Option.some.injEq] at hk
          split at hk
          · first | (cases hk; done) | (cases hk; exact ⟨_, _, rfl, hc, h1, h2, h0⟩)
          · split at hk <;> first | (cases hk; done) | (cases hk; exact ⟨_, _, rfl, hc, h1, h2, h0⟩)
        · cases hk
      · cases hk
    all_goals (try unfold cookBuiltin at hk); (try unfold eqNil at hk)
    all_goals (repeat' split at hk)
    all_goals first
      | (cases hk; done)
      | (simp only [Option.map_eq_some_iff, reduceCtorEq, and_false, exists_false] at hk; done)
      | (simp only [Option.some.injEq] at hk; split at hk <;> first | cases hk | (split at hk <;> cases hk))

theorem cook_defer {h : Hint} {d : Option Nat} {op : Op} {f : AOpnd} {xs : List AOpnd} (hk : cookOp P h d op = some (.defer f xs)) :
    ∃ c fo, op = .defer c ∧ c.callee = .value fo ∧ opnd fo = some f ∧ opnds c.args.toList = some xs := by
  unfold cookOp at hk
  split at hk
  case h_31 =>
    rename_i c
    split at hk
    · rename_i fo hc
      split at hk
      · rename_i f' xs' h1 h2
        cases hk; exact ⟨_, _, rfl, hc, h1, h2⟩
      · cases hk
    · cases hk
  all_goals (try unfold cookBuiltin at hk); (try unfold eqNil at hk)
  all_goals (repeat' split at hk)
  all_goals first
    | (cases hk; done)
    | (simp only [Option.map_eq_some_iff, reduceCtorEq, and_false, exists_false] at hk; done)
    | (simp only [Option.some.injEq] at hk; split at hk <;> first | cases hk | (split at hk <;> cases hk))

theorem cook_panic {h : Hint} {d : Option Nat} {op : Op} {x : AOpnd} (hk : cookOp P h d op = some (.panic x)) : ∃ xo, op = .panic xo ∧ opnd xo = some x := by
  unfold cookOp at hk
  split at hk
  case h_32 =>
    simp only [Option.map_eq_some_iff] at hk
    obtain ⟨y, h1, h2⟩ := hk
    cases h2
    exact ⟨_, rfl, h1⟩
  all_goals (try unfold cookBuiltin at hk); (try unfold eqNil at hk)
  all_goals (repeat' split at hk)
  all_goals first
    | (cases hk; done)
    | (simp only [Option.map_eq_some_iff, reduceCtorEq, and_false, exists_false] at hk; done)
    | (simp only [Option.some.injEq] at hk; split at hk <;> first | cases hk | (split at hk <;> cases hk))

/-- What is called: a function or a round, with what stands ahead of and behind the arguments. -/
theorem run_resolve {ρ : Operand → Value} {c : Call} {fo : Operand} (hc : c.callee = .value fo) {fn : Fn} {fa fb : Array Value} (hv : ρ fo = .func fn fa fb) (ty : TypeId) (w : World) :
    (resolve ρ c ty).run P w = .ok { target := .fn fn fb, args := fa ++ c.args.map ρ } w := by
  simp [resolve, hc, Deferred.ofValue, hv]

theorem execOp_call {ρ : Operand → Value} {o : Oper} {c : Call} (ho : o.op = .call c) {fo : Operand} (hc : c.callee = .value fo) {fn : Fn} {fa fb : Array Value} (hv : ρ fo = .func fn fa fb) (w : World) :
    (execOp ρ o).run P w = (invoke (.fn fn fb) (fa ++ c.args.map ρ)).run P w := by
  simp only [execOp, ho, Sem.run_bind, run_resolve hc hv, Result.andThen]

/-! ### Which function an operation is about -/
theorem about_ne {ρ : Operand → Value} {o : Oper} {w : World} (h : ∀ c, o.op ≠ .call c) : ∀ f, o.about P w ρ = some f → ∃ fn, P.funcs[f]? = some fn := by
  intro f hf
  unfold Oper.about at hf
  split at hf
  · rename_i c hc; exact absurd hc (h c)
  · cases hf

theorem callFunc_valid {f : FuncId} {args : Array Value} {w w' : World} {n : Next} (h : (callFunc f args).run P w = .ok n w') : ∃ fn, P.funcs[f]? = some fn := by
  cases hf : P.funcs[f]? with
  | some fn => exact ⟨fn, rfl⟩
  | none => simp [callFunc, hf] at h

theorem about_func {ρ : Operand → Value} {o : Oper} {c : Call} (ho : o.op = .call c) {fo : Operand} (hc : c.callee = .value fo) {g : Nat} {fa fb : Array Value} (hv : ρ fo = .func (.func g) fa fb) {w : World} (hg : ∃ fn, P.funcs[g]? = some fn) :
    ∀ f, o.about P w ρ = some f → ∃ fn, P.funcs[f]? = some fn := by
  intro f hf
  simp only [Oper.about, ho, run_resolve hc hv, Target.leads, Option.some.injEq] at hf
  subst hf
  exact hg
theorem about_yield {ρ : Operand → Value} {o : Oper} {c : Call} (ho : o.op = .call c) {fo : Operand} (hc : c.callee = .value fo) {l : Nat} {fa fb : Array Value} (hv : ρ fo = .func (.yield l) fa fb) {w : World} :
    ∀ f, o.about P w ρ = some f → ∃ fn, P.funcs[f]? = some fn := by
  intro f hf
  simp [Oper.about, ho, run_resolve hc hv, Target.leads] at hf

/-- What is not a function's call. -/
theorem about_plain {h : Hint} {all : Array Oper} {ρ : Operand → Value} {o : Oper} {ai : AI} {w : World} (hc : Cooked P h all o ai) (hb : ai.op ≠ .bad) (h1 : ∀ f xs, ai.op ≠ .call f xs) (h2 : ∀ st f xs, ai.op ≠ .callP st f xs) :
    ∀ f, o.about P w ρ = some f → ∃ fn, P.funcs[f]? = some fn := by
  intro f hf
  have hk := hc.op.resolve_left hb
  unfold Oper.about at hf
  split at hf
  · rename_i c ho
    rw [ho] at hk
    cases hcal : c.callee with
    | builtin b => simp [resolve, hcal, Target.leads] at hf
    | invoke r n => simp [cookOp, hcal] at hk
    | value fo =>
      simp only [cookOp, hcal] at hk
      split at hk
      · rename_i f' xs' _ _ _
        simp only [Option.some.injEq] at hk
        split at hk
        · exact absurd hk.symm (h2 _ _ _)
        · split at hk
          · exact absurd hk.symm (h2 _ _ _)
          · exact absurd hk.symm (h1 _ _)
      · cases hk
  · cases hf

/-- What stands under a guard. -/
theorem about_skip {h : Hint} {all : Array Oper} {ρ : Operand → Value} (hρ : ∀ g, ρ (.func g) = .func (.func g) #[] #[]) {o : Oper} {ai : AI} {w : World} (hc : Cooked P h all o ai) (hs : skipOk ai.op = true) (hO : Opn P' e G ρ) (hk : skipD P' e ai.op = true) :
    ∀ f, o.about P w ρ = some f → ∃ fn, P.funcs[f]? = some fn := by
  have key : ∀ {c : Call} {fo : Operand} {g : Nat}, o.op = .call c → c.callee = .value fo → opnd fo = some (.f g) → okFn P fo = true → ∀ f, o.about P w ρ = some f → ∃ fn, P.funcs[f]? = some fn := by
    intro c fo g ho hcal hfo hok
    cases fo with
    | func g' =>
      simp only [okFn, Option.isSome_iff_exists] at hok
      exact about_func ho hcal (hρ g') hok
    | tmp t => simp [opnd] at hfo
    | const v => simp [opnd] at hfo
    | global g => simp [opnd] at hfo
  have key2 : ∀ {c : Call} {fo : Operand} {f0 : AOpnd}, o.op = .call c → c.callee = .value fo → opnd fo = some f0 → (match evO P' e f0 with | .tuple [] => true | _ => false) = true → ∀ f, o.about P w ρ = some f → ∃ fn, P.funcs[f]? = some fn := by
    intro c fo f0 ho hcal hfo hq f hf
    have hr := hO.out _ _ hfo
    cases hv : evO P' e f0 with
    | tuple l =>
      cases l with
      | nil =>
        rw [hv] at hr
        generalize hx : ρ fo = x at hr
        cases hr with
        | tuple hl =>
        cases hl
        simp [Oper.about, ho, resolve, hcal, hx, Deferred.ofValue] at hf
      | cons a b => rw [hv] at hq; cases hq
    | _ => rw [hv] at hq; cases hq
  obtain ⟨d, op, gd, pre⟩ := ai
  simp only at hs hk
  cases op with
  | call f xs =>
    obtain ⟨c, fo, ho, hcal, hfo, hargs, hok⟩ := cook_call (.inl (hc.op.resolve_left (by simp)))
    cases f with
    | f g => exact key ho hcal hfo hok
    | t i => exact key2 ho hcal hfo hk
    | c v => exact key2 ho hcal hfo hk
    | g g => exact key2 ho hcal hfo hk
  | callP st f xs =>
    obtain ⟨c, fo, ho, hcal, hfo, hargs, hok⟩ := cook_call (.inr ⟨st, hc.op.resolve_left (by simp)⟩)
    cases f with
    | f g => exact key ho hcal hfo hok
    | t i => exact key2 ho hcal hfo hk
    | c v => exact key2 ho hcal hfo hk
    | g g => exact key2 ho hcal hfo hk
  | bad => simp [skipOk] at hs
  | _ => exact about_plain hc (by simp) (by simp) (by simp)

theorem fixR_ok {v v' : AV} {x : Value} (h : fixR v = some v') (r : R G (.v v x)) : R G (.v v' x) := by
  cases v with
  | tuple vs =>
    simp only [fixR] at h
    split at h
    · cases h
      cases r with
      | tuple r => exact .tuple (fixPs_ok (by assumption) r)
    · cases h
  | _ => simp only [fixR] at h; exact (fixP_ok h r).1

/-- The step, where the store grows by new blocks at most. -/
theorem RI.quiet (h : RI P B P' nt pd ⟨e, ds⟩ s a w G B') {G' : Gh} {w' : World} (q : Quiet G w G' w') {d : Option Nat} (hd : ∀ t, d = some t → t < nt) {v : AV} {x : Value} (r : R G' (.v v x)) :
    RI P B P' nt (dropPend d pd) ⟨updO e d v, ds⟩ s (a.put d x) w' G' B' := h.put q.le (q.inv h.inv) hd r

/-- A guarded block is written. -/
theorem run_storeCells_all {b : Nat} {vs us : List Value} {el : TypeId} (hb : w.heap[b]? = some (.cells vs.toArray el (0, 0))) (hl : us.length = vs.length) (h1 : ∀ x ∈ us, x.oneCell' = true) :
    (storeCells ⟨b, 0, none⟩ us).run P w = .ok () (w.putObj b (.cells us.toArray el (0, 0))) := by
  have hrun := run_storeCells_at P b 0 el us 0 vs.toArray w hb (by simp; omega) h1
  rw [hrun, setRow_putObj hb]
  have hd : vs.drop us.length = [] := List.drop_eq_nil_of_le (by omega)
  simp [hd]

end
end Go.Fw
