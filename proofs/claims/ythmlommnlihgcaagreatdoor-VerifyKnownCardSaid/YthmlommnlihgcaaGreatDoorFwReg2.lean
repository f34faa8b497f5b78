/- The framework, part 6b: one operation of a region. -/
import Derived.Test.YthmlommnlihgcaaGreatDoorFwReg
import Derived.Test.YthmlommnlihgcaaGreatDoorFwWp
namespace Go.Fw
open Go

def ResOk (G : Gh) : ARes → Ending → Prop
  | .ret v, .returned x => R G (.v v x)
  | .panic v, .panicked chain => ∃ x, chain = [{ v := x, recovered := false }] ∧ R G (.v v x)
  | _, _ => False

def CPost (P : Program) (B : Bs) (G : Gh) (s' : ASt) (r : ARes) (e : Ending) (w' : World) : Prop := ∃ G', G.le G' ∧ Inv P B G' s' w' ∧ ResOk G' r e

/-- The fence: every function is one of the program's. -/
def FV (P : Program) : Fence := { fn := fun f => ∃ fn, P.funcs[f]? = some fn, depth := none, alive := false }
theorem FV_room {P : Program} (n : Nat) : (FV P).room n := fun _ h => by simp [FV] at h

/-- A call that is made now. -/
def Upon (P : Program) (m : Sem Next) (w : World) (R : Ending → World → Prop) : Prop :=
  ∃ n w1, m.run P w = .ok n w1 ∧ (match n with | .enter f args => CallsIn (FV P) 0 P f args w1 R | .value x => R (.returned x) w1 | _ => False)

def ModeOk (G : Gh) : DM → FrameMode → Prop
  | .ret, .returning => True
  | .pan v, .panicking chain => ∃ x, chain = [{ v := x, recovered := false }] ∧ R G (.v v x)
  | _, _ => False

structure HOk (P : Program) (P' : AProg) (H : Handler) : Prop where
  func : ∀ f args s r s', H.call (.func f) args s = some (r, s') → ∀ B G w xs, Inv P B G s w → GlobOk P' G → R G (.l args xs) → Upon P (callFunc f xs.toArray) w (CPost P B G s' r)
  yield : ∀ l args s r s', H.call (.yield l) args s = some (r, s') → ∀ B G w xs b, Inv P B G s w → GlobOk P' G → R G (.l args xs) → G.L l = some b →
    ∃ f tmps as bd, (Instr.yield b xs.toArray).run P w = .ok (.round b f tmps as bd) w ∧ RoundIn (FV P) 0 P b f tmps as bd w (CPost P B G s' r)
  dcall : ∀ f args m s m' s', H.dcall f args m s = some (m', s') → ∀ B G w xs u, Inv P B G s w → GlobOk P' G → R G (.l args xs) → ModeOk G m u →
    (callFunc f xs.toArray).run P w = .ok (.enter f xs.toArray) w ∧ CallsDIn (FV P) 0 P f xs.toArray u w fun e u' w' => ∃ G', G.le G' ∧ Inv P B G' s' w' ∧ (∃ x, e = .returned x) ∧ ModeOk G' m' (Go.settle u')

/-- What is deferred. -/
def DOk (G : Gh) : ADef → Deferred → Prop
  | .mark l, d => ∃ b, d.target = .collected b ∧ G.L l = some b
  | .call f args, d => ∃ cap : List Value, ∃ xs : List Value, d.target = .fn (.func f) cap.toArray ∧ d.args = xs.toArray ∧ R G (.l args (xs ++ cap))

inductive DsOk (G : Gh) : List ADef → List Deferred → Prop
  | nil : DsOk G [] []
  | cons {a d as ds} (h : DOk G a d) (t : DsOk G as ds) : DsOk G (a :: as) (d :: ds)

theorem DOk.mono {G G' : Gh} (hG : G.le G') {a : ADef} {d : Deferred} (h : DOk G a d) : DOk G' a d := by
  cases a with
  | mark l => obtain ⟨b, h1, h2⟩ := h; exact ⟨b, h1, hG.L _ _ h2⟩
  | call f args => obtain ⟨cap, xs, h1, h2, h3⟩ := h; exact ⟨cap, xs, h1, h2, h3.mono hG⟩
theorem DsOk.mono {G G' : Gh} (hG : G.le G') {as : List ADef} {ds : List Deferred} (h : DsOk G as ds) : DsOk G' as ds := by
  induction h with
  | nil => exact .nil
  | cons h _ ih => exact .cons (h.mono hG) ih

/-- The fence of a frame that is (not) a round. -/
def FR (P : Program) (rd : Option Nat) : Fence := { (FV P) with round := rd }
theorem FR_none {P : Program} : FR P none = FV P := rfl
theorem FR_some {P : Program} (l : Nat) : FR P (some l) = (FV P).inRound l := rfl
theorem FR_calls {rd : Option Nat} {P : Program} {f : FuncId} {args : Array Value} {w : World} {R : Ending → World → Prop} (h : CallsIn (FV P) 0 P f args w R) : CallsIn (FR P rd) 0 P f args w R := h
theorem FR_round {rd : Option Nat} {P : Program} {l : Nat} {f : FuncId} {tmps : Array Value} {as bd : Code} {w : World} {R : Ending → World → Prop} (h : RoundIn (FV P) 0 P l f tmps as bd w R) : RoundIn (FR P rd) 0 P l f tmps as bd w R := h

/-- A region's state between two operations. -/
structure RI (P : Program) (B : Bs) (P' : AProg) (nt : Nat) (pd : List (Nat × Nat)) (fr : Fr) (s : ASt) (a : Act) (w : World) (G : Gh) (B' : Bs) : Prop where
  ext : B.ext B'
  inv : Inv P B' G s w
  pend : Pend B B' pd a.tmps
  env : EnvOk G nt fr.env a.tmps
  glob : GlobOk P' G
  ds : DsOk G fr.ds a.defers

theorem EnvOk.put {G : Gh} {nt : Nat} {env : Env} {tmps : Array Value} (h : EnvOk G nt env tmps) {d : Nat} (hd : d < nt) {v : AV} {x : Value} (r : R G (.v v x)) : EnvOk G nt (upd env d v) (tmps.setIfInBounds d x) := by
  refine ⟨by simp [h.1], fun i => ?_⟩
  unfold upd
  by_cases e : i = d
  · subst e
    rw [getD_put_same (by rw [h.1]; exact hd)]
    simp only [Nat.beq_refl]; exact r
  · rw [getD_put e]
    have : Nat.beq i d = false := by
      cases hb : Nat.beq i d with
      | false => rfl
      | true => exact absurd (Nat.eq_of_beq_eq_true hb) e
    rw [this]; exact h.2 i

theorem EnvOk.putO {G : Gh} {nt : Nat} {env : Env} {a : Act} (h : EnvOk G nt env a.tmps) {d : Option Nat} (hd : ∀ e, d = some e → e < nt) {v : AV} {x : Value} (r : R G (.v v x)) : EnvOk G nt (updO env d v) (a.put d x).tmps := by
  cases d with
  | none => exact h
  | some d => exact h.put (hd d rfl) r

theorem put_tmps (a : Act) (d : Option Nat) (x : Value) : (a.put d x).tmps = (match d with | some d => a.tmps.setIfInBounds d x | none => a.tmps) := by cases d <;> rfl
theorem put_defers (a : Act) (d : Option Nat) (x : Value) : (a.put d x).defers = a.defers := by cases d <;> rfl

section
variable {P : Program} {B B' : Bs} {P' : AProg} {nt : Nat} {pd : List (Nat × Nat)} {fr : Fr} {s s1 : ASt} {a : Act} {w w' : World} {G G' : Gh}

theorem RI.put (h : RI P B P' nt pd fr s a w G B') (hle : G.le G') (hI : Inv P B' G' s1 w') {d : Option Nat} (hd : ∀ e, d = some e → e < nt) {v : AV} {x : Value} (r : R G' (.v v x)) :
    RI P B P' nt (dropPend d pd) { fr with env := updO fr.env d v } s1 (a.put d x) w' G' B' where
  ext := h.ext
  inv := hI
  pend := by rw [put_tmps]; exact h.pend.put d x
  env := (h.env.mono hle).putO hd r
  glob := h.glob.mono hle
  ds := by rw [put_defers]; exact h.ds.mono hle

/-- What an operation was cooked from. -/
structure Cooked (P : Program) (h : Hint) (all : Array Oper) (o : Oper) (ai : AI) : Prop where
  d : ai.d = o.dst
  op : ai.op = .bad ∨ cookOp P h o.dst o.op = some ai.op
  gd : match o.guard with | none => ai.gd = none | some (j, b) => ∃ t, (all[j]?).bind (·.dst) = some t ∧ ai.gd = some (t, b)

theorem wanted_ok {h : Hint} {all : Array Oper} {o : Oper} {ai : AI} (hc : Cooked P h all o ai) (hE : EnvOk G nt fr.env a.tmps) {b : Bool} (hw : wanted fr.env ai.gd = some b) : Region.wanted o (yielded all a.tmps) = b := by
  have hg := hc.gd
  unfold Region.wanted
  cases hgo : o.guard with
  | none =>
    rw [hgo] at hg
    rw [hg] at hw
    simp [wanted] at hw
    simp [hw]
  | some jb =>
    obtain ⟨j, b'⟩ := jb
    rw [hgo] at hg
    obtain ⟨t, ht, hg⟩ := hg
    rw [hg] at hw
    have hr := hE.2 t
    simp only [wanted] at hw
    simp only [yielded, ht, Option.bind_some]
    have hget : a.tmps.getD t undef = (a.tmps[t]?).getD undef := by simp [Array.getD_eq_getD_getElem?]
    rw [hget] at hr
    split at hw
    · rename_i c hc'
      rw [hc'] at hr
      cases hw
      cases hx : a.tmps[t]? with
      | none => rw [hx] at hr; cases hr
      | some x =>
        rw [hx] at hr
        simp only [Option.getD_some] at hr
        cases hr
        simp
    · rename_i hc'
      rw [hc'] at hr
      cases hw
      cases hx : a.tmps[t]? with
      | none => simp
      | some x =>
        rw [hx] at hr
        simp only [Option.getD_some] at hr
        cases hr
        simp
    · cases hw

/-- One operation. -/
def Step1 (rd : Option Nat) (P : Program) (all : Array Oper) (o : Oper) (a : Act) (w : World) (K : Act → World → Prop) (Q : Exit → Act → World → Prop) : Prop :=
  if Region.wanted o (yielded all a.tmps) then o.wpIn (FR P rd) 0 P a w K Q else (∀ f, o.about P w a.eval = some f → (FR P rd).fn f) ∧ K (a.put o.dst undef) w

theorem step_value {o : Oper} (hab : ∀ f, o.about P w a.eval = some f → ∃ fn, P.funcs[f]? = some fn) {rd : Option Nat} {all : Array Oper} {K : Act → World → Prop} {Q : Exit → Act → World → Prop} (hw : Region.wanted o (yielded all a.tmps) = true) (hd : ∀ c, o.op ≠ .defer c) {n : Next} {x : Value}
    (hr : (execOp a.eval o).run P w = .ok n w') (hn : n = .value x ∨ (n = .skip ∧ x = undef)) (hk : K (a.put o.dst x) w') : Step1 rd P all o a w K Q := by
  unfold Step1
  rw [if_pos hw]
  refine ⟨hab, ?_⟩
  rw [Oper.semAt_eq _ _ _ hd, hr]
  rcases hn with rfl | ⟨rfl, rfl⟩ <;> exact hk

theorem step_upon {o : Oper} (hab : ∀ f, o.about P w a.eval = some f → ∃ fn, P.funcs[f]? = some fn) {rd : Option Nat} {all : Array Oper} {K : Act → World → Prop} {Q : Exit → Act → World → Prop} (hw : Region.wanted o (yielded all a.tmps) = true) (hd : ∀ c, o.op ≠ .defer c) {R : Ending → World → Prop}
    (hr : Upon P (execOp a.eval o) w R) (hk : ∀ x w', R (.returned x) w' → K (a.put o.dst x) w') (hp : ∀ c w', R (.panicked c) w' → Q (.panic c) a w') (ho : ∀ w', ¬ R .outgrown w') : Step1 rd P all o a w K Q := by
  unfold Step1
  rw [if_pos hw]
  refine ⟨hab, ?_⟩
  obtain ⟨n, w1, hrun, hn⟩ := hr
  rw [Oper.semAt_eq _ _ _ hd, hrun]
  cases n <;> first | exact hn.elim | skip
  · exact hk _ _ hn
  · refine ⟨fun h => ?_, FR_calls (hn.mono fun e w2 h => ?_)⟩
    · simp [FR, FV] at h
    · cases e with
      | returned v => exact hk _ _ h
      | panicked c => exact hp _ _ h
      | outgrown => exact absurd h (ho _)

theorem step_round {o : Oper} (hab : ∀ f, o.about P w a.eval = some f → ∃ fn, P.funcs[f]? = some fn) {rd : Option Nat} {all : Array Oper} {K : Act → World → Prop} {Q : Exit → Act → World → Prop} (hw : Region.wanted o (yielded all a.tmps) = true) (hd : ∀ c, o.op ≠ .defer c) {R : Ending → World → Prop} {l : Nat} {f : FuncId} {tmps : Array Value} {as bd : Code}
    (hr : (execOp a.eval o).run P w = .ok (.round l f tmps as bd) w) (h : RoundIn (FV P) 0 P l f tmps as bd w R) (hk : ∀ x w', R (.returned x) w' → K (a.put o.dst x) w') (hp : ∀ c w', R (.panicked c) w' → Q (.panic c) a w') (ho : ∀ w', ¬ R .outgrown w') : Step1 rd P all o a w K Q := by
  unfold Step1
  rw [if_pos hw]
  refine ⟨hab, ?_⟩
  rw [Oper.semAt_eq _ _ _ hd, hr]
  refine ⟨fun h => ?_, FR_round (h.mono fun e w2 h => ?_)⟩
  · simp [FR, FV] at h
  · cases e with
    | returned v => exact hk _ _ h
    | panicked c => exact hp _ _ h
    | outgrown => exact absurd h (ho _)

end
end Go.Fw
