/- The framework: rules for walking cooked code by hand, over the interpreter. -/
import Derived.Test.YthmlommnlihgcaaGreatDoorFwCore
namespace Go.Fw
open Go

/-- What a frame's code comes to, with enough rounds. -/
structure Wops (H : Handler) (P : AProg) (is : List AI) (pd : List (Nat × Nat)) (fr : Fr) (s : ASt) (Q : OpsR → Prop) : Prop where
  out : ∃ r, evOps H P is pd fr s = some r ∧ Q r

section
variable {H : Handler} {P : AProg} {i : AI} {d : Option Nat} {op : AOp} {gd : Option (Nat × Bool)} {pre : List Nat} {rest : List AI} {pd : List (Nat × Nat)} {fr : Fr} {e : Env} {ds : List ADef} {s : ASt} {Q : OpsR → Prop} {v : AV}

theorem wops_nil (h : Q (.norm fr s)) : Wops H P [] pd fr s Q := ⟨⟨_, rfl, h⟩⟩

/-- Is this one of the operations that are taken by 'aopP', 'aopR', 'aopW'? -/
def plainOp : AOp → Bool
  | .pend _ | .shut .. | .defer .. | .panic _ | .callP .. | .call .. => false
  | _ => true

theorem wops_P (hp : plainOp op = true) (hg : wanted e gd = some true) (h : aopP P e op = some v)
    (k : Wops H P rest (dropPend d pd) ⟨updO e d v, ds⟩ s Q) : Wops H P (⟨d, op, gd, pre⟩ :: rest) pd ⟨e, ds⟩ s Q := by
  obtain ⟨⟨r, hr, hq⟩⟩ := k
  refine ⟨⟨r, ?_, hq⟩⟩
  simp only [evOps, hg]
  cases op <;> simp_all [plainOp]

theorem wops_R (hp : plainOp op = true) (hg : wanted e gd = some true) (h0 : aopP P e op = none) (h : aopR P e s op = some v)
    (k : Wops H P rest (dropPend d pd) ⟨updO e d v, ds⟩ s Q) : Wops H P (⟨d, op, gd, pre⟩ :: rest) pd ⟨e, ds⟩ s Q := by
  obtain ⟨⟨r, hr, hq⟩⟩ := k
  refine ⟨⟨r, ?_, hq⟩⟩
  simp only [evOps, hg]
  cases op <;> simp_all [plainOp]

theorem wops_W {s1 : ASt} (hp : plainOp op = true) (hg : wanted e gd = some true) (h0 : aopP P e op = none) (h1 : aopR P e s op = none) (h : aopW P e s op = some (v, s1))
    (k : Wops H P rest (dropPend d pd) ⟨updO e d v, ds⟩ s1 Q) : Wops H P (⟨d, op, gd, pre⟩ :: rest) pd ⟨e, ds⟩ s Q := by
  obtain ⟨⟨r, hr, hq⟩⟩ := k
  refine ⟨⟨r, ?_, hq⟩⟩
  simp only [evOps, hg]
  cases op <;> simp_all [plainOp]

theorem wops_skip (hg : wanted e gd = some false) (hk : skipD P e op = true)
    (k : Wops H P rest (dropPend d pd) ⟨updO e d undefA, ds⟩ s Q) : Wops H P (⟨d, op, gd, pre⟩ :: rest) pd ⟨e, ds⟩ s Q := by
  obtain ⟨⟨r, hr, hq⟩⟩ := k
  exact ⟨⟨r, by simp only [evOps, hg, hk]; exact hr, hq⟩⟩

end

structure Wc (H : Handler) (P : AProg) (rd : Option Nat) (lf : Nat) (c : AC) (fr : Fr) (s : ASt) (Q : AExit → Fr → ASt → Prop) : Prop where
  out : ∃ r, evC H P rd lf c fr s = some r ∧ Q r.ex r.fr r.s

section
variable {H : Handler} {P : AProg} {rd : Option Nat} {lf : Nat} {fr : Fr} {s : ASt} {Q : AExit → Fr → ASt → Prop}

theorem wc_skip (h : Q .normal fr s) : Wc H P rd lf .skip fr s Q := ⟨⟨_, rfl, h⟩⟩
theorem wc_ret (h : Q .ret fr s) : Wc H P rd lf .ret fr s Q := ⟨⟨_, rfl, h⟩⟩
theorem wc_exit {id : Nat} (h : Q (.exit id) fr s) : Wc H P rd lf (.exit id) fr s Q := ⟨⟨_, rfl, h⟩⟩

def thenC (k : Fr → ASt → Prop) (Q : AExit → Fr → ASt → Prop) : AExit → Fr → ASt → Prop
  | .normal, fr, s => k fr s
  | e, fr, s => Q e fr s

theorem wc_seq {a b : AC} (h : Wc H P rd lf a fr s (thenC (fun fr s => Wc H P rd lf b fr s Q) Q)) : Wc H P rd lf (.seq a b) fr s Q := by
  obtain ⟨⟨⟨ex, fr1, s1⟩, h1, h2⟩⟩ := h
  cases ex with
  | normal => obtain ⟨⟨r, h3, h4⟩⟩ := h2; exact ⟨⟨r, by simp only [evC, h1]; exact h3, h4⟩⟩
  | exit id => exact ⟨⟨⟨.exit id, fr1, s1⟩, by simp only [evC, h1], h2⟩⟩
  | ret => exact ⟨⟨⟨.ret, fr1, s1⟩, by simp only [evC, h1], h2⟩⟩
  | panic v => exact ⟨⟨⟨.panic v, fr1, s1⟩, by simp only [evC, h1], h2⟩⟩

theorem wc_cond {c : AOpnd} {t f : AC} {b : Bool} (hb : evO P fr.env c = .bool b) (ht : b = true → Wc H P rd lf t fr s Q) (hf : b = false → Wc H P rd lf f fr s Q) : Wc H P rd lf (.cond c t f) fr s Q := by
  cases b with
  | true => obtain ⟨⟨r, h1, h2⟩⟩ := ht rfl; exact ⟨⟨r, by simp only [evC, hb]; exact h1, h2⟩⟩
  | false => obtain ⟨⟨r, h1, h2⟩⟩ := hf rfl; exact ⟨⟨r, by simp only [evC, hb]; exact h1, h2⟩⟩

def opsQ (Q : AExit → Fr → ASt → Prop) : OpsR → Prop
  | .norm fr s => Q .normal fr s
  | .pan v fr s => Q (.panic v) fr s

theorem wc_reg {dr : Bool} {ops : List AI} (h : Wops H P ops [] fr s (opsQ Q)) : Wc H P rd lf (.reg dr ops) fr s Q := by
  obtain ⟨⟨r, h1, h2⟩⟩ := h
  cases r with
  | norm fr s => exact ⟨⟨⟨.normal, fr, s⟩, by simp only [evC, h1], h2⟩⟩
  | pan v fr s => exact ⟨⟨⟨.panic v, fr, s⟩, by simp only [evC, h1], h2⟩⟩

def blockQ (id : Nat) (Q : AExit → Fr → ASt → Prop) : AExit → Fr → ASt → Prop
  | .exit j, fr, s => match Nat.beq j id with | true => Q .normal fr s | false => Q (.exit j) fr s
  | e, fr, s => Q e fr s

theorem wc_block {id : Nat} {b : AC} (h : Wc H P rd lf b fr s (blockQ id Q)) : Wc H P rd lf (.block id b) fr s Q := by
  obtain ⟨⟨⟨ex, fr1, s1⟩, h1, h2⟩⟩ := h
  cases ex with
  | normal => exact ⟨⟨⟨.normal, fr1, s1⟩, by simp only [evC, h1], h2⟩⟩
  | exit j =>
    simp only [blockQ] at h2
    cases hj : Nat.beq j id with
    | true => rw [hj] at h2; exact ⟨⟨⟨.normal, fr1, s1⟩, by simp only [evC, h1, hj], h2⟩⟩
    | false => rw [hj] at h2; exact ⟨⟨⟨.exit j, fr1, s1⟩, by simp only [evC, h1, hj], h2⟩⟩
  | ret => exact ⟨⟨⟨.ret, fr1, s1⟩, by simp only [evC, h1], h2⟩⟩
  | panic v => exact ⟨⟨⟨.panic v, fr1, s1⟩, by simp only [evC, h1], h2⟩⟩

end
end Go.Fw
