/- The framework, part 6: a region's operations, one by one. -/
import Derived.Test.YthmlommnlihgcaaGreatDoorFwOps12
namespace Go.Fw
open Go
section
variable {P : Program} {B : Bs} {G : Gh} {s s1 : ASt} {w : World} {P' : AProg} {env : Env} {ρ : Operand → Value}

theorem fixvs_ok : ∀ {as as' : List AV} {s s1 : ASt} {G : Gh} {xs : List Value}, Inv P B G s w → R G (.l as xs) → fixvs s as = some (as', s1) → ∃ G', G.le G' ∧ Inv P B G' s1 w ∧ R G' (.l as' xs)
  | [], as', s, s1, G, xs, hI, r, h => by simp [fixvs] at h; obtain ⟨rfl, rfl⟩ := h; exact ⟨G, .refl _, hI, r⟩
  | a :: as, as', s, s1, G, xs, hI, r, h => by
    cases r with
    | lcons r1 r2 =>
      simp only [fixvs] at h
      split at h
      · cases h
      · rename_i y s2 hy
        split at h
        · cases h
        · rename_i ys s3 hys
          cases h
          obtain ⟨G1, h1, h2, h3⟩ := fixv_ok hI r1 hy
          obtain ⟨G2, k1, k2, k3⟩ := fixvs_ok h2 (r2.mono h1) hys
          exact ⟨G2, h1.trans k1, k2, .lcons (h3.mono k1) k3⟩

/-! ### Blocks that nobody holds yet -/
structure Bs.ext (B B' : Bs) : Prop where
  pr : ∀ b, B.Pr b → B'.Pr b
  os : B'.w0.os = B.w0.os
  tape : B'.w0.tape = B.w0.tape
  output : B'.w0.output = B.w0.output
  size : B.w0.heap.size ≤ B'.w0.heap.size
  heap : ∀ b, B.Pr b → B'.w0.heap[b]? = B.w0.heap[b]?
  M0 : ∀ b, B.Pr b → ∀ o, B'.M0 b o = B.M0 b o

theorem Bs.ext.refl (B : Bs) : B.ext B := ⟨fun _ h => h, rfl, rfl, rfl, Nat.le_refl _, fun _ _ => rfl, fun _ _ _ => rfl⟩

theorem Inv.base {B' : Bs} (h : Inv P B' G s w) (e : B.ext B') : Inv P B G s w where
  os := h.os.trans e.os
  tape := h.tape.trans e.tape
  output := h.output.trans e.output
  size := Nat.le_trans e.size h.size
  pr := fun b hb => (h.pr b (e.pr b hb)).trans (e.heap b hb)
  prM := fun b hb o => (h.prM b (e.pr b hb) o).trans (e.M0 b hb o)
  m := h.m
  l := fun ℓ b hl => ⟨(h.l ℓ b hl).1, (h.l ℓ b hl).2.1, fun hp => (h.l ℓ b hl).2.2 (e.pr b hp)⟩
  inj := h.inj
  blk := h.blk
  tok := fun t n ht => by
    obtain ⟨b, c, sz, k⟩ := h.tok t n ht
    exact ⟨b, c, sz, k.h, fun hp => k.np (e.pr b hp), k.lt, k.blk, k.szp, k.nc, k.cm, k.m, k.l⟩
  tinj := h.tinj
  hh := h.hh
  tot := h.tot

/-- The world now as the base, with more that is guarded. -/
def Bs.now (_ : Bs) (w : World) (G : Gh) (Pr : Nat → Prop) (lt : ∀ b, Pr b → b < w.heap.size) : Bs := ⟨Pr, w, G.M, lt⟩

theorem Inv.rebase (h : Inv P B G s w) (Pr : Nat → Prop) (lt : ∀ b, Pr b → b < w.heap.size) (hl : ∀ ℓ b, G.L ℓ = some b → ¬ Pr b) (ht : ∀ t n b c sz, s.toks[t]? = some n → G.H t n = some (b, c, sz) → ¬ Pr b) :
    Inv P (B.now w G Pr lt) G s w where
  os := rfl
  tape := rfl
  output := rfl
  size := Nat.le_refl _
  pr := fun _ _ => rfl
  prM := fun _ _ _ => rfl
  m := h.m
  l := fun ℓ b hl' => ⟨(h.l ℓ b hl').1, (h.l ℓ b hl').2.1, hl ℓ b hl'⟩
  inj := h.inj
  blk := h.blk
  tok := fun t n ht' => by
    obtain ⟨b, c, sz, k⟩ := h.tok t n ht'
    exact ⟨b, c, sz, k.h, ht t n b c sz ht' k.h, k.lt, k.blk, k.szp, k.nc, k.cm, k.m, k.l⟩
  tinj := h.tinj
  hh := h.hh
  tot := h.tot

theorem Inv.ext_now {B' : Bs} (h : Inv P B' G s w) (e : B.ext B') (Pr : Nat → Prop) (lt : ∀ b, Pr b → b < w.heap.size) (hp : ∀ b, B.Pr b → Pr b) : B.ext (B'.now w G Pr lt) where
  pr := hp
  os := h.os.trans e.os
  tape := h.tape.trans e.tape
  output := h.output.trans e.output
  size := Nat.le_trans e.size h.size
  heap := fun b hb => (h.pr b (e.pr b hb)).trans (e.heap b hb)
  M0 := fun b hb o => (h.prM b (e.pr b hb) o).trans (e.M0 b hb o)

/-- The variables that wait to be filled. -/
structure Pend (B B' : Bs) (pd : List (Nat × Nat)) (tmps : Array Value) : Prop where
  at_ : ∀ d n, (d, n) ∈ pd → ∃ b e vs, tmps.getD d undef = .pointer (some ⟨b, 0, none⟩) ∧ ¬ B.Pr b ∧ B'.Pr b ∧ B'.w0.heap[b]? = some (.cells (List.toArray vs) e (0, 0)) ∧ vs.length = n ∧ ∀ o, B'.M0 b o = none
  inj : ∀ d n d' n' b, (d, n) ∈ pd → (d', n') ∈ pd → tmps.getD d undef = .pointer (some ⟨b, 0, none⟩) → tmps.getD d' undef = .pointer (some ⟨b, 0, none⟩) → d = d'

theorem Pend.nil {B' : Bs} {tmps : Array Value} : Pend B B' [] tmps := ⟨fun _ _ h => (by cases h), fun _ _ _ _ _ h => (by cases h)⟩

theorem getD_put {tmps : Array Value} {d i : Nat} {v : Value} (h : i ≠ d) : (tmps.setIfInBounds d v).getD i undef = tmps.getD i undef := by
  simp [Array.getD_eq_getD_getElem?, Array.getElem?_setIfInBounds_ne (Ne.symm h)]
theorem getD_put_same {tmps : Array Value} {d : Nat} {v : Value} (h : d < tmps.size) : (tmps.setIfInBounds d v).getD d undef = v := by
  simp [Array.getD_eq_getD_getElem?, h]

theorem mem_dropPend {d : Option Nat} {pd : List (Nat × Nat)} {x : Nat × Nat} (h : x ∈ dropPend d pd) : x ∈ pd ∧ ∀ e, d = some e → x.1 ≠ e := by
  unfold dropPend at h
  split at h
  · exact ⟨h, fun e he => by cases he⟩
  · rename_i d
    rw [List.mem_filter] at h
    refine ⟨h.1, fun e he => ?_⟩
    cases he
    intro q
    rw [q] at h
    simp at h

theorem Pend.put {B' : Bs} {pd : List (Nat × Nat)} {tmps : Array Value} (h : Pend B B' pd tmps) (d : Option Nat) (v : Value) : Pend B B' (dropPend d pd) (match d with | some d => tmps.setIfInBounds d v | none => tmps) := by
  have hg : ∀ x, x ∈ dropPend d pd → (match d with | some d => tmps.setIfInBounds d v | none => tmps).getD x.1 undef = tmps.getD x.1 undef := by
    intro x hx
    cases d with
    | none => rfl
    | some d => exact getD_put ((mem_dropPend hx).2 d rfl)
  refine ⟨fun e n he => ?_, fun e n e' n' b h1 h2 h3 h4 => ?_⟩
  · rw [hg _ he]; exact h.at_ e n (mem_dropPend he).1
  · rw [hg _ h1] at h3; rw [hg _ h2] at h4
    exact h.inj e n e' n' b (mem_dropPend h1).1 (mem_dropPend h2).1 h3 h4

end
end Go.Fw
