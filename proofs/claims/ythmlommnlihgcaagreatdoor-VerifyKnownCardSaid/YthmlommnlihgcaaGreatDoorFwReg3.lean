/- The framework, part 6c: calls in a region, and each operation's step. -/
import Derived.Test.YthmlommnlihgcaaGreatDoorFwReg2
namespace Go.Fw
open Go

/-! ### Values that mention no place -/
def pureSh : Sh → Bool
  | .v a _ => pureV a
  | .l as _ => pureL as
  | .k as _ => pureL as
  | .c a _ => pureV a
  | .r _ as _ _ => pureL as

def noLH (G : Gh) : Prop := (∀ l b, G.L l ≠ some b) ∧ ∀ t n x, G.H t n ≠ some x

theorem R.swap {G : Gh} {L : Nat → Option Nat} {H : Nat → Nat → Option (Nat × Nat × Nat)} {sh : Sh} (r : R G sh) (h : pureSh sh = true ∨ noLH G) : R ⟨G.M, L, H⟩ sh := by
  have own : ∀ {o : Own} {xs : List AV} {sz : Nat} {A : Option Addr} {n c : Nat}, (pureV (.slice sz xs o) = true ∨ noLH G) → ownOk G o A sz n c → ownOk ⟨G.M, L, H⟩ o A sz n c := by
    intro o xs sz A n c hh ho
    cases o with
    | no => trivial
    | full => exact ho
    | lit => exact ho
    | tok t =>
      rcases hh with hh | hh
      · simp [pureV] at hh
      · obtain ⟨b, _, h2⟩ := ho; exact absurd h2 (hh.2 _ _ _)
  have noL : ∀ {l b : Nat} {X : Prop}, noLH G → G.L l = some b → X := fun hh e => absurd e (hh.1 _ _)
  induction r with
  | int h' => exact .int h'
  | bool b => exact .bool b
  | str s hs => exact .str s hs
  | sliceE hm ho => exact .sliceE hm (own h ho)
  | sliceN hc hm _ ho ih =>
    refine .sliceN hc hm (ih ?_) (own h ho)
    rcases h with h | h
    · left
      simp only [pureSh, pureV] at h ⊢
      split at h
      · cases h
      · exact h
    · exact .inr h
  | ms hL hc hm => rcases h with h | h; simp [pureSh, pureV] at h; exact noL h hL
  | agg _ ih => exact .agg (ih (by simpa [pureSh, pureV] using h))
  | tuple _ ih => exact .tuple (ih (by simpa [pureSh, pureV] using h))
  | nilptr => exact .nilptr
  | ptr off hL => rcases h with h | h; simp [pureSh, pureV] at h; exact noL h hL
  | cptr off _ hM ih => exact .cptr off (ih (by simpa [pureSh, pureV] using h)) hM
  | func _ _ ha hb =>
    simp only [pureSh, pureV, Bool.and_eq_true] at h
    exact .func (ha (by rcases h with h | h; exact .inl h.1; exact .inr h)) (hb (by rcases h with h | h; exact .inl h.2; exact .inr h))
  | nilfunc => exact .nilfunc
  | yield hL => rcases h with h | h; simp [pureSh, pureV] at h; exact noL h hL
  | map hL => rcases h with h | h; simp [pureSh, pureV] at h; exact noL h hL
  | nilmap => exact .nilmap
  | iface _ ih => exact .iface (ih (by simpa [pureSh, pureV] using h))
  | niliface => exact .niliface
  | iter hL => rcases h with h | h; simp [pureSh, pureV] at h; exact noL h hL
  | junk x => exact .junk x
  | lnil => exact .lnil
  | lcons _ _ h1 h2 =>
    simp only [pureSh, pureL, Bool.and_eq_true] at h h1 h2
    exact .lcons (h1 (by rcases h with h | h; exact .inl h.1; exact .inr h)) (h2 (by rcases h with h | h; exact .inl h.2; exact .inr h))
  | knil => exact .knil
  | kcons _ hc _ h1 h2 =>
    simp only [pureSh, pureL, Bool.and_eq_true] at h h1 h2
    exact .kcons (h1 (by rcases h with h | h; exact .inl h.1; exact .inr h)) hc (h2 (by rcases h with h | h; exact .inl h.2; exact .inr h))
  | cagg _ ih => exact .cagg (ih (by simpa [pureSh, pureV] using h))
  | cone ha h1 _ ih => exact .cone ha h1 (ih h)
  | rnil sz b o => exact .rnil sz b o
  | rcons _ hl hM _ h1 h2 =>
    simp only [pureSh, pureL, Bool.and_eq_true] at h h1 h2
    exact .rcons (h1 (by rcases h with h | h; exact .inl h.1; exact .inr h)) hl hM (h2 (by rcases h with h | h; exact .inl h.2; exact .inr h))

section
variable {P : Program} {B B' : Bs} {P' : AProg} {nt : Nat} {pd : List (Nat × Nat)} {fr : Fr} {s s1 : ASt} {a : Act} {w w' : World} {G G' : Gh}

theorem Inv.noLH_of (h : Inv P B G s w) (he : isE s = true) : noLH G := by
  unfold isE at he
  split at he
  · rename_i h1 h2
    refine ⟨fun l b hl => ?_, fun t n x hx => ?_⟩
    · have := (h.l l b hl).1; rw [h1] at this; simp at this
    · obtain ⟨n0, h3, _⟩ := h.hh t n x hx; rw [h2] at h3; simp at h3
  · cases he

/-- The empty store in any world: everything that is there is guarded. -/
def bareG (G : Gh) : Gh := ⟨G.M, fun _ => none, fun _ _ => none⟩
def bareB (w : World) (G : Gh) : Bs := ⟨fun b => b < w.heap.size, w, G.M, fun _ h => h⟩

theorem Inv.bare (h : Inv P B G s w) : Inv P (bareB w G) (bareG G) emptyS w where
  os := rfl
  tape := rfl
  output := rfl
  size := Nat.le_refl _
  pr := fun _ _ => rfl
  prM := fun _ _ _ => rfl
  m := h.m
  l := fun _ _ h => by cases h
  inj := fun _ _ _ h => by cases h
  blk := fun _ _ _ _ h => by cases h
  tok := fun t n h => by simp [emptyS] at h
  tinj := fun _ _ _ _ _ _ _ _ _ h => by simp [emptyS] at h
  hh := fun _ _ _ h => by cases h
  tot := fun _ h => absurd h (Nat.not_lt_zero _)

/-- Back from it. -/
theorem Inv.unbare (h : Inv P B G s w) {G2 : Gh} {s2 : ASt} (hle : (bareG G).le G2) (h2 : Inv P (bareB w G) G2 s2 w') : Quiet G w ⟨G2.M, G.L, G.H⟩ w' where
  le := ⟨hle.M, fun _ _ h => h, fun _ _ _ h => h⟩
  L := fun _ => rfl
  H := fun _ _ => rfl
  os := h2.os
  tape := h2.tape
  output := h2.output
  size := h2.size
  keep := fun b hb => h2.pr b hb
  old := fun b hb o => h2.prM b hb o
  new := fun b o x _ hx => h2.m b o x hx

theorem GlobOk.bare (h : GlobOk P' G) (hp : ∀ g, pureV (P'.gl g) = true) : GlobOk P' (bareG G) := fun g => (h g).swap (.inl (by simpa [pureSh, pureV] using hp g))

end
end Go.Fw
