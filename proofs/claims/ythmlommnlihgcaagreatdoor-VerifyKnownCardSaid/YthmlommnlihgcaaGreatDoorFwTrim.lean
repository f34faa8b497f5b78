/- The framework, part 9: what is dropped behind a call. -/
import Derived.Test.YthmlommnlihgcaaGreatDoorFwLow
import Derived.Test.YthmlommnlihgcaaGreatDoorFwOps9
namespace Go.Fw
open Go

def Gh.cutB (n : Nat) (G : Gh) : Gh := ⟨G.M, fun l => if l < n then G.L l else none, G.H⟩
def Gh.cutT (n : Nat) (G : Gh) : Gh := ⟨G.M, G.L, fun t m => if t < n then G.H t m else none⟩

def belBS (n : Nat) : Sh → Bool
  | .v a _ => belB n a
  | .l as _ => belBL n as
  | .k as _ => belBL n as
  | .c a _ => belB n a
  | .r _ as _ _ => belBL n as
def belTS (n : Nat) : Sh → Bool
  | .v a _ => belT n a
  | .l as _ => belTL n as
  | .k as _ => belTL n as
  | .c a _ => belT n a
  | .r _ as _ _ => belTL n as

theorem R.cutB {G : Gh} {n : Nat} {sh : Sh} (r : R G sh) (h : belBS n sh = true) : R (G.cutB n) sh := by
  have hL : ∀ {l b : Nat}, Nat.blt l n = true → G.L l = some b → (G.cutB n).L l = some b := fun hl hb => by
    simp only [Nat.blt_eq] at hl
    simp [Gh.cutB, hl, hb]
  have hO : ∀ {o A sz m c}, ownOk G o A sz m c → ownOk (G.cutB n) o A sz m c := by
    intro o A sz m c ho
    cases o <;> exact ho
  induction r with
  | int h' => exact .int h'
  | bool b => exact .bool b
  | str s hs => exact .str s hs
  | sliceE hm ho => exact .sliceE hm (hO ho)
  | sliceN hc hm _ ho ih => exact .sliceN hc hm (ih (by simpa [belBS, belB] using h)) (hO ho)
  | ms hL' hc hm => exact .ms (hL (by simpa [belBS, belB] using h) hL') hc hm
  | agg _ ih => exact .agg (ih (by simpa [belBS, belB] using h))
  | tuple _ ih => exact .tuple (ih (by simpa [belBS, belB] using h))
  | nilptr => exact .nilptr
  | ptr off hL' => exact .ptr off (hL (by simpa [belBS, belB] using h) hL')
  | cptr off _ hM ih => exact .cptr off (ih (by simpa [belBS, belB] using h)) hM
  | func _ _ ha hb => simp only [belBS, belB, Bool.and_eq_true] at h; exact .func (ha h.1) (hb h.2)
  | nilfunc => exact .nilfunc
  | yield hL' => exact .yield (hL (by simpa [belBS, belB] using h) hL')
  | map hL' => exact .map (hL (by simpa [belBS, belB] using h) hL')
  | nilmap => exact .nilmap
  | iface _ ih => exact .iface (ih (by simpa [belBS, belB] using h))
  | niliface => exact .niliface
  | iter hL' => exact .iter (hL (by simpa [belBS, belB] using h) hL')
  | junk x => exact .junk x
  | lnil => exact .lnil
  | lcons _ _ h1 h2 => simp only [belBS, belBL, Bool.and_eq_true] at h; exact .lcons (h1 h.1) (h2 h.2)
  | knil => exact .knil
  | kcons _ hc _ h1 h2 => simp only [belBS, belBL, Bool.and_eq_true] at h; exact .kcons (h1 h.1) hc (h2 h.2)
  | cagg _ ih => exact .cagg (ih (by simpa [belBS, belB] using h))
  | cone ha h1 _ ih => exact .cone ha h1 (ih h)
  | rnil sz b o => exact .rnil sz b o
  | rcons _ hl hM _ h1 h2 => simp only [belBS, belBL, Bool.and_eq_true] at h; exact .rcons (h1 h.1) hl hM (h2 h.2)

theorem R.cutT {G : Gh} {n : Nat} {sh : Sh} (r : R G sh) (h : belTS n sh = true) : R (G.cutT n) sh := by
  have hO : ∀ {xs : List AV} {o A sz m c}, belT n (.slice sz xs o) = true → ownOk G o A sz m c → ownOk (G.cutT n) o A sz m c := by
    intro xs o A sz m c hb ho
    cases o with
    | no => trivial
    | full => exact ho
    | lit => exact ho
    | tok t =>
      simp only [belT, Bool.and_eq_true, Nat.blt_eq] at hb
      obtain ⟨b, h1, h2⟩ := ho
      exact ⟨b, h1, by simp [Gh.cutT, hb.1, h2]⟩
  induction r with
  | int h' => exact .int h'
  | bool b => exact .bool b
  | str s hs => exact .str s hs
  | sliceE hm ho => exact .sliceE hm (hO h ho)
  | sliceN hc hm _ ho ih =>
    refine .sliceN hc hm (ih ?_) (hO h ho)
    simp only [belTS, belT, Bool.and_eq_true] at h ⊢; exact h.2
  | ms hL' hc hm => exact .ms hL' hc hm
  | agg _ ih => exact .agg (ih (by simpa [belTS, belT] using h))
  | tuple _ ih => exact .tuple (ih (by simpa [belTS, belT] using h))
  | nilptr => exact .nilptr
  | ptr off hL' => exact .ptr off hL'
  | cptr off _ hM ih => exact .cptr off (ih (by simpa [belTS, belT] using h)) hM
  | func _ _ ha hb => simp only [belTS, belT, Bool.and_eq_true] at h; exact .func (ha h.1) (hb h.2)
  | nilfunc => exact .nilfunc
  | yield hL' => exact .yield hL'
  | map hL' => exact .map hL'
  | nilmap => exact .nilmap
  | iface _ ih => exact .iface (ih (by simpa [belTS, belT] using h))
  | niliface => exact .niliface
  | iter hL' => exact .iter hL'
  | junk x => exact .junk x
  | lnil => exact .lnil
  | lcons _ _ h1 h2 => simp only [belTS, belTL, Bool.and_eq_true] at h; exact .lcons (h1 h.1) (h2 h.2)
  | knil => exact .knil
  | kcons _ hc _ h1 h2 => simp only [belTS, belTL, Bool.and_eq_true] at h; exact .kcons (h1 h.1) hc (h2 h.2)
  | cagg _ ih => exact .cagg (ih (by simpa [belTS, belT] using h))
  | cone ha h1 _ ih => exact .cone ha h1 (ih h)
  | rnil sz b o => exact .rnil sz b o
  | rcons _ hl hM _ h1 h2 => simp only [belTS, belTL, Bool.and_eq_true] at h; exact .rcons (h1 h.1) hl hM (h2 h.2)

/-- What is represented bears known places alone. -/
theorem R.belB {G : Gh} {n : Nat} (hn : ∀ l b, G.L l = some b → l < n) {sh : Sh} (r : R G sh) : belBS n sh = true := by
  induction r with
  | ms hL' hc hm => simpa [belBS, Fw.belB] using hn _ _ hL'
  | ptr off hL' => simpa [belBS, Fw.belB] using hn _ _ hL'
  | yield hL' => simpa [belBS, Fw.belB] using hn _ _ hL'
  | map hL' => simpa [belBS, Fw.belB] using hn _ _ hL'
  | iter hL' => simpa [belBS, Fw.belB] using hn _ _ hL'
  | func _ _ ha hb => simp only [belBS, Fw.belB, Bool.and_eq_true] at *; exact ⟨ha, hb⟩
  | lcons _ _ h1 h2 => simp only [belBS, belBL, Bool.and_eq_true] at *; exact ⟨h1, h2⟩
  | kcons _ hc _ h1 h2 => simp only [belBS, belBL, Bool.and_eq_true] at *; exact ⟨h1, h2⟩
  | rcons _ hl hM _ h1 h2 => simp only [belBS, belBL, Bool.and_eq_true] at *; exact ⟨h1, h2⟩
  | cone ha h1 _ ih => exact ih
  | sliceN hc hm _ ho ih => simpa [belBS, Fw.belB] using ih
  | agg _ ih => simpa [belBS, Fw.belB] using ih
  | tuple _ ih => simpa [belBS, Fw.belB] using ih
  | cptr off _ hM ih => simpa [belBS, Fw.belB] using ih
  | iface _ ih => simpa [belBS, Fw.belB] using ih
  | cagg _ ih => simpa [belBS, Fw.belB] using ih
  | _ => rfl

theorem R.belT {G : Gh} {n : Nat} (hn : ∀ t m x, G.H t m = some x → t < n) {sh : Sh} (r : R G sh) : belTS n sh = true := by
  have hO : ∀ {o A sz m c}, ownOk G o A sz m c → (match o with | .tok t => Nat.blt t n | _ => true) = true := by
    intro o A sz m c ho
    cases o with
    | no => rfl
    | full => rfl
    | lit => rfl
    | tok t => obtain ⟨b, _, h2⟩ := ho; simpa using hn _ _ _ h2
  induction r with
  | sliceE hm ho => simp only [belTS, Fw.belT, belTL, Bool.and_true]; exact hO ho
  | sliceN hc hm _ ho ih => simp only [belTS, Fw.belT, Bool.and_eq_true] at *; exact ⟨hO ho, ih⟩
  | func _ _ ha hb => simp only [belTS, Fw.belT, Bool.and_eq_true] at *; exact ⟨ha, hb⟩
  | lcons _ _ h1 h2 => simp only [belTS, belTL, Bool.and_eq_true] at *; exact ⟨h1, h2⟩
  | kcons _ hc _ h1 h2 => simp only [belTS, belTL, Bool.and_eq_true] at *; exact ⟨h1, h2⟩
  | rcons _ hl hM _ h1 h2 => simp only [belTS, belTL, Bool.and_eq_true] at *; exact ⟨h1, h2⟩
  | cone ha h1 _ ih => exact ih
  | agg _ ih => simpa [belTS, Fw.belT] using ih
  | tuple _ ih => simpa [belTS, Fw.belT] using ih
  | cptr off _ hM ih => simpa [belTS, Fw.belT] using ih
  | iface _ ih => simpa [belTS, Fw.belT] using ih
  | cagg _ ih => simpa [belTS, Fw.belT] using ih
  | _ => rfl

section
variable {P : Program} {B : Bs} {G G3 : Gh} {s s3 : ASt} {w w3 : World}

theorem ObjOk.belB {n b : Nat} {o : Obj} {k : ABlk} (hn : ∀ l b, G.L l = some b → l < n) (h : ObjOk P G b o k) : blkB n k := by
  cases k with
  | cells cs wr => obtain ⟨vs, e, _, h2, _⟩ := h; exact h2.belB hn
  | map es =>
    obtain ⟨ents, clock, h1, h2⟩ := h
    intro p hp
    clear h1
    induction h2 with
    | nil => cases hp
    | cons hk hv _ ih =>
      rcases List.mem_cons.1 hp with rfl | hp
      · exact ⟨hk.belB hn, hv.belB hn⟩
      · exact ih hp
  | loop lp => obtain ⟨L, _, h2⟩ := h; exact ⟨fun i => (h2.env i).belB hn, hn _ _ h2.dq⟩
  | _ => trivial

theorem ObjOk.belT {n b : Nat} {o : Obj} {k : ABlk} (hn : ∀ t m x, G.H t m = some x → t < n) (h : ObjOk P G b o k) : blkT n k := by
  cases k with
  | cells cs wr => obtain ⟨vs, e, _, h2, _⟩ := h; exact h2.belT hn
  | map es =>
    obtain ⟨ents, clock, h1, h2⟩ := h
    intro p hp
    clear h1
    induction h2 with
    | nil => cases hp
    | cons hk hv _ ih =>
      rcases List.mem_cons.1 hp with rfl | hp
      · exact ⟨hk.belT hn, hv.belT hn⟩
      · exact ih hp
  | loop lp => obtain ⟨L, _, h2⟩ := h; exact fun i => (h2.env i).belT hn
  | _ => trivial

theorem ObjOk.cutB {n b : Nat} {o : Obj} {k : ABlk} (h : ObjOk P G b o k) (hk : blkB n k) : ObjOk P (G.cutB n) b o k := by
  cases k with
  | cells cs wr => obtain ⟨vs, e, h1, h2, h3, h4⟩ := h; exact ⟨vs, e, h1, h2.cutB hk, h3, h4⟩
  | map es =>
    obtain ⟨ents, clock, h1, h2⟩ := h
    refine ⟨ents, clock, h1, ?_⟩
    clear h1
    induction h2 with
    | nil => exact .nil
    | cons hk' hv _ ih =>
      have := hk _ (List.mem_cons_self ..)
      exact .cons (hk'.cutB this.1) (hv.cutB this.2) (ih fun p hp => hk p (List.mem_cons_of_mem _ hp))
  | loop lp =>
    obtain ⟨L, h1, h2⟩ := h
    refine ⟨L, h1, h2.st, h2.pend, fun i => (h2.env i).cutB (hk.1 i), h2.params, h2.pok, h2.assign, h2.body, ?_, h2.fnok⟩
    simp [Gh.cutB, hk.2, h2.dq]
  | iter t pos => exact h
  | defq => exact h
  | dead => trivial

theorem ObjOk.cutT {n b : Nat} {o : Obj} {k : ABlk} (h : ObjOk P G b o k) (hk : blkT n k) : ObjOk P (G.cutT n) b o k := by
  cases k with
  | cells cs wr => obtain ⟨vs, e, h1, h2, h3, h4⟩ := h; exact ⟨vs, e, h1, h2.cutT hk, h3, h4⟩
  | map es =>
    obtain ⟨ents, clock, h1, h2⟩ := h
    refine ⟨ents, clock, h1, ?_⟩
    clear h1
    induction h2 with
    | nil => exact .nil
    | cons hk' hv _ ih =>
      have := hk _ (List.mem_cons_self ..)
      exact .cons (hk'.cutT this.1) (hv.cutT this.2) (ih fun p hp => hk p (List.mem_cons_of_mem _ hp))
  | loop lp =>
    obtain ⟨L, h1, h2⟩ := h
    exact ⟨L, h1, h2.st, h2.pend, fun i => (h2.env i).cutT (hk i), h2.params, h2.pok, h2.assign, h2.body, h2.dq, h2.fnok⟩
  | iter t pos => exact h
  | defq => exact h
  | dead => trivial

theorem Inv.cutB (h : Inv P B G s w) {n : Nat} (hk : ∀ (l : Nat) (k : ABlk), l < n → s.blks[l]? = some k → blkB n k) : Inv P B (G.cutB n) { s with blks := s.blks.take n } w := by
  have hL : ∀ {l b}, (G.cutB n).L l = some b → l < n ∧ G.L l = some b := by
    intro l b hl
    simp only [Gh.cutB] at hl
    split at hl
    · exact ⟨by assumption, hl⟩
    · cases hl
  exact {
    os := h.os, tape := h.tape, output := h.output, size := h.size, pr := h.pr, prM := h.prM, m := h.m
    l := fun l b hl => ⟨by have := (h.l l b (hL hl).2).1; have := (hL hl).1; simp; omega, (h.l l b (hL hl).2).2⟩
    inj := fun l l' b h1 h2 => h.inj _ _ _ (hL h1).2 (hL h2).2
    blk := fun l b o k hl ho hk' => by
      obtain ⟨h1, h2⟩ := hL hl
      simp only [List.getElem?_take_of_lt h1] at hk'
      exact (h.blk l b o k h2 ho hk').cutB (hk l k h1 hk')
    tok := fun t m ht => by
      obtain ⟨b, c, sz, k⟩ := h.tok t m ht
      exact ⟨b, c, sz, k.h, k.np, k.lt, k.blk, k.szp, k.nc, k.cm, k.m, fun l hl => k.l l (hL hl).2⟩
    tinj := h.tinj, hh := h.hh
    tot := fun l hl => by
      have hl' : l < n ∧ l < s.blks.length := by simp at hl; omega
      obtain ⟨b, hb⟩ := h.tot l hl'.2
      exact ⟨b, by simp [Gh.cutB, hl'.1, hb]⟩ }

theorem Inv.cutT (h : Inv P B G s w) {n : Nat} (hk : ∀ (l : Nat) (k : ABlk), s.blks[l]? = some k → blkT n k) : Inv P B (G.cutT n) { s with toks := s.toks.take n } w := by
  have hH : ∀ {t m x}, (G.cutT n).H t m = some x → t < n ∧ G.H t m = some x := by
    intro t m x hx
    simp only [Gh.cutT] at hx
    split at hx
    · exact ⟨by assumption, hx⟩
    · cases hx
  have ht : ∀ {t m : Nat}, (s.toks.take n)[t]? = some m → t < n ∧ s.toks[t]? = some m := by
    intro t m h1
    have hlt : t < n := by
      have := (List.getElem?_eq_some_iff.1 h1).1
      simp at this; omega
    rw [List.getElem?_take_of_lt hlt] at h1
    exact ⟨hlt, h1⟩
  exact {
    os := h.os, tape := h.tape, output := h.output, size := h.size, pr := h.pr, prM := h.prM, m := h.m, l := h.l, inj := h.inj
    blk := fun l b o k hl ho hk' => (h.blk l b o k hl ho hk').cutT (hk l k hk')
    tok := fun t m h1 => by
      obtain ⟨hlt, h2⟩ := ht h1
      obtain ⟨b, c, sz, k⟩ := h.tok t m h2
      exact ⟨b, c, sz, by simp [Gh.cutT, hlt, k.h], k.np, k.lt, k.blk, k.szp, k.nc, k.cm, k.m, k.l⟩
    tinj := fun t t' m m' b c sz c' sz' h1 h2 h3 h4 => h.tinj t t' m m' b c sz c' sz' (ht h1).2 (ht h2).2 (hH h3).2 (hH h4).2
    hh := fun t m x hx => by
      obtain ⟨h1, h2⟩ := hH hx
      obtain ⟨m0, h3, h4⟩ := h.hh t m x h2
      exact ⟨m0, by simp only [List.getElem?_take_of_lt h1]; exact h3, h4⟩
    tot := h.tot }

/-- The places that were there at first. -/
theorem trimB_ok (hI : Inv P B G s w) (hl : Low (cleanS s) s3) (hle : G.le G3) (hI3 : Inv P B G3 s3 w3) (d : Bool) :
    ∃ G4, G.le G4 ∧ Inv P B G4 (trimB s d s3) w3 ∧ G4.M = G3.M ∧ G4.H = G3.H ∧ ∀ sh, R G3 sh → (d = true ∨ ∀ n, belBS n sh = true) → R G4 sh := by
  unfold trimB
  split
  · exact ⟨G3, hle, hI3.cong rfl rfl, rfl, rfl, fun _ h _ => h⟩
  · split
    · exact ⟨G3, hle, hI3.cong rfl rfl, rfl, rfl, fun _ h _ => h⟩
    · rename_i hd
      simp only [Bool.or_eq_false_iff] at hd
      have hcut := hI3.cutB (n := s.blks.length) fun l k hln hk => by
        obtain ⟨b, hb⟩ := hI.tot l hln
        obtain ⟨k0, hk0⟩ : ∃ k0, s.blks[l]? = some k0 := ⟨_, List.getElem?_eq_getElem hln⟩
        obtain ⟨o, ho, hok⟩ : ∃ o, w.heap[b]? = some o ∧ ObjOk P G b o k0 := by
          have := (hI.l l b hb).2.1
          exact ⟨_, Array.getElem?_eq_getElem this, hI.blk l b _ k0 hb (Array.getElem?_eq_getElem this) hk0⟩
        exact (hl.B _ (Nat.le_refl _) hd.1).2 l k hln hk k0 hk0 (hok.belB fun l b h => (hI.l l b h).1)
      refine ⟨G3.cutB s.blks.length, ⟨hle.M, fun l b h => ?_, hle.H⟩, hcut.cong rfl rfl, rfl, rfl, fun sh h hb => h.cutB ?_⟩
      · have := (hI.l l b h).1
        simp [Gh.cutB, this, hle.L _ _ h]
      · rcases hb with hb | hb
        · rw [hd.2] at hb; cases hb
        · exact hb _

/-- The tokens that were there at first. -/
theorem cutT_ok (hI : Inv P B G s w) (hl : Low (cleanS s) s3) {G4 : Gh} {s4 : ASt} (hle : G.le G4) (hI4 : Inv P B G4 s4 w3) (hb4 : ∀ l, l < s.blks.length → s4.blks[l]? = s3.blks[l]?) (ht4 : s4.lowT = s3.lowT) {d : Bool} (hc : canT s d s4 = true) :
    G.le (G4.cutT s.toks.length) ∧ Inv P B (G4.cutT s.toks.length) { s4 with toks := s4.toks.take s.toks.length } w3 := by
  simp only [canT, Bool.and_eq_true, Bool.not_eq_true', Bool.or_eq_false_iff] at hc
  have hlen := Nat.eq_of_beq_eq_true hc.1
  refine ⟨⟨hle.M, hle.L, fun t m x hx => ?_⟩, hI4.cutT fun l k hk => ?_⟩
  · obtain ⟨m0, h1, _⟩ := hI.hh t m x hx
    have := (List.getElem?_eq_some_iff.1 h1).1
    simp [Gh.cutT, this, hle.H _ _ _ hx]
  · have hln : l < s.blks.length := by
      have := (List.getElem?_eq_some_iff.1 hk).1
      omega
    rw [hb4 l hln] at hk
    obtain ⟨b, hb⟩ := hI.tot l hln
    obtain ⟨k0, hk0⟩ : ∃ k0, s.blks[l]? = some k0 := ⟨_, List.getElem?_eq_getElem hln⟩
    obtain ⟨o, ho, hok⟩ : ∃ o, w.heap[b]? = some o ∧ ObjOk P G b o k0 := by
      have := (hI.l l b hb).2.1
      exact ⟨_, Array.getElem?_eq_getElem this, hI.blk l b _ k0 hb (Array.getElem?_eq_getElem this) hk0⟩
    rw [ht4] at hc
    exact (hl.T _ (Nat.le_refl _) hc.2.1).2 _ l k hln hk k0 hk0 (hok.belT fun t m x hx => by
      obtain ⟨m0, h1, _⟩ := hI.hh t m x hx
      exact (List.getElem?_eq_some_iff.1 h1).1)

theorem trimT_ok (hI : Inv P B G s w) (hl : Low (cleanS s) s3) {G4 : Gh} {s4 : ASt} (hle : G.le G4) (hI4 : Inv P B G4 s4 w3) (hb4 : ∀ l, l < s.blks.length → s4.blks[l]? = s3.blks[l]?) (ht4 : s4.lowT = s3.lowT) (d : Bool) :
    ∃ G5, G.le G5 ∧ Inv P B G5 (trimT s d s4) w3 ∧ ∀ sh, R G4 sh → (d = true ∨ belTS s.toks.length sh = true) → R G5 sh := by
  unfold trimT
  split
  · exact ⟨G4, hle, hI4.cong rfl rfl, fun _ h _ => h⟩
  · split
    · rename_i hc
      obtain ⟨h1, h2⟩ := cutT_ok hI hl hle hI4 hb4 ht4 hc
      refine ⟨_, h1, h2.cong rfl rfl, fun sh h hb => h.cutT ?_⟩
      rcases hb with hb | hb
      · simp only [canT, Bool.and_eq_true, Bool.not_eq_true', Bool.or_eq_false_iff] at hc
        rw [hc.2.2] at hb; cases hb
      · exact hb
    · exact ⟨G4, hle, hI4.cong rfl rfl, fun _ h _ => h⟩

theorem bel_of_locs {v : AV} (x : Value) : locs v = true ∨ ∀ n, belBS n (.v v x) = true := by
  cases h : locs v with
  | true => exact .inl rfl
  | false => exact .inr fun n => belB_of n v h
theorem bel_of_toks {v : AV} (x : Value) (n : Nat) : toks v = true ∨ belTS n (.v v x) = true := by
  cases h : toks v with
  | true => exact .inl rfl
  | false => exact .inr (belT_of n v h)

theorem trim_ok (hI : Inv P B G s w) (hl : Low (cleanS s) s3) (hle : G.le G3) (hI3 : Inv P B G3 s3 w3) (d d' : Bool) :
    ∃ G4, G.le G4 ∧ Inv P B G4 (trimT s d' (trimB s d s3)) w3 ∧ ∀ sh, R G3 sh → (d = true ∨ ∀ n, belBS n sh = true) → (d' = true ∨ belTS s.toks.length sh = true) → R G4 sh := by
  obtain ⟨G4, h1, h2, _, _, h3⟩ := trimB_ok hI hl hle hI3 d
  obtain ⟨_, _, a3, a4, _⟩ := Low.trimB (d := d) hl
  obtain ⟨G5, k1, k2, k3⟩ := trimT_ok hI hl h1 h2 a4 a3 d'
  exact ⟨G5, k1, k2, fun sh h hb ht => k3 sh (h3 sh h hb) ht⟩

theorem trim_v (hI : Inv P B G s w) (hl : Low (cleanS s) s3) (hle : G.le G3) (hI3 : Inv P B G3 s3 w3) {v : AV} {x : Value} (r : R G3 (.v v x)) :
    ∃ G4, G.le G4 ∧ Inv P B G4 (trimT s (toks v) (trimB s (locs v) s3)) w3 ∧ R G4 (.v v x) := by
  obtain ⟨G4, h1, h2, h3⟩ := trim_ok hI hl hle hI3 (locs v) (toks v)
  exact ⟨G4, h1, h2, h3 _ r (bel_of_locs x) (bel_of_toks x _)⟩

theorem R.slice_no {G : Gh} {sz : Nat} {xs : List AV} {o : Own} {x : Value} (r : R G (.v (.slice sz xs o) x)) : R G (.v (.slice sz xs .no) x) := by
  cases r with
  | sliceE hm ho => exact .sliceE hm trivial
  | sliceN hc hm hr ho => exact .sliceN hc hm hr trivial

theorem R.slice_own {G : Gh} {sz : Nat} {xs : List AV} {o : Own} {b off c : Nat} {x : Value} (r : R G (.v (.slice sz xs .no) x)) (ho : ownOk G o (some ⟨b, off, none⟩) sz xs.length c) (hx : x = .slice (some ⟨b, off, none⟩) xs.length c) : R G (.v (.slice sz xs o) x) := by
  cases r with
  | sliceE hm _ => cases hx; exact .sliceE hm ho
  | sliceN hc hm hr _ => cases hx; exact .sliceN hc hm hr ho

theorem _root_.Go.Fw.R.slice_c {G : Gh} {sz : Nat} {xs : List AV} {x : Value} (r : R G (.v (.slice sz xs .no) x)) : R G (.v (.slice (szC sz xs) xs .no) x) := by
  cases r with
  | sliceE hm ho => exact .sliceE hm trivial
  | sliceN hc hm hr ho =>
    cases xs with
    | nil => exact .sliceE hm trivial
    | cons y ys => exact .sliceN hc hm hr trivial

theorem settle_ok (hI : Inv P B G s w) (hl : Low (cleanS s) s3) (hle : G.le G3) (hI3 : Inv P B G3 s3 w3) {v v' : AV} {x : Value} (r : R G3 (.v v x)) {s4 : ASt} (h : settle s v s3 = (v', s4)) :
    ∃ G4, G.le G4 ∧ Inv P B G4 s4 w3 ∧ R G4 (.v v' x) := by
  have hel : ∀ {sz : Nat} {xs : List AV} {o : Own}, locsL xs = true ∨ ∀ n, belBS n (.v (.slice sz xs o) x) = true := by
    intro sz xs o
    cases q : locsL xs with
    | true => exact .inl rfl
    | false => exact .inr fun n => by simpa [belBS, belB] using belBL_of n xs q
  have helT : ∀ {sz : Nat} {xs : List AV} {n : Nat}, toksL xs = true ∨ belTS n (.v (.slice sz xs .no) x) = true := by
    intro sz xs n
    cases q : toksL xs with
    | true => exact .inl rfl
    | false => exact .inr (by simpa [belTS, belT] using belTL_of n xs q)
  have hno : ∀ {sz : Nat} {xs : List AV} {t : Nat}, R G3 (.v (.slice sz xs (.tok t)) x) → ∃ G4, G.le G4 ∧ Inv P B G4 (trimT s (toksL xs) (trimB s (locsL xs) s3)) w3 ∧ R G4 (.v (.slice (szC sz xs) xs .no) x) := by
    intro sz xs t r
    obtain ⟨G4, h1, h2, h3⟩ := trim_ok hI hl hle hI3 (locsL xs) (toksL xs)
    exact ⟨G4, h1, h2, (h3 _ r.slice_no hel helT).slice_c⟩
  unfold settle at h
  split at h
  · rename_i sz xs t
    split at h
    · rename_i hlt
      cases h
      obtain ⟨G4, h1, h2, h3⟩ := trim_ok hI hl hle hI3 (locsL xs) (toksL xs)
      refine ⟨G4, h1, h2, h3 _ r hel ?_⟩
      cases q : toksL xs with
      | true => exact .inl rfl
      | false =>
        right
        have hlt' : t < s.toks.length := by simpa using hlt
        simp [belTS, belT, hlt', belTL_of _ xs q]
    · rename_i hge0
      split at h
      · rename_i n hc hn
        split at h
        · rename_i hnx
          cases h
          have hnx := Nat.eq_of_beq_eq_true hnx
          subst hnx
          obtain ⟨G4, h1, h2, hM4, hH4, h3⟩ := trimB_ok hI hl hle hI3 (locsL xs)
          obtain ⟨_, a2, a3, a4, _⟩ := Low.trimB (d := locsL xs) hl
          obtain ⟨k1, k2⟩ := cutT_ok hI hl h1 h2 a4 a3 hc
          have r4 := h3 _ r hel
          obtain ⟨b, c, sz', tk⟩ := hI3.tok t xs.length hn
          have htx : toksL xs = false := by
            simp only [canT, Bool.and_eq_true, Bool.not_eq_true', Bool.or_eq_false_iff] at hc
            exact hc.2.2
          have hge : s.toks.length ≤ t := by simpa using hge0
          have tk4 : ∃ b' c' sz2, TokOk G4 B.Pr w3 t xs.length b' c' sz2 := h2.tok t xs.length (by rw [a2]; exact hn)
          obtain ⟨b', c', sz2, tk4⟩ := tk4
          obtain ⟨e, cur, hcur, hcs⟩ := tk4.blk
          have hnew := k2.tokPut (t := s.toks.length) (n := xs.length) (b := b') (c := c') (sz := sz2) (toks' := (trimB s (locsL xs) s3).toks.take s.toks.length ++ [xs.length])
            (by
              have : ((trimB s (locsL xs) s3).toks.take s.toks.length).length = s.toks.length := by
                rw [a2]; have := hl.lenT; simp [cleanS] at this; simp; omega
              rw [List.getElem?_append_right (by omega)]; simp [this])
            (fun t' ht' => by
              have hlen : ((trimB s (locsL xs) s3).toks.take s.toks.length).length = s.toks.length := by
                rw [a2]; have := hl.lenT; simp [cleanS] at this; simp; omega
              rcases Nat.lt_or_ge t' s.toks.length with q | q
              · rw [List.getElem?_append_left (by omega)]
              · rw [List.getElem?_eq_none (by simp [hlen]; omega), List.getElem?_eq_none (by simp only; omega)])
            (fun n0 hn0 => by
              have hlen : ((trimB s (locsL xs) s3).toks.take s.toks.length).length = s.toks.length := by
                rw [a2]; have := hl.lenT; simp [cleanS] at this; simp; omega
              simp only at hn0
              rw [List.getElem?_eq_none (by omega)] at hn0; cases hn0)
            tk4.np hcur hcs tk4.szp tk4.nc tk4.cm tk4.m tk4.l
            (fun t' n' b2 c2 sz3 hne ht' hH' q => by
              have hlt' : t' < s.toks.length := by
                have := (List.getElem?_eq_some_iff.1 ht').1
                simp at this; omega
              simp only at ht'
              rw [List.getElem?_take_of_lt hlt'] at ht'
              have hH'' : G4.H t' n' = some (b2, c2, sz3) := by simpa [Gh.cutT, hlt'] using hH'
              have := h2.tinj t' t n' xs.length b2 c2 sz3 c' sz2 ht' (by rw [a2]; exact hn) hH'' (by rw [q]; exact tk4.h)
              omega)
          have hleN : (G4.cutT s.toks.length).le ((G4.cutT s.toks.length).addT s.toks.length xs.length b' c' sz2) := addT_le hnew.1
          refine ⟨_, k1.trans hleN, (hnew.2.cong rfl (by simp [a2])), ?_⟩
          have r5 : R (G4.cutT s.toks.length) (.v (.slice sz xs .no) x) := (r4.slice_no).cutT (by simpa [belTS, belT] using belTL_of _ xs htx)
          have r6 := r5.mono hleN
          have hown : ∀ {A c0}, ownOk G4 (.tok t) A sz xs.length c0 → ownOk ((G4.cutT s.toks.length).addT s.toks.length xs.length b' c' sz2) (.tok s.toks.length) A sz xs.length c0 := by
            rintro A c0 ⟨b2, q1, q2⟩
            have := tk4.h.symm.trans q2
            cases this
            exact ⟨b', q1, addT_eq⟩
          cases r4 with
          | sliceE hm ho => exact .sliceE hm (hown ho)
          | sliceN hc' hm hr ho => exact (r6.slice_own (hown ho) rfl)
        · cases h; exact hno r
      · cases h; exact hno r
  · cases h; exact trim_v hI hl hle hI3 r

end
end Go.Fw
