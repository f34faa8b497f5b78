/- The framework, part 3: what abstract values and stores say of the model's memory. -/
import Derived.Test.YthmlommnlihgcaaGreatDoorFwCore
import Derived.Test.YthmlommnlihgcaaGreatDoorFwCook
import Derived.Below
import Derived.RangeFuncLeaves
import Derived.RangeFuncRecord
import Derived.RangeFuncCalls
import Derived.RecoverIn
import Derived.Laws.AppendOwn
import Derived.Laws.Tables
import Derived.Laws.CopyRow
import Derived.Laws.Cells
import Derived.Laws.Entries
import Derived.Laws.Rows
namespace Go.Fw
open Go

/-- What is known of memory: cells that never change; blocks of the store's places; blocks of the tokens (by the slice's length). -/
structure Gh where
  M : Nat → Nat → Option Value
  L : Nat → Option Nat
  H : Nat → Nat → Option (Nat × Nat × Nat)

structure Gh.le (G G' : Gh) : Prop where
  M : ∀ b o x, G.M b o = some x → G'.M b o = some x
  L : ∀ l b, G.L l = some b → G'.L l = some b
  H : ∀ t n x, G.H t n = some x → G'.H t n = some x

theorem Gh.le.refl (G : Gh) : G.le G := ⟨fun _ _ _ h => h, fun _ _ h => h, fun _ _ _ h => h⟩
theorem Gh.le.trans {A B C : Gh} (h : A.le B) (k : B.le C) : A.le C := ⟨fun _ _ _ x => k.M _ _ _ (h.M _ _ _ x), fun _ _ x => k.L _ _ (h.L _ _ x), fun _ _ _ x => k.H _ _ _ (h.H _ _ _ x)⟩

inductive Sh where
  | v (a : AV) (x : Value)
  | l (as : List AV) (xs : List Value)
  | k (as : List AV) (xs : List Value)
  | c (a : AV) (xs : List Value)
  | r (sz : Nat) (as : List AV) (b o : Nat)

def isAgg' : AV → Bool
  | .agg _ => true
  | _ => false

def ownOk (G : Gh) (o : Own) (A : Option Addr) (sz n c : Nat) : Prop :=
  match o with
  | .no => True
  | .full => c = n
  | .lit => c = n
  | .tok t => ∃ b, A = some ⟨b, 0, none⟩ ∧ G.H t n = some (b, c, sz)

inductive R (G : Gh) : Sh → Prop
  | int {k n} (h : k.wrap n = n) : R G (.v (.int k n) (.int k n))
  | bool (b) : R G (.v (.bool b) (.bool b))
  | str (s : ByteArray) (hs : s.size ≤ maxLen) : R G (.v (.str s.data.toList) (.string s))
  | sliceE {sz o A c} (hm : c ≤ maxLen) (ho : ownOk G o A sz 0 c) : R G (.v (.slice sz [] o) (.slice A 0 c))
  | sliceN {sz xs o b off c} (hc : xs.length ≤ c) (hm : c ≤ maxLen) (hr : R G (.r sz xs b off)) (ho : ownOk G o (some ⟨b, off, none⟩) sz xs.length c) :
      R G (.v (.slice sz xs o) (.slice (some ⟨b, off, none⟩) xs.length c))
  | ms {l off len cap sz b} (hL : G.L l = some b) (hc : len ≤ cap) (hm : cap ≤ maxLen) : R G (.v (.mslice l off len cap sz) (.slice (some ⟨b, off, none⟩) len cap))
  | agg {cs vs} (h : R G (.k cs vs)) : R G (.v (.agg cs) (.agg vs.toArray))
  | tuple {cs vs} (h : R G (.l cs vs)) : R G (.v (.tuple cs) (.tuple vs.toArray))
  | nilptr : R G (.v .nilptr (.pointer none))
  | ptr {l b} (off) (hL : G.L l = some b) : R G (.v (.ptr l off) (.pointer (some ⟨b, off, none⟩)))
  | cptr {v vs b o} (off) (hc : R G (.c v vs)) (hM : ∀ j x, vs[j]? = some x → G.M b (o + j) = some x) : R G (.v (.cptr v off) (.pointer (some ⟨b, o + off, none⟩)))
  | func {f a b fa fb} (ha : R G (.l a fa)) (hb : R G (.l b fb)) : R G (.v (.func f a b) (.func (.func f) fa.toArray fb.toArray))
  | nilfunc : R G (.v .nilfunc .nilFunc)
  | yield {l b} (hL : G.L l = some b) : R G (.v (.yield l) (.func (.yield b) #[] #[]))
  | map {l b} (hL : G.L l = some b) : R G (.v (.map l) (.map (some b)))
  | nilmap : R G (.v .nilmap (.map none))
  | iface {t v x} (h : R G (.v v x)) : R G (.v (.iface t v) (.iface t x))
  | niliface : R G (.v .niliface .nilIface)
  | iter {l b} (hL : G.L l = some b) : R G (.v (.iter l) (.pointer (some ⟨b, 0, none⟩)))
  | junk (x) : R G (.v .junk x)
  | lnil : R G (.l [] [])
  | lcons {a x as xs} (h : R G (.v a x)) (t : R G (.l as xs)) : R G (.l (a :: as) (x :: xs))
  | knil : R G (.k [] [])
  | kcons {a x as xs} (h : R G (.v a x)) (h1 : x.oneCell' = true) (t : R G (.k as xs)) : R G (.k (a :: as) (x :: xs))
  | cagg {cs vs} (h : R G (.k cs vs)) : R G (.c (.agg cs) vs)
  | cone {a x} (ha : isAgg' a = false) (h1 : x.oneCell' = true) (h : R G (.v a x)) : R G (.c a [x])
  | rnil (sz b o) : R G (.r sz [] b o)
  | rcons {sz x xs b o vs} (hc : R G (.c x vs)) (hl : vs.length = sz) (hM : ∀ j y, vs[j]? = some y → G.M b (o + j) = some y) (t : R G (.r sz xs b (o + sz))) : R G (.r sz (x :: xs) b o)

theorem ownOk.mono {G G' : Gh} (hG : G.le G') {o A sz n c} (h : ownOk G o A sz n c) : ownOk G' o A sz n c := by
  cases o with
  | no => trivial
  | full => exact h
  | lit => exact h
  | tok t => obtain ⟨b, h1, h2⟩ := h; exact ⟨b, h1, hG.H _ _ _ h2⟩

theorem R.mono {G G' : Gh} (hG : G.le G') {s : Sh} (h : R G s) : R G' s := by
  induction h with
  | int h => exact .int h
  | bool b => exact .bool b
  | str s hs => exact .str s hs
  | sliceE hm ho => exact .sliceE hm (ho.mono hG)
  | sliceN hc hm _ ho ih => exact .sliceN hc hm ih (ho.mono hG)
  | ms hL hc hm => exact .ms (hG.L _ _ hL) hc hm
  | agg _ ih => exact .agg ih
  | tuple _ ih => exact .tuple ih
  | nilptr => exact .nilptr
  | ptr off hL => exact .ptr off (hG.L _ _ hL)
  | cptr off _ hM ih => exact .cptr off ih fun j x hx => hG.M _ _ _ (hM j x hx)
  | func _ _ ha hb => exact .func ha hb
  | nilfunc => exact .nilfunc
  | yield hL => exact .yield (hG.L _ _ hL)
  | map hL => exact .map (hG.L _ _ hL)
  | nilmap => exact .nilmap
  | iface _ ih => exact .iface ih
  | niliface => exact .niliface
  | iter hL => exact .iter (hG.L _ _ hL)
  | junk x => exact .junk x
  | lnil => exact .lnil
  | lcons _ _ h t => exact .lcons h t
  | knil => exact .knil
  | kcons _ h1 _ h t => exact .kcons h h1 t
  | cagg _ ih => exact .cagg ih
  | cone ha h1 _ ih => exact .cone ha h1 ih
  | rnil sz b o => exact .rnil sz b o
  | rcons _ hl hM _ hc t => exact .rcons hc hl (fun j y hy => hG.M _ _ _ (hM j y hy)) t

section
variable {G : Gh}

theorem R.l_length {as xs} (h : R G (.l as xs)) : as.length = xs.length := by
  generalize hs : Sh.l as xs = s at h
  induction h generalizing as xs with
  | lnil => cases hs; rfl
  | lcons _ _ _ ih => cases hs; simp [ih rfl]
  | _ => cases hs

theorem R.k_length {as xs} (h : R G (.k as xs)) : as.length = xs.length := by
  generalize hs : Sh.k as xs = s at h
  induction h generalizing as xs with
  | knil => cases hs; rfl
  | kcons _ _ _ _ ih => cases hs; simp [ih rfl]
  | _ => cases hs

theorem R.l_get {as xs} (h : R G (.l as xs)) {i : Nat} {a : AV} (ha : as[i]? = some a) : ∃ x, xs[i]? = some x ∧ R G (.v a x) := by
  induction as generalizing xs i with
  | nil => simp at ha
  | cons b bs ih =>
    cases h with
    | lcons h t =>
      cases i with
      | zero => simp at ha; subst ha; exact ⟨_, rfl, h⟩
      | succ i => simpa using ih t (by simpa using ha)

theorem R.k_get {as xs} (h : R G (.k as xs)) {i : Nat} {a : AV} (ha : as[i]? = some a) : ∃ x, xs[i]? = some x ∧ R G (.v a x) ∧ x.oneCell' = true := by
  induction as generalizing xs i with
  | nil => simp at ha
  | cons b bs ih =>
    cases h with
    | kcons h h1 t =>
      cases i with
      | zero => simp at ha; subst ha; exact ⟨_, rfl, h, h1⟩
      | succ i => simpa using ih t (by simpa using ha)

theorem R.k_one {as xs} (h : R G (.k as xs)) : ∀ x ∈ xs, x.oneCell' = true := by
  induction as generalizing xs with
  | nil => cases h; simp
  | cons a as ih =>
    cases h with
    | kcons h h1 t => intro x hx; rcases List.mem_cons.1 hx with rfl | hx; exact h1; exact ih t x hx

theorem R.l_append {as xs bs ys} (h : R G (.l as xs)) (k : R G (.l bs ys)) : R G (.l (as ++ bs) (xs ++ ys)) := by
  induction as generalizing xs with
  | nil => cases h; exact k
  | cons a as ih => cases h with | lcons h t => exact .lcons h (ih t)

theorem R.k_append {as xs bs ys} (h : R G (.k as xs)) (k : R G (.k bs ys)) : R G (.k (as ++ bs) (xs ++ ys)) := by
  induction as generalizing xs with
  | nil => cases h; exact k
  | cons a as ih => cases h with | kcons h h1 t => exact .kcons h h1 (ih t)

theorem R.k_drop {as xs} (h : R G (.k as xs)) (n : Nat) : R G (.k (as.drop n) (xs.drop n)) := by
  induction n generalizing as xs with
  | zero => simpa using h
  | succ n ih => cases h with | knil => simpa using R.knil | kcons h h1 t => simpa using ih t

theorem R.k_take {as xs} (h : R G (.k as xs)) (n : Nat) : R G (.k (as.take n) (xs.take n)) := by
  induction n generalizing as xs with
  | zero => simpa using R.knil
  | succ n ih => cases h with | knil => simpa using R.knil | kcons h h1 t => simpa using R.kcons h h1 (ih t)

theorem R.l_take {as xs} (h : R G (.l as xs)) (n : Nat) : R G (.l (as.take n) (xs.take n)) := by
  induction n generalizing as xs with
  | zero => simpa using R.lnil
  | succ n ih => cases h with | lnil => simpa using R.lnil | lcons h t => simpa using R.lcons h (ih t)

theorem R.k_splice {cs vs ds us} (h : R G (.k cs vs)) (k : R G (.k ds us)) (off : Nat) : R G (.k (splice cs off ds) (vs.take off ++ us ++ vs.drop (off + us.length))) := by
  unfold splice
  rw [k.k_length]
  exact R.k_append (R.k_append (h.k_take _) k) (h.k_drop _)

/-- The cells of a value. -/
theorem R.cells {a x} (h : R G (.v a x)) (h1 : isAgg' a = true ∨ x.oneCell' = true) : R G (.c a x.cells.toList) := by
  cases h with
  | agg h => simpa [Value.cells] using R.cagg h
  | tuple h => rcases h1 with h1 | h1 <;> simp [isAgg', Value.oneCell'] at h1
  | junk x =>
    rcases h1 with h1 | h1
    · simp [isAgg'] at h1
    · cases x <;> simp [Value.oneCell'] at h1 <;> exact .cone rfl rfl (.junk _)
  | int h => exact .cone rfl rfl (.int h)
  | bool b => exact .cone rfl rfl (.bool b)
  | str s hs => exact .cone rfl rfl (.str s hs)
  | sliceE hm ho => exact .cone rfl rfl (.sliceE hm ho)
  | sliceN hc hm hr ho => exact .cone rfl rfl (.sliceN hc hm hr ho)
  | ms hL hc hm => exact .cone rfl rfl (.ms hL hc hm)
  | nilptr => exact .cone rfl rfl .nilptr
  | ptr off hL => exact .cone rfl rfl (.ptr off hL)
  | cptr off hc hM => exact .cone rfl rfl (.cptr off hc hM)
  | func ha hb => exact .cone rfl rfl (.func ha hb)
  | nilfunc => exact .cone rfl rfl .nilfunc
  | yield hL => exact .cone rfl rfl (.yield hL)
  | map hL => exact .cone rfl rfl (.map hL)
  | nilmap => exact .cone rfl rfl .nilmap
  | iface h => exact .cone rfl rfl (.iface h)
  | niliface => exact .cone rfl rfl .niliface
  | iter hL => exact .cone rfl rfl (.iter hL)

theorem R.c_k {a vs} (h : R G (.c a vs)) : R G (.k (cellsOf a) vs) := by
  cases h with
  | cagg h => exact h
  | cone ha h1 h =>
    cases a <;> first | exact .kcons h h1 .knil | (simp [isAgg'] at ha)

theorem R.c_length {a vs} (h : R G (.c a vs)) : (cellsOf a).length = vs.length := h.c_k.k_length

theorem R.r_get {sz as b o} (h : R G (.r sz as b o)) {i : Nat} {a : AV} (ha : as[i]? = some a) :
    ∃ vs, R G (.c a vs) ∧ vs.length = sz ∧ ∀ j y, vs[j]? = some y → G.M b (o + i * sz + j) = some y := by
  induction as generalizing o i with
  | nil => simp at ha
  | cons x xs ih =>
    cases h with
    | rcons hc hl hM t =>
      cases i with
      | zero => simp at ha; subst ha; exact ⟨_, hc, hl, by simpa using hM⟩
      | succ i =>
        obtain ⟨vs, h1, h2, h3⟩ := ih t (by simpa using ha)
        refine ⟨vs, h1, h2, fun j y hy => ?_⟩
        have := h3 j y hy
        rw [show o + (i + 1) * sz + j = o + sz + i * sz + j from by rw [Nat.add_mul]; omega]
        exact this

theorem R.r_drop {sz as b o} (h : R G (.r sz as b o)) (n : Nat) : n ≤ as.length → R G (.r sz (as.drop n) b (o + n * sz)) := by
  induction n generalizing as o with
  | zero => intro _; simpa using h
  | succ n ih =>
    intro hn
    cases h with
    | rnil => simp at hn
    | rcons hc hl hM t =>
      have := ih t (by simpa using hn)
      simp only [List.drop_succ_cons]
      rw [show o + (n + 1) * sz = o + sz + n * sz from by rw [Nat.add_mul]; omega]
      exact this

theorem R.r_take {sz as b o} (h : R G (.r sz as b o)) (n : Nat) : R G (.r sz (as.take n) b o) := by
  induction n generalizing as o with
  | zero => simpa using R.rnil sz b o
  | succ n ih =>
    cases h with
    | rnil => simpa using R.rnil sz b o
    | rcons hc hl hM t => simpa using R.rcons hc hl hM (ih t)

theorem R.r_append {sz as bs b o} (h : R G (.r sz as b o)) (k : R G (.r sz bs b (o + as.length * sz))) : R G (.r sz (as ++ bs) b o) := by
  induction as generalizing o with
  | nil => simpa using k
  | cons x xs ih =>
    cases h with
    | rcons hc hl hM t =>
      refine R.rcons hc hl hM (ih t ?_)
      have e : o + sz + xs.length * sz = o + (x :: xs).length * sz := by simp only [List.length_cons, Nat.add_mul]; omega
      rw [e]; exact k

/-- A row out of the cells of its elements. -/
theorem R.r_of {sz b : Nat} : ∀ {as : List AV} {o : Nat} {cs : List (List Value)}, (∀ (i : Nat) (a : AV), as[i]? = some a → ∃ vs, cs[i]? = some vs ∧ R G (.c a vs) ∧ vs.length = sz) → as.length = cs.length →
    (∀ (j : Nat) (y : Value), (cs.flatten)[j]? = some y → G.M b (o + j) = some y) → R G (.r sz as b o) := by
  intro as
  induction as with
  | nil => intro o cs _ _ _; exact .rnil sz b o
  | cons x xs ih =>
    intro o cs h hl hM
    cases cs with
    | nil => simp at hl
    | cons c cs =>
      obtain ⟨vs, h1, h2, h3⟩ := h 0 x rfl
      simp at h1; subst h1
      refine .rcons h2 h3 (fun j y hy => hM j y ?_) (ih (cs := cs) (fun i a ha => by simpa using h (i + 1) a (by simpa using ha)) (by simpa using hl) fun j y hy => ?_)
      · have : j < c.length := by
          rcases Nat.lt_or_ge j c.length with h | h
          · exact h
          · rw [List.getElem?_eq_none h] at hy; cases hy
        simp only [List.flatten_cons]
        rw [List.getElem?_append_left this]; exact hy
      · have := hM (sz + j) y (by
          simp only [List.flatten_cons]
          rw [← h3, List.getElem?_append_right (by omega)]
          simpa using hy)
        rw [Nat.add_assoc]; exact this

end
end Go.Fw
