/- The framework, part 12: from a claim's reading to abstract values, and from the interpreter's answer to a contract. -/
import Derived.Test.YthmlommnlihgcaaGreatDoorFwTop
import Derived.ChangeArms
import Derived.OpenShut
namespace Go.Fw
open Go

/-! ### The cooked program -/
inductive Tab where
  | none
  | leaf (k : Nat) (a : AF)
  | node (m : Nat) (l r : Tab)
def Tab.get : Tab → Nat → Option AF
  | .none, _ => Option.none
  | .leaf k a, n => match Nat.beq n k with | true => some a | false => Option.none
  | .node m l r, n => match Nat.blt n m with | true => l.get n | false => r.get n
def Tab.list : Tab → List (Nat × AF)
  | .none => []
  | .leaf k a => [(k, a)]
  | .node _ l r => l.list ++ r.list
theorem Tab.get_mem : ∀ {t : Tab} {n : Nat} {a : AF}, t.get n = some a → (n, a) ∈ t.list
  | .none, _, _, h => by cases h
  | .leaf k b, n, a, h => by
    simp only [Tab.get] at h
    split at h
    · rename_i hb; cases h; rw [Nat.eq_of_beq_eq_true hb]; simp [Tab.list]
    · cases h
  | .node m l r, n, a, h => by
    simp only [Tab.get] at h
    simp only [Tab.list, List.mem_append]
    split at h
    · exact .inl (Tab.get_mem h)
    · exact .inr (Tab.get_mem h)

abbrev FnOk (P : Program) (k : Nat) (a : AF) : Prop :=
  ∃ (fn : Func) (h : Hint), P.funcs[k]? = some fn ∧ cookF P h fn = some a ∧ acOk fn.ntmps false a.body = true ∧ (fn.name == "runtime.NumGoroutine") = false

inductive AllL {α : Type} (Q : α → Prop) : List α → Prop
  | nil : AllL Q []
  | cons {x : α} {xs : List α} (h : Q x) (t : AllL Q xs) : AllL Q (x :: xs)
theorem all_of {α : Type} {Q : α → Prop} {l : List α} (h : AllL Q l) : ∀ p ∈ l, Q p := by
  induction h with
  | nil => intro p hp; cases hp
  | cons h _ ih => intro p hp; rcases List.mem_cons.1 hp with rfl | hp; exact h; exact ih p hp

def glGet : List (Nat × AV) → Nat → AV
  | [], _ => .agg []
  | (k, v) :: r, n => match Nat.beq n k with | true => v | false => glGet r n

/-- The cooked program, with the laid variables. -/
def progOf (t : Tab) (gl : List (Nat × AV)) : AProg := { fn := t.get, gl := glGet gl, prim := fun _ => none }

theorem glGet_pure : ∀ {gl : List (Nat × AV)}, (gl.all fun p => pureV p.2) = true → ∀ g, pureV (glGet gl g) = true
  | [], _, _ => rfl
  | (k, v) :: r, h, g => by
    simp only [List.all_cons, Bool.and_eq_true] at h
    simp only [glGet]
    split
    · exact h.1
    · exact glGet_pure h.2 g

theorem progOf_ok {P : Program} {t : Tab} {gl : List (Nat × AV)} (ht : ∀ p ∈ t.list, FnOk P p.1 p.2) (hg : (gl.all fun p => pureV p.2) = true) (hm : P.follows .mixedOrders = true) : POk P (progOf t gl) where
  fn := fun _ _ h => ht _ (Tab.get_mem h)
  glob := glGet_pure hg
  mixed := hm
theorem progOf_prim {P : Program} {t : Tab} {gl : List (Nat × AV)} : PrimOk P (progOf t gl) := ⟨fun _ _ h => (by cases h)⟩

/-! ### The world in which a call begins -/
def G0 (W : World) : Gh := ⟨fun b o => W.cell? ⟨b, o, none⟩, fun _ => none, fun _ _ => none⟩
def B0 (W : World) : Bs := ⟨fun b => b < W.heap.size, W, (G0 W).M, fun _ h => h⟩

theorem inv0 {P : Program} (W : World) : Inv P (B0 W) (G0 W) emptyS W where
  os := rfl
  tape := rfl
  output := rfl
  size := Nat.le_refl _
  pr := fun _ _ => rfl
  prM := fun _ _ _ => rfl
  m := fun _ _ _ h => h
  l := fun _ _ h => by cases h
  inj := fun _ _ _ h => by cases h
  blk := fun _ _ _ _ h => by cases h
  tok := fun t n h => by simp [emptyS] at h
  tinj := fun _ _ _ _ _ _ _ _ _ h => by simp [emptyS] at h
  hh := fun _ _ _ h => by cases h
  tot := fun _ h => absurd h (Nat.not_lt_zero _)

theorem calls_of {P : Program} {P' : AProg} (hP : POk P P') (hp : PrimOk P P') {n f : Nat} {af : AF} (haf : P'.fn f = some af) {args : List AV} {v : AV} {s' : ASt} (h : (callN P' n).call (.func f) args emptyS = some (.ret v, s')) (W : World) {xs : List Value}
    (hr : R (G0 W) (.l args xs)) (hg : GlobOk P' (G0 W)) : Calls P f xs.toArray W fun e W' => ∃ x G', e = .returned x ∧ R G' (.v v x) ∧ RowKit.Below W.heap.size W W' := by
  obtain ⟨nx, w1, h1, h2⟩ := (callN_ok hP hp n).func f _ _ _ _ h (B0 W) (G0 W) W xs (inv0 W) hg hr
  obtain ⟨fn, hh, hf, hc, _, hn⟩ := hP.fn f af haf
  obtain ⟨c, hb, _⟩ := cookF_body hc
  rw [run_callFunc hf hb hn] at h1
  cases h1
  refine (h2.calls FV_room).mono fun e W' hq => ?_
  obtain ⟨G', hle, hI, hres⟩ := hq
  cases e with
  | returned x => exact ⟨x, G', rfl, hres, hI.os, hI.tape, hI.output, hI.size, fun k hk => hI.pr k hk⟩
  | panicked ch => exact hres.elim
  | outgrown => exact hres.elim

/-! ### What a claim reads, as abstract values -/
/-- Cells as a value of a type. -/
def mkV (P : Program) (e : TypeId) (cs : List AV) : AV := match aggT P e with | some false => cs.headD undefA | _ => .agg cs

def fieldsOk (P : Program) : Nat → List Field → Option Nat
  | off, [] => some off
  | off, f :: fs => match Nat.beq f.offset off with | true => fieldsOk P (off + P.cellsOf f.type) fs | false => none

/-- Whatever a type leads to is listed, and can be read. -/
def tyOk (P : Program) (ts : List TypeId) (t : TypeId) : Bool :=
  match P.underlying t with
  | some .bool | some .string | some (.int _) => true
  | some (.pointer e) | some (.slice e) => ts.contains e && Nat.blt 0 (P.cellsOf e)
  | some (.struct fs) => fieldsOk P 0 fs.toList == some (P.cellsOf t) && fs.toList.all fun f => ts.contains f.type
  | some (.array n e) => ts.contains e && n * P.cellsOf e == P.cellsOf t
  | _ => false

/-- Cells of a type. -/
inductive TyC (P : Program) : TypeId → List AV → Prop
  | bool {t : TypeId} (b : Bool) (h : P.underlying t = some .bool) : TyC P t [.bool b]
  | int {t : TypeId} {k : IntKind} {n : Int} (h : P.underlying t = some (.int k)) (hn : k.wrap n = n) : TyC P t [.int k n]
  | str {t : TypeId} (s : List UInt8) (h : P.underlying t = some .string) (hs : s.length ≤ maxLen) : TyC P t [.str s]
  | ptr0 {t e : TypeId} (h : P.underlying t = some (.pointer e)) : TyC P t [.nilptr]
  | ptr {t e : TypeId} {cs : List AV} (h : P.underlying t = some (.pointer e)) (hc : TyC P e cs) : TyC P t [.cptr (mkV P e cs) 0]
  | slice {t e : TypeId} {css : List (List AV)} (h : P.underlying t = some (.slice e)) (hl : css.length ≤ maxLen) (hc : ∀ cs ∈ css, TyC P e cs) : TyC P t [.slice (szC (P.cellsOf e) (css.map (mkV P e))) (css.map (mkV P e)) .no]
  | struct {t : TypeId} {fs : Array Field} {css : List (List AV)} (h : P.underlying t = some (.struct fs)) (hl : css.length = fs.size) (hc : ∀ (i : Nat) (f : Field) (cs : List AV), fs[i]? = some f → css[i]? = some cs → TyC P f.type cs) : TyC P t css.flatten
  | array {t e : TypeId} {n : Nat} {css : List (List AV)} (h : P.underlying t = some (.array n e)) (hl : css.length = n) (hc : ∀ cs ∈ css, TyC P e cs) : TyC P t css.flatten

mutual
/-- The cells of a datum. -/
def cellsD {H : Type} (P : Program) (t : TypeId) : DataW H → Option (List AV)
  | .lit l => match l with | .bool b => some [.bool b] | .int k n => some [.int k n] | .string bs => some [.str bs] | _ => none
  | .nil => match P.underlying t with | some (.pointer _) => some [.nilptr] | some (.slice e) => some [.slice 0 [] .no] | _ => none
  | .ptr d => match P.underlying t with | some (.pointer e) => (match cellsD P e d with | some cs => some [.cptr (mkV P e cs) 0] | none => none) | _ => none
  | .slice elems _ => match P.underlying t with | some (.slice e) => (match cellsAll P e elems with | some css => some [.slice (szC (P.cellsOf e) (css.map (mkV P e))) (css.map (mkV P e)) .no] | none => none) | _ => none
  | .agg parts =>
    match P.underlying t with
    | some (.struct fs) => (match cellsEach P (fs.toList.map (·.type)) parts with | some css => some css.flatten | none => none)
    | some (.array _ e) => (match cellsAll P e parts with | some css => some css.flatten | none => none)
    | _ => none
  | .iface _ _ => none
  | .map _ => none
  | .held _ => none
def cellsAll {H : Type} (P : Program) (e : TypeId) : List (DataW H) → Option (List (List AV))
  | [] => some []
  | d :: r => match cellsD P e d, cellsAll P e r with | some x, some xs => some (x :: xs) | _, _ => none
def cellsEach {H : Type} (P : Program) : List TypeId → List (DataW H) → Option (List (List AV))
  | [], [] => some []
  | t :: ts, d :: r => match cellsD P t d, cellsEach P ts r with | some x, some xs => some (x :: xs) | _, _ => none
  | _, _ => none
end

section
variable {P : Program} {H : Type} {enc : TypeId × Value → H} {w : World} {sp : Nat → Bool} {held : Bool}

theorem TyC.lone {t : TypeId} {cs : List AV} (h : TyC P t cs) (ha : aggT P t = some false) : ∃ a, cs = [a] ∧ isAgg' a = false := by
  cases h with
  | bool b h => exact ⟨_, rfl, rfl⟩
  | int h hn => exact ⟨_, rfl, rfl⟩
  | str s h hs => exact ⟨_, rfl, rfl⟩
  | ptr0 h => exact ⟨_, rfl, rfl⟩
  | ptr h hc => exact ⟨_, rfl, rfl⟩
  | slice h hl hc => exact ⟨_, rfl, rfl⟩
  | struct h hl hc => rw [aggT, h] at ha; cases ha
  | array h hl hc => rw [aggT, h] at ha; cases ha

/-- An element's cells, as its value. -/
theorem TyC.c {G : Gh} {t : TypeId} {cs : List AV} {vs : List Value} (h : TyC P t cs) (r : R G (.k cs vs)) : R G (.c (mkV P t cs) vs) := by
  unfold mkV
  cases ha : aggT P t with
  | none => exact .cagg r
  | some b =>
    cases b with
    | true => exact .cagg r
    | false =>
      obtain ⟨a, rfl, h1⟩ := h.lone ha
      cases r with
      | kcons r1 h2 r3 => cases r3; exact .cone h1 h2 r1

theorem cells_get {a : Addr} {n : Nat} {cs : List Value} (h : w.cells? 0 a n = some cs) : cs.length = n ∧ ∀ j y, cs[j]? = some y → w.cell? (a.add j) = some y := by
  unfold World.cells? at h
  rw [if_pos (Nat.zero_le _)] at h
  have hl : cs.length = n := by simpa using mapM_some_length h
  refine ⟨hl, fun j y hj => ?_⟩
  have hjn : j < n := by
    have := (List.getElem?_eq_some_iff.1 hj).1; omega
  have := mapM_some_get h j j (by simp [hjn])
  rw [this, hj]

theorem wrap_of_wf {k : IntKind} {n : Int} (h : (Lit.int k n).wf = true) : k.wrap n = n := by
  simp only [Lit.wf, Bool.and_eq_true, decide_eq_true_eq] at h
  unfold IntKind.wrap
  cases k <;> simp [IntKind.min, IntKind.max, IntKind.signed, IntKind.bits] at h ⊢ <;> (try split) <;> omega

/-- A row out of its elements' cells. -/
theorem row_of {G : Gh} {sz b : Nat} {e : TypeId} : ∀ {css : List (List AV)} {vss : List (List Value)} {o : Nat}, css.length = vss.length →
    (∀ (i : Nat) (as : List AV) (vs : List Value), css[i]? = some as → vss[i]? = some vs → TyC P e as ∧ R G (.k as vs) ∧ vs.length = sz ∧ ∀ j y, vs[j]? = some y → G.M b (o + i * sz + j) = some y) → R G (.r sz (css.map (mkV P e)) b o)
  | [], vss, o, _, _ => .rnil sz b o
  | as :: css, [], o, hl, _ => by simp at hl
  | as :: css, vs :: vss, o, hl, h => by
    obtain ⟨h1, h2, h3, h4⟩ := h 0 as vs rfl rfl
    refine .rcons (h1.c h2) h3 (by simpa using h4) (row_of (by simpa using hl) fun i as' vs' ha hv => ?_)
    obtain ⟨k1, k2, k3, k4⟩ := h (i + 1) as' vs' (by simpa using ha) (by simpa using hv)
    refine ⟨k1, k2, k3, fun j y hy => ?_⟩
    have := k4 j y hy
    rw [show o + sz + i * sz + j = o + (i + 1) * sz + j from by rw [Nat.add_mul]; omega]
    exact this

theorem contains_of {ts : List TypeId} {t : TypeId} (h : ts.contains t = true) : t ∈ ts := by simpa using h

/-- A struct's cells, field by field. -/
theorem fields_read {G : Gh} : ∀ {fs : List Field} {off m : Nat} {css : List (List AV)} {cs : List Value}, fieldsOk P off fs = some m → cs.length = m → css.length = fs.length →
    (∀ (i : Nat) (f : Field) (as : List AV), fs[i]? = some f → css[i]? = some as → R G (.k as ((cs.drop f.offset).take (P.cellsOf f.type)))) → R G (.k css.flatten (cs.drop off)) ∧ off ≤ m
  | [], off, m, css, cs, h, hl, hcl, _ => by
    simp only [fieldsOk, Option.some.injEq] at h
    subst h
    have : css = [] := List.length_eq_zero_iff.1 hcl
    subst this
    rw [List.drop_eq_nil_of_le (by omega)]
    exact ⟨.knil, Nat.le_refl _⟩
  | f :: fs, off, m, css, cs, h, hl, hcl, hk => by
    simp only [fieldsOk] at h
    split at h
    · rename_i hb
      have hoff := Nat.eq_of_beq_eq_true hb
      cases css with
      | nil => simp at hcl
      | cons as css =>
        obtain ⟨h1, h2⟩ := fields_read (cs := cs) h hl (by simpa using hcl) fun i g as' hg ha => hk (i + 1) g as' (by simpa using hg) (by simpa using ha)
        have h0 := hk 0 f as rfl rfl
        rw [hoff] at h0
        refine ⟨?_, by omega⟩
        rw [List.flatten_cons]
        have e1 : cs.drop off = (cs.drop off).take (P.cellsOf f.type) ++ cs.drop (off + P.cellsOf f.type) := by
          rw [← List.drop_drop, List.take_append_drop]
        rw [e1]
        exact h0.k_append h1
    · cases h

theorem each_of {α β : Type} {n : Nat} {f : Nat → α → β → Prop} : ∀ {xs : List α}, xs.length = n → (∀ i x, xs[i]? = some x → ∃ y, f i x y) → ∃ ys : List β, ys.length = n ∧ ∀ i x y, xs[i]? = some x → ys[i]? = some y → f i x y := by
  induction n with
  | zero => intro xs hl _; exact ⟨[], rfl, fun i x y _ h => by simp at h⟩
  | succ n ih =>
    intro xs hl h
    have hne : n < xs.length := by omega
    obtain ⟨ys, h1, h2⟩ := ih (xs := xs.take n) (by simp; omega) fun i x hx => by
      have : i < n := by
        have := (List.getElem?_eq_some_iff.1 hx).1; simp at this; omega
      rw [List.getElem?_take_of_lt this] at hx
      exact h i x hx
    obtain ⟨y, hy⟩ := h n xs[n] (List.getElem?_eq_getElem hne)
    refine ⟨ys ++ [y], by simp [h1], fun i x z hx hz => ?_⟩
    rcases Nat.lt_or_ge i n with q | q
    · rw [List.getElem?_append_left (by omega)] at hz
      exact h2 i x z (by rw [List.getElem?_take_of_lt q]; exact hx) hz
    · have : i = n := by
        have := (List.getElem?_eq_some_iff.1 hz).1; simp at this; omega
      subst this
      rw [List.getElem?_append_right (by omega)] at hz
      simp [h1] at hz
      subst hz
      rw [List.getElem?_eq_getElem hne] at hx
      cases hx; exact hy

theorem cellsAll_of {e : TypeId} : ∀ {ds : List (DataW H)} {css : List (List AV)}, css.length = ds.length → (∀ (i : Nat) (d : DataW H) (cs : List AV), ds[i]? = some d → css[i]? = some cs → cellsD P e d = some cs) → cellsAll P e ds = some css
  | [], css, hl, _ => by
    have : css = [] := List.length_eq_zero_iff.1 hl
    subst this; rfl
  | d :: ds, [], hl, _ => by simp at hl
  | d :: ds, cs :: css, hl, h => by
    simp only [cellsAll]
    rw [h 0 d cs rfl rfl, cellsAll_of (by simpa using hl) fun i d' cs' hd hc => h (i + 1) d' cs' (by simpa using hd) (by simpa using hc)]
theorem cellsEach_of : ∀ {ts : List TypeId} {ds : List (DataW H)} {css : List (List AV)}, ts.length = ds.length → css.length = ds.length → (∀ (i : Nat) (t : TypeId) (d : DataW H) (cs : List AV), ts[i]? = some t → ds[i]? = some d → css[i]? = some cs → cellsD P t d = some cs) → cellsEach P ts ds = some css
  | [], [], css, _, hl, _ => by
    have : css = [] := List.length_eq_zero_iff.1 hl
    subst this; rfl
  | [], d :: ds, _, ht, _, _ => by simp at ht
  | t :: ts, [], _, ht, _, _ => by simp at ht
  | t :: ts, d :: ds, [], _, hl, _ => by simp at hl
  | t :: ts, d :: ds, cs :: css, ht, hl, h => by
    simp only [cellsEach]
    rw [h 0 t d cs rfl rfl rfl, cellsEach_of (by simpa using ht) (by simpa using hl) fun i t' d' cs' h0 hd hc => h (i + 1) t' d' cs' (by simpa using h0) (by simpa using hd) (by simpa using hc)]

theorem array_read {G : Gh} {sz : Nat} : ∀ {css : List (List AV)} {cs : List Value} (off : Nat), off + css.length * sz = cs.length →
    (∀ i as, css[i]? = some as → R G (.k as ((cs.drop (off + i * sz)).take sz))) → R G (.k css.flatten (cs.drop off))
  | [], cs, off, hl, _ => by
    rw [List.drop_eq_nil_of_le (by simp at hl; omega)]
    exact .knil
  | as :: css, cs, off, hl, h => by
    have hl' : off + sz + css.length * sz = cs.length := by
      simp only [List.length_cons, Nat.add_mul] at hl; omega
    have h1 := array_read (css := css) (cs := cs) (off + sz) hl' fun i as' ha => by
      have := h (i + 1) as' (by simpa using ha)
      rw [show off + (i + 1) * sz = off + sz + i * sz from by rw [Nat.add_mul]; omega] at this
      exact this
    have h0 := h 0 as rfl
    simp only [Nat.zero_mul, Nat.add_zero] at h0
    have e1 : cs.drop off = (cs.drop off).take sz ++ cs.drop (off + sz) := by rw [← List.drop_drop, List.take_append_drop]
    rw [List.flatten_cons, e1]
    exact h0.k_append h1

theorem spot_none {a : Addr} {v : Value} (h : w.cell? a = some v) : a.spot = none := by
  unfold World.cell? at h
  split at h
  · split at h
    · cases h
    · rename_i hq; simpa using hq
  · cases h
theorem add_eq {a : Addr} {n : Nat} (h : a.spot = none) : a.add n = ⟨a.block, a.off + n, none⟩ := by
  unfold Addr.add
  split
  · rename_i q; subst q; cases a; simp at h; simp [h]
  · rfl

/-- WHAT A CLAIM READS IS AN ABSTRACT VALUE. -/
theorem read_ok {ts : List TypeId} (hts : ts.all (tyOk P ts) = true) : ∀ (fuel : Nat) {t : TypeId} {cs : List Value} {x : DataW H × List MemPlace}, t ∈ ts → DataW.trod enc P w 0 sp held fuel t cs = some x →
    ∃ as, cellsD P t x.1 = some as ∧ TyC P t as ∧ R (G0 w) (.k as cs) := by
  intro fuel
  induction fuel with
  | zero => intro t cs x _ h; simp [DataW.trod] at h
  | succ fuel ih =>
    intro t cs x hmem h
    have hok := List.all_eq_true.1 hts t hmem
    unfold tyOk at hok
    cases hu : P.underlying t with
    | none => rw [hu] at hok; cases hok
    | some u =>
      rw [hu] at hok
      cases u with
      | bool =>
        obtain ⟨b, rfl, rfl⟩ := DataW.trod_bool hu h
        exact ⟨_, rfl, .bool b hu, .kcons (.bool b) rfl .knil⟩
      | int k =>
        obtain ⟨n, rfl, rfl, hw⟩ := DataW.trod_int hu h
        exact ⟨_, rfl, .int hu (wrap_of_wf hw), .kcons (.int (wrap_of_wf hw)) rfl .knil⟩
      | string =>
        obtain ⟨s, rfl, rfl, hs⟩ := DataW.trod_string hu h
        exact ⟨_, rfl, .str _ hu (by simpa using hs), .kcons (.str s hs) rfl .knil⟩
      | pointer e =>
        simp only [Bool.and_eq_true] at hok
        rcases DataW.trod_pointer hu h with ⟨rfl, rfl⟩ | ⟨a, cs', y, n, hn, rfl, rfl, hc, hy⟩
        · exact ⟨[.nilptr], by simp [cellsD, hu], .ptr0 hu, .kcons .nilptr rfl .knil⟩
        · cases hn
          obtain ⟨as, h1, h2, h3⟩ := ih (contains_of hok.1) hy
          obtain ⟨hl, hcell⟩ := cells_get hc
          refine ⟨[.cptr (mkV P e as) 0], by simp [cellsD, hu, h1], .ptr hu h2, .kcons ?_ rfl .knil⟩
          have hpos : 0 < P.cellsOf e := by simpa using hok.2
          have hspot : a.spot = none := by
            obtain ⟨v, hv⟩ : ∃ v, cs'[0]? = some v := ⟨_, List.getElem?_eq_getElem (by omega)⟩
            exact spot_none (by simpa [Addr.add] using hcell 0 v hv)
          have hcell' : ∀ j y, cs'[j]? = some y → (G0 w).M a.block (a.off + j) = some y := fun j y hj => by
            have := hcell j y hj
            rw [add_eq hspot] at this
            exact this
          have := R.cptr (G := G0 w) (b := a.block) (o := a.off) 0 (h2.c h3) hcell'
          have e1 : (⟨a.block, a.off + 0, none⟩ : Addr) = a := by cases a; simp at hspot; simp [hspot]
          rw [e1] at this
          exact this
      | slice e =>
        simp only [Bool.and_eq_true] at hok
        have hpos : 0 < P.cellsOf e := by simpa using hok.2
        rcases DataW.trod_slice hu h with ⟨rfl, rfl⟩ | ⟨a, len, cap, elems, rest, n, hn, rfl, rfl, _, hlc, hcm, hel, hget, _, _⟩
        · exact ⟨[.slice 0 [] .no], by simp [cellsD, hu], .slice (css := []) hu (Nat.zero_le _) (by simp), .kcons (.sliceE (Nat.zero_le _) trivial) rfl .knil⟩
        · cases hn
          have hone : ∀ i x, elems[i]? = some x → ∃ p : List AV × List Value, cellsD P e x.1 = some p.1 ∧ TyC P e p.1 ∧ R (G0 w) (.k p.1 p.2) ∧ w.cells? 0 (a.add (i * P.cellsOf e)) (P.cellsOf e) = some p.2 := by
            intro i x hx
            have hi : i < len := by
              have := (List.getElem?_eq_some_iff.1 hx).1; omega
            have := hget i hi
            rw [hx, Option.bind_eq_some_iff] at this
            obtain ⟨vs, h1, h2⟩ := this
            obtain ⟨as, k1, k2, k3⟩ := ih (contains_of hok.1) h2
            exact ⟨(as, vs), k1, k2, k3, h1⟩
          obtain ⟨ps, hpl, hps⟩ := each_of hel hone
          have hcss : (ps.map (·.1)).length = elems.length := by simp [hpl, hel]
          refine ⟨[.slice (szC (P.cellsOf e) ((ps.map (·.1)).map (mkV P e))) ((ps.map (·.1)).map (mkV P e)) .no], ?_, .slice hu ?_ ?_, ?_⟩
          · simp only [cellsD, hu]
            rw [cellsAll_of (css := ps.map (·.1)) (by simp [hpl, hel]) fun i d cs hd hc => ?_]
            simp only [List.getElem?_map, Option.map_eq_some_iff] at hd hc
            obtain ⟨x, hx, rfl⟩ := hd
            obtain ⟨p, hp, rfl⟩ := hc
            exact (hps i x p hx hp).1
          · simp [hpl]; omega
          · intro cs hcs
            obtain ⟨p, hp, rfl⟩ := List.mem_map.1 hcs
            obtain ⟨i, hi⟩ := List.getElem?_of_mem hp
            obtain ⟨x, hx⟩ : ∃ x, elems[i]? = some x := ⟨_, List.getElem?_eq_getElem (by have := (List.getElem?_eq_some_iff.1 hi).1; omega)⟩
            exact (hps i x p hx hi).2.1
          · refine .kcons ?_ rfl .knil
            have hlen : ((ps.map (·.1)).map (mkV P e)).length = len := by simp [hpl]
            rcases Nat.eq_zero_or_pos len with h0 | hposl
            · subst h0
              have : ps = [] := List.length_eq_zero_iff.1 hpl
              subst this
              exact .sliceE hcm trivial
            · have hfirst : a.spot = none := by
                obtain ⟨x, hx⟩ : ∃ x, elems[0]? = some x := ⟨_, List.getElem?_eq_getElem (by omega)⟩
                obtain ⟨p, hp⟩ : ∃ p, ps[0]? = some p := ⟨_, List.getElem?_eq_getElem (by omega)⟩
                obtain ⟨hl, hcell⟩ := cells_get (hps 0 x p hx hp).2.2.2
                obtain ⟨v, hv⟩ : ∃ v, p.2[0]? = some v := ⟨_, List.getElem?_eq_getElem (by omega)⟩
                exact spot_none (by simpa [Addr.add] using hcell 0 v hv)
              have hr : R (G0 w) (.r (P.cellsOf e) ((ps.map (·.1)).map (mkV P e)) a.block a.off) := by
                refine row_of (vss := ps.map (·.2)) (by simp) fun i as vs ha hv => ?_
                simp only [List.getElem?_map, Option.map_eq_some_iff] at ha hv
                obtain ⟨p, hp, rfl⟩ := ha
                obtain ⟨p', hp', rfl⟩ := hv
                rw [hp] at hp'; cases hp'
                obtain ⟨x, hx⟩ : ∃ x, elems[i]? = some x := ⟨_, List.getElem?_eq_getElem (by have := (List.getElem?_eq_some_iff.1 hp).1; omega)⟩
                obtain ⟨k1, k2, k3, k4⟩ := hps i x p hx hp
                obtain ⟨hl, hcell⟩ := cells_get k4
                refine ⟨k2, k3, hl, fun j y hy => ?_⟩
                have := hcell j y hy
                rw [add_eq hfirst, add_eq rfl] at this
                exact this
              have ea : a = ⟨a.block, a.off, none⟩ := by cases a; simp at hfirst; simp [hfirst]
              rw [ea]
              have := R.sliceN (G := G0 w) (sz := P.cellsOf e) (xs := (ps.map (·.1)).map (mkV P e)) (o := .no) (b := a.block) (off := a.off) (c := cap) (by rw [hlen]; exact hlc) hcm hr trivial
              rw [hlen] at this
              have hne : szC (P.cellsOf e) ((ps.map (·.1)).map (mkV P e)) = P.cellsOf e := by
                cases hq : (ps.map (·.1)).map (mkV P e) with
                | nil => rw [hq] at hlen; simp at hlen; omega
                | cons y ys => rfl
              rw [hne]
              exact this
      | struct fs =>
        simp only [Bool.and_eq_true, beq_iff_eq] at hok
        obtain ⟨xs, n, hn, rfl, hl, hxl, hget⟩ := DataW.trod_struct hu h
        cases hn
        have hone : ∀ (i : Nat) (x : DataW H × List MemPlace), xs[i]? = some x → ∃ as : List AV, ∀ f : Field, fs[i]? = some f → cellsD P f.type x.1 = some as ∧ TyC P f.type as ∧ R (G0 w) (.k as ((cs.drop f.offset).take (P.cellsOf f.type))) := by
          intro i x hx
          obtain ⟨f, hf⟩ : ∃ f, fs[i]? = some f := ⟨_, Array.getElem?_eq_getElem (by have := (List.getElem?_eq_some_iff.1 hx).1; omega)⟩
          have h1 := hget i f hf
          rw [hx] at h1
          obtain ⟨as, k1, k2, k3⟩ := ih (contains_of (List.all_eq_true.1 hok.2 f (Array.mem_toList_iff.2 (Array.mem_of_getElem? hf)))) h1
          exact ⟨as, fun g hg => by rw [hf] at hg; cases hg; exact ⟨k1, k2, k3⟩⟩
        obtain ⟨css, hcl, hcs⟩ := each_of (β := List AV) hxl hone
        have hxi : ∀ (i : Nat) (f : Field), fs[i]? = some f → ∃ x, xs[i]? = some x := fun i f hf => ⟨_, List.getElem?_eq_getElem (by have := (Array.getElem?_eq_some_iff.1 hf).1; omega)⟩
        refine ⟨css.flatten, ?_, .struct hu hcl fun i f as hf ha => ?_, ?_⟩
        · simp only [cellsD, hu]
          rw [cellsEach_of (css := css) (by simp [hxl]) (by simp [hxl, hcl]) fun i t d as ht hd ha => ?_]
          simp only [List.getElem?_map, Option.map_eq_some_iff] at ht hd
          obtain ⟨f, hf, rfl⟩ := ht
          obtain ⟨x, hx, rfl⟩ := hd
          exact (hcs i x as hx ha f (by simpa using hf)).1
        · obtain ⟨x, hx⟩ := hxi i f hf
          exact (hcs i x as hx ha f hf).2.1
        · have := (fields_read (P := P) (G := G0 w) (css := css) (cs := cs) hok.1 hl (by simpa using hcl) fun i f as hf ha => by
            obtain ⟨x, hx⟩ := hxi i f (by simpa using hf)
            exact (hcs i x as hx ha f (by simpa using hf)).2.2).1
          simpa using this
      | array n e =>
        simp only [Bool.and_eq_true, beq_iff_eq] at hok
        obtain ⟨xs, m, hm, rfl, hl, hxl, hget⟩ := DataW.trod_array hu h
        cases hm
        have hone : ∀ i x, xs[i]? = some x → ∃ as : List AV, cellsD P e x.1 = some as ∧ TyC P e as ∧ R (G0 w) (.k as ((cs.drop (i * P.cellsOf e)).take (P.cellsOf e))) := by
          intro i x hx
          have hi : i < n := by have := (List.getElem?_eq_some_iff.1 hx).1; omega
          have h1 := hget i hi
          rw [hx] at h1
          exact ih (contains_of hok.1) h1
        obtain ⟨css, hcl, hcs⟩ := each_of hxl hone
        have hxi : ∀ i as, css[i]? = some as → ∃ x, xs[i]? = some x := fun i as hf => ⟨_, List.getElem?_eq_getElem (by have := (List.getElem?_eq_some_iff.1 hf).1; omega)⟩
        refine ⟨css.flatten, ?_, .array hu hcl fun as ha => ?_, ?_⟩
        · simp only [cellsD, hu]
          rw [cellsAll_of (css := css) (by simp [hxl, hcl]) fun i d as hd ha => ?_]
          simp only [List.getElem?_map, Option.map_eq_some_iff] at hd
          obtain ⟨x, hx, rfl⟩ := hd
          exact (hcs i x as hx ha).1
        · obtain ⟨i, hi⟩ := List.getElem?_of_mem ha
          obtain ⟨x, hx⟩ := hxi i as hi
          exact (hcs i x as hx hi).2.1
        · have := array_read (G := G0 w) (sz := P.cellsOf e) (css := css) (cs := cs) 0 (by rw [hcl]; omega) fun i as ha => by
            obtain ⟨x, hx⟩ := hxi i as ha
            simpa using (hcs i x as hx ha).2.2
          simpa using this
      | _ => cases hok
end
end Go.Fw
