/- The framework, part 5i: rows of elements, and what tokens know. -/
import Derived.Test.YthmlommnlihgcaaGreatDoorFwOps8
namespace Go.Fw
open Go

/-- The cells of elements. -/
structure Css (G : Gh) (sz : Nat) (xs : List AV) (css : List (List Value)) : Prop where
  len : css.length = xs.length
  get : ∀ (i : Nat) (a : AV), xs[i]? = some a → ∃ vs, css[i]? = some vs ∧ R G (.c a vs) ∧ vs.length = sz

theorem Css.nil {G : Gh} {sz : Nat} : Css G sz [] [] := ⟨rfl, by simp⟩

theorem Css.cons {G : Gh} {sz : Nat} {x : AV} {xs : List AV} {vs : List Value} {css : List (List Value)} (h : R G (.c x vs)) (hl : vs.length = sz) (k : Css G sz xs css) : Css G sz (x :: xs) (vs :: css) := by
  refine ⟨by simp [k.len], fun i a ha => ?_⟩
  cases i with
  | zero => simp at ha; subst ha; exact ⟨vs, rfl, h, hl⟩
  | succ i => simpa using k.get i a (by simpa using ha)

theorem Css.tail {G : Gh} {sz : Nat} {x : AV} {xs : List AV} {vs : List Value} {css : List (List Value)} (k : Css G sz (x :: xs) (vs :: css)) : R G (.c x vs) ∧ vs.length = sz ∧ Css G sz xs css := by
  obtain ⟨us, h1, h2, h3⟩ := k.get 0 x rfl
  simp at h1; subst h1
  exact ⟨h2, h3, by have := k.len; simpa using this, fun i a ha => by simpa using k.get (i + 1) a (by simpa using ha)⟩

theorem Css.mono {G G' : Gh} (hG : G.le G') {sz : Nat} {xs : List AV} {css : List (List Value)} (k : Css G sz xs css) : Css G' sz xs css :=
  ⟨k.len, fun i a ha => by obtain ⟨vs, h1, h2, h3⟩ := k.get i a ha; exact ⟨vs, h1, h2.mono hG, h3⟩⟩

theorem Css.append {G : Gh} {sz : Nat} : ∀ {xs ys : List AV} {css dss : List (List Value)}, Css G sz xs css → Css G sz ys dss → Css G sz (xs ++ ys) (css ++ dss)
  | [], ys, css, dss, h, k => by have := h.len; simp at this; subst this; exact k
  | x :: xs, ys, [], dss, h, k => by have := h.len; simp at this
  | x :: xs, ys, vs :: css, dss, h, k => by obtain ⟨h1, h2, h3⟩ := h.tail; exact .cons h1 h2 (h3.append k)

theorem Css.take {G : Gh} {sz : Nat} : ∀ (n : Nat) {xs : List AV} {css : List (List Value)}, Css G sz xs css → Css G sz (xs.take n) (css.take n)
  | 0, xs, css, _ => .nil
  | n + 1, [], css, h => by have := h.len; simp at this; subst this; exact .nil
  | n + 1, x :: xs, [], h => by have := h.len; simp at this
  | n + 1, x :: xs, vs :: css, h => by obtain ⟨h1, h2, h3⟩ := h.tail; exact .cons h1 h2 (h3.take n)

theorem Css.flat {G : Gh} {sz : Nat} : ∀ {xs : List AV} {css : List (List Value)}, Css G sz xs css → R G (.k (flatE xs) css.flatten) ∧ css.flatten.length = xs.length * sz
  | [], css, h => by have := h.len; simp at this; subst this; exact ⟨by simpa [flatE] using R.knil, by simp⟩
  | x :: xs, [], h => by have := h.len; simp at this
  | x :: xs, vs :: css, h => by
    obtain ⟨h1, h2, h3⟩ := h.tail
    obtain ⟨k1, k2⟩ := h3.flat
    refine ⟨?_, ?_⟩
    · simpa [flatE] using R.k_append h1.c_k k1
    · simp only [List.flatten_cons, List.length_append, List.length_cons, h2, k2, Nat.add_mul]; omega

theorem Css.row {G : Gh} {sz b o : Nat} {xs : List AV} {css : List (List Value)} (h : Css G sz xs css) (hM : ∀ j y, css.flatten[j]? = some y → G.M b (o + j) = some y) : R G (.r sz xs b o) :=
  R.r_of h.get h.len.symm hM

theorem row_css {G : Gh} {sz b : Nat} : ∀ {xs : List AV} {o : Nat}, R G (.r sz xs b o) → ∃ css, Css G sz xs css ∧ ∀ j y, css.flatten[j]? = some y → G.M b (o + j) = some y
  | [], o, _ => ⟨[], .nil, by simp⟩
  | x :: xs, o, h => by
    cases h with
    | rcons hc hl hM t =>
      rename_i vs
      obtain ⟨css, h1, h2⟩ := row_css t
      refine ⟨vs :: css, .cons hc hl h1, fun j y hy => ?_⟩
      simp only [List.flatten_cons] at hy
      rcases Nat.lt_or_ge j vs.length with hj | hj
      · rw [List.getElem?_append_left hj] at hy; exact hM j y hy
      · rw [List.getElem?_append_right hj] at hy
        have := h2 _ _ hy
        rw [show o + sz + (j - vs.length) = o + j from by omega] at this
        exact this

theorem fixP_c {G : Gh} {a a' : AV} {vs : List Value} (h : fixP a = some a') (r : R G (.c a vs)) : R G (.c a' vs) := R.c_of_k (fixP_cells h vs r.c_k)

theorem fixPs_css {G : Gh} {sz : Nat} : ∀ {xs ys : List AV} {css : List (List Value)}, fixPs xs = some ys → Css G sz xs css → Css G sz ys css
  | [], ys, css, h, k => by simp [fixPs] at h; subst h; exact k
  | x :: xs, ys, [], h, k => by have := k.len; simp at this
  | x :: xs, ys, vs :: css, h, k => by
    obtain ⟨h1, h2, h3⟩ := k.tail
    simp only [fixPs] at h
    split at h
    · cases h
    · rename_i y hy
      split at h
      · cases h
      · rename_i ys' hys
        cases h
        exact .cons (fixP_c hy h1) h2 (fixPs_css hys h3)

theorem chunks_css {G : Gh} {sz : Nat} : ∀ {n : Nat} {cs : List AV} {vs : List Value}, R G (.k cs vs) → n * sz ≤ cs.length → ∃ css, Css G sz (chunks sz n cs) css ∧ css.flatten = vs.take (n * sz) := by
  intro n
  induction n with
  | zero => intro cs vs _ _; exact ⟨[], .nil, by simp⟩
  | succ n ih =>
    intro cs vs r hl
    have hl' : sz ≤ cs.length := by rw [Nat.add_mul] at hl; omega
    have hvl : cs.length = vs.length := r.k_length
    obtain ⟨css, h1, h2⟩ := ih (r.k_drop sz) (by rw [List.length_drop]; rw [Nat.add_mul] at hl; omega)
    have hvs : (vs.take sz).length = sz := by rw [List.length_take]; omega
    refine ⟨vs.take sz :: css, ?_, ?_⟩
    · unfold chunks
      refine .cons ?_ hvs h1
      split
      · cases r with
        | knil => simp at hl'
        | kcons g1 g2 t => exact .cone (agg_of_one g1 g2) g2 g1
      · exact .cagg (r.k_take sz)
    · rw [List.flatten_cons, h2, Nat.add_mul, Nat.one_mul, Nat.add_comm (n * sz) sz, List.take_add]

theorem chunks_len {sz : Nat} : ∀ {n : Nat} {cs : List AV}, (chunks sz n cs).length = n
  | 0, _ => rfl
  | n + 1, cs => by simp [chunks, chunks_len]
theorem fixPs_len : ∀ {as as' : List AV}, fixPs as = some as' → as'.length = as.length
  | [], as', h => by simp [fixPs] at h; subst h; rfl
  | a :: as, as', h => by
    simp only [fixPs] at h
    split at h
    · cases h
    · split at h
      · cases h
      · rename_i ys hys; cases h; simp [fixPs_len hys]

section
variable {P : Program} {B : Bs} {G : Gh} {s : ASt} {w : World} {P' : AProg} {env : Env} {ρ : Operand → Value}

theorem rowOf_ok (hI : Inv P B G s w) {l off len sz b : Nat} (hL : G.L l = some b) {xs : List AV} (h : rowOf s l off len sz = some xs) :
    ∃ css, Css G sz xs css ∧ xs.length = len ∧ (∀ j y, css.flatten[j]? = some y → w.cell? ⟨b, off + j, none⟩ = some y) := by
  unfold rowOf at h
  split at h
  · rename_i cs wr hb
    obtain ⟨o, ho, hok⟩ := hI.at hL hb
    obtain ⟨vs, e, rfl, hk, _, _⟩ := hok
    split at h
    · rename_i hc
      obtain ⟨css, h1, h2⟩ := chunks_css (n := len) (sz := sz) (hk.k_drop off) (by rw [List.length_drop]; omega)
      refine ⟨css, fixPs_css h h1, by rw [fixPs_len h, chunks_len], fun j y hy => ?_⟩
      rw [h2, List.getElem?_take] at hy
      split at hy
      · rw [List.getElem?_drop] at hy
        rw [cell_of ho]; exact hy
      · cases hy
    · cases h
  · cases h

theorem flatten_take_get {sz : Nat} : ∀ {css : List (List Value)} {n j : Nat} {y : Value}, (∀ c ∈ css, c.length = sz) → (css.take n).flatten[j]? = some y → css.flatten[j]? = some y
  | [], n, j, y, _, h => by simp at h
  | c :: css, 0, j, y, _, h => by simp at h
  | c :: css, n + 1, j, y, hl, h => by
    simp only [List.take_succ_cons, List.flatten_cons] at h ⊢
    rcases Nat.lt_or_ge j c.length with hj | hj
    · rw [List.getElem?_append_left hj] at h ⊢; exact h
    · rw [List.getElem?_append_right hj] at h ⊢
      exact flatten_take_get (fun x hx => hl x (List.mem_cons_of_mem _ hx)) h

theorem Css.all {sz : Nat} {xs : List AV} {css : List (List Value)} (h : Css G sz xs css) : ∀ c ∈ css, c.length = sz := by
  intro c hc
  obtain ⟨i, hi, rfl⟩ := List.mem_iff_getElem.1 hc
  have hx : i < xs.length := by rw [← h.len]; exact hi
  obtain ⟨vs, h1, _, h3⟩ := h.get i xs[i] (by simp [hx])
  rw [List.getElem?_eq_getElem hi] at h1
  cases h1; exact h3

/-- The elements of a slice, and the cells that are read for the first of them. -/
theorem elems_ok (hI : Inv P B G s w) {esz : Nat} {a : AV} {x : Value} (r : R G (.v a x)) {ys : List AV} (h : elems s esz a = some ys) :
    ∃ css A c, x = .slice A ys.length c ∧ Css G esz ys css ∧ ∀ w' : World, w'.heap = w.heap → ∀ n, n ≤ ys.length → (Builtin.firstCells esz n x).run P w' = .ok (css.take n).flatten.toArray w' := by
  have key : ∀ (b o c : Nat) (css : List (List Value)), Css G esz ys css → (∀ j y, css.flatten[j]? = some y → w.cell? ⟨b, o + j, none⟩ = some y) →
      ∀ w' : World, w'.heap = w.heap → ∀ n, n ≤ ys.length → (Builtin.firstCells esz n (.slice (some ⟨b, o, none⟩) ys.length c)).run P w' = .ok (css.take n).flatten.toArray w' := by
    intro b o c css hc hcell w' hw n hn
    refine run_firstCells_some w' esz n _ _ _ _ ?_ ?_
    · rw [(hc.take n).flat.2, List.length_take, Nat.min_eq_left hn]
    · intro j y hy
      rw [add_plain']
      have := hcell j y (flatten_take_get hc.all hy)
      rw [cell_heap (w := w) (w' := w') (by rw [hw])]; exact this
  have none0 : ∀ (A : Option Addr) (c : Nat) (w' : World), ∀ n, n ≤ 0 → (Builtin.firstCells esz n (.slice A 0 c)).run P w' = .ok ((([] : List (List Value)).take n).flatten.toArray) w' := by
    intro A c w' n hn
    have : n = 0 := by omega
    subst this
    cases A with
    | none => simp [Builtin.firstCells]
    | some A => simp [Builtin.firstCells, loadCells, loadCellsFrom]
  cases r with
  | sliceE hm ho =>
    simp only [elems] at h
    split at h
    · cases h; exact ⟨[], _, _, rfl, .nil, fun w' _ => none0 _ _ w'⟩
    · cases h
  | sliceN hc hm hr ho =>
    rename_i sz xs o b off c
    simp only [elems] at h
    split at h
    · rename_i hcond
      cases h
      by_cases hs : sz = esz
      · subst hs
        obtain ⟨css, h1, h2⟩ := row_css hr
        exact ⟨css, _, _, rfl, h1, key b off c css h1 fun j y hy => hI.m _ _ _ (h2 j y hy)⟩
      · have hnil : ys = [] := by simpa [hs] using hcond
        subst hnil
        exact ⟨[], _, _, rfl, .nil, fun w' _ => none0 _ _ w'⟩
    · cases h
  | ms hL hc hm =>
    simp only [elems] at h
    split at h
    · rename_i hs
      subst hs
      obtain ⟨css, h1, h2, h3⟩ := rowOf_ok hI hL h
      subst h2
      exact ⟨css, _, _, rfl, h1, key _ _ _ css h1 h3⟩
    · cases h
  | _ => simp [elems] at h

/-! ### Tokens -/
def Gh.addT (G : Gh) (t n b c sz : Nat) : Gh := { G with H := fun t' n' => if t' = t ∧ n' = n then some (b, c, sz) else G.H t' n' }
theorem addT_eq {t n b c sz : Nat} : (G.addT t n b c sz).H t n = some (b, c, sz) := by simp [Gh.addT]
theorem addT_ne {t n b c sz t' n' : Nat} (h : ¬ (t' = t ∧ n' = n)) : (G.addT t n b c sz).H t' n' = G.H t' n' := by simp only [Gh.addT, if_neg h]
theorem addT_le {t n b c sz : Nat} (h : G.H t n = none) : G.le (G.addT t n b c sz) where
  M := fun _ _ _ h => h
  L := fun _ _ h => h
  H := fun t' n' x hx => by
    by_cases e : t' = t ∧ n' = n
    · obtain ⟨rfl, rfl⟩ := e; rw [h] at hx; cases hx
    · rw [addT_ne e]; exact hx

/-- A token gets a (new) length, and a row that no other one has. -/
theorem Inv.tokPut (h : Inv P B G s w) {t n b c sz : Nat} {toks' : List Nat} (hself : toks'[t]? = some n) (hoth : ∀ t', t' ≠ t → toks'[t']? = s.toks[t']?) (hless : ∀ n0, s.toks[t]? = some n0 → n0 < n)
    (hnp : ¬ B.Pr b) {e : TypeId} {cur : Array Value} (hb : w.heap[b]? = some (.cells cur e (0, 0))) (hcur : cur.size = c * sz) (hsz : 0 < sz) (hnc : n ≤ c) (hcm : c ≤ maxLen) (hM : ∀ j, n * sz ≤ j → G.M b j = none)
    (hL : ∀ ℓ, G.L ℓ ≠ some b) (hfree : ∀ t' n' b' c' sz', t' ≠ t → s.toks[t']? = some n' → G.H t' n' = some (b', c', sz') → b' ≠ b) :
    G.H t n = none ∧ Inv P B (G.addT t n b c sz) { s with toks := toks' } w := by
  have hnone : G.H t n = none := by
    cases hx : G.H t n with
    | none => rfl
    | some x =>
      obtain ⟨n0, h1, h2⟩ := h.hh t n x hx
      have := hless n0 h1
      omega
  have hle := addT_le (b := b) (c := c) (sz := sz) hnone
  refine ⟨hnone, ?_⟩
  exact {
    os := h.os, tape := h.tape, output := h.output, size := h.size, pr := h.pr, prM := h.prM, m := h.m, l := h.l, inj := h.inj
    blk := fun ℓ b' o k hl ho hk => (h.blk ℓ b' o k hl ho hk).mono hle fun cs hc j => by
      have := h.blk ℓ b' o k hl ho hk
      subst hc
      obtain ⟨_, _, _, _, h3, _⟩ := this
      exact h3 rfl j
    tok := fun t' n' ht' => by
      by_cases e' : t' = t
      · subst e'
        rw [hself] at ht'; cases ht'
        exact ⟨b, c, sz, addT_eq, hnp, heap_lt hb, ⟨e, cur, hb, hcur⟩, hsz, hnc, hcm, hM, hL⟩
      · rw [hoth t' e'] at ht'
        obtain ⟨b', c', sz', k⟩ := h.tok t' n' ht'
        exact ⟨b', c', sz', by rw [addT_ne (fun q => e' q.1)]; exact k.h, k.np, k.lt, k.blk, k.szp, k.nc, k.cm, k.m, k.l⟩
    tinj := fun t1 t2 n1 n2 b1 c1 sz1 c2 sz2 h1 h2 h3 h4 => by
      by_cases e1 : t1 = t
      · by_cases e2 : t2 = t
        · rw [e1, e2]
        · subst e1
          rw [hself] at h1; cases h1
          rw [addT_eq] at h3; cases h3
          rw [hoth t2 e2] at h2
          rw [addT_ne (fun q => e2 q.1)] at h4
          exact absurd rfl (hfree t2 n2 _ _ _ e2 h2 h4)
      · rw [hoth t1 e1] at h1
        rw [addT_ne (fun q => e1 q.1)] at h3
        by_cases e2 : t2 = t
        · subst e2
          rw [hself] at h2; cases h2
          rw [addT_eq] at h4; cases h4
          exact absurd rfl (hfree t1 n1 _ _ _ e1 h1 h3)
        · rw [hoth t2 e2] at h2
          rw [addT_ne (fun q => e2 q.1)] at h4
          exact h.tinj t1 t2 n1 n2 b1 c1 sz1 c2 sz2 h1 h2 h3 h4
    hh := fun t1 n1 x hx => by
      by_cases e1 : t1 = t ∧ n1 = n
      · obtain ⟨rfl, rfl⟩ := e1; exact ⟨_, hself, Nat.le_refl _⟩
      · rw [addT_ne e1] at hx
        obtain ⟨n0, h1, h2⟩ := h.hh t1 n1 x hx
        by_cases e2 : t1 = t
        · subst e2
          exact ⟨n, hself, by have := hless n0 h1; omega⟩
        · exact ⟨n0, by rw [hoth t1 e2]; exact h1, h2⟩
    tot := h.tot }

/-- A write behind a token's length: nobody sees it; then it is known. -/
theorem Inv.tokWrite (h : Inv P B G s w) {t n b c sz : Nat} (ht : s.toks[t]? = some n) (hH : G.H t n = some (b, c, sz)) {e : TypeId} {cur : Array Value} (hb : w.heap[b]? = some (.cells cur e (0, 0)))
    {vs : List Value} (hlen : vs.length = cur.size) (hkeep : ∀ j, j < n * sz → vs[j]? = cur[j]?) {n' : Nat} (hn : n < n') (hnc : n' ≤ c) :
    G.le ((G.addM b (n * sz) (n' * sz) vs).addT t n' b c sz) ∧ Inv P B ((G.addM b (n * sz) (n' * sz) vs).addT t n' b c sz) { s with toks := s.toks.set t n' } (w.putObj b (.cells vs.toArray e (0, 0))) := by
  obtain ⟨b0, c0, sz0, k⟩ := h.tok t n ht
  have hq := k.h; rw [hH] at hq; cases hq
  have hle0 : G.le (G.addM b (n * sz) (n' * sz) vs) := Gh.addM_le fun o h1 _ x hx => by rw [k.m o h1] at hx; cases hx
  have hnone : (G.addM b (n * sz) (n' * sz) vs).H t n' = none := by
    show G.H t n' = none
    cases hx : G.H t n' with
    | none => rfl
    | some x =>
      obtain ⟨n0, h1, h2⟩ := h.hh t n' x hx
      rw [ht] at h1; cases h1; omega
  have hle : G.le ((G.addM b (n * sz) (n' * sz) vs).addT t n' b c sz) := hle0.trans (addT_le hnone)
  have hlt := k.lt
  have htl : t < s.toks.length := (List.getElem?_eq_some_iff.1 ht).1
  have hself : (s.toks.set t n')[t]? = some n' := List.getElem?_set_self htl
  have hoth : ∀ t', t' ≠ t → (s.toks.set t n')[t']? = s.toks[t']? := fun t' ht' => List.getElem?_set_ne (fun e => ht' e.symm)
  have hne : ∀ {x}, x ≠ b → (w.putObj b (.cells vs.toArray e (0, 0))).heap[x]? = w.heap[x]? := fun hx => World.putObj_heap_other hx
  have hse : (w.putObj b (.cells vs.toArray e (0, 0))).heap[b]? = some (.cells vs.toArray e (0, 0)) := World.putObj_heap_same hlt
  have hsz : (w.putObj b (.cells vs.toArray e (0, 0))).heap.size = w.heap.size := by simp [World.putObj]
  obtain ⟨e0, cur0, hb0, hcur0⟩ := k.blk
  rw [hb] at hb0; cases hb0
  have hMn : ∀ {x j}, x ≠ b → ((G.addM b (n * sz) (n' * sz) vs).addT t n' b c sz).M x j = G.M x j := fun hx => addM_ne hx
  refine ⟨hle, ?_⟩
  exact {
    os := h.os, tape := h.tape, output := h.output, size := by rw [hsz]; exact h.size
    pr := fun x hx => (hne (fun e' => k.np (e' ▸ hx))).trans (h.pr x hx)
    prM := fun x hx o => by rw [hMn (fun e' => k.np (e' ▸ hx))]; exact h.prM x hx o
    m := fun x j v hv => by
      by_cases e' : x = b
      · subst e'
        rw [cell_of hse]
        change (G.addM x (n * sz) (n' * sz) vs).M x j = some v at hv
        by_cases hj : n * sz ≤ j ∧ j < n' * sz
        · rw [addM_in hj.1 hj.2] at hv; exact hv
        · rw [addM_out hj] at hv
          have hjn : j < n * sz := by
            rcases Nat.lt_or_ge j (n * sz) with q | q
            · exact q
            · rw [k.m j q] at hv; cases hv
          rw [hkeep j hjn]
          have := h.m x j v hv
          simpa [World.cell?, hb] using this
      · rw [hMn e'] at hv
        rw [cell_heap (hne e')]; exact h.m x j v hv
    l := fun ℓ x hx => ⟨(h.l ℓ x hx).1, by rw [hsz]; exact (h.l ℓ x hx).2.1, (h.l ℓ x hx).2.2⟩
    inj := h.inj
    blk := fun ℓ x o k' hx ho hk' => by
      have hxb : x ≠ b := fun e' => k.l ℓ (e' ▸ hx)
      rw [hne hxb] at ho
      exact (h.blk ℓ x o k' hx ho hk').mono hle fun cs hc j => by
        rw [hMn hxb]
        have := h.blk ℓ x o k' hx ho hk'
        subst hc
        obtain ⟨_, _, _, _, h3, _⟩ := this
        exact h3 rfl j
    tok := fun t' n1 ht' => by
      by_cases e' : t' = t
      · subst e'
        have ht2 : (s.toks.set t' n')[t']? = some n1 := ht'
        rw [hself] at ht2; cases ht2
        refine ⟨b, c, sz, addT_eq, k.np, by rw [hsz]; exact hlt, ⟨e, vs.toArray, hse, by simpa [hlen] using hcur0⟩, k.szp, hnc, k.cm, fun j hj => ?_, k.l⟩
        show (G.addM b (n * sz) (n' * sz) vs).M b j = none
        rw [addM_out (by omega)]
        have : n * sz ≤ n' * sz := Nat.mul_le_mul_right _ (by omega)
        exact k.m j (by omega)
      · have ht2 : (s.toks.set t n')[t']? = some n1 := ht'
        rw [hoth t' e'] at ht2
        obtain ⟨x, c', sz', k'⟩ := h.tok t' n1 ht2
        have hxb : x ≠ b := fun e2 => e' (h.tinj t' t n1 n x c' sz' c sz ht2 ht k'.h (e2 ▸ hH))
        exact ⟨x, c', sz', by rw [addT_ne (fun q => e' q.1)]; exact k'.h, k'.np, by rw [hsz]; exact k'.lt, by rw [hne hxb]; exact k'.blk, k'.szp, k'.nc, k'.cm, fun j hj => by rw [hMn hxb]; exact k'.m j hj, k'.l⟩
    tinj := fun t1 t2 n1 n2 b1 c1 sz1 c2 sz2 h1 h2 h3 h4 => by
      change (s.toks.set t n')[t1]? = some n1 at h1
      change (s.toks.set t n')[t2]? = some n2 at h2
      have hfree : ∀ t' n1 b' c' sz', t' ≠ t → s.toks[t']? = some n1 → G.H t' n1 = some (b', c', sz') → b' ≠ b := fun t' n1 b' c' sz' e' hq1 hq2 e2 => e' (h.tinj t' t n1 n b' c' sz' c sz hq1 ht hq2 (e2 ▸ hH))
      by_cases e1 : t1 = t
      · by_cases e2 : t2 = t
        · rw [e1, e2]
        · subst e1
          rw [hself] at h1; cases h1
          rw [addT_eq] at h3; cases h3
          rw [hoth t2 e2] at h2
          rw [addT_ne (fun q => e2 q.1)] at h4
          exact absurd rfl (hfree t2 n2 _ _ _ e2 h2 h4)
      · rw [hoth t1 e1] at h1
        rw [addT_ne (fun q => e1 q.1)] at h3
        by_cases e2 : t2 = t
        · subst e2
          rw [hself] at h2; cases h2
          rw [addT_eq] at h4; cases h4
          exact absurd rfl (hfree t1 n1 _ _ _ e1 h1 h3)
        · rw [hoth t2 e2] at h2
          rw [addT_ne (fun q => e2 q.1)] at h4
          exact h.tinj t1 t2 n1 n2 b1 c1 sz1 c2 sz2 h1 h2 h3 h4
    hh := fun t1 n1 x hx => by
      show ∃ n0, (s.toks.set t n')[t1]? = some n0 ∧ n1 ≤ n0
      by_cases e1 : t1 = t ∧ n1 = n'
      · obtain ⟨rfl, rfl⟩ := e1; exact ⟨_, hself, Nat.le_refl _⟩
      · rw [addT_ne e1] at hx
        obtain ⟨n0, h1, h2⟩ := h.hh t1 n1 x hx
        by_cases e2 : t1 = t
        · subst e2
          rw [ht] at h1; cases h1
          exact ⟨n', hself, by omega⟩
        · exact ⟨n0, by rw [hoth t1 e2]; exact h1, h2⟩
    tot := h.tot }

end
end Go.Fw
