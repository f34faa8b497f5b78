/- The framework, part 5e: literals. -/
import Derived.Test.YthmlommnlihgcaaGreatDoorFwOps4
namespace Go.Fw
open Go
section
variable {P : Program} {B : Bs} {G : Gh} {s : ASt} {w : World} {P' : AProg} {env : Env} {ρ : Operand → Value}

/-- Cells written one by one. -/
theorem foldl_set (vs : List Value) : ∀ (k : Nat) (cs : Array Value) (off : Nat), off + k + vs.length ≤ cs.size →
    ((vs.zipIdx k).foldl (fun cs (x : Value × Nat) => cs.setIfInBounds (off + x.2) x.1) cs).toList = cs.toList.take (off + k) ++ vs ++ cs.toList.drop (off + k + vs.length) := by
  induction vs with
  | nil => intro k cs off _; simp
  | cons v vs ih =>
    intro k cs off h
    simp only [List.zipIdx_cons, List.foldl_cons]
    rw [ih (k + 1) _ off (by simp at h ⊢; omega)]
    simp only [Array.toList_setIfInBounds]
    have hlt : off + k < cs.toList.length := by simp at h ⊢; omega
    apply List.ext_getElem?
    intro j
    simp only [List.getElem?_append, List.length_append, List.length_take, List.length_set, List.length_cons, List.getElem?_take, List.getElem?_drop, List.getElem?_set]
    have hl : cs.toList.length = cs.size := by simp
    simp only [List.length_cons] at h
    by_cases h1 : j < off + k
    · have a1 : j < min (off + (k + 1)) cs.toList.length := by omega
      have a2 : j < min (off + k) cs.toList.length := by omega
      have a3 : j < min (off + (k + 1)) cs.toList.length + vs.length := by omega
      have a4 : j < min (off + k) cs.toList.length + (vs.length + 1) := by omega
      have a5 : ¬ off + k = j := by omega
      have a6 : j < off + (k + 1) := by omega
      simp only [a1, a2, a3, a4, a5, a6, h1, if_true, if_false]
    · by_cases h2 : j = off + k
      · subst h2
        have a1 : off + k < min (off + (k + 1)) cs.toList.length := by omega
        have a2 : ¬ off + k < min (off + k) cs.toList.length := by omega
        have a3 : off + k < min (off + (k + 1)) cs.toList.length + vs.length := by omega
        have a4 : off + k < min (off + k) cs.toList.length + (vs.length + 1) := by omega
        have a6 : off + k < off + (k + 1) := by omega
        have a7 : off + k - min (off + k) cs.toList.length = 0 := by omega
        simp only [a1, a2, a3, a4, a6, if_true, if_false, hlt, a7, List.getElem?_cons_zero]
      · by_cases h3 : j < off + k + (vs.length + 1)
        · have a1 : ¬ j < min (off + (k + 1)) cs.toList.length := by omega
          have a2 : ¬ j < min (off + k) cs.toList.length := by omega
          have a3 : j < min (off + (k + 1)) cs.toList.length + vs.length := by omega
          have a4 : j < min (off + k) cs.toList.length + (vs.length + 1) := by omega
          have a5 : j - min (off + k) cs.toList.length = (j - min (off + (k + 1)) cs.toList.length) + 1 := by omega
          simp only [a1, a2, a3, a4, if_true, if_false, a5, List.getElem?_cons_succ]
        · have a3 : ¬ j < min (off + (k + 1)) cs.toList.length + vs.length := by omega
          have a4 : ¬ j < min (off + k) cs.toList.length + (vs.length + 1) := by omega
          have e1 : off + (k + 1) + vs.length + (j - (min (off + (k + 1)) cs.toList.length + vs.length)) = j := by omega
          have e2 : off + k + (vs.length + 1) + (j - (min (off + k) cs.toList.length + (vs.length + 1))) = j := by omega
          have a5 : ¬ off + k = j := by omega
          simp only [a3, a4, if_false, e1, e2, a5]

theorem fill_set (v : Value) (cs : Array Value) (off : Nat) (h : off + v.cells.size ≤ cs.size) :
    (v.cells.zipIdx.foldl (fun cs (x : Value × Nat) => cs.setIfInBounds (off + x.2) x.1) cs).toList = cs.toList.take off ++ v.cells.toList ++ cs.toList.drop (off + v.cells.toList.length) := by
  have := foldl_set v.cells.toList 0 cs off (by simpa using h)
  rw [← Array.foldl_toList, Array.toList_zipIdx]
  simpa using this

/-- A struct's literal. -/
theorem fillA_ok {place : Nat → Option (Nat × Nat)} : ∀ {ps : List (Nat × Nat × AV)} {qs : List (Nat × Value)} {z z' : List AV} {vs : List Value},
    fillA z ps = some z' → R G (.k z vs) → ps.length = qs.length →
    (∀ (i : Nat) (p : Nat × Nat × AV) (q : Nat × Value), ps[i]? = some p → qs[i]? = some q → place q.1 = some (p.1, p.2.1) ∧ R G (.v p.2.2 q.2)) →
    ∃ vs', Instr.fill place vs.toArray qs = some vs'.toArray ∧ R G (.k z' vs')
  | [], [], z, z', vs, h, r, _, _ => by simp [fillA] at h; subst h; exact ⟨vs, rfl, r⟩
  | [], _ :: _, _, _, _, _, _, hl, _ => by simp at hl
  | _ :: _, [], _, _, _, _, _, hl, _ => by simp at hl
  | (off, sz, a) :: ps, (i, x) :: qs, z, z', vs, h, r, hl, hp => by
    obtain ⟨h1, h2⟩ := hp 0 _ _ rfl rfl
    simp only [fillA] at h
    split at h
    · rename_i v hv
      split at h
      · rename_i hc
        obtain ⟨k1, k2⟩ := fixP_ok hv h2
        simp only [Bool.and_eq_true, decide_eq_true_eq] at hc
        obtain ⟨c1, c2⟩ := hc
        have hlen : x.cells.size = sz := by have := k2.c_length; rw [c1] at this; simpa using this.symm
        have hvl : z.length = vs.length := r.k_length
        have hfill := fill_set x vs.toArray off (by simp; omega)
        have hr := r.k_splice k2.c_k off
        obtain ⟨vs', f1, f2⟩ := fillA_ok (place := place) (ps := ps) (qs := qs) h hr (by simpa using hl) (fun i p q hp1 hq1 => hp (i + 1) p q (by simpa using hp1) (by simpa using hq1))
        refine ⟨vs', ?_, f2⟩
        simp only [Instr.fill, h1]
        rw [if_neg (by simp; omega)]
        rw [← f1]
        congr 1
        apply Array.toList_inj.1
        rw [hfill]
      · cases h
    · cases h

theorem mapM_places {fs : List Field} (h : ∀ f ∈ fs, (P.info? f.type).isSome = true) : (fs.mapM (fun f => (do pure (f.offset, ← sizeOf f.type) : Sem (Nat × Nat)))).run P w = .ok (fs.map fun f => (f.offset, P.cellsOf f.type)) w := by
  induction fs with
  | nil => rfl
  | cons f fs ih =>
    obtain ⟨i, hi⟩ := Option.isSome_iff_exists.1 (h f (by simp))
    rw [List.mapM_cons]
    simp only [Sem.run_bind, run_sizeOf' hi, Result.andThen_ok, Sem.run_pure, ih (fun g hg => h g (by simp [hg])), List.map_cons]

theorem mapM_placesA {fs : Array Field} (h : ∀ f ∈ fs.toList, (P.info? f.type).isSome = true) : (fs.mapM (fun f => (do pure (f.offset, ← sizeOf f.type) : Sem (Nat × Nat)))).run P w = .ok ((fs.toList.map fun f => (f.offset, P.cellsOf f.type)).toArray) w := by
  rw [Array.mapM_eq_mapM_toList, Sem.run_map, mapM_places h]
  rfl

theorem partsF_ok (hO : Opn P' env G ρ) {fs : Array Field} : ∀ {ps : List (Nat × Operand)} {qs : List (Nat × Nat × AOpnd)}, partsF fs P ps = some qs →
    qs.length = ps.length ∧ ∀ (i : Nat) (p : Nat × Nat × AV) (q : Nat × Value), (qs.map fun p => (p.1, p.2.1, evO P' env p.2.2))[i]? = some p → (ps.map fun (x : Nat × Operand) => (x.1, ρ x.2))[i]? = some q →
      ((fs.toList.map fun f => (f.offset, P.cellsOf f.type)).toArray)[q.1]? = some (p.1, p.2.1) ∧ R G (.v p.2.2 q.2)
  | [], qs, h => by simp [partsF] at h; subst h; simp
  | (i, x) :: ps, qs, h => by
    simp only [partsF] at h
    split at h
    · rename_i f y ys h1 h2 h3
      cases h
      obtain ⟨k1, k2⟩ := partsF_ok hO h3
      refine ⟨by simp [k1], fun j p q hp hq => ?_⟩
      cases j with
      | zero =>
        simp at hp hq; subst hp; subst hq
        exact ⟨by simp [h1], hO.out _ _ h2⟩
      | succ j => exact k2 j p q (by simpa using hp) (by simpa using hq)
    · cases h

theorem partsA_ok (hO : Opn P' env G ρ) {esz : Nat} : ∀ {ps : List (Nat × Operand)} {qs : List (Nat × Nat × AOpnd)}, partsA esz ps = some qs →
    qs.length = ps.length ∧ ∀ (i : Nat) (p : Nat × Nat × AV) (q : Nat × Value), (qs.map fun p => (p.1, p.2.1, evO P' env p.2.2))[i]? = some p → (ps.map fun (x : Nat × Operand) => (x.1, ρ x.2))[i]? = some q →
      (some (q.1 * esz, esz) = some (p.1, p.2.1)) ∧ R G (.v p.2.2 q.2)
  | [], qs, h => by simp [partsA] at h; subst h; simp
  | (i, x) :: ps, qs, h => by
    simp only [partsA] at h
    split at h
    · rename_i y ys h2 h3
      cases h
      obtain ⟨k1, k2⟩ := partsA_ok hO h3
      refine ⟨by simp [k1], fun j p q hp hq => ?_⟩
      cases j with
      | zero => simp at hp hq; subst hp; subst hq; exact ⟨rfl, hO.out _ _ h2⟩
      | succ j => exact k2 j p q (by simpa using hp) (by simpa using hq)
    · cases h

theorem p_build (hI : Inv P B G s w) (hO : Opn P' env G ρ) {t : TypeId} {parts : Array (Nat × Operand)} {z : List AV} {qs : List (Nat × Nat × AOpnd)} (hz : zeroOf P t = some z)
    (hu : (∃ fs, P.underlying t = some (.struct fs) ∧ (fs.toList.all fun f => (P.info? f.type).isSome) = true ∧ partsF fs P parts.toList = some qs) ∨ (∃ n e, P.underlying t = some (.array n e) ∧ (P.info? e).isSome = true ∧ partsA (P.cellsOf e) parts.toList = some qs)) {v : AV}
    (h : (match (generalizing := false) fillA z (qs.map fun p => (p.1, p.2.1, evO P' env p.2.2)) with | some cs => some (AV.agg cs) | none => none) = some v) : PRes P G w (Instr.build t (parts.map fun (x : Nat × Operand) => (x.1, ρ x.2))) v := by
  split at h
  · rename_i cs hf
    cases h
    obtain ⟨i, zv, hi, hzv, rz⟩ := zeroOf_ok (G := G) hz
    have hpl : (parts.map fun (x : Nat × Operand) => (x.1, ρ x.2)).toList = parts.toList.map fun (x : Nat × Operand) => (x.1, ρ x.2) := by simp
    rcases hu with ⟨fs, hu, hall, hp⟩ | ⟨n, e, hu, he, hp⟩
    · obtain ⟨k1, k2⟩ := partsF_ok hO hp
      obtain ⟨vs', f1, f2⟩ := fillA_ok (place := fun i => ((fs.toList.map fun f => (f.offset, P.cellsOf f.type)).toArray)[i]?) hf rz (by simp [k1]) k2
      refine .of hI (x := .agg vs'.toArray) ?_ (.agg f2)
      have hm := mapM_placesA (P := P) (w := w) (fs := fs) (fun f hf => by simpa using List.all_eq_true.1 hall f hf)
      simp only [Instr.build, Sem.run_bind, run_zeroValue' hi hzv, Result.andThen_ok, run_underlying hu, hm, hpl]
      simp only [Array.toArray_toList] at f1
      rw [f1]
      rfl
    · obtain ⟨k1, k2⟩ := partsA_ok hO hp
      obtain ⟨vs', f1, f2⟩ := fillA_ok (place := fun i => some (i * P.cellsOf e, P.cellsOf e)) hf rz (by simp [k1]) k2
      refine .of hI (x := .agg vs'.toArray) ?_ (.agg f2)
      obtain ⟨ie, hie⟩ := Option.isSome_iff_exists.1 he
      simp only [Instr.build, Sem.run_bind, run_zeroValue' hi hzv, Result.andThen_ok, run_underlying hu, run_sizeOf' hie, hpl]
      simp only [Array.toArray_toList] at f1
      rw [f1]
      rfl
  · cases h


/-! ### A slice's literal -/
theorem splice_flat {sz : Nat} : ∀ {css : List (List Value)} {i : Nat} {c : List Value}, (∀ x ∈ css, x.length = sz) → c.length = sz → i < css.length →
    (css.flatten.take (i * sz) ++ c ++ css.flatten.drop (i * sz + c.length)) = (css.set i c).flatten
  | [], i, c, _, _, hi => by simp at hi
  | x :: css, 0, c, hx, hc, _ => by
    have : x.length = sz := hx x (by simp)
    simp only [Nat.zero_mul, List.take_zero, List.nil_append, Nat.zero_add, List.set_cons_zero, List.flatten_cons, hc]
    rw [List.drop_append_of_le_length (by omega), List.drop_of_length_le (by omega), List.nil_append]
  | x :: css, i + 1, c, hx, hc, hi => by
    have h1 : x.length = sz := hx x (by simp)
    have ih := splice_flat (css := css) (i := i) (c := c) (fun y hy => hx y (by simp [hy])) hc (by simpa using hi)
    simp only [List.set_cons_succ, List.flatten_cons]
    rw [← ih, Nat.add_mul, Nat.one_mul, ← h1, Nat.add_comm (i * x.length) x.length, List.take_length_add_append, Nat.add_assoc, List.drop_length_add_append]
    simp only [List.append_assoc]

theorem setEl_ok {sz : Nat} : ∀ {ps : List (Nat × AV)} {qs : List (Nat × Value)} {xs xs' : List AV} {css : List (List Value)},
    setEl xs ps = some xs' → ps.length = qs.length →
    (∀ (i : Nat) (p : Nat × AV) (q : Nat × Value), ps[i]? = some p → qs[i]? = some q → q.1 = p.1 ∧ R G (.c p.2 q.2.cells.toList) ∧ q.2.cells.size = sz) →
    xs.length = css.length → (∀ x ∈ css, x.length = sz) → (∀ (i : Nat) (a : AV), xs[i]? = some a → ∃ vs, css[i]? = some vs ∧ R G (.c a vs) ∧ vs.length = sz) →
    ∃ css' : List (List Value), Instr.fill (fun i => some (i * sz, sz)) css.flatten.toArray qs = some css'.flatten.toArray ∧ xs'.length = css'.length ∧ (∀ x ∈ css', x.length = sz) ∧ (∀ (i : Nat) (a : AV), xs'[i]? = some a → ∃ vs, css'[i]? = some vs ∧ R G (.c a vs) ∧ vs.length = sz)
  | [], [], xs, xs', css, h, _, _, hl, hs, hr => by simp [setEl] at h; subst h; exact ⟨css, rfl, hl, hs, hr⟩
  | [], _ :: _, _, _, _, _, hl, _, _, _, _ => by simp at hl
  | _ :: _, [], _, _, _, _, hl, _, _, _, _ => by simp at hl
  | (i, a) :: ps, (j, x) :: qs, xs, xs', css, h, hl, hp, hlen, hs, hr => by
    obtain ⟨h1, h2, h3⟩ := hp 0 _ _ rfl rfl
    simp only at h1 h2 h3
    subst h1
    simp only [setEl] at h
    split at h
    · rename_i hi
      have hi' : j < css.length := by omega
      have hfl : css.flatten.length = css.length * sz := by
        clear hr hp h hlen hi hi'
        induction css with
        | nil => simp
        | cons y ys ih => simp [ih (fun z hz => hs z (by simp [hz])), hs y (by simp), Nat.add_mul]; omega
      have hbd : j * sz + x.cells.size ≤ css.flatten.length := by
        rw [hfl, h3]
        have := Nat.mul_le_mul_right sz (show j + 1 ≤ css.length by omega)
        rw [Nat.add_mul, Nat.one_mul] at this; exact this
      have hxl : x.cells.toList.length = sz := by simpa using h3
      obtain ⟨css', f1, f2, f3, f4⟩ := setEl_ok (ps := ps) (qs := qs) (css := css.set j x.cells.toList) h (by simpa using hl) (fun i p q hp1 hq1 => hp (i + 1) p q (by simpa using hp1) (by simpa using hq1)) (by simpa using hlen)
        (fun y hy => by rcases List.mem_or_eq_of_mem_set hy with hy | rfl; exact hs y hy; exact hxl)
        (fun k b hb => by
          rw [List.getElem?_set] at hb
          by_cases e : j = k
          · subst e
            rw [if_pos rfl, if_pos hi] at hb
            cases hb
            exact ⟨x.cells.toList, by rw [List.getElem?_set_self hi'], h2, hxl⟩
          · rw [if_neg e] at hb
            obtain ⟨vs, g1, g2, g3⟩ := hr k b hb
            exact ⟨vs, by rw [List.getElem?_set_ne e]; exact g1, g2, g3⟩)
      refine ⟨css', ?_, f2, f3, f4⟩
      simp only [Instr.fill]
      rw [if_neg (fun hor => by
        simp only [ne_eq, Bool.or_eq_true, decide_eq_true_eq] at hor
        rcases hor with hq | hq
        · exact hq h3
        · have h9 : (css.flatten.toArray).size = css.flatten.length := by simp only [List.size_toArray]
          rw [h9] at hq
          exact absurd hbd (Nat.not_le.2 hq))]
      rw [← f1]
      congr 1
      apply Array.toList_inj.1
      rw [fill_set x css.flatten.toArray (j * sz) (by simpa using hbd)]
      have := splice_flat (css := css) (i := j) (c := x.cells.toList) hs hxl hi'
      simpa using this
    · cases h

theorem zeros_flat (z : List Value) : ∀ n, ((Array.range (n * z.length)).map (fun i => z.toArray[i % z.toArray.size]!)).toList = (List.replicate n z).flatten := by
  intro n
  induction n with
  | zero => simp
  | succ n ih =>
    rw [List.replicate_succ', List.flatten_append, ← ih, Nat.add_mul, Nat.one_mul]
    simp only [Array.toList_map, Array.toList_range, List.size_toArray, List.flatten_cons, List.flatten_nil, List.append_nil]
    rw [List.range_add, List.map_append, List.map_map]
    congr 1
    apply List.ext_getElem
    · simp
    · intro i h1 h2
      simp at h1
      simp [Nat.mul_add_mod_self_right, Nat.mod_eq_of_lt h1, h1]

theorem partsS_ok (hO : Opn P' env G ρ) : ∀ {ps : List (Nat × Operand)} {qs : List (Nat × AOpnd)}, partsS ps = some qs →
    qs.map (·.1) = ps.map (·.1) ∧ R G (.l (qs.map fun p => evO P' env p.2) (ps.map fun p => ρ p.2))
  | [], qs, h => by simp [partsS] at h; subst h; exact ⟨rfl, .lnil⟩
  | (i, x) :: ps, qs, h => by
    simp only [partsS] at h
    split at h
    · rename_i y ys h2 h3
      cases h
      obtain ⟨k1, k2⟩ := partsS_ok hO h3
      exact ⟨by simp [k1], .lcons (hO.out _ _ h2) k2⟩
    · cases h

theorem fixPs_cells : ∀ {as as' : List AV} {xs : List Value}, fixPs as = some as' → R G (.l as xs) → ∀ (i : Nat) (a : AV) (x : Value), as'[i]? = some a → xs[i]? = some x → R G (.c a x.cells.toList)
  | [], as', xs, h, r, i, a, x, ha, hx => by simp [fixPs] at h; subst h; simp at ha
  | b :: as, as', xs, h, r, i, a, x, ha, hx => by
    cases r with
    | lcons r1 r3 =>
      simp only [fixPs] at h
      split at h
      · cases h
      · rename_i y hy
        split at h
        · cases h
        · rename_i ys hys
          cases h
          cases i with
          | zero => simp at ha hx; subst ha; subst hx; exact (fixP_ok hy r1).2
          | succ i => exact fixPs_cells hys r3 i a x (by simpa using ha) (by simpa using hx)

theorem p_bslice (hI : Inv P B G s w) (hO : Opn P' env G ρ) {t e : TypeId} {len : Nat} {parts : Array (Nat × Operand)} {z : List AV} {qs : List (Nat × AOpnd)} {ow : Own} (how : ow = .full ∨ ow = .lit) (hu : P.underlying t = some (.slice e)) (hz : zeroOf P e = some z) (hzl : z.length = P.cellsOf e) (hz0 : 0 < z.length)
    (hp : partsS parts.toList = some qs) {v : AV}
    (h : (match (generalizing := false) fixPs (qs.map fun p => evO P' env p.2) with
    | some vs =>
      if vs.all (fun v => (cellsOf v).length == P.cellsOf e) && decide (len * P.cellsOf e ≤ 16777216) then
        (match setEl (List.replicate len (elemOf (P.cellsOf e) z)) ((qs.map (·.1)).zip vs) with
        | some xs => some (AV.slice (P.cellsOf e) xs ow)
        | none => none)
      else none
    | none => none) = some v) : PRes P G w (Instr.buildSlice t len (parts.map fun (x : Nat × Operand) => (x.1, ρ x.2))) v := by
  split at h
  · rename_i vs hvs
    split at h
    · rename_i hc
      split at h
      · rename_i xs hxs
        cases h
        simp only [Bool.and_eq_true, decide_eq_true_eq, List.all_eq_true, beq_iff_eq] at hc
        obtain ⟨c1, c2⟩ := hc
        obtain ⟨i, zv, hi, hzv, rz⟩ := zeroOf_ok (G := G) hz
        obtain ⟨k1, k2⟩ := partsS_ok hO hp
        have hvl : vs.length = qs.length := by
          have h1 := (fixPs_ok hvs k2).l_length
          have h2 := congrArg List.length k1
          simp at h1 h2; omega
        have hql : qs.length = parts.toList.length := by simpa using congrArg List.length k1
        generalize hsz : P.cellsOf e = sz at *
        have hzvl : zv.cells.toList.length = sz := by rw [← rz.k_length]; exact hzl
        have hisz : i.size = sz := by rw [← hsz]; simp [Program.cellsOf, hi]
        have rel : ∀ zl, R G (.k z zl) → R G (.c (elemOf sz z) zl) := by
          intro zl rz
          unfold elemOf
          split
          · cases rz with
            | knil => simp at hz0
            | kcons r1 r2 r3 =>
              rename_i a x as ys
              have : as.length = 0 := by simp at hzl; exact List.length_eq_zero_iff.2 hzl
              have : as = [] := List.eq_nil_of_length_eq_zero this
              subst this
              cases r3
              exact .cone (agg_of_one r1 r2) r2 r1
          · exact .cagg rz
        obtain ⟨css', f1, f2, f3, f4⟩ := setEl_ok (G := G) (sz := sz) (qs := parts.toList.map fun (x : Nat × Operand) => (x.1, ρ x.2)) (css := List.replicate len zv.cells.toList) hxs (by simp [hvl, hql])
          (fun j p q hp1 hq1 => by
            rw [List.getElem?_zip_eq_some] at hp1
            obtain ⟨p1, p2⟩ := hp1
            have hq2 := hq1
            simp only [List.getElem?_map, Option.map_eq_some_iff] at hq1
            obtain ⟨pt, hq3, rfl⟩ := hq1
            have e1 : p.1 = pt.1 := by
              have := congrArg (fun l => l[j]?) k1
              simp only [List.getElem?_map] at this p1
              rw [p1, hq3] at this
              simpa using this
            have e2 : (parts.toList.map fun p => ρ p.2)[j]? = some (ρ pt.2) := by simp [hq3]
            have rc := fixPs_cells hvs k2 j p.2 _ p2 e2
            refine ⟨e1.symm, rc, ?_⟩
            have := c1 p.2 (List.mem_of_getElem? p2)
            rw [rc.c_length] at this
            simpa using this)
          (by simp) (fun x hx => by rw [List.eq_of_mem_replicate hx]; exact hzvl) (fun j a ha => by
            have ha' := List.eq_of_mem_replicate (List.mem_of_getElem? ha)
            have hj : j < len := by simpa using (List.getElem?_eq_some_iff.1 ha).1
            subst ha'
            exact ⟨_, by simp [hj], rel _ rz, hzvl⟩)
        have hlen : xs.length = len := by
          have : ∀ {ps : List (Nat × AV)} {as bs : List AV}, setEl as ps = some bs → bs.length = as.length := by
            intro ps
            induction ps with
            | nil => intro as bs h; simp [setEl] at h; rw [h]
            | cons p ps ih => intro as bs h; simp only [setEl] at h; split at h; rw [ih h]; simp; cases h
          rw [this hxs]; simp
        have hzs : (0 : Nat) < sz := by omega
        refine ⟨.slice (some ⟨w.heap.size, 0, none⟩) len len, w.alloc (.cells css'.flatten.toArray e), G.addM w.heap.size 0 css'.flatten.length css'.flatten, ?_, ?_, ?_⟩
        · by_cases hl0 : len = 0
          · subst hl0
            have hxe : css' = [] := List.eq_nil_of_length_eq_zero (by omega)
            subst hxe
            have hf : Instr.fill (fun i => some (i * sz, sz)) (#[] : Array Value) ((parts.toList.map fun (x : Nat × Operand) => (x.1, ρ x.2))) = some #[] := by simpa using f1
            have e0 : Array.map (fun (_ : Nat) => (default : Value)) (Array.range 0) = #[] := by simp [Array.range]
            simp [Instr.buildSlice, run_underlying hu, run_sizeOf' hi, hsz, newRow]
            rw [e0, hf]
            simp
          · have hpos : ¬ (len * sz = 0) := by
              intro h0; rcases Nat.mul_eq_zero.1 h0 with h | h <;> omega
            have hbig : ¬ (len * sz > 2 ^ 24) := by omega
            have hf : Instr.fill (fun i => some (i * sz, sz)) ((Array.range (len * sz)).map (zv.cells[· % zv.cells.size]!)) ((parts.toList.map fun (x : Nat × Operand) => (x.1, ρ x.2))) = some css'.flatten.toArray := by
              rw [← f1]
              congr 1
              apply Array.toList_inj.1
              have := zeros_flat zv.cells.toList len
              rw [hzvl] at this
              simpa using this
            simp [Instr.buildSlice, run_underlying hu, run_sizeOf' hi, hsz, hpos, hbig, run_zeroValue' hi hzv, hf, newRow]
        · exact hI.quietM css'.flatten e (0, 0) css'.flatten.length
        · have hle := hI.addM_new_le css'.flatten.length css'.flatten
          have hr : R (G.addM w.heap.size 0 css'.flatten.length css'.flatten) (.r sz xs w.heap.size 0) := R.r_of (cs := css') (fun j a ha => by
              obtain ⟨vs, g1, g2, g3⟩ := f4 j a ha
              exact ⟨vs, g1, g2.mono hle, g3⟩) f2 (fun j y hy => by
              have hj : j < css'.flatten.length := (List.getElem?_eq_some_iff.1 hy).1
              rw [Nat.zero_add, addM_in (Nat.zero_le _) hj]; exact hy)
          have hm : len ≤ maxLen := by
            have : len * 1 ≤ len * sz := Nat.mul_le_mul_left _ hzs
            simp only [maxLen]; omega
          have := R.sliceN (o := ow) (c := len) (by omega) hm hr (by rcases how with rfl | rfl <;> simp [ownOk, hlen])
          rw [hlen] at this
          exact this
      · cases h
    · cases h
  · cases h

end
end Go.Fw
