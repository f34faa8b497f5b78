/- The framework, part 5k: append, copy, and new slices. -/
import Derived.Test.YthmlommnlihgcaaGreatDoorFwOps10
namespace Go.Fw
open Go
section
variable {P : Program} {B : Bs} {G : Gh} {s s1 : ASt} {w : World} {P' : AProg} {env : Env} {ρ : Operand → Value}

section
variable {ts : Array TypeId} {t t2 e e2 ty : TypeId} {i : TypeInfo} (ht : ts[0]? = some t) (hu : P.underlying t = some (.slice e)) (ht2 : ts[1]? = some t2) (hu2 : P.underlying t2 = some (.slice e2)) (hi : P.info? e = some i)
include ht hu ht2 hu2 hi

theorem run_app_room {A : Option Addr} {n cap m c : Nat} {X : Option Addr} {news : Array Value} {w' : World} (hf : (Builtin.firstCells i.size m (.slice X m c)).run P w = .ok news w)
    (hst : match A with | some a => (storeCells (a.add (n * i.size)) news.toList).run P w = .ok () w' | none => w' = w) (hroom : n + m ≤ cap) :
    (Builtin.append_ ts ty #[.slice A n cap, .slice X m c]).run P w = .ok (.slice A (n + m) cap) w' := by
  cases A with
  | none =>
    simp only at hst; subst hst
    simp [Builtin.append_, ht, ht2, run_underlying hu, run_underlying hu2, sizeOf, typeInfo, hi, Builtin.lenOf, hroom, hf]
  | some a =>
    simp only at hst
    simp [Builtin.append_, ht, ht2, run_underlying hu, run_underlying hu2, sizeOf, typeInfo, hi, Builtin.lenOf, hroom, hf, hst]

theorem run_app_grow {z : Value} (hz : i.zero = some z) {A : Option Addr} {n cap m c : Nat} {X : Option Addr} {olds news : Array Value} (ho : (Builtin.firstCells i.size n (.slice A n cap)).run P w.drew = .ok olds w.drew)
    (hf : (Builtin.firstCells i.size m (.slice X m c)).run P w.drew = .ok news w.drew) (hroom : cap < n + m) (h63 : n + m ≤ maxLen) (hb : (n + m) * i.bytes ≤ 140737488355328) :
    (Builtin.append_ ts ty #[.slice A n cap, .slice X m c]).run P w = .ok (.slice (some ⟨w.heap.size, 0, none⟩) (n + m) (grownCap w (n + m) cap e))
      (w.drew.alloc (.cells (olds ++ news ++ Builtin.zeroCells z.cells (grownCap w (n + m) cap e - (n + m))) e)) := by
  have hfit := growslice_fits hroom hb
  have hn : ¬ (n + m ≤ cap) := by omega
  have h63' : ¬ (9223372036854775807 < ((n : Int) + (m : Int))) := by simp only [maxLen] at h63; omega
  have h48' : ¬ (281474976710656 < Builtin.nextslicecap (n + m) cap * i.bytes) := by omega
  simp [Builtin.append_, ht, ht2, run_underlying hu, run_underlying hu2, sizeOf, typeInfo, zeroValue, hi, hz, Builtin.lenOf, hn, h63', h48', Question.forced, newRow, grownCap]
  rw [ho]
  simp [hf]
end

theorem Inv.drew (hI : Inv P B G s w) : Inv P B G s w.drew := hI.drawn _

/-- A new row behind an append: a new token, or the token's new row. -/
theorem Inv.grown (hI : Inv P B G s w) {esz n m : Nat} {xs ys : List AV} {css dss : List (List Value)} (hx : Css G esz xs css) (hy : Css G esz ys dss) (hn : xs.length = n) (hm : ys.length = m) {e : TypeId} {z : Array Value} (hz : z.size = esz) (he : 0 < esz) {c : Nat} (hc : n + m ≤ c) (hcm : c ≤ maxLen)
    {t : Nat} {toks' : List Nat} (hself : toks'[t]? = some (n + m)) (hoth : ∀ t', t' ≠ t → toks'[t']? = s.toks[t']?) (hless : ∀ n0, s.toks[t]? = some n0 → n0 < n + m) :
    ∃ G', G.le G' ∧ Inv P B G' { s with toks := toks' } (w.drew.alloc (.cells (css.flatten.toArray ++ dss.flatten.toArray ++ Builtin.zeroCells z (c - (n + m))) e)) ∧
      R G' (.v (.slice esz (xs ++ ys) (.tok t)) (.slice (some ⟨w.heap.size, 0, none⟩) (n + m) c)) := by
  have hD := hI.drew
  have hfl := (hx.append hy).flat
  have hcells : (css.flatten.toArray ++ dss.flatten.toArray ++ Builtin.zeroCells z (c - (n + m))) = ((css ++ dss).flatten ++ (Builtin.zeroCells z (c - (n + m))).toList).toArray := by
    apply Array.ext'
    simp
  rw [hcells]
  generalize hvs : (css ++ dss).flatten ++ (Builtin.zeroCells z (c - (n + m))).toList = vs
  have hlen : (css ++ dss).flatten.length = (n + m) * esz := by rw [hfl.2, List.length_append, hn, hm]
  have hvl : vs.length = c * esz := by
    rw [← hvs, List.length_append, hlen, Array.length_toList, size_zeroCells, hz, ← Nat.add_mul]
    congr 1; omega
  have h1 := hD.allocM vs e (0, 0) ((n + m) * esz)
  have hle1 := hD.addM_new_le ((n + m) * esz) vs
  have hb : (w.drew.alloc (.cells vs.toArray e (0, 0))).heap[w.heap.size]? = some (.cells vs.toArray e (0, 0)) := heap_alloc_eq (w := w.drew)
  obtain ⟨hnone, h2⟩ := h1.tokPut (t := t) (n := n + m) (b := w.heap.size) (c := c) (sz := esz) (toks' := toks') hself hoth hless (fun hp => absurd (Nat.lt_of_lt_of_le (B.lt _ hp) hD.size) (Nat.lt_irrefl _)) hb (by simpa using hvl) he hc hcm
    (fun j hj => by rw [show w.heap.size = w.drew.heap.size from rfl, addM_out (by omega)]; exact hD.Mnew j)
    (fun ℓ => hD.Lnew ℓ)
    (fun t' n' b' c' sz' _ hq1 hq2 e => by
      obtain ⟨b2, c2, sz2, k⟩ := hD.tok t' n' hq1
      have hq3 : G.H t' n' = some (b', c', sz') := hq2
      rw [k.h] at hq3; cases hq3
      exact absurd k.lt (by rw [e]; exact Nat.lt_irrefl _))
  have hle := hle1.trans (addT_le (b := w.heap.size) (c := c) (sz := esz) hnone)
  refine ⟨_, hle, h2, ?_⟩
  have hrow : R ((G.addM w.drew.heap.size 0 ((n + m) * esz) vs).addT t (n + m) w.heap.size c esz) (.r esz (xs ++ ys) w.heap.size 0) := by
    refine ((hx.append hy).mono hle).row fun j y hy => ?_
    show (G.addM w.drew.heap.size 0 ((n + m) * esz) vs).M w.heap.size (0 + j) = some y
    have hj : j < (n + m) * esz := by
      rcases Nat.lt_or_ge j ((n + m) * esz) with q | q
      · exact q
      · rw [List.getElem?_eq_none (by omega)] at hy; cases hy
    rw [Nat.zero_add, show w.heap.size = w.drew.heap.size from rfl, addM_in (Nat.zero_le _) hj, ← hvs, List.getElem?_append_left (by omega)]
    exact hy
  have hxl : (xs ++ ys).length = n + m := by simp [hn, hm]
  have := R.sliceN (o := .tok t) (c := c) (by rw [hxl]; exact hc) hcm hrow ⟨_, rfl, by rw [hxl]; exact addT_eq⟩
  rw [hxl] at this
  exact this

theorem w_app0 {ts : Array TypeId} {t t2 e e2 ty : TypeId} {i : TypeInfo} (ht : ts[0]? = some t) (hu : P.underlying t = some (.slice e)) (ht2 : ts[1]? = some t2) (hu2 : P.underlying t2 = some (.slice e2)) (hi : P.info? e = some i)
    {A : Option Addr} {n cap : Nat} (hc : n ≤ cap) {X : Option Addr} {c : Nat} : (Builtin.append_ ts ty #[.slice A n cap, .slice X 0 c]).run P w = .ok (.slice A n cap) w := by
  have hf : (Builtin.firstCells i.size 0 (.slice X 0 c)).run P w = .ok #[] w := by
    cases X with
    | none => simp [Builtin.firstCells]
    | some A => simp [Builtin.firstCells, loadCells, loadCellsFrom]
  exact run_app_room ht hu ht2 hu2 hi (m := 0) (w' := w) hf (by cases A <;> simp [storeCells]) hc

theorem w_append (hI : Inv P B G s w) {ts : Array TypeId} {t t2 e e2 ty : TypeId} (ht : ts[0]? = some t) (hu : P.underlying t = some (.slice e)) (ht2 : ts[1]? = some t2) (hu2 : P.underlying t2 = some (.slice e2))
    (hzl : (zeroOf P e).map List.length = some (P.cellsOf e)) {a x v : AV} {xa xx : Value} (ra : R G (.v a xa)) (rx : R G (.v x xx)) {esz bytes : Nat} (hes : P.cellsOf e = esz) (hby : P.bytesOf e = bytes)
    (h : (match elems s esz x with
    | some [] => (match (generalizing := false) a with | .slice sz xs o => some (AV.slice sz xs o, s) | .mslice l o n c sz => some (.mslice l o n c sz, s) | _ => none)
    | some (y :: ys) =>
      (match (generalizing := false) a with
      | .slice sz xs o =>
        if (sz = esz || xs.isEmpty) && (xs.length + (ys.length + 1)) * bytes ≤ big && xs.length + (ys.length + 1) ≤ big && 0 < esz then
          (match o with
          | .full | .lit => some (AV.slice esz (xs ++ y :: ys) (.tok s.toks.length), { s with toks := s.toks ++ [xs.length + (ys.length + 1)] })
          | .tok t =>
            (match s.toks[t]? with
            | some n => if sz = esz && n = xs.length then some (.slice sz (xs ++ y :: ys) (.tok t), { s with toks := s.toks.set t (xs.length + (ys.length + 1)) }) else none
            | none => none)
          | .no => none)
        else none
      | .mslice l off len cap sz =>
        if sz = esz && (len + (ys.length + 1)) * bytes ≤ big && len + (ys.length + 1) ≤ big && 0 < esz then
          if len + (ys.length + 1) ≤ cap then
            (match s.blks[l]? with
            | some (.cells cs true) =>
              if off + (len + (ys.length + 1)) * sz ≤ cs.length && (flatE (y :: ys)).length = (ys.length + 1) * sz then
                some (.mslice l off (len + (ys.length + 1)) cap sz, Fw.dirt s l (flatE (y :: ys)) (s.blks.set l (.cells (splice cs (off + len * sz) (flatE (y :: ys))) true)))
              else none
            | _ => none)
          else
            (match rowOf s l off len sz with
            | some xs => some (.slice sz (xs ++ y :: ys) (.tok s.toks.length), { s with toks := s.toks ++ [len + (ys.length + 1)] })
            | none => none)
        else none
      | _ => none)
    | none => none) = some (v, s1)) : WRes P B G s1 w (do pure (Next.value (← Builtin.append_ ts ty #[xa, xx]))) v := by
  cases hzo : zeroOf P e with
  | none => simp [hzo] at hzl
  | some z =>
  obtain ⟨i, zv, hi, hzv, hrz⟩ := zeroOf_ok (G := G) hzo
  have hzs : zv.cells.size = esz := by
    simp [hzo] at hzl
    rw [← hes, ← hzl, hrz.k_length]; simp
  have hisz : i.size = esz := by rw [← hes]; simp [Program.cellsOf, hi]
  have hiby : i.bytes = bytes := by rw [← hby]; simp [Program.bytesOf, hi]
  have fin : ∀ {x : Value} {w' : World} {G' : Gh}, (Builtin.append_ ts ty #[xa, xx]).run P w = .ok x w' → G.le G' → Inv P B G' s1 w' → R G' (.v v x) → WRes P B G s1 w (do pure (Next.value (← Builtin.append_ ts ty #[xa, xx]))) v :=
    fun {x w' G'} h1 h2 h3 h4 => ⟨.value x, x, w', G', by simp [h1], .inl rfl, h2, h3, h4⟩
  split at h
  · -- nothing is appended
    rename_i he
    obtain ⟨dss, X, c, rfl, hd, _⟩ := elems_ok hI rx he
    split at h
    · cases h
      cases ra with
      | sliceE hm ho => exact fin (w_app0 ht hu ht2 hu2 hi (Nat.zero_le _)) (.refl _) hI (.sliceE hm ho)
      | sliceN hc hm hr ho => exact fin (w_app0 ht hu ht2 hu2 hi hc) (.refl _) hI (.sliceN hc hm hr ho)
    · cases h
      cases ra with
      | ms hL hc hm => exact fin (w_app0 ht hu ht2 hu2 hi hc) (.refl _) hI (.ms hL hc hm)
    · cases h
  · rename_i y ys he
    obtain ⟨dss, X, c, rfl, hd, hfirst⟩ := elems_ok hI rx he
    have hm : (y :: ys).length = ys.length + 1 := rfl
    rw [hm] at hfirst
    have hdl : dss.take (ys.length + 1) = dss := by rw [← hm, ← hd.len]; simp
    -- what is read of what is appended
    have hnew : ∀ w' : World, w'.heap = w.heap → (Builtin.firstCells i.size (ys.length + 1) (.slice X (ys.length + 1) c)).run P w' = .ok dss.flatten.toArray w' := fun w' hw => by
      have := hfirst w' hw (ys.length + 1) (Nat.le_refl _)
      rw [hdl] at this
      rw [hisz]; exact this
    -- a new row
    have grow : ∀ {xs : List AV} {css : List (List Value)} {A : Option Addr} {cap : Nat} (_ : Css G esz xs css) {toks' : List Nat} {t0 : Nat} (_ : xa = .slice A xs.length cap) (_ : cap < xs.length + (ys.length + 1)) (_ : xs.length + (ys.length + 1) ≤ maxLen) (_ : (xs.length + (ys.length + 1)) * bytes ≤ big) (_ : 0 < esz)
        (_ : (Builtin.firstCells esz xs.length xa).run P w.drew = .ok css.flatten.toArray w.drew)
        (_ : toks'[t0]? = some (xs.length + (ys.length + 1))) (_ : ∀ t', t' ≠ t0 → toks'[t']? = s.toks[t']?) (_ : ∀ n0, s.toks[t0]? = some n0 → n0 < xs.length + (ys.length + 1)),
        ∃ x w' G', (Builtin.append_ ts ty #[xa, .slice X (ys.length + 1) c]).run P w = .ok x w' ∧ G.le G' ∧ Inv P B G' { s with toks := toks' } w' ∧ R G' (.v (.slice esz (xs ++ y :: ys) (.tok t0)) x) := by
      intro xs css A cap hx toks' t0 hxa hcap h63 hb he0 hold hself hoth hless
      subst hxa
      have hb' : (xs.length + (ys.length + 1)) * i.bytes ≤ 140737488355328 := by rw [hiby]; simp only [big] at hb; omega
      have hrun := run_app_grow ht hu ht2 hu2 hi (ty := ty) hzv (by rw [hisz]; exact hold) (hnew w.drew rfl) hcap h63 hb'
      obtain ⟨G', h1, h2, h3⟩ := hI.grown hx hd rfl hm (e := e) hzs he0 (grownCap_ge w _ cap e) (grownCap_le_maxLen w _ cap e h63) hself hoth hless
      exact ⟨_, _, G', hrun, h1, h2, h3⟩
    have newTok : ∀ k, (s.toks ++ [k])[s.toks.length]? = some k ∧ (∀ t', t' ≠ s.toks.length → (s.toks ++ [k])[t']? = s.toks[t']?) ∧ ∀ n0, s.toks[s.toks.length]? = some n0 → n0 < k := by
      intro k
      refine ⟨by simp, fun t' ht' => ?_, fun n0 h0 => by simp at h0⟩
      rcases Nat.lt_or_ge t' s.toks.length with q | q
      · rw [List.getElem?_append_left q]
      · rw [List.getElem?_eq_none (by simp; omega), List.getElem?_eq_none q]
    have hsmall : ∀ {k}, k ≤ big → k ≤ maxLen := fun {k} h => by simp only [big, maxLen] at *; omega
    split at h
    · rename_i sz xs o
      split at h
      · rename_i hcond
        simp only [Bool.and_eq_true, decide_eq_true_eq] at hcond
        obtain ⟨⟨⟨hc1, hc2⟩, hc3⟩, hc4⟩ := hcond
        -- the old row
        have old : ∃ css A cap, xa = .slice A xs.length cap ∧ xs.length ≤ cap ∧ Css G esz xs css ∧ ownOk G o A sz xs.length cap ∧ (∀ w' : World, w'.heap = w.heap → (Builtin.firstCells esz xs.length xa).run P w' = .ok css.flatten.toArray w') ∧ (xs ≠ [] → sz = esz) := by
          have hel : elems s esz (.slice sz xs o) = some xs := by simp only [elems]; rw [if_pos hc1]
          obtain ⟨css, A, cap, e1, hcs, hf⟩ := elems_ok hI ra hel
          subst e1
          refine ⟨css, A, cap, rfl, ?_, hcs, ?_, fun w' hw => ?_, fun hne => ?_⟩
          · cases ra with
            | sliceE => exact Nat.zero_le _
            | sliceN hc => exact hc
          · cases ra with
            | sliceE hm ho => exact ho
            | sliceN hc hm hr ho => exact ho
          · have := hf w' hw xs.length (Nat.le_refl _)
            rwa [show css.take xs.length = css from by rw [← hcs.len]; simp] at this
          · simp at hc1
            rcases hc1 with q | q
            · exact q
            · exact absurd q hne
        obtain ⟨css, A, cap, e1, hcap, hcs, hown, hold, hsz⟩ := old
        subst e1
        split at h
        · cases h
          have hcap' : cap = xs.length := hown
          obtain ⟨k1, k2, k3⟩ := newTok (xs.length + (ys.length + 1))
          obtain ⟨x, w', G', g1, g2, g3, g4⟩ := grow hcs rfl (by omega) (hsmall hc3) hc2 hc4 (hold w.drew rfl) k1 k2 k3
          exact fin g1 g2 g3 g4
        · cases h
          have hcap' : cap = xs.length := hown
          obtain ⟨k1, k2, k3⟩ := newTok (xs.length + (ys.length + 1))
          obtain ⟨x, w', G', g1, g2, g3, g4⟩ := grow hcs rfl (by omega) (hsmall hc3) hc2 hc4 (hold w.drew rfl) k1 k2 k3
          exact fin g1 g2 g3 g4
        · rename_i t0
          split at h
          · rename_i n0 hn0
            split at h
            · rename_i hn
              cases h
              simp only [Bool.and_eq_true, decide_eq_true_eq] at hn
              obtain ⟨hsz', hn⟩ := hn
              subst hn
              obtain ⟨b, hA, hH⟩ := hown
              subst hA
              obtain ⟨b', c', sz', hk⟩ := hI.tok t0 _ hn0
              have hq := hk.h; rw [hH] at hq; cases hq
              subst hsz'
              obtain ⟨e0, cur, hb, hcur⟩ := hk.blk
              by_cases hroom : xs.length + (ys.length + 1) ≤ cap
              · have hdf := hd.flat
                have hmul : xs.length * sz + (ys.length + 1) * sz ≤ cap * sz := by rw [← Nat.add_mul]; exact Nat.mul_le_mul_right _ hroom
                have hdlen : dss.flatten.length = (ys.length + 1) * sz := by rw [hdf.2, hm]
                have hst := run_storeCells_at P b (xs.length * sz) e0 dss.flatten 0 cur w hb (by rw [hdlen]; omega) hdf.1.k_one
                simp only [Nat.add_zero] at hst
                rw [setRow_putObj hb] at hst
                have htk : (cur.toList.take (xs.length * sz)).length = xs.length * sz := by simp only [List.length_take, Array.length_toList]; omega
                generalize hL : cur.toList.take (xs.length * sz) ++ dss.flatten ++ cur.toList.drop (xs.length * sz + dss.flatten.length) = L at hst
                have hLl : L.length = cur.size := by
                  rw [← hL]; simp only [List.length_append, htk, List.length_drop, Array.length_toList]; omega
                obtain ⟨hle, hinv⟩ := hI.tokWrite hn0 hH hb (vs := L) hLl (fun j hj => by
                  rw [← hL, List.getElem?_append_left (by rw [List.length_append, htk]; omega), List.getElem?_append_left (by omega), List.getElem?_take_of_lt hj]; simp) (n' := xs.length + (ys.length + 1)) (by omega) hroom
                refine fin (run_app_room ht hu ht2 hu2 hi (hnew w rfl) (w' := w.putObj b (.cells L.toArray e0 (0, 0))) ?_ hroom) hle hinv ?_
                · rw [hisz]
                  simp only [add_plain', Nat.zero_add]
                  exact hst
                · have hro : R G (.r sz xs b 0) := by
                    cases ra with
                    | sliceE => exact .rnil _ _ _
                    | sliceN _ _ hr _ => exact hr
                  have hrn : R ((G.addM b (xs.length * sz) ((xs.length + (ys.length + 1)) * sz) L).addT t0 (xs.length + (ys.length + 1)) b cap sz) (.r sz (y :: ys) b (0 + xs.length * sz)) := by
                    refine (hd.mono hle).row fun j v hv => ?_
                    have hj : j < (ys.length + 1) * sz := by
                      rcases Nat.lt_or_ge j ((ys.length + 1) * sz) with q | q
                      · exact q
                      · rw [List.getElem?_eq_none (by omega)] at hv; cases hv
                    show (G.addM b (xs.length * sz) ((xs.length + (ys.length + 1)) * sz) L).M b (0 + xs.length * sz + j) = some v
                    rw [addM_in (by omega) (by rw [Nat.add_mul]; omega), ← hL, List.getElem?_append_left (by rw [List.length_append, htk]; omega), List.getElem?_append_right (by omega), htk]
                    rw [show 0 + xs.length * sz + j - xs.length * sz = j from by omega]; exact hv
                  have hxl : (xs ++ y :: ys).length = xs.length + (ys.length + 1) := by simp
                  have := R.sliceN (o := .tok t0) (c := cap) (by rw [hxl]; exact hroom) hk.cm ((hro.mono hle).r_append hrn) ⟨_, rfl, by rw [hxl]; exact addT_eq⟩
                  rw [hxl] at this
                  exact this
              · have hl := (List.getElem?_eq_some_iff.1 hn0).1
                obtain ⟨x, w', G', g1, g2, g3, g4⟩ := grow (t0 := t0) (toks' := s.toks.set t0 (xs.length + (ys.length + 1))) hcs rfl (by omega) (hsmall hc3) hc2 hc4 (hold w.drew rfl) (List.getElem?_set_self hl) (fun t' ht' => List.getElem?_set_ne (fun e => ht' e.symm)) (fun n0 h0 => by rw [hn0] at h0; cases h0; omega)
                exact fin g1 g2 g3 g4
            · cases h
          · cases h
        · cases h
      · cases h
    · rename_i l off len cap sz
      split at h
      · rename_i hcond
        simp only [Bool.and_eq_true, decide_eq_true_eq] at hcond
        obtain ⟨⟨⟨hc1, hc2⟩, hc3⟩, hc4⟩ := hcond
        subst hc1
        cases ra with
        | ms hL hc hmx =>
        rename_i b
        split at h
        · rename_i hroom
          split at h
          · rename_i cs hb
            split at h
            · rename_i hcc
              simp only [Bool.and_eq_true, decide_eq_true_eq] at hcc
              cases h
              have hsum : off + len * sz + (flatE (y :: ys)).length ≤ cs.length := by have := hcc.1; rw [Nat.add_mul] at this; rw [hcc.2]; omega
              obtain ⟨w', hst, hinv⟩ := hI.write hL hb (off := off + len * sz) hd.flat.1 hsum
              refine fin (run_app_room ht hu ht2 hu2 hi (hnew w rfl) (w' := w') ?_ hroom) (.refl _) hinv.dirt (.ms hL hroom hmx)
              rw [hisz]
              simp only [add_plain']
              exact hst
            · cases h
          · cases h
        · rename_i hroom
          split at h
          · rename_i xs hrow
            cases h
            obtain ⟨css, hcs, hxl, hcell⟩ := rowOf_ok hI hL hrow
            subst hxl
            obtain ⟨k1, k2, k3⟩ := newTok (xs.length + (ys.length + 1))
            obtain ⟨x, w', G', g1, g2, g3, g4⟩ := grow hcs rfl (by omega) (hsmall hc3) hc2 hc4 (run_firstCells_some w.drew _ _ _ _ _ _ hcs.flat.2 (fun j u hu => by rw [add_plain']; exact (cell_heap rfl).trans (hcell j u hu))) k1 k2 k3
            exact fin g1 g2 g3 g4
          · cases h
      · cases h
    · cases h
  · cases h

end
end Go.Fw
