/- The framework, part 6h: stores whose order is drawn. -/
import Derived.Test.YthmlommnlihgcaaGreatDoorFwReg7
namespace Go.Fw
open Go
section
variable {P : AProg} {H : Handler}

/-- What nothing writes is as it was. -/
theorem evOps_env : ∀ {L : List AI} {pd : List (Nat × Nat)} {fr fr' : Fr} {s s' : ASt}, evOps H P L pd fr s = some (.norm fr' s') → ∀ t, (∀ i ∈ L, t ∉ writesOf i) → (∀ i ∈ L, opCls i.op ≠ 3) → fr'.env t = fr.env t
  | [], _, _, _, _, _, h, t, _, _ => by simp only [evOps, Option.some.injEq, OpsR.norm.injEq] at h; rw [h.1]
  | i :: L, pd, ⟨e, ds⟩, fr', s, s', h, t, ht, hc => by
    rw [evOps_eff (hc i (by simp))] at h
    cases he : eff H P i e ds s with
    | none => rw [he] at h; cases h
    | some x =>
      obtain ⟨E, ds', s1⟩ := x
      rw [he] at h
      simp only at h
      cases hok : okPd E pd with
      | false => rw [hok] at h; cases h
      | true =>
        rw [hok] at h
        simp only at h
        have := evOps_env h t (fun j hj => ht j (by simp [hj])) (fun j hj => hc j (by simp [hj]))
        rw [this]
        show updO e E.t E.v t = e t
        exact updO_ne fun k hk q => by
          subst q
          exact ht i (by simp) (eff_t he _ hk)

theorem splice_comm {cs : List AV} {o o' : Nat} {a b : List AV} (h1 : o + a.length ≤ cs.length) (h2 : o' + b.length ≤ cs.length) (hd : o + a.length ≤ o' ∨ o' + b.length ≤ o) : splice (splice cs o a) o' b = splice (splice cs o' b) o a := by
  have hl1 : (splice cs o a).length = cs.length := by simp [splice]; omega
  have hl2 : (splice cs o' b).length = cs.length := by simp [splice]; omega
  apply List.ext_getElem?
  intro k
  have g : ∀ (cs : List AV) (o : Nat) (a : List AV) (_ : o + a.length ≤ cs.length) (k : Nat), (splice cs o a)[k]? = if k < o then cs[k]? else if k < o + a.length then a[k - o]? else cs[k]? := by
    intro cs o a h k
    unfold splice
    by_cases k1 : k < o
    · rw [if_pos k1, List.append_assoc, List.getElem?_append_left (by simp; omega), List.getElem?_take_of_lt k1]
    · rw [if_neg k1, List.append_assoc, List.getElem?_append_right (by simp; omega)]
      have ht : (cs.take o).length = o := by simp; omega
      rw [ht]
      by_cases k2 : k < o + a.length
      · rw [if_pos k2, List.getElem?_append_left (by omega)]
      · rw [if_neg k2, List.getElem?_append_right (by omega), List.getElem?_drop]
        congr 1
        omega
  rw [g _ _ _ (by rw [hl1]; exact h2), g _ _ _ h1, g _ _ _ (by rw [hl2]; exact h1), g _ _ _ h2]
  by_cases a1 : k < o' <;> by_cases a2 : k < o' + b.length <;> by_cases a3 : k < o <;> by_cases a4 : k < o + a.length <;> simp [a1, a2, a3, a4] <;> omega

theorem low_comm (a b : Bool) (l l' : Nat) (m : Option Nat) : low a l (low b l' m) = low b l' (low a l m) := by
  cases a <;> cases b <;> cases m <;> simp [low, Nat.min_comm, Nat.min_left_comm]

theorem isSt_inv {i : AI} (h : isSt i = true) : ∃ sz a x, i.op = .store sz a x ∧ i.d = none := by
  unfold isSt at h
  split at h
  · rename_i h1 h2; exact ⟨_, _, _, h1, h2⟩
  · cases h
theorem isSt_writes {i : AI} (h : isSt i = true) : writesOf i = [] := by
  obtain ⟨sz, a, x, h1, h2⟩ := isSt_inv h
  simp [writesOf, h1, h2]
theorem isSt_cls {i : AI} (h : isSt i = true) : opCls i.op ≠ 3 := by
  obtain ⟨sz, a, x, h1, _⟩ := isSt_inv h
  rw [h1]; simp [opCls]
theorem isLd_inv {i : AI} (h : isLd i = true) : ∃ g sz a, i.op = .load g sz a := by
  unfold isLd at h
  split at h
  · rename_i h1; exact ⟨_, _, _, h1⟩
  · cases h
theorem isMem_cls {i : AI} (h : isMem i = true) : opCls i.op ≠ 3 := by
  unfold isMem at h
  simp only [Bool.or_eq_true] at h
  rcases h with h | h
  · exact isSt_cls h
  · obtain ⟨g, sz, a, h1⟩ := isLd_inv h
    rw [h1]; simp [opCls]
theorem evO_tmps {P : AProg} {a : AOpnd} {e e' : Env} (h : ∀ t ∈ opTmps a, e' t = e t) : evO P e' a = evO P e a := by
  cases a with
  | t k => exact h k (by simp [opTmps])
  | c v => rfl
  | g g => rfl
  | f f => rfl
theorem stR_congr {i : AI} {e e' : Env} (h : ∀ t ∈ readsOf i.op, e' t = e t) : stR P e' i = stR P e i := by
  unfold stR
  split
  · rename_i sz a x ho
    rw [evO_tmps (e := e) (e' := e') fun t ht => h t (by rw [ho]; simp [readsOf, ht])]
  · rename_i g sz a ho
    rw [evO_tmps (e := e) (e' := e') fun t ht => h t (by rw [ho]; simp [readsOf, ht])]
  · rfl
theorem eff_load {d : Option Nat} {g : Bool} {sz : Nat} {a : AOpnd} {gd : Option (Nat × Bool)} {pre : List Nat} {e : Env} {ds : List ADef} {s : ASt} : eff H P ⟨d, .load g sz a, gd, pre⟩ e ds s = (match wanted e gd with
    | none => none
    | some false => some (⟨d, undefA, none, none⟩, ds, s)
    | some true => (match aopR P e s (.load g sz a) with | some v => some (⟨d, v, none, none⟩, ds, s) | none => none)) := by
  unfold eff
  cases wanted e gd with
  | none => rfl
  | some b =>
    cases b with
    | false => rfl
    | true =>
      simp only [aopP, aopW]
      all_goals (cases aopR P e s (.load g sz a) <;> rfl)
theorem splice_get (cs : List AV) (o : Nat) (a : List AV) (h : o + a.length ≤ cs.length) (k : Nat) : (splice cs o a)[k]? = if k < o then cs[k]? else if k < o + a.length then a[k - o]? else cs[k]? := by
  unfold splice
  by_cases k1 : k < o
  · rw [if_pos k1, List.append_assoc, List.getElem?_append_left (by simp; omega), List.getElem?_take_of_lt k1]
  · rw [if_neg k1, List.append_assoc, List.getElem?_append_right (by simp; omega)]
    have ht : (cs.take o).length = o := by simp; omega
    rw [ht]
    by_cases k2 : k < o + a.length
    · rw [if_pos k2, List.getElem?_append_left (by omega)]
    · rw [if_neg k2, List.getElem?_append_right (by omega), List.getElem?_drop]
      congr 1
      omega
/-- A load beside a store. -/
theorem load_frame {e : Env} {s : ASt} {l o : Nat} {cs ds ks : List AV} {g : Bool} {sz n : Nat} {x : AOpnd} {d : Option Nat} {gd : Option (Nat × Bool)} {pre : List Nat} (hc : s.blks[l]? = some (.cells cs true)) (hl : o + ds.length ≤ cs.length) (hn : ds.length = n)
    (hd : disj (some (l, o, n)) (stR P e ⟨d, .load g sz x, gd, pre⟩) = true) :
    aopR P e (dirt s l ks (s.blks.set l (.cells (splice cs o ds) true))) (.load g sz x) = aopR P e s (.load g sz x) := by
  have hlt : l < s.blks.length := (List.getElem?_eq_some_iff.1 hc).1
  have hlen : (splice cs o ds).length = cs.length := by simp [splice]; omega
  simp only [aopR, dirt]
  cases hx : evO P e x <;> simp only
  rename_i l' o'
  simp only [stR, hx, disj, Bool.or_eq_true, Bool.not_eq_true', Nat.ble_eq] at hd
  by_cases hll : l = l'
  · subst hll
    have hd' : o + n ≤ o' ∨ o' + wdt g sz ≤ o := by
      rcases hd with (hd | hd) | hd
      · rw [Nat.beq_refl] at hd; cases hd
      · exact .inl hd
      · exact .inr hd
    rw [List.getElem?_set_self hlt, hc]
    cases g with
    | false =>
      simp only [wdt] at hd' ⊢
      rw [splice_get _ _ _ hl]
      by_cases k1 : o' < o
      · rw [if_pos k1]
      · rw [if_neg k1, if_neg (by omega)]
    | true =>
      simp only [wdt] at hd' ⊢
      have : partOf true sz (splice cs o ds) o' = partOf true sz cs o' := by
        simp only [partOf, hlen]
        split
        · congr 2
          apply List.ext_getElem?
          intro k
          by_cases hk : k < sz
          · rw [List.getElem?_take_of_lt hk, List.getElem?_take_of_lt hk, List.getElem?_drop, List.getElem?_drop, splice_get _ _ _ hl]
            by_cases k1 : o' + k < o
            · rw [if_pos k1]
            · rw [if_neg k1, if_neg (by omega)]
          · rw [List.getElem?_eq_none (by simp; omega), List.getElem?_eq_none (by simp; omega)]
        · rfl
      rw [this]
  · rw [List.getElem?_set_ne hll]
theorem eff_store {d : Option Nat} {sz : Nat} {a x : AOpnd} {gd : Option (Nat × Bool)} {pre : List Nat} {e : Env} {ds : List ADef} {s : ASt} : eff H P ⟨d, .store sz a x, gd, pre⟩ e ds s = (match wanted e gd with
    | none => none
    | some false => some (⟨d, undefA, none, none⟩, ds, s)
    | some true => (match aopW P e s (.store sz a x) with | some (v, s1) => some (⟨d, v, none, none⟩, ds, s1) | none => none)) := by
  unfold eff
  cases wanted e gd with
  | none => rfl
  | some b => cases b <;> rfl
theorem store_inv {sz : Nat} {a x : AOpnd} {e : Env} {s s1 : ASt} {v : AV} (h : aopW P e s (.store sz a x) = some (v, s1)) : ∃ l off cs, evO P e a = .ptr l off ∧ s.blks[l]? = some (.cells cs true) ∧ boxOk (evO P e x) = true ∧ (cellsOf (evO P e x)).length = sz ∧ off + sz ≤ cs.length ∧
    v = undefA ∧ s1 = dirt s l (cellsOf (evO P e x)) (s.blks.set l (.cells (splice cs off (cellsOf (evO P e x))) true)) := by
  simp only [aopW] at h
  split at h
  · rename_i l off ha
    split at h
    · rename_i cs hc
      split at h
      · rename_i hk
        simp only [Bool.and_eq_true, decide_eq_true_eq] at hk
        cases h
        exact ⟨l, off, cs, ha, hc, hk.1.1, hk.1.2, hk.2, rfl, rfl⟩
      · cases h
    · cases h
  · cases h
theorem store_mk {sz : Nat} {a x : AOpnd} {e : Env} {s : ASt} {l off : Nat} {cs : List AV} (ha : evO P e a = .ptr l off) (hc : s.blks[l]? = some (.cells cs true)) (h1 : boxOk (evO P e x) = true) (h2 : (cellsOf (evO P e x)).length = sz) (h3 : off + sz ≤ cs.length) :
    aopW P e s (.store sz a x) = some (undefA, dirt s l (cellsOf (evO P e x)) (s.blks.set l (.cells (splice cs off (cellsOf (evO P e x))) true))) := by
  simp only [aopW, ha, hc, h1, h2, h3, decide_true, Bool.and_self, if_true]
/-- Two stores in places of their own. -/
theorem eff_stores {a b : AI} {e : Env} {ds ds1 ds2 : List ADef} {s s1 s2 : ASt} {Ea Eb : Eff} (ha : isSt a = true) (hb : isSt b = true) (hd : disj (stR P e a) (stR P e b) = true)
    (hea : eff H P a e ds s = some (Ea, ds1, s1)) (heb : eff H P b e ds1 s1 = some (Eb, ds2, s2)) : ∃ ds3 s3, eff H P b e ds s = some (Eb, ds3, s3) ∧ eff H P a e ds3 s3 = some (Ea, ds2, s2) := by
  obtain ⟨da, oa, ga, pa⟩ := a
  obtain ⟨db, ob, gb, pb⟩ := b
  obtain ⟨sza, xa, va, rfl, _⟩ := isSt_inv ha
  obtain ⟨szb, xb, vb, rfl, _⟩ := isSt_inv hb
  rw [eff_store] at hea heb
  simp only [eff_store]
  cases hwa : wanted e ga with
  | none => rw [hwa] at hea; cases hea
  | some wa =>
    rw [hwa] at hea
    cases wa with
    | false =>
      simp only [Option.some.injEq, Prod.mk.injEq] at hea
      obtain ⟨rfl, rfl, rfl⟩ := hea
      exact ⟨_, _, heb, rfl⟩
    | true =>
      cases hwb : wanted e gb with
      | none => rw [hwb] at heb; cases heb
      | some wb =>
        rw [hwb] at heb
        cases wb with
        | false =>
          simp only [Option.some.injEq, Prod.mk.injEq] at heb
          obtain ⟨rfl, rfl, rfl⟩ := heb
          exact ⟨_, _, rfl, hea⟩
        | true =>
          simp only at hea heb ⊢
          cases h1 : aopW P e s (.store sza xa va) with
          | none => rw [h1] at hea; cases hea
          | some q1 =>
            obtain ⟨v1, t1⟩ := q1
            rw [h1] at hea
            simp only [Option.some.injEq, Prod.mk.injEq] at hea
            obtain ⟨rfl, rfl, rfl⟩ := hea
            cases h2 : aopW P e t1 (.store szb xb vb) with
            | none => rw [h2] at heb; cases heb
            | some q2 =>
              obtain ⟨v2, t2⟩ := q2
              rw [h2] at heb
              simp only [Option.some.injEq, Prod.mk.injEq] at heb
              obtain ⟨rfl, rfl, rfl⟩ := heb
              obtain ⟨l, o, cs, a1, a2, a3, a4, a5, rfl, rfl⟩ := store_inv h1
              obtain ⟨l', o', cs', b1, b2, b3, b4, b5, rfl, rfl⟩ := store_inv h2
              simp only [stR, a1, b1, disj, Bool.or_eq_true, Bool.not_eq_true', Nat.ble_eq] at hd
              have key : ∃ cs0, s.blks[l']? = some (.cells cs0 true) ∧ o' + szb ≤ cs0.length ∧ ∃ cs1, (s.blks.set l' (.cells (splice cs0 o' (cellsOf (evO P e vb))) true))[l]? = some (.cells cs1 true) ∧ o + sza ≤ cs1.length ∧
                  (s.blks.set l' (.cells (splice cs0 o' (cellsOf (evO P e vb))) true)).set l (.cells (splice cs1 o (cellsOf (evO P e va))) true) = (s.blks.set l (.cells (splice cs o (cellsOf (evO P e va))) true)).set l' (.cells (splice cs' o' (cellsOf (evO P e vb))) true) := by
                have hlt : l < s.blks.length := (List.getElem?_eq_some_iff.1 a2).1
                simp only [dirt] at b2
                by_cases hll : l = l'
                · subst hll
                  rw [List.getElem?_set_self hlt] at b2
                  cases b2
                  have hd' : o + sza ≤ o' ∨ o' + szb ≤ o := by
                    rcases hd with (hd | hd) | hd
                    · rw [Nat.beq_refl] at hd; cases hd
                    · exact .inl hd
                    · exact .inr hd
                  have hl1 : (splice cs o (cellsOf (evO P e va))).length = cs.length := by simp [splice]; omega
                  rw [hl1] at b5
                  refine ⟨cs, a2, b5, splice cs o' (cellsOf (evO P e vb)), List.getElem?_set_self hlt, ?_, ?_⟩
                  · simp [splice]; omega
                  · rw [List.set_set, List.set_set, splice_comm (by omega) (by omega) (by omega)]
                · rw [List.getElem?_set_ne hll] at b2
                  exact ⟨cs', b2, b5, cs, by rw [List.getElem?_set_ne (Ne.symm hll)]; exact a2, a5, List.set_comm _ _ (Ne.symm hll)⟩
              obtain ⟨cs0, k1, k2, cs1, k3, k4, k5⟩ := key
              rw [store_mk b1 k1 b3 b4 k2]
              refine ⟨_, _, rfl, ?_⟩
              rw [store_mk a1 (by simpa only [dirt] using k3) a3 a4 k4]
              simp only [dirt, k5, low_comm, Option.some.injEq, Prod.mk.injEq, true_and]

theorem disj_symm {a b : Option (Nat × Nat × Nat)} (h : disj a b = true) : disj b a = true := by
  cases a <;> cases b <;> first | rfl | skip
  rename_i x y
  simp only [disj, Bool.or_eq_true, Bool.not_eq_true', Nat.ble_eq] at h ⊢
  rcases h with (h | h) | h
  · refine .inl (.inl ?_)
    cases hq : Nat.beq y.1 x.1 with
    | false => rfl
    | true =>
      rw [Nat.eq_of_beq_eq_true hq, Nat.beq_refl] at h
      cases h
  · exact .inr h
  · exact .inl (.inr h)
/-- What a load sees beside a store. -/
theorem eff_ld_st {a b : AI} {e : Env} {ds ds' : List ADef} {s s' : ASt} {Ea Eb : Eff} (ha : isLd a = true) (hb : isSt b = true) (hd : disj (stR P e a) (stR P e b) = true) (heb : eff H P b e ds s = some (Eb, ds', s')) :
    (∃ q, eff H P a e ds s = some (Ea, q)) ↔ ∃ q, eff H P a e ds' s' = some (Ea, q) := by
  obtain ⟨da, oa, ga, pa⟩ := a
  obtain ⟨db, ob, gb, pb⟩ := b
  obtain ⟨g, sza, xa, rfl⟩ := isLd_inv ha
  obtain ⟨szb, xb, vb, rfl, _⟩ := isSt_inv hb
  rw [eff_store] at heb
  simp only [eff_load]
  have key : aopR P e s' (.load g sza xa) = aopR P e s (.load g sza xa) := by
    cases hwb : wanted e gb with
    | none => rw [hwb] at heb; cases heb
    | some wb =>
      rw [hwb] at heb
      cases wb with
      | false =>
        simp only [Option.some.injEq, Prod.mk.injEq] at heb
        obtain ⟨rfl, rfl, rfl⟩ := heb
        rfl
      | true =>
        simp only at heb
        cases h2 : aopW P e s (.store szb xb vb) with
        | none => rw [h2] at heb; cases heb
        | some q2 =>
          obtain ⟨v2, t2⟩ := q2
          rw [h2] at heb
          simp only [Option.some.injEq, Prod.mk.injEq] at heb
          obtain ⟨rfl, rfl, rfl⟩ := heb
          obtain ⟨l, o, cs, a1, a2, a3, a4, a5, rfl, rfl⟩ := store_inv h2
          refine load_frame (d := da) (gd := ga) (pre := pa) a2 (by omega) a4 ?_
          have := disj_symm hd
          rw [show stR P e ⟨db, .store szb xb vb, gb, pb⟩ = some (l, o, szb) by simp only [stR, a1]] at this
          exact this
  rw [key]
  cases wanted e ga with
  | none => simp
  | some w =>
    cases w with
    | false => simp
    | true => cases aopR P e s (.load g sza xa) <;> simp
theorem eff_ld_quiet {a : AI} {e : Env} {ds ds' : List ADef} {s s' : ASt} {Ea : Eff} (ha : isLd a = true) (h : eff H P a e ds s = some (Ea, ds', s')) : ds' = ds ∧ s' = s := by
  obtain ⟨g, sz, x, h1⟩ := isLd_inv ha
  exact eff_quiet (by rw [h1]; simp [opCls]) (by rw [h1]; simp [opCls]) h
theorem eff_mem {a b : AI} {e : Env} {ds ds1 ds2 : List ADef} {s s1 s2 : ASt} {Ea Eb : Eff} (hm : memP a b = true) (hd : disj (stR P e a) (stR P e b) = true)
    (hea : eff H P a e ds s = some (Ea, ds1, s1)) (heb : eff H P b e ds1 s1 = some (Eb, ds2, s2)) : ∃ ds3 s3, eff H P b e ds s = some (Eb, ds3, s3) ∧ eff H P a e ds3 s3 = some (Ea, ds2, s2) := by
  simp only [memP, isMem, Bool.or_eq_true, Bool.and_eq_true] at hm
  have ldst : isLd a = true → isSt b = true → ∃ ds3 s3, eff H P b e ds s = some (Eb, ds3, s3) ∧ eff H P a e ds3 s3 = some (Ea, ds2, s2) := fun ha hb => by
    obtain ⟨rfl, rfl⟩ := eff_ld_quiet ha hea
    obtain ⟨⟨q1, q2⟩, hq⟩ := (eff_ld_st ha hb hd heb).1 ⟨_, hea⟩
    obtain ⟨rfl, rfl⟩ := eff_ld_quiet ha hq
    exact ⟨_, _, heb, hq⟩
  have stld : isSt a = true → isLd b = true → ∃ ds3 s3, eff H P b e ds s = some (Eb, ds3, s3) ∧ eff H P a e ds3 s3 = some (Ea, ds2, s2) := fun ha hb => by
    obtain ⟨rfl, rfl⟩ := eff_ld_quiet hb heb
    obtain ⟨⟨q1, q2⟩, hq⟩ := (eff_ld_st hb ha (disj_symm hd) hea).2 ⟨_, heb⟩
    obtain ⟨rfl, rfl⟩ := eff_ld_quiet hb hq
    exact ⟨_, _, hq, hea⟩
  rcases hm with ⟨h1, h2 | h2⟩ | ⟨h1 | h1, h2⟩
  · exact eff_stores h1 h2 hd hea heb
  · exact stld h1 h2
  · exact eff_stores h1 h2 hd hea heb
  · exact ldst h1 h2
theorem memP_l {a b : AI} (h : memP a b = true) : isMem a = true := by
  simp only [memP, isMem, Bool.or_eq_true, Bool.and_eq_true] at h ⊢
  rcases h with ⟨h, _⟩ | ⟨h, _⟩
  · exact .inl h
  · exact h
theorem memP_r {a b : AI} (h : memP a b = true) : isMem b = true := by
  simp only [memP, isMem, Bool.or_eq_true, Bool.and_eq_true] at h ⊢
  rcases h with ⟨_, h⟩ | ⟨_, h⟩
  · exact h
  · exact .inl h

/-- The second store may be ahead. -/
theorem evOps_swapW {a b : AI} {rest : List AI} {pd : List (Nat × Nat)} {fr fr' : Fr} {s s' : ASt} (hm : memP a b = true) (hw1 : ∀ t ∈ writesOf a, t ∉ namesOf b) (hw2 : ∀ t ∈ writesOf b, t ∉ namesOf a) (hsa : ∀ t ∈ readsOf a.op, t ∉ writesOf a) (hsb : ∀ t ∈ readsOf b.op, t ∉ writesOf b)
    (hra : ∀ t ∈ readsOf a.op, ∀ i ∈ rest, t ∉ writesOf i) (hrb : ∀ t ∈ readsOf b.op, ∀ i ∈ rest, t ∉ writesOf i)
    (h3 : ∀ i ∈ rest, opCls i.op ≠ 3) (hd : disj (stR P fr'.env a) (stR P fr'.env b) = true) (h : evOps H P (a :: b :: rest) pd fr s = some (.norm fr' s')) : evOps H P (b :: a :: rest) pd fr s = some (.norm fr' s') := by
  have ha3 := isMem_cls (memP_l hm)
  have hb3 := isMem_cls (memP_r hm)
  have hall : ∀ t, t ∉ writesOf a → t ∉ writesOf b → (∀ i ∈ rest, t ∉ writesOf i) → fr'.env t = fr.env t := fun t q1 q2 ht => evOps_env h t (fun i hi => by
      rcases List.mem_cons.1 hi with rfl | hi
      · exact q1
      · rcases List.mem_cons.1 hi with rfl | hi
        · exact q2
        · exact ht i hi) (fun i hi => by
      rcases List.mem_cons.1 hi with rfl | hi
      · exact ha3
      · rcases List.mem_cons.1 hi with rfl | hi
        · exact hb3
        · exact h3 i hi)
  obtain ⟨e, ds⟩ := fr
  rw [stR_congr (e := e) fun t ht => hall t (hsa t ht) (fun hw => hw2 t hw (by simp [namesOf, ht])) (hra t ht), stR_congr (i := b) (e := e) fun t ht => hall t (fun hw => hw1 t hw (by simp [namesOf, ht])) (hsb t ht) (hrb t ht)] at hd
  rw [evOps_eff ha3] at h
  cases hea : eff H P a e ds s with
  | none => rw [hea] at h; cases h
  | some x =>
    obtain ⟨Ea, ds1, s1⟩ := x
    rw [hea] at h
    simp only at h
    cases hoka : okPd Ea pd with
    | false => rw [hoka] at h; cases h
    | true =>
      rw [hoka] at h
      simp only at h
      rw [evOps_eff hb3] at h
      have hag : ∀ t ∈ namesOf b, updO e Ea.t Ea.v t = e t := fun t ht => updO_ne fun k hk q => by
        subst q; exact hw1 _ (eff_t hea _ hk) ht
      rw [eff_congr hag] at h
      cases heb : eff H P b e ds1 s1 with
      | none => rw [heb] at h; cases h
      | some y =>
        obtain ⟨Eb, ds2, s2⟩ := y
        rw [heb] at h
        simp only at h
        cases hokb : okPd Eb (pdOf Ea pd) with
        | false => rw [hokb] at h; cases h
        | true =>
          rw [hokb] at h
          simp only at h
          have hne : ∀ k, Ea.t = some k → Eb.t ≠ some k := fun k h1 h2 => hw1 k (eff_t hea k h1) (writes_names (eff_t heb k h2))
          obtain ⟨ds3, s3, hb', ha'⟩ := eff_mem hm hd hea heb
          have hag2 : ∀ t ∈ namesOf a, updO e Eb.t Eb.v t = e t := fun t ht => updO_ne fun k hk q => by
            subst q; exact hw2 _ (eff_t heb _ hk) ht
          rw [evOps_eff hb3, hb']
          simp only
          rw [okPd_pdOf fun k n hk hq => hw1 k (eff_t hea k hq) (writes_names (eff_need heb k n hk))] at hokb
          rw [hokb]
          simp only
          rw [evOps_eff ha3, eff_congr hag2, ha']
          simp only
          rw [okPd_pdOf fun k n hk hq => hw2 k (eff_t heb k hq) (writes_names (eff_need hea k n hk)), hoka]
          simp only
          rw [updO_comm fun k h1 h2 => hne k h2 h1, evOps_pd (pdOf_comm fun k h1 h2 => hne k h1 h2)]
          exact h

/-- What a store reads is not written behind it. -/
def LaterOk : List AI → Prop
  | [] => True
  | x :: L => (isMem x = true → (∀ t ∈ readsOf x.op, t ∉ writesOf x) ∧ ∀ t ∈ readsOf x.op, ∀ y ∈ L, t ∉ writesOf y) ∧ LaterOk L
theorem LaterOk.tail : ∀ {A B : List AI}, LaterOk (A ++ B) → LaterOk B
  | [], _, h => h
  | _ :: A, _, h => LaterOk.tail (A := A) h.2
def apartW (P : AProg) (e : Env) (a i : AI) : Prop := apart a i ∨ (memP a i = true ∧ ((∀ t ∈ writesOf a, t ∉ namesOf i) ∧ (∀ t ∈ writesOf i, t ∉ namesOf a)) ∧ disj (stR P e a) (stR P e i) = true)
/-- An operation that is apart from all that are ahead of it may be first. -/
theorem evOps_firstW {i : AI} {rest : List AI} {fr' : Fr} {s' : ASt} : ∀ {A : List AI} {pd : List (Nat × Nat)} {fr : Fr} {s : ASt}, (∀ a ∈ A, apartW P fr'.env a i) → LaterOk (A ++ i :: rest) → (∀ x ∈ A ++ i :: rest, opCls x.op ≠ 3) →
    evOps H P (A ++ i :: rest) pd fr s = some (.norm fr' s') → evOps H P (i :: (A ++ rest)) pd fr s = some (.norm fr' s')
  | [], _, _, _, _, _, _, h => h
  | a :: A, pd, ⟨e, ds⟩, s, hA, hL, h3, h => by
    have key : evOps H P (a :: i :: (A ++ rest)) pd ⟨e, ds⟩ s = some (.norm fr' s') := by
      have ha3 : opCls a.op ≠ 3 := h3 a (by simp)
      simp only [List.cons_append] at h
      rw [evOps_eff ha3] at h ⊢
      split at h
      · rename_i E ds' s1 _
        cases hok : okPd E pd with
        | false => rw [hok] at h; cases h
        | true =>
          rw [hok] at h
          simp only at h ⊢
          exact evOps_firstW (fun x hx => hA x (by simp [hx])) hL.2 (fun x hx => h3 x (by simp at hx ⊢; exact .inr hx)) h
      · cases h
    rcases hA a (by simp) with q | ⟨q1, ⟨q2, q2'⟩, q3⟩
    · exact evOps_swap q key
    · have hi := (LaterOk.tail (A := A) hL.2).1 (memP_r q1)
      refine evOps_swapW q1 q2 q2' (hL.1 (memP_l q1)).1 hi.1 (fun t ht y hy => ?_) (fun t ht y hy => ?_) (fun y hy => h3 y ?_) q3 key
      · refine (hL.1 (memP_l q1)).2 t ht y ?_
        rcases List.mem_append.1 hy with hy | hy
        · exact List.mem_append_left _ hy
        · exact List.mem_append_right _ (List.mem_cons_of_mem _ hy)
      · rcases List.mem_append.1 hy with hy | hy
        · rcases hA y (by simp [hy]) with r | ⟨_, ⟨r, _⟩, _⟩
          · exact fun hw => r.2.1 t hw (by simp [namesOf, ht])
          · exact fun hw => r t hw (by simp [namesOf, ht])
        · exact hi.2 t ht y hy
      · rcases List.mem_append.1 hy with hy | hy
        · simp [hy]
        · simp [hy]

theorem later_map {f : Nat → AI} : ∀ {l : List Nat}, l.Pairwise (· < ·) → (∀ i ∈ l, isMem (f i) = true → ∀ t ∈ readsOf (f i).op, t ∉ writesOf (f i)) → (∀ i ∈ l, ∀ k ∈ l, i < k → isMem (f i) = true → ∀ t ∈ readsOf (f i).op, t ∉ writesOf (f k)) → LaterOk (l.map f)
  | [], _, _, _ => trivial
  | x :: l, hp, h0, h => by
    rw [List.pairwise_cons] at hp
    refine ⟨fun hs => ⟨h0 x (.head _) hs, fun t ht y hy => ?_⟩, later_map hp.2 (fun i hi => h0 i (.tail _ hi)) fun i hi k hk => h i (.tail _ hi) k (.tail _ hk)⟩
    obtain ⟨k, hk, rfl⟩ := List.mem_map.1 hy
    exact h x (.head _) k (.tail _ hk) (hp.1 k hk) hs t ht

theorem first_apartW {P' : AProg} {n : Nat} {f : Nat → AI} {fr' : Fr} {s' : ASt} (h : ∀ i j, i < j → j < n → i ∉ (f j).pre → apartW P' fr'.env (f i) (f j)) (hl : ∀ i j, i < j → j < n → isMem (f i) = true → ∀ t ∈ readsOf (f i).op, t ∉ writesOf (f j))
    (h0 : ∀ i, i < n → isMem (f i) = true → ∀ t ∈ readsOf (f i).op, t ∉ writesOf (f i)) (h3 : ∀ i, i < n → opCls (f i).op ≠ 3) : FirstOk H P' n f (.norm fr' s') := fun listed A i C hs hAC hpre pd fr s hr => by
  have hsorted : (open_ n listed).Pairwise (· < ·) := List.Pairwise.filter _ List.pairwise_lt_range
  have hlt : ∀ j ∈ open_ n listed, j < n := fun j hj => by simp only [open_, List.mem_filter, List.mem_range] at hj; exact hj.1
  have hm : A.map f ++ f i :: C.map f = (open_ n listed).map f := by rw [hAC]; simp
  refine evOps_firstW (fun x hx => ?_) ?_ (fun x hx => ?_) hr
  · obtain ⟨j, hj, rfl⟩ := List.mem_map.1 hx
    obtain ⟨h1, h2, h4⟩ := open_ahead hs hAC hpre j hj
    exact h _ _ h1 h2 h4
  · rw [hm]
    exact later_map hsorted (fun i hi => h0 i (hlt i hi)) fun i _ k hk hik => hl i k hik (hlt k hk)
  · rw [hm] at hx
    obtain ⟨j, hj, rfl⟩ := List.mem_map.1 hx
    exact h3 j (hlt j hj)

theorem djS_get {P : AProg} {e : Env} {l : List AI} (h : djS P e l = true) {i j : Nat} {a b : AI} (hij : i < j) (h1 : l[i]? = some a) (h2 : l[j]? = some b) (hp : i ∉ b.pre) (hm : memP a b = true) : disj (stR P e a) (stR P e b) = true := by
  simp only [djS, List.all_eq_true, List.mem_range] at h
  have := h j (List.getElem?_eq_some_iff.1 h2).1 i hij
  rw [h1, h2] at this
  simp only [Bool.or_eq_true, List.contains_iff_mem, hm, Bool.not_true, Bool.false_eq_true, or_false] at this
  exact this.resolve_left hp
end

section
variable {P : Program} {B B' : Bs} {P' : AProg} {nt : Nat} {pd : List (Nat × Nat)} {fr : Fr} {s : ASt} {a : Act} {w : World} {G G0 : Gh}
variable {H : Handler} {rb : Option Nat} {all : Array Oper} {h : Hint}
theorem region_okW (hmix : P.follows .mixedOrders = true) (hH : HOk P P' H) (hp : ∀ g, pureV (P'.gl g) = true) {id : Nat} {draw : Bool} {ops : List AI} (hk : cookC P h (.region id all draw) = some (.regW ops)) (hok : acOk nt rb.isSome (.regW ops) = true)
    {fr1 : Fr} {s1 : ASt} (hi : RI P B P' nt [] fr s a w G B) (hr : evOps H P' ops [] fr s = some (.norm fr1 s1)) (hdj : djS P' fr1.env ops = true) : (Code.region id all draw).wpIn (FR P rb) 0 P (OQ P B nt G (.norm fr1 s1)) a w := by
  simp only [cookC] at hk
  split at hk
  · cases hk
  rename_i hedge
  obtain ⟨l0, hk0, hl0⟩ := Option.map_eq_some_iff.1 hk
  have hl1 : l0 = ops ∧ draw = true := by
    split at hl0
    · rename_i hq
      simp only [Bool.and_eq_true] at hq
      cases hl0; exact ⟨rfl, hq.1⟩
    · cases hl0
  obtain ⟨hl2, hdr⟩ := hl1
  rw [hl2] at hk0
  clear hk hl0
  have hk := hk0
  obtain ⟨hlen, hck⟩ := cookOps_ok hk
  simp only [acOk, drawOkW, Bool.and_eq_true] at hok
  obtain ⟨hok1, hok2⟩ := hok
  have hall : ∀ j, j < all.size → ∃ o ai, all[j]? = some o ∧ ops[j]? = some ai ∧ OpOk P h nt rb all o ai ∧ ai.pre = if draw then ((if draw then preOf all.toList else []).getD j []).eraseDups else [] := by
    intro j hj
    obtain ⟨ai, k1, k2, k3⟩ := hck j all[j] (by simp [hj])
    refine ⟨all[j], ai, by simp [hj], k1, ⟨k2, ?_, ?_, ?_⟩, by simpa using k3⟩
    · intro t ht
      simp only [opsOk, List.all_eq_true, Bool.and_eq_true] at hok1
      have := ((hok1 ai (List.mem_of_getElem? k1)).1.1) t ht
      simpa using this
    · intro f xs hd
      simp only [opsOk, List.all_eq_true, Bool.and_eq_true] at hok1
      have := (hok1 ai (List.mem_of_getElem? k1)).1.2
      rw [hd] at this
      cases rb with
      | none => rfl
      | some b => simp at this
    · intro hg
      simp only [opsOk, List.all_eq_true, Bool.and_eq_true] at hok1
      have := (hok1 ai (List.mem_of_getElem? k1)).2
      cases hgd : ai.gd with
      | none => exact absurd hgd hg
      | some x => rw [hgd] at this; exact this
  have hf : ∀ j ai, ops[j]? = some ai → ops.getD j default = ai := fun j ai hj => by simp [List.getD_eq_getElem?_getD, hj]
  have hmap : (List.range all.size).map (fun j => ops.getD j default) = ops := by
    apply List.ext_getElem?
    intro j
    rcases Nat.lt_or_ge j all.size with hj | hj
    · obtain ⟨o, ai, _, k2, _⟩ := hall j hj
      simp [hj, k2]
    · have h1 : ops.length ≤ j := by rw [hlen]; simpa using hj
      rw [List.getElem?_eq_none h1, List.getElem?_eq_none (by simpa using hj)]
  subst hdr
  simp only [Bool.true_and, Bool.not_eq_true', Bool.not_eq_false] at hedge
  have hR : RegOk P h nt rb all (fun j => ops.getD j default) := ⟨fun j hj => by
    obtain ⟨o, ai, k1, k2, k3, _⟩ := hall j hj
    exact ⟨o, k1, by rw [hf j ai k2]; exact k3⟩⟩
  have hD : DrawOk all (fun j => ops.getD j default) := by
    refine ⟨fun j o ho e he hb => ?_, fun j o ho m hm => ?_⟩
    · have := edgesOk_ok hedge j o (by simpa using ho) e he hb
      omega
    · obtain ⟨o', ai, k1, k2, _, k4⟩ := hall j (Array.getElem?_eq_some_iff.1 ho).1
      simp only [hf j ai k2, k4, if_true, List.mem_eraseDups] at hm
      obtain ⟨e, he, hb, hme⟩ := preOf_ok all.toList j o (by simpa using ho) m hm
      refine ⟨e, he, hb, hme.imp (fun q => q) fun hq => ?_⟩
      have hel : e.on < all.size := by
        have h1 := edgesOk_ok hedge j o (by simpa using ho) e he hb
        have h2 := (Array.getElem?_eq_some_iff.1 ho).1
        omega
      obtain ⟨o2, ai2, _, q2, _, q4⟩ := hall e.on hel
      rw [hf _ ai2 q2, q4]
      simpa [List.mem_eraseDups] using hq
  have hF : FirstOk H P' all.size (fun j => ops.getD j default) (.norm fr1 s1) := by
    obtain ⟨hk2, hk3⟩ := hok2
    simp only [List.all_eq_true, List.mem_range] at hk2 hk3
    have hpair : ∀ i j, i < j → j < all.size → ∃ a1 a2, ops[i]? = some a1 ∧ ops[j]? = some a2 ∧ ops.getD i default = a1 ∧ ops.getD j default = a2 ∧ _ := fun i j hij hj => by
      obtain ⟨o1, a1, _, q2, _, _⟩ := hall i (Nat.lt_trans hij hj)
      obtain ⟨o2, a2, _, p2, _, _⟩ := hall j hj
      have := hk2 j (by rw [hlen]; simpa using hj) i hij
      rw [q2, p2] at this
      exact ⟨a1, a2, q2, p2, hf i a1 q2, hf j a2 p2, this⟩
    refine first_apartW (fun i j hij hj hn => ?_) (fun i j hij hj hs t ht hw => ?_) (fun i hi' hs t ht hw => ?_) fun i hi' => ?_
    · obtain ⟨a1, a2, q2, p2, e1, e2, hc⟩ := hpair i j hij hj
      simp only [e1, e2] at hn ⊢
      simp only [Bool.and_eq_true, Bool.or_eq_true, List.contains_iff_mem, Bool.not_eq_true', Bool.or_eq_false_iff, List.any_eq_false] at hc
      rcases hc.1 with hq | ⟨⟨h1, h2⟩, h3⟩
      · exact absurd hq hn
      · cases hst : memP a1 a2 with
        | false => rw [hst] at h1; exact .inl ⟨by simpa using h1, h2, h3⟩
        | true => exact .inr ⟨hst, ⟨h2, h3⟩, djS_get hdj hij q2 p2 hn hst⟩
    · obtain ⟨a1, a2, q2, p2, e1, e2, hc⟩ := hpair i j hij hj
      simp only [e1, e2] at hs ht hw
      simp only [Bool.and_eq_true, hs, Bool.not_true, Bool.false_or, Bool.not_eq_true', List.any_eq_false] at hc
      exact hc.2 t hw (by simpa using ht)
    · obtain ⟨o1, a1, _, q2, _, _⟩ := hall i hi'
      simp only [hf i a1 q2] at hs ht hw
      have := hk3 a1 (List.mem_of_getElem? q2)
      simp only [Bool.and_eq_true, hs, Bool.not_true, Bool.false_or, Bool.not_eq_true', List.any_eq_false] at this
      exact this.2 t hw (by simpa using ht)
    · obtain ⟨o1, a1, _, q2, _, _⟩ := hall i hi'
      simp only [hf i a1 q2]
      have := hk3 a1 (List.mem_of_getElem? q2)
      intro h3
      rw [h3] at this
      simp at this
  refine wpIn_region_draw fun t => ?_
  have hi' : RI P B P' nt [] fr s a { w with drawn := w.drawn + 1 } G B := ⟨hi.ext, hi.inv.drawn _, hi.pend, hi.env, hi.glob, hi.ds⟩
  have h0 : open_ all.size (Array.replicate all.size false) = List.range all.size := by
    unfold open_
    rw [List.filter_eq_self]
    intro j hj
    have : j < all.size := by simpa using hj
    simp [Array.getD_eq_getD_getElem?, this]
  have hgo : ∀ t, wpOpsIn (FR P rb) 0 P all (OQ P B nt G (.norm fr1 s1)) (Region.linearise .any all t) a { w with drawn := w.drawn + 1 } := fun t => by
    unfold Region.linearise
    refine draw_ok hH hp hR hD hF rfl all.size t _ (by simp) (by rw [h0]; simp) (fun k hk => ?_) hi' (by rw [h0, hmap]; exact hr) (.refl _)
    simp only [Array.getD_eq_getD_getElem?, Array.getElem?_replicate] at hk
    split at hk <;> simp at hk
  simp only [Region.schedule, hmix, Bool.true_or, if_true]
  exact hgo _

end
end Go.Fw
