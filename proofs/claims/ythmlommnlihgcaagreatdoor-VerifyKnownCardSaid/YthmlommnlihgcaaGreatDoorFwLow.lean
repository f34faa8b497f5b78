/- The framework, part 8: what a run leaves alone of the store that it began with. -/
import Derived.Test.YthmlommnlihgcaaGreatDoorFwInv
namespace Go.Fw
open Go

/-! Are all places (tokens) of a value below a number? -/
mutual
def belB (n : Nat) : AV → Bool
  | .int .. | .bool .. | .str .. | .nilptr | .nilfunc | .nilmap | .niliface | .junk => true
  | .slice _ xs _ => belBL n xs
  | .mslice l .. => Nat.blt l n
  | .ptr l _ | .yield l | .map l | .iter l => Nat.blt l n
  | .agg cs => belBL n cs
  | .tuple vs => belBL n vs
  | .cptr v _ => belB n v
  | .func _ a b => belBL n a && belBL n b
  | .iface _ v => belB n v
def belBL (n : Nat) : List AV → Bool
  | [] => true
  | x :: xs => belB n x && belBL n xs
end

mutual
def belT (n : Nat) : AV → Bool
  | .int .. | .bool .. | .str .. | .nilptr | .nilfunc | .nilmap | .niliface | .junk | .mslice .. | .ptr .. | .yield _ | .map _ | .iter _ => true
  | .slice _ xs o => (match o with | .tok t => Nat.blt t n | _ => true) && belTL n xs
  | .agg cs => belTL n cs
  | .tuple vs => belTL n vs
  | .cptr v _ => belT n v
  | .func _ a b => belTL n a && belTL n b
  | .iface _ v => belT n v
def belTL (n : Nat) : List AV → Bool
  | [] => true
  | x :: xs => belT n x && belTL n xs
end

mutual
theorem belB_of (n : Nat) : ∀ v : AV, locs v = false → belB n v = true
  | .int .., _ | .bool .., _ | .str .., _ | .nilptr, _ | .nilfunc, _ | .nilmap, _ | .niliface, _ | .junk, _ => rfl
  | .slice _ xs _, h => belBL_of n xs (by simpa [locs] using h)
  | .mslice .., h | .ptr .., h | .yield _, h | .map _, h | .iter _, h => by simp [locs] at h
  | .agg cs, h => belBL_of n cs (by simpa [locs] using h)
  | .tuple vs, h => belBL_of n vs (by simpa [locs] using h)
  | .cptr v _, h => belB_of n v (by simpa [locs] using h)
  | .func _ a b, h => by
    simp only [locs, Bool.or_eq_false_iff] at h
    simp [belB, belBL_of n a h.1, belBL_of n b h.2]
  | .iface _ v, h => belB_of n v (by simpa [locs] using h)
theorem belBL_of (n : Nat) : ∀ xs : List AV, locsL xs = false → belBL n xs = true
  | [], _ => rfl
  | x :: xs, h => by
    simp only [locsL, Bool.or_eq_false_iff] at h
    simp [belBL, belB_of n x h.1, belBL_of n xs h.2]
end

mutual
theorem belT_of (n : Nat) : ∀ v : AV, toks v = false → belT n v = true
  | .int .., _ | .bool .., _ | .str .., _ | .nilptr, _ | .nilfunc, _ | .nilmap, _ | .niliface, _ | .junk, _ | .mslice .., _ | .ptr .., _ | .yield _, _ | .map _, _ | .iter _, _ => rfl
  | .slice _ xs o, h => by
    cases o with
    | tok t => simp [toks] at h
    | no => simpa [belT] using belTL_of n xs (by simpa [toks] using h)
    | full => simpa [belT] using belTL_of n xs (by simpa [toks] using h)
    | lit => simpa [belT] using belTL_of n xs (by simpa [toks] using h)
  | .agg cs, h => belTL_of n cs (by simpa [toks] using h)
  | .tuple vs, h => belTL_of n vs (by simpa [toks] using h)
  | .cptr v _, h => belT_of n v (by simpa [toks] using h)
  | .func _ a b, h => by
    simp only [toks, Bool.or_eq_false_iff] at h
    simp [belT, belTL_of n a h.1, belTL_of n b h.2]
  | .iface _ v, h => belT_of n v (by simpa [toks] using h)
theorem belTL_of (n : Nat) : ∀ xs : List AV, toksL xs = false → belTL n xs = true
  | [], _ => rfl
  | x :: xs, h => by
    simp only [toksL, Bool.or_eq_false_iff] at h
    simp [belTL, belT_of n x h.1, belTL_of n xs h.2]
end

def blkB (n : Nat) : ABlk → Prop
  | .cells cs _ => belBL n cs = true
  | .map es => ∀ p ∈ es, belB n p.1 = true ∧ belB n p.2 = true
  | .loop lp => (∀ i, belB n (lp.env i) = true) ∧ lp.dq < n
  | _ => True
def blkT (n : Nat) : ABlk → Prop
  | .cells cs _ => belTL n cs = true
  | .map es => ∀ p ∈ es, belT n p.1 = true ∧ belT n p.2 = true
  | .loop lp => ∀ i, belT n (lp.env i) = true
  | _ => True

/-- What a run leaves alone. -/
structure Low (s s' : ASt) : Prop where
  lenB : s.blks.length ≤ s'.blks.length
  lenT : s.toks.length ≤ s'.toks.length
  B : ∀ n, n ≤ s.blks.length → leak n s'.lowB = false → leak n s.lowB = false ∧ ∀ l k', l < n → s'.blks[l]? = some k' → ∀ k, s.blks[l]? = some k → blkB n k → blkB n k'
  T : ∀ n, n ≤ s.blks.length → leak n s'.lowT = false → leak n s.lowT = false ∧ ∀ m l k', l < n → s'.blks[l]? = some k' → ∀ k, s.blks[l]? = some k → blkT m k → blkT m k'

theorem Low.refl (s : ASt) : Low s s := ⟨Nat.le_refl _, Nat.le_refl _, fun _ _ h => ⟨h, fun _ _ _ h1 _ h2 h => by rw [h1] at h2; cases h2; exact h⟩, fun _ _ h => ⟨h, fun _ _ _ _ h1 _ h2 h => by rw [h1] at h2; cases h2; exact h⟩⟩

theorem Low.trans {a b c : ASt} (h : Low a b) (k : Low b c) : Low a c where
  lenB := Nat.le_trans h.lenB k.lenB
  lenT := Nat.le_trans h.lenT k.lenT
  B := fun n hn hl => by
    obtain ⟨h1, h2⟩ := k.B n (Nat.le_trans hn h.lenB) hl
    obtain ⟨h3, h4⟩ := h.B n hn h1
    refine ⟨h3, fun l k' hl hk' k0 hk0 hb => ?_⟩
    have hlb : l < b.blks.length := Nat.lt_of_lt_of_le (Nat.lt_of_lt_of_le hl hn) h.lenB
    exact h2 l k' hl hk' _ (List.getElem?_eq_getElem hlb) (h4 l _ hl (List.getElem?_eq_getElem hlb) k0 hk0 hb)
  T := fun n hn hl => by
    obtain ⟨h1, h2⟩ := k.T n (Nat.le_trans hn h.lenB) hl
    obtain ⟨h3, h4⟩ := h.T n hn h1
    refine ⟨h3, fun m l k' hl hk' k0 hk0 hb => ?_⟩
    have hlb : l < b.blks.length := Nat.lt_of_lt_of_le (Nat.lt_of_lt_of_le hl hn) h.lenB
    exact h2 m l k' hl hk' _ (List.getElem?_eq_getElem hlb) (h4 m l _ hl (List.getElem?_eq_getElem hlb) k0 hk0 hb)

/-- New places, and tokens. -/
theorem Low.append {s : ASt} (ks : List ABlk) (ts : List Nat) : Low s { s with blks := s.blks ++ ks, toks := s.toks ++ ts } where
  lenB := by simp
  lenT := by simp
  B := fun n hn hl => ⟨hl, fun l k' h1 h2 k h3 h => by rw [List.getElem?_append_left (by omega), h3] at h2; cases h2; exact h⟩
  T := fun n hn hl => ⟨hl, fun m l k' h1 h2 k h3 h => by rw [List.getElem?_append_left (by omega), h3] at h2; cases h2; exact h⟩

/-- A place is turned into what bears no new place. -/
theorem Low.set {s : ASt} {l : Nat} {k1 k2 : ABlk} (h : s.blks[l]? = some k1) (hB : ∀ n, blkB n k1 → blkB n k2) (hT : ∀ n, blkT n k1 → blkT n k2) : Low s { s with blks := s.blks.set l k2 } where
  lenB := by simp
  lenT := Nat.le_refl _
  B := fun n hn hl => ⟨hl, fun j k' h1 h2 k h3 hb => by
    by_cases q : l = j
    · subst q
      rw [h] at h3; cases h3
      have hlt : l < s.blks.length := (List.getElem?_eq_some_iff.1 h).1
      rw [List.getElem?_set_self hlt] at h2; cases h2
      exact hB _ hb
    · rw [List.getElem?_set_ne q, h3] at h2; cases h2; exact hb⟩
  T := fun n hn hl => ⟨hl, fun m j k' h1 h2 k h3 hb => by
    by_cases q : l = j
    · subst q
      rw [h] at h3; cases h3
      have hlt : l < s.blks.length := (List.getElem?_eq_some_iff.1 h).1
      rw [List.getElem?_set_self hlt] at h2; cases h2
      exact hT _ hb
    · rw [List.getElem?_set_ne q, h3] at h2; cases h2; exact hb⟩

theorem leak_low {b : Bool} {l n : Nat} {o : Option Nat} (h : leak n (low b l o) = false) : leak n o = false ∧ (l < n → b = false) := by
  unfold low at h
  cases o with
  | none =>
    cases b with
    | true => simp [leak] at h; exact ⟨rfl, fun q => by omega⟩
    | false => exact ⟨rfl, fun _ => rfl⟩
  | some m =>
    cases b with
    | true => simp [leak] at h ⊢; omega
    | false => exact ⟨h, fun _ => rfl⟩

/-- A write. -/
theorem Low.dirt {s : ASt} {l : Nat} {k1 k2 : ABlk} {cs : List AV} (h : s.blks[l]? = some k1) (hB : ∀ n, belBL n cs = true → blkB n k1 → blkB n k2) (hT : ∀ n, belTL n cs = true → blkT n k1 → blkT n k2) :
    Low s (Fw.dirt s l cs (s.blks.set l k2)) where
  lenB := by simp [Fw.dirt]
  lenT := Nat.le_refl _
  B := fun n hn hl => by
    obtain ⟨h1, h2⟩ := leak_low hl
    refine ⟨h1, fun j k' hj hk' k hk hb => ?_⟩
    simp only [Fw.dirt] at hk'
    by_cases q : l = j
    · subst q
      rw [h] at hk; cases hk
      have hlt : l < s.blks.length := (List.getElem?_eq_some_iff.1 h).1
      rw [List.getElem?_set_self hlt] at hk'; cases hk'
      exact hB _ (belBL_of _ _ (h2 hj)) hb
    · rw [List.getElem?_set_ne q, hk] at hk'; cases hk'; exact hb
  T := fun n hn hl => by
    obtain ⟨h1, h2⟩ := leak_low hl
    refine ⟨h1, fun m j k' hj hk' k hk hb => ?_⟩
    simp only [Fw.dirt] at hk'
    by_cases q : l = j
    · subst q
      rw [h] at hk; cases hk
      have hlt : l < s.blks.length := (List.getElem?_eq_some_iff.1 h).1
      rw [List.getElem?_set_self hlt] at hk'; cases hk'
      exact hT _ (belTL_of _ _ (h2 hj)) hb
    · rw [List.getElem?_set_ne q, hk] at hk'; cases hk'; exact hb

theorem belBL_append {n : Nat} : ∀ {xs ys : List AV}, belBL n (xs ++ ys) = (belBL n xs && belBL n ys)
  | [], ys => by simp [belBL]
  | x :: xs, ys => by simp [belBL, belBL_append (xs := xs), Bool.and_assoc]
theorem belTL_append {n : Nat} : ∀ {xs ys : List AV}, belTL n (xs ++ ys) = (belTL n xs && belTL n ys)
  | [], ys => by simp [belTL]
  | x :: xs, ys => by simp [belTL, belTL_append (xs := xs), Bool.and_assoc]
theorem belBL_sub {n : Nat} {xs ys : List AV} (h : ∀ x ∈ ys, x ∈ xs) (k : belBL n xs = true) : belBL n ys = true := by
  have h1 : ∀ {l : List AV}, belBL n l = true ↔ ∀ x ∈ l, belB n x = true := by
    intro l; induction l with
    | nil => simp [belBL]
    | cons a l ih => simp [belBL, ih]
  rw [h1] at *; exact fun x hx => k x (h x hx)
theorem belTL_sub {n : Nat} {xs ys : List AV} (h : ∀ x ∈ ys, x ∈ xs) (k : belTL n xs = true) : belTL n ys = true := by
  have h1 : ∀ {l : List AV}, belTL n l = true ↔ ∀ x ∈ l, belT n x = true := by
    intro l; induction l with
    | nil => simp [belTL]
    | cons a l ih => simp [belTL, ih]
  rw [h1] at *; exact fun x hx => k x (h x hx)

theorem belBL_splice {n : Nat} {cs ds : List AV} {off : Nat} (h : belBL n cs = true) (k : belBL n ds = true) : belBL n (splice cs off ds) = true := by
  unfold splice
  rw [belBL_append, belBL_append, Bool.and_eq_true, Bool.and_eq_true]
  exact ⟨⟨belBL_sub (fun x hx => List.mem_of_mem_take hx) h, k⟩, belBL_sub (fun x hx => List.mem_of_mem_drop hx) h⟩
theorem belTL_splice {n : Nat} {cs ds : List AV} {off : Nat} (h : belTL n cs = true) (k : belTL n ds = true) : belTL n (splice cs off ds) = true := by
  unfold splice
  rw [belTL_append, belTL_append, Bool.and_eq_true, Bool.and_eq_true]
  exact ⟨⟨belTL_sub (fun x hx => List.mem_of_mem_take hx) h, k⟩, belTL_sub (fun x hx => List.mem_of_mem_drop hx) h⟩

theorem putA_mem {k v : AV} : ∀ {es es' : List (AV × AV)}, putA k v es = some es' → ∀ p ∈ es', p = (k, v) ∨ p ∈ es
  | [], es', h => by simp [putA] at h; subst h; simp
  | (a, u) :: rest, es', h => by
    simp only [putA] at h
    split at h
    · cases h
      intro p hp
      rcases List.mem_cons.1 hp with rfl | hp
      · exact .inl rfl
      · exact .inr (by simp [hp])
    · split at h
      · rename_i r hr
        cases h
        intro p hp
        rcases List.mem_cons.1 hp with rfl | hp
        · exact .inr (by simp)
        · rcases putA_mem hr p hp with q | q
          · exact .inl q
          · exact .inr (by simp [q])
      · cases h
    · cases h

theorem keyOf_bel {kk : KK} {k : AV} (h : keyOf kk k = true) (n : Nat) : belB n k = true ∧ belT n k = true := by
  cases kk <;> cases k <;> simp [keyOf] at h <;> exact ⟨rfl, rfl⟩

section
variable {P : AProg} {e : Env} {s s1 : ASt} {v : AV}

theorem fixv_low {a a' : AV} (h : fixv s a = some (a', s1)) : Low s s1 := by
  unfold fixv at h
  split at h
  · split at h
    · rename_i hb
      cases h
      exact Low.set hb (fun _ h => h) (fun _ h => h)
    · cases h
  · split at h
    · cases h; exact .refl _
    · cases h

theorem aopW_low {op : AOp} (h : aopW P e s op = some (v, s1)) : Low s s1 := by
  cases op with
  | box x =>
    simp only [aopW] at h
    split at h
    · cases h; simpa using Low.append (s := s) [_] []
    · cases h
  | alloc z => simp only [aopW] at h; cases h; simpa using Low.append (s := s) [_] []
  | store sz a x =>
    simp only [aopW] at h
    split at h
    · split at h
      · rename_i l off _ cs hb
        split at h
        · cases h
          exact Low.dirt hb (fun n h1 h2 => belBL_splice h2 h1) (fun n h1 h2 => belTL_splice h2 h1)
        · cases h
      · cases h
    · cases h
  | mkMap => simp only [aopW] at h; cases h; simpa using Low.append (s := s) [_] []
  | mkSlice esz bytes z l c =>
    simp only [aopW] at h
    split at h
    · split at h
      · cases h; simpa using Low.append (s := s) [_] []
      · cases h
    · cases h
  | mapSet kk m k x =>
    simp only [aopW] at h
    split at h
    · rename_i l xv s2 _ hx
      split at h
      · rename_i es hb
        split at h
        · rename_i hkey
          split at h
          · rename_i es' hp
            cases h
            refine (fixv_low hx).trans (Low.dirt hb (fun n h1 h2 => ?_) (fun n h1 h2 => ?_))
            · intro p hp'
              rcases putA_mem hp p hp' with q | q
              · rw [q]; exact ⟨(keyOf_bel hkey n).1, by simpa [belBL] using h1⟩
              · exact h2 p q
            · intro p hp'
              rcases putA_mem hp p hp' with q | q
              · rw [q]; exact ⟨(keyOf_bel hkey n).2, by simpa [belTL] using h1⟩
              · exact h2 p q
          · cases h
        · cases h
      · cases h
    · cases h
  | rangeStr x =>
    simp only [aopW] at h
    split at h
    · cases h; simpa using Low.append (s := s) [_] []
    · cases h
  | nextStr it =>
    simp only [aopW] at h
    split at h
    · split at h
      · rename_i l _ t pos hb
        split at h
        · cases h
          exact Low.set hb (fun _ _ => trivial) (fun _ _ => trivial)
        · cases h; exact .refl _
      · cases h
    · cases h
  | append tk esz bytes a x =>
    simp only [aopW] at h
    split at h
    · cases h
    split at h
    · split at h
      · cases h; exact .refl _
      · cases h; exact .refl _
      · cases h
    · split at h
      · split at h
        · split at h
          · cases h; simpa using Low.append (s := s) [] [_]
          · cases h; simpa using Low.append (s := s) [] [_]
          · split at h
            · split at h
              · cases h
                exact ⟨Nat.le_refl _, by simp, (Low.refl s).B, (Low.refl s).T⟩
              · cases h
            · cases h
          · cases h
        · cases h
      · split at h
        · split at h
          · split at h
            · rename_i hb
              split at h
              · cases h
                exact Low.dirt hb (fun n h1 h2 => belBL_splice h2 h1) (fun n h1 h2 => belTL_splice h2 h1)
              · cases h
            · cases h
          · split at h
            · cases h; simpa using Low.append (s := s) [] [_]
            · cases h
        · cases h
      · cases h
    · cases h
  | copy esz d x =>
    simp only [aopW] at h
    split at h
    · split at h
      · rename_i hb
        split at h
        · cases h
          exact Low.dirt hb (fun n h1 h2 => belBL_splice h2 h1) (fun n h1 h2 => belTL_splice h2 h1)
        · cases h
      · cases h
    · cases h
  | _ => simp [aopW] at h

theorem fixvs_low : ∀ {as as' : List AV} {s s1 : ASt}, fixvs s as = some (as', s1) → Low s s1
  | [], as', s, s1, h => by simp [fixvs] at h; rw [← h.2]; exact .refl _
  | a :: as, as', s, s1, h => by
    simp only [fixvs] at h
    split at h
    · cases h
    · rename_i y s2 hy
      split at h
      · cases h
      · rename_i ys s3 hys
        cases h
        exact (fixv_low hy).trans (fixvs_low hys)

/-- Of what is called. -/
structure HLow (H : Handler) : Prop where
  call : ∀ g args s r s', H.call g args s = some (r, s') → Low s s'
  dcall : ∀ f args m s m' s', H.dcall f args m s = some (m', s') → Low s s'

variable {H : Handler} (hH : HLow H)

def outS : OpsR → ASt
  | .norm _ s => s
  | .pan _ _ s => s

include hH in
theorem evOps_low : ∀ {is : List AI} {pd : List (Nat × Nat)} {fr : Fr} {s : ASt} {r : OpsR}, evOps H P is pd fr s = some r → Low s (outS r)
  | [], pd, fr, s, r, h => by simp [evOps] at h; subst h; exact .refl _
  | i :: rest, pd, fr, s, r, h => by
    obtain ⟨d, op, gd, pre⟩ := i
    simp only [evOps] at h
    split at h
    · cases h
    · split at h
      · exact evOps_low h
      · cases h
    · cases op with
      | pend z => simp only at h; split at h <;> first | exact evOps_low h | cases h
      | shut d' sz x =>
        simp only at h
        split at h
        · split at h
          · exact evOps_low h
          · cases h
        · cases h
      | defer f args => simp only at h; split at h <;> first | exact evOps_low h | cases h
      | panic x => simp only at h; split at h <;> cases h; exact .refl _
      | callP st f args =>
        simp only at h
        split at h
        · split at h
          · split at h
            · split at h
              · exact evOps_low h
              · cases h
            · cases h
          · cases h
        · cases h
      | call f args =>
        simp only at h
        split at h
        · rename_i hvs
          split at h
          · rename_i hc
            exact ((fixvs_low hvs).trans (hH.call _ _ _ _ _ hc)).trans (evOps_low h)
          · rename_i hc
            cases h
            exact (fixvs_low hvs).trans (hH.call _ _ _ _ _ hc)
          · cases h
        · cases h
      | _ =>
        simp only at h
        split at h
        · exact evOps_low h
        · split at h
          · exact evOps_low h
          · split at h
            · rename_i hw
              exact (aopW_low hw).trans (evOps_low h)
            · cases h

theorem loopLay_low {rd : Option Nat} {ps : List Nat} {as bd : AC} {fr : Fr} {l : Nat} {mk : List ADef} (h : loopLay rd ps as bd fr s = some (l, mk, s1)) : Low s s1 := by
  unfold loopLay at h
  split at h
  · cases h; simpa using Low.append (s := s) [_, _] []
  · split at h
    · cases h; simpa using Low.append (s := s) [_] []
    · cases h

theorem loopN_low {step : Fr → ASt → Option CR} (hs : ∀ fr s r, step fr s = some r → Low s r.s) : ∀ {n : Nat} {fr : Fr} {s : ASt} {r : CR}, loopN step n fr s = some r → Low s r.s
  | 0, _, _, _, h => by simp [loopN] at h
  | n + 1, fr, s, r, h => by
    simp only [loopN] at h
    split at h
    · rename_i r1 h1
      split at h
      · exact (hs _ _ _ h1).trans (loopN_low hs h)
      · cases h; exact hs _ _ _ h1
    · cases h

include hH in
theorem evC_low {lf : Nat} {rd : Option Nat} : ∀ (c : AC) {fr : Fr} {s : ASt} {r : CR}, evC H P rd lf c fr s = some r → Low s r.s := by
  intro c
  induction c with
  | skip => intro fr s r h; simp only [evC, Option.some.injEq] at h; subst h; exact .refl _
  | ret => intro fr s r h; simp only [evC, Option.some.injEq] at h; subst h; exact .refl _
  | exit id => intro fr s r h; simp only [evC, Option.some.injEq] at h; subst h; exact .refl _
  | scope b ih => intro fr s r h; simp only [evC] at h; exact ih h
  | reg dr ops =>
    intro fr s r h
    simp only [evC] at h
    split at h
    · rename_i ho; cases h; exact evOps_low hH ho
    · rename_i ho; cases h; exact evOps_low hH ho
    · cases h
  | regW ops =>
    intro fr s r h
    simp only [evC] at h
    split at h
    · rename_i ho
      split at h
      · cases h; exact evOps_low hH ho
      · cases h
    · cases h
  | seq a b iha ihb =>
    intro fr s r h
    simp only [evC] at h
    split at h
    · rename_i r1 h1
      split at h
      · exact (iha h1).trans (ihb h)
      · cases h; exact iha h1
    · cases h
  | cond c t e iht ihe =>
    intro fr s r h
    simp only [evC] at h
    split at h
    · split at h
      · exact iht h
      · exact ihe h
    · cases h
  | block id b ih =>
    intro fr s r h
    simp only [evC] at h
    split at h
    · rename_i r1 h1
      split at h
      · have hl := ih h1
        split at h <;> cases h <;> exact hl
      · cases h; exact ih h1
    · cases h
  | loop b ih => intro fr s r h; simp only [evC] at h; exact loopN_low (fun _ _ _ h => ih h) h
  | rangeF f ps as bd iha ihb =>
    intro fr s r h
    simp only [evC] at h
    split at h
    · rename_i hl _
      split at h
      · rename_i hc
        split at h
        · rename_i lp hlp
          split at h
          · cases h
          · cases h
            exact ((loopLay_low hl).trans (hH.call _ _ _ _ _ hc)).trans (Low.set hlp (fun _ h => h) (fun _ h => h))
        · cases h
      · rename_i hc
        cases h
        exact (loopLay_low hl).trans (hH.call _ _ _ _ _ hc)
      · cases h
    · cases h

theorem setLoop_low {l : Nat} {f : ALoop → ALoop} (hf : ∀ lp, (f lp).env = lp.env ∧ (f lp).dq = lp.dq) (h : setLoop s l f = some s1) : Low s s1 := by
  unfold setLoop at h
  split at h
  · rename_i lp hlp
    cases h
    refine Low.set hlp (fun n h => ?_) (fun n h => ?_)
    · simp only [blkB, (hf lp).1, (hf lp).2] at h ⊢; exact h
    · simp only [blkT, (hf lp).1] at h ⊢; exact h
  · cases h

theorem setReady_low {l : Nat} (h : setReady s l = some s1) : Low s s1 := by
  unfold setReady at h
  split at h
  · rename_i lp hlp
    split at h
    · cases h
      exact Low.set hlp (fun _ h => h) (fun _ h => h)
    · cases h
  · cases h

include hH in
theorem roundN_low {lf l : Nat} {args : List AV} {r : ARes} {s' : ASt} (h : roundN H P lf l args s = some (r, s')) : Low s s' := by
  unfold roundN at h
  split at h
  · split at h
    · split at h
      · rename_i e1 s1 h1
        split at h
        · rename_i s2 h2
          split at h
          · rename_i ex _ s3 h3
            have h12 := ((evC_low hH _ h1).trans (setReady_low h2)).trans (evC_low hH _ h3)
            split at h
            · cases h; exact h12
            · split at h
              · rename_i h4
                cases h
                exact h12.trans (setLoop_low (f := fun lp => { lp with st := .ready, pend := none }) (fun _ => ⟨rfl, rfl⟩) h4)
              · cases h
            · split at h
              · rename_i h4
                cases h
                exact h12.trans (setLoop_low (f := fun lp => { lp with st := .done, pend := some ex }) (fun _ => ⟨rfl, rfl⟩) h4)
              · cases h
          · cases h
        · cases h
      · cases h
    · cases h
  · cases h

include hH in
theorem runDs_low : ∀ {ds : List ADef} {m m' : DM} {s s' : ASt}, runDs H ds m s = some (m', s') → Low s s'
  | [], m, m', s, s', h => by simp [runDs] at h; rw [← h.2]; exact .refl _
  | .mark l :: ds, m, m', s, s', h => by
    simp only [runDs] at h
    split at h
    · rename_i hl
      exact (Low.set (s := s) (k2 := .dead) hl (fun _ _ => trivial) (fun _ _ => trivial)).trans (runDs_low h)
    · cases h
  | .call f args :: ds, m, m', s, s', h => by
    simp only [runDs] at h
    split at h
    · rename_i hc
      exact (hH.dcall _ _ _ _ _ _ hc).trans (runDs_low h)
    · cases h

theorem resVal_low {vs : List AV} (h : resVal s vs = some (v, s1)) : Low s s1 := by
  unfold resVal at h
  split at h
  · cases h; exact .refl _
  · exact fixv_low h
  · split at h
    · rename_i hf; cases h; exact fixvs_low hf
    · cases h

/-! ### What is dropped -/
theorem leak_minO {n : Nat} {a b : Option Nat} (h : leak n (minO a b) = false) : leak n a = false ∧ leak n b = false := by
  cases a <;> cases b <;> simp [minO, leak] at h ⊢ <;> omega
theorem leak_le {n m : Nat} {a : Option Nat} (hn : n ≤ m) (h : leak m a = false) : leak n a = false := by
  cases a <;> simp [leak] at h ⊢; omega
theorem leak_keepLow {n m : Nat} {a b : Option Nat} (hn : n ≤ m) (h : leak n (keepLow m a b) = false) : leak n a = false ∧ leak n b = false := by
  unfold keepLow at h
  split at h
  · exact leak_minO h
  · rename_i hb; exact ⟨h, leak_le hn hb⟩

/-- s was begun with, s' is what came of it, from the flags laid anew. -/
theorem Low.trimB {s s' : ASt} {d : Bool} (h : Low (cleanS s) s') : s.blks.length ≤ (trimB s d s').blks.length ∧ (trimB s d s').toks = s'.toks ∧ (trimB s d s').lowT = s'.lowT ∧
    (∀ l, l < s.blks.length → (trimB s d s').blks[l]? = s'.blks[l]?) ∧ ∀ n, n ≤ s.blks.length → leak n (trimB s d s').lowB = false → leak n s.lowB = false ∧ leak n s'.lowB = false := by
  have hlen : s.blks.length ≤ s'.blks.length := h.lenB
  unfold Fw.trimB
  split
  · exact ⟨hlen, rfl, rfl, fun _ _ => rfl, fun n hn hl => leak_keepLow hn hl⟩
  · split
    · exact ⟨hlen, rfl, rfl, fun _ _ => rfl, fun n hn hl => leak_minO hl⟩
    · rename_i hd
      simp only [Bool.or_eq_false_iff] at hd
      refine ⟨by simp [hlen], rfl, rfl, fun l hl => ?_, fun n hn hl => ⟨hl, leak_le hn hd.1⟩⟩
      simp only
      rw [List.getElem?_take_of_lt hl]

theorem trimT_all {s s' : ASt} {d : Bool} (hlen : s.toks.length ≤ s'.toks.length) : s.toks.length ≤ (trimT s d s').toks.length ∧ (trimT s d s').blks = s'.blks ∧ (trimT s d s').lowB = s'.lowB ∧
    ∀ n, n ≤ s.blks.length → leak n (trimT s d s').lowT = false → leak n s.lowT = false ∧ leak n s'.lowT = false := by
  unfold Fw.trimT
  split
  · exact ⟨hlen, rfl, rfl, fun n hn hl => leak_keepLow hn hl⟩
  · split
    · rename_i hc
      simp only [canT, Bool.and_eq_true, Bool.not_eq_true', Bool.or_eq_false_iff] at hc
      exact ⟨by simp [hlen], rfl, rfl, fun n hn hl => ⟨hl, leak_le hn hc.2.1⟩⟩
    · exact ⟨hlen, rfl, rfl, fun n hn hl => leak_minO hl⟩

theorem Low.of_trim {s s' s'' : ASt} (h : Low (cleanS s) s') (h1 : s.blks.length ≤ s''.blks.length) (h2 : s.toks.length ≤ s''.toks.length) (h3 : ∀ l, l < s.blks.length → s''.blks[l]? = s'.blks[l]?)
    (hB : ∀ n, n ≤ s.blks.length → leak n s''.lowB = false → leak n s.lowB = false ∧ leak n s'.lowB = false) (hT : ∀ n, n ≤ s.blks.length → leak n s''.lowT = false → leak n s.lowT = false ∧ leak n s'.lowT = false) : Low s s'' where
  lenB := h1
  lenT := h2
  B := fun n hn hl => by
    obtain ⟨k1, k2⟩ := hB n hn hl
    exact ⟨k1, fun l k' hl' hk' k hk hb => (h.B n hn k2).2 l k' hl' (by rw [← h3 l (by omega)]; exact hk') k hk hb⟩
  T := fun n hn hl => by
    obtain ⟨k1, k2⟩ := hT n hn hl
    exact ⟨k1, fun m l k' hl' hk' k hk hb => (h.T n hn k2).2 m l k' hl' (by rw [← h3 l (by omega)]; exact hk') k hk hb⟩

theorem Low.trimBT {s s' : ASt} {d d' : Bool} (h : Low (cleanS s) s') : Low s (trimT s d' (Fw.trimB s d s')) := by
  obtain ⟨a1, a2, a3, a4, a5⟩ := Low.trimB (d := d) h
  have hlen : s.toks.length ≤ (Fw.trimB s d s').toks.length := by rw [a2]; exact h.lenT
  obtain ⟨b1, b2, b3, b4⟩ := trimT_all (d := d') hlen
  refine h.of_trim (by rw [b2]; exact a1) b1 (fun l hl => by rw [b2]; exact a4 l hl) (fun n hn hl => ?_) (fun n hn hl => ?_)
  · rw [b3] at hl; exact a5 n hn hl
  · obtain ⟨k1, k2⟩ := b4 n hn hl
    rw [a3] at k2; exact ⟨k1, k2⟩

theorem settle_low {s s' s'' : ASt} {v v' : AV} (h : Low (cleanS s) s') (hs : settle s v s' = (v', s'')) : Low s s'' := by
  unfold settle at hs
  split at hs
  · rename_i sz xs t
    split at hs
    · cases hs; exact h.trimBT
    · split at hs
      · rename_i n hc hn
        split at hs
        · cases hs
          obtain ⟨a1, a2, a3, a4, a5⟩ := Low.trimB (d := locsL xs) h
          simp only [canT, Bool.and_eq_true, Bool.not_eq_true', Bool.or_eq_false_iff] at hc
          refine h.of_trim a1 (by have := h.lenT; simp [cleanS] at this; simp; omega) a4 a5 fun n hn hl => ⟨hl, ?_⟩
          rw [← a3]; exact leak_le hn hc.2.1
        · cases hs; exact h.trimBT
      · cases hs; exact h.trimBT
  · cases hs; exact h.trimBT

include hH in
theorem runF_low {lf : Nat} {f : AF} {args : List AV} {r : ARes} {s' : ASt} (h : runF H P lf f args s = some (r, s')) : Low s s' := by
  unfold runF at h
  split at h
  · cases h
  split at h
  · rename_i ex fr s1 he
    have h1 := evC_low hH _ he
    split at h
    · split at h
      · rename_i hd
        cases h
        exact (h1.trans (runDs_low hH hd)).trimBT
      · rename_i s2 hd
        split at h
        · split at h
          · rename_i v s3 hv
            split at h
            rename_i v' s4 hs
            cases h
            exact settle_low ((h1.trans (runDs_low hH hd)).trans (resVal_low hv)) hs
          · cases h
        · cases h
      · cases h
    · cases h
  · cases h

theorem evOpsD_low : ∀ {ops : List AI} {fr fr' : Fr} {rc rc' : RC} {s s' : ASt}, evOpsD P ops fr rc s = some (fr', rc', s') → s' = s
  | [], fr, fr', rc, rc', s, s', h => by simp [evOpsD] at h; exact h.2.2.symm
  | i :: rest, fr, fr', rc, rc', s, s', h => by
    simp only [evOpsD] at h
    split at h
    · split at h
      · exact evOpsD_low h
      · exact evOpsD_low h
    · split at h
      · exact evOpsD_low h
      · cases h

include hH in
theorem evD_low {lf : Nat} : ∀ (c : AC) {fr : Fr} {rc : RC} {s : ASt} {r : AExit × Fr × RC × ASt}, evD H P lf c fr rc s = some r → Low s r.2.2.2 := by
  intro c
  induction c with
  | reg dr ops =>
    intro fr rc s r h
    simp only [evD] at h
    split at h
    · split at h
      · rename_i ho; cases h; rw [evOpsD_low ho]; exact .refl _
      · cases h
    · split at h
      · rename_i r1 h1; cases h; exact evC_low hH _ h1
      · cases h
  | seq a b iha ihb =>
    intro fr rc s r h
    simp only [evD] at h
    split at h
    · rename_i h1; exact (iha h1).trans (ihb h)
    · exact iha h
  | cond c t e iht ihe =>
    intro fr rc s r h
    simp only [evD] at h
    split at h
    · split at h
      · exact iht h
      · exact ihe h
    · cases h
  | _ =>
    intro fr rc s r h
    simp only [evD] at h
    split at h
    · rename_i r1 h1; cases h; exact evC_low hH _ h1
    · cases h

include hH in
theorem runD_low {lf : Nat} {f : AF} {args : List AV} {m m' : DM} {s' : ASt} (h : runD H P lf f args m s = some (m', s')) : Low s s' := by
  unfold runD at h
  split at h
  · cases h
  split at h
  · rename_i he
    have h1 := evD_low hH _ he
    split at h
    · split at h
      · split at h
        · cases h; exact h1.trimBT
        · cases h; exact h1.trimBT
      · cases h
    · cases h
  · cases h

theorem primRun_st {H : Handler} {p : Prim} {args : List AV} {s s' : ASt} {r : ARes} (h : primRun H p args s = some (r, s')) : s' = s := by
  simp only [primRun] at h
  repeat' split at h
  all_goals first | cases h; done | (cases h; rfl)

theorem callN_low : ∀ n, HLow (callN P n)
  | 0 => ⟨fun _ _ _ _ _ h => by simp [callN] at h, fun _ _ _ _ _ _ h => by simp [callN] at h⟩
  | n + 1 => by
    have ih := callN_low n
    refine ⟨fun g args s r s' h => ?_, fun f args m s m' s' h => ?_⟩
    · simp only [callN] at h
      split at h
      · split at h
        · rw [primRun_st h]; exact Low.refl _
        · split at h
          · exact runF_low ih h
          · cases h
      · exact roundN_low ih h
    · simp only [callN] at h
      split at h
      · exact runD_low ih h
      · cases h

end
end Go.Fw
