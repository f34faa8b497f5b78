/- The framework, part 6g: a region that draws its order. -/
import Derived.Test.YthmlommnlihgcaaGreatDoorFwReg6
namespace Go.Fw
open Go
section
variable {P : Program} {B B' : Bs} {P' : AProg} {nt : Nat} {pd : List (Nat × Nat)} {fr : Fr} {s : ASt} {a : Act} {w : World} {G G0 : Gh}
variable {H : Handler} {rb : Option Nat} {all : Array Oper} {h : Hint}

/-- What a region's cooked operations are. -/
structure RegOk (P : Program) (h : Hint) (nt : Nat) (rb : Option Nat) (all : Array Oper) (f : Nat → AI) : Prop where
  op : ∀ j, j < all.size → ∃ o, all[j]? = some o ∧ OpOk P h nt rb all o (f j)

/-- .. of one that draws its order. -/
structure DrawOk (all : Array Oper) (f : Nat → AI) : Prop where
  edges : ∀ (j : Nat) (o : Oper), all[j]? = some o → ∀ e ∈ o.after, Region.binds .any e = true → e.on < j
  pre : ∀ (j : Nat) (o : Oper), all[j]? = some o → ∀ m ∈ (f j).pre, ∃ e ∈ o.after, Region.binds .any e = true ∧ (m = e.on ∨ m ∈ (f e.on).pre)

theorem binds_any {md : Region.Mode} {e : Edge} (h : Region.binds .any e = true) : Region.binds md e = true := by
  unfold Region.binds at *
  cases hg : e.ground <;> simp [hg] at h ⊢

def closedL (f : Nat → AI) (listed : Array Bool) : Prop := ∀ k, listed.getD k false = true → ∀ m ∈ (f k).pre, listed.getD m false = true

def open_ (n : Nat) (listed : Array Bool) : List Nat := (List.range n).filter fun j => !listed.getD j true

theorem getD_set {l : Array Bool} {i j : Nat} {d : Bool} (hi : i < l.size) : (l.setIfInBounds i true).getD j d = if j = i then true else l.getD j d := by
  simp only [Array.getD_eq_getD_getElem?, Array.getElem?_setIfInBounds]
  by_cases h : i = j
  · subst h; simp [hi]
  · simp [h, Ne.symm h]

theorem getD_any {l : Array Bool} {j : Nat} (hj : j < l.size) (d d' : Bool) : l.getD j d = l.getD j d' := by
  simp [Array.getD_eq_getD_getElem?, hj]

theorem open_set {n i : Nat} {listed : Array Bool} (hs : listed.size = n) {A C : List Nat} (hi : open_ n listed = A ++ i :: C) : open_ n (listed.setIfInBounds i true) = A ++ C := by
  have hmem : i ∈ open_ n listed := by rw [hi]; simp
  have hin : i < listed.size := by
    simp only [open_, List.mem_filter, List.mem_range] at hmem; omega
  have h1 : open_ n (listed.setIfInBounds i true) = (open_ n listed).filter fun j => !(j == i) := by
    unfold open_
    rw [List.filter_filter]
    refine List.filter_congr fun j hj => ?_
    rw [getD_set hin]
    by_cases q : j = i
    · subst q; simp
    · simp [q]
  have hnd : (open_ n listed).Nodup := List.Pairwise.filter _ List.nodup_range
  rw [hi] at hnd
  rw [h1, hi, List.filter_append, List.filter_cons]
  have hA : A.filter (fun j => !(j == i)) = A := List.filter_eq_self.2 fun j hj => by
    have : j ≠ i := fun q => by
      subst q
      exact (List.nodup_append.1 hnd).2.2 _ hj _ (by simp) rfl
    simp [this]
  have hC : C.filter (fun j => !(j == i)) = C := List.filter_eq_self.2 fun j hj => by
    have : j ≠ i := fun q => by
      subst q
      exact (List.nodup_cons.1 (List.nodup_append.1 hnd).2.1).1 hj
    simp [this]
  rw [hA, hC]; simp

/-- An operation that is ready may be first. -/
def FirstOk (H : Handler) (P' : AProg) (n : Nat) (f : Nat → AI) (r : OpsR) : Prop :=
  ∀ (listed : Array Bool) (A : List Nat) (i : Nat) (C : List Nat), listed.size = n → open_ n listed = A ++ i :: C → (∀ m ∈ (f i).pre, listed.getD m false = true) → ∀ {pd : List (Nat × Nat)} {fr : Fr} {s : ASt},
    evOps H P' (A.map f ++ f i :: C.map f) pd fr s = some r → evOps H P' (f i :: (A.map f ++ C.map f)) pd fr s = some r
/-- Those ahead of it in the list are not ordered ahead of it. -/
theorem open_ahead {n : Nat} {f : Nat → AI} {listed : Array Bool} {A C : List Nat} {i : Nat} (hs : listed.size = n) (hAC : open_ n listed = A ++ i :: C) (hpre : ∀ m ∈ (f i).pre, listed.getD m false = true) :
    ∀ j ∈ A, j < i ∧ i < n ∧ j ∉ (f i).pre := by
  intro j hj
  have hsorted : (open_ n listed).Pairwise (· < ·) := List.Pairwise.filter _ List.pairwise_lt_range
  rw [hAC] at hsorted
  have hmem : i ∈ open_ n listed := by rw [hAC]; simp
  have hin : i < n := by simp only [open_, List.mem_filter, List.mem_range] at hmem; exact hmem.1
  have hji : j < i := (List.pairwise_append.1 hsorted).2.2 j hj i (by simp)
  refine ⟨hji, hin, fun hjp => ?_⟩
  have h1 := hpre j hjp
  have h2 : j ∈ open_ n listed := by rw [hAC]; simp [hj]
  simp only [open_, List.mem_filter, List.mem_range] at h2
  rw [getD_any (by omega) true false, h1] at h2
  simp at h2
theorem first_apart {n : Nat} {f : Nat → AI} {r : OpsR} (h : ∀ i j, i < j → j < n → i ∉ (f j).pre → Fw.apart (f i) (f j)) : FirstOk H P' n f r := fun _ _ _ _ hs hAC hpre _ _ _ hr =>
  evOps_first (fun x hx => by
    obtain ⟨j, hj, rfl⟩ := List.mem_map.1 hx
    obtain ⟨h1, h2, h3⟩ := open_ahead hs hAC hpre j hj
    exact h _ _ h1 h2 h3) hr

theorem draw_ok (hH : HOk P P' H) (hp : ∀ g, pureV (P'.gl g) = true) {r : OpsR} {f : Nat → AI} (hR : RegOk P h nt rb all f) (hD : DrawOk all f) (hF : FirstOk H P' all.size f r) {md : Region.Mode} (hmd : md = .any) :
    ∀ (fuel t : Nat) (listed : Array Bool), listed.size = all.size → (open_ all.size listed).length ≤ fuel → closedL f listed → ∀ {pd : List (Nat × Nat)} {fr : Fr} {s : ASt} {a : Act} {w : World} {G : Gh} {B' : Bs},
    RI P B P' nt pd fr s a w G B' → evOps H P' ((open_ all.size listed).map f) pd fr s = some r → G0.le G → wpOpsIn (FR P rb) 0 P all (OQ P B nt G0 r) (Region.linearise.go md all fuel t listed []) a w := by
  intro fuel
  induction fuel with
  | zero =>
    intro t listed hs hl hcl pd fr s a w G B' hi hr hle
    have h0 : open_ all.size listed = [] := List.length_eq_zero_iff.1 (Nat.le_zero.1 hl)
    rw [h0] at hr
    exact ops_ok (h := h) hH hp [] (by simp) hi hr hle
  | succ fuel ih =>
    intro t listed hs hl hcl pd fr s a w G B' hi hr hle
    simp only [Region.linearise.go]
    split
    · rename_i i hi'
      have hready := List.mem_of_getElem? hi'
      rw [List.mem_filter] at hready
      obtain ⟨hir, hcond⟩ := hready
      have hin : i < all.size := by simpa using hir
      obtain ⟨o, ho, hok⟩ := hR.op i hin
      rw [Bool.and_eq_true] at hcond
      obtain ⟨hun, hedge⟩ := hcond
      rw [ho] at hedge
      simp only [Option.map_some, Option.getD_some] at hedge
      rw [Array.all_eq_true_iff_forall_mem] at hedge
      have hmem : i ∈ open_ all.size listed := by simp only [open_, List.mem_filter, List.mem_range]; exact ⟨hin, hun⟩
      obtain ⟨A, C, hAC⟩ := List.append_of_mem hmem
      have hpre : ∀ m ∈ (f i).pre, listed.getD m false = true := by
        intro m hm
        obtain ⟨e, he, hb, hme⟩ := hD.pre i o ho m hm
        have hel : listed.getD e.on false = true := by
          have := hedge e he
          rw [binds_any hb] at this
          simpa using this
        rcases hme with rfl | hme
        · exact hel
        · exact hcl _ hel m hme
      rw [linearise_go_acc, List.reverse_singleton, List.singleton_append, wpOpsIn_cons]
      rw [hAC, List.map_append, List.map_cons] at hr
      have hr2 := hF listed A i C hs hAC hpre hr
      have hopen := open_set hs hAC
      have hlen : (open_ all.size (listed.setIfInBounds i true)).length ≤ fuel := by
        rw [hopen]
        rw [hAC] at hl
        simp only [List.length_append, List.length_cons] at hl ⊢
        omega
      have hcl' : closedL f (listed.setIfInBounds i true) := by
        have hin' : i < listed.size := by omega
        intro k hk m hm
        rw [getD_set hin'] at hk ⊢
        split
        · rfl
        · by_cases q : k = i
          · subst q; exact hpre m hm
          · rw [if_neg q] at hk; exact hcl k hk m hm
      have hs2 := op_ok hH hp hok hi hr2 (K := wpOpsIn (FR P rb) 0 P all (OQ P B nt G0 r) (Region.linearise.go md all fuel (t / ((List.range all.size).filter fun i => !listed.getD i true && ((all[i]?).map (·.after.all fun e => !Region.binds md e || listed.getD e.on false)).getD false).length) (listed.setIfInBounds i true) [])) fun pd' fr' s' a' w' G' B'' hr' hle' hi' =>
        ih _ _ (by simpa using hs) hlen hcl' hi' (by rw [hopen, List.map_append]; exact hr') (hle.trans hle')
      simp only [wpOpIn, ho]
      unfold Step1 at hs2
      split
      · rename_i hw
        rw [if_pos hw] at hs2
        exact ⟨hs2.1, ops_ok.uponIn_mono (fun a w h => h) (fun e a w h => OQ.le hle h) hs2.2⟩
      · rename_i hw
        rw [if_neg hw] at hs2
        exact hs2
    · rename_i hnone
      have h0 : open_ all.size listed = [] := by
        cases hop : open_ all.size listed with
        | nil => rfl
        | cons i rest =>
          exfalso
          have hmem : i ∈ open_ all.size listed := by rw [hop]; simp
          have hsorted : (open_ all.size listed).Pairwise (· < ·) := List.Pairwise.filter _ List.pairwise_lt_range
          rw [hop] at hsorted
          have hmin : ∀ j, j < i → listed.getD j false = true := by
            intro j hj
            have hin : i < all.size := by
              simp only [open_, List.mem_filter, List.mem_range] at hmem; exact hmem.1
            cases hq : listed.getD j false with
            | true => rfl
            | false =>
              have : j ∈ open_ all.size listed := by
                simp only [open_, List.mem_filter, List.mem_range]
                refine ⟨by omega, ?_⟩
                rw [getD_any (by omega) true false, hq]; rfl
              rw [hop] at this
              rcases List.mem_cons.1 this with rfl | h2
              · exact absurd hj (Nat.lt_irrefl _)
              · have := (List.pairwise_cons.1 hsorted).1 j h2; omega
          simp only [open_, List.mem_filter, List.mem_range] at hmem
          obtain ⟨o, ho, hok⟩ := hR.op i hmem.1
          have hr' : i ∈ (List.range all.size).filter fun i => !listed.getD i true && ((all[i]?).map (·.after.all fun e => !Region.binds md e || listed.getD e.on false)).getD false := by
            rw [List.mem_filter]
            refine ⟨by simpa using hmem.1, ?_⟩
            rw [Bool.and_eq_true, ho]
            refine ⟨hmem.2, ?_⟩
            simp only [Option.map_some, Option.getD_some]
            rw [Array.all_eq_true_iff_forall_mem]
            intro e he
            cases hb : Region.binds md e with
            | false => rfl
            | true => rw [hmin _ (hD.edges i o ho e he (by rw [← hmd]; exact hb))]; rfl
          have hlt : t % ((List.range all.size).filter fun i => !listed.getD i true && ((all[i]?).map (·.after.all fun e => !Region.binds md e || listed.getD e.on false)).getD false).length < ((List.range all.size).filter fun i => !listed.getD i true && ((all[i]?).map (·.after.all fun e => !Region.binds md e || listed.getD e.on false)).getD false).length :=
            Nat.mod_lt _ (List.length_pos_of_mem hr')
          have := List.getElem?_eq_none_iff.1 hnone
          omega
      rw [h0] at hr
      exact ops_ok (h := h) hH hp [] (by simp) hi hr hle

/-! ### From cooked code -/
theorem cookOps_ok {draw : Bool} {pre : List (List Nat)} : ∀ {l : List Oper} {i : Nat} {is : List AI}, cookOps P h draw all pre i l = some is →
    is.length = l.length ∧ ∀ j o, l[j]? = some o → ∃ ai, is[j]? = some ai ∧ Cooked P h all o ai ∧ ai.pre = if draw then (pre.getD (i + j) []).eraseDups else []
  | [], i, is, hk => by simp [cookOps] at hk; subst hk; exact ⟨rfl, fun j o hj => by simp at hj⟩
  | o :: l, i, is, hk => by
    simp only [cookOps] at hk
    split at hk
    · rename_i is' g h1 h2
      cases hk
      obtain ⟨hlen, hih⟩ := cookOps_ok h1
      refine ⟨by simp [hlen], fun j o' hj => ?_⟩
      cases j with
      | zero =>
        simp only [List.getElem?_cons_zero, Option.some.injEq] at hj
        subst hj
        refine ⟨_, rfl, ⟨rfl, ?_, ?_⟩, rfl⟩
        · simp only
          cases hc : cookOp P h o.dst o.op with
          | none => exact .inl rfl
          | some x => exact .inr rfl
        · revert h2
          cases o.guard with
          | none => simp only [Option.some.injEq]; intro h2; exact h2.symm
          | some jb =>
            obtain ⟨j, b⟩ := jb
            simp only
            split
            · rename_i t ht; intro h2; cases h2; exact ⟨t, ht, rfl⟩
            · intro h2; cases h2
      | succ j =>
        obtain ⟨ai, k1, k2, k3⟩ := hih j o' (by simpa using hj)
        refine ⟨ai, by simpa using k1, k2, ?_⟩
        rw [k3, show i + 1 + j = i + (j + 1) from by omega]
    · cases hk

theorem preOf_fold (l : List Oper) : ∀ (acc : List (List Nat)) (done : List Oper), acc.length = done.length →
    (∀ j o, done[j]? = some o → ∀ m ∈ acc.getD j [], ∃ e ∈ o.after, Region.binds .any e = true ∧ (m = e.on ∨ m ∈ acc.getD e.on [])) →
    ∀ j o, (done ++ l)[j]? = some o → ∀ m ∈ (l.foldl (fun acc o => acc ++ [((o.after.toList.filter (Region.binds .any)).flatMap fun e => e.on :: acc.getD e.on []).eraseDups]) acc).getD j [],
      ∃ e ∈ o.after, Region.binds .any e = true ∧ (m = e.on ∨ m ∈ (l.foldl (fun acc o => acc ++ [((o.after.toList.filter (Region.binds .any)).flatMap fun e => e.on :: acc.getD e.on []).eraseDups]) acc).getD e.on []) := by
  induction l with
  | nil => intro acc done _ h1 j o hj m hm; simp only [List.append_nil] at hj; exact h1 j o hj m hm
  | cons x l ih =>
    intro acc done hl h1 j o hj
    simp only [List.foldl_cons]
    refine ih _ (done ++ [x]) (by simp [hl]) (fun j o hj m hm => ?_) j o (by simpa using hj)
    have hget : ∀ k, k < acc.length → (acc ++ [((x.after.toList.filter (Region.binds .any)).flatMap fun e => e.on :: acc.getD e.on []).eraseDups]).getD k [] = acc.getD k [] := by
      intro k hk
      simp [List.getD_eq_getElem?_getD, List.getElem?_append_left hk]
    have hmono : ∀ k m, m ∈ acc.getD k [] → m ∈ (acc ++ [((x.after.toList.filter (Region.binds .any)).flatMap fun e => e.on :: acc.getD e.on []).eraseDups]).getD k [] := by
      intro k m hm
      rcases Nat.lt_or_ge k acc.length with hk | hk
      · rw [hget k hk]; exact hm
      · simp [List.getD_eq_getElem?_getD, List.getElem?_eq_none hk] at hm
    rcases Nat.lt_or_ge j done.length with hjl | hjl
    · rw [List.getElem?_append_left hjl] at hj
      rw [hget j (by omega)] at hm
      obtain ⟨e, he, hb, hme⟩ := h1 j o hj m hm
      exact ⟨e, he, hb, hme.imp id (hmono _ _)⟩
    · have hj0 : j = done.length := by
        have : j < (done ++ [x]).length := (List.getElem?_eq_some_iff.1 hj).1
        simp at this; omega
      subst hj0
      simp at hj; subst hj
      have : (acc ++ [((x.after.toList.filter (Region.binds .any)).flatMap fun e => e.on :: acc.getD e.on []).eraseDups]).getD done.length [] = ((x.after.toList.filter (Region.binds .any)).flatMap fun e => e.on :: acc.getD e.on []).eraseDups := by
        rw [← hl]; simp [List.getD_eq_getElem?_getD]
      rw [this, List.mem_eraseDups] at hm
      obtain ⟨e, he, hme⟩ := List.mem_flatMap.1 hm
      rw [List.mem_filter] at he
      refine ⟨e, Array.mem_toList_iff.1 he.1, he.2, ?_⟩
      rcases List.mem_cons.1 hme with q | q
      · exact .inl q
      · exact .inr (hmono _ _ q)

theorem preOf_ok (l : List Oper) : ∀ j o, l[j]? = some o → ∀ m ∈ (preOf l).getD j [], ∃ e ∈ o.after, Region.binds .any e = true ∧ (m = e.on ∨ m ∈ (preOf l).getD e.on []) := by
  have := preOf_fold l [] [] rfl (by simp)
  simpa [preOf] using this

theorem edgesOk_ok : ∀ {l : List Oper} {i : Nat}, edgesOk i l = true → ∀ j o, l[j]? = some o → ∀ e ∈ o.after, Region.binds .any e = true → e.on < i + j
  | [], i, _, j, o, hj => by simp at hj
  | x :: l, i, he, j, o, hj => by
    simp only [edgesOk, Bool.and_eq_true] at he
    cases j with
    | zero =>
      simp at hj; subst hj
      intro e hm hb
      have := (Array.all_eq_true_iff_forall_mem.1 he.1) e hm
      rw [hb] at this
      simp only [Bool.not_true, Bool.false_or, Nat.blt_eq] at this
      omega
    | succ j =>
      intro e hm hb
      have := edgesOk_ok he.2 j o (by simpa using hj) e hm hb
      omega

theorem region_ok (hmix : P.follows .mixedOrders = true) (hH : HOk P P' H) (hp : ∀ g, pureV (P'.gl g) = true) {id : Nat} {draw : Bool} {ops : List AI} (hk : cookC P h (.region id all draw) = some (.reg draw ops)) (hok : acOk nt rb.isSome (.reg draw ops) = true)
    {r : OpsR} (hi : RI P B P' nt [] fr s a w G B) (hr : evOps H P' ops [] fr s = some r) : (Code.region id all draw).wpIn (FR P rb) 0 P (OQ P B nt G r) a w := by
  simp only [cookC] at hk
  split at hk
  · cases hk
  rename_i hedge
  obtain ⟨l0, hk0, hl0⟩ := Option.map_eq_some_iff.1 hk
  have hl1 : l0 = ops := by
    split at hl0
    · cases hl0
    · cases hl0; rfl
  rw [hl1] at hk0
  clear hk hl0
  have hk := hk0
  obtain ⟨hlen, hck⟩ := cookOps_ok hk
  simp only [acOk, Bool.and_eq_true] at hok
  obtain ⟨hok1, hok2⟩ := hok
  have hall : ∀ j, j < all.size → ∃ o ai, all[j]? = some o ∧ ops[j]? = some ai ∧ OpOk P h nt rb all o ai ∧ ai.pre = if draw then ((if draw then preOf all.toList else []).getD j []).eraseDups else [] := by
    intro j hj
    obtain ⟨ai, k1, k2, k3⟩ := hck j all[j] (by simp [hj])
    refine ⟨all[j], ai, by simp [hj], k1, ⟨k2, ?_, ?_, ?_⟩, by simpa using k3⟩
    · intro t ht
      simp only [opsOk, List.all_eq_true, Bool.and_eq_true] at hok1
      have := ((hok1 ai (List.mem_of_getElem? k1)).1.1) t ht
      simpa using this
    · intro f xs hd
      simp only [opsOk, List.all_eq_true, Bool.and_eq_true] at hok1
      have := (hok1 ai (List.mem_of_getElem? k1)).1.2
      rw [hd] at this
      cases rb with
      | none => rfl
      | some b => simp at this
    · intro hg
      simp only [opsOk, List.all_eq_true, Bool.and_eq_true] at hok1
      have := (hok1 ai (List.mem_of_getElem? k1)).2
      cases hgd : ai.gd with
      | none => exact absurd hgd hg
      | some x => rw [hgd] at this; exact this
  have hf : ∀ j ai, ops[j]? = some ai → ops.getD j default = ai := fun j ai hj => by simp [List.getD_eq_getElem?_getD, hj]
  have hmap : (List.range all.size).map (fun j => ops.getD j default) = ops := by
    apply List.ext_getElem?
    intro j
    rcases Nat.lt_or_ge j all.size with hj | hj
    · obtain ⟨o, ai, _, k2, _⟩ := hall j hj
      simp [hj, k2]
    · have h1 : ops.length ≤ j := by rw [hlen]; simpa using hj
      rw [List.getElem?_eq_none h1, List.getElem?_eq_none (by simpa using hj)]
  cases draw with
  | false =>
    refine wpIn_region (ops_ok (h := h) hH hp (f := fun j => ops.getD j default) _ (fun j hj => ?_) hi (by rw [hmap]; exact hr) (.refl _))
    obtain ⟨o, ai, k1, k2, k3, _⟩ := hall j (by simpa using hj)
    exact ⟨o, k1, by rw [hf j ai k2]; exact k3⟩
  | true =>
    simp only [Bool.true_and, Bool.not_eq_true', Bool.not_eq_false] at hedge
    have hR : RegOk P h nt rb all (fun j => ops.getD j default) := ⟨fun j hj => by
      obtain ⟨o, ai, k1, k2, k3, _⟩ := hall j hj
      exact ⟨o, k1, by rw [hf j ai k2]; exact k3⟩⟩
    have hD : DrawOk all (fun j => ops.getD j default) := by
      refine ⟨fun j o ho e he hb => ?_, fun j o ho m hm => ?_⟩
      · have := edgesOk_ok hedge j o (by simpa using ho) e he hb
        omega
      · obtain ⟨o', ai, k1, k2, _, k4⟩ := hall j (Array.getElem?_eq_some_iff.1 ho).1
        simp only [hf j ai k2, k4, if_true, List.mem_eraseDups] at hm
        obtain ⟨e, he, hb, hme⟩ := preOf_ok all.toList j o (by simpa using ho) m hm
        refine ⟨e, he, hb, hme.imp (fun q => q) fun hq => ?_⟩
        have hel : e.on < all.size := by
          have h1 := edgesOk_ok hedge j o (by simpa using ho) e he hb
          have h2 := (Array.getElem?_eq_some_iff.1 ho).1
          omega
        obtain ⟨o2, ai2, _, q2, _, q4⟩ := hall e.on hel
        rw [hf _ ai2 q2, q4]
        simpa [List.mem_eraseDups] using hq
    have hF : FirstOk H P' all.size (fun j => ops.getD j default) r := by
      refine first_apart fun i j hij hj hn => ?_
      simp only [Bool.not_true, Bool.false_or] at hok2
      simp only [drawOk, List.all_eq_true, List.mem_range] at hok2
      have hil : i < all.size := Nat.lt_trans hij hj
      obtain ⟨o1, a1, _, q2, _, _⟩ := hall i hil
      obtain ⟨o2, a2, _, p2, _, _⟩ := hall j hj
      have := hok2 j (by rw [hlen]; simpa using hj) i hij
      rw [q2, p2] at this
      rw [hf j a2 p2] at hn ⊢
      rw [hf i a1 q2]
      simp only [Bool.or_eq_true, List.contains_iff_mem, Bool.not_eq_true', Bool.or_eq_false_iff, List.any_eq_false] at this
      rcases this with hq | ⟨⟨h1, h2⟩, h3⟩
      · exact absurd hq hn
      · exact ⟨h1, h2, h3⟩
    refine wpIn_region_draw fun t => ?_
    have hi' : RI P B P' nt [] fr s a { w with drawn := w.drawn + 1 } G B := ⟨hi.ext, hi.inv.drawn _, hi.pend, hi.env, hi.glob, hi.ds⟩
    have h0 : open_ all.size (Array.replicate all.size false) = List.range all.size := by
      unfold open_
      rw [List.filter_eq_self]
      intro j hj
      have : j < all.size := by simpa using hj
      simp [Array.getD_eq_getD_getElem?, this]
    have hgo : ∀ t, wpOpsIn (FR P rb) 0 P all (OQ P B nt G r) (Region.linearise .any all t) a { w with drawn := w.drawn + 1 } := fun t => by
      unfold Region.linearise
      refine draw_ok hH hp hR hD hF rfl all.size t _ (by simp) (by rw [h0]; simp) (fun k hk => ?_) hi' (by rw [h0, hmap]; exact hr) (.refl _)
      simp only [Array.getD_eq_getD_getElem?, Array.getElem?_replicate] at hk
      split at hk <;> simp at hk
    simp only [Region.schedule, hmix, Bool.true_or, if_true]
    exact hgo _

end
end Go.Fw
