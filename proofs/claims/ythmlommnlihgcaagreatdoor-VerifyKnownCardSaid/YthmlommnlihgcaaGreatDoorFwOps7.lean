/- The framework, part 5g: all operations that see no store. -/
import Derived.Test.YthmlommnlihgcaaGreatDoorFwOps6
namespace Go.Fw
open Go
section
variable {P : Program} {B : Bs} {G : Gh} {s : ASt} {w : World} {P' : AProg} {env : Env} {ρ : Operand → Value}

theorem zero_shape {t : TypeId} {z : List AV} {v : Value} (hz : zeroOf P t = some z) {i : TypeInfo} (hi : P.info? t = some i) (hv : i.zero = some v) : (∃ cs, v = .agg cs ∧ ofVals cs.toList = some z) ∨ (∃ a, ofVal1 v = some a ∧ z = [a]) := by
  unfold zeroOf at hz
  simp only [hi, Option.bind_some, hv] at hz
  cases v with
  | agg cs => exact .inl ⟨cs, rfl, hz⟩
  | _ =>
    simp only [Option.map_eq_some_iff] at hz
    obtain ⟨a, h1, h2⟩ := hz
    exact .inr ⟨a, h1, h2.symm⟩

theorem zc {z : List AV} {ag : Option Bool} (h : ∀ y, z = [y] → isAgg' y = false) : cellsOf (match (generalizing := false) z with | [x] => (match ag with | some false => x | _ => .agg z) | _ => .agg z) = z := by
  split
  · rename_i y
    have := h y rfl
    split
    · cases y <;> first | rfl | (simp [isAgg'] at this)
    · rfl
  · rfl

theorem zc' {z : List AV} {ag : Option Bool} {vs : List Value} (hr : R G (.k z vs)) (h : ∀ y, z = [y] → isAgg' y = false) : R G (.k (cellsOf (match (generalizing := false) z with | [x] => (match ag with | some false => x | _ => .agg z) | _ => .agg z)) vs) := by
  rw [zc h]; exact hr

theorem ofVals_one {vs : List Value} {z : List AV} (h : ofVals vs = some z) : ∀ y, z = [y] → isAgg' y = false := by
  intro y hy
  subst hy
  cases vs with
  | nil => simp [ofVals] at h
  | cons q qs =>
    simp only [ofVals] at h
    split at h
    · rename_i p ps e1 e2
      cases h
      exact (ofVal1_ok (G := ⟨fun _ _ => none, fun _ => none, fun _ _ => none⟩) e1).2.2
    · cases h

theorem zeroV_ok {t : TypeId} {z : AV} (h : zeroV P t = some z) : ∃ i v, P.info? t = some i ∧ i.zero = some v ∧ R G (.v z v) := by
  unfold zeroV at h
  cases hi : P.info? t with
  | none => simp [hi] at h
  | some i =>
    simp only [hi, Option.bind_some] at h
    cases hz : i.zero with
    | none => simp [hz] at h
    | some v => simp only [hz] at h; exact ⟨i, v, rfl, hz, ofVal_ok h⟩

theorem fixP_cells {a a' : AV} (h : fixP a = some a') : ∀ vs : List Value, R G (.k (cellsOf a) vs) → R G (.k (cellsOf a') vs) := by
  intro vs r
  unfold fixP at h
  split at h
  · split at h
    · rename_i ds hd; cases h; exact fixL_ok hd r
    · cases h
  · rename_i hna
    have ha : cellsOf a = [a] := by cases a <;> first | rfl | (exact absurd rfl (hna _))
    rw [ha] at r
    cases r with
    | kcons r1 r2 r3 =>
      cases r3
      obtain ⟨k1, k2, k3⟩ := fix1_ok h r1
      have hb : cellsOf a' = [a'] := by cases a' <;> first | rfl | (simp [isAgg'] at k3)
      rw [hb]; exact .kcons k1 k2 .knil

theorem R.c_of_k {a : AV} {vs : List Value} (r : R G (.k (cellsOf a) vs)) : R G (.c a vs) := by
  cases a with
  | agg cs => exact .cagg r
  | _ => cases r with | kcons r1 r2 r3 => cases r3; exact .cone rfl r2 r1

/-- A new variable of cells that are known and never change. -/
theorem p_newc (hI : Inv P B G s w) {a : AV} (t : TypeId) {x : Value} (r : R G (.k (cellsOf a) x.cells.toList)) :
    PRes P G w (do pure (.pointer (some (← newVar t x)))) (.cptr a 0) := by
  refine ⟨.pointer (some ⟨w.heap.size, 0, none⟩), w.alloc (.cells x.cells t), G.addM w.heap.size 0 x.cells.toList.length x.cells.toList, ?_, ?_, ?_⟩
  · simp [newVar, newRow]
  · have := hI.quietM x.cells.toList t (0, 0) x.cells.toList.length
    simpa using this
  · have hle := hI.addM_new_le x.cells.toList.length x.cells.toList
    have := R.cptr (G := G.addM w.heap.size 0 x.cells.toList.length x.cells.toList) (b := w.heap.size) (o := 0) 0 (R.c_of_k (r.mono hle)) (fun j y hy => by
      have hj : j < x.cells.toList.length := by
        rcases Nat.lt_or_ge j x.cells.toList.length with h | h
        · exact h
        · rw [List.getElem?_eq_none h] at hy; cases hy
      rw [Nat.zero_add, addM_in (Nat.zero_le _) hj]; exact hy)
    simpa using this

def ORes (P : Program) (G : Gh) (w : World) (m : Sem Next) (v : AV) : Prop := ∃ x w' G', m.run P w = .ok (.value x) w' ∧ Quiet G w G' w' ∧ R G' (.v v x)

theorem opP_ok (hI : Inv P B G s w) (hO : Opn P' env G ρ) (hc : ∀ v, ρ (.const v) = v) {h : Hint} {o : Oper} {aop : AOp} (hk : cookOp P h o.dst o.op = some aop) {v : AV} (hv : aopP P' env aop = some v) :
    ORes P G w (execOp ρ o) v := by
  unfold cookOp at hk
  split at hk
  · rename_i x ho
    simp only [Option.map_eq_some_iff] at hk
    obtain ⟨a, h1, rfl⟩ := hk
    simp [aopP] at hv; subst hv
    exact ⟨_, w, G, by simp [execOp, ho], hI.quiet, hO.out _ _ h1⟩
  · rename_i x ho
    simp only [Option.map_eq_some_iff] at hk
    obtain ⟨a, h1, rfl⟩ := hk
    simp [aopP] at hv; subst hv
    exact ⟨_, w, G, by simp [execOp, ho], hI.quiet, hO.out _ _ h1⟩
  · rename_i c a b ho
    split at hk
    · rename_i c' a' b' h1 h2 h3
      cases hk
      simp only [aopP] at hv
      have hcc := hO.out _ _ h1
      generalize evO P' env c' = C at hcc hv
      have := p_pick hI hcc (hO.out _ _ h2) (hO.out _ _ h3) hv
      obtain ⟨x, w', G', q1, q2, q3⟩ := this
      refine ⟨x, w', G', ?_, q2, q3⟩
      simp only [execOp, ho, Sem.run_bind, Sem.run_pure] at q1 ⊢
      revert q1
      cases (asBool (ρ c)).run P w <;> simp [Result.andThen] <;> (intro h; first | exact h | simp_all)
    · cases hk
  · rename_i t ho
    split at hk
    · rename_i z hz
      obtain ⟨i, zv, hi, hzv, hr⟩ := zeroOf_ok (G := G) hz
      split at hk
      · cases hk; simp [aopP] at hv
      · split at hk
        · cases hk
          simp only [aopP] at hv
          split at hv
          · rename_i a' ha'
            cases hv
            have hcell : R G (.k (cellsOf a') zv.cells.toList) := by
              refine fixP_cells ha' _ ?_
              refine zc' hr ?_
              rcases zero_shape hz hi hzv with ⟨cs, _, h2⟩ | ⟨a, h1, h2⟩
              · exact ofVals_one h2
              · intro y hy; rw [h2] at hy; cases hy; exact (ofVal1_ok (G := G) h1).2.2
            obtain ⟨x, w', G', q1, q2, q3⟩ := p_newc hI t hcell
            refine ⟨x, w', G', ?_, q2, q3⟩
            simp only [execOp, ho, Instr.alloc, Sem.run_bind, run_zeroValue' hi hzv, Result.andThen_ok] at q1 ⊢
            revert q1
            cases (newVar t zv).run P w <;> simp [Result.andThen] <;> (intro h; first | exact h | simp_all)
          · cases hv
        · cases hk; simp [aopP] at hv
    · cases hk
  · rename_i t x ho
    split at hk
    · rename_i x' h1
      cases hk
      split at hv
      · simp only [aopP] at hv
        simpa [execOp, ho, ORes] using (p_boxc hI (hO.out _ _ h1) t hv).lift
      · simp [aopP] at hv
    · cases hk
  · rename_i t parts ho
    split at hk
    · rename_i z fs hz hu
      split at hk
      · rename_i hall
        simp only [Option.map_eq_some_iff] at hk
        obtain ⟨qs, h1, rfl⟩ := hk
        simp only [aopP] at hv
        simpa [execOp, ho, ORes] using (p_build hI hO hz (.inl ⟨fs, hu, hall, h1⟩) hv).lift
      · cases hk
    · rename_i z n e hz hu
      split at hk
      · rename_i hall
        simp only [Option.map_eq_some_iff] at hk
        obtain ⟨qs, h1, rfl⟩ := hk
        simp only [aopP] at hv
        simpa [execOp, ho, ORes] using (p_build hI hO hz (.inr ⟨n, e, hu, hall, h1⟩) hv).lift
      · cases hk
    · cases hk
  · rename_i t n parts ho
    split at hk
    · rename_i e hu
      split at hk
      · rename_i z ps hz hp
        split at hk
        · rename_i hcond
          cases hk
          split at hv
          · simp only [aopP] at hv
            simpa [execOp, ho, ORes] using (p_bslice hI hO (.inr rfl) hu hz hcond.1 hcond.2 hp hv).lift
          · simp only [aopP] at hv
            simpa [execOp, ho, ORes] using (p_bslice hI hO (.inl rfl) hu hz hcond.1 hcond.2 hp hv).lift
        · cases hk
      · cases hk
    · cases hk
  · split at hk
    · cases hk; simp [aopP] at hv
    · cases hk
  · rename_i t a x ho
    split at hk
    · rename_i a' x' h1 h2
      cases hk
      split at hv
      · split at hv <;> simp [aopP] at hv
      · simp [aopP] at hv
    · cases hk
  · rename_i x ho
    simp only [Option.map_eq_some_iff] at hk
    obtain ⟨a, h1, rfl⟩ := hk
    simp only [aopP] at hv
    exact p_nilchk hI (hO.out _ _ h1) o x ho rfl hv
  · rename_i op t x y r ho
    split at hk
    · rename_i a b h1 h2
      have hbin : ∀ {aop : AOp}, aop = .bin op a b → aopP P' env aop = some v → ORes P G w (execOp ρ o) v := by
        intro aop e hv
        subst e
        simp only [aopP] at hv
        simpa [execOp, ho, ORes] using (p_bin hI (hO.out _ _ h1) (hO.out _ _ h2) t x y hv).lift
      have hnil : ∀ {neg : Bool} {k : NK} {u : TypeDesc} {aop : AOp}, (op = if neg then BinOp.neq else .eql) → P.underlying t = some u → NilTy k u → eqNil neg k x y a b = some aop → aopP P' env aop = some v → ORes P G w (execOp ρ o) v := by
        intro neg k u aop e hu hku he hv
        subst e
        simpa [execOp, ho, ORes] using (eqnil_ok hI hO hc h1 h2 hu hku he hv).lift
      have hflat : ∀ {neg : Bool}, (op = if neg then BinOp.neq else .eql) → P.underlying t = some .bool → aopP P' env (.eq neg a b) = some v → ORes P G w (execOp ρ o) v := by
        intro neg e hu hv
        subst e
        simp only [aopP] at hv
        simpa [execOp, ho, ORes] using (eqflat_ok hI (x := x) (y := y) (hO.out _ _ h1) (hO.out _ _ h2) hu hv).lift
      have hstr : ∀ {neg : Bool} {fs : Array Field} {aop : AOp}, (op = if neg then BinOp.neq else .eql) → P.underlying t = some (.struct fs) → (if P.stoodInHeld t || P.eqGuardType P.depth t then none else (kindsF P 0 fs.toList).map fun ks => AOp.eqF neg ks a b) = some aop → aopP P' env aop = some v → ORes P G w (execOp ρ o) v := by
        intro neg fs aop e hu hk' hv'
        subst e
        split at hk'
        · cases hk'
        · rename_i hcl
          simp only [Bool.or_eq_true, not_or, Bool.not_eq_true] at hcl
          simp only [Option.map_eq_some_iff] at hk'
          obtain ⟨ks, hks, rfl⟩ := hk'
          simp only [aopP] at hv'
          simpa [execOp, ho, ORes] using (eqstruct_ok hI (x := x) (y := y) (hO.out _ _ h1) (hO.out _ _ h2) hu hcl.1 hcl.2 hks hv').lift
      split at hk
      · split at hk
        · cases hk; exact hbin rfl hv
        · cases hk; exact hbin rfl hv
        · rename_i hu; cases hk; exact hflat (neg := false) rfl hu hv
        · rename_i hu; exact hnil (neg := false) rfl hu (by simp [NilTy]) hk hv
        · rename_i hu; exact hnil (neg := false) rfl hu (by simp [NilTy]) hk hv
        · rename_i hu; exact hnil (neg := false) rfl hu (by simp [NilTy]) hk hv
        · rename_i hu; exact hnil (neg := false) rfl hu (by simp [NilTy]) hk hv
        · rename_i hu; exact hnil (neg := false) rfl hu (by simp [NilTy]) hk hv
        · rename_i hu; exact hstr (neg := false) rfl hu hk hv
        · cases hk
      · split at hk
        · cases hk; exact hbin rfl hv
        · cases hk; exact hbin rfl hv
        · rename_i hu; cases hk; exact hflat (neg := true) rfl hu hv
        · rename_i hu; exact hnil (neg := true) rfl hu (by simp [NilTy]) hk hv
        · rename_i hu; exact hnil (neg := true) rfl hu (by simp [NilTy]) hk hv
        · rename_i hu; exact hnil (neg := true) rfl hu (by simp [NilTy]) hk hv
        · rename_i hu; exact hnil (neg := true) rfl hu (by simp [NilTy]) hk hv
        · rename_i hu; exact hnil (neg := true) rfl hu (by simp [NilTy]) hk hv
        · rename_i hu; exact hstr (neg := true) rfl hu hk hv
        · cases hk
      · cases hk; exact hbin rfl hv
    · cases hk
  · rename_i op t x ho
    simp only [Option.map_eq_some_iff] at hk
    obtain ⟨a, h1, rfl⟩ := hk
    have : PRes P G w (Op.unary op (ρ x)) v := p_un hI (hO.out _ _ h1) (by cases op <;> simp only [aopP] at hv ⊢ <;> first | exact hv | cases hv)
    simpa [execOp, ho, ORes] using this.lift
  · rename_i S T x ho
    split at hk
    · rename_i k1 k2 x' hs ht h1
      cases hk
      simp only [aopP] at hv
      simpa [execOp, ho, ORes] using (p_toInt hI (hO.out _ _ h1) hs ht hv).lift
    · rename_i x' hs ht h1
      cases hk
      have hr := hO.out _ _ h1
      simp only [aopP] at hv
      generalize evO P' env x' = C at hr hv
      have key : ∃ st, ρ x = .string st ∧ v = C := by
        generalize ρ x = X at hr
        cases hr <;> simp only [reduceCtorEq] at hv
        rename_i st hst
        simp [optNat] at hv
        exact ⟨st, rfl, by rw [← hv, List.take_of_length_le (by simp)]⟩
      obtain ⟨st, h3, rfl⟩ := key
      refine ⟨ρ x, w, G, ?_, hI.quiet, hr⟩
      simp [execOp, ho, convert, run_underlying hs, run_underlying ht, h3]
    · cases hk
  · rename_i t x ho
    split at hk
    · cases hk
    · rename_i u x' hn hu h1
      cases hk
      simp only [aopP] at hv
      simpa [execOp, ho, ORes] using (p_mkIface hI hu (fun m e => hn m e) (hO.out _ _ h1) hv).lift
    · cases hk
  · rename_i f a b ho
    split at hk
    · rename_i a' b' h1 h2
      cases hk
      simp only [aopP] at hv
      have := (p_mkFunc (f := f) hI (opnds_ok hO h1) (opnds_ok hO h2) hv).lift
      have e1 : (a.toList.map ρ).toArray = a.map ρ := by rw [← Array.toList_map, Array.toArray_toList]
      have e2 : (b.toList.map ρ).toArray = b.map ρ := by rw [← Array.toList_map, Array.toArray_toList]
      rw [e1, e2] at this
      simpa [execOp, ho, ORes] using this
    · cases hk
  · cases hk; simp [aopP] at hv
  · rename_i t l c ho
    split at hk
    · split at hk
      · split at hk
        · cases hk; simp [aopP] at hv
        · cases hk
      · cases hk
    · cases hk
  · rename_i t x l u m ho
    split at hk
    · rename_i e x' l' u' m' hu h1 h2 h3 h4
      split at hk
      · rename_i he
        cases hk
        have he' : ∃ d, P.underlying e = some d := Option.isSome_iff_exists.1 he
        simp only [aopP] at hv
        simpa [execOp, ho, ORes] using (p_cutS hI hO hu rfl he' (hO.out _ _ h1) hv h2 h3 h4).lift
      · cases hk
    · rename_i x' l' u' hu h1 h2 h3 h4
      cases hk
      have hm : m = none := by cases m with | none => rfl | some q => simp only [opndO, Option.map_eq_some_iff] at h4; obtain ⟨_, _, hq⟩ := h4; cases hq
      subst hm
      simp only [aopP] at hv
      simpa [execOp, ho, ORes] using (p_cutStr hI hO hu (hO.out _ _ h1) h2 h3 hv).lift
    · rename_i n e x' l' u' hu h1 h2 h3 h4
      split at hk
      · rename_i hcond
        cases hk
        simp at hcond
        have he' : ∃ d, P.underlying e = some d := Option.isSome_iff_exists.1 hcond.1
        have hm : m = none := by cases m with | none => rfl | some q => simp only [opndO, Option.map_eq_some_iff] at h4; obtain ⟨_, _, hq⟩ := h4; cases hq
        subst hm
        simp only [aopP] at hv
        simpa [execOp, ho, ORes] using (p_cutA hI hO hu rfl he' hcond.2 hv (hO.out _ _ h1) h2 h3).lift
      · cases hk
    · cases hk
  · rename_i S x f ho
    split at hk
    · rename_i fs x' hu h1
      split at hk
      · rename_i fd hf
        split at hk
        · cases hk
        · rename_i hz
          cases hk
          simp only [aopP] at hv
          simpa [execOp, ho, ORes] using (p_fieldA hI hu hf hz (hO.out _ _ h1) hv).lift
      · cases hk
    · cases hk
  · rename_i S x f ho
    split at hk
    · rename_i fs x' hu h1
      split at hk
      · rename_i fd hf
        simp only [Option.map_eq_some_iff] at hk
        obtain ⟨ag, hag, rfl⟩ := hk
        simp only [aopP] at hv
        simpa [execOp, ho, ORes] using (p_field hI hu hf hag (hO.out _ _ h1) hv).lift
      · cases hk
    · cases hk
  · rename_i t x i ho
    split at hk
    · rename_i e x' i' hu h1 h2
      split at hk
      · rename_i he
        cases hk
        have he' : ∃ d, P.underlying e = some d := Option.isSome_iff_exists.1 he
        simp only [aopP] at hv
        simpa [execOp, ho, ORes] using (p_idxS hI hu rfl he' (hO.out _ _ h1) (hO.out _ _ h2) hv).lift
      · cases hk
    · rename_i n e x' i' hu h1 h2
      split at hk
      · rename_i he
        cases hk
        have he' : ∃ d, P.underlying e = some d := Option.isSome_iff_exists.1 he
        simp only [aopP] at hv
        simpa [execOp, ho, ORes] using (p_idxA hI hu rfl he' (hO.out _ _ h1) (hO.out _ _ h2) hv).lift
      · cases hk
    · cases hk
  · rename_i t x i ho
    split at hk
    · rename_i x' i' hu h1 h2
      cases hk
      simp only [aopP] at hv
      simpa [execOp, ho, ORes] using (p_idxStr hI hu (hO.out _ _ h1) (hO.out _ _ h2) hv).lift
    · rename_i n e x' i' hu h1 h2
      simp only [Option.map_eq_some_iff] at hk
      obtain ⟨ag, hag, rfl⟩ := hk
      simp only [aopP] at hv
      simpa [execOp, ho, ORes] using (p_idxV hI hu hag (hO.out _ _ h1) (hO.out _ _ h2) hv).lift
    · cases hk
  · split at hk
    · split at hk
      · cases hk; simp [aopP] at hv
      · cases hk
    · cases hk
  · split at hk
    · simp only [Option.map_eq_some_iff] at hk
      obtain ⟨z, _, rfl⟩ := hk
      simp [aopP] at hv
    · cases hk
  · split at hk
    · simp only [Option.map_eq_some_iff] at hk
      obtain ⟨z, _, rfl⟩ := hk
      simp [aopP] at hv
    · cases hk
  · split at hk
    · cases hk; simp [aopP] at hv
    · cases hk
  · simp only [Option.map_eq_some_iff] at hk
    obtain ⟨a, _, rfl⟩ := hk
    simp [aopP] at hv
  · rename_i x xt t ok ho
    split at hk
    · cases hk
    · rename_i u x' z hn hu h1 hz
      cases hk
      obtain ⟨i, zv, hi, hzv, rz⟩ := zeroV_ok (G := G) hz
      simp only [aopP] at hv
      simpa [execOp, ho, ORes] using (p_assert hI hu (fun m e => hn m e) hi hzv rz (hO.out _ _ h1) hv).lift
    · cases hk
  · rename_i x i ho
    simp only [Option.map_eq_some_iff] at hk
    obtain ⟨a, h1, rfl⟩ := hk
    simp only [aopP] at hv
    simpa [execOp, ho, ORes] using (p_extract hI (hO.out _ _ h1) hv).lift
  · rename_i c ho
    split at hk
    · rename_i b hb
      have hcall : ∃ cs, (execOp ρ o).run P w = (builtin b c.argTypes o.type cs (c.args.map ρ)).run P w := by
        simp only [execOp, ho, resolve, hb, Sem.run_bind, Sem.run_pure, Result.andThen_ok, invoke]
        exact ⟨_, rfl⟩
      obtain ⟨cs, hcall⟩ := hcall
      unfold cookBuiltin at hk
      split at hk
      · cases hk; simp [aopP] at hv
      · rename_i x hargs
        have hx : c.args = #[x] := by rw [← Array.toArray_toList (xs := c.args), hargs]
        split at hk
        · rename_i x' hu h1
          cases hk
          simp only [aopP] at hv
          obtain ⟨t, ht, hu⟩ := Option.bind_eq_some_iff.1 hu
          have := (p_lenStr (ty := o.type) hI ht hu (hO.out _ _ h1) hv).lift
          unfold ORes
          rw [hcall, hx]
          simpa [builtin] using this
        · rename_i e x' hu h1
          cases hk
          simp only [aopP] at hv
          obtain ⟨t, ht, hu⟩ := Option.bind_eq_some_iff.1 hu
          have := (p_lenS (ty := o.type) hI ht hu (hO.out _ _ h1) hv).lift
          unfold ORes
          rw [hcall, hx]
          simpa [builtin] using this
        · rename_i n e x' hu h1
          split at hk
          · rename_i hn
            cases hk
            simp only [aopP] at hv
            cases hv
            obtain ⟨t, ht, hu⟩ := Option.bind_eq_some_iff.1 hu
            have := (p_lenA (ty := o.type) (x := ρ x) hI ht hu hn).lift
            unfold ORes
            rw [hcall, hx]
            simpa [builtin] using this
          · cases hk
        · cases hk
      · split at hk
        · split at hk
          · cases hk; simp [aopP] at hv
          · cases hk
        · cases hk
      · split at hk
        · split at hk
          · cases hk; simp [aopP] at hv
          · cases hk
        · cases hk
      · rename_i x y hargs
        have hx : c.args = #[x, y] := by rw [← Array.toArray_toList (xs := c.args), hargs]
        split at hk
        · rename_i k xs hu h1
          cases hk
          have hxs : ∃ a b, xs = [a, b] ∧ opnd x = some a ∧ opnd y = some b := by
            simp only [opnds] at h1
            split at h1
            · rename_i a as e1 e2
              split at e2
              · rename_i b bs e3 e4; cases e4; cases e2; cases h1; exact ⟨a, b, rfl, e1, e3⟩
              · cases e2
            · cases h1
          obtain ⟨a, b, rfl, h2, h3⟩ := hxs
          simp only [aopP] at hv
          have := (p_minmax (mx := true) hI (hO.out _ _ h2) (hO.out _ _ h3) c.argTypes o.type hv).lift
          unfold ORes
          rw [hcall, hx]
          simpa [builtin] using this
        · cases hk
      · rename_i x y hargs
        have hx : c.args = #[x, y] := by rw [← Array.toArray_toList (xs := c.args), hargs]
        split at hk
        · rename_i k xs hu h1
          cases hk
          have hxs : ∃ a b, xs = [a, b] ∧ opnd x = some a ∧ opnd y = some b := by
            simp only [opnds] at h1
            split at h1
            · rename_i a as e1 e2
              split at e2
              · rename_i b bs e3 e4; cases e4; cases e2; cases h1; exact ⟨a, b, rfl, e1, e3⟩
              · cases e2
            · cases h1
          obtain ⟨a, b, rfl, h2, h3⟩ := hxs
          simp only [aopP] at hv
          have := (p_minmax (mx := false) hI (hO.out _ _ h2) (hO.out _ _ h3) c.argTypes o.type hv).lift
          unfold ORes
          rw [hcall, hx]
          simpa [builtin] using this
        · cases hk
      · cases hk
    · split at hk
      · simp only [Option.some.injEq] at hk
        split at hk
        · cases hk; simp [aopP] at hv
        · split at hk <;> cases hk <;> simp [aopP] at hv
      · cases hk
    · cases hk
  · split at hk
    · split at hk
      · cases hk; simp [aopP] at hv
      · cases hk
    · cases hk
  · simp only [Option.map_eq_some_iff] at hk
    obtain ⟨a, _, rfl⟩ := hk
    simp [aopP] at hv
  · cases hk

end
end Go.Fw
