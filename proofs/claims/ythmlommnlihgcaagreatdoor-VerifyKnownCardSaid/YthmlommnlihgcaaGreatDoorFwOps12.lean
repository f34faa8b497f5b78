/- The framework, part 5l: all operations that read or change the store. -/
import Derived.Test.YthmlommnlihgcaaGreatDoorFwOps11
namespace Go.Fw
open Go
section
variable {P : Program} {B : Bs} {G : Gh} {s s1 : ASt} {w : World} {P' : AProg} {env : Env} {ρ : Operand → Value}

theorem w_copy (hI : Inv P B G s w) {ts : Array TypeId} {t e ty : TypeId} (ht : ts[0]? = some t) (hu : P.underlying t = some (.slice e)) (hi : ∃ i, P.info? e = some i) {d x v : AV} {xd xx : Value} (rd : R G (.v d xd)) (rx : R G (.v x xx)) {esz : Nat} (hes : P.cellsOf e = esz)
    (h : (match (generalizing := false) d, elems s esz x with
    | .mslice l off len _ sz, some ys =>
      (match s.blks[l]? with
      | some (.cells cs true) =>
        if sz = esz && off + len * sz ≤ cs.length && (flatE (ys.take len)).length = (min ys.length len) * sz then
          some (AV.int .i64 (min ys.length len : Nat), Fw.dirt s l (flatE (ys.take len)) (s.blks.set l (.cells (splice cs off (flatE (ys.take len))) true)))
        else none
      | _ => none)
    | _, _ => none) = some (v, s1)) : WRes P B G s1 w (do pure (Next.value (← Builtin.copy_ ts ty #[xd, xx]))) v := by
  obtain ⟨i, hi⟩ := hi
  have hisz : i.size = esz := by rw [← hes]; simp [Program.cellsOf, hi]
  split at h
  · rename_i l off len cap sz ys he
    obtain ⟨dss, X, c, rfl, hd, hfirst⟩ := elems_ok hI rx he
    cases rd with
    | ms hL hc hmx =>
    rename_i b
    split at h
    · rename_i cs hb
      split at h
      · rename_i hcond
        simp only [Bool.and_eq_true, decide_eq_true_eq] at hcond
        obtain ⟨⟨hc1, hc2⟩, hc3⟩ := hcond
        subst hc1
        cases h
        have hdt := (hd.take len).flat
        have hle : min ys.length len * sz ≤ len * sz := Nat.mul_le_mul_right _ (Nat.min_le_right _ _)
        have hsum : off + (flatE (ys.take len)).length ≤ cs.length := by rw [hc3]; omega
        obtain ⟨w', hst, hinv⟩ := hI.write hL hb (off := off) hdt.1 hsum
        have hf := hfirst w rfl (min ys.length len) (Nat.min_le_left _ _)
        have hmin : dss.take (min ys.length len) = dss.take len := by
          rw [← hd.len]
          rcases Nat.le_total dss.length len with q | q
          · rw [Nat.min_eq_left q, List.take_of_length_le (Nat.le_refl _), List.take_of_length_le q]
          · rw [Nat.min_eq_right q]
        rw [hmin] at hf
        refine ⟨_, .int .i64 (min ys.length len : Nat), w', G, ?_, .inl rfl, .refl _, hinv.dirt, .int (wrap_len (by have := Nat.min_le_right ys.length len; simp only [maxLen] at *; omega))⟩
        have hnm : Nat.min ys.length len = min ys.length len := rfl
        simp [Builtin.copy_, ht, run_underlying hu, Builtin.lenOf, sizeOf, typeInfo, hi, hnm, hisz, hf, hst, goInt]
      · cases h
    · cases h
  · cases h

theorem reps_ok : ∀ (n : Nat) {z : List AV} {vs : List Value}, R G (.k z vs) → R G (.k (reps n z) (List.replicate n vs).flatten)
  | 0, _, _, _ => by simpa [reps] using R.knil
  | n + 1, z, vs, h => by
    simp only [reps, List.replicate_succ, List.flatten_cons]
    exact R.k_append h (reps_ok n h)

theorem w_mkSlice (hI : Inv P B G s w) {t e : TypeId} (hu : P.underlying t = some (.slice e)) {z : List AV} (hz : zeroOf P e = some z) {esz bytes : Nat} (hzl : z.length = esz) (hes : P.cellsOf e = esz) (hby : P.bytesOf e = bytes) {a b v : AV} {xa xb : Value} (ra : R G (.v a xa)) (rb : R G (.v b xb))
    (h : (match natOf a, natOf b with
    | some l, some c =>
      if l ≤ c && c * bytes ≤ big && c ≤ big then some (AV.mslice s.blks.length 0 l c esz, { s with blks := s.blks ++ [.cells (reps c z) true] }) else none
    | _, _ => none) = some (v, s1)) : WRes P B G s1 w (do pure (Next.value (← Instr.makeSlice t xa xb))) v := by
  obtain ⟨i, zv, hi, hzv, hrz⟩ := zeroOf_ok (G := G) hz
  split at h
  · rename_i l c h1 h2
    obtain ⟨k1, rfl⟩ := natOf_ok h1 ra
    obtain ⟨k2, rfl⟩ := natOf_ok h2 rb
    split at h
    · rename_i hcond
      simp only [Bool.and_eq_true, decide_eq_true_eq] at hcond
      obtain ⟨⟨hc1, hc2⟩, hc3⟩ := hcond
      cases h
      have hiby : i.bytes = bytes := by rw [← hby]; simp [Program.bytesOf, hi]
      have hisz : i.size = esz := by rw [← hes]; simp [Program.cellsOf, hi]
      have hzs : zv.cells.size = esz := by rw [← hzl, hrz.k_length]; simp
      have hcb : c ≤ maxLen := by simp only [big, maxLen] at *; omega
      have hw : ∀ n : Nat, n ≤ maxLen → IntKind.i64.wrap (n : Int) = n := fun n h => wrap_len h
      have hcells : ((Array.range (c * i.size)).map (fun j => zv.cells[j % zv.cells.size]!)).toList = (List.replicate c zv.cells.toList).flatten := by
        have := zeros_flat zv.cells.toList c
        rw [show zv.cells.toList.length = i.size from by rw [hisz, ← hzs]; simp] at this
        simpa using this
      obtain ⟨hle, h2⟩ := hI.allocCells (reps_ok c hrz) e
      refine ⟨_, .slice (some ⟨w.heap.size, 0, none⟩) l c, w.alloc (.cells (List.replicate c zv.cells.toList).flatten.toArray e), _, ?_, .inl rfl, hle, h2, .ms addL_eq hc1 hcb⟩
      have e1 : ¬ ((c : Int) < 0) := by omega
      have e2 : ¬ (281474976710656 < (i.bytes : Int) * (c : Int)) := by
        rw [hiby]
        have : ((bytes : Int) * (c : Int)) = ((c * bytes : Nat) : Int) := by rw [Nat.mul_comm, Int.natCast_mul]
        rw [this]; simp only [big] at hc2; omega
      have e3 : ¬ ((l : Int) < 0) := by omega
      have e4 : ¬ ((c : Int) < (l : Int)) := by omega
      have hcells' : (Array.range (c * i.size)).map (fun j => zv.cells[j % zv.cells.size]!) = (List.replicate c zv.cells.toList).flatten.toArray := by
        apply Array.ext'; rw [hcells]
      by_cases q : c * i.size = 0
      · have q2 : (List.replicate c zv.cells.toList).flatten.toArray = #[] := by rw [← hcells', q]; simp
        simp [Instr.makeSlice, run_underlying hu, asInt, asIntOf, typeInfo, hi, hw l (by omega), hw c hcb, e1, e2, e3, e4, sizeOf, q, newRow, q2, Array.range_zero']
      · simp [Instr.makeSlice, run_underlying hu, asInt, asIntOf, typeInfo, hi, hw l (by omega), hw c hcb, e1, e2, e3, e4, sizeOf, q, newRow, zeroValue, hzv, hcells']
    · cases h
  · cases h

theorem cook_load {h : Hint} {d : Option Nat} {op : Op} {ag : Bool} {sz : Nat} {x : AOpnd} (hk : cookOp P h d op = some (.load ag sz x)) : ∃ t a, op = .load t a ∧ aggT P t = some ag ∧ opnd a = some x ∧ sz = P.cellsOf t := by
  unfold cookOp at hk
  split at hk
  all_goals (try unfold cookBuiltin at hk)
  all_goals (try unfold eqNil at hk)
  all_goals (repeat' (split at hk))
  all_goals first
    | (cases hk; done)
    | (simp only [Option.map_eq_some_iff, reduceCtorEq, and_false, exists_false] at hk; done)
    | (cases hk; exact ⟨_, _, rfl, by assumption, by assumption, rfl⟩)

theorem cook_lookup {h : Hint} {d : Option Nat} {op : Op} {ok : Bool} {kk : KK} {z : AV} {m k : AOpnd} (hk : cookOp P h d op = some (.lookup ok kk z m k)) :
    ∃ t xm xk kt et, op = .lookup t xm xk ok ∧ P.underlying t = some (.map kt et) ∧ keyT P kt = some kk ∧ zeroV P et = some z ∧ opnd xm = some m ∧ opnd xk = some k := by
  unfold cookOp at hk
  split at hk
  all_goals (try unfold cookBuiltin at hk)
  all_goals (try unfold eqNil at hk)
  all_goals (repeat' (split at hk))
  all_goals first
    | (cases hk; done)
    | (simp only [Option.map_eq_some_iff, reduceCtorEq, and_false, exists_false] at hk; done)
    | (cases hk; exact ⟨_, _, _, _, _, rfl, by assumption, by assumption, by assumption, by assumption, by assumption⟩)

theorem opR_ok (hI : Inv P B G s w) (hO : Opn P' env G ρ) {h : Hint} {o : Oper} {aop : AOp} (hk : cookOp P h o.dst o.op = some aop) {v : AV} (hv : aopR P' env s aop = some v) : ORes P G w (execOp ρ o) v := by
  cases aop with
  | load ag sz x =>
    obtain ⟨t, a, ho, hag, ha, rfl⟩ := cook_load hk
    simp only [aopR] at hv
    simpa [execOp, ho, ORes] using (load_ok hI hag (hO.out _ _ ha) hv).lift
  | lookup ok kk z m k =>
    obtain ⟨t, xm, xk, kt, et, ho, hu, hkt, hz, hm, hk'⟩ := cook_lookup hk
    simp only [aopR] at hv
    simpa [execOp, ho, ORes] using (lookup_ok hI hu hkt hz (hO.out _ _ hm) (hO.out _ _ hk') hv).lift
  | _ => simp [aopR] at hv

theorem cook_box {h : Hint} {d : Option Nat} {op : Op} {x : AOpnd} (hk : cookOp P h d op = some (.box x)) : ∃ t a, op = .box t a ∧ opnd a = some x := by
  unfold cookOp at hk
  split at hk
  all_goals (try unfold cookBuiltin at hk)
  all_goals (try unfold eqNil at hk)
  all_goals (repeat' (split at hk))
  all_goals first
    | (cases hk; done)
    | (simp only [Option.map_eq_some_iff, reduceCtorEq, and_false, exists_false] at hk; done)
    | (cases hk; exact ⟨_, _, rfl, by assumption⟩)

theorem cook_alloc {h : Hint} {d : Option Nat} {op : Op} {z : List AV} (hk : cookOp P h d op = some (.alloc z)) : ∃ t, op = .alloc t ∧ zeroOf P t = some z := by
  unfold cookOp at hk
  split at hk
  all_goals (try unfold cookBuiltin at hk)
  all_goals (try unfold eqNil at hk)
  all_goals (repeat' (split at hk))
  all_goals first
    | (cases hk; done)
    | (simp only [Option.map_eq_some_iff, reduceCtorEq, and_false, exists_false] at hk; done)
    | (cases hk; exact ⟨_, rfl, by assumption⟩)

theorem cook_store {h : Hint} {d : Option Nat} {op : Op} {sz : Nat} {a x : AOpnd} (hk : cookOp P h d op = some (.store sz a x)) : ∃ t i xa xv, op = .store t xa xv ∧ P.info? t = some i ∧ opnd xa = some a ∧ opnd xv = some x ∧ sz = P.cellsOf t := by
  unfold cookOp at hk
  split at hk
  all_goals (try unfold cookBuiltin at hk)
  all_goals (try unfold eqNil at hk)
  all_goals (repeat' (split at hk))
  all_goals first
    | (cases hk; done)
    | (simp only [Option.map_eq_some_iff, reduceCtorEq, and_false, exists_false] at hk; done)
    | (cases hk; exact ⟨_, _, _, _, rfl, by assumption, by assumption, by assumption, rfl⟩)

theorem cook_mkMap {h : Hint} {d : Option Nat} {op : Op} (hk : cookOp P h d op = some .mkMap) : ∃ t, op = .makeMap t none := by
  unfold cookOp at hk
  split at hk
  all_goals (try unfold cookBuiltin at hk)
  all_goals (try unfold eqNil at hk)
  all_goals (repeat' (split at hk))
  all_goals first
    | (cases hk; done)
    | (simp only [Option.map_eq_some_iff, reduceCtorEq, and_false, exists_false] at hk; done)
    | exact ⟨_, rfl⟩

theorem cook_mkSlice {h : Hint} {d : Option Nat} {op : Op} {esz bytes : Nat} {z : List AV} {l c : AOpnd} (hk : cookOp P h d op = some (.mkSlice esz bytes z l c)) :
    ∃ t e xl xc, op = .makeSlice t xl xc ∧ P.underlying t = some (.slice e) ∧ zeroOf P e = some z ∧ z.length = P.cellsOf e ∧ esz = P.cellsOf e ∧ bytes = P.bytesOf e ∧ opnd xl = some l ∧ opnd xc = some c := by
  unfold cookOp at hk
  split at hk
  all_goals (try unfold cookBuiltin at hk)
  all_goals (try unfold eqNil at hk)
  all_goals (repeat' (split at hk))
  all_goals first
    | (cases hk; done)
    | (simp only [Option.map_eq_some_iff, reduceCtorEq, and_false, exists_false] at hk; done)
    | (cases hk; exact ⟨_, _, _, _, rfl, by assumption, by assumption, by assumption, rfl, rfl, by assumption, by assumption⟩)

theorem cook_mapSet {h : Hint} {d : Option Nat} {op : Op} {kk : KK} {m k x : AOpnd} (hk : cookOp P h d op = some (.mapSet kk m k x)) :
    ∃ t xm xk xv kt et, (op = .mapUpdate t xm xk xv ∨ op = .insert t xm xk xv) ∧ P.underlying t = some (.map kt et) ∧ keyT P kt = some kk ∧ opnd xm = some m ∧ opnd xk = some k ∧ opnd xv = some x := by
  unfold cookOp at hk
  split at hk
  all_goals (try unfold cookBuiltin at hk)
  all_goals (try unfold eqNil at hk)
  all_goals (repeat' (split at hk))
  all_goals first
    | (cases hk; done)
    | (simp only [Option.map_eq_some_iff, reduceCtorEq, and_false, exists_false] at hk; done)
    | (simp only [Option.map_eq_some_iff, AOp.mapSet.injEq] at hk; obtain ⟨_, h1, rfl, rfl, rfl, rfl⟩ := hk; exact ⟨_, _, _, _, _, _, .inl rfl, by assumption, h1, by assumption, by assumption, by assumption⟩)
    | (simp only [Option.map_eq_some_iff, AOp.mapSet.injEq] at hk; obtain ⟨_, h1, rfl, rfl, rfl, rfl⟩ := hk; exact ⟨_, _, _, _, _, _, .inr rfl, by assumption, h1, by assumption, by assumption, by assumption⟩)

theorem cook_rangeStr {h : Hint} {d : Option Nat} {op : Op} {x : AOpnd} (hk : cookOp P h d op = some (.rangeStr x)) : ∃ t a, op = .range t a ∧ P.underlying t = some .string ∧ opnd a = some x := by
  unfold cookOp at hk
  split at hk
  all_goals (try unfold cookBuiltin at hk)
  all_goals (try unfold eqNil at hk)
  all_goals (repeat' (split at hk))
  all_goals first
    | (cases hk; done)
    | (simp only [Option.map_eq_some_iff, reduceCtorEq, and_false, exists_false] at hk; done)
    | (cases hk; exact ⟨_, _, rfl, by assumption, by assumption⟩)

theorem cook_nextStr {h : Hint} {d : Option Nat} {op : Op} {x : AOpnd} (hk : cookOp P h d op = some (.nextStr x)) : ∃ a, op = .next a true ∧ opnd a = some x := by
  unfold cookOp at hk
  split at hk
  all_goals (try unfold cookBuiltin at hk)
  all_goals (try unfold eqNil at hk)
  all_goals (repeat' (split at hk))
  all_goals first
    | (cases hk; done)
    | (simp only [Option.map_eq_some_iff, reduceCtorEq, and_false, exists_false] at hk; done)
    | (simp only [Option.map_eq_some_iff, AOp.nextStr.injEq] at hk; obtain ⟨_, h1, rfl⟩ := hk; exact ⟨_, rfl, h1⟩)

theorem cook_append {h : Hint} {d : Option Nat} {op : Op} {tk : Bool} {esz bytes : Nat} {a x : AOpnd} (hk : cookOp P h d op = some (.append tk esz bytes a x)) :
    ∃ c : Call, ∃ xa xx t t2 e e2, op = .call c ∧ c.callee = Callee.builtin Builtin.append ∧ c.args.toList = [xa, xx] ∧ c.argTypes[0]? = some t ∧ P.underlying t = some (.slice e) ∧ c.argTypes[1]? = some t2 ∧ P.underlying t2 = some (.slice e2) ∧
      (zeroOf P e).map List.length = some (P.cellsOf e) ∧ esz = P.cellsOf e ∧ bytes = P.bytesOf e ∧ opnd xa = some a ∧ opnd xx = some x := by
  unfold cookOp at hk
  split at hk
  all_goals (try unfold cookBuiltin at hk)
  all_goals (try unfold eqNil at hk)
  all_goals (repeat' (split at hk))
  all_goals first
    | (cases hk; done)
    | (simp only [Option.map_eq_some_iff, reduceCtorEq, and_false, exists_false] at hk; done)
    | (cases hk
       rename_i hargs _ _ _ _ _ _ _ h0 h1 _ _ _
       obtain ⟨t, ht, hu⟩ := Option.bind_eq_some_iff.1 h0
       obtain ⟨t2, ht2, hu2⟩ := Option.bind_eq_some_iff.1 h1
       exact ⟨_, _, _, t, t2, _, _, rfl, by assumption, hargs, ht, hu, ht2, hu2, by assumption, rfl, rfl, by assumption, by assumption⟩)

theorem cook_copy {h : Hint} {d : Option Nat} {op : Op} {esz : Nat} {a x : AOpnd} (hk : cookOp P h d op = some (.copy esz a x)) :
    ∃ c : Call, ∃ xa xx t e, op = .call c ∧ c.callee = Callee.builtin Builtin.copy ∧ c.args.toList = [xa, xx] ∧ c.argTypes[0]? = some t ∧ P.underlying t = some (.slice e) ∧
      (∃ i, P.info? e = some i) ∧ esz = P.cellsOf e ∧ opnd xa = some a ∧ opnd xx = some x := by
  unfold cookOp at hk
  split at hk
  all_goals (try unfold cookBuiltin at hk)
  all_goals (try unfold eqNil at hk)
  all_goals (repeat' (split at hk))
  all_goals first
    | (cases hk; done)
    | (simp only [Option.map_eq_some_iff, reduceCtorEq, and_false, exists_false] at hk; done)
    | (cases hk
       rename_i hargs _ _ _ _ _ _ _ h0 _ _ _ hi _ _
       obtain ⟨t, ht, hu⟩ := Option.bind_eq_some_iff.1 h0
       exact ⟨_, _, _, t, _, rfl, by assumption, hargs, ht, hu, ⟨_, hi⟩, rfl, by assumption, by assumption⟩)

theorem WRes.of_value {m : Sem Value} {v : AV} (h : WRes P B G s1 w (do pure (Next.value (← m))) v) : WRes P B G s1 w (do pure (Next.value (← m))) v := h

theorem opW_ok (hI : Inv P B G s w) (hO : Opn P' env G ρ) {h : Hint} {o : Oper} {aop : AOp} (hk : cookOp P h o.dst o.op = some aop) {v : AV} (hv : aopW P' env s aop = some (v, s1)) : WRes P B G s1 w (execOp ρ o) v := by
  cases aop with
  | box x =>
    obtain ⟨t, a, ho, ha⟩ := cook_box hk
    simp only [aopW] at hv
    split at hv
    · rename_i hb
      cases hv
      simpa [execOp, ho, Instr.box] using w_new hI t ((hO.out _ _ ha).box hb)
    · cases hv
  | alloc z =>
    obtain ⟨t, ho, hz⟩ := cook_alloc hk
    simp only [aopW] at hv
    cases hv
    obtain ⟨i, zv, hi, hzv, hr⟩ := zeroOf_ok (G := G) hz
    have := w_new hI t hr
    unfold WRes at this ⊢
    simpa [execOp, ho, Instr.alloc, run_zeroValue' hi hzv] using this
  | store sz a x =>
    obtain ⟨t, i, xa, xv, ho, hi, ha, hx, rfl⟩ := cook_store hk
    simp only [aopW] at hv
    simpa [execOp, ho] using w_store hI hi (hO.out _ _ ha) (hO.out _ _ hx) hv
  | mkMap =>
    obtain ⟨t, ho⟩ := cook_mkMap hk
    simp only [aopW] at hv
    cases hv
    have hle : G.le (G.addL s.blks.length w.heap.size) := Gh.addL_le hI.Lend
    refine ⟨_, .map (some w.heap.size), w.alloc (.map #[] 0), _, ?_, .inl rfl, hle, hI.allocL _ _ ⟨[], 0, rfl, .nil⟩, .map addL_eq⟩
    simp [execOp, ho, Instr.makeMap]
  | mkSlice esz bytes z l c =>
    obtain ⟨t, e, xl, xc, ho, hu, hz, hzl, rfl, rfl, hl, hc⟩ := cook_mkSlice hk
    simp only [aopW] at hv
    simpa [execOp, ho] using w_mkSlice hI hu hz hzl rfl rfl (hO.out _ _ hl) (hO.out _ _ hc) hv
  | mapSet kk m k x =>
    obtain ⟨t, xm, xk, xv, kt, et, ho, hu, hkt, hm, hk', hx⟩ := cook_mapSet hk
    simp only [aopW] at hv
    rcases ho with ho | ho
    · simpa [execOp, ho] using w_mapSet hI hu hkt (hO.out _ _ hm) (hO.out _ _ hk') (hO.out _ _ hx) hv
    · simpa [execOp, ho] using w_mapSet hI hu hkt (hO.out _ _ hm) (hO.out _ _ hk') (hO.out _ _ hx) hv
  | rangeStr x =>
    obtain ⟨t, a, ho, hu, ha⟩ := cook_rangeStr hk
    simp only [aopW] at hv
    simpa [execOp, ho] using w_range hI hu (hO.out _ _ ha) hv
  | nextStr x =>
    obtain ⟨a, ho, ha⟩ := cook_nextStr hk
    simp only [aopW] at hv
    simpa [execOp, ho] using w_next (ty := o.type) hI (hO.out _ _ ha) hv
  | append tk esz bytes a x =>
    obtain ⟨c, xa, xx, t, t2, e, e2, ho, hc, hargs, ht, hu, ht2, hu2, hz, rfl, rfl, ha, hx⟩ := cook_append hk
    have hca : c.args = #[xa, xx] := by rw [← Array.toArray_toList (xs := c.args), hargs]
    simp only [aopW] at hv
    split at hv
    · cases hv
    simpa [execOp, ho, resolve, hc, invoke, builtin, hca] using w_append (ty := o.type) hI ht hu ht2 hu2 hz (hO.out _ _ ha) (hO.out _ _ hx) rfl rfl hv
  | copy esz a x =>
    obtain ⟨c, xa, xx, t, e, ho, hc, hargs, ht, hu, hi, rfl, ha, hx⟩ := cook_copy hk
    have hca : c.args = #[xa, xx] := by rw [← Array.toArray_toList (xs := c.args), hargs]
    simp only [aopW] at hv
    simpa [execOp, ho, resolve, hc, invoke, builtin, hca] using w_copy (ty := o.type) hI ht hu hi (hO.out _ _ ha) (hO.out _ _ hx) rfl hv
  | _ => simp [aopW] at hv

end
end Go.Fw
