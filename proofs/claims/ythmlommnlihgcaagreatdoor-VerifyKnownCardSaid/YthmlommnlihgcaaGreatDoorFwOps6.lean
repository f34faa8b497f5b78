/- The framework, part 5f: all operations that see no store. -/
import Derived.Test.YthmlommnlihgcaaGreatDoorFwOps5
import Derived.Laws.StructEq
import Derived.ChangeKeysEq
namespace Go.Fw
open Go
section
variable {P : Program} {B : Bs} {G : Gh} {s : ASt} {w : World} {P' : AProg} {env : Env} {ρ : Operand → Value}

theorem p_minmax (hI : Inv P B G s w) {mx : Bool} {a b v : AV} {x y : Value} (ra : R G (.v a x)) (rb : R G (.v b y)) (ts : Array TypeId) (ty : TypeId)
    (h : (match (generalizing := false) a, b with
    | .int k a, .int k' b => if k = k' then some (AV.int k (match mx with | true => max a b | false => min a b)) else none
    | _, _ => none) = some v) : PRes P G w (match mx with | true => Builtin.max_ ts ty #[x, y] | false => Builtin.min_ ts ty #[x, y]) v := by
  cases ra with
  | int hk =>
    cases rb with
    | int hk' =>
      rename_i k n k' m
      by_cases e : k = k'
      · subst e
        simp only [if_true, Option.some.injEq] at h
        subst h
        cases mx with
        | true =>
          refine .of hI (x := .int k (max n m)) ?_ (.int ?_)
          · simp [Builtin.max_, Builtin.max2]; omega
          · rcases Int.le_total n m with h | h
            · rw [Int.max_eq_right h]; exact hk'
            · rw [Int.max_eq_left h]; exact hk
        | false =>
          refine .of hI (x := .int k (min n m)) ?_ (.int ?_)
          · simp [Builtin.min_, Builtin.min2]; omega
          · rcases Int.le_total n m with h | h
            · rw [Int.min_eq_left h]; exact hk
            · rw [Int.min_eq_right h]; exact hk'
      · simp [e] at h
    | _ => simp at h
  | _ => simp at h

theorem PRes.lift {m : Sem Value} {v : AV} (h : PRes P G w m v) : ∃ x w' G', ((do pure (Next.value (← m))) : Sem Next).run P w = .ok (.value x) w' ∧ Quiet G w G' w' ∧ R G' (.v v x) := by
  obtain ⟨x, w', G', h1, h2, h3⟩ := h
  exact ⟨x, w', G', by simp [h1], h2, h3⟩

theorem eqPlain {neg : Bool} {t : TypeId} {p q : Operand} {x y : Value} {r : Bool} (hn : noPair x y = true) (hg : ∀ op, (eqGuard op t p q x y).run P w = .ok () w) (h : (Op.equal t x y).run P w = .ok r w) :
    ((do eqGuard (if neg then BinOp.neq else .eql) t p q x y; binOp (if neg then BinOp.neq else .eql) t x y) : Sem Value).run P w = .ok (.bool (match neg with | true => !r | false => r)) w := by
  cases neg with
  | true => simp only [if_true, Sem.run_bind, hg, Result.andThen_ok, (binOp_eql hn).2, h]; rfl
  | false => simp only [Bool.false_eq_true, if_false, Sem.run_bind, hg, Result.andThen_ok, (binOp_eql hn).1, h]; rfl

theorem nilK_ok {k : NK} {x : Operand} (h : isNilK k x = true) : ∃ c, x = .const c ∧ (NilVal k c) := by
  unfold isNilK at h
  split at h <;> first | exact ⟨_, rfl, rfl⟩ | exact ⟨_, rfl, _, _, rfl⟩ | cases h

theorem eqGuard_plain {t : TypeId} {p q : Operand} {x y : Value} (hx : ∀ a b, ¬ (x = .agg a ∧ y = .agg b)) (hc : (∃ c, p = .const c) ∨ (∃ c, q = .const c)) (op : BinOp) : (eqGuard op t p q x y).run P w = .ok () w := by
  cases op <;> first
    | rfl
    | (cases x <;> cases y <;> first
      | rfl
      | (exact absurd ⟨rfl, rfl⟩ (hx _ _))
      | (rcases hc with ⟨c, rfl⟩ | ⟨c, rfl⟩ <;> simp [eqGuard]))

theorem eqnil_ok (hI : Inv P B G s w) {neg : Bool} {t : TypeId} {x y : Operand} {a b : AOpnd} (hO : Opn P' env G ρ) (hc : ∀ v, (ρ (.const v)) = v) (ha : opnd x = some a) (hb : opnd y = some b) {u : TypeDesc} (hu : P.underlying t = some u) {k : NK} {aop : AOp}
    (hku : NilTy k u)
    (hk : eqNil neg k x y a b = some aop) {v : AV} (h : aopP P' env aop = some v) :
    PRes P G w (do eqGuard (if neg then BinOp.neq else .eql) t x y (ρ x) (ρ y); binOp (if neg then BinOp.neq else .eql) t (ρ x) (ρ y)) v := by
  have notAgg : ∀ c, (NilVal k c) → (∀ z, noPair c z = true ∧ noPair z c = true) ∧ ∀ a, c ≠ Value.agg a := by
    intro c hcc
    cases k with
    | slice => obtain ⟨l, d, rfl⟩ := hcc; exact ⟨fun z => by cases z <;> exact ⟨rfl, rfl⟩, fun _ h => by cases h⟩
    | _ => cases hcc; exact ⟨fun z => by cases z <;> exact ⟨rfl, rfl⟩, fun _ h => by cases h⟩
  unfold eqNil at hk
  split at hk
  · rename_i h1
    cases hk
    obtain ⟨c, rfl, hcc⟩ := nilK_ok h1
    simp only [aopP] at h
    split at h
    · rename_i r hr
      cases h
      obtain ⟨n2, n3⟩ := notAgg c hcc
      have he := (eqIn_nil (P := P) (w := w) hu (hO.out _ _ hb) hr 9999 ⟨hku, hcc⟩).2
      rw [hc]
      exact .of hI (eqPlain (n2 _).1 (eqGuard_plain (fun a b h => n3 _ h.1) (.inl ⟨_, rfl⟩)) he) (.bool _)
    · cases h
  · rename_i h1 h2
    cases hk
    obtain ⟨c, rfl, hcc⟩ := nilK_ok h2
    simp only [aopP] at h
    split at h
    · rename_i r hr
      cases h
      obtain ⟨n2, n3⟩ := notAgg c hcc
      have he := (eqIn_nil (P := P) (w := w) hu (hO.out _ _ ha) hr 9999 ⟨hku, hcc⟩).1
      rw [hc]
      exact .of hI (eqPlain (n2 _).2 (eqGuard_plain (fun a b h => n3 _ h.2) (.inr ⟨_, rfl⟩)) he) (.bool _)
    · cases h
  · cases hk

theorem eqflat_ok (hI : Inv P B G s w) {neg : Bool} {t : TypeId} {x y : Operand} {a b : AV} {xa xb : Value} (ra : R G (.v a xa)) (rb : R G (.v b xb)) (hu : P.underlying t = some .bool) {v : AV}
    (h : (match (generalizing := false) eqA a b with | some r => some (AV.bool (match neg with | true => !r | false => r)) | none => none) = some v) :
    PRes P G w (do eqGuard (if neg then BinOp.neq else .eql) t x y xa xb; binOp (if neg then BinOp.neq else .eql) t xa xb) v := by
  split at h
  · rename_i r hr
    cases h
    have hg : ∀ {p q : Value}, (∀ a b, ¬ (p = Value.agg a ∧ q = .agg b)) → (p ≠ .nilIface) → ∀ op, (eqGuard op t x y p q).run P w = .ok () w := by
      intro p q h1 h2 op
      cases op <;> first
        | rfl
        | (cases p <;> cases q <;> first
          | rfl
          | (exact absurd ⟨rfl, rfl⟩ (h1 _ _))
          | (exact absurd rfl h2))
    rcases flat1_ok hr ra rb with ⟨k, n, m, rfl, rfl, rfl⟩ | ⟨p, q, rfl, rfl, rfl⟩ | ⟨p, q, rfl, rfl, rfl⟩
    · refine .of hI (x := .bool (match neg with | true => !(n == m) | false => (n == m))) ?_ (.bool _)
      simp only [Sem.run_bind, hg (p := .int k n) (q := .int k m) (fun a b h => by cases h.1) (by simp), Result.andThen_ok]
      cases neg <;> simp [binOp, Op.intCmp] <;> rfl
    · exact .of hI (eqPlain rfl (hg (fun a b h => by cases h.1) (by simp)) (by rw [equal_succ]; exact eqIn_bool hu _ _ _)) (.bool _)
    · refine .of hI (x := .bool (match neg with | true => !(p.data.toList == q.data.toList) | false => (p.data.toList == q.data.toList))) ?_ (.bool _)
      simp only [Sem.run_bind, hg (p := .string p) (q := .string q) (fun a b h => by cases h.1) (by simp), Result.andThen_ok]
      cases neg <;> simp [binOp, Op.stringOp, str_eq]
  · cases h

theorem part_one {e : TypeId} (he : P.plainKey e = true) {xs : Array Value} {off : Nat} {v : Value} {r : List Value} (h : xs.toList.drop off = v :: r) : (part e xs off).run P w = .ok v w :=
  run_part_plain w he (by
    have := congrArg (·[0]?) h
    simpa using this)
theorem drop_tail {α : Type} {l : List α} {n : Nat} {x : α} {r : List α} (h : l.drop n = x :: r) : l.drop (n + 1) = r := by
  rw [← List.drop_drop, h]; rfl

/-- A struct's fields, one by one. -/
theorem eqFs_ok {xs ys : Array Value} (d : Nat) : ∀ (fs : List Field) (off : Nat) {ks : List KK} {as bs : List AV} {r : Bool}, kindsF P off fs = some ks → R G (.k as (xs.toList.drop off)) → R G (.k bs (ys.toList.drop off)) → flatK ks as bs = some r →
    (Op.eqFields (d + 1) xs ys fs).run P w = .ok r w
  | [], off, ks, as, bs, r, hk, ha, hb, h => by
    simp only [kindsF, Option.some.injEq] at hk
    subst hk
    cases as with
    | cons => simp [flatK] at h
    | nil =>
      cases bs with
      | cons => simp [flatK] at h
      | nil => simp [flatK] at h; subst h; simp [Op.eqFields]
  | f :: fs, off, ks, as, bs, r, hk, ha, hb, h => by
    have fin : ∀ {ks' : List KK} {as' bs' : List AV} {x y : Value} {xr yr : List Value} {r1 r2 : Bool}, (f.name != "_" && f.offset == off) = true → kindsF P (off + 1) fs = some ks' → P.plainKey f.type = true → xs.toList.drop off = x :: xr → ys.toList.drop off = y :: yr →
        R G (.k as' xr) → R G (.k bs' yr) → flatK ks' as' bs' = some r2 → (Op.equalIn (d + 1) f.type x y).run P w = .ok r1 w → (Op.eqFields (d + 1) xs ys (f :: fs)).run P w = .ok (r1 && r2) w := by
      intro ks' as' bs' x y xr yr r1 r2 hn hks hpl hx hy ha' hb' hf he
      simp only [Bool.and_eq_true, bne_iff_ne, ne_eq, beq_iff_eq] at hn
      have hrec := eqFs_ok d fs (off + 1) (xs := xs) (ys := ys) hks (by rw [drop_tail hx]; exact ha') (by rw [drop_tail hy]; exact hb') hf
      have hof := hn.2
      simp only [Op.eqFields, hn.1, ne_eq, not_false_eq_true, if_true, Sem.run_bind, hof, part_one hpl hx, part_one hpl hy, he, Result.andThen_ok]
      cases r1 with
      | false => simp
      | true => simpa using hrec
    simp only [kindsF] at hk
    split at hk
    · rename_i hn hu hks
      cases hk
      unfold flatK at h
      split at h <;> first | (cases h; done) | skip
      all_goals (first | (simp at *; done) | skip)
      rename_i e3
      cases e3
      split at h
      · rename_i r2 hr2
        cases h
        generalize hx : xs.toList.drop off = lx at ha
        generalize hy : ys.toList.drop off = ly at hb
        cases ha with
        | kcons hv1 h11 ht1 =>
          cases hb with
          | kcons hv2 h12 ht2 =>
            cases hv1; cases hv2
            exact fin hn hks (by simp [Program.plainKey, hu]) hx hy ht1 ht2 hr2 (eqIn_bool hu d _ _)
      · cases h
    · rename_i hn hu hks
      cases hk
      unfold flatK at h
      split at h <;> first | (cases h; done) | skip
      all_goals (first | (simp at *; done) | skip)
      rename_i e3
      cases e3
      split at h
      · rename_i hkk
        subst hkk
        split at h
        · rename_i r2 hr2
          cases h
          generalize hx : xs.toList.drop off = lx at ha
          generalize hy : ys.toList.drop off = ly at hb
          cases ha with
          | kcons hv1 h11 ht1 =>
            cases hb with
            | kcons hv2 h12 ht2 =>
              cases hv1; cases hv2
              exact fin hn hks (by simp [Program.plainKey, hu]) hx hy ht1 ht2 hr2 (eqIn_int hu d _ _ _)
        · cases h
      · cases h
    · rename_i hn hu hks
      cases hk
      unfold flatK at h
      split at h <;> first | (cases h; done) | skip
      all_goals (first | (simp at *; done) | skip)
      rename_i e3
      cases e3
      split at h
      · rename_i r2 hr2
        cases h
        generalize hx : xs.toList.drop off = lx at ha
        generalize hy : ys.toList.drop off = ly at hb
        cases ha with
        | kcons hv1 h11 ht1 =>
          cases hb with
          | kcons hv2 h12 ht2 =>
            cases hv1; cases hv2
            exact fin hn hks (by simp [Program.plainKey, hu]) hx hy ht1 ht2 hr2 (eqIn_str hu d _ _)
      · cases h
    · cases hk

theorem eqstruct_ok (hI : Inv P B G s w) {neg : Bool} {t : TypeId} {x y : Operand} {a b : AV} {xa xb : Value} (ra : R G (.v a xa)) (rb : R G (.v b xb)) {fs : Array Field} (hu : P.underlying t = some (.struct fs)) (hst : P.stoodInHeld t = false) (hgt : P.eqGuardType P.depth t = false)
    {ks : List KK} (hks : kindsF P 0 fs.toList = some ks) {v : AV}
    (h : (match (generalizing := false) a, b with
    | .agg xs, .agg ys => (match flatK ks xs ys with | some b => some (AV.bool (match neg with | true => !b | false => b)) | none => none)
    | _, _ => none) = some v) :
    PRes P G w (do eqGuard (if neg then BinOp.neq else .eql) t x y xa xb; binOp (if neg then BinOp.neq else .eql) t xa xb) v := by
  split at h
  · rename_i xs ys
    split at h
    · rename_i r hr
      cases h
      cases ra with
      | @agg _ vs ha =>
      cases rb with
      | @agg _ us hb =>
      have hfs : P.fieldsOf t = fs := by simp [Program.fieldsOf, hu]
      have he : (Op.equal t (.agg vs.toArray) (.agg us.toArray)).run P w = .ok r w := by
        rw [equal_succ, run_equalIn_struct w 9999 t _ _ (by rw [hfs]; exact hu) hst, hfs]
        exact eqFs_ok 9998 fs.toList 0 hks (by simpa using ha) (by simpa using hb) hr
      exact .of hI (eqPlain rfl (fun op => by cases op <;> first | rfl | (simp [eqGuard, hgt])) he) (.bool _)
    · cases h
  · cases h

end
end Go.Fw
