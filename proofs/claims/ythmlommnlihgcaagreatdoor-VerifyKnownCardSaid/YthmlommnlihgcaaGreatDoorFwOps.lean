/- The framework, part 5: the operations that see no store. -/
import Derived.Test.YthmlommnlihgcaaGreatDoorFwInv
namespace Go.Fw
open Go

theorem ofVal1_ok {G : Gh} {v : Value} {a : AV} (h : ofVal1 v = some a) : R G (.v a v) ∧ v.oneCell' = true ∧ isAgg' a = false := by
  unfold ofVal1 at h
  split at h
  · rename_i k n
    split at h
    · rename_i hk; cases h; exact ⟨.int hk, rfl, rfl⟩
    · cases h
  · cases h; exact ⟨.bool _, rfl, rfl⟩
  · split at h
    · rename_i hb; cases h; exact ⟨.str _ (by simp only [big, maxLen] at *; omega), rfl, rfl⟩
    · cases h
  · cases h; exact ⟨.sliceE (by simp [maxLen]) rfl, rfl, rfl⟩
  · cases h; exact ⟨.nilptr, rfl, rfl⟩
  · cases h; exact ⟨.nilmap, rfl, rfl⟩
  · cases h; exact ⟨.nilfunc, rfl, rfl⟩
  · cases h; exact ⟨.niliface, rfl, rfl⟩
  · cases h

theorem ofVals_ok {G : Gh} : ∀ {vs : List Value} {as : List AV}, ofVals vs = some as → R G (.k as vs)
  | [], as, h => by simp [ofVals] at h; subst h; exact .knil
  | v :: vs, as, h => by
    simp only [ofVals] at h
    split at h
    · rename_i x xs h1 h2
      cases h
      obtain ⟨k1, k2, _⟩ := ofVal1_ok (G := G) h1
      exact .kcons k1 k2 (ofVals_ok h2)
    · cases h

theorem ofVal_ok {G : Gh} {v : Value} {a : AV} (h : ofVal v = some a) : R G (.v a v) := by
  unfold ofVal at h
  split at h
  · rename_i cs
    split at h
    · rename_i xs hx; cases h
      simpa using R.agg (ofVals_ok (G := G) hx)
    · cases h
  · exact (ofVal1_ok h).1

theorem zeroOf_ok {P : Program} {G : Gh} {t : TypeId} {z : List AV} (h : zeroOf P t = some z) : ∃ i v, P.info? t = some i ∧ i.zero = some v ∧ R G (.k z v.cells.toList) := by
  unfold zeroOf at h
  cases hi : P.info? t with
  | none => simp [hi] at h
  | some i =>
    simp only [hi, Option.bind_some] at h
    cases hz : i.zero with
    | none => simp [hz] at h
    | some v =>
      simp only [hz] at h
      refine ⟨i, v, rfl, hz, ?_⟩
      cases v with
      | agg cs => simp only at h; exact ofVals_ok h
      | _ =>
        simp only [Option.map_eq_some_iff] at h
        obtain ⟨a, h1, rfl⟩ := h
        obtain ⟨k1, k2, _⟩ := ofVal1_ok (G := G) h1
        exact .kcons k1 k2 .knil

theorem run_zeroValue' {P : Program} {t : TypeId} {i : TypeInfo} {v : Value} (hi : P.info? t = some i) (hz : i.zero = some v) (w : World) : (zeroValue t).run P w = .ok v w := by
  simp [zeroValue, typeInfo, hi, hz]
theorem run_sizeOf' {P : Program} {t : TypeId} {i : TypeInfo} (hi : P.info? t = some i) (w : World) : (sizeOf t).run P w = .ok (P.cellsOf t) w := by
  simp [sizeOf, typeInfo, hi, Program.cellsOf]
theorem info_of_under {P : Program} {t : TypeId} {d : TypeDesc} (h : P.underlying t = some d) : ∃ i, P.info? t = some i := by
  unfold Program.underlying at h
  split at h
  · exact ⟨_, by assumption⟩
  · exact ⟨_, by assumption⟩
  · cases h
theorem run_sizeOf_u {P : Program} {t : TypeId} {d : TypeDesc} (h : P.underlying t = some d) (w : World) : (sizeOf t).run P w = .ok (P.cellsOf t) w := by
  obtain ⟨i, hi⟩ := info_of_under h; exact run_sizeOf' hi w
theorem run_isAgg {P : Program} {t : TypeId} {b : Bool} (h : aggT P t = some b) (w : World) : (isAgg t).run P w = .ok b w := by
  unfold aggT at h
  split at h
  · rename_i fs hu; cases h; simp [isAgg, run_underlying hu]
  · rename_i n e hu; cases h; simp [isAgg, run_underlying hu]
  · rename_i d h1 h2 hu
    cases h
    simp only [isAgg, Sem.run_bind, run_underlying hu, Result.andThen_ok]
    rfl
  · cases h
theorem under_of_agg {P : Program} {t : TypeId} {b : Bool} (h : aggT P t = some b) : ∃ d, P.underlying t = some d := by
  unfold aggT at h
  split at h
  · exact ⟨_, by assumption⟩
  · exact ⟨_, by assumption⟩
  · exact ⟨_, by assumption⟩
  · cases h

section
variable {P : Program} {B : Bs} {G : Gh} {s : ASt} {w : World}

theorem fix1_ok {a a' : AV} {x : Value} (h : fix1 a = some a') (r : R G (.v a x)) : R G (.v a' x) ∧ x.oneCell' = true ∧ isAgg' a' = false := by
  cases r with
  | @sliceE sz o A c hm ho =>
    cases o with
    | no => simp [fix1] at h; subst h; exact ⟨.sliceE hm trivial, rfl, rfl⟩
    | full => simp [fix1] at h; subst h; exact ⟨.sliceE hm trivial, rfl, rfl⟩
    | lit => simp [fix1] at h; subst h; exact ⟨.sliceE hm ho, rfl, rfl⟩
    | tok t => simp [fix1] at h; subst h; exact ⟨.sliceE hm trivial, rfl, rfl⟩
  | @sliceN sz xs o b off c hc hm hr ho =>
    have key : ∀ z, z = szC sz xs → R G (.v (.slice z xs .no) (.slice (some ⟨b, off, none⟩) xs.length c)) := fun z hz => by
      subst hz
      cases xs with
      | nil => exact .sliceE hm trivial
      | cons y ys => exact .sliceN hc hm hr trivial
    cases o with
    | no => simp [fix1] at h; subst h; exact ⟨.sliceN hc hm hr trivial, rfl, rfl⟩
    | full => simp [fix1] at h; subst h; exact ⟨key _ rfl, rfl, rfl⟩
    | lit =>
      simp [fix1] at h; subst h
      refine ⟨?_, rfl, rfl⟩
      cases xs with
      | nil => exact .sliceE hm ho
      | cons y ys => exact .sliceN hc hm hr ho
    | tok t => simp [fix1] at h; subst h; exact ⟨key _ rfl, rfl, rfl⟩
  | ms hL hc hm => simp [fix1] at h
  | agg h => simp [fix1] at h
  | tuple h => simp [fix1] at h
  | junk x => simp [fix1] at h
  | int h' => simp [fix1] at h; subst h; exact ⟨.int h', rfl, rfl⟩
  | bool b => simp [fix1] at h; subst h; exact ⟨.bool b, rfl, rfl⟩
  | str t ht => simp [fix1] at h; subst h; exact ⟨.str t ht, rfl, rfl⟩
  | nilptr => simp [fix1] at h; subst h; exact ⟨.nilptr, rfl, rfl⟩
  | ptr off hL => simp [fix1] at h; subst h; exact ⟨.ptr off hL, rfl, rfl⟩
  | cptr off hc hM => simp [fix1] at h; subst h; exact ⟨.cptr off hc hM, rfl, rfl⟩
  | func ha hb => simp [fix1] at h; subst h; exact ⟨.func ha hb, rfl, rfl⟩
  | nilfunc => simp [fix1] at h; subst h; exact ⟨.nilfunc, rfl, rfl⟩
  | yield hL => simp [fix1] at h; subst h; exact ⟨.yield hL, rfl, rfl⟩
  | map hL => simp [fix1] at h; subst h; exact ⟨.map hL, rfl, rfl⟩
  | nilmap => simp [fix1] at h; subst h; exact ⟨.nilmap, rfl, rfl⟩
  | iface h' => simp [fix1] at h; subst h; exact ⟨.iface h', rfl, rfl⟩
  | niliface => simp [fix1] at h; subst h; exact ⟨.niliface, rfl, rfl⟩
  | iter hL => simp [fix1] at h; subst h; exact ⟨.iter hL, rfl, rfl⟩

theorem fixL_ok : ∀ {as as' : List AV} {xs : List Value}, fixL as = some as' → R G (.k as xs) → R G (.k as' xs)
  | [], as', xs, h, r => by simp [fixL] at h; subst h; exact r
  | a :: as, as', xs, h, r => by
    cases r with
    | kcons r1 r2 r3 =>
      simp only [fixL] at h
      split at h
      · cases h
      · rename_i y hy
        split at h
        · cases h
        · rename_i ys hys
          cases h
          obtain ⟨k1, k2, _⟩ := fix1_ok hy r1
          exact .kcons k1 k2 (fixL_ok hys r3)

theorem cells_one {x : Value} (h : x.oneCell' = true) : x.cells.toList = [x] := by cases x <;> first | rfl | (simp [Value.oneCell'] at h)

theorem fixP_ok {a a' : AV} {x : Value} (h : fixP a = some a') (r : R G (.v a x)) : R G (.v a' x) ∧ R G (.c a' x.cells.toList) := by
  unfold fixP at h
  split at h
  · rename_i cs
    split at h
    · rename_i ds hd
      cases h
      cases r with
      | agg r =>
        have := fixL_ok hd r
        exact ⟨.agg this, by simpa [Value.cells] using R.cagg this⟩
    · cases h
  · obtain ⟨k1, k2, k3⟩ := fix1_ok h r
    exact ⟨k1, by rw [cells_one k2]; exact .cone k3 k2 k1⟩

theorem fixPs_ok : ∀ {as as' : List AV} {xs : List Value}, fixPs as = some as' → R G (.l as xs) → R G (.l as' xs)
  | [], as', xs, h, r => by simp [fixPs] at h; subst h; exact r
  | a :: as, as', xs, h, r => by
    cases r with
    | lcons r1 r3 =>
      simp only [fixPs] at h
      split at h
      · cases h
      · rename_i y hy
        split at h
        · cases h
        · rename_i ys hys
          cases h
          exact .lcons (fixP_ok hy r1).1 (fixPs_ok hys r3)

/-- What the operands of a frame hold. -/
structure Opn (P' : AProg) (env : Env) (G : Gh) (ρ : Operand → Value) : Prop where
  out : ∀ x y, opnd x = some y → R G (.v (evO P' env y) (ρ x))

/-- The laid variables. -/
def GlobOk (P' : AProg) (G : Gh) : Prop := ∀ g, R G (.v (.cptr (P'.gl g) 0) (.pointer (some ⟨g, 0, none⟩)))
theorem GlobOk.mono {P' : AProg} {G G' : Gh} (hG : G.le G') (h : GlobOk P' G) : GlobOk P' G' := fun g => (h g).mono hG

def EnvOk (G : Gh) (nt : Nat) (env : Env) (tmps : Array Value) : Prop := tmps.size = nt ∧ ∀ i, R G (.v (env i) (tmps.getD i undef))
theorem EnvOk.mono {G G' : Gh} (hG : G.le G') {nt : Nat} {env : Env} {tmps : Array Value} (h : EnvOk G nt env tmps) : EnvOk G' nt env tmps := ⟨h.1, fun i => (h.2 i).mono hG⟩

theorem opn_of {P' : AProg} {env : Env} {nt : Nat} {a : Act} (hE : EnvOk G nt env a.tmps) (hg : GlobOk P' G) : Opn P' env G a.eval := ⟨by
  intro x y hxy
  cases x with
  | tmp t => simp [opnd] at hxy; subst hxy; exact hE.2 t
  | const v =>
    simp only [opnd, Option.map_eq_some_iff] at hxy
    obtain ⟨av, h1, rfl⟩ := hxy
    exact ofVal_ok h1
  | global g => simp [opnd] at hxy; subst hxy; exact hg g
  | func f => simp [opnd] at hxy; subst hxy; simpa [Act.eval, evO] using R.func (f := f) .lnil .lnil⟩

variable {P' : AProg} {env : Env} {ρ : Operand → Value}

theorem opnds_ok (hO : Opn P' env G ρ) : ∀ {xs : List Operand} {ys : List AOpnd}, opnds xs = some ys → R G (.l (ys.map (evO P' env)) (xs.map ρ))
  | [], ys, h => by simp [opnds] at h; subst h; exact .lnil
  | x :: xs, ys, h => by
    simp only [opnds] at h
    split at h
    · rename_i y ys' h1 h2; cases h; exact .lcons (hO.out _ _ h1) (opnds_ok hO h2)
    · cases h

/-- What an operation that sees no store comes to. -/
def PRes (P : Program) (G : Gh) (w : World) (m : Sem Value) (v : AV) : Prop :=
  ∃ x w' G', m.run P w = .ok x w' ∧ Quiet G w G' w' ∧ R G' (.v v x)

theorem PRes.of (hI : Inv P B G s w) {m : Sem Value} {v : AV} {x : Value} (h : m.run P w = .ok x w) (r : R G (.v v x)) : PRes P G w m v := ⟨x, w, G, h, hI.quiet, r⟩

theorem p_pick (hI : Inv P B G s w) {c a b : AV} {xc xa xb : Value} (hc : R G (.v c xc)) (ha : R G (.v a xa)) (hb : R G (.v b xb)) {v : AV}
    (h : (match (generalizing := false) c with | .bool t => some (match t with | true => a | false => b) | _ => none) = some v) : PRes P G w (do pure (if ← asBool xc then xa else xb)) v := by
  cases hc <;> simp at h
  rename_i t
  subst h
  cases t with
  | true => exact .of hI (x := xa) (by simp [asBool]) ha
  | false => exact .of hI (x := xb) (by simp [asBool]) hb

theorem p_boxc (hI : Inv P B G s w) {a v : AV} {x : Value} (r : R G (.v a x)) (t : TypeId) (h : (match (generalizing := false) fixP a with | some v => some (AV.cptr v 0) | none => none) = some v) : PRes P G w (Instr.box t x) v := by
  split at h
  · rename_i a' ha
    cases h
    obtain ⟨k1, k2⟩ := fixP_ok ha r
    refine ⟨.pointer (some ⟨w.heap.size, 0, none⟩), w.alloc (.cells x.cells t), G.addM w.heap.size 0 x.cells.toList.length x.cells.toList, ?_, ?_, ?_⟩
    · simp [Instr.box, newVar, newRow]
    · have := hI.quietM x.cells.toList t (0, 0) x.cells.toList.length
      simpa using this
    · have hle := hI.addM_new_le x.cells.toList.length x.cells.toList
      have := R.cptr (G := G.addM w.heap.size 0 x.cells.toList.length x.cells.toList) (b := w.heap.size) (o := 0) 0 (k2.mono hle) (fun j y hy => by
        have hj : j < x.cells.toList.length := by
          rcases Nat.lt_or_ge j x.cells.toList.length with h | h
          · exact h
          · rw [List.getElem?_eq_none h] at hy; cases hy
        rw [Nat.zero_add, addM_in (Nat.zero_le _) hj]; exact hy)
      simpa using this
  · cases h

theorem p_nilchk (hI : Inv P B G s w) {a v : AV} {x : Value} (r : R G (.v a x)) (o : Oper) (y : Operand) (ho : o.op = .nilCheck y) (hy : ρ y = x)
    (h : (match (generalizing := false) a with | .ptr l o => some (AV.ptr l o) | .cptr v o => some (.cptr v o) | .func f a b => some (.func f a b) | .yield l => some (.yield l) | _ => none) = some v) :
    ∃ x w' G', (execOp ρ o).run P w = .ok (.value x) w' ∧ Quiet G w G' w' ∧ R G' (.v v x) := by
  refine ⟨x, w, G, ?_, hI.quiet, ?_⟩
  · cases r <;> simp at h <;> simp [execOp, ho, hy]
  · cases r <;> simp at h <;> subst h
    · exact .ptr _ (by assumption)
    · exact .cptr _ (by assumption) (by assumption)
    · exact .func (by assumption) (by assumption)
    · exact .yield (by assumption)

theorem wrap_wrap (k : IntKind) (n : Int) : k.wrap (k.wrap n) = k.wrap n := by
  cases k
  · have e : ∀ n, IntKind.i8.wrap n = if n % 256 ≥ 128 then n % 256 - 256 else n % 256 := fun n => by simp [IntKind.wrap, IntKind.bits, IntKind.signed]
    rw [e, e]
    by_cases h : n % 256 ≥ 128
    · rw [if_pos h, if_pos (by omega)]; omega
    · rw [if_neg h, if_neg (by omega)]; omega
  · have e : ∀ n, IntKind.i16.wrap n = if n % 65536 ≥ 32768 then n % 65536 - 65536 else n % 65536 := fun n => by simp [IntKind.wrap, IntKind.bits, IntKind.signed]
    rw [e, e]
    by_cases h : n % 65536 ≥ 32768
    · rw [if_pos h, if_pos (by omega)]; omega
    · rw [if_neg h, if_neg (by omega)]; omega
  · have e : ∀ n, IntKind.i32.wrap n = if n % 4294967296 ≥ 2147483648 then n % 4294967296 - 4294967296 else n % 4294967296 := fun n => by simp [IntKind.wrap, IntKind.bits, IntKind.signed]
    rw [e, e]
    by_cases h : n % 4294967296 ≥ 2147483648
    · rw [if_pos h, if_pos (by omega)]; omega
    · rw [if_neg h, if_neg (by omega)]; omega
  · have e : ∀ n, IntKind.i64.wrap n = if n % 18446744073709551616 ≥ 9223372036854775808 then n % 18446744073709551616 - 18446744073709551616 else n % 18446744073709551616 := fun n => by simp [IntKind.wrap, IntKind.bits, IntKind.signed]
    rw [e, e]
    by_cases h : n % 18446744073709551616 ≥ 9223372036854775808
    · rw [if_pos h, if_pos (by omega)]; omega
    · rw [if_neg h, if_neg (by omega)]; omega
  · have e : ∀ n, IntKind.u8.wrap n = n % 256 := fun n => by simp [IntKind.wrap, IntKind.bits, IntKind.signed]
    rw [e, e]; omega
  · have e : ∀ n, IntKind.u16.wrap n = n % 65536 := fun n => by simp [IntKind.wrap, IntKind.bits, IntKind.signed]
    rw [e, e]; omega
  · have e : ∀ n, IntKind.u32.wrap n = n % 4294967296 := fun n => by simp [IntKind.wrap, IntKind.bits, IntKind.signed]
    rw [e, e]; omega
  · have e : ∀ n, IntKind.u64.wrap n = n % 18446744073709551616 := fun n => by simp [IntKind.wrap, IntKind.bits, IntKind.signed]
    rw [e, e]; omega

theorem wrap_between {k : IntKind} {a n : Int} (ha : k.wrap a = a) (h : (0 ≤ n ∧ n ≤ a) ∨ (a ≤ n ∧ n ≤ 0)) : k.wrap n = n := by
  cases k
  · have e : ∀ n, IntKind.i8.wrap n = if n % 256 ≥ 128 then n % 256 - 256 else n % 256 := fun n => by simp [IntKind.wrap, IntKind.bits, IntKind.signed]
    rw [e] at ha ⊢
    by_cases h1 : a % 256 ≥ 128
    · rw [if_pos h1] at ha
      by_cases h2 : n % 256 ≥ 128
      · rw [if_pos h2]; omega
      · rw [if_neg h2]; omega
    · rw [if_neg h1] at ha
      by_cases h2 : n % 256 ≥ 128
      · rw [if_pos h2]; omega
      · rw [if_neg h2]; omega
  · have e : ∀ n, IntKind.i16.wrap n = if n % 65536 ≥ 32768 then n % 65536 - 65536 else n % 65536 := fun n => by simp [IntKind.wrap, IntKind.bits, IntKind.signed]
    rw [e] at ha ⊢
    by_cases h1 : a % 65536 ≥ 32768
    · rw [if_pos h1] at ha
      by_cases h2 : n % 65536 ≥ 32768
      · rw [if_pos h2]; omega
      · rw [if_neg h2]; omega
    · rw [if_neg h1] at ha
      by_cases h2 : n % 65536 ≥ 32768
      · rw [if_pos h2]; omega
      · rw [if_neg h2]; omega
  · have e : ∀ n, IntKind.i32.wrap n = if n % 4294967296 ≥ 2147483648 then n % 4294967296 - 4294967296 else n % 4294967296 := fun n => by simp [IntKind.wrap, IntKind.bits, IntKind.signed]
    rw [e] at ha ⊢
    by_cases h1 : a % 4294967296 ≥ 2147483648
    · rw [if_pos h1] at ha
      by_cases h2 : n % 4294967296 ≥ 2147483648
      · rw [if_pos h2]; omega
      · rw [if_neg h2]; omega
    · rw [if_neg h1] at ha
      by_cases h2 : n % 4294967296 ≥ 2147483648
      · rw [if_pos h2]; omega
      · rw [if_neg h2]; omega
  · have e : ∀ n, IntKind.i64.wrap n = if n % 18446744073709551616 ≥ 9223372036854775808 then n % 18446744073709551616 - 18446744073709551616 else n % 18446744073709551616 := fun n => by simp [IntKind.wrap, IntKind.bits, IntKind.signed]
    rw [e] at ha ⊢
    by_cases h1 : a % 18446744073709551616 ≥ 9223372036854775808
    · rw [if_pos h1] at ha
      by_cases h2 : n % 18446744073709551616 ≥ 9223372036854775808
      · rw [if_pos h2]; omega
      · rw [if_neg h2]; omega
    · rw [if_neg h1] at ha
      by_cases h2 : n % 18446744073709551616 ≥ 9223372036854775808
      · rw [if_pos h2]; omega
      · rw [if_neg h2]; omega
  · have e : ∀ n, IntKind.u8.wrap n = n % 256 := fun n => by simp [IntKind.wrap, IntKind.bits, IntKind.signed]
    rw [e] at ha ⊢; omega
  · have e : ∀ n, IntKind.u16.wrap n = n % 65536 := fun n => by simp [IntKind.wrap, IntKind.bits, IntKind.signed]
    rw [e] at ha ⊢; omega
  · have e : ∀ n, IntKind.u32.wrap n = n % 4294967296 := fun n => by simp [IntKind.wrap, IntKind.bits, IntKind.signed]
    rw [e] at ha ⊢; omega
  · have e : ∀ n, IntKind.u64.wrap n = n % 18446744073709551616 := fun n => by simp [IntKind.wrap, IntKind.bits, IntKind.signed]
    rw [e] at ha ⊢; omega

theorem wrap_tmod {k : IntKind} {a b : Int} (ha : k.wrap a = a) : k.wrap (a.tmod b) = a.tmod b := by
  refine wrap_between ha ?_
  rcases Int.le_total 0 a with h | h
  · exact .inl ⟨Int.tmod_nonneg b h, by
      have := Int.tmod_add_mul_tdiv a b
      have h2 : 0 ≤ b * a.tdiv b := by
        rcases Int.le_total 0 b with hb | hb
        · exact Int.mul_nonneg hb (Int.tdiv_nonneg h hb)
        · exact Int.mul_nonneg_of_nonpos_of_nonpos hb (Int.tdiv_nonpos_of_nonneg_of_nonpos h hb)
      omega⟩
  · refine .inr ?_
    have e : a.tmod b = - ((-a).tmod b) := by rw [Int.neg_tmod, Int.neg_neg]
    have h0 : 0 ≤ (-a).tmod b := Int.tmod_nonneg b (by omega)
    have := Int.tmod_add_mul_tdiv (-a) b
    have h2 : 0 ≤ b * (-a).tdiv b := by
      rcases Int.le_total 0 b with hb | hb
      · exact Int.mul_nonneg hb (Int.tdiv_nonneg (by omega) hb)
      · exact Int.mul_nonneg_of_nonpos_of_nonpos hb (Int.tdiv_nonpos_of_nonneg_of_nonpos (by omega) hb)
    omega

theorem wrap_fdiv {k : IntKind} {a : Int} (ha : k.wrap a = a) (n : Nat) : k.wrap (a.fdiv (2 ^ n)) = a.fdiv (2 ^ n) := by
  have hp : (0 : Int) < 2 ^ n := Int.pow_pos (by decide)
  rw [Int.fdiv_eq_ediv_of_nonneg _ (Int.le_of_lt hp)]
  refine wrap_between ha ?_
  rcases Int.le_total 0 a with h | h
  · exact .inl ⟨Int.ediv_nonneg h (Int.le_of_lt hp), Int.ediv_le_self _ h⟩
  · refine .inr ⟨?_, ?_⟩
    · rw [Int.le_ediv_iff_mul_le hp]
      have h3 : a * (2 ^ n - 1) ≤ 0 := Int.mul_nonpos_of_nonpos_of_nonneg h (by omega)
      rw [Int.mul_sub, Int.mul_one] at h3
      omega
    · exact Int.ediv_nonpos_of_nonpos_of_neg h hp |> fun x => x


theorem str_eq (s t : ByteArray) : (s.toList == t.toList) = (s.data.toList == t.data.toList) := by rw [ByteArray.toList_eq, ByteArray.toList_eq]

theorem p_bin (hI : Inv P B G s w) {op : BinOp} {a b v : AV} {xa xb : Value} (ha : R G (.v a xa)) (hb : R G (.v b xb)) (t : TypeId) (x y : Operand) (h : binA op a b = some v) :
    PRes P G w (do eqGuard op t x y xa xb; binOp op t xa xb) v := by
  cases ha with
  | int hk =>
    rename_i k n
    cases hb with
    | int hk' =>
      rename_i k' n'
      have hg : ∀ op, (eqGuard op t x y (.int k n) (.int k' n')).run P w = .ok () w := fun op => by unfold eqGuard; split <;> simp
      cases op <;> simp only [binA] at h
      case add =>
        split at h
        · rename_i hkk
          subst hkk
          simp only [intBin] at h
          cases h
          exact .of hI (x := .int k _) (by simp only [Sem.run_bind, hg, Result.andThen_ok, binOp]; simp [Op.intArith]) (.int (wrap_wrap _ _))
        · cases h
      case sub =>
        split at h
        · rename_i hkk
          subst hkk
          simp only [intBin] at h
          cases h
          exact .of hI (x := .int k _) (by simp only [Sem.run_bind, hg, Result.andThen_ok, binOp]; simp [Op.intArith]) (.int (wrap_wrap _ _))
        · cases h
      case mul =>
        split at h
        · rename_i hkk
          subst hkk
          simp only [intBin] at h
          cases h
          exact .of hI (x := .int k _) (by simp only [Sem.run_bind, hg, Result.andThen_ok, binOp]; simp [Op.intArith]) (.int (wrap_wrap _ _))
        · cases h
      case quo =>
        split at h
        · rename_i hkk
          subst hkk
          simp only [intBin] at h
          split at h
          · cases h
          · rename_i hz
            cases h
            exact .of hI (x := .int k _) (by simp only [Sem.run_bind, hg, Result.andThen_ok, binOp]; simp [Op.intDiv, hz]) (.int (wrap_wrap _ _))
        · cases h
      case rem =>
        split at h
        · rename_i hkk
          subst hkk
          simp only [intBin] at h
          split at h
          · cases h
          · rename_i hz
            cases h
            exact .of hI (x := .int k _) (by simp only [Sem.run_bind, hg, Result.andThen_ok, binOp]; simp [Op.intDiv, hz]) (.int (wrap_tmod hk))
        · cases h
      case and =>
        split at h
        · rename_i hkk
          subst hkk
          simp only [intBin] at h
          cases h
          exact .of hI (x := .int k _) (by simp only [Sem.run_bind, hg, Result.andThen_ok, binOp]; simp [Op.intBits]) (.int (wrap_wrap _ _))
        · cases h
      case or =>
        split at h
        · rename_i hkk
          subst hkk
          simp only [intBin] at h
          cases h
          exact .of hI (x := .int k _) (by simp only [Sem.run_bind, hg, Result.andThen_ok, binOp]; simp [Op.intBits]) (.int (wrap_wrap _ _))
        · cases h
      case xor =>
        split at h
        · rename_i hkk
          subst hkk
          simp only [intBin] at h
          cases h
          exact .of hI (x := .int k _) (by simp only [Sem.run_bind, hg, Result.andThen_ok, binOp]; simp [Op.intBits]) (.int (wrap_wrap _ _))
        · cases h
      case andNot =>
        split at h
        · rename_i hkk
          subst hkk
          simp only [intBin] at h
          cases h
          exact .of hI (x := .int k _) (by simp only [Sem.run_bind, hg, Result.andThen_ok, binOp]; simp [Op.intBits]) (.int (wrap_wrap _ _))
        · cases h
      case eql =>
        split at h
        · rename_i hkk
          subst hkk
          simp only [intBin] at h
          cases h
          exact .of hI (x := .bool _) (by simp only [Sem.run_bind, hg, Result.andThen_ok, binOp]; simp [Op.intCmp]) (.bool _)
        · cases h
      case neq =>
        split at h
        · rename_i hkk
          subst hkk
          simp only [intBin] at h
          cases h
          exact .of hI (x := .bool _) (by simp only [Sem.run_bind, hg, Result.andThen_ok, binOp]; simp [Op.intCmp]) (.bool _)
        · cases h
      case lss =>
        split at h
        · rename_i hkk
          subst hkk
          simp only [intBin] at h
          cases h
          exact .of hI (x := .bool _) (by simp only [Sem.run_bind, hg, Result.andThen_ok, binOp]; simp [Op.intCmp]) (.bool _)
        · cases h
      case leq =>
        split at h
        · rename_i hkk
          subst hkk
          simp only [intBin] at h
          cases h
          exact .of hI (x := .bool _) (by simp only [Sem.run_bind, hg, Result.andThen_ok, binOp]; simp [Op.intCmp]) (.bool _)
        · cases h
      case gtr =>
        split at h
        · rename_i hkk
          subst hkk
          simp only [intBin] at h
          cases h
          exact .of hI (x := .bool _) (by simp only [Sem.run_bind, hg, Result.andThen_ok, binOp]; simp [Op.intCmp]) (.bool _)
        · cases h
      case geq =>
        split at h
        · rename_i hkk
          subst hkk
          simp only [intBin] at h
          cases h
          exact .of hI (x := .bool _) (by simp only [Sem.run_bind, hg, Result.andThen_ok, binOp]; simp [Op.intCmp]) (.bool _)
        · cases h
      case shl =>
        split at h
        · cases h
        · rename_i hn
          cases h
          refine .of hI (x := .int k (k.wrap (n * 2 ^ (min n'.toNat k.bits)))) ?_ (.int (wrap_wrap _ _))
          simp only [Sem.run_bind, hg, Result.andThen_ok, binOp, Op.shift, if_neg hn]
          simp
      case shr =>
        split at h
        · cases h
        · rename_i hn
          cases h
          refine .of hI (x := .int k (k.wrap (n.fdiv (2 ^ (min n'.toNat k.bits))))) ?_ (.int (wrap_wrap _ _))
          simp only [Sem.run_bind, hg, Result.andThen_ok, binOp, Op.shift, if_neg hn]
          simp [wrap_fdiv hk]
    | _ => simp [binA] at h
  | str sa hsa =>
    cases hb with
    | str sb hsb =>
      have hg : (eqGuard op t x y (.string sa) (.string sb)).run P w = .ok () w := by unfold eqGuard; split <;> simp
      have hrun : ∀ v', (Op.stringOp op sa sb).run P w = .ok v' w → ((do eqGuard op t x y (.string sa) (.string sb); binOp op t (.string sa) (.string sb)) : Sem Value).run P w = .ok v' w := by
        intro v' hv
        simp only [Sem.run_bind, hg, Result.andThen_ok]
        cases op <;> exact hv
      have hE : (sa.toList == sb.toList) = (sa.data.toList == sb.data.toList) := str_eq sa sb
      have hL : Op.bytesLess sa.toList sb.toList = Op.bytesLess sa.data.toList sb.data.toList := by rw [ByteArray.toList_eq, ByteArray.toList_eq]
      simp only [binA] at h
      cases op <;> simp only [strBin] at h <;> first
        | (cases h; done)
        | (cases h; exact .of hI (hrun (.bool _) (by simp [Op.stringOp, hE, hL]; rfl)) (.bool _))
        | (cases h; exact .of hI (hrun (.bool _) (by simp only [Op.stringOp, hE, hL]; rfl)) (.bool _))
        | skip
      split at h
      · rename_i hlen
        cases h
        have hlen' : sa.size + sb.size ≤ big := by simpa using hlen
        have e : (sa ++ sb).data.toList = sa.data.toList ++ sb.data.toList := by simp
        refine .of hI (hrun (.string (sa ++ sb)) ?_) ?_
        · have hn : ¬ (((sa.size + sb.size : Nat) : Int) > IntKind.i64.max) := by
            have : IntKind.i64.max = 9223372036854775807 := by decide
            rw [this]; simp only [big] at hlen'; omega
          simp only [Op.stringOp]
          rw [if_neg hn]; rfl
        · rw [← e]
          exact .str _ (by rw [ByteArray.size_append]; simp only [big, maxLen] at *; omega)
      · cases h
    | _ => simp [binA] at h
  | _ => simp [binA] at h

end
end Go.Fw
