/- The framework, part 5d: places, elements, structs. -/
import Derived.Test.YthmlommnlihgcaaGreatDoorFwOps3
namespace Go.Fw
open Go
section
variable {P : Program} {B : Bs} {G : Gh} {s : ASt} {w : World} {P' : AProg} {env : Env} {ρ : Operand → Value}

theorem agg_of_one {a : AV} {x : Value} (r : R G (.v a x)) (h : x.oneCell' = true) : isAgg' a = false := by
  cases r <;> first | rfl | (simp [Value.oneCell'] at h)

theorem chunks_r {sz b : Nat} : ∀ {n o : Nat} {cs : List AV} {vs : List Value}, R G (.k cs vs) → n * sz ≤ cs.length → (∀ j x, vs[j]? = some x → G.M b (o + j) = some x) → R G (.r sz (chunks sz n cs) b o) := by
  intro n
  induction n with
  | zero => intro o cs vs _ _ _; exact .rnil _ _ _
  | succ n ih =>
    intro o cs vs r hl hM
    have hl' : sz ≤ cs.length := by rw [Nat.add_mul] at hl; omega
    have hvl : cs.length = vs.length := r.k_length
    have hrest : R G (.r sz (chunks sz n (cs.drop sz)) b (o + sz)) := ih (r.k_drop sz) (by rw [List.length_drop]; rw [Nat.add_mul] at hl; omega) (fun j x hx => by
      rw [List.getElem?_drop] at hx
      have := hM (sz + j) x hx
      rw [← Nat.add_assoc] at this; exact this)
    have hvs : (vs.take sz).length = sz := by rw [List.length_take]; omega
    have hMt : ∀ j y, (vs.take sz)[j]? = some y → G.M b (o + j) = some y := fun j y hy => by
      rw [List.getElem?_take] at hy
      split at hy
      · exact hM j y hy
      · cases hy
    unfold chunks
    split
    · cases r with
      | knil => simp at hl'
      | kcons h1 h2 t =>
        exact .rcons (.cone (agg_of_one h1 h2) h2 h1) rfl (by simpa using hMt) hrest
    · exact .rcons (.cagg (r.k_take sz)) hvs hMt hrest

theorem p_cutA (hI : Inv P B G s w) (hO : Opn P' env G ρ) {t e : TypeId} {n : Nat} (hu : P.underlying t = some (.array n e)) {esz : Nat} (hes : P.cellsOf e = esz) (he : ∃ d, P.underlying e = some d) (hn : n ≤ big) {a v : AV} {x : Value} {lo hi : Option Operand} {lo' hi' : Option AOpnd}
    (h : (match (generalizing := false) a, optNat P' env n hi', optNat P' env 0 lo' with
    | .cptr v off, some h, some l =>
      if l ≤ h && h ≤ n && off + n * esz ≤ (cellsOf v).length then some (AV.slice esz (chunks esz (h - l) ((cellsOf v).drop (off + l * esz))) .no) else none
    | .ptr b off, some h, some l => if l ≤ h && h ≤ n && (l = 0 || l < n) then some (.mslice b (off + l * esz) (h - l) (n - l) esz) else none
    | _, _, _ => none) = some v) (r : R G (.v a x)) (hl : opndO lo = some lo') (hh : opndO hi = some hi') : PRes P G w (Instr.sliceAt t x (lo.map ρ) (hi.map ρ) none) v := by
  obtain ⟨ed, he⟩ := he
  have key : ∀ (A : Addr) (l hx : Nat), l ≤ hx → hx ≤ n → ((hi = none ∧ hx = n) ∨ ∃ z k, hi = some z ∧ ρ z = .int k (hx : Int)) → ((lo = none ∧ l = 0) ∨ ∃ z k, lo = some z ∧ ρ z = .int k (l : Int)) →
      (Instr.sliceAt t (.pointer (some A)) (lo.map ρ) (hi.map ρ) none).run P w = .ok (.slice (some (if n = l then A else A.add (l * esz))) (hx - l) (n - l)) w := by
    intro A l hx h1 h2 hh hl
    have e : (Instr.sliceBounds false n n (lo.map ρ) (hi.map ρ) none).run P w = .ok (l, hx, n) w := by
      unfold Instr.sliceBounds
      rcases hh with ⟨rfl, rfl⟩ | ⟨zh, kh, rfl, eh⟩
      · rcases hl with ⟨rfl, rfl⟩ | ⟨zl, kl, rfl, el⟩
        · simp
        · simp [el, run_bound h1]
      · rcases hl with ⟨rfl, rfl⟩ | ⟨zl, kl, rfl, el⟩
        · simp [eh, run_bound h2]
        · simp [el, eh, run_bound h1, run_bound h2]
    simp [Instr.sliceAt, Instr.sureAddr, run_underlying hu, e, run_sizeOf_u he, hes]
  have toH : ∀ {m}, optNat P' env n hi' = some m → (hi = none ∧ m = n) ∨ ∃ z k, hi = some z ∧ ρ z = .int k (m : Int) := fun h => by
    rcases opt_ok hO hh h with ⟨h1, _, h2⟩ | ⟨z, _, k, h1, _, h2⟩
    · exact .inl ⟨h1, h2⟩
    · exact .inr ⟨z, k, h1, h2⟩
  have toL : ∀ {m}, optNat P' env 0 lo' = some m → (lo = none ∧ m = 0) ∨ ∃ z k, lo = some z ∧ ρ z = .int k (m : Int) := fun h => by
    rcases opt_ok hO hl h with ⟨h1, _, h2⟩ | ⟨z, _, k, h1, _, h2⟩
    · exact .inl ⟨h1, h2⟩
    · exact .inr ⟨z, k, h1, h2⟩
  have hbm : n ≤ maxLen := by simp only [big, maxLen] at *; omega
  cases e1 : optNat P' env n hi' with
  | none => rw [e1] at h; cases r <;> simp at h
  | some hx =>
  cases e2 : optNat P' env 0 lo' with
  | none => rw [e1, e2] at h; cases r <;> simp at h
  | some l =>
  rw [e1, e2] at h
  cases r with
  | cptr off hc hM =>
    rename_i v0 vs b o
    simp only at h
    split at h
    · rename_i hcond
      cases h
      simp at hcond
      obtain ⟨⟨c1, c2⟩, c3⟩ := hcond
      refine .of hI (key _ l hx c1 c2 (toH e1) (toL e2)) ?_
      by_cases hz : hx - l = 0
      · rw [hz]
        exact .sliceE (by omega) trivial
      · have hnl : n ≠ l := by omega
        rw [if_neg hnl, add_plain']
        have hk := hc.c_k
        have hlen : (chunks esz (hx - l) ((cellsOf v0).drop (off + l * esz))).length = hx - l := by
          generalize hx - l = m
          generalize (cellsOf v0).drop (off + l * esz) = cs
          induction m generalizing cs with
          | zero => rfl
          | succ m ih => simp [chunks, ih]
        have hr := chunks_r (b := b) (o := o + off + l * esz) (n := hx - l) (sz := esz) (hk.k_drop (off + l * esz)) (by
          rw [List.length_drop]
          have : (hx - l) * esz + l * esz ≤ n * esz := by rw [← Nat.add_mul]; exact Nat.mul_le_mul_right _ (by omega)
          omega) (fun j y hy => by
            rw [List.getElem?_drop] at hy
            have := hM _ y hy
            rw [show o + off + l * esz + j = o + (off + l * esz + j) from by omega]; exact this)
        have := R.sliceN (o := .no) (c := n - l) (by rw [hlen]; omega) (by omega) hr trivial
        rw [hlen] at this
        exact this
    · cases h
  | ptr off hL =>
    rename_i ℓ b
    simp only at h
    split at h
    · rename_i hcond
      cases h
      simp at hcond
      obtain ⟨⟨c1, c2⟩, c3⟩ := hcond
      refine .of hI (key _ l hx c1 c2 (toH e1) (toL e2)) ?_
      by_cases hnl : n = l
      · have hl0 : l = 0 := by omega
        subst hl0
        rw [if_pos hnl]
        simpa using R.ms (off := off) (sz := esz) hL (len := hx - 0) (cap := n - 0) (by omega) (by omega)
      · rw [if_neg hnl, add_plain']
        exact .ms hL (by omega) (by omega)
    · cases h
  | _ => simp at h

theorem p_fieldA (hI : Inv P B G s w) {S : TypeId} {fs : Array Field} {f : Nat} {fd : Field} (hu : P.underlying S = some (.struct fs)) (hf : fs[f]? = some fd) (hz : P.cellsOf fd.type ≠ 0) {a v : AV} {x : Value} (r : R G (.v a x))
    (h : (match (generalizing := false) a with | .ptr l o => some (AV.ptr l (o + fd.offset)) | .cptr v o => some (.cptr v (o + fd.offset)) | _ => none) = some v) : PRes P G w (Instr.fieldAt S x f) v := by
  obtain ⟨i, hi⟩ : ∃ i, P.info? fd.type = some i := by
    cases h : P.info? fd.type with
    | none => simp [Program.cellsOf, h] at hz
    | some i => exact ⟨i, rfl⟩
  have key : ∀ A : Addr, (Instr.fieldAt S (.pointer (some A)) f).run P w = .ok (.pointer (some (A.add fd.offset))) w := by
    intro A
    simp [Instr.fieldAt, run_underlying hu, hf, Instr.sureAddr, fieldPlace, run_sizeOf' hi, hz]
  cases r <;> simp at h <;> subst h
  · rename_i ℓ b o hL
    refine .of hI (key _) ?_
    rw [add_plain']; exact .ptr _ hL
  · rename_i v0 vs b o off hc hM
    refine .of hI (key _) ?_
    rw [add_plain', Nat.add_assoc]; exact .cptr _ hc hM

theorem part_ok {t : TypeId} {ag : Bool} (hag : aggT P t = some ag) {cs : List AV} {vs : List Value} (r : R G (.k cs vs)) {off : Nat} {v : AV} (h : partOf ag (P.cellsOf t) cs off = some v) : ∃ x, (part t vs.toArray off).run P w = .ok x w ∧ R G (.v v x) := by
  obtain ⟨d, hd⟩ := under_of_agg hag
  unfold partOf at h
  cases ag with
  | true =>
    simp only at h
    split at h
    · rename_i hc
      cases h
      refine ⟨.agg ((vs.drop off).take (P.cellsOf t)).toArray, ?_, .agg ((r.k_drop off).k_take _)⟩
      simp only [part, Sem.run_bind, run_isAgg hag, Result.andThen_ok, if_true, run_sizeOf_u hd]
      simp [List.extract_eq_take_drop]
    · cases h
  | false =>
    simp only at h
    obtain ⟨x, h1, h2, _⟩ := r.k_get h
    refine ⟨x, ?_, h2⟩
    simp [part, run_isAgg hag, h1]

theorem p_field (hI : Inv P B G s w) {S : TypeId} {fs : Array Field} {f : Nat} {fd : Field} (hu : P.underlying S = some (.struct fs)) (hf : fs[f]? = some fd) {ag : Bool} (hag : aggT P fd.type = some ag) {a v : AV} {x : Value} (r : R G (.v a x))
    (h : (match (generalizing := false) a with | .agg cs => partOf ag (P.cellsOf fd.type) cs fd.offset | _ => none) = some v) : PRes P G w (Instr.field S x f) v := by
  cases r <;> simp at h
  rename_i cs vs hk
  obtain ⟨x, h1, h2⟩ := part_ok (w := w) hag hk h
  exact .of hI (x := x) (by simp [Instr.field, run_underlying hu, hf, asAgg, h1]) h2

theorem p_idxS (hI : Inv P B G s w) {t e : TypeId} (hu : P.underlying t = some (.slice e)) {esz : Nat} (hes : P.cellsOf e = esz) (he : ∃ d, P.underlying e = some d) {a b v : AV} {x y : Value} (r : R G (.v a x)) (r2 : R G (.v b y))
    (h : (match (generalizing := false) a, natOf b with
    | .slice sz xs _, some i => if sz = esz then (match xs[i]? with | some x => some (AV.cptr x 0) | none => none) else none
    | .mslice l off len _ sz, some i => if sz = esz && i < len then some (.ptr l (off + i * sz)) else none
    | _, _ => none) = some v) : PRes P G w (Instr.indexAt t x y) v := by
  obtain ⟨ed, he⟩ := he
  have key : ∀ (A : Addr) (len cap i : Nat) (k : IntKind), i < len → (Instr.indexAt t (.slice (some A) len cap) (.int k (i : Int))).run P w = .ok (.pointer (some (A.add (i * esz)))) w := by
    intro A len cap i k hi
    have hc : (0 : Int) ≤ (i : Int) ∧ (i : Int) < (len : Int) := ⟨by omega, by omega⟩
    simp [Instr.indexAt, asIntOf, run_underlying hu, run_sizeOf_u he, hes, hi]
  cases hi : natOf b with
  | none => rw [hi] at h; cases r <;> simp at h
  | some i =>
    rw [hi] at h
    obtain ⟨k, rfl⟩ := natOf_ok hi r2
    cases r with
    | sliceE => simp at h
    | sliceN hc hm hr ho =>
      rename_i sz xs o bb off c
      simp only at h
      split at h
      · rename_i hsz
        subst hsz
        split at h
        · rename_i z hz
          cases h
          have hlt : i < xs.length := (List.getElem?_eq_some_iff.1 hz).1
          obtain ⟨vs, h1, h2, h3⟩ := hr.r_get hz
          refine .of hI (key _ _ _ _ _ hlt) ?_
          rw [add_plain']
          have := R.cptr (b := bb) (o := off + i * sz) 0 h1 h3
          simpa using this
        · cases h
      · cases h
    | ms hL hc hm =>
      simp only at h
      split at h
      · rename_i hcond
        simp at hcond
        obtain ⟨rfl, hlt⟩ := hcond
        cases h
        refine .of hI (key _ _ _ _ _ hlt) ?_
        rw [add_plain']; exact .ptr _ hL
      · cases h
    | _ => simp at h

theorem p_idxA (hI : Inv P B G s w) {t e : TypeId} {n : Nat} (hu : P.underlying t = some (.array n e)) {esz : Nat} (hes : P.cellsOf e = esz) (he : ∃ d, P.underlying e = some d) {a b v : AV} {x y : Value} (r : R G (.v a x)) (r2 : R G (.v b y))
    (h : (match (generalizing := false) a, natOf b with
    | .ptr l o, some i => if i < n then some (AV.ptr l (o + i * esz)) else none
    | .cptr v o, some i => if i < n then some (.cptr v (o + i * esz)) else none
    | _, _ => none) = some v) : PRes P G w (Instr.indexAt t x y) v := by
  obtain ⟨ed, he⟩ := he
  have key : ∀ (A : Addr) (i : Nat) (k : IntKind), i < n → (Instr.indexAt t (.pointer (some A)) (.int k (i : Int))).run P w = .ok (.pointer (some (A.add (i * esz)))) w := by
    intro A i k hi
    have hc : (0 : Int) ≤ (i : Int) ∧ (i : Int) < (n : Int) := ⟨by omega, by omega⟩
    simp [Instr.indexAt, asIntOf, Instr.sureAddr, run_underlying hu, run_sizeOf_u he, hes, hi]
  cases hi : natOf b with
  | none => rw [hi] at h; cases r <;> simp at h
  | some i =>
    rw [hi] at h
    obtain ⟨k, rfl⟩ := natOf_ok hi r2
    cases r with
    | ptr off hL =>
      simp only at h
      split at h
      · rename_i hlt
        cases h
        refine .of hI (key _ _ _ hlt) ?_
        rw [add_plain']; exact .ptr _ hL
      · cases h
    | cptr off hc hM =>
      simp only at h
      split at h
      · rename_i hlt
        cases h
        refine .of hI (key _ _ _ hlt) ?_
        rw [add_plain', Nat.add_assoc]; exact .cptr _ hc hM
      · cases h
    | _ => simp at h

theorem p_idxV (hI : Inv P B G s w) {t e : TypeId} {n : Nat} (hu : P.underlying t = some (.array n e)) {ag : Bool} (hag : aggT P e = some ag) {a b v : AV} {x y : Value} (r : R G (.v a x)) (r2 : R G (.v b y))
    (h : (match (generalizing := false) a, natOf b with
    | .agg cs, some i => if i < n then partOf ag (P.cellsOf e) cs (i * P.cellsOf e) else none
    | _, _ => none) = some v) : PRes P G w (Instr.index t x y) v := by
  obtain ⟨ed, he⟩ := under_of_agg hag
  cases hi : natOf b with
  | none => rw [hi] at h; cases r <;> simp at h
  | some i =>
    rw [hi] at h
    obtain ⟨k, rfl⟩ := natOf_ok hi r2
    cases r <;> simp only [reduceCtorEq] at h
    rename_i cs vs hk
    split at h
    · rename_i hlt
      obtain ⟨x, h1, h2⟩ := part_ok (w := w) hag hk h
      have hc : (0 : Int) ≤ (i : Int) ∧ (i : Int) < (n : Int) := ⟨by omega, by omega⟩
      exact .of hI (x := x) (by simp [Instr.index, asIntOf, run_underlying hu, run_sizeOf_u he, hlt, h1]) h2
    · cases h

theorem p_idxStr (hI : Inv P B G s w) {t : TypeId} (hu : P.underlying t = some .string) {a b v : AV} {x y : Value} (r : R G (.v a x)) (r2 : R G (.v b y))
    (h : (match (generalizing := false) a, natOf b with
    | .str s, some i => (match s[i]? with | some b => some (AV.int .u8 b.toNat) | none => none)
    | _, _ => none) = some v) : PRes P G w (Instr.index t x y) v := by
  cases hi : natOf b with
  | none => rw [hi] at h; cases r <;> simp at h
  | some i =>
    rw [hi] at h
    obtain ⟨k, rfl⟩ := natOf_ok hi r2
    cases r with
    | str st hst =>
      simp only at h
      split at h
      · rename_i bt hb
        cases h
        have hb' : st[i]? = some bt := by
          obtain ⟨h1, h2⟩ := List.getElem?_eq_some_iff.1 hb
          have hlt : i < st.size := by simpa using h1
          rw [getElem?_pos st i hlt]
          simp at h2; rw [← h2]; rfl
        refine .of hI (x := .int .u8 bt.toNat) ?_ (.int ?_)
        · have h0 : (0 : Int) ≤ (i : Int) := by omega
          simp [Instr.index, asIntOf, run_underlying hu, hb']
        · have e : ∀ n, IntKind.u8.wrap n = n % 256 := fun n => by simp [IntKind.wrap, IntKind.bits, IntKind.signed]
          have := bt.toNat_lt
          rw [e]; omega
      · cases h
    | _ => simp at h

theorem p_assert (hI : Inv P B G s w) {t xt : TypeId} {u : TypeDesc} (hu : P.underlying t = some u) (hn : ∀ m, u ≠ .interface m) {ok : Bool} {z a v : AV} {zv : Value} {i : TypeInfo} (hi : P.info? t = some i) (hz : i.zero = some zv) (rz : R G (.v z zv)) {x : Value} (r : R G (.v a x))
    (h : (match (generalizing := false) a with
    | .iface t' v => if t' = t then some (match ok with | true => AV.tuple [v, .bool true] | false => v) else (match ok with | true => some (.tuple [z, .bool false]) | false => none)
    | .niliface => (match ok with | true => some (.tuple [z, .bool false]) | false => none)
    | _ => none) = some v) : PRes P G w (Instr.typeAssert x xt t ok) v := by
  have two : ∀ {p q : AV} {xp xq : Value}, R G (.v p xp) → R G (.v q xq) → R G (.v (.tuple [p, q]) (.tuple #[xp, xq])) := fun h1 h2 => by simpa using R.tuple (.lcons h1 (.lcons h2 .lnil))
  cases r <;> simp only [reduceCtorEq] at h
  · rename_i t' v0 x0 r0
    split at h
    · rename_i e
      subst e
      cases ok with
      | true =>
        cases h
        refine .of hI (x := .tuple #[x0, .bool true]) ?_ (two r0 (.bool _))
        cases u <;> first | (exact absurd rfl (hn _)) | simp [Instr.typeAssert, run_underlying hu]
      | false =>
        cases h
        refine .of hI (x := x0) ?_ r0
        cases u <;> first | (exact absurd rfl (hn _)) | simp [Instr.typeAssert, run_underlying hu]
    · rename_i e
      cases ok with
      | true =>
        cases h
        refine .of hI (x := .tuple #[zv, .bool false]) ?_ (two rz (.bool _))
        cases u <;> first | (exact absurd rfl (hn _)) | simp [Instr.typeAssert, run_underlying hu, e, run_zeroValue' hi hz]
      | false => cases h
  · cases ok with
    | true =>
      cases h
      refine .of hI (x := .tuple #[zv, .bool false]) ?_ (two rz (.bool _))
      cases u <;> first | (exact absurd rfl (hn _)) | simp [Instr.typeAssert, run_underlying hu, run_zeroValue' hi hz]
    | false => cases h

theorem p_extract (hI : Inv P B G s w) {i : Nat} {a v : AV} {x : Value} (r : R G (.v a x)) (h : (match (generalizing := false) a with | .tuple vs => vs[i]? | _ => none) = some v) : PRes P G w (Instr.extract x i) v := by
  cases r <;> simp only [reduceCtorEq] at h
  rename_i cs vs hl
  obtain ⟨y, h1, h2⟩ := hl.l_get h
  exact .of hI (x := y) (by simp [Instr.extract, h1]) h2

theorem wrap_len {n : Nat} (h : n ≤ maxLen) : IntKind.i64.wrap (n : Int) = n := by
  have e : ∀ n, IntKind.i64.wrap n = if n % 18446744073709551616 ≥ 9223372036854775808 then n % 18446744073709551616 - 18446744073709551616 else n % 18446744073709551616 := fun n => by simp [IntKind.wrap, IntKind.bits, IntKind.signed]
  rw [e]; simp only [maxLen] at h
  rw [if_neg (by omega)]; omega

theorem p_lenS (hI : Inv P B G s w) {t e ty : TypeId} {ts : Array TypeId} (ht : ts[0]? = some t) (hu : P.underlying t = some (.slice e)) {a v : AV} {x : Value} (r : R G (.v a x))
    (h : (match (generalizing := false) a with | .slice _ xs _ => some (AV.int .i64 xs.length) | .mslice _ _ len _ _ => some (.int .i64 len) | _ => none) = some v) : PRes P G w (Builtin.len_ ts ty #[x]) v := by
  cases r <;> simp only [reduceCtorEq] at h <;> cases h
  · rename_i hm ho; exact .of hI (x := .int .i64 (0 : Nat)) (by simp [Builtin.len_, ht, run_underlying hu, goInt]) (.int (by decide))
  · rename_i hc hm hr ho; exact .of hI (x := .int .i64 _) (by simp [Builtin.len_, ht, run_underlying hu, goInt]) (.int (wrap_len (by omega)))
  · rename_i hL hc hm; exact .of hI (x := .int .i64 _) (by simp [Builtin.len_, ht, run_underlying hu, goInt]) (.int (wrap_len (by omega)))

theorem p_lenStr (hI : Inv P B G s w) {t ty : TypeId} {ts : Array TypeId} (ht : ts[0]? = some t) (hu : P.underlying t = some .string) {a v : AV} {x : Value} (r : R G (.v a x))
    (h : (match (generalizing := false) a with | .str s => some (AV.int .i64 s.length) | _ => none) = some v) : PRes P G w (Builtin.len_ ts ty #[x]) v := by
  cases r <;> simp only [reduceCtorEq] at h
  cases h
  rename_i st hst
  have e : st.data.toList.length = st.size := by simp
  rw [e]
  exact .of hI (x := .int .i64 st.size) (by simp [Builtin.len_, ht, run_underlying hu, goInt]) (.int (wrap_len hst))

theorem p_lenA (hI : Inv P B G s w) {t e ty : TypeId} {n : Nat} {ts : Array TypeId} (ht : ts[0]? = some t) (hu : P.underlying t = some (.array n e)) (hn : n ≤ big) {x : Value} : PRes P G w (Builtin.len_ ts ty #[x]) (.int .i64 n) :=
  .of hI (x := .int .i64 n) (by simp [Builtin.len_, ht, run_underlying hu, goInt]) (.int (wrap_len (by simp only [big, maxLen] at *; omega)))

end
end Go.Fw
