/- The framework, part 5b: more operations that see no store. -/
import Derived.Test.YthmlommnlihgcaaGreatDoorFwOps
namespace Go.Fw
open Go
section
variable {P : Program} {B : Bs} {G : Gh} {s : ASt} {w : World}

theorem bytes_beq (p q : ByteArray) : (p == q) = (p.data.toList == q.data.toList) := by
  cases p with | mk p => cases q with | mk q =>
  show (p == q) = (p.toList == q.toList)
  rw [Bool.eq_iff_iff]; simp

theorem flat1_ok {a b : AV} {xa xb : Value} {r : Bool} (h : flat1 a b = some r) (ha : R G (.v a xa)) (hb : R G (.v b xb)) :
    (∃ k n m, xa = .int k n ∧ xb = .int k m ∧ r = (n == m)) ∨ (∃ p q, xa = .bool p ∧ xb = .bool q ∧ r = (p == q)) ∨ (∃ p q : ByteArray, xa = .string p ∧ xb = .string q ∧ r = (p.data.toList == q.data.toList)) := by
  cases ha with
  | int hk =>
    cases hb with
    | int hk' =>
      simp only [flat1] at h
      split at h
      · rename_i e; subst e; cases h; exact .inl ⟨_, _, _, rfl, rfl, rfl⟩
      · cases h
    | _ => simp [flat1] at h
  | bool p =>
    cases hb with
    | bool q => simp only [flat1] at h; cases h; exact .inr (.inl ⟨_, _, rfl, rfl, rfl⟩)
    | _ => simp [flat1] at h
  | str p hp =>
    cases hb with
    | str q hq => simp only [flat1] at h; cases h; exact .inr (.inr ⟨_, _, rfl, rfl, rfl⟩)
    | _ => simp [flat1] at h
  | _ => simp [flat1] at h

theorem equal_succ (t : TypeId) (x y : Value) : Op.equal t x y = Op.equalIn (9999 + 1) t x y := rfl

theorem eqIn_int {t : TypeId} {j : IntKind} (hu : P.underlying t = some (.int j)) (d : Nat) (k : IntKind) (n m : Int) : (Op.equalIn (d + 1) t (.int k n) (.int k m)).run P w = .ok (n == m) w := by
  simp only [Op.equalIn, Sem.run_bind, run_underlying hu, Result.andThen_ok, if_true]; rfl
theorem eqIn_bool {t : TypeId} (hu : P.underlying t = some .bool) (d : Nat) (n m : Bool) : (Op.equalIn (d + 1) t (.bool n) (.bool m)).run P w = .ok (n == m) w := by
  simp only [Op.equalIn, Sem.run_bind, run_underlying hu, Result.andThen_ok]; rfl
theorem eqIn_str {t : TypeId} (hu : P.underlying t = some .string) (d : Nat) (n m : ByteArray) : (Op.equalIn (d + 1) t (.string n) (.string m)).run P w = .ok (n.data.toList == m.data.toList) w := by
  simp only [Op.equalIn, Sem.run_bind, run_underlying hu, Result.andThen_ok, bytes_beq]; rfl

def NilTy (k : NK) (u : TypeDesc) : Prop :=
  match k with | .ptr => ∃ e, u = .pointer e | .slice => ∃ e, u = .slice e | .map => ∃ e f, u = .map e f | .func => ∃ e f g, u = .func e f g | .iface => ∃ e, u = .interface e
def NilVal (k : NK) (c : Value) : Prop :=
  match k with | .ptr => c = .pointer none | .slice => ∃ l d, c = .slice none l d | .map => c = .map none | .func => c = .nilFunc | .iface => c = .nilIface

/-- A comparison with nil. -/
theorem eqIn_nil {t : TypeId} {u : TypeDesc} (hu : P.underlying t = some u) {k : NK} {a : AV} {x n : Value} {b : Bool} (r : R G (.v a x)) (h : nilA k a = some b)
    (d : Nat) (hk : NilTy k u ∧ NilVal k n) :
    (Op.equalIn (d + 1) t x n).run P w = .ok b w ∧ (Op.equalIn (d + 1) t n x).run P w = .ok b w := by
  cases k with
  | ptr =>
    obtain ⟨⟨e, rfl⟩, rfl⟩ := hk
    cases r <;> simp only [nilA] at h <;> cases h <;> (constructor <;> (simp only [Op.equalIn, Sem.run_bind, run_underlying hu, Result.andThen_ok]; rfl))
  | slice =>
    obtain ⟨⟨e, rfl⟩, l, c, rfl⟩ := hk
    cases r with
    | sliceN hc hm hr ho =>
      rename_i sz xs o b' off cc
      cases xs with
      | nil => simp [nilA] at h
      | cons y ys => simp only [nilA] at h; cases h; constructor <;> (simp only [Op.equalIn, Sem.run_bind, run_underlying hu, Result.andThen_ok]; rfl)
    | _ => simp [nilA] at h
  | map =>
    obtain ⟨⟨e, f, rfl⟩, rfl⟩ := hk
    cases r <;> simp only [nilA] at h <;> cases h <;> (constructor <;> (simp only [Op.equalIn, Sem.run_bind, run_underlying hu, Result.andThen_ok]; rfl))
  | func =>
    obtain ⟨⟨e, f, g, rfl⟩, rfl⟩ := hk
    cases r <;> simp only [nilA] at h <;> cases h <;> (constructor <;> (simp only [Op.equalIn, Sem.run_bind, run_underlying hu, Result.andThen_ok]; rfl))
  | iface =>
    obtain ⟨⟨e, rfl⟩, rfl⟩ := hk
    cases r <;> simp only [nilA] at h <;> cases h <;> (constructor <;> (simp only [Op.equalIn, Sem.run_bind, run_underlying hu, Result.andThen_ok]; rfl))

/-- == and != where the operands are no two numbers or strings. -/
def noPair : Value → Value → Bool
  | .int .., .int .. | .string _, .string _ | .float .., .float .. | .complex .., .complex .. => false
  | _, _ => true
theorem binOp_eql {t : TypeId} {x y : Value} (h : noPair x y = true) : binOp .eql t x y = (do pure (.bool (← Op.equal t x y))) ∧ binOp .neq t x y = (do pure (.bool (!(← Op.equal t x y)))) := by
  cases x <;> cases y <;> first | (simp [noPair] at h; done) | exact ⟨rfl, rfl⟩


variable {P' : AProg} {env : Env} {ρ : Operand → Value}

theorem p_un (hI : Inv P B G s w) {op : UnOp} {a v : AV} {x : Value} (r : R G (.v a x))
    (h : (match (generalizing := false) op with
      | .not => (match (generalizing := false) a with | .bool b => some (AV.bool (!b)) | _ => none)
      | .neg => (match (generalizing := false) a with | .int k n => some (.int k (k.wrap (0 - n))) | _ => none)
      | .xor => (match (generalizing := false) a with | .int k n => some (.int k (k.wrap (BitVec.ofInt k.bits (if k.signed then -1 else k.max) ^^^ BitVec.ofInt k.bits n).toNat)) | _ => none)
      | _ => none) = some v) : PRes P G w (Op.unary op x) v := by
  cases op with
  | not => cases r <;> simp at h; subst h; exact .of hI (x := .bool _) (by simp [Op.unary]) (.bool _)
  | neg => cases r <;> simp at h; subst h; exact .of hI (x := .int _ _) (by simp [Op.unary, Op.intArith]) (.int (wrap_wrap _ _))
  | xor => cases r <;> simp at h; subst h; exact .of hI (x := .int _ _) (by simp [Op.unary, Op.intBits]) (.int (wrap_wrap _ _))
  | plus => simp at h

theorem p_toInt (hI : Inv P B G s w) {k : IntKind} {a v : AV} {x : Value} (r : R G (.v a x)) {S T : TypeId} {kS : IntKind} (hs : P.underlying S = some (.int kS)) (ht : P.underlying T = some (.int k))
    (h : (match (generalizing := false) a with | .int k' n => some (AV.int k (if k = k' then n else k.wrap n)) | _ => none) = some v) : PRes P G w (convert S T x) v := by
  cases r <;> simp at h
  rename_i k' n hk
  subst h
  refine .of hI (x := .int k (k.wrap n)) (by simp [convert, run_underlying hs, run_underlying ht, Conv.intToInt]) ?_
  by_cases e : k = k'
  · subst e; rw [if_pos rfl, hk]; exact .int hk
  · rw [if_neg e]; exact .int (wrap_wrap _ _)

theorem p_mkIface (hI : Inv P B G s w) {t : TypeId} {u : TypeDesc} (hu : P.underlying t = some u) (hn : ∀ m, u ≠ .interface m) {a v : AV} {x : Value} (r : R G (.v a x))
    (h : (match (generalizing := false) fixP a with | some v => some (AV.iface t v) | none => none) = some v) : PRes P G w (Instr.makeInterface t x) v := by
  split at h
  · rename_i a' ha
    cases h
    refine .of hI (x := .iface t x) ?_ (.iface (fixP_ok ha r).1)
    simp only [Instr.makeInterface, Sem.run_bind, run_underlying hu, Result.andThen_ok]
    first | rfl | (split; exact absurd rfl (hn _); rfl)
  · cases h

theorem p_mkFunc (hI : Inv P B G s w) {f : Nat} {a b : List AV} {xa xb : List Value} (ra : R G (.l a xa)) (rb : R G (.l b xb)) {v : AV}
    (h : (match (generalizing := false) fixPs a, fixPs b with | some a, some b => some (AV.func f a b) | _, _ => none) = some v) : PRes P G w (Instr.makeFunc (.func f) xa.toArray xb.toArray) v := by
  split at h
  · rename_i a' b' h1 h2
    cases h
    exact .of hI (x := .func (.func f) xa.toArray xb.toArray) (by simp [Instr.makeFunc]) (.func (fixPs_ok h1 ra) (fixPs_ok h2 rb))
  · cases h

theorem natOf_ok {a : AV} {x : Value} {n : Nat} (h : natOf a = some n) (r : R G (.v a x)) : ∃ k, x = .int k (n : Int) := by
  cases r <;> simp [natOf] at h
  obtain ⟨h0, rfl⟩ := h
  exact ⟨_, by rw [Int.toNat_of_nonneg h0]⟩

theorem opt_ok (hO : Opn P' env G ρ) {x : Option Operand} {y : Option AOpnd} (h : opndO x = some y) {d n : Nat} (hn : optNat P' env d y = some n) :
    (x = none ∧ y = none ∧ n = d) ∨ (∃ z z' k, x = some z ∧ y = some z' ∧ ρ z = .int k (n : Int)) := by
  cases x with
  | none => simp [opndO] at h; subst h; simp [optNat] at hn; exact .inl ⟨rfl, rfl, hn.symm⟩
  | some z =>
    simp only [opndO, Option.map_eq_some_iff] at h
    obtain ⟨z', h1, rfl⟩ := h
    simp only [optNat] at hn
    obtain ⟨k, hk⟩ := natOf_ok hn (hO.out _ _ h1)
    exact .inr ⟨z, z', k, rfl, rfl, hk⟩

theorem run_bound {k : IntKind} {n y : Nat} (h : n ≤ y) (c : BoundsCode) : (Instr.sliceBound (.int k (n : Int)) y c).run P w = .ok n w := by
  have : (0 : Int) ≤ (n : Int) ∧ (n : Int) ≤ (y : Int) := ⟨by omega, by omega⟩
  simp [Instr.sliceBound, asIntOf, this]

theorem p_cutStr (hI : Inv P B G s w) (hO : Opn P' env G ρ) {t : TypeId} (hu : P.underlying t = some .string) {a v : AV} {x : Value} (r : R G (.v a x)) {lo hi : Option Operand} {lo' hi' : Option AOpnd} (hl : opndO lo = some lo') (hh : opndO hi = some hi')
    (h : (match (generalizing := false) a with
      | .str s =>
        (match optNat P' env s.length hi', optNat P' env 0 lo' with
        | some h, some l => if l ≤ h && h ≤ s.length then some (AV.str ((s.take h).drop l)) else none
        | _, _ => none)
      | _ => none) = some v) : PRes P G w (Instr.sliceAt t x (lo.map ρ) (hi.map ρ) none) v := by
  cases r <;> simp only [reduceCtorEq] at h
  rename_i st hst
  split at h
  · rename_i n l h1 h2
    split at h
    · rename_i hc
      cases h
      simp at hc
      obtain ⟨hc1, hc2⟩ := hc
      have hc2' : n ≤ st.size := by simpa using hc2
      refine .of hI (x := .string (st.extract l n)) ?_ ?_
      · have e1 : (match hi.map ρ with | some v => Instr.sliceBound v st.size .sliceAlen | none => (pure st.size : Sem Nat)).run P w = .ok n w := by
          rcases opt_ok hO hh h1 with ⟨rfl, _, e⟩ | ⟨z, z', k, rfl, _, e⟩
          · simp at e; simp [e]
          · simp only [Option.map_some, e]; exact run_bound hc2' _
        have e2 : (match lo.map ρ with | some v => Instr.sliceBound v n .sliceB | none => (pure 0 : Sem Nat)).run P w = .ok l w := by
          rcases opt_ok hO hl h2 with ⟨rfl, _, e⟩ | ⟨z, z', k, rfl, _, e⟩
          · simp [e]
          · simp only [Option.map_some, e]; exact run_bound hc1 _
        have e3 : (Instr.sliceBounds false st.size st.size (lo.map ρ) (hi.map ρ) none).run P w = .ok (l, n, st.size) w := by
          unfold Instr.sliceBounds
          cases hi <;> cases lo <;> simp_all
        simp [Instr.sliceAt, Instr.slice, run_underlying hu, e3]
      · have : (st.data.toList.take n).drop l = (st.extract l n).data.toList := by
          simp [ByteArray.data_extract, List.take_drop, Array.toList_extract]
          try rw [Nat.add_sub_cancel' hc1]
        rw [this]
        exact .str _ (by rw [ByteArray.size_extract]; omega)
    · cases h
  · cases h


end
end Go.Fw
