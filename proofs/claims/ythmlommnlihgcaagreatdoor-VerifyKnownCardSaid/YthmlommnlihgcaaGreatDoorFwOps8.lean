/- The framework, part 5h: the operations that read the store. -/
import Derived.Test.YthmlommnlihgcaaGreatDoorFwOps7
namespace Go.Fw
open Go
section
variable {P : Program} {B : Bs} {G : Gh} {s : ASt} {w : World} {P' : AProg} {env : Env} {ρ : Operand → Value}

def kkOk (kk : KK) (d : TypeDesc) : Prop := match kk with | .int => ∃ k, d = .int k | .str => d = .string | .bool => d = .bool

theorem keyT_ok {t : TypeId} {kk : KK} (h : keyT P t = some kk) : ∃ d, P.underlying t = some d ∧ kkOk kk d := by
  unfold keyT at h
  split at h <;> first | cases h | (simp at h; subst h)
  · exact ⟨_, by assumption, rfl⟩
  · exact ⟨_, by assumption, ⟨_, rfl⟩⟩
  · exact ⟨_, by assumption, rfl⟩

theorem sameNow_ok {kk : KK} {d : TypeDesc} (hd : kkOk kk d) {k a : AV} {xk xa : Value} (rk : R G (.v k xk)) (ra : R G (.v a xa)) (hk : keyOf kk k = true) {r : Bool} (h : flat1 k a = some r) :
    Instr.sameNow d xk xa = some r ∧ (r = true → ∀ n, Instr.sameBits n xa xk = true) := by
  rcases flat1_ok h rk ra with ⟨j, n, m, rfl, rfl, rfl⟩ | ⟨p, q, rfl, rfl, rfl⟩ | ⟨p, q, rfl, rfl, rfl⟩
  · cases rk with
    | junk => simp [keyOf] at hk
    | int =>
      cases kk <;> simp [keyOf] at hk
      obtain ⟨k', rfl⟩ := hd
      refine ⟨by simp [Instr.sameNow], fun h n => ?_⟩
      simp at h; subst h
      cases n <;> simp [Instr.sameBits]
  · cases rk with
    | junk => simp [keyOf] at hk
    | bool =>
      cases kk <;> simp [keyOf] at hk
      cases hd
      refine ⟨by simp [Instr.sameNow], fun h n => ?_⟩
      simp at h; subst h
      cases n <;> simp [Instr.sameBits]
  · cases rk with
    | junk => simp [keyOf] at hk
    | str =>
      cases kk <;> simp [keyOf] at hk
      cases hd
      refine ⟨by simp [Instr.sameNow, bytes_beq], fun h n => ?_⟩
      have e : p = q := by
        have : p.data.toList = q.data.toList := by simpa using h
        cases p; cases q; simp at this; simpa using this
      subst e
      have : (p == p) = true := by rw [bytes_beq]; simp
      cases n <;> simp [Instr.sameBits, this]

theorem findA_ok {kk : KK} {d : TypeDesc} (hd : kkOk kk d) {k : AV} {xk : Value} (rk : R G (.v k xk)) (hk : keyOf kk k = true) {es : List (AV × AV)} {ents : List MapEntry} (hm : MapOk G es ents) :
    ∀ {r}, findA k es = some r → ∀ i, (r = none ∧ Instr.findNow d xk ents i = some none) ∨ (∃ v j x, r = some v ∧ Instr.findNow d xk ents i = some (some (j, x)) ∧ R G (.v v x)) := by
  induction hm with
  | nil => intro r h i; simp [findA] at h; exact .inl ⟨h.symm, rfl⟩
  | cons hk' hv _ ih =>
    intro r h i
    simp only [findA] at h
    split at h
    · rename_i hf
      cases h
      obtain ⟨e1, _⟩ := sameNow_ok hd rk hk' hk hf
      exact .inr ⟨_, i, _, rfl, by simp only [Instr.findNow, e1], hv⟩
    · rename_i hf
      obtain ⟨e1, _⟩ := sameNow_ok hd rk hk' hk hf
      rcases ih h (i + 1) with ⟨h1, h2⟩ | ⟨v, j, x, h1, h2, h3⟩
      · exact .inl ⟨h1, by simp only [Instr.findNow, e1]; exact h2⟩
      · exact .inr ⟨v, j, x, h1, by simp only [Instr.findNow, e1]; exact h2, h3⟩
    · cases h

theorem run_checkKey {kk : KK} {t : TypeId} {d : TypeDesc} (hu : P.underlying t = some d) (hd : kkOk kk d) (b : Bool) (x : Value) : (Instr.checkKey b 10000 t x).run P w = .ok () w := by
  show (Instr.checkKey b (9999 + 1) t x).run P w = .ok () w
  unfold Instr.checkKey
  simp only [Sem.run_bind, run_underlying hu, Result.andThen_ok]
  cases kk with
  | int => obtain ⟨k, rfl⟩ := hd; rfl
  | str => cases hd; rfl
  | bool => cases hd; rfl

theorem R.map_inv {a : AV} {x : Value} (r : R G (.v a x)) {l : Nat} (h : a = .map l) : ∃ b, x = .map (some b) ∧ G.L l = some b := by
  cases r <;> cases h
  exact ⟨_, rfl, by assumption⟩

theorem run_getObj' {b : Nat} {o : Obj} (h : w.heap[b]? = some o) (hn : ∀ c e f, o ≠ .cells c e f) : (getObj b).run P w = .ok o w := by
  cases o <;> first | (simp [getObj, Sem.run, h]; done) | exact absurd rfl (hn _ _ _)

theorem Inv.at (hI : Inv P B G s w) {l b : Nat} (hl : G.L l = some b) {k : ABlk} (hk : s.blks[l]? = some k) : ∃ o, w.heap[b]? = some o ∧ ObjOk P G b o k := by
  have hlt := (hI.l _ _ hl).2.1
  exact ⟨w.heap[b], by simp [hlt], hI.blk l b _ k hl (by simp [hlt]) hk⟩

theorem partOf_len {sz : Nat} {cs : List AV} {off : Nat} {v : AV} (h : partOf true sz cs off = some v) : off + sz ≤ cs.length ∧ v = .agg ((cs.drop off).take sz) := by
  unfold partOf at h
  simp only at h
  split at h
  · cases h; exact ⟨by assumption, rfl⟩
  · cases h

theorem load_ok (hI : Inv P B G s w) {t : TypeId} {ag : Bool} (hag : aggT P t = some ag) {a v : AV} {x : Value} (r : R G (.v a x))
    (h : (match (generalizing := false) a with
    | .cptr v off => (match (generalizing := false) ag with
      | true => (match off with
        | 0 => if (cellsOf v).length = P.cellsOf t then some (AV.agg (cellsOf v)) else partOf true (P.cellsOf t) (cellsOf v) 0
        | off => partOf true (P.cellsOf t) (cellsOf v) off)
      | false => (cellsOf v)[off]?)
    | .ptr l off =>
      (match s.blks[l]? with
      | some (.cells cs _) => (match (generalizing := false) ag with
        | true => (match partOf true (P.cellsOf t) cs off with | some v => fixP v | none => none)
        | false => cs[off]?)
      | _ => none)
    | _ => none) = some v) : PRes P G w (Instr.loadAt t x) v := by
  obtain ⟨d, hd⟩ := under_of_agg hag
  -- a row of known cells
  have key : ∀ (b o : Nat) (cs : List AV) (vs : List Value), R G (.k cs vs) → cs.length = P.cellsOf t → ag = true → (∀ j y, vs[j]? = some y → w.cell? ⟨b, o + j, none⟩ = some y) →
      (Instr.loadAt t (.pointer (some ⟨b, o, none⟩))).run P w = .ok (.agg vs.toArray) w := by
    intro b o cs vs hk hl ha hc
    subst ha
    have := run_loadCells_list (P := P) w ⟨b, o, none⟩ vs (fun j y hy => by rw [add_plain']; exact hc j y hy)
    have hlen : vs.length = P.cellsOf t := by rw [← hk.k_length]; exact hl
    rw [hlen] at this
    simp [Instr.loadAt, Instr.sureAddr, loadVar, run_isAgg hag, run_sizeOf_u hd, this]
  have key1 : ∀ (b o : Nat) (y : Value), ag = false → w.cell? ⟨b, o, none⟩ = some y → (Instr.loadAt t (.pointer (some ⟨b, o, none⟩))).run P w = .ok y w := by
    intro b o y ha hc
    subst ha
    simp [Instr.loadAt, Instr.sureAddr, loadVar, run_isAgg hag, run_load, hc]
  have hpart : ∀ (b o off : Nat) (cs : List AV) (vs : List Value) (v : AV), R G (.k cs vs) → partOf true (P.cellsOf t) cs off = some v → ag = true → (∀ j y, vs[j]? = some y → w.cell? ⟨b, o + j, none⟩ = some y) →
      ∃ us : List Value, (Instr.loadAt t (.pointer (some ⟨b, o + off, none⟩))).run P w = .ok (.agg us.toArray) w ∧ R G (.v v (.agg us.toArray)) := by
    intro b o off cs vs v hk hp ha hc
    obtain ⟨h1, rfl⟩ := partOf_len hp
    have hk2 := (hk.k_drop off).k_take (P.cellsOf t)
    refine ⟨(vs.drop off).take (P.cellsOf t), key b (o + off) _ _ hk2 (by rw [List.length_take, List.length_drop]; omega) ha ?_, .agg hk2⟩
    intro j y hy
    rw [List.getElem?_take] at hy
    split at hy
    · rw [List.getElem?_drop] at hy
      have := hc _ _ hy
      rwa [← Nat.add_assoc] at this
    · cases hy
  cases r with
  | cptr off hc hM =>
    rename_i v0 vs b o
    have hcell : ∀ j y, vs[j]? = some y → w.cell? ⟨b, o + j, none⟩ = some y := fun j y hy => hI.m _ _ _ (hM j y hy)
    simp only at h
    cases ag with
    | true =>
      simp only at h
      split at h
      · split at h
        · rename_i hl
          cases h
          exact .of hI (key b o _ vs hc.c_k hl rfl hcell) (.agg hc.c_k)
        · obtain ⟨us, h1, h2⟩ := hpart b o 0 _ vs v hc.c_k h rfl hcell
          exact .of hI h1 h2
      · obtain ⟨us, h1, h2⟩ := hpart b o off _ vs v hc.c_k h rfl hcell
        exact .of hI h1 h2
    | false =>
      simp only at h
      obtain ⟨y, h1, h2, _⟩ := hc.c_k.k_get h
      exact .of hI (key1 b (o + off) y rfl (hcell off y h1)) h2
  | ptr off hL =>
    rename_i l b
    simp only at h
    split at h
    · rename_i cs wr hb
      obtain ⟨o, ho, hok⟩ := hI.at hL hb
      obtain ⟨vs, e, rfl, hk, _, _⟩ := hok
      have hcell : ∀ j y, vs[j]? = some y → w.cell? ⟨b, 0 + j, none⟩ = some y := fun j y hy => by rw [Nat.zero_add, cell_of ho]; exact hy
      cases ag with
      | true =>
        simp only at h
        split at h
        · rename_i v1 hv1
          obtain ⟨us, h1, h2⟩ := hpart b 0 off _ vs v1 hk hv1 rfl hcell
          rw [Nat.zero_add] at h1
          exact .of hI h1 (fixP_ok h h2).1
        · cases h
      | false =>
        simp only at h
        obtain ⟨y, h1, h2, _⟩ := hk.k_get h
        exact .of hI (key1 b off y rfl (by have := hcell off y h1; rwa [Nat.zero_add] at this)) h2
    · cases h
  | _ => simp at h

theorem lookup_ok (hI : Inv P B G s w) {t kt et : TypeId} (hu : P.underlying t = some (.map kt et)) {kk : KK} (hkt : keyT P kt = some kk) {z : AV} (hz : zeroV P et = some z) {ok : Bool} {m k v : AV} {xm xk : Value} (rm : R G (.v m xm)) (rk : R G (.v k xk))
    (h : (match (generalizing := false) m with
    | .map l =>
      (match s.blks[l]? with
      | some (.map es) =>
        if keyOf kk k then
          (match findA k es with
          | some (some v) => some (match ok with | true => AV.tuple [v, .bool true] | false => v)
          | some none => some (match ok with | true => .tuple [z, .bool false] | false => z)
          | none => none)
        else none
      | _ => none)
    | .nilmap => some (match ok with | true => .tuple [z, .bool false] | false => z)
    | _ => none) = some v) : PRes P G w (Instr.lookup t xm xk ok) v := by
  obtain ⟨d, hd, hkk⟩ := keyT_ok hkt
  obtain ⟨i, zv, hi, hzv, rz⟩ := zeroV_ok (G := G) hz
  have two : ∀ {p q : AV} {xp xq : Value}, R G (.v p xp) → R G (.v q xq) → R G (.v (.tuple [p, q]) (.tuple #[xp, xq])) := fun h1 h2 => by simpa using R.tuple (.lcons h1 (.lcons h2 .lnil))
  cases rm with
  | nilmap =>
    simp only at h
    cases h
    have hc := fun b => run_checkKey (w := w) hd hkk b xk
    cases ok with
    | true => exact .of hI (x := .tuple #[zv, .bool false]) (by simp [Instr.lookup, run_underlying hu, hc, Instr.findKey, run_underlying hd, Instr.findNow, run_zeroValue' hi hzv]) (two rz (.bool _))
    | false => exact .of hI (x := zv) (by simp [Instr.lookup, run_underlying hu, hc, Instr.findKey, run_underlying hd, Instr.findNow, run_zeroValue' hi hzv]) rz
  | map hL =>
    rename_i l b
    simp only at h
    split at h
    · rename_i es hb
      obtain ⟨o, ho, hok⟩ := hI.at hL hb
      obtain ⟨ents, clock, rfl, hm⟩ := hok
      split at h
      · rename_i hkey
        have hc := fun b => run_checkKey (w := w) hd hkk b xk
        cases hf : findA k es with
        | none => rw [hf] at h; cases h
        | some r =>
          rw [hf] at h
          rcases findA_ok hkk rk hkey hm hf 0 with ⟨rfl, h2⟩ | ⟨v1, j, x, rfl, h2, h3⟩
          · cases h
            cases ok with
            | true => exact .of hI (x := .tuple #[zv, .bool false]) (by simp [Instr.lookup, run_underlying hu, run_getObj' ho (by simp), hc, Instr.findKey, run_underlying hd, h2, run_zeroValue' hi hzv]) (two rz (.bool _))
            | false => exact .of hI (x := zv) (by simp [Instr.lookup, run_underlying hu, run_getObj' ho (by simp), hc, Instr.findKey, run_underlying hd, h2, run_zeroValue' hi hzv]) rz
          · cases h
            cases ok with
            | true => exact .of hI (x := .tuple #[x, .bool true]) (by simp [Instr.lookup, run_underlying hu, run_getObj' ho (by simp), hc, Instr.findKey, run_underlying hd, h2]) (two h3 (.bool _))
            | false => exact .of hI (x := x) (by simp [Instr.lookup, run_underlying hu, run_getObj' ho (by simp), hc, Instr.findKey, run_underlying hd, h2]) h3
      · cases h
    · cases h
  | _ => simp at h

end
end Go.Fw
