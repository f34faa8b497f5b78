/- The framework, part 13: a law's row, out of what the interpreter answers at all typed arguments. -/
import Derived.Test.YthmlommnlihgcaaGreatDoorFwLaw
import Derived.WideShapes
import Derived.Carry
import Derived.RowKit
namespace Go.Fw
open Go Go.WideShapes

/-- Arguments of these types. -/
inductive Typed (P : Program) : List TypeId → List AV → Prop
  | nil : Typed P [] []
  | cons {t : TypeId} {ts : List TypeId} {cs : List AV} {avs : List AV} (h : TyC P t cs) (k : Typed P ts avs) : Typed P (t :: ts) (mkV P t cs :: avs)

/-- What the laid variables hold. -/
def laidGl (P : Program) : List (String × DataW Unit) → Option (List (Nat × AV))
  | [] => some []
  | (n, d) :: r =>
    match P.globalNamed n, laidGl P r with
    | some g, some gs =>
      match (P.globals[g]?).map (·.type) with
      | some t => match cellsD P t d with | some cs => some ((g, mkV P t cs) :: gs) | none => none
      | none => none
    | _, _ => none
def laidTys (P : Program) (ts : List TypeId) : List (String × DataW Unit) → Bool
  | [] => true
  | (n, _) :: r => (match P.globalNamed n with | some g => (match (P.globals[g]?).map (·.type) with | some t => ts.contains t | none => false) | none => false) && laidTys P ts r

section
variable {P : Program} {P' : AProg} {H : Type} {enc : TypeId × Value → H} {W : World} {ts : List TypeId}

theorem val_ok (hts : ts.all (tyOk P ts) = true) {t : TypeId} (ht : t ∈ ts) {base : Nat} {v : Value} (hval : Value.okWide P W .any base t v) {d : DataW H} {ps : List MemPlace} {sp : Nat → Bool} {held : Bool}
    (h : DataW.Trod enc P W 0 sp held t v d ps) : ∃ as, TyC P t as ∧ R (G0 W) (.v (mkV P t as) v) := by
  obtain ⟨fuel, hf⟩ := h
  obtain ⟨as, _, h2, h3⟩ := read_ok hts fuel ht hf
  refine ⟨as, h2, ?_⟩
  have one : v.oneCell' = true → aggT P t = some false → R (G0 W) (.v (mkV P t as) v) := fun hv ha => by
    obtain ⟨a, rfl, _⟩ := h2.lone ha
    unfold mkV
    rw [ha]
    rw [cells_one hv] at h3
    cases h3 with
    | kcons r1 _ _ => exact r1
  have agg : ∀ cs, v = .agg cs → aggT P t = some true → R (G0 W) (.v (mkV P t as) v) := fun cs hv ha => by
    subst hv
    unfold mkV
    rw [ha]
    have : R (G0 W) (.k as cs.toList) := h3
    simpa using R.agg this
  have hok := List.all_eq_true.1 hts t ht
  unfold tyOk at hok
  cases hu : P.underlying t with
  | none => rw [hu] at hok; cases hok
  | some u =>
    rw [hu] at hok
    cases u with
    | bool => obtain ⟨b, rfl⟩ := okWide_bool hu hval; exact one rfl (by rw [aggT, hu])
    | int k => obtain ⟨b, rfl⟩ := okWide_int hu hval; exact one rfl (by rw [aggT, hu])
    | string => obtain ⟨b, rfl⟩ := okWide_string hu hval; exact one rfl (by rw [aggT, hu])
    | pointer e => obtain ⟨b, rfl⟩ := okWide_pointer hu hval; exact one rfl (by rw [aggT, hu])
    | slice e => obtain ⟨a, l, c, rfl⟩ := okWide_slice hu hval; exact one rfl (by rw [aggT, hu])
    | struct fs =>
      have h0 := hval
      unfold Value.okWide at h0
      rw [hu] at h0
      obtain ⟨cs, hv, _⟩ := h0
      exact agg cs hv (by rw [aggT, hu])
    | array n e =>
      have h0 := hval
      unfold Value.okWide at h0
      rw [hu] at h0
      obtain ⟨cs, hv, _⟩ := h0
      exact agg cs hv (by rw [aggT, hu])
    | _ => cases hok

theorem vals_ok (hts : ts.all (tyOk P ts) = true) {base : Nat} {sp : Nat → Bool} {held : Bool} : ∀ {us : List TypeId} {vs : List Value} {ds : List (DataW H)} {ps : List MemPlace}, (us.all ts.contains) = true →
    (∀ (j : Nat) (t : TypeId) (v : Value), us[j]? = some t → vs[j]? = some v → Value.okWide P W .any base t v) → DataW.TrodAll enc P W 0 sp held us vs ds ps → ∃ avs, Typed P us avs ∧ R (G0 W) (.l avs vs) ∧ ds.length = us.length
  | [], [], [], ps, _, _, _ => ⟨[], .nil, .lnil, rfl⟩
  | t :: us, v :: vs, d :: ds, ps, hc, hv, h => by
    obtain ⟨p, q, h1, h2, _⟩ := h
    simp only [List.all_cons, Bool.and_eq_true] at hc
    obtain ⟨as, k1, k2⟩ := val_ok hts (contains_of hc.1) (hv 0 t v rfl rfl) h1
    obtain ⟨avs, k3, k4, k5⟩ := vals_ok hts hc.2 (fun j t v ht hv' => hv (j + 1) t v (by simpa using ht) (by simpa using hv')) h2
    exact ⟨_, .cons k1 k3, .lcons k2 k4, by simp [k5]⟩
  | [], [], _ :: _, _, _, _, h => h.elim
  | [], _ :: _, _, _, _, _, h => h.elim
  | _ :: _, [], _, _, _, _, h => h.elim
  | _ :: _, _ :: _, [], _, _, _, h => h.elim

theorem trod_lt {t : TypeId} {v : Value} {d : DataW H} {ps : List MemPlace} {sp : Nat → Bool} {held : Bool} (h : DataW.Trod enc P W 0 sp held t v d ps) : ∀ x ∈ ps, x.block < W.heap.size := by
  obtain ⟨m, hm⟩ := h; exact DataW.trod_lt m _ _ _ hm

theorem trodAll_stays (hl : laidOutB P = true) {W' : World} (hb : RowKit.Below W.heap.size W W') : ∀ {us : List TypeId} {vs : List Value} {ds : List (DataW H)} {ps : List MemPlace}, (us.all fun t => P.readableRec t && decide (t < P.types.size)) = true →
    DataW.TrodAll enc P W 0 (fun _ => true) true us vs ds ps → DataW.TrodAll enc P W' 0 (fun b => decide (b < W.heap.size)) true us vs ds ps
  | [], [], [], _, _, h => h
  | t :: us, v :: vs, d :: ds, ps, hc, h => by
    obtain ⟨p, q, h1, h2, h3⟩ := h
    simp only [List.all_cons, Bool.and_eq_true, decide_eq_true_eq] at hc
    exact ⟨p, q, RowKit.Below.trod hl hc.1.1 hc.1.2 h1 hb (trod_lt h1), trodAll_stays hl hb (by simpa using hc.2) h2, h3⟩
  | [], [], _ :: _, _, _, h => h.elim
  | [], _ :: _, _, _, _, h => h.elim
  | _ :: _, [], _, _, _, h => h.elim
  | _ :: _, _ :: _, [], _, _, h => h.elim

/-- THE CONTRACT OF A LAW. -/
theorem law_contract (hP : POk P P') (hp : PrimOk P P') {f : Nat} {fn : Func} {af : AF} (haf : P'.fn f = some af) (hts : ts.all (tyOk P ts) = true) (hpar : (fn.params.toList.all ts.contains) = true) (hl : laidOutB P = true)
    (hrd : (fn.params.toList.all fun t => P.readableRec t && decide (t < P.types.size)) = true) {tb : TypeId} (hres : fn.resultTypes = #[tb]) (hb : P.underlying tb = some .bool) {s : ChangeSpec} (hvars : s.vars = [])
    (hspec : ∀ ds : List (DataW H), ds.length = fn.params.toList.length → s.fn H (ds ++ []) = { results := [.lit (.bool true)], args := ds })
    (law : ∀ avs, Typed P fn.params.toList avs → ∃ n s', (callN P' n).call (.func f) avs emptyS = some (.ret (.bool true), s')) {apart : Bool} {base : Nat} {args : Array Value} {ds gs : List (DataW H)} {before : List MemPlace}
    (hval : ∀ (j : Nat) (t : TypeId) (v : Value), fn.params[j]? = some t → args[j]? = some v → Value.okWide P W .any base t v) (hW : DataW.Whole enc P fn.params.toList s.vars apart W args.toList ds gs before) (hg : GlobOk P' (G0 W)) :
    Calls P f args W fun e W' => ∃ v, e = .returned v ∧ s.post enc P fn apart true false false W args v W' := by
  have hW' := hW
  obtain ⟨p, q, hA, hV, rfl, hfz, hnd⟩ := hW
  rw [hvars] at hV
  obtain ⟨rfl, rfl⟩ : gs = [] ∧ q = [] := by
    cases gs with
    | nil => exact ⟨rfl, hV⟩
    | cons g r => exact absurd hV (by intro h; cases h)
  obtain ⟨avs, h1, h2, h3⟩ := vals_ok (base := base) hts hpar (fun j t v ht hv => hval j t v (by simpa using ht) (by simpa using hv)) hA
  obtain ⟨n, s', hcall⟩ := law avs h1
  have hc := calls_of hP hp haf hcall W h2 hg
  rw [Array.toArray_toList] at hc
  refine hc.mono fun e W' hq => ?_
  obtain ⟨x, G', rfl, hx, hbel⟩ := hq
  cases hx
  refine ⟨_, rfl, ds, [], p ++ [], [], p, [], hW', ?_, ?_, ?_, hbel.frame _, fun h => by cases h⟩
  · rw [hspec ds h3, hres]
    refine ⟨[], [], ?_, rfl, rfl⟩
    exact ⟨1, by simp [DataW.trod, Value.cells, hb]⟩
  · rw [hspec ds h3]
    exact trodAll_stays hl hbel hrd hA
  · rw [hspec ds h3, hvars]
    rfl

/-- The laid variables. -/
theorem laid_ok (hts : ts.all (tyOk P ts) = true) : ∀ {l : List (String × DataW Unit)} {ps : List MemPlace} {gl : List (Nat × AV)}, laidTys P ts l = true → laidGl P l = some gl → DataW.LaidVars P W l ps → ∀ g, R (G0 W) (.v (.cptr (glGet gl g) 0) (.pointer (some ⟨g, 0, none⟩)))
  | [], ps, gl, _, hg, _, g => by
    simp only [laidGl, Option.some.injEq] at hg
    subst hg
    have := R.cptr (G := G0 W) (v := .agg []) (vs := []) (b := g) (o := 0) 0 (.cagg .knil) (fun j x hx => by simp at hx)
    simpa [glGet] using this
  | (n, d) :: r, ps, gl, ht, hg, h, g => by
    obtain ⟨g0, t, cs, fuel, p, q, h1, h2, h3, h4, h5, _⟩ := h
    simp only [laidTys, Bool.and_eq_true, h1, h2] at ht
    simp only [laidGl, h1] at hg
    split at hg
    · rename_i gg gs hgg hgs
      cases hgg
      obtain ⟨as, k1, k2, k3⟩ := read_ok hts fuel (contains_of ht.1) h4
      have k1' : cellsD P t d = some as := k1
      rw [h2] at hg
      simp only [k1', Option.some.injEq] at hg
      subst hg
      simp only [glGet]
      cases hb : Nat.beq g g0 with
      | false => exact laid_ok hts ht.2 hgs h5 g
      | true =>
        have := Nat.eq_of_beq_eq_true hb
        subst this
        have hcell : ∀ j x, cs.toList[j]? = some x → (G0 W).M g (0 + j) = some x := fun j x hx => by
          unfold World.var? at h3
          rw [h1] at h3
          simp only [Option.bind_some] at h3
          split at h3
          · rename_i cs' _ _ hh
            cases h3
            simp only [G0, World.cell?, hh, Nat.zero_add]
            simpa using hx
          · cases h3
        have := R.cptr (G := G0 W) (b := g) (o := 0) 0 (k2.c k3) hcell
        simpa using this
    · cases hg

theorem glob_none {t : Tab} : GlobOk (progOf t []) (G0 W) := fun g => by
  have := R.cptr (G := G0 W) (v := .agg []) (vs := []) (b := g) (o := 0) 0 (.cagg .knil) (fun j x hx => by simp at hx)
  simpa [progOf, glGet] using this

end
end Go.Fw
