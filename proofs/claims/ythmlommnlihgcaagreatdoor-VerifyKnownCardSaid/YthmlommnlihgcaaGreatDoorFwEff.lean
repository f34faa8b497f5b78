/- The framework, part 6c: what an operation does, and that operations that do not clash may be exchanged. -/
import Derived.Test.YthmlommnlihgcaaGreatDoorFwInv
namespace Go.Fw
open Go

/-- What an operation does to the frame. -/
structure Eff where
  t : Option Nat
  v : AV
  add : Option Nat := none
  need : Option (Nat × Nat) := none

def pdOf (E : Eff) (pd : List (Nat × Nat)) : List (Nat × Nat) :=
  match E.add, E.t with
  | some n, some d => (d, n) :: dropPend E.t pd
  | _, _ => dropPend E.t pd
def okPd (E : Eff) (pd : List (Nat × Nat)) : Bool := match E.need with | none => true | some (d, sz) => pd.any fun p => Nat.beq p.1 d && Nat.beq p.2 sz

theorem pdOf_plain {pd : List (Nat × Nat)} {t : Option Nat} {v : AV} {n : Option (Nat × Nat)} : pdOf ⟨t, v, none, n⟩ pd = dropPend t pd := by cases t <;> rfl

/-- An operation that is neither a call that sees the store nor a panic. -/
def eff (H : Handler) (P : AProg) (i : AI) (e : Env) (ds : List ADef) (s : ASt) : Option (Eff × List ADef × ASt) :=
  match wanted e i.gd with
  | none => none
  | some false => match skipD P e i.op with | true => some (⟨i.d, undefA, none, none⟩, ds, s) | false => none
  | some true =>
    match i.op with
    | .pend z => match i.d with | some d => some (⟨some d, .junk, some z.length, none⟩, ds, s) | none => none
    | .shut d sz x =>
      match i.d, fixP (evO P e x) with
      | none, some v => if (cellsOf v).length = sz then some (⟨some d, .cptr v 0, none, some (d, sz)⟩, ds, s) else none
      | _, _ => none
    | .defer f args =>
      match evO P e f, fixPs (args.map (evO P e)) with
      | .func g a b, some vs => some (⟨i.d, undefA, none, none⟩, .call g (a ++ vs ++ b) :: ds, s)
      | _, _ => none
    | .panic _ => none
    | .callP st f args =>
      match evO P e f, fixPs (args.map (evO P e)) with
      | .func g a b, some vs =>
        match (!st && isE s) || pureL (a ++ vs ++ b), H.call (.func g) (a ++ vs ++ b) emptyS with
        | true, some (.ret v, s2) =>
          match fixR v with
          | some v => match isE s2 || pureV v with | true => some (⟨i.d, v, none, none⟩, ds, s) | false => none
          | none => none
        | _, _ => none
      | _, _ => none
    | .call _ _ => none
    | op =>
      match aopP P e op with
      | some v => some (⟨i.d, v, none, none⟩, ds, s)
      | none =>
        match aopR P e s op with
        | some v => some (⟨i.d, v, none, none⟩, ds, s)
        | none =>
          match aopW P e s op with
          | some (v, s1) => some (⟨i.d, v, none, none⟩, ds, s1)
          | none => none

section
variable {H : Handler} {P : AProg} {i : AI} {e e' : Env} {ds : List ADef} {s : ASt}

theorem evOps_eff {rest : List AI} {pd : List (Nat × Nat)} (hc : opCls i.op ≠ 3) :
    evOps H P (i :: rest) pd ⟨e, ds⟩ s =
      match eff H P i e ds s with
      | some (E, ds', s') => match okPd E pd with | true => evOps H P rest (pdOf E pd) ⟨updO e E.t E.v, ds'⟩ s' | false => none
      | none => none := by
  obtain ⟨d, op, gd, pre⟩ := i
  simp only [evOps, eff]
  cases hw : wanted e gd with
  | none => rfl
  | some b =>
    cases b with
    | false => cases hk : skipD P e op <;> rfl
    | true =>
      cases op with
      | call f args => simp [opCls] at hc
      | panic x => simp [opCls] at hc
      | pend z => cases d <;> rfl
      | shut d' sz x =>
        simp only
        cases d with
        | some d => cases fixP (evO P e x) <;> rfl
        | none =>
          cases fixP (evO P e x) with
          | none => rfl
          | some v =>
            by_cases h1 : (cellsOf v).length = sz
            · simp only [h1, decide_true, Bool.true_and, if_true, okPd]
              cases pd.any fun p => Nat.beq p.1 d' && Nat.beq p.2 sz <;> rfl
            · simp [h1]
      | defer f args =>
        simp only
        split <;> first | rfl | simp_all [pdOf, okPd]
      | callP st f args =>
        simp only
        generalize evO P e f = fv
        cases fv with
        | func g a b =>
          cases fixPs (args.map (evO P e)) with
          | none => rfl
          | some vs =>
            simp only
            cases ((!st && isE s) || pureL (a ++ vs ++ b)) with
            | false => rfl
            | true =>
              cases H.call (.func g) (a ++ vs ++ b) emptyS with
              | none => rfl
              | some rs =>
                obtain ⟨r, s2⟩ := rs
                cases r with
                | panic v => rfl
                | ret v =>
                  simp only
                  cases fixR v with
                  | none => rfl
                  | some v => simp only; cases (isE s2 || pureV v) <;> rfl
        | _ => rfl
      | _ =>
        simp only
        split
        · rename_i h; simp only [h, okPd, pdOf_plain]
        · rename_i h
          split
          · rename_i h2; simp only [h, h2, okPd, pdOf_plain]
          · rename_i h2
            split <;> (rename_i h3; simp only [h, h2, h3, okPd, pdOf_plain])

/-! ### It looks at what it names alone -/
theorem evO_congr {x : AOpnd} (h : ∀ t ∈ opTmps x, e t = e' t) : evO P e x = evO P e' x := by
  cases x <;> simp [evO]
  exact h _ (by simp [opTmps])

theorem map_congr_tmps {xs : List AOpnd} (h : ∀ t ∈ xs.flatMap opTmps, e t = e' t) : xs.map (evO P e) = xs.map (evO P e') :=
  List.map_congr_left fun x hx => evO_congr fun t ht => h t (List.mem_flatMap.2 ⟨x, hx, ht⟩)

theorem optNat_congr {d : Nat} {x : Option AOpnd} (h : ∀ t ∈ optTmps x, e t = e' t) : optNat P e d x = optNat P e' d x := by
  cases x with
  | none => rfl
  | some x => simp only [optNat]; rw [evO_congr h]

theorem aopP_congr {op : AOp} (h : ∀ t ∈ readsOf op, e t = e' t) : aopP P e op = aopP P e' op := by
  cases op with
  | un u x => cases u <;> simp only [aopP] <;> simp only [readsOf] at h <;> rw [evO_congr h]
  | minmax m xs =>
    rcases xs with _ | ⟨x, _ | ⟨y, _ | ⟨z, zs⟩⟩⟩ <;> simp only [aopP]
    simp only [readsOf, List.flatMap_cons, List.flatMap_nil, List.append_nil, List.mem_append] at h
    rw [evO_congr fun t ht => h t (.inl ht), evO_congr fun t ht => h t (.inr ht)]
  | pick c a b =>
    simp only [readsOf, List.mem_append] at h
    simp only [aopP]
    rw [evO_congr fun t ht => h t (.inl (.inl ht)), evO_congr fun t ht => h t (.inl (.inr ht)), evO_congr fun t ht => h t (.inr ht)]
  | build z ps =>
    simp only [aopP]
    rw [List.map_congr_left (g := fun p => (p.1, p.2.1, evO P e' p.2.2)) fun p hp => by
      rw [evO_congr fun t ht => h t (by simp only [readsOf]; exact List.mem_flatMap.2 ⟨p, hp, ht⟩)]]
  | bslice a b c ps =>
    simp only [aopP]
    rw [List.map_congr_left (g := fun p => evO P e' p.2) fun p hp => by
      rw [evO_congr fun t ht => h t (by simp only [readsOf]; exact List.mem_flatMap.2 ⟨p, hp, ht⟩)]]
  | bsliceF a b c ps =>
    simp only [aopP]
    rw [List.map_congr_left (g := fun p => evO P e' p.2) fun p hp => by
      rw [evO_congr fun t ht => h t (by simp only [readsOf]; exact List.mem_flatMap.2 ⟨p, hp, ht⟩)]]
  | mkFunc f a b =>
    simp only [readsOf, List.mem_append] at h
    simp only [aopP]
    rw [map_congr_tmps fun t ht => h t (.inl ht), map_congr_tmps fun t ht => h t (.inr ht)]
  | cutS z x lo hi mx =>
    simp only [readsOf, List.mem_append] at h
    simp only [aopP]
    rw [evO_congr fun t ht => h t (.inl (.inl (.inl ht)))]
    simp only [optNat_congr (P := P) fun t ht => h t (.inl (.inl (.inr ht))), optNat_congr (P := P) fun t ht => h t (.inl (.inr ht)), optNat_congr (P := P) fun t ht => h t (.inr ht)]
  | cutStr x lo hi =>
    simp only [readsOf, List.mem_append] at h
    simp only [aopP]
    rw [evO_congr fun t ht => h t (.inl (.inl ht))]
    simp only [optNat_congr (P := P) fun t ht => h t (.inl (.inr ht)), optNat_congr (P := P) fun t ht => h t (.inr ht)]
  | cutA n z x lo hi =>
    simp only [readsOf, List.mem_append] at h
    simp only [aopP]
    rw [evO_congr fun t ht => h t (.inl (.inl ht))]
    simp only [optNat_congr (P := P) fun t ht => h t (.inl (.inr ht)), optNat_congr (P := P) fun t ht => h t (.inr ht)]
  | _ =>
    first
      | rfl
      | (simp only [aopP]; simp only [readsOf] at h; rw [evO_congr h]; done)
      | (simp only [aopP]; simp only [readsOf, List.mem_append] at h; rw [evO_congr fun t ht => h t (.inl ht), evO_congr fun t ht => h t (.inr ht)]; done)

theorem aopR_congr {op : AOp} (h : ∀ t ∈ readsOf op, e t = e' t) : aopR P e s op = aopR P e' s op := by
  cases op with
  | load a sz x => simp only [readsOf] at h; simp only [aopR]; rw [evO_congr h]
  | lookup ok kk z m k =>
    simp only [readsOf, List.mem_append] at h
    simp only [aopR]
    rw [evO_congr fun t ht => h t (.inl ht), evO_congr fun t ht => h t (.inr ht)]
  | _ => rfl

theorem aopW_congr {op : AOp} (h : ∀ t ∈ readsOf op, e t = e' t) : aopW P e s op = aopW P e' s op := by
  cases op with
  | mapSet kk m k v =>
    simp only [readsOf, List.mem_append] at h
    simp only [aopW]
    rw [evO_congr fun t ht => h t (.inl (.inl ht)), evO_congr fun t ht => h t (.inl (.inr ht)), evO_congr fun t ht => h t (.inr ht)]
  | _ =>
    first
      | rfl
      | (simp only [aopW]; simp only [readsOf] at h; rw [evO_congr h]; done)
      | (simp only [aopW]; simp only [readsOf, List.mem_append] at h; rw [evO_congr fun t ht => h t (.inl ht), evO_congr fun t ht => h t (.inr ht)]; done)

theorem wanted_congr {gd : Option (Nat × Bool)} (h : ∀ t b, gd = some (t, b) → e t = e' t) : wanted e gd = wanted e' gd := by
  cases gd with
  | none => rfl
  | some g => obtain ⟨t, b⟩ := g; simp only [wanted]; rw [h t b rfl]

theorem eff_congr (h : ∀ t ∈ namesOf i, e t = e' t) : eff H P i e ds s = eff H P i e' ds s := by
  obtain ⟨d, op, gd, pre⟩ := i
  have hw : wanted e gd = wanted e' gd := wanted_congr fun t b hg => h t (by subst hg; simp [namesOf])
  have hr : ∀ t ∈ readsOf op, e t = e' t := fun t ht => h t (by simp [namesOf, ht])
  have hsk : skipD P e op = skipD P e' op := by
    cases op with
    | call f args =>
      cases f with
      | t k => have h1 : evO P e (.t k) = evO P e' (.t k) := evO_congr fun t ht => hr t (by simp only [readsOf, List.mem_append]; exact .inl ht); simp only [skipD, h1]
      | _ => rfl
    | callP st f args =>
      cases f with
      | t k => have h1 : evO P e (.t k) = evO P e' (.t k) := evO_congr fun t ht => hr t (by simp only [readsOf, List.mem_append]; exact .inl ht); simp only [skipD, h1]
      | _ => rfl
    | _ => rfl
  simp only [eff, hw, hsk]
  cases op with
  | pend z => rfl
  | shut d' sz x =>
    have : evO P e x = evO P e' x := evO_congr fun t ht => hr t (by simp [readsOf, ht])
    simp only [this]
  | defer f args =>
    have h1 : evO P e f = evO P e' f := evO_congr fun t ht => hr t (by simp [readsOf, ht])
    have h2 : args.map (evO P e) = args.map (evO P e') := map_congr_tmps fun t ht => hr t (by simp only [readsOf, List.mem_append]; exact .inr ht)
    simp only [h1, h2]
  | callP st f args =>
    have h1 : evO P e f = evO P e' f := evO_congr fun t ht => hr t (by simp [readsOf, ht])
    have h2 : args.map (evO P e) = args.map (evO P e') := map_congr_tmps fun t ht => hr t (by simp only [readsOf, List.mem_append]; exact .inr ht)
    simp only [h1, h2]
  | panic x => rfl
  | call f args => rfl
  | _ => simp only [aopP_congr hr, aopR_congr hr, aopW_congr hr]

/-- What it writes. -/
theorem eff_t {E : Eff} {ds' : List ADef} {s' : ASt} (h : eff H P i e ds s = some (E, ds', s')) : ∀ t, E.t = some t → t ∈ writesOf i := by
  obtain ⟨d, op, gd, pre⟩ := i
  have hd : ∀ t, d = some t → t ∈ writesOf ⟨d, op, gd, pre⟩ := fun t ht => by subst ht; simp [writesOf]
  simp only [eff] at h
  split at h
  · cases h
  · split at h <;> cases h; exact hd
  · split at h
    · split at h <;> cases h; exact hd
    · rename_i d' sz x _
      split at h
      · split at h
        · cases h; intro t ht; cases ht; simp [writesOf]
        · cases h
      · cases h
    · split at h <;> cases h; exact hd
    · cases h
    · split at h
      · split at h
        · split at h
          · split at h <;> cases h; exact hd
          · cases h
        · cases h
      · cases h
    · cases h
    · split at h
      · cases h; exact hd
      · split at h
        · cases h; exact hd
        · split at h <;> cases h; exact hd

theorem eff_need {E : Eff} {ds' : List ADef} {s' : ASt} (h : eff H P i e ds s = some (E, ds', s')) : ∀ t n, E.need = some (t, n) → t ∈ writesOf i := by
  obtain ⟨d, op, gd, pre⟩ := i
  simp only [eff] at h
  split at h
  · cases h
  · split at h <;> cases h; intro t n hn; cases hn
  · split at h
    · split at h <;> cases h; intro t n hn; cases hn
    · rename_i d' sz x _
      split at h
      · split at h
        · cases h; intro t n ht; cases ht; simp [writesOf]
        · cases h
      · cases h
    · split at h <;> cases h; intro t n hn; cases hn
    · cases h
    · split at h
      · split at h
        · split at h
          · split at h <;> cases h; intro t n hn; cases hn
          · cases h
        · cases h
      · cases h
    · cases h
    · split at h
      · cases h; intro t n hn; cases hn
      · split at h
        · cases h; intro t n hn; cases hn
        · split at h <;> cases h; intro t n hn; cases hn

theorem aopW_cls {op : AOp} (h : opCls op ≠ 2) (h4 : opCls op ≠ 4) : aopW P e s op = none := by
  cases op with
  | append tk a b c d => cases tk <;> simp [opCls] at h h4
  | _ => first | rfl | (simp [opCls] at h)
theorem aopR_cls {op : AOp} (h : opCls op ≠ 1) : aopR P e s op = none := by cases op <;> first | rfl | (simp [opCls] at h)

/-- Classes 0 and 1 leave the store alone. -/
theorem eff_quiet {E : Eff} {ds' : List ADef} {s' : ASt} (hc : opCls i.op ≠ 2) (hc4 : opCls i.op ≠ 4) (h : eff H P i e ds s = some (E, ds', s')) : ds' = ds ∧ s' = s := by
  obtain ⟨d, op, gd, pre⟩ := i
  simp only at hc hc4
  simp only [eff] at h
  split at h
  · cases h
  · split at h <;> cases h; exact ⟨rfl, rfl⟩
  · split at h
    · split at h <;> cases h; exact ⟨rfl, rfl⟩
    · split at h
      · split at h
        · cases h; exact ⟨rfl, rfl⟩
        · cases h
      · cases h
    · simp [opCls] at hc
    · cases h
    · split at h
      · split at h
        · split at h
          · split at h <;> cases h; exact ⟨rfl, rfl⟩
          · cases h
        · cases h
      · cases h
    · cases h
    · split at h
      · cases h; exact ⟨rfl, rfl⟩
      · split at h
        · cases h; exact ⟨rfl, rfl⟩
        · rw [aopW_cls hc hc4] at h; cases h

/-- Class 0 sees no store. -/
theorem eff_blind {E : Eff} {ds0 : List ADef} {s0 : ASt} (hc : opCls i.op = 0) (h : eff H P i e ds s = some (E, ds, s)) : eff H P i e ds0 s0 = some (E, ds0, s0) := by
  obtain ⟨d, op, gd, pre⟩ := i
  simp only at hc
  have h2 : opCls op ≠ 2 := by rw [hc]; simp
  have h4 : opCls op ≠ 4 := by rw [hc]; simp
  have h1 : opCls op ≠ 1 := by rw [hc]; simp
  simp only [eff] at h ⊢
  split at h
  · cases h
  · split at h <;> cases h
    rfl
  · cases op with
    | pend z => simp only at h ⊢; split at h <;> cases h; rfl
    | shut d' sz x =>
      simp only at h ⊢
      split at h
      · split at h
        · rename_i hl; cases h; simp [hl]
        · cases h
      · cases h
    | defer f args => simp [opCls] at hc
    | panic x => simp [opCls] at hc
    | call f args => simp [opCls] at hc
    | callP st f args =>
      cases st with
      | false => simp [opCls] at hc
      | true =>
        simp only [Bool.not_true, Bool.false_and, Bool.false_or] at h ⊢
        split at h
        · split at h
          · split at h
            · split at h
              · cases h; simp [*]
              · cases h
            · cases h
          · cases h
        · cases h
    | _ =>
      first
        | (simp [opCls] at hc; done)
        | (simp only at h ⊢
           split at h
           · cases h; rfl
           · rw [aopR_cls h1, aopW_cls h2 h4] at h; cases h)

/-- Class 1 reads the places alone. -/
theorem eff_rd {E : Eff} {ds0 : List ADef} {s0 : ASt} (hc : opCls i.op = 1) (hb : s0.blks = s.blks) (h : eff H P i e ds s = some (E, ds, s)) : eff H P i e ds0 s0 = some (E, ds0, s0) := by
  obtain ⟨d, op, gd, pre⟩ := i
  simp only at hc
  simp only [eff] at h ⊢
  split at h
  · cases h
  · split at h <;> cases h
    rfl
  · cases op with
    | load ag sz x =>
      simp only [aopP, aopR, aopW, hb] at h ⊢
      split at h
      · rename_i h1; cases h; rfl
      · cases h
    | lookup ok kk z m k =>
      simp only [aopP, aopR, aopW, hb] at h ⊢
      split at h
      · rename_i h1; cases h; rfl
      · cases h
    | append tk a b c d => cases tk <;> simp [opCls] at hc
    | callP st f args => cases st <;> simp [opCls] at hc
    | _ => simp [opCls] at hc

/-- Class 4 leaves the places alone. -/
theorem aopW_tok {esz bytes : Nat} {a x : AOpnd} {v : AV} {s1 : ASt} (h : aopW P e s (.append true esz bytes a x) = some (v, s1)) : s1.blks = s.blks := by
  simp only [aopW] at h
  split at h
  · cases h
  rename_i hsl
  simp only [Bool.not_true, Bool.false_or, Bool.and_eq_true] at hsl
  split at h
  · split at h
    · cases h; rfl
    · cases h; rfl
    · cases h
  · split at h
    · split at h
      · split at h
        · cases h; rfl
        · cases h; rfl
        · split at h
          · split at h
            · cases h; rfl
            · cases h
          · cases h
        · cases h
      · cases h
    · rename_i ha
      rw [ha] at hsl
      simp [isSl] at hsl
    · cases h
  · cases h

theorem eff_tok {E : Eff} {ds' : List ADef} {s' : ASt} (hc : opCls i.op = 4) (h : eff H P i e ds s = some (E, ds', s')) : ds' = ds ∧ s'.blks = s.blks := by
  obtain ⟨d, op, gd, pre⟩ := i
  simp only at hc
  cases op with
  | append tk a b c d =>
    cases tk with
    | false => simp [opCls] at hc
    | true =>
      simp only [eff] at h
      split at h
      · cases h
      · simp only [skipD] at h; cases h; exact ⟨rfl, rfl⟩
      · simp only [aopP, aopR] at h
        split at h
        · rename_i hw; cases h; exact ⟨rfl, aopW_tok hw⟩
        · cases h
  | callP st f args => cases st <;> simp [opCls] at hc
  | _ => simp [opCls] at hc

theorem beq_ne {a b : Nat} (h : a ≠ b) : Nat.beq a b = false := by
  cases hb : Nat.beq a b with
  | false => rfl
  | true => exact absurd (Nat.eq_of_beq_eq_true hb) h

theorem updO_ne {t : Option Nat} {v : AV} {j : Nat} (h : ∀ k, t = some k → j ≠ k) : updO e t v j = e j := by
  cases t with
  | none => rfl
  | some k => simp only [updO, upd, beq_ne (h k rfl)]

theorem updO_comm {t u : Option Nat} {v w : AV} (h : ∀ k, t = some k → u ≠ some k) : updO (updO e t v) u w = updO (updO e u w) t v := by
  cases t with
  | none => rfl
  | some k =>
    cases u with
    | none => rfl
    | some l =>
      have hkl : l ≠ k := fun q => h k rfl (by rw [q])
      funext j
      simp only [updO, upd]
      by_cases h1 : j = k
      · subst h1; simp [beq_ne (Ne.symm hkl)]
      · by_cases h2 : j = l
        · subst h2; simp [beq_ne hkl]
        · simp [beq_ne h1, beq_ne h2]

/-! ### What waits to be filled, as a set -/
def samePd (a b : List (Nat × Nat)) : Prop := ∀ x, x ∈ a ↔ x ∈ b

theorem samePd.drop {a b : List (Nat × Nat)} (h : samePd a b) (d : Option Nat) : samePd (dropPend d a) (dropPend d b) := by
  cases d with
  | none => exact h
  | some d => intro x; simp only [dropPend, List.mem_filter, h x]

theorem samePd.pdOf {a b : List (Nat × Nat)} (h : samePd a b) (E : Eff) : samePd (pdOf E a) (pdOf E b) := by
  unfold Fw.pdOf
  split
  · intro x; simp only [List.mem_cons, h.drop _ x]
  · exact h.drop _

theorem samePd.okPd {a b : List (Nat × Nat)} (h : samePd a b) (E : Eff) : okPd E a = okPd E b := by
  unfold Fw.okPd
  split
  · rfl
  · rw [Bool.eq_iff_iff, List.any_eq_true, List.any_eq_true]
    exact ⟨fun ⟨x, h1, h2⟩ => ⟨x, (h x).1 h1, h2⟩, fun ⟨x, h1, h2⟩ => ⟨x, (h x).2 h1, h2⟩⟩

theorem mem_drop {d : Option Nat} {pd : List (Nat × Nat)} {x : Nat × Nat} : x ∈ dropPend d pd ↔ x ∈ pd ∧ ∀ e, d = some e → x.1 ≠ e := by
  cases d with
  | none => simp [dropPend]
  | some d =>
    simp only [dropPend, List.mem_filter, Option.some.injEq, forall_eq']
    constructor
    · rintro ⟨h1, h2⟩; exact ⟨h1, fun q => by rw [q] at h2; simp at h2⟩
    · rintro ⟨h1, h2⟩; exact ⟨h1, by rw [beq_ne h2]; rfl⟩

theorem mem_pdOf {E : Eff} {pd : List (Nat × Nat)} {x : Nat × Nat} : x ∈ pdOf E pd ↔ (∃ n d, E.add = some n ∧ E.t = some d ∧ x = (d, n)) ∨ (x ∈ pd ∧ ∀ e, E.t = some e → x.1 ≠ e) := by
  unfold pdOf
  split
  · rename_i n d h1 h2
    rw [List.mem_cons, mem_drop, h1, h2]
    simp
  · rename_i h1
    rw [mem_drop]
    constructor
    · exact .inr
    · rintro (⟨n, d, h2, h3, _⟩ | h)
      · exact absurd h3 (by intro q; exact h1 n d h2 q)
      · exact h

theorem pdOf_comm {E F : Eff} {pd : List (Nat × Nat)} (h : ∀ k, E.t = some k → F.t ≠ some k) : samePd (pdOf E (pdOf F pd)) (pdOf F (pdOf E pd)) := by
  intro x
  simp only [mem_pdOf]
  constructor
  · rintro (⟨n, d, h1, h2, rfl⟩ | ⟨⟨n, d, h1, h2, rfl⟩ | ⟨h1, h2⟩, h3⟩)
    · exact .inr ⟨.inl ⟨n, d, h1, h2, rfl⟩, fun e he q => by subst q; exact h _ h2 he⟩
    · exact .inl ⟨n, d, h1, h2, rfl⟩
    · exact .inr ⟨.inr ⟨h1, h3⟩, h2⟩
  · rintro (⟨n, d, h1, h2, rfl⟩ | ⟨⟨n, d, h1, h2, rfl⟩ | ⟨h1, h2⟩, h3⟩)
    · exact .inr ⟨.inl ⟨n, d, h1, h2, rfl⟩, fun e he q => by subst q; exact h _ he h2⟩
    · exact .inl ⟨n, d, h1, h2, rfl⟩
    · exact .inr ⟨.inr ⟨h1, h3⟩, h2⟩

theorem okPd_pdOf {E F : Eff} {pd : List (Nat × Nat)} (h : ∀ k n, E.need = some (k, n) → F.t ≠ some k) : okPd E (pdOf F pd) = okPd E pd := by
  unfold okPd
  split
  · rfl
  · rename_i d sz hn
    have hk := h d sz hn
    rw [Bool.eq_iff_iff, List.any_eq_true, List.any_eq_true]
    constructor
    · rintro ⟨x, h1, h2⟩
      rcases mem_pdOf.1 h1 with ⟨n, d', _, h4, rfl⟩ | ⟨h3, _⟩
      · rw [Bool.and_eq_true] at h2
        have := Nat.eq_of_beq_eq_true h2.1
        simp only at this
        subst this
        exact absurd h4 hk
      · exact ⟨x, h3, h2⟩
    · rintro ⟨x, h1, h2⟩
      refine ⟨x, mem_pdOf.2 (.inr ⟨h1, fun e he q => ?_⟩), h2⟩
      rw [Bool.and_eq_true] at h2
      have := Nat.eq_of_beq_eq_true h2.1
      rw [q] at this
      exact hk (by rw [he, this])

theorem evOps_pd : ∀ {is : List AI} {pd pd' : List (Nat × Nat)} {fr : Fr} {s : ASt}, samePd pd pd' → evOps H P is pd fr s = evOps H P is pd' fr s
  | [], _, _, _, _, _ => rfl
  | i :: rest, pd, pd', ⟨e, ds⟩, s, h => by
    by_cases hc : opCls i.op = 3
    · obtain ⟨d, op, gd, pre⟩ := i
      simp only [evOps]
      cases hw : wanted e gd with
      | none => rfl
      | some b =>
        cases b with
        | false =>
          cases hk : skipD P e op with
          | false => rfl
          | true => exact evOps_pd (h.drop d)
        | true =>
          cases op with
          | call f args =>
            simp only
            split
            · split
              · exact evOps_pd (h.drop d)
              · rfl
              · rfl
            · rfl
          | panic x => rfl
          | callP st f args => cases st <;> simp [opCls] at hc
          | append tk a b c d => cases tk <;> simp [opCls] at hc
          | _ => simp [opCls] at hc
    · rw [evOps_eff hc, evOps_eff hc]
      split
      · rename_i E ds' s' _
        rw [h.okPd E]
        cases okPd E pd' with
        | false => rfl
        | true => exact evOps_pd (h.pdOf E)
      · rfl

/-- Two operations that do not clash. -/
def apart (a b : AI) : Prop := clash (opCls a.op) (opCls b.op) = false ∧ (∀ t ∈ writesOf a, t ∉ namesOf b) ∧ (∀ t ∈ writesOf b, t ∉ namesOf a)

theorem clash_3l {a b : Nat} (h : clash a b = false) : a ≠ 3 := by rintro rfl; simp [clash] at h
theorem clash_3r {a b : Nat} (h : clash a b = false) : b ≠ 3 := by rintro rfl; unfold clash at h; split at h <;> simp_all
theorem opCls_le (op : AOp) : opCls op ≤ 5 := by
  cases op with
  | callP st f args => cases st <;> simp [opCls]
  | append tk a b c d => cases tk <;> simp [opCls]
  | _ => simp [opCls]
theorem clash_cases {x y : Nat} (hx : x ≤ 5) (hy : y ≤ 5) (h : clash x y = false) :
    ((x ≠ 2 ∧ x ≠ 4) ∧ (y ≠ 2 ∧ y ≠ 4)) ∨ y = 0 ∨ x = 0 ∨ (x = 1 ∧ y = 4) ∨ (x = 4 ∧ y = 1) := by
  have : (x = 0 ∨ x = 1 ∨ x = 2 ∨ x = 3 ∨ x = 4 ∨ x = 5) ∧ (y = 0 ∨ y = 1 ∨ y = 2 ∨ y = 3 ∨ y = 4 ∨ y = 5) := by omega
  rcases this with ⟨rfl | rfl | rfl | rfl | rfl | rfl, rfl | rfl | rfl | rfl | rfl | rfl⟩ <;> simp [clash] at h ⊢

theorem writes_names {i : AI} {t : Nat} (h : t ∈ writesOf i) : t ∈ namesOf i := by simp [namesOf, h]

/-- The second one may be ahead. -/
theorem evOps_swap {a b : AI} {rest : List AI} {pd : List (Nat × Nat)} {fr : Fr} {r : OpsR} (hab : apart a b) (h : evOps H P (a :: b :: rest) pd fr s = some r) :
    evOps H P (b :: a :: rest) pd fr s = some r := by
  obtain ⟨hc, hw1, hw2⟩ := hab
  obtain ⟨e, ds⟩ := fr
  have ha3 := clash_3l hc
  have hb3 := clash_3r hc
  rw [evOps_eff ha3] at h
  cases hea : eff H P a e ds s with
  | none => rw [hea] at h; cases h
  | some x =>
    obtain ⟨Ea, ds1, s1⟩ := x
    rw [hea] at h
    simp only at h
    cases hoka : okPd Ea pd with
    | false => rw [hoka] at h; cases h
    | true =>
      rw [hoka] at h
      simp only at h
      rw [evOps_eff hb3] at h
      have hag : ∀ t ∈ namesOf b, updO e Ea.t Ea.v t = e t := fun t ht => updO_ne fun k hk q => by
        subst q; exact hw1 _ (eff_t hea _ hk) ht
      rw [eff_congr hag] at h
      cases heb : eff H P b e ds1 s1 with
      | none => rw [heb] at h; cases h
      | some y =>
        obtain ⟨Eb, ds2, s2⟩ := y
        rw [heb] at h
        simp only at h
        cases hokb : okPd Eb (pdOf Ea pd) with
        | false => rw [hokb] at h; cases h
        | true =>
          rw [hokb] at h
          simp only at h
          have hne : ∀ k, Ea.t = some k → Eb.t ≠ some k := fun k h1 h2 => hw1 k (eff_t hea k h1) (writes_names (eff_t heb k h2))
          -- b first
          have hcases := clash_cases (opCls_le a.op) (opCls_le b.op) hc
          have key : ∃ ds3 s3, eff H P b e ds s = some (Eb, ds3, s3) ∧ eff H P a e ds3 s3 = some (Ea, ds2, s2) := by
            rcases hcases with ⟨q1, q2⟩ | q2 | q1 | ⟨q1, q2⟩ | ⟨q1, q2⟩
            · obtain ⟨rfl, rfl⟩ := eff_quiet q1.1 q1.2 hea
              obtain ⟨rfl, rfl⟩ := eff_quiet q2.1 q2.2 heb
              exact ⟨_, _, heb, hea⟩
            · obtain ⟨rfl, rfl⟩ := eff_quiet (by rw [q2]; simp) (by rw [q2]; simp) heb
              exact ⟨_, _, eff_blind q2 heb, hea⟩
            · obtain ⟨rfl, rfl⟩ := eff_quiet (by rw [q1]; simp) (by rw [q1]; simp) hea
              exact ⟨_, _, heb, eff_blind q1 hea⟩
            · obtain ⟨rfl, rfl⟩ := eff_quiet (by rw [q1]; simp) (by rw [q1]; simp) hea
              obtain ⟨rfl, hb⟩ := eff_tok q2 heb
              exact ⟨_, _, heb, eff_rd q1 hb hea⟩
            · obtain ⟨hd, hb⟩ := eff_tok q1 hea
              obtain ⟨hd2, hs2⟩ := eff_quiet (by rw [q2]; simp) (by rw [q2]; simp) heb
              rw [hd2, hs2] at heb ⊢
              rw [hd] at heb hea ⊢
              exact ⟨_, _, eff_rd q2 hb.symm heb, hea⟩
          obtain ⟨ds3, s3, hb', ha'⟩ := key
          have hag2 : ∀ t ∈ namesOf a, updO e Eb.t Eb.v t = e t := fun t ht => updO_ne fun k hk q => by
            subst q; exact hw2 _ (eff_t heb _ hk) ht
          rw [evOps_eff hb3, hb']
          simp only
          rw [okPd_pdOf fun k n hk hq => hw1 k (eff_t hea k hq) (writes_names (eff_need heb k n hk))] at hokb
          rw [hokb]
          simp only
          rw [evOps_eff ha3, eff_congr hag2, ha']
          simp only
          rw [okPd_pdOf fun k n hk hq => hw2 k (eff_t heb k hq) (writes_names (eff_need hea k n hk)), hoka]
          simp only
          rw [updO_comm fun k h1 h2 => hne k h2 h1, evOps_pd (pdOf_comm fun k h1 h2 => hne k h1 h2)]
          exact h

/-- An operation that is apart from all that are ahead of it may be first. -/
theorem evOps_first {i : AI} {rest : List AI} {r : OpsR} : ∀ {A : List AI} {pd : List (Nat × Nat)} {fr : Fr} {s : ASt}, (∀ a ∈ A, apart a i) → evOps H P (A ++ i :: rest) pd fr s = some r → evOps H P (i :: (A ++ rest)) pd fr s = some r
  | [], _, _, _, _, h => h
  | a :: A, pd, ⟨e, ds⟩, s, hA, h => by
    refine evOps_swap (hA a (by simp)) ?_
    have ha3 := clash_3l (hA a (by simp)).1
    simp only [List.cons_append] at h
    rw [evOps_eff ha3] at h ⊢
    split at h
    · rename_i E ds' s' _
      cases hok : okPd E pd with
      | false => rw [hok] at h; cases h
      | true =>
        rw [hok] at h
        simp only at h ⊢
        exact evOps_first (fun x hx => hA x (by simp [hx])) h
    · cases h

end
end Go.Fw
