/- The framework, part 15: more fuel changes no answer. -/
import Derived.Test.YthmlommnlihgcaaGreatDoorFwEv
namespace Go.Fw
open Go

structure Hle (H H' : Handler) : Prop where
  call : ∀ g a s r, H.call g a s = some r → H'.call g a s = some r
  dcall : ∀ f a m s r, H.dcall f a m s = some r → H'.dcall f a m s = some r

section
variable {H H' : Handler} {P : AProg}

theorem evOps_eq {d' : Option Nat} {op : AOp} {gd : Option (Nat × Bool)} {pre : List Nat} {rest : List AI} {pd : List (Nat × Nat)} {fr : Fr} {s : ASt} (hp : plainO op = true) (hg : wanted fr.env gd = some true) :
    evOps H P (⟨d', op, gd, pre⟩ :: rest) pd fr s = (match stepA P fr.env s op with | some (v, s1) => evOps H P rest (dropPend d' pd) { fr with env := updO fr.env d' v } s1 | none => none) := by
  have key : (match aopP P fr.env op with
        | some v => evOps H P rest (dropPend d' pd) { fr with env := updO fr.env d' v } s
        | none =>
          match aopR P fr.env s op with
          | some v => evOps H P rest (dropPend d' pd) { fr with env := updO fr.env d' v } s
          | none =>
            match aopW P fr.env s op with
            | some (v, s1) => evOps H P rest (dropPend d' pd) { fr with env := updO fr.env d' v } s1
            | none => none) = (match stepA P fr.env s op with | some (v, s1) => evOps H P rest (dropPend d' pd) { fr with env := updO fr.env d' v } s1 | none => none) := by
    unfold stepA
    cases aopP P fr.env op with
    | some x => rfl
    | none => cases aopR P fr.env s op with
      | some x => rfl
      | none => rfl
  rw [← key]
  simp only [evOps, hg]
  cases op <;> first | rfl | (simp [plainO] at hp)

theorem evOps_mono (hH : Hle H H') : ∀ {is : List AI} {pd : List (Nat × Nat)} {fr : Fr} {s : ASt} {r : OpsR}, evOps H P is pd fr s = some r → evOps H' P is pd fr s = some r
  | [], _, _, _, _, h => h
  | ⟨d', op, gd, pre⟩ :: rest, pd, fr, s, r, h => by
    cases hw : wanted fr.env gd with
    | none => simp [evOps, hw] at h
    | some b =>
      cases b with
      | false =>
        simp only [evOps, hw] at h ⊢
        cases hk : skipD P fr.env op with
        | true => simp only [hk] at h ⊢; exact evOps_mono hH h
        | false => rw [hk] at h; cases h
      | true =>
        cases hp : plainO op with
        | true =>
          rw [evOps_eq hp hw] at h ⊢
          cases hs : stepA P fr.env s op with
          | none => rw [hs] at h; cases h
          | some x => rw [hs] at h; exact evOps_mono hH h
        | false =>
          cases op <;> first | (simp [plainO] at hp; done) | skip
          case pend z =>
            cases d' with
            | none => simp [evOps, hw] at h
            | some d => simp only [evOps, hw] at h ⊢; exact evOps_mono hH h
          case shut d sz x =>
            cases d' with
            | some d => simp [evOps, hw] at h
            | none =>
              cases hf : fixP (evO P fr.env x) with
              | none => simp [evOps, hw, hf] at h
              | some v =>
                simp only [evOps, hw, hf] at h ⊢
                split at h
                · rename_i hc; rw [if_pos hc]; exact evOps_mono hH h
                · cases h
          case defer f args =>
            simp only [evOps, hw] at h ⊢
            split at h
            · rename_i h1 h2; (try simp only [h1, h2]); exact evOps_mono hH h
            · cases h
          case panic x =>
            simp only [evOps, hw] at h ⊢
            exact h
          case callP st f args =>
            simp only [evOps, hw] at h ⊢
            split at h
            · rename_i g a b vs h1 h2
              (try simp only [h1, h2])
              split at h
              · rename_i v s2 h3 h4
                simp only [hH.call _ _ _ _ h4]
                (try simp only [h3])
                split at h
                · rename_i v' h5
                  (try simp only [h5])
                  split at h
                  · rename_i h6; (try simp only [h6]); exact evOps_mono hH h
                  · cases h
                · cases h
              · cases h
            · cases h
          case call f args =>
            simp only [evOps, hw] at h ⊢
            split at h
            · rename_i g a b vs s1 h1 h2
              (try simp only [h1, h2])
              split at h
              · rename_i v s2 h3; simp only [hH.call _ _ _ _ h3]; exact evOps_mono hH h
              · rename_i v s2 h3; simp only [hH.call _ _ _ _ h3]; exact h
              · cases h
            · cases h

theorem loopN_mono {f f' : Fr → ASt → Option CR} (hf : ∀ fr s r, f fr s = some r → f' fr s = some r) : ∀ {k k' : Nat} {fr : Fr} {s : ASt} {r : CR}, k ≤ k' → loopN f k fr s = some r → loopN f' k' fr s = some r
  | 0, _, _, _, _, _, h => by simp [loopN] at h
  | k + 1, 0, _, _, _, hk, _ => by omega
  | k + 1, k' + 1, fr, s, r, hk, h => by
    simp only [loopN] at h ⊢
    cases hs : f fr s with
    | none => rw [hs] at h; cases h
    | some x =>
      rw [hs] at h
      rw [hf _ _ _ hs]
      cases hx : x.ex with
      | normal => simp only [hx] at h ⊢; exact loopN_mono hf (by omega) h
      | exit i => simp only [hx] at h ⊢; exact h
      | ret => simp only [hx] at h ⊢; exact h
      | panic v => simp only [hx] at h ⊢; exact h

theorem evC_mono (hH : Hle H H') {rd : Option Nat} {lf lf' : Nat} (hl : lf ≤ lf') : ∀ (c : AC) {fr : Fr} {s : ASt} {r : CR}, evC H P rd lf c fr s = some r → evC H' P rd lf' c fr s = some r
  | .skip, _, _, _, h => h
  | .exit _, _, _, _, h => h
  | .ret, _, _, _, h => h
  | .scope b, fr, s, r, h => by simp only [evC] at h ⊢; exact evC_mono hH hl b h
  | .reg _ ops, fr, s, r, h => by
    simp only [evC] at h ⊢
    cases he : evOps H P ops [] fr s with
    | none => rw [he] at h; cases h
    | some x => rw [he] at h; rw [evOps_mono hH he]; exact h
  | .regW ops, fr, s, r, h => by
    simp only [evC] at h ⊢
    cases he : evOps H P ops [] fr s with
    | none => rw [he] at h; cases h
    | some x => rw [he] at h; rw [evOps_mono hH he]; exact h
  | .seq a b, fr, s, r, h => by
    simp only [evC] at h ⊢
    cases he : evC H P rd lf a fr s with
    | none => rw [he] at h; cases h
    | some x =>
      rw [he] at h; rw [evC_mono hH hl a he]
      cases hx : x.ex with
      | normal => simp only [hx] at h ⊢; exact evC_mono hH hl b h
      | exit i => simp only [hx] at h ⊢; exact h
      | ret => simp only [hx] at h ⊢; exact h
      | panic v => simp only [hx] at h ⊢; exact h
  | .cond c t e, fr, s, r, h => by
    simp only [evC] at h ⊢
    split at h
    · rename_i b hb
      (try simp only [hb])
      cases b with
      | true => exact evC_mono hH hl t h
      | false => exact evC_mono hH hl e h
    · cases h
  | .block id b, fr, s, r, h => by
    simp only [evC] at h ⊢
    cases he : evC H P rd lf b fr s with
    | none => rw [he] at h; cases h
    | some x => rw [he] at h; rw [evC_mono hH hl b he]; exact h
  | .loop b, fr, s, r, h => by
    simp only [evC] at h ⊢
    exact loopN_mono (fun _ _ _ => evC_mono hH hl b) hl h
  | .rangeF f params assign body, fr, s, r, h => by
    simp only [evC] at h ⊢
    split at h
    · rename_i l mark s1 g a b h1 h2
      (try simp only [h1, h2])
      split at h
      · rename_i v s2 h3 h4; simp only [hH.call _ _ _ _ h4]; (try simp only [h3]); exact h
      · rename_i v s2 h3 h4; simp only [hH.call _ _ _ _ h4]; (try simp only [h3]); exact h
      · cases h
    · cases h

theorem roundN_mono (hH : Hle H H') {lf lf' : Nat} (hl : lf ≤ lf') {l : Nat} {args : List AV} {s : ASt} {r : ARes × ASt} (h : roundN H P lf l args s = some r) : roundN H' P lf' l args s = some r := by
  unfold roundN at h ⊢
  split at h
  · rename_i lp h1
    (try simp only [h1])
    split at h
    · rename_i h2 h3
      (try simp only [h2, h3])
      split at h
      · rename_i e1 s1 h4
        simp only [evC_mono hH hl _ h4]
        split at h
        · rename_i s2 h5
          (try simp only [h5])
          split at h
          · rename_i ex e2 s3 h6
            simp only [evC_mono hH hl _ h6]
            exact h
          · cases h
        · cases h
      · cases h
    · cases h
  · cases h

theorem runDs_mono (hH : Hle H H') : ∀ {ds : List ADef} {m : DM} {s : ASt} {r : DM × ASt}, runDs H ds m s = some r → runDs H' ds m s = some r
  | [], _, _, _, h => h
  | .mark l :: ds, m, s, r, h => by
    simp only [runDs] at h ⊢
    split at h
    · rename_i h1; (try simp only [h1]); exact runDs_mono hH h
    · cases h
  | .call f args :: ds, m, s, r, h => by
    simp only [runDs] at h ⊢
    cases hd : H.dcall f args m s with
    | none => rw [hd] at h; cases h
    | some x => rw [hd] at h; rw [hH.dcall _ _ _ _ _ hd]; exact runDs_mono hH h

theorem runF_mono (hH : Hle H H') {lf lf' : Nat} (hl : lf ≤ lf') {f : AF} {args : List AV} {s : ASt} {r : ARes × ASt} (h : runF H P lf f args s = some r) : runF H' P lf' f args s = some r := by
  unfold runF at h ⊢
  split at h
  · cases h
  · rename_i h0
    split at h
    · rename_i ex fr s1 h1
      simp only [evC_mono hH hl _ h1]
      split at h
      · rename_i m h2
        (try simp only [h2])
        split at h
        · rename_i v s2 h3; simp only [runDs_mono hH h3]; exact h
        · rename_i s2 h3; simp only [runDs_mono hH h3]; exact h
        · cases h
      · cases h
    · cases h

theorem evD_mono (hH : Hle H H') {lf lf' : Nat} (hl : lf ≤ lf') : ∀ (c : AC) {fr : Fr} {rc : RC} {s : ASt} {r : AExit × Fr × RC × ASt}, evD H P lf c fr rc s = some r → evD H' P lf' c fr rc s = some r := by
  intro c
  induction c with
  | reg draw ops =>
    intro fr rc s r h
    simp only [evD] at h ⊢
    split at h
    · exact h
    · split at h
      · rename_i x he; rw [evC_mono hH hl _ he]; exact h
      · cases h
  | seq a b iha ihb =>
    intro fr rc s r h
    simp only [evD] at h ⊢
    split at h
    · rename_i fr1 rc1 s1 h1
      simp only [iha h1]; exact ihb h
    · rename_i hne
      rw [iha h]
      split
      · rename_i fr1 rc1 s1 h1; cases h1; exact absurd h (hne _ _ _)
      · rfl
  | cond c t e iht ihe =>
    intro fr rc s r h
    simp only [evD] at h ⊢
    split at h
    · rename_i b hb
      (try simp only [hb])
      cases b with
      | true => exact iht h
      | false => exact ihe h
    · cases h
  | skip =>
    intro fr rc s r h
    simp only [evD] at h ⊢
    split at h
    · rename_i x he; rw [evC_mono hH hl _ he]; exact h
    · cases h
  | block id b _ =>
    intro fr rc s r h
    simp only [evD] at h ⊢
    split at h
    · rename_i x he; rw [evC_mono hH hl _ he]; exact h
    · cases h
  | loop b _ =>
    intro fr rc s r h
    simp only [evD] at h ⊢
    split at h
    · rename_i x he; rw [evC_mono hH hl _ he]; exact h
    · cases h
  | rangeF f p a b _ _ =>
    intro fr rc s r h
    simp only [evD] at h ⊢
    split at h
    · rename_i x he; rw [evC_mono hH hl _ he]; exact h
    · cases h
  | regW ops =>
    intro fr rc s r h
    simp only [evD] at h ⊢
    split at h
    · rename_i x he; rw [evC_mono hH hl _ he]; exact h
    · cases h
  | exit id =>
    intro fr rc s r h
    simp only [evD] at h ⊢
    split at h
    · rename_i x he; rw [evC_mono hH hl _ he]; exact h
    · cases h
  | ret =>
    intro fr rc s r h
    simp only [evD] at h ⊢
    split at h
    · rename_i x he; rw [evC_mono hH hl _ he]; exact h
    · cases h
  | scope b _ =>
    intro fr rc s r h
    simp only [evD] at h ⊢
    split at h
    · rename_i x he; rw [evC_mono hH hl _ he]; exact h
    · cases h

theorem runD_mono (hH : Hle H H') {lf lf' : Nat} (hl : lf ≤ lf') {f : AF} {args : List AV} {m : DM} {s : ASt} {r : DM × ASt} (h : runD H P lf f args m s = some r) : runD H' P lf' f args m s = some r := by
  unfold runD at h ⊢
  split at h
  · cases h
  · rename_i h0
    (try simp only [h0])
    split at h
    · rename_i ex e rc s1 h1
      simp only [evD_mono hH hl _ h1]
      exact h
    · cases h

theorem primCalls_mono {H H' : Handler} (hH : Hle H H') : ∀ {l : List (Nat × List AV)} {vs : List AV}, primCalls H l = some vs → primCalls H' l = some vs
  | [], _, h => h
  | (f, a) :: r, vs, h => by
    unfold primCalls at h ⊢
    generalize pureL a = b at h ⊢
    cases b with
    | false => exact h
    | true =>
      simp only at h ⊢
      cases hc : H.call (.func f) a emptyS with
      | none => rw [hc] at h; cases h
      | some q =>
        rw [hH.call _ _ _ _ hc]
        rw [hc] at h
        obtain ⟨q1, q2⟩ := q
        cases q1 with
        | panic v => exact h
        | ret v =>
          simp only at h ⊢
          generalize fixR v = x at h ⊢
          cases x with
          | none => exact h
          | some v2 =>
            simp only at h ⊢
            generalize pureV v2 = y at h ⊢
            cases y with
            | false => exact h
            | true =>
              simp only at h ⊢
              cases hw : primCalls H r with
              | none => rw [hw] at h; cases h
              | some ws => rw [hw] at h; rw [primCalls_mono hH hw]; exact h
theorem primRun_mono {H H' : Handler} (hH : Hle H H') {p : Prim} {args : List AV} {s : ASt} {r : ARes × ASt} (h : primRun H p args s = some r) : primRun H' p args s = some r := by
  unfold primRun at h ⊢
  generalize pureL args = b at h ⊢
  cases b with
  | false => exact h
  | true =>
    simp only at h ⊢
    generalize p.calls args = x at h ⊢
    cases x with
    | none => exact h
    | some cs =>
      simp only at h ⊢
      cases hw : primCalls H cs with
      | none => rw [hw] at h; cases h
      | some ws => rw [hw] at h; rw [primCalls_mono hH hw]; exact h

theorem callN_le : ∀ {n m : Nat}, n ≤ m → Hle (callN P n) (callN P m)
  | 0, _, _ => ⟨fun _ _ _ _ h => by simp [callN] at h, fun _ _ _ _ _ h => by simp [callN] at h⟩
  | n + 1, 0, h => by omega
  | n + 1, m + 1, h => by
    have ih := callN_le (show n ≤ m by omega)
    refine ⟨fun g a s r hr => ?_, fun f a d s r hr => ?_⟩
    · cases g with
      | func f =>
        simp only [callN] at hr ⊢
        cases hp : P.prim f with
        | some p => simp only [hp] at hr ⊢; exact primRun_mono ih hr
        | none =>
          simp only [hp] at hr ⊢
          cases hf : P.fn f with
          | none => simp only [hf] at hr; cases hr
          | some af => simp only [hf] at hr ⊢; exact runF_mono ih (by omega) hr
      | yield l => simp only [callN] at hr ⊢; exact roundN_mono ih (by omega) hr
    · simp only [callN] at hr ⊢
      cases hf : P.fn f with
      | none => simp only [hf] at hr; cases hr
      | some af => simp only [hf] at hr ⊢; exact runD_mono ih (by omega) hr

/-- One run is enough. -/
theorem Ev.run {n : Nat} {g : AFn} {args : List AV} {s : ASt} {r : ARes × ASt} {Q : ARes × ASt → Prop} (h : (callN P n).call g args s = some r) (hq : Q r) : Ev (fun n => (callN P n).call g args s) Q :=
  ⟨r, n, hq, fun _ hm => (callN_le hm).call _ _ _ _ h⟩


end
end Go.Fw
