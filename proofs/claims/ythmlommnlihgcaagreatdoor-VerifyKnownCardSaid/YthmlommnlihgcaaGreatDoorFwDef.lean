/- The framework, part 10b: deferred functions, that may recover. -/
import Derived.Test.YthmlommnlihgcaaGreatDoorFwFun
namespace Go.Fw
open Go

def RcMode (G : Gh) : RC → FrameMode → Prop
  | .ret, .returning => True
  | .pan v, .panicking chain => ∃ x, chain = [{ v := x, recovered := false }] ∧ R G (.v v x)
  | .recd, .panicking chain => ∃ x, chain = [{ v := x, recovered := true }]
  | _, _ => False
theorem RcMode.mono {G G' : Gh} (hG : G.le G') {rc : RC} {u : FrameMode} (h : RcMode G rc u) : RcMode G' rc u := by
  cases rc <;> cases u <;> first | exact h | (obtain ⟨x, h1, h2⟩ := h; exact ⟨x, h1, h2.mono hG⟩)

theorem RcMode.settle {G : Gh} {rc : RC} {u : FrameMode} (h : RcMode G rc u) : ModeOk G (match rc with | .pan v => DM.pan v | _ => .ret) (Go.settle u) := by
  cases rc with
  | ret => cases u <;> first | exact h.elim | trivial
  | pan v =>
    cases u <;> first | exact h.elim | skip
    obtain ⟨x, rfl, hx⟩ := h
    exact ⟨x, rfl, hx⟩
  | recd =>
    cases u <;> first | exact h.elim | skip
    obtain ⟨x, rfl⟩ := h
    trivial

section
variable {P : Program} {B : Bs} {P' : AProg} {nt : Nat} {H : Handler} {h : Hint}

/-- What is asked behind the code of a deferred function. -/
def DQ (P : Program) (B : Bs) (nt : Nat) (G : Gh) (c₀ : Frame) (cs : List Frame) (ex : AExit) (fr : Fr) (rc : RC) (s : ASt) (e : Exit) (a : Act) (cs' : List Frame) (w : World) : Prop :=
  ∃ u G', G.le G' ∧ Inv P B G' s w ∧ EnvOk G' nt fr.env a.tmps ∧ DsOk G' fr.ds a.defers ∧ ExOk G' ex e ∧ cs' = { c₀ with mode := u } :: cs ∧ RcMode G' rc u

theorem DQ.of_cq {G : Gh} {c₀ : Frame} {cs : List Frame} {ex : AExit} {fr : Fr} {rc : RC} {s : ASt} {e : Exit} {a : Act} {w : World} {u : FrameMode} (hq : CQ P B nt G ex fr s e a w) (hr : RcMode G rc u) :
    DQ P B nt G c₀ cs ex fr rc s e a ({ c₀ with mode := u } :: cs) w := by
  obtain ⟨G', h1, h2, h3, h4, h5⟩ := hq
  exact ⟨u, G', h1, h2, h3, h4, h5, rfl, hr.mono h1⟩

theorem DQ.le {G G1 : Gh} {c₀ : Frame} {cs : List Frame} {ex : AExit} {fr : Fr} {rc : RC} {s : ASt} {e : Exit} {a : Act} {cs' : List Frame} {w : World} (hle : G.le G1) (hq : DQ P B nt G1 c₀ cs ex fr rc s e a cs' w) : DQ P B nt G c₀ cs ex fr rc s e a cs' w := by
  obtain ⟨u, G', h1, h2⟩ := hq; exact ⟨u, G', hle.trans h1, h2⟩

theorem recov_step {G : Gh} {rc : RC} {u : FrameMode} (hr : RcMode G rc u) (c₀ : Frame) (cs : List Frame) :
    (∃ v x u', rc = .pan v ∧ recoverD ({ c₀ with mode := u } :: cs) = some (x, { c₀ with mode := u' } :: cs) ∧ R G (.v v x) ∧ RcMode G .recd u') ∨ ((∀ v, rc ≠ .pan v) ∧ recoverD ({ c₀ with mode := u } :: cs) = none) := by
  cases rc with
  | ret => cases u <;> first | exact hr.elim | exact .inr ⟨by simp, rfl⟩
  | pan v =>
    cases u <;> first | exact hr.elim | skip
    obtain ⟨x, rfl, hx⟩ := hr
    exact .inl ⟨v, x, .panicking [{ v := x, recovered := true }], rfl, rfl, hx, x, rfl⟩
  | recd =>
    cases u <;> first | exact hr.elim | skip
    obtain ⟨x, rfl⟩ := hr
    exact .inr ⟨by simp, rfl⟩

theorem cook_recov {d : Option Nat} {op : Op} (hk : cookOp P h d op = some .recov) : ∃ c, op = .call c ∧ c.callee = .builtin .recover := by
  unfold cookOp at hk
  split at hk
  case h_30 =>
    rename_i c
    split at hk
    · rename_i b hb
      unfold cookBuiltin at hk
      split at hk
      · exact ⟨c, rfl, hb⟩
      all_goals (repeat' split at hk)
      all_goals first | (cases hk; done) | (simp only [Option.map_eq_some_iff, reduceCtorEq, and_false, exists_false] at hk; done)
    · repeat' split at hk
      all_goals cases hk
    · cases hk
  all_goals (try unfold eqNil at hk)
  all_goals (repeat' split at hk)
  all_goals first | (cases hk; done) | (simp only [Option.map_eq_some_iff, reduceCtorEq, and_false, exists_false] at hk; done)

theorem evOpsD_ok (hp : ∀ g, pureV (P'.gl g) = true) {all : Array Oper} {f : Nat → AI} {c₀ : Frame} {cs : List Frame} {fr' : Fr} {rc' : RC} {s' : ASt} {G0 : Gh} : ∀ (l : List Nat), (∀ j ∈ l, ∃ o, all[j]? = some o ∧ OpOk P h nt none all o (f j)) →
    ∀ {fr : Fr} {rc : RC} {s : ASt} {a : Act} {w : World} {G : Gh} {u : FrameMode}, evOpsD P' (l.map f) fr rc s = some (fr', rc', s') → Inv P B G s w → EnvOk G nt fr.env a.tmps → GlobOk P' G → DsOk G fr.ds a.defers → RcMode G rc u → G0.le G →
    wpOpsSIn (FV P) 0 P all (DQ P B nt G0 c₀ cs .normal fr' rc' s') l a ({ c₀ with mode := u } :: cs) w
  | [], _, fr, rc, s, a, w, G, u, hev, hI, hE, hG, hD, hR, hle => by
    simp only [List.map_nil, evOpsD, Option.some.injEq, Prod.mk.injEq] at hev
    obtain ⟨rfl, rfl, rfl⟩ := hev
    exact ⟨u, G, hle, hI, hE, hD, trivial, rfl, hR⟩
  | j :: l, hl, fr, rc, s, a, w, G, u, hev, hI, hE, hG, hD, hR, hle => by
    obtain ⟨o, ho, hok⟩ := hl j (by simp)
    have hl' : ∀ j ∈ l, ∃ o, all[j]? = some o ∧ OpOk P h nt none all o (f j) := fun j hj => hl j (by simp [hj])
    simp only [List.map_cons] at hev
    simp only [wpOpsSIn, ho]
    generalize f j = i at hok hev
    obtain ⟨d, op, gd, pre⟩ := i
    have hcd := hok.c.d
    simp only at hcd
    subst hcd
    have hd : ∀ t, o.dst = some t → t < nt := fun t ht => hok.wr t (by simp [writesOf, ht])
    simp only [evOpsD] at hev
    split at hev
    · -- recover
      have hw := wanted_ok (fr := fr) (b := true) hok.c hE rfl
      refine ⟨about_plain (ρ := a.eval) hok.c (by simp) (by simp) (by simp), ?_⟩
      rw [if_pos hw]
      have hk := hok.c.op.resolve_left (by simp)
      obtain ⟨c, hoc, hcal⟩ := cook_recov hk
      have hrun : (execOp a.eval o).run P w = .ok .recover w := by
        simp [execOp, hoc, resolve, hcal, invoke, builtin]
      rw [hrun]
      rcases recov_step hR c₀ cs with ⟨v, x, u', rfl, hrec, hx, hR'⟩ | ⟨hn, hrec⟩
      · simp only [hrec]
        simp only at hev
        exact evOpsD_ok hp l hl' hev hI (hE.putO hd hx) hG (by rw [put_defers]; exact hD) hR' hle
      · simp only [hrec]
        split at hev
        · exact absurd rfl (hn _)
        · exact evOpsD_ok hp l hl' hev hI (hE.putO hd .niliface) hG (by rw [put_defers]; exact hD) hR hle
    · split at hev
      · rename_i v hwt hv
        have hw := wanted_ok (fr := fr) hok.c hE hwt
        refine ⟨about_plain (ρ := a.eval) hok.c (fun hb => by simp only at hb; subst hb; simp [aopP] at hv) (fun f xs hb => by simp only at hb; subst hb; simp [aopP] at hv) (fun st f xs hb => by simp only at hb; subst hb; simp [aopP] at hv), ?_⟩
        rw [if_pos hw]
        rcases hok.c.op with hq | hq
        · simp only at hq; subst hq; simp [aopP] at hv
        · obtain ⟨x, w', G', hrun, q, r⟩ := opP_ok hI (opn_of hE hG) (fun _ => rfl) hq hv
          rw [hrun]
          exact evOpsD_ok hp l hl' hev (q.inv hI) ((hE.mono q.le).putO hd r) (hG.mono q.le) (by rw [put_defers]; exact hD.mono q.le) (hR.mono q.le) (hle.trans q.le)
      · cases hev

theorem thenS_not_normal {K : Act → List Frame → World → Prop} {Q : Exit → Act → List Frame → World → Prop} {e : Exit} {a : Act} {cs : List Frame} {w : World} (hn : e ≠ .normal) (h : Q e a cs w) : Exit.thenS K Q e a cs w := by
  cases e <;> first | exact absurd rfl hn | exact h

theorem wpSIn_mono {F : Fence} {n : Nat} {c : Code} {Q Q' : Exit → Act → List Frame → World → Prop} {a : Act} {cs : List Frame} {w : World} (h : c.wpSIn F n P Q a cs w) (hq : ∀ e a cs w, Q e a cs w → Q' e a cs w) : c.wpSIn F n P Q' a cs w :=
  fun b k h1 h2 h3 h4 => let ⟨e, a', cs', w', l, q, r⟩ := h b k h1 h2 h3 h4; ⟨e, a', cs', w', l, hq _ _ _ _ q, r⟩

theorem evD_ok (hP : POk P P') (hH : HOk P P' H) {lf : Nat} {c₀ : Frame} {cs : List Frame} : ∀ (code : Code) {c : AC} {G : Gh} {fr fr' : Fr} {rc rc' : RC} {s s' : ASt} {ex : AExit} {a : Act} {w : World} {u : FrameMode},
    cookC P h code = some c → acOk nt false c = true → evD H P' lf c fr rc s = some (ex, fr', rc', s') →
    Inv P B G s w → EnvOk G nt fr.env a.tmps → GlobOk P' G → DsOk G fr.ds a.defers → RcMode G rc u → code.wpSIn (FV P) 0 P (DQ P B nt G c₀ cs ex fr' rc' s') a ({ c₀ with mode := u } :: cs) w := by
  intro code
  have plain : ∀ {code : Code} {c : AC} {G : Gh} {fr fr' : Fr} {rc rc' : RC} {s s' : ASt} {ex : AExit} {a : Act} {w : World} {u : FrameMode}, cookC P h code = some c → acOk nt false c = true →
      (match evC H P' none lf c fr s with | some r => some (r.ex, r.fr, rc, r.s) | none => none) = some (ex, fr', rc', s') →
      Inv P B G s w → EnvOk G nt fr.env a.tmps → GlobOk P' G → DsOk G fr.ds a.defers → RcMode G rc u → code.wpSIn (FV P) 0 P (DQ P B nt G c₀ cs ex fr' rc' s') a ({ c₀ with mode := u } :: cs) w := by
    intro code c G fr fr' rc rc' s s' ex a w u hk hok hev hI hE hG hD hR
    split at hev
    · rename_i r hr
      cases hev
      refine wpSIn_of_wpIn rfl (wpIn_mono (evC_ok hP hH (rd := none) (rb := none) code hk hok hr hI hE hG hD trivial) fun e a1 w1 hq => ?_)
      exact DQ.of_cq hq hR
    · cases hev
  induction code with
  | region id all draw =>
    intro c G fr fr' rc rc' s s' ex a w u hk hok hev hI hE hG hD hR
    have hk' := hk
    simp only [cookC] at hk'
    split at hk'
    · cases hk'
    simp only [Option.map_eq_some_iff] at hk'
    obtain ⟨ops, hops, hc⟩ := hk'
    split at hc
    · subst hc
      simp only [evD] at hev
      exact plain hk hok hev hI hE hG hD hR
    subst hc
    simp only [evD] at hev
    split at hev
    · split at hev
      · cases hev
        have hev2 : evOpsD P' ops fr rc s = some (fr', rc', s') := by assumption
        obtain ⟨hlen, hck⟩ := cookOps_ok hops
        simp only [acOk, Bool.and_eq_true] at hok
        have hall : ∀ j, j < all.size → ∃ o ai, all[j]? = some o ∧ ops[j]? = some ai ∧ OpOk P h nt none all o ai := by
          intro j hj
          obtain ⟨ai, k1, k2, _⟩ := hck j all[j] (by simp [hj])
          refine ⟨all[j], ai, by simp [hj], k1, ⟨k2, ?_, fun _ _ _ => rfl, ?_⟩⟩
          · intro t ht
            have := hok.1
            simp only [opsOk, List.all_eq_true, Bool.and_eq_true] at this
            have := ((this ai (List.mem_of_getElem? k1)).1.1) t ht
            simpa using this
          · intro hg
            have := hok.1
            simp only [opsOk, List.all_eq_true, Bool.and_eq_true] at this
            have := (this ai (List.mem_of_getElem? k1)).2
            cases hgd : ai.gd with
            | none => exact absurd hgd hg
            | some x => rw [hgd] at this; exact this
        have hf : ∀ j ai, ops[j]? = some ai → ops.getD j default = ai := fun j ai hj => by simp [List.getD_eq_getElem?_getD, hj]
        have hmap : (List.range all.size).map (fun j => ops.getD j default) = ops := by
          apply List.ext_getElem?
          intro j
          rcases Nat.lt_or_ge j all.size with hj | hj
          · obtain ⟨o, ai, _, k2, _⟩ := hall j hj
            simp [hj, k2]
          · have h1 : ops.length ≤ j := by rw [hlen]; simpa using hj
            rw [List.getElem?_eq_none h1, List.getElem?_eq_none (by simpa using hj)]
        refine wpSIn_region (evOpsD_ok (h := h) hP.glob (f := fun j => ops.getD j default) _ (fun j hj => ?_) (by rw [hmap]; exact hev2) hI hE hG hD hR (.refl _))
        obtain ⟨o, ai, k1, k2, k3⟩ := hall j (by simpa using hj)
        exact ⟨o, k1, by rw [hf j ai k2]; exact k3⟩
      · cases hev
    · exact plain hk hok hev hI hE hG hD hR
  | seq x y ihx ihy =>
    intro c G fr fr' rc rc' s s' ex a w u hk hok hev hI hE hG hD hR
    have hk' := hk
    simp only [cookC] at hk'
    split at hk'
    · rename_i cx cy hx hy
      cases hk'
      simp only [acOk, Bool.and_eq_true] at hok
      simp only [evD] at hev
      split at hev
      · rename_i fr1 rc1 s1 h1
        refine wpSIn_seq (wpSIn_mono (ihx hx hok.1 h1 hI hE hG hD hR) fun e a1 cs1 w1 hq => ?_)
        obtain ⟨u1, G1, hle, hI1, hE1, hD1, hX, rfl, hR1⟩ := hq
        have he := hX.normal_inv rfl
        subst he
        exact wpSIn_mono (ihy hy hok.2 hev hI1 hE1 (hG.mono hle) hD1 hR1) fun e a cs w h => h.le hle
      · rename_i hnn
        refine wpSIn_seq (wpSIn_mono (ihx hx hok.1 hev hI hE hG hD hR) fun e a1 cs1 w1 hq => ?_)
        have hne : ex ≠ .normal := by rintro rfl; exact hnn _ _ _ hev
        obtain ⟨u1, G1, hle, hI1, hE1, hD1, hX, rfl, hR1⟩ := hq
        exact thenS_not_normal (hX.not_normal hne) ⟨u1, G1, hle, hI1, hE1, hD1, hX, rfl, hR1⟩
    · cases hk'
  | cond co x y ihx ihy =>
    intro c G fr fr' rc rc' s s' ex a w u hk hok hev hI hE hG hD hR
    have hk' := hk
    simp only [cookC] at hk'
    split at hk'
    · rename_i ac cx cy hc hx hy
      cases hk'
      simp only [acOk, Bool.and_eq_true] at hok
      simp only [evD] at hev
      have hro := (opn_of hE hG).out _ _ hc
      split at hev
      · rename_i b hb
        rw [hb] at hro
        generalize hv : a.eval co = v at hro
        cases hro
        cases b with
        | true => exact wpSIn_cond hv (ihx hx hok.1 hev hI hE hG hD hR)
        | false => exact wpSIn_cond hv (ihy hy hok.2 hev hI hE hG hD hR)
      · cases hev
    · cases hk'
  | skip => intro c G fr fr' rc rc' s s' ex a w u hk hok hev hI hE hG hD hR; have hk' := hk; simp only [cookC, Option.some.injEq] at hk'; subst hk'; exact plain hk hok hev hI hE hG hD hR
  | label l => intro c G fr fr' rc rc' s s' ex a w u hk hok hev hI hE hG hD hR; have hk' := hk; simp only [cookC, Option.some.injEq] at hk'; subst hk'; exact plain hk hok hev hI hE hG hD hR
  | ret => intro c G fr fr' rc rc' s s' ex a w u hk hok hev hI hE hG hD hR; have hk' := hk; simp only [cookC, Option.some.injEq] at hk'; subst hk'; exact plain hk hok hev hI hE hG hD hR
  | exit id => intro c G fr fr' rc rc' s s' ex a w u hk hok hev hI hE hG hD hR; have hk' := hk; simp only [cookC, Option.some.injEq] at hk'; subst hk'; exact plain hk hok hev hI hE hG hD hR
  | goto l => intro c G fr fr' rc rc' s s' ex a w u hk; simp [cookC] at hk
  | refuse y => intro c G fr fr' rc rc' s s' ex a w u hk; simp [cookC] at hk
  | scope b ih =>
    intro c G fr fr' rc rc' s s' ex a w u hk hok hev hI hE hG hD hR
    have hk' := hk
    simp only [cookC, Option.map_eq_some_iff] at hk'
    obtain ⟨cb, _, rfl⟩ := hk'
    exact plain hk hok hev hI hE hG hD hR
  | block id b ih =>
    intro c G fr fr' rc rc' s s' ex a w u hk hok hev hI hE hG hD hR
    have hk' := hk
    simp only [cookC, Option.map_eq_some_iff] at hk'
    obtain ⟨cb, _, rfl⟩ := hk'
    exact plain hk hok hev hI hE hG hD hR
  | loop b ih =>
    intro c G fr fr' rc rc' s s' ex a w u hk hok hev hI hE hG hD hR
    have hk' := hk
    simp only [cookC, Option.map_eq_some_iff] at hk'
    obtain ⟨cb, _, rfl⟩ := hk'
    exact plain hk hok hev hI hE hG hD hR
  | rangeFunc g ps as bd iha ihb =>
    intro c G fr fr' rc rc' s s' ex a w u hk hok hev hI hE hG hD hR
    have hk' := hk
    simp only [cookC] at hk'
    split at hk'
    · cases hk'
      exact plain hk hok hev hI hE hG hD hR
    · cases hk'

theorem RcMode.of_mode {G : Gh} {m : DM} {u : FrameMode} (h : ModeOk G m u) : RcMode G (rcOf m) u := by
  cases m <;> cases u <;> exact h

end
end Go.Fw
