/- The framework, part 6f: a region. -/
import Derived.Test.YthmlommnlihgcaaGreatDoorFwReg5
import Derived.OrdersIn
namespace Go.Fw
open Go

/-- How cooked code ends, and how the model's does. -/
def ExOk (G : Gh) : AExit → Exit → Prop
  | .normal, .normal => True
  | .exit i, .exit j => i = j
  | .ret, .ret => True
  | .panic v, .panic chain => ∃ x, chain = [{ v := x, recovered := false }] ∧ R G (.v v x)
  | _, _ => False

/-- What is asked behind cooked code. -/
def CQ (P : Program) (B : Bs) (nt : Nat) (G : Gh) (ex : AExit) (fr : Fr) (s : ASt) (e : Exit) (a : Act) (w : World) : Prop :=
  ∃ G', G.le G' ∧ Inv P B G' s w ∧ EnvOk G' nt fr.env a.tmps ∧ DsOk G' fr.ds a.defers ∧ ExOk G' ex e

theorem CQ.le {P : Program} {B : Bs} {nt : Nat} {G G1 : Gh} {ex : AExit} {fr : Fr} {s : ASt} {e : Exit} {a : Act} {w : World} (hle : G.le G1) (h : CQ P B nt G1 ex fr s e a w) : CQ P B nt G ex fr s e a w := by
  obtain ⟨G', h1, h2⟩ := h; exact ⟨G', hle.trans h1, h2⟩

def OQ (P : Program) (B : Bs) (nt : Nat) (G : Gh) (r : OpsR) : Exit → Act → World → Prop :=
  match r with
  | .norm fr s => CQ P B nt G .normal fr s
  | .pan v fr s => CQ P B nt G (.panic v) fr s

theorem OQ.le {P : Program} {B : Bs} {nt : Nat} {G G1 : Gh} {r : OpsR} {e : Exit} {a : Act} {w : World} (hle : G.le G1) (h : OQ P B nt G1 r e a w) : OQ P B nt G r e a w := by
  cases r <;> exact CQ.le hle h

/-- What is asked of an operation of a region. -/
structure OpOk (P : Program) (h : Hint) (nt : Nat) (rb : Option Nat) (all : Array Oper) (o : Oper) (ai : AI) : Prop where
  c : Cooked P h all o ai
  wr : ∀ t ∈ writesOf ai, t < nt
  rd : ∀ f xs, ai.op = .defer f xs → rb = none
  gs : ai.gd ≠ none → skipOk ai.op = true

section
variable {P : Program} {B B' : Bs} {P' : AProg} {nt : Nat} {pd : List (Nat × Nat)} {fr : Fr} {e : Env} {ds ds' : List ADef} {s s' : ASt} {a : Act} {w : World} {G G0 : Gh}
variable {H : Handler} {rb : Option Nat} {all : Array Oper} {o : Oper} {ai : AI} {h : Hint}

theorem RI.cq (hi : RI P B P' nt pd fr s a w G B') (hle : G0.le G) : CQ P B nt G0 .normal fr s .normal a w := ⟨G, hle, hi.inv.base hi.ext, hi.env, hi.ds, trivial⟩

theorem call_ok (hH : HOk P P' H) {f : AOpnd} {args : List AOpnd} {gd : Option (Nat × Bool)} {pre : List Nat} {d : Option Nat} (hc : OpOk P h nt rb all o ⟨d, .call f args, gd, pre⟩) (hi : RI P B P' nt pd ⟨e, ds⟩ s a w G B')
    (hwt : wanted e gd = some true) {g : AFn} {x y : List AV} (ht : target (evO P' e f) = some (g, x, y)) {vs : List AV} {s1 : ASt} (hvs : fixvs s (args.map (evO P' e)) = some (vs, s1)) {r : ARes} {s2 : ASt}
    (hcall : H.call g (x ++ vs ++ y) s1 = some (r, s2)) {K : Act → World → Prop} {Q : Exit → Act → World → Prop}
    (hK : ∀ v a' w' G' B'', r = .ret v → G.le G' → RI P B P' nt (dropPend d pd) ⟨updO e d v, ds⟩ s2 a' w' G' B'' → K a' w')
    (hQ : ∀ v x w', r = .panic v → CQ P B nt G (.panic v) ⟨e, ds⟩ s2 (.panic [{ v := x, recovered := false }]) a w' → Q (.panic [{ v := x, recovered := false }]) a w') : Step1 rb P all o a w K Q := by
  have hcd := hc.c.d
  simp only at hcd
  subst hcd
  have hd : ∀ t, o.dst = some t → t < nt := fun t ht => hc.wr t (by simp [writesOf, ht])
  have hw := wanted_ok (fr := ⟨e, ds⟩) hc.c hi.env hwt
  have hO : Opn P' e G a.eval := opn_of hi.env hi.glob
  have hk := hc.c.op.resolve_left (by simp)
  obtain ⟨c, fo, ho, hcal, hfo, hargs, _⟩ := cook_call (.inl hk)
  have hnd : ∀ c, o.op ≠ .defer c := by simp [ho]
  obtain ⟨G1, hle1, hI1, hr1⟩ := fixvs_ok hi.inv (opnds_ok hO hargs) hvs
  have hrf := (hO.out _ _ hfo).mono hle1
  have hg1 := hi.glob.mono hle1
  have hret : ∀ xv w', CPost P B' G1 s2 r (.returned xv) w' → K (a.put o.dst xv) w' := by
    rintro xv w' ⟨G2, hle2, hI2, hres⟩
    cases r with
    | ret v => exact hK v _ _ G2 B' rfl (hle1.trans hle2) (hi.put (hle1.trans hle2) hI2 hd hres)
    | panic v => exact hres.elim
  have hpan : ∀ ch w', CPost P B' G1 s2 r (.panicked ch) w' → Q (.panic ch) a w' := by
    rintro ch w' ⟨G2, hle2, hI2, hres⟩
    cases r with
    | ret v => exact hres.elim
    | panic v =>
      obtain ⟨x, rfl, hx⟩ := hres
      exact hQ v x w' rfl ⟨G2, hle1.trans hle2, hI2.base hi.ext, hi.env.mono (hle1.trans hle2), hi.ds.mono (hle1.trans hle2), x, rfl, hx⟩
  have hout : ∀ w', ¬ CPost P B' G1 s2 r .outgrown w' := by
    rintro w' ⟨G2, _, _, hres⟩
    cases r <;> exact hres.elim
  generalize hfv : a.eval fo = fv at hrf
  generalize evO P' e f = av at ht hrf
  cases hrf with
  | @func g' a' b' fa fb ha hb =>
    simp only [target, Option.some.injEq, Prod.mk.injEq] at ht
    obtain ⟨rfl, rfl, rfl⟩ := ht
    have hr : R G1 (.l (a' ++ vs ++ b') (fa ++ c.args.toList.map a.eval ++ fb)) := (ha.l_append hr1).l_append hb
    have hup := hH.func g' _ _ _ _ hcall B' G1 w _ hI1 hg1 hr
    refine step_upon (about_func ho hcal hfv (by obtain ⟨n, w1, h1, _⟩ := hup; exact callFunc_valid h1)) hw hnd (R := CPost P B' G1 s2 r) ?_ hret hpan hout
    have he : (execOp a.eval o).run P w = (callFunc g' (fa ++ c.args.toList.map a.eval ++ fb).toArray).run P w := by
      rw [execOp_call ho hcal hfv, args_arr]
      rfl
    unfold Upon
    rw [he]
    exact hup
  | @yield l b hLb =>
    simp only [target, Option.some.injEq, Prod.mk.injEq] at ht
    obtain ⟨rfl, rfl, rfl⟩ := ht
    have hr : R G1 (.l ([] ++ vs ++ []) (c.args.toList.map a.eval)) := by simpa using hr1
    obtain ⟨f', tmps, as, bd, h1, h2⟩ := hH.yield l _ _ _ _ hcall B' G1 w _ b hI1 hg1 hr hLb
    refine step_round (about_yield ho hcal hfv) hw hnd (R := CPost P B' G1 s2 r) ?_ h2 hret hpan hout
    have e1 : (c.args.toList.map a.eval).toArray = #[] ++ c.args.map a.eval := by apply Array.toList_inj.1; simp
    rw [execOp_call ho hcal hfv, ← e1]
    exact h1
  | _ => simp [target] at ht

/-- The operations, in an order. -/
theorem op_ok (hH : HOk P P' H) (hp : ∀ g, pureV (P'.gl g) = true) {rest : List AI} {r : OpsR} (hc : OpOk P h nt rb all o ai) (hi : RI P B P' nt pd fr s a w G B') (hr : evOps H P' (ai :: rest) pd fr s = some r) {K : Act → World → Prop}
    (hK : ∀ pd' fr' s' a' w' G' B'', evOps H P' rest pd' fr' s' = some r → G.le G' → RI P B P' nt pd' fr' s' a' w' G' B'' → K a' w') : Step1 rb P all o a w K (OQ P B nt G r) := by
  obtain ⟨e, ds⟩ := fr
  by_cases h3 : opCls ai.op = 3
  · obtain ⟨d, op, gd, pre⟩ := ai
    have hcd := hc.c.d
    simp only at hcd
    subst hcd
    have hd : ∀ t, o.dst = some t → t < nt := fun t ht => hc.wr t (by simp [writesOf, ht])
    simp only [evOps] at hr
    split at hr
    · cases hr
    · rename_i hwt
      split at hr
      case h_2 => cases hr
      rename_i hsk
      have hw := wanted_ok (fr := ⟨e, ds⟩) hc.c hi.env hwt
      unfold Step1
      rw [if_neg (by rw [hw]; simp)]
      exact ⟨about_skip (fun _ => rfl) (hO := opn_of hi.env hi.glob) (hk := hsk) hc.c (hc.gs (fun hn => by simp only at hn; rw [hn] at hwt; simp [wanted] at hwt)), hK _ _ _ _ _ G B' hr (.refl _) (hi.quiet hi.inv.quiet hd .undef')⟩
    · rename_i hwt
      cases op with
      | call f args =>
        simp only at hr
        split at hr
        · rename_i g x y vs s1 ht hvs
          split at hr
          · rename_i v s2 hcall
            refine call_ok hH hc hi hwt ht hvs hcall (fun v' a' w' G' B'' hv hle hri => ?_) (fun v' x w' hv => by cases hv)
            cases hv
            exact hK _ _ _ _ _ _ _ hr hle hri
          · rename_i v s2 hcall
            cases hr
            refine call_ok hH hc hi hwt ht hvs hcall (fun v' a' w' G' B'' hv => by cases hv) (fun v' x w' hv hcq => ?_)
            cases hv
            exact hcq
          · cases hr
        · cases hr
      | panic x =>
        simp only at hr
        split at hr
        · rename_i t v hx
          cases hr
          have hw := wanted_ok (fr := ⟨e, ds⟩) hc.c hi.env hwt
          have hO : Opn P' e G a.eval := opn_of hi.env hi.glob
          obtain ⟨xo, ho, hxo⟩ := cook_panic (hc.c.op.resolve_left (by simp))
          have hrx := hO.out _ _ hxo
          rw [hx] at hrx
          generalize hxv : a.eval xo = xv at hrx
          cases hrx with
          | @iface _ _ y hy =>
          unfold Step1
          rw [if_pos hw]
          refine ⟨about_ne (by simp [ho]), ?_⟩
          have hrun : (o.semAt (FR P rb).round a.eval).run P w = .halt (.panic (.iface t y)) w := by
            rw [Oper.semAt_eq _ _ _ (by simp [ho])]
            simp only [execOp, ho, hxv, Sem.run_bind]
            rfl
          rw [hrun]
          exact ⟨G, .refl _, hi.inv.base hi.ext, hi.env, hi.ds, _, rfl, .iface hy⟩
        · cases hr
      | callP st f args => cases st <;> simp [opCls] at h3
      | append tk a b c d => cases tk <;> simp [opCls] at h3
      | _ => simp [opCls] at h3
  · rw [evOps_eff h3] at hr
    split at hr
    · rename_i E ds' s' hE
      cases hok : okPd E pd with
      | false => rw [hok] at hr; cases hr
      | true =>
        rw [hok] at hr
        exact eff_ok hH hp hc.c hc.gs hi hc.wr hc.rd hE hok fun a' w' G' B'' hle hri => hK _ _ _ _ _ _ _ hr hle hri
    · cases hr

theorem ops_ok (hH : HOk P P' H) (hp : ∀ g, pureV (P'.gl g) = true) {r : OpsR} {f : Nat → AI} : ∀ (l : List Nat), (∀ j ∈ l, ∃ o, all[j]? = some o ∧ OpOk P h nt rb all o (f j)) → ∀ {pd : List (Nat × Nat)} {fr : Fr} {s : ASt} {a : Act} {w : World} {G : Gh} {B' : Bs},
    RI P B P' nt pd fr s a w G B' → evOps H P' (l.map f) pd fr s = some r → G0.le G → wpOpsIn (FR P rb) 0 P all (OQ P B nt G0 r) l a w
  | [], _, pd, fr, s, a, w, G, B', hi, hr, hle => by
    simp only [List.map_nil, evOps, Option.some.injEq] at hr
    subst hr
    exact hi.cq hle
  | j :: l, hl, pd, fr, s, a, w, G, B', hi, hr, hle => by
    obtain ⟨o, ho, hok⟩ := hl j (by simp)
    simp only [List.map_cons] at hr
    have hs := op_ok hH hp hok hi hr (K := wpOpsIn (FR P rb) 0 P all (OQ P B nt G0 r) l) fun pd' fr' s' a' w' G' B'' hr' hle' hi' =>
      ops_ok hH hp l (fun j hj => hl j (by simp [hj])) hi' hr' (hle.trans hle')
    rw [wpOpsIn_cons]
    simp only [wpOpIn, ho]
    unfold Step1 at hs
    split
    · rename_i hw
      rw [if_pos hw] at hs
      refine ⟨hs.1, ?_⟩
      exact uponIn_mono (fun a w h => h) (fun e a w h => OQ.le hle h) hs.2
    · rename_i hw
      rw [if_neg hw] at hs
      exact hs
where
  uponIn_mono {F : Fence} {n : Nat} {o : Oper} {a : Act} {K K' : Act → World → Prop} {Q Q' : Exit → Act → World → Prop} (hk : ∀ a w, K a w → K' a w) (hq : ∀ e a w, Q e a w → Q' e a w) {r : Result Next}
      (hh : o.uponIn F n P a K Q r) : o.uponIn F n P a K' Q' r := by
    cases r with
    | ok x w' =>
      cases x <;> simp only [Oper.uponIn] at hh ⊢ <;>
        first
          | exact hk _ _ hh
          | exact ⟨hh.1, CallsIn.mono hh.2 (fun e w'' he => by cases e <;> first | exact hk _ _ he | exact hq _ _ _ he | exact (let ⟨a, w, h⟩ := he; ⟨a, w, hq _ _ _ h⟩))⟩
          | exact ⟨hh.1, RowsIn.mono hh.2 (fun _ _ he => hk _ _ he)⟩
          | exact ⟨hh.1, RoundIn.mono hh.2 (fun e w'' he => by cases e <;> first | exact hk _ _ he | exact hq _ _ _ he | exact (let ⟨a, w, h⟩ := he; ⟨a, w, hq _ _ _ h⟩))⟩
    | halt x w' => cases x <;> simp only [Oper.uponIn] at hh ⊢ <;> exact hq _ _ _ hh

end
end Go.Fw
