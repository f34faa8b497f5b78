/- The framework, part 6e: one operation, in the model. -/
import Derived.Test.YthmlommnlihgcaaGreatDoorFwReg4
namespace Go.Fw
open Go
section
variable {P : Program} {B B' : Bs} {P' : AProg} {nt : Nat} {pd : List (Nat × Nat)} {fr : Fr} {e : Env} {ds ds' : List ADef} {s s' : ASt} {a : Act} {w : World} {G : Gh}
variable {H : Handler} {rb : Option Nat} {all : Array Oper} {o : Oper} {ai : AI} {h : Hint} {E : Eff} {K : Act → World → Prop} {Q : Exit → Act → World → Prop}

/-- A new variable that waits to be filled. -/
theorem RI.pend_new (hi : RI P B P' nt pd ⟨e, ds⟩ s a w G B') {d n : Nat} (hd : d < nt) (vs : List Value) (hn : vs.length = n) (t : TypeId) :
    ∃ B'', RI P B P' nt ((d, n) :: dropPend (some d) pd) ⟨upd e d .junk, ds⟩ s (a.put (some d) (.pointer (some ⟨w.heap.size, 0, none⟩))) (w.alloc (.cells vs.toArray t (0, 0))) G B'' := by
  have hB' : ∀ x, B'.Pr x → x < w.heap.size := fun x hx => Nat.lt_of_lt_of_le (B'.lt x hx) hi.inv.size
  have hI1 := hi.inv.alloc (.cells vs.toArray t (0, 0))
  have hlt : ∀ x, (B'.Pr x ∨ x = w.heap.size) → x < (w.alloc (.cells vs.toArray t (0, 0))).heap.size := by
    rintro x (hx | rfl)
    · have := hB' x hx; simp; omega
    · simp
  refine ⟨B'.now (w.alloc (.cells vs.toArray t (0, 0))) G (fun x => B'.Pr x ∨ x = w.heap.size) hlt, ?_, ?_, ?_, ?_, hi.glob, hi.ds⟩
  · exact hI1.ext_now hi.ext _ _ fun b hb => .inl (hi.ext.pr b hb)
  · refine hI1.rebase _ _ (fun ℓ b hl => ?_) (fun t n b c sz ht hh => ?_)
    · have := hi.inv.l ℓ b hl
      rintro (hx | rfl)
      · exact this.2.2 hx
      · exact absurd this.2.1 (Nat.lt_irrefl _)
    · obtain ⟨b', c', sz', k⟩ := hi.inv.tok t n ht
      have := k.h.symm.trans hh
      cases this
      rintro (hx | rfl)
      · exact k.np hx
      · exact absurd k.lt (Nat.lt_irrefl _)
  · have hold := hi.pend.put (some d) (.pointer (some ⟨w.heap.size, 0, none⟩))
    have hsz : d < a.tmps.size := by rw [hi.env.1]; exact hd
    have hnew : (a.put (some d) (.pointer (some ⟨w.heap.size, 0, none⟩))).tmps.getD d undef = .pointer (some ⟨w.heap.size, 0, none⟩) := getD_put_same hsz
    have hnB : ¬ B.Pr w.heap.size := fun hx => absurd (hB' _ (hi.ext.pr _ hx)) (Nat.lt_irrefl _)
    refine ⟨fun d' n' hm => ?_, fun d1 n1 d2 n2 b h1 h2 h3 h4 => ?_⟩
    · rcases List.mem_cons.1 hm with hm | hm
      · cases hm
        refine ⟨w.heap.size, t, vs, hnew, hnB, .inr rfl, heap_alloc_eq, hn, fun o => hi.inv.Mnew o⟩
      · obtain ⟨b, el, us, h1, h2, h3, h4, h5, h6⟩ := hold.at_ d' n' hm
        have hb := hB' b h3
        refine ⟨b, el, us, h1, h2, .inl h3, ?_, h5, fun o => ?_⟩
        · exact (heap_alloc_ne (Nat.ne_of_lt hb)).trans ((hi.inv.pr b h3).trans h4)
        · exact (hi.inv.prM b h3 o).trans (h6 o)
    · have hlt' : ∀ d' n', (d', n') ∈ dropPend (some d) pd → (a.put (some d) (.pointer (some ⟨w.heap.size, 0, none⟩))).tmps.getD d' undef = .pointer (some ⟨b, 0, none⟩) → b < w.heap.size := by
        intro d' n' hm hq
        obtain ⟨b', el, us, h1, h2, h3, _⟩ := hold.at_ d' n' hm
        have h1' : (a.put (some d) (.pointer (some ⟨w.heap.size, 0, none⟩))).tmps.getD d' undef = .pointer (some ⟨b', 0, none⟩) := h1
        rw [h1'] at hq; cases hq
        exact hB' _ h3
      rcases List.mem_cons.1 h1 with h1 | h1 <;> rcases List.mem_cons.1 h2 with h2 | h2
      · cases h1; cases h2; rfl
      · cases h1; rw [hnew] at h3; cases h3; exact absurd (hlt' _ _ h2 h4) (Nat.lt_irrefl _)
      · cases h2; rw [hnew] at h4; cases h4; exact absurd (hlt' _ _ h1 h3) (Nat.lt_irrefl _)
      · exact hold.inj d1 n1 d2 n2 b h1 h2 h3 h4
  · exact hi.env.put hd (.junk _)

/-- A guarded block is turned, and no longer guarded. -/
theorem Inv.putGuard (hI : Inv P B' G s w) {b : Nat} (hb : B'.Pr b) (hM : ∀ o, G.M b o = none) (o' : Obj) (lt : ∀ x, (B'.Pr x ∧ x ≠ b) → x < (w.putObj b o').heap.size) :
    Inv P ⟨fun x => B'.Pr x ∧ x ≠ b, w.putObj b o', G.M, lt⟩ G s (w.putObj b o') := by
  have hne : ∀ {x}, x ≠ b → (w.putObj b o').heap[x]? = w.heap[x]? := fun hx => World.putObj_heap_other hx
  have hsz : (w.putObj b o').heap.size = w.heap.size := by simp
  have hL : ∀ ℓ x, G.L ℓ = some x → x ≠ b := fun ℓ x hx q => (hI.l ℓ x hx).2.2 (q ▸ hb)
  exact {
    os := rfl, tape := rfl, output := rfl, size := Nat.le_refl _, pr := fun _ _ => rfl, prM := fun _ _ _ => rfl
    m := fun x o v hv => by
      have hx : x ≠ b := fun q => by subst q; rw [hM o] at hv; cases hv
      rw [cell_heap (hne hx)]; exact hI.m x o v hv
    l := fun ℓ x hx => ⟨(hI.l ℓ x hx).1, by rw [hsz]; exact (hI.l ℓ x hx).2.1, fun hp => (hI.l ℓ x hx).2.2 hp.1⟩
    inj := hI.inj
    blk := fun ℓ x o k hx ho hk => by rw [hne (hL ℓ x hx)] at ho; exact hI.blk ℓ x o k hx ho hk
    tok := fun t n ht => by
      obtain ⟨x, c, sz, k⟩ := hI.tok t n ht
      have hx : x ≠ b := fun q => k.np (q ▸ hb)
      exact ⟨x, c, sz, k.h, fun hp => k.np hp.1, by rw [hsz]; exact k.lt, by rw [hne hx]; exact k.blk, k.szp, k.nc, k.cm, k.m, k.l⟩
    tinj := hI.tinj, hh := hI.hh, tot := hI.tot }

/-- It is filled. -/
theorem RI.shut (hi : RI P B P' nt pd ⟨e, ds⟩ s a w G B') {d sz : Nat} (hd : d < nt) (hm : (d, sz) ∈ pd) {v : AV} {us : List Value} (hc : R G (.c v us)) (hl : us.length = sz) :
    ∃ b el vs G' B'', a.tmps.getD d undef = .pointer (some ⟨b, 0, none⟩) ∧ w.heap[b]? = some (.cells (List.toArray vs) el (0, 0)) ∧ vs.length = sz ∧ G.le G' ∧
      RI P B P' nt (dropPend (some d) pd) ⟨upd e d (.cptr v 0), ds⟩ s a (w.putObj b (.cells us.toArray el (0, 0))) G' B'' := by
  obtain ⟨b, el, vs, h1, h2, h3, h4, h5, h6⟩ := hi.pend.at_ d sz hm
  have hbl : b < w.heap.size := Nat.lt_of_lt_of_le (B'.lt b h3) hi.inv.size
  have hheap : w.heap[b]? = some (.cells vs.toArray el (0, 0)) := (hi.inv.pr b h3).trans h4
  have hM : ∀ o, G.M b o = none := fun o => (hi.inv.prM b h3 o).trans (h6 o)
  have hne : ∀ {x}, x ≠ b → (w.putObj b (.cells us.toArray el (0, 0))).heap[x]? = w.heap[x]? := fun hx => World.putObj_heap_other hx
  have lt : ∀ x, (B'.Pr x ∧ x ≠ b) → x < (w.putObj b (.cells us.toArray el (0, 0))).heap.size := fun x hx => by
    have := Nat.lt_of_lt_of_le (B'.lt x hx.1) hi.inv.size
    simpa using this
  have hI1 := hi.inv.putGuard h3 hM (.cells us.toArray el (0, 0)) lt
  have hI2 := hI1.addM_free (b := b) (vs := us) (World.putObj_heap_same hbl) hM (fun ℓ hℓ => (hi.inv.l ℓ b hℓ).2.2 h3) (fun t n b' c sz ht hh q => by
    obtain ⟨b2, c2, sz2, k⟩ := hi.inv.tok t n ht
    have := k.h.symm.trans hh
    cases this
    exact k.np (q ▸ h3)) (fun hp => hp.2 rfl) 0 us.length
  have hle : G.le (G.addM b 0 us.length us) := Gh.addM_le fun o _ _ x hx => by rw [hM o] at hx; cases hx
  refine ⟨b, el, vs, _, _, h1, hheap, h5, hle, ?_, hI2, ?_, ?_, hi.glob.mono hle, hi.ds.mono hle⟩
  · exact {
      pr := fun x hx => ⟨hi.ext.pr x hx, fun q => h2 (q ▸ hx)⟩
      os := hi.inv.os.trans hi.ext.os
      tape := hi.inv.tape.trans hi.ext.tape
      output := hi.inv.output.trans hi.ext.output
      size := by simpa using Nat.le_trans hi.ext.size hi.inv.size
      heap := fun x hx => (hne (fun q => h2 (q ▸ hx))).trans ((hi.inv.pr x (hi.ext.pr x hx)).trans (hi.ext.heap x hx))
      M0 := fun x hx o => (hi.inv.prM x (hi.ext.pr x hx) o).trans (hi.ext.M0 x hx o) }
  · refine ⟨fun d' n' hm' => ?_, fun d1 n1 d2 n2 b' q1 q2 q3 q4 => hi.pend.inj d1 n1 d2 n2 b' (mem_dropPend q1).1 (mem_dropPend q2).1 q3 q4⟩
    obtain ⟨hm1, hm2⟩ := mem_dropPend hm'
    obtain ⟨b', el', vs', k1, k2, k3, k4, k5, k6⟩ := hi.pend.at_ d' n' hm1
    have hbb : b' ≠ b := fun q => by subst q; exact hm2 d rfl (hi.pend.inj _ _ _ _ _ hm1 hm k1 h1)
    refine ⟨b', el', vs', k1, k2, ⟨k3, hbb⟩, ?_, k5, fun o => ?_⟩
    · exact (hne hbb).trans ((hi.inv.pr b' k3).trans k4)
    · exact (hi.inv.prM b' k3 o).trans (k6 o)
  · refine ⟨hi.env.1, fun i => ?_⟩
    unfold upd
    by_cases q : i = d
    · subst q
      rw [h1]
      simp only [Nat.beq_refl]
      have := R.cptr (G := G.addM b 0 us.length us) (v := v) (vs := us) (b := b) (o := 0) 0 (hc.mono hle) (fun j x hx => by
        have hj : j < us.length := by
          rcases Nat.lt_or_ge j us.length with q | q
          · exact q
          · rw [List.getElem?_eq_none q] at hx; cases hx
        rw [Nat.zero_add, addM_in (Nat.zero_le _) hj]; exact hx)
      simpa using this
    · simp only [beq_ne q]; exact (hi.env.2 i).mono hle

theorem args_arr {fa fb : List Value} {α : Type} {xs : Array α} {ρ : α → Value} : (fa ++ xs.toList.map ρ ++ fb).toArray = fa.toArray ++ xs.map ρ ++ fb.toArray := by
  apply Array.toList_inj.1; simp

theorem eff_ok (hH : HOk P P' H) (hp : ∀ g, pureV (P'.gl g) = true) (hc : Cooked P h all o ai) (hgs : ai.gd ≠ none → skipOk ai.op = true) (hi : RI P B P' nt pd ⟨e, ds⟩ s a w G B') (hwr : ∀ t ∈ writesOf ai, t < nt)
    (hrd : ∀ f xs, ai.op = .defer f xs → rb = none) (hE : eff H P' ai e ds s = some (E, ds', s')) (hok : okPd E pd = true)
    (hK : ∀ a' w' G' B'', G.le G' → RI P B P' nt (pdOf E pd) ⟨updO e E.t E.v, ds'⟩ s' a' w' G' B'' → K a' w') : Step1 rb P all o a w K Q := by
  obtain ⟨d, op, gd, pre⟩ := ai
  have hcd := hc.d
  simp only at hcd
  subst hcd
  have hd : ∀ t, o.dst = some t → t < nt := fun t ht => hwr t (by simp [writesOf, ht])
  have hO : Opn P' e G a.eval := opn_of hi.env hi.glob
  have hcst : ∀ v, a.eval (.const v) = v := fun _ => rfl
  simp only [eff] at hE
  split at hE
  · cases hE
  · rename_i hwt
    split at hE
    case h_2 => cases hE
    rename_i hsk
    cases hE
    have hw := wanted_ok (fr := ⟨e, ds⟩) hc hi.env hwt
    unfold Step1
    rw [if_neg (by rw [hw]; simp)]
    refine ⟨about_skip (fun _ => rfl) (hO := hO) (hk := hsk) hc (hgs (fun hn => by simp only at hn; rw [hn] at hwt; simp [wanted] at hwt)), hK _ _ G B' (.refl _) ?_⟩
    rw [pdOf_plain]
    exact hi.quiet hi.inv.quiet hd .undef'
  · rename_i hwt
    have hw := wanted_ok (fr := ⟨e, ds⟩) hc hi.env hwt
    have hcop := hc.op
    simp only at hcop
    cases op with
    | pend z =>
      simp only at hE
      split at hE
      · rename_i d0 hd0
        cases hE
        have hk := hcop.resolve_left (by simp)
        obtain ⟨t, ho, hz⟩ := cook_pend hk
        obtain ⟨i, zv, hti, hzv, hr⟩ := zeroOf_ok (G := G) hz
        obtain ⟨B'', hRI⟩ := hi.pend_new (hd d0 hd0) zv.cells.toList hr.k_length.symm t
        refine step_value (about_ne (by simp [ho])) hw (by simp [ho]) (n := .value (.pointer (some ⟨w.heap.size, 0, none⟩))) (w' := w.alloc (.cells zv.cells.toList.toArray t (0, 0))) ?_ (.inl rfl) ?_
        · simp [execOp, ho, Instr.alloc, run_zeroValue' hti hzv, newVar, newRow]
        · rw [hd0]; exact hK _ _ _ _ (.refl _) hRI
      · cases hE
    | shut d0 sz x =>
      simp only at hE
      split at hE
      · rename_i v hd0 hv
        split at hE
        · rename_i hsz
          cases hE
          have hk := hcop.resolve_left (by simp)
          obtain ⟨t, ti, xv, ho, hti, hx, rfl⟩ := cook_shut hk
          obtain ⟨_, hcx⟩ := fixP_ok hv (hO.out _ _ hx)
          have hm : (d0, P.cellsOf t) ∈ pd := by
            simp only [okPd, List.any_eq_true, Bool.and_eq_true] at hok
            obtain ⟨p, hp1, hp2, hp3⟩ := hok
            obtain ⟨p1, p2⟩ := p
            have e1 := Nat.eq_of_beq_eq_true hp2
            have e2 := Nat.eq_of_beq_eq_true hp3
            simp only at e1 e2
            subst e1; subst e2; exact hp1
          have hul : (a.eval xv).cells.toList.length = P.cellsOf t := by rw [← hcx.c_length, hsz]
          obtain ⟨b, el, vs, G', B'', k1, k2, k3, k4, k5⟩ := hi.shut (hwr d0 (by simp [writesOf])) hm hcx hul
          have hrun := run_storeCells_all (P := P) k2 (us := (a.eval xv).cells.toList) (by rw [hul, k3]) hcx.c_k.k_one
          have hta : a.eval (.tmp d0) = .pointer (some ⟨b, 0, none⟩) := k1
          refine step_value (about_ne (by simp [ho])) hw (by simp [ho]) (n := .skip) (x := undef) (w' := w.putObj b (.cells (a.eval xv).cells.toList.toArray el (0, 0))) ?_ (.inr ⟨rfl, rfl⟩) ?_
          · have hsz' : (a.eval xv).cells.size = P.cellsOf t := by rw [← hul]; simp
            have hrun' : (storeCells ⟨b, 0, none⟩ (a.eval xv).cells.toList).run P w = .ok () (w.putObj b (.cells (a.eval xv).cells (el) (0, 0))) := by simpa using hrun
            simp [execOp, ho, hta, Instr.storeAt, Instr.sureAddr, storeVar, run_sizeOf' hti, hsz', hrun']
          · rw [show o.dst = none from hd0]
            exact hK _ _ _ _ k4 k5
        · cases hE
      · cases hE
    | defer f args =>
      simp only at hE
      split at hE
      · rename_i g x y vs hf hvs
        cases hE
        have hk := hcop.resolve_left (by simp)
        obtain ⟨c, fo, ho, hcal, hfo, hargs⟩ := cook_defer hk
        have hrf := hO.out _ _ hfo
        rw [hf] at hrf
        have hrx := fixPs_ok hvs (opnds_ok hO hargs)
        generalize hfv : a.eval fo = fv at hrf
        cases hrf with
        | @func _ _ _ fa fb ha hb =>
        have hrb := hrd f args rfl
        subst hrb
        unfold Step1
        rw [if_pos hw]
        refine ⟨about_ne (by simp [ho]), ?_⟩
        have hrun : (Oper.semAt (FR P none).round a.eval o).run P w = .ok (.defer { target := .fn (.func g) fb.toArray, args := fa.toArray ++ c.args.map a.eval }) w := by
          show (execOp a.eval o).run P w = _
          simp [execOp, ho, run_resolve hcal hfv]
        rw [hrun]
        refine hK _ _ G B' (.refl _) ?_
        rw [pdOf_plain]
        have := hi.quiet hi.inv.quiet hd R.undef'
        refine ⟨this.ext, this.inv, ?_, ?_, this.glob, ?_⟩
        · have hp := this.pend; rw [put_tmps] at hp ⊢; exact hp
        · have hp := this.env; rw [put_tmps] at hp ⊢; exact hp
        · rw [put_defers]
          refine .cons ⟨fb, fa ++ (c.args.toList.map a.eval), rfl, by simp, ?_⟩ hi.ds
          simpa using (ha.l_append hrx).l_append hb
      · cases hE
    | panic x => simp only at hE; cases hE
    | call f args => simp only at hE; cases hE
    | callP st f args =>
      simp only at hE
      split at hE
      · rename_i g x y vs hf hvs
        split at hE
        · rename_i v s2 hpure hcall
          split at hE
          · rename_i v' hv'
            split at hE
            · rename_i hpv
              cases hE
              have hk := hcop.resolve_left (by simp)
              obtain ⟨c, fo, ho, hcal, hfo, hargs, _⟩ := cook_call (.inr ⟨st, hk⟩)
              have hrf := hO.out _ _ hfo
              rw [hf] at hrf
              have hrx := fixPs_ok hvs (opnds_ok hO hargs)
              generalize hfv : a.eval fo = fv at hrf
              cases hrf with
              | @func _ _ _ fa fb ha hb =>
              have hargs' : R G (.l (x ++ vs ++ y) (fa ++ c.args.toList.map a.eval ++ fb)) := (ha.l_append hrx).l_append hb
              have hsw : R (bareG G) (.l (x ++ vs ++ y) (fa ++ c.args.toList.map a.eval ++ fb)) := hargs'.swap (by
                simp only [Bool.or_eq_true, Bool.and_eq_true] at hpure
                rcases hpure with hq | hq
                · exact .inr (hi.inv.noLH_of hq.2)
                · exact .inl hq)
              have hup := hH.func g _ _ _ _ hcall (bareB w G) (bareG G) w _ hi.inv.bare (hi.glob.bare hp) hsw
              refine step_upon (about_func ho hcal hfv (by obtain ⟨n, w1, h1, _⟩ := hup; exact callFunc_valid h1)) hw (by simp [ho]) (R := CPost P (bareB w G) (bareG G) s2 (.ret v)) ?_ (fun x' w' hR => ?_) (fun ch w' hR => ?_) (fun w' hR => ?_)
              · have he : (execOp a.eval o).run P w = (callFunc g (fa ++ c.args.toList.map a.eval ++ fb).toArray).run P w := by
                  rw [execOp_call ho hcal hfv, args_arr]
                  rfl
                unfold Upon
                rw [he]
                exact hup
              · obtain ⟨G2, hle, hI2, hres⟩ := hR
                have hq := hi.inv.unbare hle hI2
                have hr2 : R ⟨G2.M, G.L, G.H⟩ (.v v' x') := (fixR_ok hv' hres).swap (by
                  simp only [Bool.or_eq_true] at hpv
                  rcases hpv with hq | hq
                  · exact .inr (hI2.noLH_of hq)
                  · exact .inl hq)
                have := hi.quiet hq hd hr2
                exact hK _ _ _ B' hq.le (by rw [pdOf_plain]; exact this)
              · obtain ⟨G2, hle, hI2, hres⟩ := hR; exact hres.elim
              · obtain ⟨G2, hle, hI2, hres⟩ := hR; exact hres.elim
            · cases hE
          · cases hE
        · cases hE
      · cases hE
    | _ =>
      simp only at hE
      have hnd : ∀ c, o.op ≠ .defer c := by
        rcases hcop with hq | hq
        · cases hq <;> simp [aopP, aopR, aopW] at hE
        · exact cook_defer_ne hq (by simp)
      split at hE
      · rename_i v hv
        cases hE
        rcases hcop with hq | hq
        · cases hq <;> simp [aopP] at hv
        · obtain ⟨x, w', G', hrun, q, r⟩ := opP_ok hi.inv hO hcst hq hv
          refine step_value (about_plain hc (by first | (intro hbad; simp [aopP, aopR, aopW] at hv; done) | simp) (by simp) (by simp)) hw hnd hrun (.inl rfl) (hK _ _ _ B' q.le ?_)
          rw [pdOf_plain]; exact hi.quiet q hd r
      · split at hE
        · rename_i v hv
          cases hE
          rcases hcop with hq | hq
          · cases hq <;> simp [aopR] at hv
          · obtain ⟨x, w', G', hrun, q, r⟩ := opR_ok hi.inv hO hq hv
            refine step_value (about_plain hc (by first | (intro hbad; simp [aopP, aopR, aopW] at hv; done) | simp) (by simp) (by simp)) hw hnd hrun (.inl rfl) (hK _ _ _ B' q.le ?_)
            rw [pdOf_plain]; exact hi.quiet q hd r
        · split at hE
          · rename_i v s1 hv
            cases hE
            rcases hcop with hq | hq
            · cases hq <;> simp [aopW] at hv
            · obtain ⟨n, x, w', G', hrun, hn, hle, hI', r⟩ := opW_ok hi.inv hO hq hv
              refine step_value (about_plain hc (by first | (intro hbad; simp [aopP, aopR, aopW] at hv; done) | simp) (by simp) (by simp)) hw hnd hrun hn (hK _ _ _ B' hle ?_)
              rw [pdOf_plain]; exact hi.put hle hI' hd r
          · cases hE

end
end Go.Fw
