/- The framework, part 14: walking cooked code by hand, with enough fuel. -/
import Derived.Test.YthmlommnlihgcaaGreatDoorFwCore
namespace Go.Fw
open Go

/-- From some amount of fuel on the answer is one and the same, and it is as asked. -/
structure Ev {α : Type} (F : Nat → Option α) (Q : α → Prop) : Prop where
  out : ∃ r N, Q r ∧ ∀ n, N ≤ n → F n = some r

section
variable {α β : Type} {F F' : Nat → Option α} {Q Q' : α → Prop}
theorem Ev.mono (h : Ev F Q) (k : ∀ r, Q r → Q' r) : Ev F Q' := by
  obtain ⟨r, N, h1, h2⟩ := h.out; exact ⟨r, N, k r h1, h2⟩
theorem Ev.congr (h : Ev F Q) (e : ∀ n, F' n = F n) : Ev F' Q := by
  obtain ⟨r, N, h1, h2⟩ := h.out; exact ⟨r, N, h1, fun n hn => (e n).trans (h2 n hn)⟩
theorem Ev.one {r : α} (h : ∀ n, F n = some r) (hq : Q r) : Ev F Q := ⟨r, 0, hq, fun n _ => h n⟩
theorem Ev.bind {G : Nat → α → Option β} {K : Nat → Option β} {Q : β → Prop} (h : Ev F (fun r => Ev (fun n => G n r) Q)) (e : ∀ n r, F n = some r → K n = G n r) : Ev K Q := by
  obtain ⟨r, N, h1, h2⟩ := h.out
  obtain ⟨x, M, h3, h4⟩ := h1.out
  exact ⟨x, max N M, h3, fun n hn => (e n r (h2 n (by omega))).trans (h4 n (by omega))⟩
theorem Ev.succ (h : Ev (fun n => F (n + 1)) Q) : Ev F Q := by
  obtain ⟨r, N, h1, h2⟩ := h.out
  refine ⟨r, N + 1, h1, fun n hn => ?_⟩
  cases n with
  | zero => omega
  | succ n => exact h2 n (by omega)
end

/-! ### Operations -/
def stepA (P : AProg) (e : Env) (s : ASt) (op : AOp) : Option (AV × ASt) :=
  match aopP P e op with
  | some v => some (v, s)
  | none => match aopR P e s op with
    | some v => some (v, s)
    | none => aopW P e s op

def plainO : AOp → Bool
  | .pend _ | .shut .. | .defer .. | .panic _ | .callP .. | .call .. => false
  | _ => true

structure Wo (P : AProg) (is : List AI) (pd : List (Nat × Nat)) (fr : Fr) (s : ASt) (Q : OpsR → Prop) : Prop where
  ev : Ev (fun n => evOps (callN P n) P is pd fr s) Q

section
variable {H : Handler} {P : AProg} {i : AI} {d : Nat} {d' : Option Nat} {op : AOp} {gd : Option (Nat × Bool)} {pre : List Nat} {rest : List AI} {pd : List (Nat × Nat)} {fr : Fr} {e : Env} {ds : List ADef} {s s1 : ASt} {Q : OpsR → Prop} {v : AV}

theorem evOps_plain (hp : plainO op = true) (hg : wanted e gd = some true) (h : stepA P e s op = some (v, s1)) :
    evOps H P (⟨d', op, gd, pre⟩ :: rest) pd ⟨e, ds⟩ s = evOps H P rest (dropPend d' pd) ⟨updO e d' v, ds⟩ s1 := by
  have key : (match aopP P e op with
        | some v => evOps H P rest (dropPend d' pd) ⟨updO e d' v, ds⟩ s
        | none =>
          match aopR P e s op with
          | some v => evOps H P rest (dropPend d' pd) ⟨updO e d' v, ds⟩ s
          | none =>
            match aopW P e s op with
            | some (v, s1) => evOps H P rest (dropPend d' pd) ⟨updO e d' v, ds⟩ s1
            | none => none) = evOps H P rest (dropPend d' pd) ⟨updO e d' v, ds⟩ s1 := by
    unfold stepA at h
    cases h1 : aopP P e op with
    | some x => simp [h1] at h; obtain ⟨rfl, rfl⟩ := h; rfl
    | none =>
      cases h2 : aopR P e s op with
      | some x => simp [h1, h2] at h; obtain ⟨rfl, rfl⟩ := h; rfl
      | none => simp [h1, h2] at h; simp [h]
  rw [← key]
  simp only [evOps, hg]
  cases op <;> first | rfl | (simp [plainO] at hp)

theorem wo_nil (h : Q (.norm fr s)) : Wo P [] pd fr s Q := ⟨.one (fun _ => rfl) h⟩

/-- A plain operation: unguarded. -/
theorem wo_s (hp : plainO op = true) (h : stepA P e s op = some (v, s1)) (k : Wo P rest [] ⟨upd e d v, ds⟩ s1 Q) : Wo P (⟨some d, op, none, pre⟩ :: rest) [] ⟨e, ds⟩ s Q :=
  ⟨k.ev.congr fun _ => evOps_plain hp rfl h⟩
theorem wo_n (hp : plainO op = true) (h : stepA P e s op = some (v, s1)) (k : Wo P rest [] ⟨e, ds⟩ s1 Q) : Wo P (⟨none, op, none, pre⟩ :: rest) [] ⟨e, ds⟩ s Q :=
  ⟨k.ev.congr fun _ => evOps_plain hp rfl h⟩
/-- .. under a guard, which holds. -/
theorem wo_g (hp : plainO op = true) (hg : wanted e gd = some true) (h : stepA P e s op = some (v, s1)) (k : Wo P rest [] ⟨updO e d' v, ds⟩ s1 Q) : Wo P (⟨d', op, gd, pre⟩ :: rest) [] ⟨e, ds⟩ s Q :=
  ⟨k.ev.congr fun _ => by rw [evOps_plain hp hg h]; cases d' <;> rfl⟩
/-- .. which does not hold. -/
theorem wo_x (hg : wanted e gd = some false) (hk : skipD P e op = true) (k : Wo P rest [] ⟨updO e d' undefA, ds⟩ s Q) : Wo P (⟨d', op, gd, pre⟩ :: rest) [] ⟨e, ds⟩ s Q :=
  ⟨k.ev.congr fun _ => by simp only [evOps, hg, hk]; cases d' <;> rfl⟩
/-- .. with variables that wait to be filled. -/
theorem wo_p (hp : plainO op = true) (hg : wanted e gd = some true) (h : stepA P e s op = some (v, s1)) (k : Wo P rest (dropPend d' pd) ⟨updO e d' v, ds⟩ s1 Q) : Wo P (⟨d', op, gd, pre⟩ :: rest) pd ⟨e, ds⟩ s Q :=
  ⟨k.ev.congr fun _ => evOps_plain hp hg h⟩
theorem wo_pend {z : List AV} (k : Wo P rest ((d, z.length) :: dropPend (some d) pd) ⟨upd e d .junk, ds⟩ s Q) : Wo P (⟨some d, .pend z, none, pre⟩ :: rest) pd ⟨e, ds⟩ s Q :=
  ⟨k.ev.congr fun _ => by simp only [evOps, wanted]⟩
theorem wo_shut {sz : Nat} {x : AOpnd} (hv : fixP (evO P e x) = some v) (hl : (cellsOf v).length = sz) (hd : pd.any (fun p => Nat.beq p.1 d && Nat.beq p.2 sz) = true) (k : Wo P rest (dropPend (some d) pd) ⟨upd e d (.cptr v 0), ds⟩ s Q) :
    Wo P (⟨none, .shut d sz x, none, pre⟩ :: rest) pd ⟨e, ds⟩ s Q :=
  ⟨k.ev.congr fun _ => by simp [evOps, wanted, hv, hl, hd]⟩

/-- The value of a test is looked at. -/
theorem wo_split {t : Nat} {c : Bool} (h : e t = .bool c) (k : ∀ b, c = b → Wo P rest pd ⟨upd e t (.bool b), ds⟩ s Q) : Wo P rest pd ⟨e, ds⟩ s Q := by
  have := k c rfl
  have e1 : upd e t (.bool c) = e := by
    funext j
    unfold upd
    cases hb : Nat.beq j t with
    | true => simp [Nat.eq_of_beq_eq_true hb, h]
    | false => rfl
  rwa [e1] at this

theorem wo_panic {x : AOpnd} {t : Nat} (h : evO P e x = .iface t v) (hq : Q (.pan (.iface t v) ⟨e, ds⟩ s)) : Wo P (⟨d', .panic x, none, pre⟩ :: rest) pd ⟨e, ds⟩ s Q :=
  ⟨.one (fun _ => by simp only [evOps, wanted, h]) hq⟩
theorem wo_defer {f : AOpnd} {args : List AOpnd} {g : Nat} {a b vs : List AV} (hf : evO P e f = .func g a b) (ha : fixPs (args.map (evO P e)) = some vs) (k : Wo P rest (dropPend d' pd) ⟨updO e d' undefA, .call g (a ++ vs ++ b) :: ds⟩ s Q) :
    Wo P (⟨d', .defer f args, none, pre⟩ :: rest) pd ⟨e, ds⟩ s Q :=
  ⟨k.ev.congr fun _ => by simp only [evOps, wanted, hf, ha]⟩

/-! ### Calls of functions that see no store -/
/-- A value as it is handed over: no token, no place. -/
def Can (v : AV) : Prop := fixP v = some v ∧ pureV v = true
inductive Cans : List AV → Prop
  | nil : Cans []
  | cons {v : AV} {vs : List AV} (h : Can v) (t : Cans vs) : Cans (v :: vs)
theorem Cans.fix {vs : List AV} (h : Cans vs) : fixPs vs = some vs := by
  induction h with
  | nil => rfl
  | cons h _ ih => simp only [fixPs, h.1, ih]
theorem Cans.pure {vs : List AV} (h : Cans vs) : pureL vs = true := by
  induction h with
  | nil => rfl
  | cons h _ ih => simp only [pureL, h.2, ih, Bool.and_self]
theorem cans_of : ∀ {vs : List AV}, fixPs vs = some vs → pureL vs = true → Cans vs
  | [], _, _ => .nil
  | v :: vs, h, hp => by
    simp only [pureL, Bool.and_eq_true] at hp
    simp only [fixPs] at h
    split at h
    · cases h
    · rename_i y hy
      split at h
      · cases h
      · rename_i ys hys
        simp only [Option.some.injEq, List.cons.injEq] at h
        exact .cons ⟨by rw [hy, h.1], hp.1⟩ (cans_of (by rw [hys, h.2]) hp.2)
theorem can_int (k : IntKind) (n : Int) : Can (.int k n) := ⟨rfl, rfl⟩
theorem can_bool (b : Bool) : Can (.bool b) := ⟨rfl, rfl⟩
theorem can_str (s : List UInt8) : Can (.str s) := ⟨rfl, rfl⟩

/-- The function's value at some arguments. -/
structure Pf (P : AProg) (g : Nat) (args : List AV) (v : AV) : Prop where
  ev : Ev (fun n => (callN P n).call (.func g) args emptyS) (fun r => ∃ v0, r.1 = .ret v0 ∧ fixR v0 = some v)
  pure : pureV v = true
  can : Cans args

theorem wo_callG {st : Bool} {f : AOpnd} {args : List AOpnd} {g : Nat} {a b vs : List AV} (hg : wanted e gd = some true) (hf : evO P e f = .func g a b) (ha : fixPs (args.map (evO P e)) = some vs) (hc : Pf P g (a ++ vs ++ b) v)
    (k : Wo P rest (dropPend d' pd) ⟨updO e d' v, ds⟩ s Q) : Wo P (⟨d', .callP st f args, gd, pre⟩ :: rest) pd ⟨e, ds⟩ s Q := by
  obtain ⟨⟨r, s2⟩, N, ⟨v0, h1, h2⟩, h3⟩ := hc.ev.out
  simp only at h1
  subst h1
  obtain ⟨x, M, h4, h5⟩ := k.ev.out
  refine ⟨⟨x, max N M, h4, fun n hn => ?_⟩⟩
  simp only [evOps, hg, hf, ha, hc.can.pure, Bool.or_true, h3 n (by omega), h2, hc.pure]
  exact h5 n (by omega)
/-- A call whose arguments stand as they are handed over. -/
theorem wc {st : Bool} {f : AOpnd} {args : List AOpnd} {g : Nat} {vs : List AV} (hc : Pf P g vs v) (hf : evO P e f = .func g [] []) (ha : args.map (evO P e) = vs)
    (k : Wo P rest [] ⟨upd e d v, ds⟩ s Q) : Wo P (⟨some d, .callP st f args, none, pre⟩ :: rest) [] ⟨e, ds⟩ s Q :=
  wo_callG (a := []) (b := []) rfl hf (by rw [ha]; exact hc.can.fix) (by simpa using hc) k
/-- .. under a guard. -/
theorem wcg {st : Bool} {f : AOpnd} {args : List AOpnd} {g : Nat} {vs : List AV} (hc : Pf P g vs v) (hg : wanted e gd = some true) (hf : evO P e f = .func g [] []) (ha : args.map (evO P e) = vs)
    (k : Wo P rest [] ⟨upd e d v, ds⟩ s Q) : Wo P (⟨some d, .callP st f args, gd, pre⟩ :: rest) [] ⟨e, ds⟩ s Q :=
  wo_callG (a := []) (b := []) hg hf (by rw [ha]; exact hc.can.fix) (by simpa using hc) k
/-- .. whose arguments are made fit. -/
theorem wcf {st : Bool} {f : AOpnd} {args : List AOpnd} {g : Nat} {vs : List AV} (hc : Pf P g vs v) (hf : evO P e f = .func g [] []) (ha : fixPs (args.map (evO P e)) = some vs)
    (k : Wo P rest [] ⟨upd e d v, ds⟩ s Q) : Wo P (⟨some d, .callP st f args, none, pre⟩ :: rest) [] ⟨e, ds⟩ s Q :=
  wo_callG (a := []) (b := []) rfl hf ha (by simpa using hc) k

/-- A call of any function. -/
theorem wo_callS {f : AOpnd} {args : List AOpnd} {g : AFn} {a b vs : List AV} (hg : wanted e gd = some true) (hf : target (evO P e f) = some (g, a, b)) (ha : fixvs s (args.map (evO P e)) = some (vs, s1))
    (hc : Ev (fun n => (callN P n).call g (a ++ vs ++ b) s1) (fun r => match r.1 with | .ret v => Wo P rest (dropPend d' pd) ⟨updO e d' v, ds⟩ r.2 Q | .panic v => Q (.pan v ⟨e, ds⟩ r.2))) :
    Wo P (⟨d', .call f args, gd, pre⟩ :: rest) pd ⟨e, ds⟩ s Q := by
  obtain ⟨⟨r, s2⟩, N, h1, h2⟩ := hc.out
  cases r with
  | ret v =>
    obtain ⟨x, M, h4, h5⟩ := (h1 : Wo ..).ev.out
    refine ⟨⟨x, max N M, h4, fun n hn => ?_⟩⟩
    simp only [evOps, hg, hf, ha, h2 n (by omega)]
    exact h5 n (by omega)
  | panic v => exact ⟨⟨_, N, h1, fun n hn => by simp only [evOps, hg, hf, ha, h2 n hn]⟩⟩

end

/-! ### Code -/
structure Wk (P : AProg) (rd : Option Nat) (c : AC) (fr : Fr) (s : ASt) (Q : AExit → Fr → ASt → Prop) : Prop where
  ev : Ev (fun n => evC (callN P n) P rd n c fr s) (fun r => Q r.ex r.fr r.s)

def thenQ (k : Fr → ASt → Prop) (Q : AExit → Fr → ASt → Prop) : AExit → Fr → ASt → Prop
  | .normal, fr, s => k fr s
  | e, fr, s => Q e fr s
def regQ (Q : AExit → Fr → ASt → Prop) : OpsR → Prop
  | .norm fr s => Q .normal fr s
  | .pan v fr s => Q (.panic v) fr s
def blkQ (id : Nat) (Q : AExit → Fr → ASt → Prop) : AExit → Fr → ASt → Prop
  | .exit j, fr, s => match Nat.beq j id with | true => Q .normal fr s | false => Q (.exit j) fr s
  | e, fr, s => Q e fr s
/-- A round of a loop: where it goes on, it goes on with less. -/
def loopQ {α : Type} (I : α → Fr → ASt → Prop) (μ : α → Nat) (a : α) (Q : AExit → Fr → ASt → Prop) : AExit → Fr → ASt → Prop
  | .normal, fr, s => ∃ a', μ a' < μ a ∧ I a' fr s
  | e, fr, s => Q e fr s

section
variable {P : AProg} {rd : Option Nat} {fr : Fr} {s : ASt} {Q Q' : AExit → Fr → ASt → Prop}

theorem Wk.mono {c : AC} (h : Wk P rd c fr s Q) (k : ∀ ex fr s, Q ex fr s → Q' ex fr s) : Wk P rd c fr s Q' := ⟨h.ev.mono fun _ q => k _ _ _ q⟩
theorem wk_skip (h : Q .normal fr s) : Wk P rd .skip fr s Q := ⟨.one (fun _ => rfl) h⟩
theorem wk_ret (h : Q .ret fr s) : Wk P rd .ret fr s Q := ⟨.one (fun _ => rfl) h⟩
theorem wk_exit {id : Nat} (h : Q (.exit id) fr s) : Wk P rd (.exit id) fr s Q := ⟨.one (fun _ => rfl) h⟩
theorem wk_scope {b : AC} (h : Wk P rd b fr s Q) : Wk P rd (.scope b) fr s Q := ⟨h.ev.congr fun _ => by simp only [evC]⟩

theorem wk_seq {a b : AC} (h : Wk P rd a fr s (thenQ (fun fr s => Wk P rd b fr s Q) Q)) : Wk P rd (.seq a b) fr s Q := by
  obtain ⟨⟨ex, fr1, s1⟩, N, h1, h2⟩ := h.ev.out
  cases ex with
  | normal =>
    obtain ⟨r, M, h3, h4⟩ := (h1 : Wk P rd b fr1 s1 Q).ev.out
    exact ⟨⟨r, max N M, h3, fun n hn => by simp only [evC, h2 n (by omega)]; exact h4 n (by omega)⟩⟩
  | exit id => exact ⟨⟨⟨.exit id, fr1, s1⟩, N, h1, fun n hn => by simp only [evC, h2 n hn]⟩⟩
  | ret => exact ⟨⟨⟨.ret, fr1, s1⟩, N, h1, fun n hn => by simp only [evC, h2 n hn]⟩⟩
  | panic v => exact ⟨⟨⟨.panic v, fr1, s1⟩, N, h1, fun n hn => by simp only [evC, h2 n hn]⟩⟩

theorem wk_cond {c : AOpnd} {t f : AC} {b : Bool} (hb : evO P fr.env c = .bool b) (ht : b = true → Wk P rd t fr s Q) (hf : b = false → Wk P rd f fr s Q) : Wk P rd (.cond c t f) fr s Q := by
  cases b with
  | true => exact ⟨(ht rfl).ev.congr fun _ => by simp only [evC, hb]⟩
  | false => exact ⟨(hf rfl).ev.congr fun _ => by simp only [evC, hb]⟩
theorem wk_t {c : AOpnd} {t f : AC} (hb : evO P fr.env c = .bool true) (ht : Wk P rd t fr s Q) : Wk P rd (.cond c t f) fr s Q := ⟨ht.ev.congr fun _ => by simp only [evC, hb]⟩
theorem wk_f {c : AOpnd} {t f : AC} (hb : evO P fr.env c = .bool false) (hf : Wk P rd f fr s Q) : Wk P rd (.cond c t f) fr s Q := ⟨hf.ev.congr fun _ => by simp only [evC, hb]⟩

theorem wk_reg {dr : Bool} {ops : List AI} (h : Wo P ops [] fr s (regQ Q)) : Wk P rd (.reg dr ops) fr s Q := by
  obtain ⟨r, N, h1, h2⟩ := h.ev.out
  cases r with
  | norm fr s => exact ⟨⟨⟨.normal, fr, s⟩, N, h1, fun n hn => by simp only [evC, h2 n hn]⟩⟩
  | pan v fr s => exact ⟨⟨⟨.panic v, fr, s⟩, N, h1, fun n hn => by simp only [evC, h2 n hn]⟩⟩

theorem wk_block {id : Nat} {b : AC} (h : Wk P rd b fr s (blkQ id Q)) : Wk P rd (.block id b) fr s Q := by
  obtain ⟨⟨ex, fr1, s1⟩, N, h1, h2⟩ := h.ev.out
  cases ex with
  | normal => exact ⟨⟨⟨.normal, fr1, s1⟩, N, h1, fun n hn => by simp only [evC, h2 n hn]⟩⟩
  | exit j =>
    simp only [blkQ] at h1
    cases hj : Nat.beq j id with
    | true => rw [hj] at h1; exact ⟨⟨⟨.normal, fr1, s1⟩, N, h1, fun n hn => by simp only [evC, h2 n hn, hj]⟩⟩
    | false => rw [hj] at h1; exact ⟨⟨⟨.exit j, fr1, s1⟩, N, h1, fun n hn => by simp only [evC, h2 n hn, hj]⟩⟩
  | ret => exact ⟨⟨⟨.ret, fr1, s1⟩, N, h1, fun n hn => by simp only [evC, h2 n hn]⟩⟩
  | panic v => exact ⟨⟨⟨.panic v, fr1, s1⟩, N, h1, fun n hn => by simp only [evC, h2 n hn]⟩⟩

/-- A loop, by a measure of what is left. -/
theorem wk_loop {b : AC} {α : Type} (I : α → Fr → ASt → Prop) (μ : α → Nat) (a : α) (h0 : I a fr s)
    (step : ∀ a fr s, I a fr s → Wk P rd b fr s (loopQ I μ a Q)) : Wk P rd (.loop b) fr s Q := by
  have key : ∀ m a fr s, μ a ≤ m → I a fr s → ∃ r N, Q r.ex r.fr r.s ∧ ∀ n k, N ≤ n → N ≤ k → loopN (evC (callN P n) P rd n b) k fr s = some r := by
    intro m
    induction m with
    | zero =>
      intro a fr s hm hI
      obtain ⟨⟨ex, fr1, s1⟩, N, h1, h2⟩ := (step a fr s hI).ev.out
      cases ex with
      | normal => obtain ⟨a', h3, _⟩ := h1; omega
      | exit i => exact ⟨⟨.exit i, fr1, s1⟩, N + 1, h1, fun n k hn hk => by cases k with | zero => omega | succ k => simp only [loopN, h2 n (by omega)]⟩
      | ret => exact ⟨⟨.ret, fr1, s1⟩, N + 1, h1, fun n k hn hk => by cases k with | zero => omega | succ k => simp only [loopN, h2 n (by omega)]⟩
      | panic v => exact ⟨⟨.panic v, fr1, s1⟩, N + 1, h1, fun n k hn hk => by cases k with | zero => omega | succ k => simp only [loopN, h2 n (by omega)]⟩
    | succ m ih =>
      intro a fr s hm hI
      obtain ⟨⟨ex, fr1, s1⟩, N, h1, h2⟩ := (step a fr s hI).ev.out
      cases ex with
      | normal =>
        obtain ⟨a', h3, h4⟩ := h1
        obtain ⟨r, M, h5, h6⟩ := ih a' fr1 s1 (by omega) h4
        exact ⟨r, max N M + 1, h5, fun n k hn hk => by cases k with | zero => omega | succ k => simp only [loopN, h2 n (by omega)]; exact h6 n k (by omega) (by omega)⟩
      | exit i => exact ⟨⟨.exit i, fr1, s1⟩, N + 1, h1, fun n k hn hk => by cases k with | zero => omega | succ k => simp only [loopN, h2 n (by omega)]⟩
      | ret => exact ⟨⟨.ret, fr1, s1⟩, N + 1, h1, fun n k hn hk => by cases k with | zero => omega | succ k => simp only [loopN, h2 n (by omega)]⟩
      | panic v => exact ⟨⟨.panic v, fr1, s1⟩, N + 1, h1, fun n k hn hk => by cases k with | zero => omega | succ k => simp only [loopN, h2 n (by omega)]⟩
  obtain ⟨r, N, h1, h2⟩ := key (μ a) a fr s (Nat.le_refl _) h0
  exact ⟨⟨r, N, h1, fun n hn => by simp only [evC]; exact h2 n n hn hn⟩⟩

/-! ### A function's value -/
def isRet : AExit → Bool
  | .normal | .ret => true
  | _ => false

theorem fixR_settle {s0 s3 : ASt} {v1 v : AV} (h : fixR v1 = some v) : fixR (settle s0 v1 s3).1 = some v := by
  unfold settle
  split
  · rename_i sz xs t
    have h' : some (AV.slice (szC sz xs) xs .no) = some v := h
    split
    · exact h
    · split
      · split
        · exact h'
        · exact h'
      · exact h'
  · exact h

/-- What a function's code must come to. -/
structure RetV (P : AProg) (af : AF) (v : AV) (ex : AExit) (fr : Fr) (s : ASt) : Prop where
  ex : isRet ex = true
  ds : fr.ds = []
  res : ∃ vs v1 s3, resAll P fr.env s af.res = some vs ∧ resVal s vs = some (v1, s3) ∧ fixR v1 = some v

theorem pf_body {g : Nat} {af : AF} {args : List AV} {v : AV} (h0 : P.prim g = none) (h : P.fn g = some af) (hn : Nat.ble args.length af.nt = true) (hv : pureV v = true) (hcan : Cans args)
    (k : Wk P none af.body ⟨argsEnv args, []⟩ emptyS (RetV P af v)) : Pf P g args v := by
  refine ⟨Ev.succ ?_, hv, hcan⟩
  obtain ⟨⟨ex, ⟨e, ds⟩, s1⟩, N, ⟨h1, h2, vs, v1, s3, h4, h5, h6⟩, h3⟩ := k.ev.out
  simp only at h1 h2 h4 h5
  subst h2
  refine ⟨((.ret (settle emptyS v1 s3).1), (settle emptyS v1 s3).2), N, ⟨_, rfl, fixR_settle h6⟩, fun n hn' => ?_⟩
  have e1 : evC (callN P n) P none n af.body ⟨argsEnv args, []⟩ (cleanS emptyS) = some ⟨ex, ⟨e, []⟩, s1⟩ := h3 n hn'
  simp only [callN, h0, h, runF, hn, e1]
  cases ex with
  | normal => simp only [runDs, h4, h5]
  | ret => simp only [runDs, h4, h5]
  | exit i => cases h1
  | panic v => cases h1

/-- A law that holds. -/
theorem law_of_pf {f : Nat} {args : List AV} (h : Pf P f args (.bool true)) : ∃ n s', (callN P n).call (.func f) args emptyS = some (.ret (.bool true), s') := by
  obtain ⟨⟨r, s2⟩, N, ⟨v0, h1, h2⟩, h3⟩ := h.ev.out
  simp only at h1
  subst h1
  refine ⟨N, s2, ?_⟩
  have : v0 = .bool true := by
    cases v0 <;> simp [fixR, fixP, fix1] at h2
    · exact h2 ▸ rfl
    · rename_i sz xs o; cases o <;> simp at h2
    · split at h2 <;> simp at h2
    · split at h2 <;> simp at h2
  rw [h3 N (Nat.le_refl _), this]

end
end Go.Fw
