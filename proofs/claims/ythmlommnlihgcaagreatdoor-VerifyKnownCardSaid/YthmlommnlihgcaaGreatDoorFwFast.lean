/- The framework, part 16: the interpreter with frames as tries: for closed calls, which the kernel reckons. -/
import Derived.Test.YthmlommnlihgcaaGreatDoorFwMono
namespace Go.Fw
open Go

inductive Tr where
  | nil
  | node (v : Option AV) (l r : Tr)
def Tr.get : Tr → List Bool → Option AV
  | .nil, _ => none
  | .node v _ _, [] => v
  | .node _ l _, true :: p => l.get p
  | .node _ _ r, false :: p => r.get p
def Tr.left : Tr → Tr
  | .nil => .nil
  | .node _ l _ => l
def Tr.right : Tr → Tr
  | .nil => .nil
  | .node _ _ r => r
def Tr.val : Tr → Option AV
  | .nil => none
  | .node v _ _ => v
def Tr.set : Tr → List Bool → AV → Tr
  | t, [], v => .node (some v) t.left t.right
  | t, true :: p, v => .node t.val (t.left.set p v) t.right
  | t, false :: p, v => .node t.val t.left (t.right.set p v)
def path : Nat → Nat → List Bool
  | 0, _ => []
  | f + 1, i => match i with
    | 0 => []
    | _ => match Nat.beq (Nat.mod i 2) 1 with
      | true => true :: path f (Nat.div i 2)
      | false => false :: path f (Nat.sub (Nat.div i 2) 1)
def unpath : List Bool → Nat
  | [] => 0
  | true :: p => 2 * unpath p + 1
  | false :: p => 2 * unpath p + 2

theorem unpath_path : ∀ {f i : Nat}, i ≤ f → unpath (path f i) = i
  | 0, i, h => by simp [path, unpath]; omega
  | f + 1, 0, h => by simp [path, unpath]
  | f + 1, i + 1, h => by
    simp only [path, show ∀ a b, Nat.mod a b = a % b from fun _ _ => rfl, show ∀ a b, Nat.div a b = a / b from fun _ _ => rfl, show ∀ a b, Nat.sub a b = a - b from fun _ _ => rfl]
    cases hb : Nat.beq ((i + 1) % 2) 1 with
    | true =>
      have := Nat.eq_of_beq_eq_true hb
      simp only [unpath]
      rw [unpath_path (by omega)]; omega
    | false =>
      have : (i + 1) % 2 ≠ 1 := fun hq => by rw [hq] at hb; cases hb
      simp only [unpath]
      rw [unpath_path (by omega)]; omega
theorem path_inj {i j : Nat} (h : path i i = path j j) : i = j := by
  rw [← unpath_path (Nat.le_refl i), h, unpath_path (Nat.le_refl j)]
theorem Tr.get_nil (p : List Bool) : Tr.nil.get p = none := by cases p <;> rfl
theorem Tr.get_left (t : Tr) (p : List Bool) : t.left.get p = t.get (true :: p) := by cases t with | nil => simp [Tr.left, Tr.get] | node => rfl
theorem Tr.get_right (t : Tr) (p : List Bool) : t.right.get p = t.get (false :: p) := by cases t with | nil => simp [Tr.right, Tr.get] | node => rfl
theorem Tr.get_val (t : Tr) : t.val = t.get [] := by cases t <;> rfl
theorem Tr.get_set : ∀ (p : List Bool) (t : Tr) (v : AV) (q : List Bool), (t.set p v).get q = if q = p then some v else t.get q
  | [], t, v, q => by
    cases q with
    | nil => simp [Tr.set, Tr.get]
    | cons b q => cases b <;> simp [Tr.set, Tr.get, Tr.get_left, Tr.get_right]
  | true :: p, t, v, q => by
    cases q with
    | nil => simp [Tr.set, Tr.get, Tr.get_val]
    | cons b q => cases b <;> simp [Tr.set, Tr.get, Tr.get_set p, Tr.get_left, Tr.get_right]
  | false :: p, t, v, q => by
    cases q with
    | nil => simp [Tr.set, Tr.get, Tr.get_val]
    | cons b q => cases b <;> simp [Tr.set, Tr.get, Tr.get_set p, Tr.get_left, Tr.get_right]

/-- A frame's slots. -/
structure TE where
  base : Env
  ov : Tr
def TE.env (t : TE) : Env := fun i => match t.ov.get (path i i) with | some v => v | none => t.base i
def TE.upd (t : TE) (d : Nat) (v : AV) : TE := { t with ov := t.ov.set (path d d) v }
def TE.updO (t : TE) (d : Option Nat) (v : AV) : TE := match d with | some i => t.upd i v | none => t
theorem TE.env_upd (t : TE) (d : Nat) (v : AV) : (t.upd d v).env = Fw.upd t.env d v := by
  funext i
  simp only [TE.env, TE.upd, Tr.get_set, Fw.upd]
  cases hb : Nat.beq i d with
  | true => rw [if_pos (by rw [Nat.eq_of_beq_eq_true hb])]
  | false => rw [if_neg (fun h => by rw [path_inj h, Nat.beq_refl] at hb; cases hb)]
theorem TE.env_updO (t : TE) (d : Option Nat) (v : AV) : (t.updO d v).env = Fw.updO t.env d v := by cases d with | none => rfl | some i => exact t.env_upd i v

theorem TE.env_nil (e : Env) : (⟨e, .nil⟩ : TE).env = e := by funext i; simp [TE.env, Tr.get_nil]

structure TF where
  env : TE
  ds : List ADef
def TF.fr (f : TF) : Fr := ⟨f.env.env, f.ds⟩
def TF.put (f : TF) (d : Option Nat) (v : AV) : TF := { f with env := f.env.updO d v }
theorem TF.fr_put (f : TF) (d : Option Nat) (v : AV) : (f.put d v).fr = { f.fr with env := updO f.fr.env d v } := by
  simp only [TF.fr, TF.put, TE.env_updO]

inductive OpsT where
  | norm (fr : TF) (s : ASt)
  | pan (v : AV) (fr : TF) (s : ASt)
def OpsT.out : OpsT → OpsR
  | .norm fr s => .norm fr.fr s
  | .pan v fr s => .pan v fr.fr s

/-- What is known of calls that see no store. -/
abbrev Memo := Nat → List AV → Option AV
def MOk (M : Memo) (H : Handler) : Prop := ∀ g args v, M g args = some v → ∃ v0 s2, H.call (.func g) args emptyS = some (.ret v0, s2) ∧ fixR v0 = some v ∧ pureV v = true

def evOpsT (H : Handler) (P : AProg) (M : Memo) : List AI → List (Nat × Nat) → TF → ASt → Option OpsT
  | [], _, fr, s => some (.norm fr s)
  | i :: rest, pd, fr, s =>
    match wanted fr.env.env i.gd with
    | none => none
    | some false => match skipD P fr.env.env i.op with | true => evOpsT H P M rest (dropPend i.d pd) (fr.put i.d undefA) s | false => none
    | some true =>
      match i.op with
      | .pend z => match i.d with | some d => evOpsT H P M rest ((d, z.length) :: dropPend i.d pd) (fr.put (some d) .junk) s | none => none
      | .shut d sz x =>
        match i.d, fixP (evO P fr.env.env x) with
        | none, some v => match decide ((cellsOf v).length = sz) && pd.any (fun p => Nat.beq p.1 d && Nat.beq p.2 sz) with | true => evOpsT H P M rest (dropPend (some d) pd) (fr.put (some d) (.cptr v 0)) s | false => none
        | _, _ => none
      | .defer f args =>
        match evO P fr.env.env f, fixPs (args.map (evO P fr.env.env)) with
        | .func g a b, some vs => evOpsT H P M rest (dropPend i.d pd) { env := fr.env.updO i.d undefA, ds := .call g (a ++ vs ++ b) :: fr.ds } s
        | _, _ => none
      | .panic x => match evO P fr.env.env x with | .iface t v => some (.pan (.iface t v) fr s) | _ => none
      | .callP st f args =>
        match evO P fr.env.env f, fixPs (args.map (evO P fr.env.env)) with
        | .func g a b, some vs =>
          match (!st && isE s) || pureL (a ++ vs ++ b) with
          | true =>
            match M g (a ++ vs ++ b) with
            | some v => evOpsT H P M rest (dropPend i.d pd) (fr.put i.d v) s
            | none =>
              match H.call (.func g) (a ++ vs ++ b) emptyS with
              | some (.ret v, s2) =>
                match fixR v with
                | some v => match isE s2 || pureV v with | true => evOpsT H P M rest (dropPend i.d pd) (fr.put i.d v) s | false => none
                | none => none
              | _ => none
          | false => none
        | _, _ => none
      | .call f args =>
        match target (evO P fr.env.env f), fixvs s (args.map (evO P fr.env.env)) with
        | some (g, a, b), some (vs, s1) =>
          match H.call g (a ++ vs ++ b) s1 with
          | some (.ret v, s2) => evOpsT H P M rest (dropPend i.d pd) (fr.put i.d v) s2
          | some (.panic v, s2) => some (.pan v fr s2)
          | none => none
        | _, _ => none
      | op =>
        match stepA P fr.env.env s op with
        | some (v, s1) => evOpsT H P M rest (dropPend i.d pd) (fr.put i.d v) s1
        | none => none

structure CT where
  ex : AExit
  fr : TF
  s : ASt
def CT.out (r : CT) : CR := ⟨r.ex, r.fr.fr, r.s⟩

def loopT (step : TF → ASt → Option CT) : Nat → TF → ASt → Option CT
  | 0, _, _ => none
  | n + 1, fr, s =>
    match step fr s with
    | some r => match r.ex with | .normal => loopT step n r.fr r.s | _ => some r
    | none => none

def evCT (H : Handler) (P : AProg) (M : Memo) (rd : Option Nat) (lf : Nat) : AC → TF → ASt → Option CT
  | .skip, fr, s => some ⟨.normal, fr, s⟩
  | .reg _ ops, fr, s =>
    match evOpsT H P M ops [] fr s with
    | some (.norm fr s) => some ⟨.normal, fr, s⟩
    | some (.pan v fr s) => some ⟨.panic v, fr, s⟩
    | none => none
  | .regW ops, fr, s =>
    match evOpsT H P M ops [] fr s with
    | some (.norm fr' s') => (match djS P fr'.fr.env ops with | true => some ⟨.normal, fr', s'⟩ | false => none)
    | _ => none
  | .seq a b, fr, s =>
    match evCT H P M rd lf a fr s with
    | some r => match r.ex with | .normal => evCT H P M rd lf b r.fr r.s | _ => some r
    | none => none
  | .cond c t e, fr, s =>
    match evO P fr.env.env c with
    | .bool b => match b with | true => evCT H P M rd lf t fr s | false => evCT H P M rd lf e fr s
    | _ => none
  | .block id b, fr, s =>
    match evCT H P M rd lf b fr s with
    | some r => match r.ex with | .exit j => (match Nat.beq j id with | true => some ⟨.normal, r.fr, r.s⟩ | false => some r) | _ => some r
    | none => none
  | .loop b, fr, s => loopT (evCT H P M rd lf b) lf fr s
  | .exit id, fr, s => some ⟨.exit id, fr, s⟩
  | .ret, fr, s => some ⟨.ret, fr, s⟩
  | .scope b, fr, s => evCT H P M rd lf b fr s
  | .rangeF f params assign body, fr, s =>
    match loopLay rd params assign body fr.fr s, evO P fr.env.env f with
    | some (l, mark, s1), .func g a b =>
      match hasBody P g, H.call (.func g) (a ++ .yield l :: b) s1 with
      | true, some (.ret _, s2) =>
        match s2.blks[l]? with
        | some (.loop lp) =>
          match lp.st with
          | .busy => none
          | _ => some ⟨lp.pend.getD .normal, { fr with ds := mark ++ fr.ds }, { s2 with blks := s2.blks.set l (.loop { lp with st := .exhausted }) }⟩
        | _ => none
      | true, some (.panic v, s2) => some ⟨.panic v, { fr with ds := mark ++ fr.ds }, s2⟩
      | _, _ => none
    | _, _ => none

def roundT (H : Handler) (P : AProg) (M : Memo) (lf : Nat) (l : Nat) (args : List AV) (s : ASt) : Option (ARes × ASt) :=
  match s.blks[l]? with
  | some (.loop lp) =>
    match decide (lp.st = .ready), decide (args.length = lp.params.length) with
    | true, true =>
      match evCT H P M (some l) lf lp.assign ⟨⟨paramsEnv lp.env lp.params args, .nil⟩, []⟩ s with
      | some ⟨.normal, ⟨e1, []⟩, s1⟩ =>
        match setReady s1 l with
        | some s2 =>
          match evCT H P M (some l) lf lp.body ⟨e1, []⟩ s2 with
          | some ⟨ex, ⟨_, []⟩, s3⟩ =>
            match ex with
            | .panic v => some (.panic v, s3)
            | .normal => match setLoop s3 l fun lp => { lp with st := .ready, pend := none } with | some s4 => some (.ret (.bool true), s4) | none => none
            | ex => match setLoop s3 l fun lp => { lp with st := .done, pend := some ex } with | some s4 => some (.ret (.bool false), s4) | none => none
          | _ => none
        | none => none
      | _ => none
    | _, _ => none
  | _ => none

def runT (H : Handler) (P : AProg) (M : Memo) (lf : Nat) (f : AF) (args : List AV) (s : ASt) : Option (ARes × ASt) :=
  match Nat.ble args.length f.nt with
  | false => none
  | true =>
  match evCT H P M none lf f.body ⟨⟨argsEnv args, .nil⟩, []⟩ (cleanS s) with
  | some ⟨ex, fr, s1⟩ =>
    match (match ex with | .normal => some DM.ret | .ret => some DM.ret | .panic v => some (DM.pan v) | .exit _ => none) with
    | some m =>
      match runDs H fr.ds m s1 with
      | some (.pan v, s2) => some (.panic v, trimT s (toks v) (trimB s (locs v) s2))
      | some (.ret, s2) =>
        match resAll P fr.env.env s2 f.res with
        | some vs =>
          match resVal s2 vs with
          | some (v, s3) => match settle s v s3 with | (v, s4) => some (.ret v, s4)
          | none => none
        | none => none
      | none => none
    | none => none
  | none => none

def callT (P : AProg) (M : Memo) : Nat → Handler
  | 0 => { call := fun _ _ _ => none, dcall := fun _ _ _ _ => none }
  | n + 1 =>
    { call := fun g args s =>
        match g with
        | .func f =>
          match P.prim f with
          | some p => primRun (callT P M n) p args s
          | none => match P.fn f with | some af => runT (callT P M n) P M n af args s | none => none
        | .yield l => roundT (callT P M n) P M n l args s
      dcall := fun f args m s => match P.fn f with | some af => runD (callT P M n) P n af args m s | none => none }

/-! ### It is the interpreter -/
section
variable {H H' : Handler} {P : AProg} {M : Memo}

theorem evOpsT_ok (hH : Hle H H') (hM : MOk M H') : ∀ {is : List AI} {pd : List (Nat × Nat)} {fr : TF} {s : ASt} {r : OpsT}, evOpsT H P M is pd fr s = some r → evOps H' P is pd fr.fr s = some r.out
  | [], _, _, _, _, h => by cases h; rfl
  | ⟨d', op, gd, pre⟩ :: rest, pd, fr, s, r, h => by
    cases hw : wanted fr.env.env gd with
    | none => simp [evOpsT, hw] at h
    | some b =>
      have hw' : wanted fr.fr.env gd = some b := hw
      cases b with
      | false =>
        simp only [evOpsT, hw] at h
        simp only [evOps, hw']
        cases hk : skipD P fr.env.env op with
        | false => rw [hk] at h; cases h
        | true =>
        rw [hk] at h
        have := evOpsT_ok hH hM h
        rw [TF.fr_put] at this
        have hk' : skipD P fr.fr.env op = true := hk
        simp only [hk']
        exact this
      | true =>
        cases hp : plainO op with
        | true =>
          rw [evOps_eq hp hw']
          have e1 : evOpsT H P M (⟨d', op, gd, pre⟩ :: rest) pd fr s = (match stepA P fr.env.env s op with | some (v, s1) => evOpsT H P M rest (dropPend d' pd) (fr.put d' v) s1 | none => none) := by
            simp only [evOpsT, hw]
            cases op <;> first | rfl | (simp [plainO] at hp)
          rw [e1] at h
          have e2 : fr.fr.env = fr.env.env := rfl
          rw [e2]
          cases hs : stepA P fr.env.env s op with
          | none => rw [hs] at h; cases h
          | some x =>
            rw [hs] at h
            have := evOpsT_ok hH hM h
            rwa [TF.fr_put] at this
        | false =>
          cases op <;> first | (simp [plainO] at hp; done) | skip
          case pend z =>
            cases d' with
            | none => simp [evOpsT, hw] at h
            | some d =>
              simp only [evOpsT, hw] at h
              simp only [evOps, hw']
              have := evOpsT_ok hH hM h
              rwa [TF.fr_put] at this
          case shut d sz x =>
            cases d' with
            | some d => simp [evOpsT, hw] at h
            | none =>
              simp only [evOpsT, hw] at h
              simp only [evOps, hw']
              have e2 : evO P fr.fr.env x = evO P fr.env.env x := rfl
              rw [e2]
              cases hf : fixP (evO P fr.env.env x) with
              | none => simp [hf] at h
              | some v =>
                simp only [hf] at h ⊢
                cases hc : (decide ((cellsOf v).length = sz) && pd.any (fun p => Nat.beq p.1 d && Nat.beq p.2 sz)) with
                | false => rw [hc] at h; cases h
                | true =>
                  rw [hc] at h
                  rw [if_pos rfl]
                  have := evOpsT_ok hH hM h
                  rwa [TF.fr_put] at this
          case defer f args =>
            simp only [evOpsT, hw] at h
            simp only [evOps, hw']
            have e2 : fr.fr.env = fr.env.env := rfl
            rw [e2]
            split at h
            · rename_i h1 h2
              (try simp only [h1, h2])
              have := evOpsT_ok hH hM h
              simp only [TF.fr, TE.env_updO] at this
              exact this
            · cases h
          case panic x =>
            simp only [evOpsT, hw] at h
            simp only [evOps, hw']
            have e2 : fr.fr.env = fr.env.env := rfl
            rw [e2]
            split at h
            · rename_i t v hx; cases h; (try simp only [hx]); rfl
            · cases h
          case callP st f args =>
            simp only [evOpsT, hw] at h
            simp only [evOps, hw']
            have e2 : fr.fr.env = fr.env.env := rfl
            rw [e2]
            split at h
            · rename_i g a b vs h1 h2
              (try simp only [h1, h2])
              cases hp3 : ((!st && isE s) || pureL (a ++ vs ++ b)) with
              | false => rw [hp3] at h; cases h
              | true =>
                rw [hp3] at h
                simp only at h
                cases hm : M g (a ++ vs ++ b) with
                | some v =>
                  rw [hm] at h
                  obtain ⟨v0, s2, k1, k2, k3⟩ := hM _ _ _ hm
                  simp only [k1, k2, k3, Bool.or_true]
                  have := evOpsT_ok hH hM h
                  rwa [TF.fr_put] at this
                | none =>
                  rw [hm] at h
                  simp only at h
                  split at h
                  · rename_i v s2 h4
                    simp only [hH.call _ _ _ _ h4]
                    split at h
                    · rename_i v' h5
                      (try simp only [h5])
                      split at h
                      · rename_i h6
                        (try simp only [h6])
                        have := evOpsT_ok hH hM h
                        rwa [TF.fr_put] at this
                      · cases h
                    · cases h
                  · cases h
            · cases h
          case call f args =>
            simp only [evOpsT, hw] at h
            simp only [evOps, hw']
            have e2 : fr.fr.env = fr.env.env := rfl
            rw [e2]
            split at h
            · rename_i g a b vs s1 h1 h2
              (try simp only [h1, h2])
              split at h
              · rename_i v s2 h3
                simp only [hH.call _ _ _ _ h3]
                have := evOpsT_ok hH hM h
                rwa [TF.fr_put] at this
              · rename_i v s2 h3; simp only [hH.call _ _ _ _ h3]; cases h; rfl
              · cases h
            · cases h

theorem loopT_ok {f : TF → ASt → Option CT} {f' : Fr → ASt → Option CR} (hf : ∀ fr s r, f fr s = some r → f' fr.fr s = some r.out) : ∀ {k k' : Nat} {fr : TF} {s : ASt} {r : CT}, k ≤ k' → loopT f k fr s = some r → loopN f' k' fr.fr s = some r.out
  | 0, _, _, _, _, _, h => by simp [loopT] at h
  | k + 1, 0, _, _, _, hk, _ => by omega
  | k + 1, k' + 1, fr, s, r, hk, h => by
    simp only [loopT] at h
    simp only [loopN]
    cases hs : f fr s with
    | none => rw [hs] at h; cases h
    | some x =>
      rw [hs] at h
      rw [hf _ _ _ hs]
      obtain ⟨ex, fr1, s1⟩ := x
      cases ex with
      | normal => simp only [CT.out] at h ⊢; exact loopT_ok hf (by omega) h
      | exit i => cases h; rfl
      | ret => cases h; rfl
      | panic v => cases h; rfl

theorem evCT_ok (hH : Hle H H') (hM : MOk M H') {rd : Option Nat} {lf lf' : Nat} (hl : lf ≤ lf') : ∀ (c : AC) {fr : TF} {s : ASt} {r : CT}, evCT H P M rd lf c fr s = some r → evC H' P rd lf' c fr.fr s = some r.out
  | .skip, _, _, _, h => by cases h; rfl
  | .exit _, _, _, _, h => by cases h; rfl
  | .ret, _, _, _, h => by cases h; rfl
  | .scope b, fr, s, r, h => by simp only [evCT] at h; simp only [evC]; exact evCT_ok hH hM hl b h
  | .reg _ ops, fr, s, r, h => by
    simp only [evCT] at h
    simp only [evC]
    cases he : evOpsT H P M ops [] fr s with
    | none => rw [he] at h; cases h
    | some x =>
      rw [he] at h; rw [evOpsT_ok hH hM he]
      cases x with
      | norm fr1 s1 => cases h; rfl
      | pan v fr1 s1 => cases h; rfl
  | .regW ops, fr, s, r, h => by
    simp only [evCT] at h
    simp only [evC]
    cases he : evOpsT H P M ops [] fr s with
    | none => rw [he] at h; cases h
    | some x =>
      rw [he] at h; rw [evOpsT_ok hH hM he]
      cases x with
      | norm fr1 s1 =>
        simp only [OpsT.out] at h ⊢
        show (match djS P fr1.fr.env ops with | true => some (CR.mk .normal fr1.fr s1) | false => none) = _
        cases hd : djS P fr1.fr.env ops with
        | true => rw [hd] at h; cases h; rfl
        | false => rw [hd] at h; cases h
      | pan v fr1 s1 => cases h
  | .seq a b, fr, s, r, h => by
    simp only [evCT] at h
    simp only [evC]
    cases he : evCT H P M rd lf a fr s with
    | none => rw [he] at h; cases h
    | some x =>
      rw [he] at h; rw [evCT_ok hH hM hl a he]
      obtain ⟨ex, fr1, s1⟩ := x
      cases ex with
      | normal => simp only [CT.out] at h ⊢; exact evCT_ok hH hM hl b h
      | exit i => cases h; rfl
      | ret => cases h; rfl
      | panic v => cases h; rfl
  | .cond c t e, fr, s, r, h => by
    simp only [evCT] at h
    simp only [evC]
    have e2 : fr.fr.env = fr.env.env := rfl
    rw [e2]
    split at h
    · rename_i b hb
      (try simp only [hb])
      cases b with
      | true => exact evCT_ok hH hM hl t h
      | false => exact evCT_ok hH hM hl e h
    · cases h
  | .block id b, fr, s, r, h => by
    simp only [evCT] at h
    simp only [evC]
    cases he : evCT H P M rd lf b fr s with
    | none => rw [he] at h; cases h
    | some x =>
      rw [he] at h; rw [evCT_ok hH hM hl b he]
      obtain ⟨ex, fr1, s1⟩ := x
      cases ex with
      | normal => cases h; rfl
      | ret => cases h; rfl
      | panic v => cases h; rfl
      | exit j =>
        simp only [CT.out] at h ⊢
        cases hj : Nat.beq j id with
        | true => rw [hj] at h; cases h; rfl
        | false => rw [hj] at h; cases h; rfl
  | .loop b, fr, s, r, h => by
    simp only [evCT] at h
    simp only [evC]
    exact loopT_ok (fun _ _ _ => evCT_ok hH hM hl b) hl h
  | .rangeF f params assign body, fr, s, r, h => by
    simp only [evCT] at h
    simp only [evC]
    have e2 : fr.fr.env = fr.env.env := rfl
    rw [e2]
    split at h
    · rename_i l mark s1 g a b h1 h2
      (try simp only [h1, h2])
      split at h
      · rename_i v s2 h3 h4
        simp only [hH.call _ _ _ _ h4]
        (try simp only [h3])
        split at h
        · rename_i lp h5
          (try simp only [h5])
          cases hst : lp.st <;> simp only [hst] at h ⊢ <;> first | (cases h; rfl) | cases h
        · cases h
      · rename_i v s2 h3 h4; simp only [hH.call _ _ _ _ h4]; (try simp only [h3]); cases h; rfl
      · cases h
    · cases h

theorem roundT_ok (hH : Hle H H') (hM : MOk M H') {lf lf' : Nat} (hl : lf ≤ lf') {l : Nat} {args : List AV} {s : ASt} {r : ARes × ASt} (h : roundT H P M lf l args s = some r) : roundN H' P lf' l args s = some r := by
  have e0 : ∀ e : Env, (⟨⟨e, .nil⟩, []⟩ : TF).fr = ⟨e, []⟩ := fun e => by simp only [TF.fr, TE.env_nil]
  unfold roundT at h
  unfold roundN
  split at h
  · rename_i lp h1
    (try simp only [h1])
    split at h
    · rename_i h2 h3
      (try simp only [h2, h3])
      split at h
      · rename_i e1 s1 h4
        have := evCT_ok (P := P) hH hM hl _ h4
        rw [e0] at this
        simp only [this, CT.out, TF.fr]
        split at h
        · rename_i s2 h5
          (try simp only [h5])
          split at h
          · rename_i ex e2 s3 h6
            have := evCT_ok (P := P) hH hM hl _ h6
            simp only [CT.out, TF.fr] at this
            simp only [this]
            exact h
          · cases h
        · cases h
      · cases h
    · cases h
  · cases h

theorem runT_ok (hH : Hle H H') (hM : MOk M H') {lf lf' : Nat} (hl : lf ≤ lf') {f : AF} {args : List AV} {s : ASt} {r : ARes × ASt} (h : runT H P M lf f args s = some r) : runF H' P lf' f args s = some r := by
  have e0 : ∀ e : Env, (⟨⟨e, .nil⟩, []⟩ : TF).fr = ⟨e, []⟩ := fun e => by simp only [TF.fr, TE.env_nil]
  unfold runT at h
  unfold runF
  split at h
  · cases h
  · rename_i h0
    (try simp only [h0])
    split at h
    · rename_i ex fr s1 h1
      have := evCT_ok (P := P) hH hM hl _ h1
      rw [e0] at this
      simp only [this, CT.out]
      split at h
      · rename_i m h2
        (try simp only [h2])
        split at h
        · rename_i v s2 h3
          have h3' : runDs H fr.fr.ds m s1 = some (.pan v, s2) := h3
          have e1 := runDs_mono hH h3'; cases ex <;> cases h2 <;> (simp only [e1]; exact h)
        · rename_i s2 h3
          have h3' : runDs H fr.fr.ds m s1 = some (.ret, s2) := h3
          have e1 := runDs_mono hH h3'; cases ex <;> cases h2 <;> (simp only [e1]; exact h)
        · cases h
      · cases h
    · cases h

theorem callT_le {N0 : Nat} (hM : ∀ m, N0 ≤ m → MOk M (callN P m)) : ∀ {n m : Nat}, N0 + n ≤ m → Hle (callT P M n) (callN P m)
  | 0, _, _ => ⟨fun _ _ _ _ h => by simp [callT] at h, fun _ _ _ _ _ h => by simp [callT] at h⟩
  | n + 1, 0, h => by omega
  | n + 1, m + 1, h => by
    have ih := callT_le hM (show N0 + n ≤ m by omega)
    have hm := hM m (by omega)
    refine ⟨fun g a s r hr => ?_, fun f a d s r hr => ?_⟩
    · cases g with
      | func f =>
        simp only [callT] at hr
        simp only [callN]
        cases hp : P.prim f with
        | some p => simp only [hp] at hr ⊢; exact primRun_mono ih hr
        | none =>
          simp only [hp] at hr ⊢
          cases hf : P.fn f with
          | none => simp only [hf] at hr; cases hr
          | some af => simp only [hf] at hr ⊢; exact runT_ok ih hm (by omega) hr
      | yield l => simp only [callT] at hr; simp only [callN]; exact roundT_ok ih hm (by omega) hr
    · simp only [callT] at hr
      simp only [callN]
      cases hf : P.fn f with
      | none => simp only [hf] at hr; cases hr
      | some af => simp only [hf] at hr ⊢; exact runD_mono ih (by omega) hr

theorem Ev.runT {N0 n : Nat} (hM : ∀ m, N0 ≤ m → MOk M (callN P m)) {g : AFn} {args : List AV} {s : ASt} {r : ARes × ASt} {Q : ARes × ASt → Prop} (h : (callT P M n).call g args s = some r) (hq : Q r) : Ev (fun n => (callN P n).call g args s) Q :=
  ⟨r, N0 + n, hq, fun _ hm => (callT_le hM hm).call _ _ _ _ h⟩

/-! ### What is known, in a list -/
mutual
def eqV : AV → AV → Bool
  | .int k a, .int k' b => match Nat.beq (k.ctorIdx) (k'.ctorIdx) with | true => a == b | false => false
  | .bool a, .bool b => match a with | true => b | false => !b
  | .str a, .str b => eqB a b
  | .slice sz xs o, .slice sz' ys o' => match Nat.beq sz sz' && eqOwn o o' with | true => eqVs xs ys | false => false
  | .agg xs, .agg ys => eqVs xs ys
  | .tuple xs, .tuple ys => eqVs xs ys
  | .nilptr, .nilptr | .nilfunc, .nilfunc | .nilmap, .nilmap | .niliface, .niliface => true
  | .cptr a o, .cptr b o' => match Nat.beq o o' with | true => eqV a b | false => false
  | .func f a b, .func f' a' b' => match Nat.beq f f' with | true => (match eqVs a a' with | true => eqVs b b' | false => false) | false => false
  | .iface t a, .iface t' b => match Nat.beq t t' with | true => eqV a b | false => false
  | _, _ => false
def eqVs : List AV → List AV → Bool
  | [], [] => true
  | x :: xs, y :: ys => match eqV x y with | true => eqVs xs ys | false => false
  | _, _ => false
def eqB : List UInt8 → List UInt8 → Bool
  | [], [] => true
  | x :: xs, y :: ys => match Nat.beq x.toNat y.toNat with | true => eqB xs ys | false => false
  | _, _ => false
def eqOwn : Own → Own → Bool
  | .no, .no | .full, .full | .lit, .lit => true
  | _, _ => false
end

theorem eqB_ok : ∀ {a b : List UInt8}, eqB a b = true → a = b
  | [], [], _ => rfl
  | x :: xs, y :: ys, h => by
    simp only [eqB] at h
    cases hq : Nat.beq x.toNat y.toNat with
    | false => rw [hq] at h; cases h
    | true => rw [hq] at h; rw [eqB_ok h, UInt8.toNat_inj.1 (Nat.eq_of_beq_eq_true hq)]
  | [], _ :: _, h => by cases h
  | _ :: _, [], h => by cases h
theorem eqOwn_ok {a b : Own} (h : eqOwn a b = true) : a = b := by cases a <;> cases b <;> first | rfl | cases h
mutual
theorem eqV_ok : ∀ {a b : AV}, eqV a b = true → a = b
  | .int k a, .int k' b, h => by
    simp only [eqV] at h
    split at h
    · rename_i hq
      have e1 : k = k' := by
        have := Nat.eq_of_beq_eq_true hq
        cases k <;> cases k' <;> first | rfl | (cases this)
      rw [e1, eq_of_beq h]
    · cases h
  | .bool a, .bool b, h => by cases a <;> cases b <;> first | rfl | cases h
  | .str a, .str b, h => by rw [eqB_ok (a := a) (b := b) h]
  | .slice sz xs o, .slice sz' ys o', h => by
    simp only [eqV] at h
    split at h
    · rename_i hq
      simp only [Bool.and_eq_true] at hq
      rw [Nat.eq_of_beq_eq_true hq.1, eqOwn_ok hq.2, eqVs_ok h]
    · cases h
  | .agg xs, .agg ys, h => by rw [eqVs_ok (xs := xs) (ys := ys) h]
  | .tuple xs, .tuple ys, h => by rw [eqVs_ok (xs := xs) (ys := ys) h]
  | .nilptr, .nilptr, _ => rfl
  | .nilfunc, .nilfunc, _ => rfl
  | .nilmap, .nilmap, _ => rfl
  | .niliface, .niliface, _ => rfl
  | .cptr a o, .cptr b o', h => by
    simp only [eqV] at h
    split at h
    · rename_i hq; rw [Nat.eq_of_beq_eq_true hq, eqV_ok h]
    · cases h
  | .func f a b, .func f' a' b', h => by
    simp only [eqV] at h
    split at h
    · rename_i hq
      split at h
      · rename_i h2; rw [Nat.eq_of_beq_eq_true hq, eqVs_ok h2, eqVs_ok h]
      · cases h
    · cases h
  | .iface t a, .iface t' b, h => by
    simp only [eqV] at h
    split at h
    · rename_i hq; rw [Nat.eq_of_beq_eq_true hq, eqV_ok h]
    · cases h
theorem eqVs_ok : ∀ {xs ys : List AV}, eqVs xs ys = true → xs = ys
  | [], [], _ => rfl
  | x :: xs, y :: ys, h => by
    simp only [eqVs] at h
    split at h
    · rename_i hq; rw [eqV_ok hq, eqVs_ok h]
    · cases h
  | [], _ :: _, h => by cases h
  | _ :: _, [], h => by cases h
end

structure ME where
  g : Nat
  args : List AV
  v : AV
def lookM : List ME → Memo
  | [], _, _ => none
  | e :: r, g, args => match Nat.beq e.g g with
    | true => match eqVs e.args args with | true => some e.v | false => lookM r g args
    | false => lookM r g args
theorem lookM_mem : ∀ {l : List ME} {g : Nat} {args : List AV} {v : AV}, lookM l g args = some v → ⟨g, args, v⟩ ∈ l
  | [], _, _, _, h => by cases h
  | e :: r, g, args, v, h => by
    simp only [lookM] at h
    split at h
    · rename_i hq
      split at h
      · rename_i h2
        cases h
        rw [← Nat.eq_of_beq_eq_true hq, ← eqVs_ok h2]
        exact List.mem_cons_self ..
      · exact List.mem_cons_of_mem _ (lookM_mem h)
    · exact List.mem_cons_of_mem _ (lookM_mem h)

/-- What is known, is so. -/
inductive Known (P : AProg) : List ME → Prop
  | nil : Known P []
  | cons {g : Nat} {args : List AV} {v : AV} {r : List ME} (h : Pf P g args v) (t : Known P r) : Known P (⟨g, args, v⟩ :: r)
theorem Known.mem {l : List ME} (h : Known P l) : ∃ N0, ∀ m, N0 ≤ m → ∀ e ∈ l, ∃ v0 s2, (callN P m).call (.func e.g) e.args emptyS = some (.ret v0, s2) ∧ fixR v0 = some e.v ∧ pureV e.v = true := by
  induction h with
  | nil => exact ⟨0, fun _ _ _ he => by cases he⟩
  | cons h _ ih =>
    obtain ⟨N, hN⟩ := ih
    obtain ⟨⟨r, s2⟩, N', ⟨v0, h1, h2⟩, h3⟩ := h.ev.out
    simp only at h1
    subst h1
    refine ⟨max N N', fun m hm e he => ?_⟩
    rcases List.mem_cons.1 he with rfl | he
    · exact ⟨v0, s2, h3 m (by omega), h2, h.pure⟩
    · exact hN m (by omega) e he
theorem Known.ok {l : List ME} (h : Known P l) : ∃ N0, ∀ m, N0 ≤ m → MOk (lookM l) (callN P m) := by
  obtain ⟨N0, hN⟩ := h.mem
  exact ⟨N0, fun m hm g args v hl => hN m hm ⟨g, args, v⟩ (lookM_mem hl)⟩

def runsT (P : AProg) (l : List ME) (n g : Nat) (args : List AV) (v : AV) : Bool :=
  match (callT P (lookM l) n).call (.func g) args emptyS with
  | some (.ret w, _) => match fixR w, fixPs args with | some u, some us => eqV u v && pureV v && eqVs us args && pureL args | _, _ => false
  | _ => false

/-- A closed call. -/
theorem pf_runT {l : List ME} (hl : Known P l) {n g : Nat} {args : List AV} {v : AV} (h : runsT P l n g args v = true) : Pf P g args v := by
  unfold runsT at h
  split at h
  · rename_i w s' hc
    split at h
    · rename_i u us hu hus
      simp only [Bool.and_eq_true] at h
      obtain ⟨N0, hN⟩ := hl.ok
      refine ⟨Ev.runT hN hc ⟨_, rfl, ?_⟩, h.1.1.2, cans_of ?_ h.2⟩
      · rw [hu, eqV_ok h.1.1.1]
      · rw [hus, eqVs_ok h.1.2]
    · cases h
  · cases h

end
end Go.Fw
