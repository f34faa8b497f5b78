/- The framework, part 4: when a world holds a store, and what keeps that. -/
import Derived.Test.YthmlommnlihgcaaGreatDoorFwRep
namespace Go.Fw
open Go

/-- Is cooked code fit for a frame of nt slots? -/
def opCls : AOp → Nat      -- 0: it sees no store; 1: it reads its places; 2: it may change it; 3: a call, or a panic; 4: it changes its tokens; 5: it reads it
  | .load .. | .lookup .. => 1
  | .box _ | .alloc _ | .store .. | .mkMap | .mkSlice .. | .mapSet .. | .rangeStr _ | .nextStr _ | .copy .. | .defer .. | .recov => 2
  | .callP st _ _ => match st with | true => 0 | false => 5
  | .append tk _ _ _ _ => match tk with | true => 4 | false => 2
  | .call .. | .panic _ => 3
  | _ => 0

def clash (a b : Nat) : Bool :=
  match a, b with
  | 3, _ | _, 3 => true
  | 0, _ | _, 0 => false
  | 1, 1 | 1, 4 | 4, 1 | 1, 5 | 5, 1 | 5, 5 => false
  | _, _ => true

def opTmps : AOpnd → List Nat
  | .t i => [i]
  | _ => []
def optTmps : Option AOpnd → List Nat
  | some x => opTmps x
  | none => []
def readsOf : AOp → List Nat
  | .eqnil _ _ x | .mv x | .boxc x | .box x | .nilchk x | .un _ x | .toInt _ x | .mkIface _ x | .fieldA _ x | .field _ _ _ x | .rangeStr x | .nextStr x | .assert _ _ _ x | .extract x _ | .lenS x | .lenStr x | .panic x | .load _ _ x => opTmps x
  | .pick a b c | .mapSet _ a b c => opTmps a ++ opTmps b ++ opTmps c
  | .pend _ | .alloc _ | .mkMap | .lenA _ | .recov | .bad => []
  | .shut d _ x => d :: opTmps x
  | .build _ ps => ps.flatMap fun p => opTmps p.2.2
  | .bslice _ _ _ ps | .bsliceF _ _ _ ps => ps.flatMap fun p => opTmps p.2
  | .store _ a b | .bin _ a b | .eq _ a b | .eqF _ _ a b | .idxS _ a b | .idxA _ _ a b | .idxV _ _ _ a b | .idxStr a b | .lookup _ _ _ a b | .append _ _ _ a b | .copy _ a b | .mkSlice _ _ _ a b => opTmps a ++ opTmps b
  | .mkFunc _ a b => a.flatMap opTmps ++ b.flatMap opTmps
  | .cutS _ x l h m => opTmps x ++ optTmps l ++ optTmps h ++ optTmps m
  | .cutStr x l h | .cutA _ _ x l h => opTmps x ++ optTmps l ++ optTmps h
  | .call f xs | .callP _ f xs | .defer f xs => opTmps f ++ xs.flatMap opTmps
  | .minmax _ xs => xs.flatMap opTmps

/-- The slots that an operation writes. -/
def writesOf (i : AI) : List Nat := i.d.toList ++ (match i.op with | .shut d _ _ => [d] | _ => [])
def namesOf (i : AI) : List Nat := writesOf i ++ readsOf i.op ++ (match i.gd with | some (t, _) => [t] | none => [])

/-- In a region that draws its order: whatever clashes is ordered. -/
def drawOk (ops : List AI) : Bool :=
  (List.range ops.length).all fun j => (List.range j).all fun i =>
    match ops[i]?, ops[j]? with
    | some a, some b =>
      b.pre.contains i ||
        !(clash (opCls a.op) (opCls b.op) || (writesOf a).any (fun t => (namesOf b).contains t) || (writesOf b).any (fun t => (namesOf a).contains t))
    | _, _ => false

/-- .. but for stores that write in places of their own. -/
def drawOkW (ops : List AI) : Bool :=
  ((List.range ops.length).all fun j => (List.range j).all fun i =>
    match ops[i]?, ops[j]? with
    | some a, some b =>
      (b.pre.contains i ||
        !((clash (opCls a.op) (opCls b.op) && !(memP a b)) || (writesOf a).any (fun t => (namesOf b).contains t) || (writesOf b).any (fun t => (namesOf a).contains t))) &&
      (!isMem a || !((writesOf b).any (fun t => (readsOf a.op).contains t)))
    | _, _ => false) && ops.all fun i => !(Nat.beq (opCls i.op) 3) && (!isMem i || !((writesOf i).any (fun t => (readsOf i.op).contains t)))

/-- What may stand under a guard: a call's function is written there. -/
def skipOk : AOp → Bool
  | .bad => false
  | _ => true

def opsOk (nt : Nat) (rd : Bool) (ops : List AI) : Bool :=
  ops.all fun i => (writesOf i).all (fun d => Nat.blt d nt) && !(rd && (match i.op with | .defer .. => true | _ => false)) && (match i.gd with | none => true | some _ => skipOk i.op)

def acOk (nt : Nat) : Bool → AC → Bool
  | rd, .reg draw ops => opsOk nt rd ops && (!draw || drawOk ops)
  | rd, .regW ops => opsOk nt rd ops && drawOkW ops
  | rd, .seq a b => acOk nt rd a && acOk nt rd b
  | rd, .cond _ a b => acOk nt rd a && acOk nt rd b
  | rd, .block _ b | rd, .loop b | rd, .scope b => acOk nt rd b
  | _, .rangeF _ ps a b => ps.all (fun d => Nat.blt d nt) && acOk nt true a && acOk nt true b
  | _, _ => true

def stOk : LSt → LoopState → Prop
  | .ready, .ready | .busy, .busy | .done, .done | .exhausted, .exhausted => True
  | _, _ => False

def exOk : Option AExit → Option Code → Prop
  | none, none => True
  | some .ret, some .ret => True
  | some (.exit i), some (.exit j) => i = j
  | _, _ => False

structure LoopOk (P : Program) (G : Gh) (lp : ALoop) (L : Loop) : Prop where
  st : stOk lp.st L.state
  pend : exOk lp.pend L.pending
  env : ∀ i, R G (.v (lp.env i) (L.tmps.getD i undef))
  params : L.params.toList = lp.params
  pok : lp.params.all (fun d => Nat.blt d L.tmps.size) = true
  assign : ∃ h, cookC P h L.assign = some lp.assign ∧ acOk L.tmps.size true lp.assign = true
  body : ∃ h, cookC P h L.body = some lp.body ∧ acOk L.tmps.size true lp.body = true
  dq : G.L lp.dq = some L.defers
  fnok : ∃ fn, P.funcs[L.fn]? = some fn

inductive MapOk (G : Gh) : List (AV × AV) → List MapEntry → Prop
  | nil : MapOk G [] []
  | cons {a v e es ents} (hk : R G (.v a e.key)) (hv : R G (.v v e.val)) (t : MapOk G es ents) : MapOk G ((a, v) :: es) (e :: ents)

theorem MapOk.mono {G G' : Gh} (hG : G.le G') {es ents} (h : MapOk G es ents) : MapOk G' es ents := by
  induction h with
  | nil => exact .nil
  | cons hk hv _ ih => exact .cons (hk.mono hG) (hv.mono hG) ih

theorem LoopOk.mono {P : Program} {G G' : Gh} (hG : G.le G') {lp L} (h : LoopOk P G lp L) : LoopOk P G' lp L :=
  ⟨h.st, h.pend, fun i => (h.env i).mono hG, h.params, h.pok, h.assign, h.body, hG.L _ _ h.dq, h.fnok⟩

/-- What a block of the heap holds. -/
def ObjOk (P : Program) (G : Gh) (b : Nat) (o : Obj) : ABlk → Prop
  | .cells cs wr => ∃ vs e, o = .cells (List.toArray vs) e (0, 0) ∧ R G (.k cs vs) ∧ (wr = true → ∀ j, G.M b j = none) ∧ (wr = false → ∀ j x, vs[j]? = some x → G.M b j = some x)
  | .map es => ∃ ents clock, o = .map (List.toArray ents) clock ∧ MapOk G es ents
  | .iter t pos => ∃ st, o = .stringIter st pos ∧ st.data.toList = t ∧ st.size ≤ maxLen
  | .loop lp => ∃ L, o = .loop L ∧ LoopOk P G lp L
  | .defq => o = .deferred (some [])
  | .dead => True

/-- The rows of the tokens. -/
structure Bs where
  Pr : Nat → Prop
  w0 : World
  M0 : Nat → Nat → Option Value
  lt : ∀ b, Pr b → b < w0.heap.size

structure TokOk (G : Gh) (Pr : Nat → Prop) (w : World) (t n b c sz : Nat) : Prop where
  h : G.H t n = some (b, c, sz)
  np : ¬ Pr b
  lt : b < w.heap.size
  blk : ∃ e cur, w.heap[b]? = some (.cells cur e (0, 0)) ∧ cur.size = c * sz
  szp : 0 < sz
  nc : n ≤ c
  cm : c ≤ maxLen
  m : ∀ j, n * sz ≤ j → G.M b j = none
  l : ∀ ℓ, G.L ℓ ≠ some b

structure Inv (P : Program) (B : Bs) (G : Gh) (s : ASt) (w : World) : Prop where
  os : w.os = B.w0.os
  tape : w.tape = B.w0.tape
  output : w.output = B.w0.output
  size : B.w0.heap.size ≤ w.heap.size
  pr : ∀ b, B.Pr b → w.heap[b]? = B.w0.heap[b]?
  prM : ∀ b, B.Pr b → ∀ o, G.M b o = B.M0 b o
  m : ∀ b o x, G.M b o = some x → w.cell? ⟨b, o, none⟩ = some x
  l : ∀ ℓ b, G.L ℓ = some b → ℓ < s.blks.length ∧ b < w.heap.size ∧ ¬ B.Pr b
  inj : ∀ ℓ ℓ' b, G.L ℓ = some b → G.L ℓ' = some b → ℓ = ℓ'
  blk : ∀ ℓ b o k, G.L ℓ = some b → w.heap[b]? = some o → s.blks[ℓ]? = some k → ObjOk P G b o k
  tok : ∀ t n, s.toks[t]? = some n → ∃ b c sz, TokOk G B.Pr w t n b c sz
  tinj : ∀ t t' n n' b c sz c' sz', s.toks[t]? = some n → s.toks[t']? = some n' → G.H t n = some (b, c, sz) → G.H t' n' = some (b, c', sz') → t = t'
  hh : ∀ t n x, G.H t n = some x → ∃ n0, s.toks[t]? = some n0 ∧ n ≤ n0
  tot : ∀ ℓ, ℓ < s.blks.length → ∃ b, G.L ℓ = some b


theorem ObjOk.mono {P : Program} {G G' : Gh} (hG : G.le G') {b : Nat} {o : Obj} {k : ABlk} (hM : ∀ cs, k = .cells cs true → ∀ j, G'.M b j = none) (h : ObjOk P G b o k) : ObjOk P G' b o k := by
  cases k with
  | cells cs wr =>
    obtain ⟨vs, e, h1, h2, h3, h4⟩ := h
    refine ⟨vs, e, h1, h2.mono hG, fun hw => ?_, fun hw j x hx => hG.M _ _ _ (h4 hw j x hx)⟩
    subst hw; exact hM cs rfl
  | map es => obtain ⟨ents, clock, h1, h2⟩ := h; exact ⟨ents, clock, h1, h2.mono hG⟩
  | iter t pos => exact h
  | loop lp => obtain ⟨L, h1, h2⟩ := h; exact ⟨L, h1, h2.mono hG⟩
  | defq => exact h
  | dead => trivial

theorem heap_alloc_ne {w : World} {o : Obj} {b : Nat} (h : b ≠ w.heap.size) : (w.alloc o).heap[b]? = w.heap[b]? := by
  simp only [World.alloc, Array.getElem?_push]
  rw [if_neg h]
theorem heap_alloc_eq {w : World} {o : Obj} : (w.alloc o).heap[w.heap.size]? = some o := by unfold World.alloc; simp
theorem heap_lt {w : World} {b : Nat} {o : Obj} (h : w.heap[b]? = some o) : b < w.heap.size := (Array.getElem?_eq_some_iff.1 h).1
theorem cell_heap {w w' : World} {a : Addr} (h : w'.heap[a.block]? = w.heap[a.block]?) : w'.cell? a = w.cell? a := by simp [World.cell?, h]
theorem cell_lt {w : World} {a : Addr} {x : Value} (h : w.cell? a = some x) : a.block < w.heap.size := by
  unfold World.cell? at h
  split at h
  · rename_i e; exact heap_lt e
  · cases h
theorem cell_of {w : World} {b : Nat} {vs : List Value} {e : TypeId} {fr : Nat × Nat} (h : w.heap[b]? = some (.cells vs.toArray e fr)) (j : Nat) : w.cell? ⟨b, j, none⟩ = vs[j]? := by
  simp [World.cell?, h]

section
variable {P : Program} {B : Bs} {w : World} {G : Gh} {s : ASt}

theorem Inv.cong {s' : ASt} (h : Inv P B G s w) (hb : s'.blks = s.blks) (ht : s'.toks = s.toks) : Inv P B G s' w :=
  ⟨h.os, h.tape, h.output, h.size, h.pr, h.prM, h.m, by rw [hb]; exact h.l, h.inj, by rw [hb]; exact h.blk, by rw [ht]; exact h.tok, by rw [ht]; exact h.tinj, by rw [ht]; exact h.hh, by rw [hb]; exact h.tot⟩

theorem Inv.drawn (h : Inv P B G s w) (d : Nat) : Inv P B G s { w with drawn := d } :=
  ⟨h.os, h.tape, h.output, h.size, h.pr, h.prM, h.m, h.l, h.inj, h.blk, fun t n ht => let ⟨b, c, sz, k⟩ := h.tok t n ht; ⟨b, c, sz, k.h, k.np, k.lt, k.blk, k.szp, k.nc, k.cm, k.m, k.l⟩, h.tinj, h.hh, h.tot⟩

theorem Inv.Mlt (h : Inv P B G s w) {b o : Nat} {x : Value} (hx : G.M b o = some x) : b < w.heap.size := cell_lt (a := ⟨b, o, none⟩) (h.m b o x hx)
theorem Inv.Mnew (h : Inv P B G s w) (o : Nat) : G.M w.heap.size o = none := by
  cases hx : G.M w.heap.size o with
  | none => rfl
  | some x => exact absurd (h.Mlt hx) (Nat.lt_irrefl _)
theorem Inv.Lnew (h : Inv P B G s w) (ℓ : Nat) : G.L ℓ ≠ some w.heap.size := fun e => absurd (h.l _ _ e).2.1 (Nat.lt_irrefl _)
theorem Inv.Lend (h : Inv P B G s w) : G.L s.blks.length = none := by
  cases hx : G.L s.blks.length with
  | none => rfl
  | some x => exact absurd (h.l _ _ hx).1 (Nat.lt_irrefl _)

/-- A step that turns no block that the store or a token holds, and lays new ones. -/
theorem Inv.grow (h : Inv P B G s w) {w' : World} (ho : w'.os = w.os) (ht : w'.tape = w.tape) (hu : w'.output = w.output) (hs : w.heap.size ≤ w'.heap.size)
    (hk : ∀ b, b < w.heap.size → w'.heap[b]? = w.heap[b]?) : Inv P B G s w' where
  os := ho.trans h.os
  tape := ht.trans h.tape
  output := hu.trans h.output
  size := Nat.le_trans h.size hs
  pr := fun b hb => (hk b (Nat.lt_of_lt_of_le (B.lt b hb) h.size)).trans (h.pr b hb)
  prM := h.prM
  m := fun b o x hx => (cell_heap (hk b (h.Mlt hx))).trans (h.m b o x hx)
  l := fun ℓ b hl => ⟨(h.l ℓ b hl).1, Nat.lt_of_lt_of_le (h.l ℓ b hl).2.1 hs, (h.l ℓ b hl).2.2⟩
  inj := h.inj
  blk := fun ℓ b o k hl ho hk' => h.blk ℓ b o k hl (by rw [← hk b (h.l ℓ b hl).2.1]; exact ho) hk'
  tok := fun t n ht => by
    obtain ⟨b, c, sz, k⟩ := h.tok t n ht
    exact ⟨b, c, sz, k.h, k.np, Nat.lt_of_lt_of_le k.lt hs, by rw [hk b k.lt]; exact k.blk, k.szp, k.nc, k.cm, k.m, k.l⟩
  tinj := h.tinj
  hh := h.hh
  tot := h.tot

theorem Inv.alloc (h : Inv P B G s w) (o : Obj) : Inv P B G s (w.alloc o) :=
  h.grow rfl rfl rfl (by simp) fun _ hb => heap_alloc_ne (Nat.ne_of_lt hb)

/-- Cells of a block that no place, token or other cell holds become known. -/
def Gh.addM (G : Gh) (b lo hi : Nat) (vs : List Value) : Gh :=
  { G with M := fun b' o => if b' = b ∧ lo ≤ o ∧ o < hi then vs[o]? else G.M b' o }

theorem Gh.addM_le {b lo hi : Nat} {vs : List Value} (hn : ∀ o, lo ≤ o → o < hi → ∀ x, G.M b o = some x → vs[o]? = some x) : G.le (G.addM b lo hi vs) where
  M := fun b' o x hx => by
    simp only [Gh.addM]
    split
    · rename_i hc; obtain ⟨rfl, h1, h2⟩ := hc; exact hn o h1 h2 x hx
    · exact hx
  L := fun _ _ h => h
  H := fun _ _ _ h => h

theorem addM_in {b lo hi : Nat} {vs : List Value} {o : Nat} (h1 : lo ≤ o) (h2 : o < hi) : (G.addM b lo hi vs).M b o = vs[o]? := by simp [Gh.addM, h1, h2]
theorem addM_ne {b lo hi : Nat} {vs : List Value} {b' o : Nat} (h : b' ≠ b) : (G.addM b lo hi vs).M b' o = G.M b' o := by simp [Gh.addM, h]
theorem addM_out {b lo hi : Nat} {vs : List Value} {b' o : Nat} (h : ¬ (lo ≤ o ∧ o < hi)) : (G.addM b lo hi vs).M b' o = G.M b' o := by simp [Gh.addM, h]

/-- .. where nobody holds the block. -/
theorem Inv.addM_free (h : Inv P B G s w) {b : Nat} {vs : List Value} {e : TypeId} {fr : Nat × Nat} (hb : w.heap[b]? = some (.cells vs.toArray e fr)) (hn : ∀ o, G.M b o = none) (hl : ∀ ℓ, G.L ℓ ≠ some b)
    (ht : ∀ t n b' c sz, s.toks[t]? = some n → G.H t n = some (b', c, sz) → b' ≠ b) (hp : ¬ B.Pr b) (lo hi : Nat) : Inv P B (G.addM b lo hi vs) s w := by
  have hle : G.le (G.addM b lo hi vs) := Gh.addM_le fun o _ _ x hx => by rw [hn o] at hx; cases hx
  exact {
    os := h.os, tape := h.tape, output := h.output, size := h.size, pr := h.pr
    prM := fun x hx o => by
      have hne : x ≠ b := fun e' => hp (by rw [← e']; exact hx)
      rw [addM_ne hne]; exact h.prM x hx o
    m := fun b' o x hx => by
      by_cases hc : b' = b ∧ lo ≤ o ∧ o < hi
      · obtain ⟨rfl, h1, h2⟩ := hc
        rw [addM_in h1 h2] at hx
        rw [cell_of hb]; exact hx
      · have : G.M b' o = some x := by simpa [Gh.addM, hc] using hx
        exact h.m b' o x this
    l := h.l, inj := h.inj
    blk := fun ℓ b' o k hl' ho hk => (h.blk ℓ b' o k hl' ho hk).mono hle fun cs hc j => by
      have hne : b' ≠ b := fun e => hl ℓ (e ▸ hl')
      rw [addM_ne hne]
      have := h.blk ℓ b' o k hl' ho hk
      subst hc
      obtain ⟨_, _, _, _, h3, _⟩ := this
      exact h3 rfl j
    tok := fun t n ht' => by
      obtain ⟨b', c, sz, k⟩ := h.tok t n ht'
      have hne : b' ≠ b := ht t n b' c sz ht' k.h
      exact ⟨b', c, sz, k.h, k.np, k.lt, k.blk, k.szp, k.nc, k.cm, fun j hj => by rw [addM_ne hne]; exact k.m j hj, k.l⟩
    tinj := h.tinj, hh := h.hh, tot := h.tot }

/-- A new block of cells that never change. -/
theorem Inv.allocM (h : Inv P B G s w) (vs : List Value) (e : TypeId) (fr : Nat × Nat) (hi : Nat) :
    Inv P B (G.addM w.heap.size 0 hi vs) s (w.alloc (.cells vs.toArray e fr)) :=
  (h.alloc _).addM_free heap_alloc_eq (fun o => h.Mnew o) (fun ℓ => h.Lnew ℓ) (fun t n b' c sz ht hh => by
    obtain ⟨b, c', sz', k⟩ := h.tok t n ht
    rw [k.h] at hh; cases hh
    exact Nat.ne_of_lt k.lt) (fun hp => absurd (Nat.lt_of_lt_of_le (B.lt _ hp) h.size) (Nat.lt_irrefl _)) 0 hi

theorem Inv.addM_new_le (h : Inv P B G s w) (hi : Nat) (vs : List Value) : G.le (G.addM w.heap.size 0 hi vs) :=
  Gh.addM_le fun o _ _ x hx => by rw [h.Mnew o] at hx; cases hx

/-- A new place of the store. -/
def Gh.addL (G : Gh) (l b : Nat) : Gh := { G with L := fun l' => if l' = l then some b else G.L l' }
theorem addL_eq {l b : Nat} : (G.addL l b).L l = some b := by simp [Gh.addL]
theorem addL_ne {l b l' : Nat} (h : l' ≠ l) : (G.addL l b).L l' = G.L l' := by simp [Gh.addL, h]
theorem Gh.addL_le {l b : Nat} (h : G.L l = none) : G.le (G.addL l b) where
  M := fun _ _ _ h => h
  L := fun l' b' hb => by
    by_cases e : l' = l
    · subst e; rw [h] at hb; cases hb
    · rw [addL_ne e]; exact hb
  H := fun _ _ _ h => h

theorem Inv.allocL (h : Inv P B G s w) (o : Obj) (k : ABlk) (hk : ObjOk P (G.addL s.blks.length w.heap.size) w.heap.size o k) :
    Inv P B (G.addL s.blks.length w.heap.size) { s with blks := s.blks ++ [k] } (w.alloc o) := by
  have ha := h.alloc o
  have hle : G.le (G.addL s.blks.length w.heap.size) := Gh.addL_le h.Lend
  have hL : ∀ {ℓ b}, (G.addL s.blks.length w.heap.size).L ℓ = some b → (ℓ = s.blks.length ∧ b = w.heap.size) ∨ (ℓ ≠ s.blks.length ∧ G.L ℓ = some b) := by
    intro ℓ b hb
    by_cases e : ℓ = s.blks.length
    · subst e; rw [addL_eq] at hb; cases hb; exact .inl ⟨rfl, rfl⟩
    · rw [addL_ne e] at hb; exact .inr ⟨e, hb⟩
  exact {
    os := ha.os, tape := ha.tape, output := ha.output, size := ha.size, pr := ha.pr, prM := ha.prM, m := ha.m
    l := fun ℓ b hb => by
      rcases hL hb with ⟨rfl, rfl⟩ | ⟨_, hb⟩
      · exact ⟨by simp, by simp, fun hp => absurd (Nat.lt_of_lt_of_le (B.lt _ hp) h.size) (Nat.lt_irrefl _)⟩
      · exact ⟨by have := (h.l ℓ b hb).1; simp; omega, (ha.l ℓ b hb).2.1, (h.l ℓ b hb).2.2⟩
    inj := fun ℓ ℓ' b hb hb' => by
      rcases hL hb with ⟨rfl, rfl⟩ | ⟨_, hb⟩ <;> rcases hL hb' with ⟨rfl, e⟩ | ⟨_, hb'⟩
      · rfl
      · exact absurd hb' (h.Lnew _)
      · subst e; exact absurd hb (h.Lnew _)
      · exact h.inj _ _ _ hb hb'
    blk := fun ℓ b o' k' hb ho hk' => by
      rcases hL hb with ⟨rfl, rfl⟩ | ⟨hne, hb⟩
      · rw [heap_alloc_eq] at ho; cases ho
        simp at hk'; subst hk'; exact hk
      · have hlt := (h.l ℓ b hb).1
        rw [List.getElem?_append_left hlt] at hk'
        exact (ha.blk ℓ b o' k' hb ho hk').mono hle fun cs hc j => by
          have := ha.blk ℓ b o' k' hb ho hk'
          subst hc
          obtain ⟨_, _, _, _, h3, _⟩ := this
          exact h3 rfl j
    tok := fun t n ht => by
      obtain ⟨b, c, sz, k⟩ := ha.tok t n ht
      obtain ⟨b', c', sz', k'⟩ := h.tok t n ht
      have he := k.h.symm.trans k'.h
      cases he
      exact ⟨b, c, sz, k.h, k.np, k.lt, k.blk, k.szp, k.nc, k.cm, k.m, fun ℓ hb => by
        rcases hL hb with ⟨rfl, rfl⟩ | ⟨_, hb⟩
        · exact absurd k'.lt (Nat.lt_irrefl _)
        · exact k.l ℓ hb⟩
    tinj := ha.tinj, hh := ha.hh
    tot := fun ℓ hℓ => by
      by_cases q : ℓ = s.blks.length
      · subst q; exact ⟨_, addL_eq⟩
      · rw [addL_ne q]
        refine h.tot ℓ ?_
        simp at hℓ; omega }

/-- A place's block is turned. -/
theorem Inv.put (h : Inv P B G s w) {ℓ b : Nat} {o' : Obj} {k' : ABlk} (hl : G.L ℓ = some b) (hk : ObjOk P G b o' k') (hM : ∀ j x, G.M b j = some x → (w.putObj b o').cell? ⟨b, j, none⟩ = some x) :
    Inv P B G { s with blks := s.blks.set ℓ k' } (w.putObj b o') := by
  have hlt := (h.l ℓ b hl).2.1
  have hne : ∀ {x}, x ≠ b → (w.putObj b o').heap[x]? = w.heap[x]? := fun hx => World.putObj_heap_other hx
  have hsz : (w.putObj b o').heap.size = w.heap.size := by simp [World.putObj]
  exact {
    os := h.os, tape := h.tape, output := h.output, size := by rw [hsz]; exact h.size
    pr := fun x hx => (hne (fun e => (h.l ℓ b hl).2.2 (e ▸ hx))).trans (h.pr x hx)
    prM := h.prM
    m := fun x j v hv => by
      by_cases e : x = b
      · subst e; exact hM j v hv
      · rw [cell_heap (hne e)]; exact h.m x j v hv
    l := fun ℓ' x hx => ⟨by simpa using (h.l ℓ' x hx).1, by rw [hsz]; exact (h.l ℓ' x hx).2.1, (h.l ℓ' x hx).2.2⟩
    inj := h.inj
    blk := fun ℓ' x o k hx ho hk' => by
      by_cases e : ℓ' = ℓ
      · subst e
        rw [hl] at hx; cases hx
        rw [World.putObj_heap_same hlt] at ho; cases ho
        rw [List.getElem?_set_self (h.l _ _ hl).1] at hk'; cases hk'
        exact hk
      · have hxb : x ≠ b := fun e' => e (h.inj _ _ _ hx (e' ▸ hl))
        rw [hne hxb] at ho
        rw [List.getElem?_set_ne (fun e' => e e'.symm)] at hk'
        exact h.blk ℓ' x o k hx ho hk'
    tok := fun t n ht => by
      obtain ⟨x, c, sz, k⟩ := h.tok t n ht
      have hxb : x ≠ b := fun e => k.l ℓ (e ▸ hl)
      exact ⟨x, c, sz, k.h, k.np, by rw [hsz]; exact k.lt, by rw [hne hxb]; exact k.blk, k.szp, k.nc, k.cm, k.m, k.l⟩
    tinj := h.tinj, hh := h.hh, tot := fun ℓ hℓ => h.tot ℓ (by simpa using hℓ) }

/-- A place's abstract content is turned, the block stays. -/
theorem Inv.reblk (h : Inv P B G s w) {G' : Gh} (hle : G.le G') (hLe : ∀ ℓ, G'.L ℓ = G.L ℓ) (hHe : ∀ t n, G'.H t n = G.H t n) {ℓ b : Nat} {k' : ABlk} (hl : G.L ℓ = some b)
    (hM : ∀ x j, x ≠ b → G'.M x j = G.M x j) (hMb : ∀ j x, G'.M b j = some x → w.cell? ⟨b, j, none⟩ = some x)
    (hk : ∀ o, w.heap[b]? = some o → ObjOk P G' b o k') : Inv P B G' { s with blks := s.blks.set ℓ k' } w := by
  exact {
    os := h.os, tape := h.tape, output := h.output, size := h.size, pr := h.pr
    prM := fun x hx o => by rw [hM x o (fun e => (h.l ℓ b hl).2.2 (e ▸ hx))]; exact h.prM x hx o
    m := fun x j v hv => by
      by_cases e : x = b
      · subst e; exact hMb j v hv
      · rw [hM x j e] at hv; exact h.m x j v hv
    l := fun ℓ' x hx => by rw [hLe] at hx; exact ⟨by simpa using (h.l ℓ' x hx).1, (h.l ℓ' x hx).2⟩
    inj := fun ℓ' ℓ'' x hx hx' => by rw [hLe] at hx hx'; exact h.inj _ _ _ hx hx'
    blk := fun ℓ' x o k hx ho hk' => by
      rw [hLe] at hx
      by_cases e : ℓ' = ℓ
      · subst e
        rw [hl] at hx; cases hx
        rw [List.getElem?_set_self (h.l _ _ hl).1] at hk'; cases hk'
        exact hk o ho
      · have hxb : x ≠ b := fun e' => e (h.inj _ _ _ hx (e' ▸ hl))
        rw [List.getElem?_set_ne (fun e' => e e'.symm)] at hk'
        refine (h.blk ℓ' x o k hx ho hk').mono hle fun cs hc j => ?_
        rw [hM x j hxb]
        have := h.blk ℓ' x o k hx ho hk'
        subst hc
        obtain ⟨_, _, _, _, h3, _⟩ := this
        exact h3 rfl j
    tok := fun t n ht => by
      obtain ⟨x, c, sz, k⟩ := h.tok t n ht
      have hxb : x ≠ b := fun e => k.l ℓ (e ▸ hl)
      exact ⟨x, c, sz, by rw [hHe]; exact k.h, k.np, k.lt, k.blk, k.szp, k.nc, k.cm, fun j hj => by rw [hM x j hxb]; exact k.m j hj, fun ℓ' => by rw [hLe]; exact k.l ℓ'⟩
    tinj := fun t t' n n' b' c sz c' sz' h1 h2 h3 h4 => by rw [hHe] at h3 h4; exact h.tinj t t' n n' b' c sz c' sz' h1 h2 h3 h4
    hh := fun t n x hx => by rw [hHe] at hx; exact h.hh t n x hx
    tot := fun ℓ' hℓ => by rw [hLe]; exact h.tot ℓ' (by simpa using hℓ) }

/-- A step that lays new blocks alone, and makes known cells of new blocks alone. -/
structure Quiet (G : Gh) (w : World) (G' : Gh) (w' : World) : Prop where
  le : G.le G'
  L : ∀ ℓ, G'.L ℓ = G.L ℓ
  H : ∀ t n, G'.H t n = G.H t n
  os : w'.os = w.os
  tape : w'.tape = w.tape
  output : w'.output = w.output
  size : w.heap.size ≤ w'.heap.size
  keep : ∀ b, b < w.heap.size → w'.heap[b]? = w.heap[b]?
  old : ∀ b, b < w.heap.size → ∀ o, G'.M b o = G.M b o
  new : ∀ b o x, w.heap.size ≤ b → G'.M b o = some x → w'.cell? ⟨b, o, none⟩ = some x

theorem Quiet.refl (G : Gh) (w : World) (h : ∀ b o x, w.heap.size ≤ b → G.M b o = some x → w.cell? ⟨b, o, none⟩ = some x) : Quiet G w G w :=
  ⟨.refl _, fun _ => rfl, fun _ _ => rfl, rfl, rfl, rfl, Nat.le_refl _, fun _ _ => rfl, fun _ _ _ => rfl, h⟩

theorem Inv.quiet (h : Inv P B G s w) : Quiet G w G w := .refl _ _ fun b o x _ hx => h.m b o x hx

theorem Quiet.inv {G' : Gh} {w' : World} (q : Quiet G w G' w') (h : Inv P B G s w) : Inv P B G' s w' where
  os := q.os.trans h.os
  tape := q.tape.trans h.tape
  output := q.output.trans h.output
  size := Nat.le_trans h.size q.size
  pr := fun b hb => (q.keep b (Nat.lt_of_lt_of_le (B.lt b hb) h.size)).trans (h.pr b hb)
  prM := fun b hb o => (q.old b (Nat.lt_of_lt_of_le (B.lt b hb) h.size) o).trans (h.prM b hb o)
  m := fun b o x hx => by
    rcases Nat.lt_or_ge b w.heap.size with hb | hb
    · rw [q.old b hb] at hx; exact (cell_heap (q.keep b hb)).trans (h.m b o x hx)
    · exact q.new b o x hb hx
  l := fun ℓ b hl => by rw [q.L] at hl; exact ⟨(h.l ℓ b hl).1, Nat.lt_of_lt_of_le (h.l ℓ b hl).2.1 q.size, (h.l ℓ b hl).2.2⟩
  inj := fun ℓ ℓ' b hl hl' => by rw [q.L] at hl hl'; exact h.inj _ _ _ hl hl'
  blk := fun ℓ b o k hl ho hk => by
    rw [q.L] at hl
    have hlt := (h.l ℓ b hl).2.1
    rw [q.keep b hlt] at ho
    refine (h.blk ℓ b o k hl ho hk).mono q.le fun cs hc j => ?_
    rw [q.old b hlt]
    have := h.blk ℓ b o k hl ho hk
    subst hc
    obtain ⟨_, _, _, _, h3, _⟩ := this
    exact h3 rfl j
  tok := fun t n ht => by
    obtain ⟨b, c, sz, k⟩ := h.tok t n ht
    exact ⟨b, c, sz, by rw [q.H]; exact k.h, k.np, Nat.lt_of_lt_of_le k.lt q.size, by rw [q.keep b k.lt]; exact k.blk, k.szp, k.nc, k.cm, fun j hj => by rw [q.old b k.lt]; exact k.m j hj, fun ℓ => by rw [q.L]; exact k.l ℓ⟩
  tinj := fun t t' n n' b c sz c' sz' h1 h2 h3 h4 => by rw [q.H] at h3 h4; exact h.tinj t t' n n' b c sz c' sz' h1 h2 h3 h4
  hh := fun t n x hx => by rw [q.H] at hx; exact h.hh t n x hx
  tot := fun ℓ hℓ => by rw [q.L]; exact h.tot ℓ hℓ

theorem Inv.quietM (h : Inv P B G s w) (vs : List Value) (e : TypeId) (fr : Nat × Nat) (hi : Nat) : Quiet G w (G.addM w.heap.size 0 hi vs) (w.alloc (.cells vs.toArray e fr)) where
  le := h.addM_new_le hi vs
  L := fun _ => rfl
  H := fun _ _ => rfl
  os := rfl
  tape := rfl
  output := rfl
  size := by simp
  keep := fun b hb => heap_alloc_ne (Nat.ne_of_lt hb)
  old := fun b hb o => addM_ne (Nat.ne_of_lt hb)
  new := fun b o x hb hx => (h.allocM vs e fr hi).m b o x hx

theorem Inv.quietA (h : Inv P B G s w) (o : Obj) : Quiet G w G (w.alloc o) where
  le := .refl _
  L := fun _ => rfl
  H := fun _ _ => rfl
  os := rfl
  tape := rfl
  output := rfl
  size := by simp
  keep := fun b hb => heap_alloc_ne (Nat.ne_of_lt hb)
  old := fun b hb o => rfl
  new := fun b o x hb hx => absurd (h.Mlt hx) (Nat.not_lt.2 hb)

end
end Go.Fw
