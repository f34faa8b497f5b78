/- The framework, part 1: abstract values, cooked code, and the abstract interpreter. -/
import GoSem.Dispatch
import GoSem.Core.View
namespace Go.Fw
open Go

/-- Who may append to a slice in place: nobody knows; its capacity is its length; the holder of a token. -/
inductive Own where
  | no
  | full
  | lit                                    -- as full; it stays so within a value
  | tok (t : Nat)
  deriving DecidableEq, Repr, Inhabited

/-- Abstract values. -/
inductive AV where
  | int (k : IntKind) (n : Int)
  | bool (b : Bool)
  | str (s : List UInt8)
  | slice (sz : Nat) (xs : List AV) (o : Own)
  | mslice (l off len cap sz : Nat)
  | agg (cs : List AV)
  | tuple (vs : List AV)
  | nilptr
  | ptr (l off : Nat)
  | cptr (v : AV) (off : Nat)
  | func (f : Nat) (first captured : List AV)
  | nilfunc
  | yield (l : Nat)
  | map (l : Nat)
  | nilmap
  | iface (t : Nat) (v : AV)
  | niliface
  | iter (l : Nat)
  | junk                                   -- whatever
  deriving Repr, Inhabited

inductive AOpnd where
  | t (i : Nat)
  | c (v : AV)
  | g (g : Nat)
  | f (f : Nat)
  deriving Repr, Inhabited

/-- What a map's key is. -/
inductive KK where
  | int | str | bool
  deriving DecidableEq, Repr, Inhabited

/-- What is compared with nil. -/
inductive NK where
  | ptr | slice | map | func | iface
  deriving DecidableEq, Repr, Inhabited

inductive AOp where
  | mv (x : AOpnd)
  | pick (c a b : AOpnd)
  | boxc (x : AOpnd)                       -- a new variable that is never written
  | box (x : AOpnd)
  | pend (z : List AV)                     -- a new variable, zero: filled by 'shut' in the same region, and never written again
  | shut (d : Nat) (sz : Nat) (x : AOpnd)
  | alloc (z : List AV)
  | build (z : List AV) (parts : List (Nat × Nat × AOpnd))
  | bslice (esz : Nat) (len : Nat) (z : List AV) (parts : List (Nat × AOpnd))
  | bsliceF (esz : Nat) (len : Nat) (z : List AV) (parts : List (Nat × AOpnd))
  | load (agg : Bool) (sz : Nat) (x : AOpnd)
  | store (sz : Nat) (a x : AOpnd)
  | nilchk (x : AOpnd)
  | bin (op : BinOp) (x y : AOpnd)
  | eq (neg : Bool) (x y : AOpnd)           -- all cells are whole numbers, strings or bools
  | eqF (neg : Bool) (ks : List KK) (x y : AOpnd)     -- structs of such cells
  | eqnil (neg : Bool) (k : NK) (x : AOpnd)
  | un (op : UnOp) (x : AOpnd)
  | toInt (k : IntKind) (x : AOpnd)
  | mkIface (t : Nat) (x : AOpnd)
  | mkFunc (f : Nat) (first captured : List AOpnd)
  | mkMap
  | mkSlice (esz bytes : Nat) (z : List AV) (len cap : AOpnd)
  | cutS (esz : Nat) (x : AOpnd) (lo hi mx : Option AOpnd)
  | cutStr (x : AOpnd) (lo hi : Option AOpnd)
  | cutA (n esz : Nat) (x : AOpnd) (lo hi : Option AOpnd)
  | fieldA (off : Nat) (x : AOpnd)
  | field (agg : Bool) (off sz : Nat) (x : AOpnd)
  | idxS (esz : Nat) (x i : AOpnd)
  | idxA (n esz : Nat) (x i : AOpnd)
  | idxV (n esz : Nat) (agg : Bool) (x i : AOpnd)
  | idxStr (x i : AOpnd)
  | lookup (ok : Bool) (kk : KK) (z : AV) (m k : AOpnd)
  | mapSet (kk : KK) (m k v : AOpnd)
  | rangeStr (x : AOpnd)
  | nextStr (it : AOpnd)
  | assert (ok : Bool) (t : Nat) (z : AV) (x : AOpnd)
  | extract (x : AOpnd) (i : Nat)
  | call (f : AOpnd) (args : List AOpnd)
  | callP (st : Bool) (f : AOpnd) (args : List AOpnd)    -- it sees no store (st: what it is handed is looked at in any case)
  | lenS (x : AOpnd)
  | lenStr (x : AOpnd)
  | lenA (n : Nat)
  | append (tk : Bool) (esz bytes : Nat) (s x : AOpnd)     -- tk: onto a slice that is no mutable row
  | copy (esz : Nat) (d s : AOpnd)
  | minmax (mx : Bool) (xs : List AOpnd)
  | recov
  | defer (f : AOpnd) (args : List AOpnd)
  | panic (x : AOpnd)
  | bad                                    -- not taken in
  deriving Repr, Inhabited

structure AI where
  d : Option Nat
  op : AOp
  gd : Option (Nat × Bool)
  pre : List Nat := []                     -- in a region that draws its order: the operations that are ahead of it, whatever is drawn
  deriving Repr, Inhabited

inductive AC where
  | skip
  | reg (draw : Bool) (ops : List AI)
  | seq (a b : AC)
  | cond (c : AOpnd) (t e : AC)
  | block (id : Nat) (b : AC)
  | loop (b : AC)
  | rangeF (f : AOpnd) (params : List Nat) (assign body : AC)
  | exit (id : Nat)
  | ret
  | scope (b : AC)
  | regW (ops : List AI)                   -- a region that draws its order, with stores whose order is drawn
  deriving Repr, Inhabited

def isSt (i : AI) : Bool := match i.op, i.d with | .store .., none => true | _, _ => false
def isLd (i : AI) : Bool := match i.op with | .load .. => true | _ => false
def isMem (i : AI) : Bool := isSt i || isLd i
/-- A store, and a store or a load. -/
def memP (a b : AI) : Bool := (isSt a && isMem b) || (isMem a && isSt b)
/-- Two of them whose order is drawn. -/
def loose (ops : List AI) : Bool :=
  (List.range ops.length).any fun j => (List.range j).any fun i =>
    match ops[i]?, ops[j]? with
    | some a, some b => memP a b && !b.pre.contains i
    | _, _ => false

inductive ARV where
  | tmp (t : Nat)
  | cell (t : Nat) (agg : Bool) (sz : Nat)
  deriving Repr, Inhabited

structure AF where
  np : Nat
  nt : Nat
  res : List ARV
  body : AC
  deriving Repr, Inhabited

/-! ### The store -/
inductive AExit where
  | normal
  | exit (id : Nat)
  | ret
  | panic (v : AV)
  deriving Repr, Inhabited

inductive LSt where
  | ready | busy | done | exhausted
  deriving DecidableEq, Repr, Inhabited

structure ALoop where
  st : LSt
  pend : Option AExit
  env : Nat → AV
  dq : Nat
  params : List Nat
  assign : AC
  body : AC

inductive ABlk where
  | cells (cs : List AV) (w : Bool)
  | map (es : List (AV × AV))
  | loop (l : ALoop)
  | iter (s : List UInt8) (pos : Nat)
  | defq
  | dead

instance : Inhabited ABlk := ⟨.dead⟩

structure ASt where
  blks : List ABlk
  toks : List Nat
  lowB : Option Nat := none      -- the first of the places into which a value that mentions a place was written
  lowT : Option Nat := none      -- .. a token

inductive ARes where
  | ret (v : AV)
  | panic (v : AV)
  deriving Repr, Inhabited

inductive AFn where
  | func (f : Nat)
  | yield (l : Nat)
  deriving Repr, Inhabited

/-- How a frame is leaving. -/
inductive DM where
  | ret
  | pan (v : AV)
  deriving Repr, Inhabited

structure Handler where
  call : AFn → List AV → ASt → Option (ARes × ASt)
  dcall : Nat → List AV → DM → ASt → Option (DM × ASt)

def undefA : AV := .tuple []

abbrev Env := Nat → AV
def upd (e : Env) (i : Nat) (v : AV) : Env := fun j => match Nat.beq j i with | true => v | false => e j
def updO (e : Env) (d : Option Nat) (v : AV) : Env := match d with | some i => upd e i v | none => e

def cellsOf : AV → List AV
  | .agg cs => cs
  | v => [v]

/-! Does a value mention a place of the store? -/
mutual
def locs : AV → Bool
  | .int .. | .bool .. | .str .. | .nilptr | .nilfunc | .nilmap | .niliface | .junk => false
  | .slice _ xs _ => locsL xs
  | .mslice .. | .ptr .. | .yield _ | .map _ | .iter _ => true
  | .agg cs => locsL cs
  | .tuple vs => locsL vs
  | .cptr v _ => locs v
  | .func _ a b => locsL a || locsL b
  | .iface _ v => locs v
def locsL : List AV → Bool
  | [] => false
  | x :: xs => locs x || locsL xs
end

/-! Does a value mention a token? -/
mutual
def toks : AV → Bool
  | .int .. | .bool .. | .str .. | .nilptr | .nilfunc | .nilmap | .niliface | .junk | .mslice .. | .ptr .. | .yield _ | .map _ | .iter _ => false
  | .slice _ xs o => (match o with | .tok _ => true | _ => toksL xs)
  | .agg cs => toksL cs
  | .tuple vs => toksL vs
  | .cptr v _ => toks v
  | .func _ a b => toksL a || toksL b
  | .iface _ v => toks v
def toksL : List AV → Bool
  | [] => false
  | x :: xs => toks x || toksL xs
end

/-! Does a value mention neither a place nor a token? -/
mutual
def pureV : AV → Bool
  | .int .. | .bool .. | .str .. | .nilptr | .nilfunc | .nilmap | .niliface | .junk => true
  | .slice _ xs o => (match o with | .tok _ => false | _ => pureL xs)
  | .mslice .. | .ptr .. | .yield _ | .map _ | .iter _ => false
  | .agg cs => pureL cs
  | .tuple vs => pureL vs
  | .cptr v _ => pureV v
  | .func _ a b => pureL a && pureL b
  | .iface _ v => pureV v
def pureL : List AV → Bool
  | [] => true
  | x :: xs => pureV x && pureL xs
end

/-- The elements of a row of cells. -/
def chunks (sz : Nat) : Nat → List AV → List AV
  | 0, _ => []
  | n + 1, cs => (match sz with | 1 => cs.headD undefA | _ => .agg (cs.take sz)) :: chunks sz n (cs.drop sz)

/-- The cells of an element, as a slice says them: an empty one says none. -/
def szC (sz : Nat) : List AV → Nat
  | [] => 0
  | _ :: _ => sz

/-- A cell as it goes into something: no token. -/
def fix1 : AV → Option AV
  | .slice sz xs o => match o with | .no => some (.slice sz xs .no) | .lit => some (.slice (szC sz xs) xs .lit) | _ => some (.slice (szC sz xs) xs .no)
  | .mslice .. | .tuple _ | .junk | .agg _ => none
  | v => some v

def fixL : List AV → Option (List AV)
  | [] => some []
  | x :: xs => match fix1 x with | none => none | some y => match fixL xs with | none => none | some ys => some (y :: ys)

/-- A value as it goes into something. -/
def fixP : AV → Option AV
  | .agg cs => match fixL cs with | some ds => some (.agg ds) | none => none
  | v => fix1 v

def fixPs : List AV → Option (List AV)
  | [] => some []
  | x :: xs => match fixP x with | none => none | some y => match fixPs xs with | none => none | some ys => some (y :: ys)

/-- The elements that a slice over a written row has. -/
def rowOf (s : ASt) (l off len sz : Nat) : Option (List AV) :=
  match s.blks[l]? with
  | some (.cells cs _) => if off + len * sz ≤ cs.length then fixPs (chunks sz len (cs.drop off)) else none
  | _ => none

/-- The same where what is mutable is frozen. -/
def fixv (s : ASt) : AV → Option (AV × ASt)
  | .mslice l off len _ sz =>
    match rowOf s l off len sz, s.blks[l]? with
    | some xs, some (.cells cs _) => some (.slice sz xs .no, { s with blks := s.blks.set l (.cells cs false) })
    | _, _ => none
  | v => match fixP v with | some x => some (x, s) | none => none

def fixvs (s : ASt) : List AV → Option (List AV × ASt)
  | [] => some ([], s)
  | x :: xs => match fixv s x with | none => none | some (y, s1) => match fixvs s1 xs with | none => none | some (ys, s2) => some (y :: ys, s2)

/-! ### Operations -/
/-- A function that is known by heart: the calls that it makes of other functions, and what it hands back. -/
structure Prim where
  calls : List AV → Option (List (Nat × List AV))
  fin : List AV → List AV → Option AV

structure AProg where
  fn : Nat → Option AF
  gl : Nat → AV
  prim : Nat → Option Prim

def evO (P : AProg) (e : Env) : AOpnd → AV
  | .t i => e i
  | .c v => v
  | .g g => .cptr (P.gl g) 0
  | .f f => .func f [] []

def big : Nat := 1099511627776

def intBin (op : BinOp) (k : IntKind) (a b : Int) : Option AV :=
  match op with
  | .add => some (.int k (k.wrap (a + b)))
  | .sub => some (.int k (k.wrap (a - b)))
  | .mul => some (.int k (k.wrap (a * b)))
  | .quo => if b = 0 then none else some (.int k (k.wrap (a.tdiv b)))
  | .rem => if b = 0 then none else some (.int k (a.tmod b))
  | .and => some (.int k (k.wrap (BitVec.ofInt k.bits a &&& BitVec.ofInt k.bits b).toNat))
  | .or => some (.int k (k.wrap (BitVec.ofInt k.bits a ||| BitVec.ofInt k.bits b).toNat))
  | .xor => some (.int k (k.wrap (BitVec.ofInt k.bits a ^^^ BitVec.ofInt k.bits b).toNat))
  | .andNot => some (.int k (k.wrap (BitVec.ofInt k.bits a &&& ~~~ BitVec.ofInt k.bits b).toNat))
  | .eql => some (.bool (a == b))
  | .neq => some (.bool (a != b))
  | .lss => some (.bool (decide (a < b)))
  | .leq => some (.bool (decide (a ≤ b)))
  | .gtr => some (.bool (decide (a > b)))
  | .geq => some (.bool (decide (a ≥ b)))
  | _ => none

def strBin (op : BinOp) (a b : List UInt8) : Option AV :=
  match op with
  | .add => if a.length + b.length ≤ big then some (.str (a ++ b)) else none
  | .eql => some (.bool (a == b))
  | .neq => some (.bool (!(a == b)))
  | .lss => some (.bool (Op.bytesLess a b))
  | .leq => some (.bool (Op.bytesLess a b || a == b))
  | .gtr => some (.bool (!(Op.bytesLess a b || a == b)))
  | .geq => some (.bool (!Op.bytesLess a b))
  | _ => none

def binA (op : BinOp) : AV → AV → Option AV
  | .int k a, .int k' b =>
    match op with
    | .shl => if b < 0 then none else some (.int k (k.wrap (a * 2 ^ (min b.toNat k.bits))))
    | .shr => if b < 0 then none else some (.int k (k.wrap (a.fdiv (2 ^ (min b.toNat k.bits)))))
    | _ => if k = k' then intBin op k a b else none
  | .str a, .str b => strBin op a b
  | _, _ => none

/-- Cells that are numbers, strings and bools, one by one. -/
def flat1 : AV → AV → Option Bool
  | .int k a, .int k' b => if k = k' then some (a == b) else none
  | .bool a, .bool b => some (a == b)
  | .str a, .str b => some (a == b)
  | _, _ => none

def flatL : List AV → List AV → Option Bool
  | [], [] => some true
  | x :: xs, y :: ys =>
    match flat1 x y, flatL xs ys with
    | some a, some b => some (a && b)
    | _, _ => none
  | _, _ => none

/-- Cells of such kinds, one by one. -/
def flatK : List KK → List AV → List AV → Option Bool
  | [], [], [] => some true
  | .int :: ks, .int k a :: xs, .int k' b :: ys => if k = k' then (match flatK ks xs ys with | some r => some ((a == b) && r) | none => none) else none
  | .bool :: ks, .bool a :: xs, .bool b :: ys => (match flatK ks xs ys with | some r => some ((a == b) && r) | none => none)
  | .str :: ks, .str a :: xs, .str b :: ys => (match flatK ks xs ys with | some r => some ((a == b) && r) | none => none)
  | _, _, _ => none

def eqA (x y : AV) : Option Bool := flat1 x y

def nilA : NK → AV → Option Bool
  | .ptr, .nilptr => some true
  | .ptr, .ptr .. | .ptr, .cptr .. => some false
  | .iface, .niliface => some true
  | .iface, .iface .. => some false
  | .func, .nilfunc => some true
  | .func, .func .. => some false
  | .map, .nilmap => some true
  | .map, .map _ => some false
  | .slice, .slice _ (_ :: _) _ => some false
  | _, _ => none

def partOf (agg : Bool) (sz : Nat) (cs : List AV) (off : Nat) : Option AV :=
  match agg with
  | true => if off + sz ≤ cs.length then some (.agg ((cs.drop off).take sz)) else none
  | false => cs[off]?

def splice (cs : List AV) (off : Nat) (ds : List AV) : List AV := cs.take off ++ ds ++ cs.drop (off + ds.length)

def fillA (z : List AV) : List (Nat × Nat × AV) → Option (List AV)
  | [] => some z
  | (off, sz, v) :: rest =>
    match fixP v with
    | some v => if (cellsOf v).length = sz && off + sz ≤ z.length then fillA (splice z off (cellsOf v)) rest else none
    | none => none

def reps (n : Nat) (z : List AV) : List AV := match n with | 0 => [] | n + 1 => z ++ reps n z

def setEl (xs : List AV) : List (Nat × AV) → Option (List AV)
  | [] => some xs
  | (i, v) :: rest => if i < xs.length then setEl (xs.set i v) rest else none

/-- An element as a value: a lone cell, or a struct. -/
def elemOf (sz : Nat) (z : List AV) : AV := match sz with | 1 => z.headD undefA | _ => .agg z

def natOf : AV → Option Nat
  | .int _ n => if 0 ≤ n then some n.toNat else none
  | _ => none

def optNat (P : AProg) (e : Env) (d : Nat) : Option AOpnd → Option Nat
  | none => some d
  | some x => natOf (evO P e x)

/-- The operations that see no store. -/
def aopP (P : AProg) (e : Env) : AOp → Option AV
  | .mv x => some (evO P e x)
  | .pick c a b => match evO P e c with | .bool t => some (match t with | true => evO P e a | false => evO P e b) | _ => none
  | .boxc x => match fixP (evO P e x) with | some v => some (.cptr v 0) | none => none
  | .build z parts => match fillA z (parts.map fun p => (p.1, p.2.1, evO P e p.2.2)) with | some cs => some (.agg cs) | none => none
  | .bslice esz len z parts =>
    match fixPs (parts.map fun p => evO P e p.2) with
    | some vs =>
      if vs.all (fun v => (cellsOf v).length == esz) && decide (len * esz ≤ 16777216) then
        match setEl (List.replicate len (elemOf esz z)) ((parts.map (·.1)).zip vs) with
        | some xs => some (.slice esz xs .full)
        | none => none
      else none
    | none => none
  | .bsliceF esz len z parts =>
    match fixPs (parts.map fun p => evO P e p.2) with
    | some vs =>
      if vs.all (fun v => (cellsOf v).length == esz) && decide (len * esz ≤ 16777216) then
        match setEl (List.replicate len (elemOf esz z)) ((parts.map (·.1)).zip vs) with
        | some xs => some (.slice esz xs .lit)
        | none => none
      else none
    | none => none
  | .nilchk x => match evO P e x with | .ptr l o => some (.ptr l o) | .cptr v o => some (.cptr v o) | .func f a b => some (.func f a b) | .yield l => some (.yield l) | _ => none
  | .bin op x y => binA op (evO P e x) (evO P e y)
  | .eq neg x y => match eqA (evO P e x) (evO P e y) with | some b => some (.bool (match neg with | true => !b | false => b)) | none => none
  | .eqF neg ks x y =>
    match evO P e x, evO P e y with
    | .agg xs, .agg ys => match flatK ks xs ys with | some b => some (.bool (match neg with | true => !b | false => b)) | none => none
    | _, _ => none
  | .eqnil neg k x => match nilA k (evO P e x) with | some b => some (.bool (match neg with | true => !b | false => b)) | none => none
  | .un .not x => match evO P e x with | .bool b => some (.bool (!b)) | _ => none
  | .un .neg x => match evO P e x with | .int k n => some (.int k (k.wrap (0 - n))) | _ => none
  | .un .xor x => match evO P e x with | .int k n => some (.int k (k.wrap (BitVec.ofInt k.bits (if k.signed then -1 else k.max) ^^^ BitVec.ofInt k.bits n).toNat)) | _ => none
  | .toInt k x => match evO P e x with | .int k' n => some (.int k (if k = k' then n else k.wrap n)) | _ => none
  | .mkIface t x => match fixP (evO P e x) with | some v => some (.iface t v) | none => none
  | .mkFunc f a b => match fixPs (a.map (evO P e)), fixPs (b.map (evO P e)) with | some a, some b => some (.func f a b) | _, _ => none
  | .cutS esz x lo hi mx =>
    match evO P e x with
    | .slice sz xs o =>
      match optNat P e xs.length mx, optNat P e xs.length hi, optNat P e 0 lo with
      | some m, some h, some l =>
        if l ≤ h && h ≤ m && m ≤ xs.length && (sz = esz || xs.isEmpty) && (mx.isNone || hi.isSome) then
          some (match lo, hi, mx with
            | none, none, none => .slice sz xs o
            | _, _, some _ => .slice (szC sz ((xs.take h).drop l)) ((xs.take h).drop l) (if h = m then .full else .no)
            | _, _, _ => .slice (szC sz ((xs.take h).drop l)) ((xs.take h).drop l) .no)
        else none
      | _, _, _ => none
    | .mslice l0 off len cap sz =>
      match mx, optNat P e len hi, optNat P e 0 lo with
      | none, some h, some l => if l ≤ h && h ≤ len && sz = esz && (l = 0 || l < cap) then some (.mslice l0 (off + l * sz) (h - l) (cap - l) sz) else none
      | _, _, _ => none
    | _ => none
  | .cutStr x lo hi =>
    match evO P e x with
    | .str s =>
      match optNat P e s.length hi, optNat P e 0 lo with
      | some h, some l => if l ≤ h && h ≤ s.length then some (.str ((s.take h).drop l)) else none
      | _, _ => none
    | _ => none
  | .cutA n esz x lo hi =>
    match evO P e x, optNat P e n hi, optNat P e 0 lo with
    | .cptr v off, some h, some l =>
      if l ≤ h && h ≤ n && off + n * esz ≤ (cellsOf v).length then some (.slice esz (chunks esz (h - l) ((cellsOf v).drop (off + l * esz))) .no) else none
    | .ptr b off, some h, some l => if l ≤ h && h ≤ n && (l = 0 || l < n) then some (.mslice b (off + l * esz) (h - l) (n - l) esz) else none
    | _, _, _ => none
  | .fieldA off x => match evO P e x with | .ptr l o => some (.ptr l (o + off)) | .cptr v o => some (.cptr v (o + off)) | _ => none
  | .field agg off sz x => match evO P e x with | .agg cs => partOf agg sz cs off | _ => none
  | .idxS esz x i =>
    match evO P e x, natOf (evO P e i) with
    | .slice sz xs _, some i => if sz = esz then (match xs[i]? with | some x => some (.cptr x 0) | none => none) else none
    | .mslice l off len _ sz, some i => if sz = esz && i < len then some (.ptr l (off + i * sz)) else none
    | _, _ => none
  | .idxA n esz x i =>
    match evO P e x, natOf (evO P e i) with
    | .ptr l o, some i => if i < n then some (.ptr l (o + i * esz)) else none
    | .cptr v o, some i => if i < n then some (.cptr v (o + i * esz)) else none
    | _, _ => none
  | .idxV n esz agg x i =>
    match evO P e x, natOf (evO P e i) with
    | .agg cs, some i => if i < n then partOf agg esz cs (i * esz) else none
    | _, _ => none
  | .idxStr x i =>
    match evO P e x, natOf (evO P e i) with
    | .str s, some i => match s[i]? with | some b => some (.int .u8 b.toNat) | none => none
    | _, _ => none
  | .assert ok t z x =>
    match evO P e x with
    | .iface t' v => if t' = t then some (match ok with | true => .tuple [v, .bool true] | false => v) else (match ok with | true => some (.tuple [z, .bool false]) | false => none)
    | .niliface => match ok with | true => some (.tuple [z, .bool false]) | false => none
    | _ => none
  | .extract x i => match evO P e x with | .tuple vs => vs[i]? | _ => none
  | .lenS x => match evO P e x with | .slice _ xs _ => some (.int .i64 xs.length) | .mslice _ _ len _ _ => some (.int .i64 len) | _ => none
  | .lenStr x => match evO P e x with | .str s => some (.int .i64 s.length) | _ => none
  | .lenA n => some (.int .i64 n)
  | .minmax mx [x, y] =>
    match evO P e x, evO P e y with
    | .int k a, .int k' b => if k = k' then some (.int k (match mx with | true => max a b | false => min a b)) else none
    | _, _ => none
  | _ => none

def keyOf : KK → AV → Bool
  | .int, .int .. | .str, .str _ | .bool, .bool _ => true
  | _, _ => false

def findA (k : AV) : List (AV × AV) → Option (Option AV)
  | [] => some none
  | (a, v) :: rest => match flat1 k a with | some true => some (some v) | some false => findA k rest | none => none

def putA (k v : AV) : List (AV × AV) → Option (List (AV × AV))
  | [] => some [(k, v)]
  | (a, u) :: rest => match flat1 k a with | some true => some ((k, v) :: rest) | some false => (match putA k v rest with | some r => some ((a, u) :: r) | none => none) | none => none

/-- The operations that read the store, or what is under a pointer. -/
def aopR (P : AProg) (e : Env) (s : ASt) : AOp → Option AV
  | .load agg sz x =>
    match evO P e x with
    | .cptr v off => match agg with
      | true => match off with
        | 0 => if (cellsOf v).length = sz then some (.agg (cellsOf v)) else partOf true sz (cellsOf v) 0
        | off => partOf true sz (cellsOf v) off
      | false => (cellsOf v)[off]?
    | .ptr l off =>
      match s.blks[l]? with
      | some (.cells cs _) => match agg with
        | true => match partOf true sz cs off with | some v => fixP v | none => none
        | false => cs[off]?
      | _ => none
    | _ => none
  | .lookup ok kk z m k =>
    match evO P e m with
    | .map l =>
      match s.blks[l]? with
      | some (.map es) =>
        if keyOf kk (evO P e k) then
          match findA (evO P e k) es with
          | some (some v) => some (match ok with | true => .tuple [v, .bool true] | false => v)
          | some none => some (match ok with | true => .tuple [z, .bool false] | false => z)
          | none => none
        else none
      | _ => none
    | .nilmap => some (match ok with | true => .tuple [z, .bool false] | false => z)
    | _ => none
  | _ => none

def low (b : Bool) (l : Nat) : Option Nat → Option Nat
  | none => match b with | true => some l | false => none
  | some m => match b with | true => some (min l m) | false => some m
/-- A write to a place. -/
def dirt (s : ASt) (l : Nat) (cs : List AV) (blks : List ABlk) : ASt :=
  { s with blks, lowB := low (locsL cs) l s.lowB, lowT := low (toksL cs) l s.lowT }

def isSl : AV → Bool
  | .slice .. => true
  | _ => false

/-- What is appended, or copied: elements. -/
def elems (s : ASt) (esz : Nat) : AV → Option (List AV)
  | .slice sz ys _ => if sz = esz || ys.isEmpty then some ys else none
  | .mslice l off len _ sz => if sz = esz then rowOf s l off len sz else none
  | _ => none

def flatE (xs : List AV) : List AV := xs.flatMap cellsOf

/-- A value that fills cells. -/
def boxOk : AV → Bool
  | .tuple _ | .junk => false
  | _ => true

/-- The operations that change the store. -/
def aopW (P : AProg) (e : Env) (s : ASt) : AOp → Option (AV × ASt)
  | .box x => match boxOk (evO P e x) with | true => some (.ptr s.blks.length 0, { s with blks := s.blks ++ [.cells (cellsOf (evO P e x)) true] }) | false => none
  | .alloc z => some (.ptr s.blks.length 0, { s with blks := s.blks ++ [.cells z true] })
  | .store sz a x =>
    match evO P e a with
    | .ptr l off =>
      match s.blks[l]? with
      | some (.cells cs true) =>
        if boxOk (evO P e x) && (cellsOf (evO P e x)).length = sz && off + sz ≤ cs.length then
          some (undefA, dirt s l (cellsOf (evO P e x)) (s.blks.set l (.cells (splice cs off (cellsOf (evO P e x))) true)))
        else none
      | _ => none
    | _ => none
  | .mkMap => some (.map s.blks.length, { s with blks := s.blks ++ [.map []] })
  | .mkSlice esz bytes z l c =>
    match natOf (evO P e l), natOf (evO P e c) with
    | some l, some c =>
      if l ≤ c && c * bytes ≤ big && c ≤ big then some (.mslice s.blks.length 0 l c esz, { s with blks := s.blks ++ [.cells (reps c z) true] }) else none
    | _, _ => none
  | .mapSet kk m k v =>
    match evO P e m, fixv s (evO P e v) with
    | .map l, some (v, s) =>
      match s.blks[l]? with
      | some (.map es) =>
        if keyOf kk (evO P e k) then
          match putA (evO P e k) v es with
          | some es' => some (undefA, dirt s l [v] (s.blks.set l (.map es')))
          | none => none
        else none
      | _ => none
    | _, _ => none
  | .rangeStr x => match evO P e x with | .str t => some (.iter s.blks.length, { s with blks := s.blks ++ [.iter t 0] }) | _ => none
  | .nextStr it =>
    match evO P e it with
    | .iter l =>
      match s.blks[l]? with
      | some (.iter t pos) =>
        if pos < t.length then
          match Utf8.decode ⟨t.toArray⟩ pos with
          | (c, width) => some (.tuple [.bool true, .int .i64 pos, .int .i32 c], { s with blks := s.blks.set l (.iter t (pos + width)) })
        else some (.tuple [.bool false], s)
      | _ => none
    | _ => none
  | .append tk esz bytes a x =>
    match !tk || (isSl (evO P e a) && isSl (evO P e x)) with
    | false => none
    | true =>
    match elems s esz (evO P e x) with
    | some [] => match evO P e a with | .slice sz xs o => some (.slice sz xs o, s) | .mslice l o n c sz => some (.mslice l o n c sz, s) | _ => none
    | some (y :: ys) =>
      match evO P e a with
      | .slice sz xs o =>
        if (sz = esz || xs.isEmpty) && (xs.length + (ys.length + 1)) * bytes ≤ big && xs.length + (ys.length + 1) ≤ big && 0 < esz then
          match o with
          | .full | .lit => some (.slice esz (xs ++ y :: ys) (.tok s.toks.length), { s with toks := s.toks ++ [xs.length + (ys.length + 1)] })
          | .tok t =>
            match s.toks[t]? with
            | some n => if sz = esz && n = xs.length then some (.slice sz (xs ++ y :: ys) (.tok t), { s with toks := s.toks.set t (xs.length + (ys.length + 1)) }) else none
            | none => none
          | .no => none
        else none
      | .mslice l off len cap sz =>
        if sz = esz && (len + (ys.length + 1)) * bytes ≤ big && len + (ys.length + 1) ≤ big && 0 < esz then
          if len + (ys.length + 1) ≤ cap then
            match s.blks[l]? with
            | some (.cells cs true) =>
              if off + (len + (ys.length + 1)) * sz ≤ cs.length && (flatE (y :: ys)).length = (ys.length + 1) * sz then
                some (.mslice l off (len + (ys.length + 1)) cap sz, dirt s l (flatE (y :: ys)) (s.blks.set l (.cells (splice cs (off + len * sz) (flatE (y :: ys))) true)))
              else none
            | _ => none
          else
            match rowOf s l off len sz with
            | some xs => some (.slice sz (xs ++ y :: ys) (.tok s.toks.length), { s with toks := s.toks ++ [len + (ys.length + 1)] })
            | none => none
        else none
      | _ => none
    | none => none
  | .copy esz d x =>
    match evO P e d, elems s esz (evO P e x) with
    | .mslice l off len _ sz, some ys =>
      match s.blks[l]? with
      | some (.cells cs true) =>
        if sz = esz && off + len * sz ≤ cs.length && (flatE (ys.take len)).length = (min ys.length len) * sz then
          some (.int .i64 (min ys.length len : Nat), dirt s l (flatE (ys.take len)) (s.blks.set l (.cells (splice cs off (flatE (ys.take len))) true)))
        else none
      | _ => none
    | _, _ => none
  | _ => none

/-! ### Code -/
inductive ADef where
  | mark (l : Nat)
  | call (f : Nat) (args : List AV)

structure Fr where
  env : Env
  ds : List ADef

inductive OpsR where
  | norm (fr : Fr) (s : ASt)
  | pan (v : AV) (fr : Fr) (s : ASt)

def wanted (e : Env) : Option (Nat × Bool) → Option Bool
  | none => some true
  | some (t, b) => match e t with | .bool c => some (c == b) | .tuple [] => some false | _ => none

def emptyS : ASt := { blks := [], toks := [] }
def isE (s : ASt) : Bool := match s.blks, s.toks with | [], [] => true | _, _ => false

/-- What a call in a region that draws its order hands back: no token. -/
def fixR : AV → Option AV
  | .tuple vs => match fixPs vs with | some ws => some (.tuple ws) | none => none
  | v => fixP v

def dropPend (d : Option Nat) (pd : List (Nat × Nat)) : List (Nat × Nat) :=
  match d with | none => pd | some d => pd.filter fun x => !(Nat.beq x.1 d)

/-- The target of a call: a function or a round, and the arguments that stand ahead of and behind what is handed over. -/
def target : AV → Option (AFn × List AV × List AV)
  | .func f a b => some (.func f, a, b)
  | .yield l => some (.yield l, [], [])
  | _ => none

/-- A call that is passed over: its function is written there, or nothing stands where it would. -/
def skipD (P : AProg) (e : Env) : AOp → Bool
  | .call f _ | .callP _ f _ => match f with | .f _ => true | f => (match evO P e f with | .tuple [] => true | _ => false)
  | _ => true

def evOps (H : Handler) (P : AProg) : List AI → List (Nat × Nat) → Fr → ASt → Option OpsR
  | [], _, fr, s => some (.norm fr s)
  | i :: rest, pd, fr, s =>
    match wanted fr.env i.gd with
    | none => none
    | some false => match skipD P fr.env i.op with | true => evOps H P rest (dropPend i.d pd) { fr with env := updO fr.env i.d undefA } s | false => none
    | some true =>
      match i.op with
      | .pend z => match i.d with | some d => evOps H P rest ((d, z.length) :: dropPend i.d pd) { fr with env := upd fr.env d .junk } s | none => none
      | .shut d sz x =>
        match i.d, fixP (evO P fr.env x) with
        | none, some v => if (cellsOf v).length = sz && pd.any (fun p => Nat.beq p.1 d && Nat.beq p.2 sz) then evOps H P rest (dropPend (some d) pd) { fr with env := upd fr.env d (.cptr v 0) } s else none
        | _, _ => none
      | .defer f args =>
        match evO P fr.env f, fixPs (args.map (evO P fr.env)) with
        | .func g a b, some vs => evOps H P rest (dropPend i.d pd) { env := updO fr.env i.d undefA, ds := .call g (a ++ vs ++ b) :: fr.ds } s
        | _, _ => none
      | .panic x => match evO P fr.env x with | .iface t v => some (.pan (.iface t v) fr s) | _ => none
      | .callP st f args =>
        match evO P fr.env f, fixPs (args.map (evO P fr.env)) with
        | .func g a b, some vs =>
          match (!st && isE s) || pureL (a ++ vs ++ b), H.call (.func g) (a ++ vs ++ b) emptyS with
          | true, some (.ret v, s2) =>
            match fixR v with
            | some v => match isE s2 || pureV v with | true => evOps H P rest (dropPend i.d pd) { fr with env := updO fr.env i.d v } s | false => none
            | none => none
          | _, _ => none
        | _, _ => none
      | .call f args =>
        match target (evO P fr.env f), fixvs s (args.map (evO P fr.env)) with
        | some (g, a, b), some (vs, s1) =>
          match H.call g (a ++ vs ++ b) s1 with
          | some (.ret v, s2) => evOps H P rest (dropPend i.d pd) { fr with env := updO fr.env i.d v } s2
          | some (.panic v, s2) => some (.pan v fr s2)
          | none => none
        | _, _ => none
      | op =>
        match aopP P fr.env op with
        | some v => evOps H P rest (dropPend i.d pd) { fr with env := updO fr.env i.d v } s
        | none =>
          match aopR P fr.env s op with
          | some v => evOps H P rest (dropPend i.d pd) { fr with env := updO fr.env i.d v } s
          | none =>
            match aopW P fr.env s op with
            | some (v, s1) => evOps H P rest (dropPend i.d pd) { fr with env := updO fr.env i.d v } s1
            | none => none

structure CR where
  ex : AExit
  fr : Fr
  s : ASt

def loopN (step : Fr → ASt → Option CR) : Nat → Fr → ASt → Option CR
  | 0, _, _ => none
  | n + 1, fr, s =>
    match step fr s with
    | some r => match r.ex with | .normal => loopN step n r.fr r.s | _ => some r
    | none => none

/-- A range over a function: what is laid ahead of the call. -/
def loopLay (rd : Option Nat) (params : List Nat) (assign body : AC) (fr : Fr) (s : ASt) : Option (Nat × List ADef × ASt) :=
  match rd with
  | none => some (s.blks.length + 1, [.mark s.blks.length], { s with blks := s.blks ++ [.defq, .loop { st := .ready, pend := none, env := fr.env, dq := s.blks.length, params, assign, body }] })
  | some r =>
    match s.blks[r]? with
    | some (.loop lp) => some (s.blks.length, [], { s with blks := s.blks ++ [.loop { st := .ready, pend := none, env := fr.env, dq := lp.dq, params, assign, body }] })
    | _ => none

def hasBody (P : AProg) (g : Nat) : Bool := (P.prim g).isNone && (P.fn g).isSome

def wdt (g : Bool) (sz : Nat) : Nat := match g with | true => sz | false => 1
/-- Where a store writes. -/
def stR (P : AProg) (e : Env) (i : AI) : Option (Nat × Nat × Nat) :=
  match i.op with
  | .store sz a _ => (match evO P e a with | .ptr l o => some (l, o, sz) | _ => none)
  | .load agg sz a => (match evO P e a with | .ptr l o => some (l, o, wdt agg sz) | _ => none)
  | _ => none
def disj : Option (Nat × Nat × Nat) → Option (Nat × Nat × Nat) → Bool
  | some (l, o, n), some (l', o', n') => !(Nat.beq l l') || Nat.ble (o + n) o' || Nat.ble (o' + n') o
  | _, _ => true
/-- Stores and loads whose order is drawn have places of their own. -/
def djS (P : AProg) (e : Env) (ops : List AI) : Bool :=
  (List.range ops.length).all fun j => (List.range j).all fun i =>
    match ops[i]?, ops[j]? with
    | some a, some b => b.pre.contains i || !(memP a b) || disj (stR P e a) (stR P e b)
    | _, _ => true

def evC (H : Handler) (P : AProg) (rd : Option Nat) (lf : Nat) : AC → Fr → ASt → Option CR
  | .regW ops, fr, s =>
    match evOps H P ops [] fr s with
    | some (.norm fr' s') => (match djS P fr'.env ops with | true => some ⟨.normal, fr', s'⟩ | false => none)
    | _ => none
  | .skip, fr, s => some ⟨.normal, fr, s⟩
  | .reg _ ops, fr, s =>
    match evOps H P ops [] fr s with
    | some (.norm fr s) => some ⟨.normal, fr, s⟩
    | some (.pan v fr s) => some ⟨.panic v, fr, s⟩
    | none => none
  | .seq a b, fr, s =>
    match evC H P rd lf a fr s with
    | some r => match r.ex with | .normal => evC H P rd lf b r.fr r.s | _ => some r
    | none => none
  | .cond c t e, fr, s =>
    match evO P fr.env c with
    | .bool b => match b with | true => evC H P rd lf t fr s | false => evC H P rd lf e fr s
    | _ => none
  | .block id b, fr, s =>
    match evC H P rd lf b fr s with
    | some r => match r.ex with | .exit j => (match Nat.beq j id with | true => some ⟨.normal, r.fr, r.s⟩ | false => some r) | _ => some r
    | none => none
  | .loop b, fr, s => loopN (evC H P rd lf b) lf fr s
  | .exit id, fr, s => some ⟨.exit id, fr, s⟩
  | .ret, fr, s => some ⟨.ret, fr, s⟩
  | .scope b, fr, s => evC H P rd lf b fr s
  | .rangeF f params assign body, fr, s =>
    match loopLay rd params assign body fr s, evO P fr.env f with
    | some (l, mark, s1), .func g a b =>
      match hasBody P g, H.call (.func g) (a ++ .yield l :: b) s1 with
      | true, some (.ret _, s2) =>
        match s2.blks[l]? with
        | some (.loop lp) =>
          match lp.st with
          | .busy => none
          | _ => some ⟨lp.pend.getD .normal, { fr with ds := mark ++ fr.ds }, { s2 with blks := s2.blks.set l (.loop { lp with st := .exhausted }) }⟩
        | _ => none
      | true, some (.panic v, s2) => some ⟨.panic v, { fr with ds := mark ++ fr.ds }, s2⟩
      | _, _ => none
    | _, _ => none

def setLoop (s : ASt) (l : Nat) (f : ALoop → ALoop) : Option ASt :=
  match s.blks[l]? with
  | some (.loop lp) => some { s with blks := s.blks.set l (.loop (f lp)) }
  | _ => none

def setReady (s : ASt) (l : Nat) : Option ASt :=
  match s.blks[l]? with
  | some (.loop lp) => match lp.st with | .ready => some { s with blks := s.blks.set l (.loop { lp with st := .busy }) } | _ => none
  | _ => none

def paramsEnv (e : Env) : List Nat → List AV → Env
  | p :: ps, v :: vs => paramsEnv (upd e p v) ps vs
  | _, _ => e

/-- One round of a range over a function. -/
def roundN (H : Handler) (P : AProg) (lf : Nat) (l : Nat) (args : List AV) (s : ASt) : Option (ARes × ASt) :=
  match s.blks[l]? with
  | some (.loop lp) =>
    match decide (lp.st = .ready), decide (args.length = lp.params.length) with
    | true, true =>
      match evC H P (some l) lf lp.assign ⟨paramsEnv lp.env lp.params args, []⟩ s with
      | some ⟨.normal, ⟨e1, []⟩, s1⟩ =>
        match setReady s1 l with
        | some s2 =>
          match evC H P (some l) lf lp.body ⟨e1, []⟩ s2 with
          | some ⟨ex, ⟨_, []⟩, s3⟩ =>
            match ex with
            | .panic v => some (.panic v, s3)
            | .normal => match setLoop s3 l fun lp => { lp with st := .ready, pend := none } with | some s4 => some (.ret (.bool true), s4) | none => none
            | ex => match setLoop s3 l fun lp => { lp with st := .done, pend := some ex } with | some s4 => some (.ret (.bool false), s4) | none => none
          | _ => none
        | none => none
      | _ => none
    | _, _ => none
  | _ => none

/-! ### A function's end -/
def runDs (H : Handler) : List ADef → DM → ASt → Option (DM × ASt)
  | [], m, s => some (m, s)
  | .mark l :: ds, m, s => match s.blks[l]? with | some .defq => runDs H ds m { s with blks := s.blks.set l .dead } | _ => none
  | .call f args :: ds, m, s => match H.dcall f args m s with | some (m, s) => runDs H ds m s | none => none

def resOf (P : AProg) (e : Env) (s : ASt) : ARV → Option AV
  | .tmp t => some (e t)
  | .cell t agg sz => aopR P e s (.load agg sz (.t t))

def resAll (P : AProg) (e : Env) (s : ASt) : List ARV → Option (List AV)
  | [] => some []
  | x :: xs => match resOf P e s x, resAll P e s xs with | some v, some vs => some (v :: vs) | _, _ => none

/-- Does the store below a place hold what was laid at or behind it? -/
def leak (base : Nat) : Option Nat → Bool
  | none => false
  | some l => decide (l < base)
def minO : Option Nat → Option Nat → Option Nat
  | none, b => b
  | a, none => a
  | some a, some b => some (min a b)
def keepLow (base : Nat) (a b : Option Nat) : Option Nat := match leak base b with | true => minO a b | false => a
/-- What is left of the store behind a call: what it laid is dropped, if nothing can hold it. -/
def trimB (s0 : ASt) (d : Bool) (s : ASt) : ASt :=
  match Nat.beq s.blks.length s0.blks.length with
  | true => { s with lowB := keepLow s0.blks.length s0.lowB s.lowB }
  | false =>
    match leak s0.blks.length s.lowB || d with
    | true => { s with lowB := minO s0.lowB s.lowB }
    | false => { s with blks := s.blks.take s0.blks.length, lowB := s0.lowB }
/-- May the tokens that were laid behind a call be dropped? -/
def canT (s0 : ASt) (d : Bool) (s : ASt) : Bool := Nat.beq s.blks.length s0.blks.length && !(leak s0.blks.length s.lowT || d)
def trimT (s0 : ASt) (d : Bool) (s : ASt) : ASt :=
  match Nat.beq s.toks.length s0.toks.length with
  | true => { s with lowT := keepLow s0.blks.length s0.lowT s.lowT }
  | false =>
    match canT s0 d s with
    | true => { s with toks := s.toks.take s0.toks.length, lowT := s0.lowT }
    | false => { s with lowT := minO s0.lowT s.lowT }

def settle (s0 : ASt) (v : AV) (s : ASt) : AV × ASt :=
  match v with
  | .slice sz xs (.tok t) =>
    match decide (t < s0.toks.length) with
    | true => (.slice sz xs (.tok t), trimT s0 (toksL xs) (trimB s0 (locsL xs) s))
    | false =>
      match canT s0 (toksL xs) (trimB s0 (locsL xs) s), s.toks[t]? with
      | true, some n =>
        match Nat.beq n xs.length with
        | true => (.slice sz xs (.tok s0.toks.length), { trimB s0 (locsL xs) s with toks := s.toks.take s0.toks.length ++ [n], lowT := s0.lowT })
        | false => (.slice (szC sz xs) xs .no, trimT s0 (toksL xs) (trimB s0 (locsL xs) s))
      | _, _ => (.slice (szC sz xs) xs .no, trimT s0 (toksL xs) (trimB s0 (locsL xs) s))
  | v => (v, trimT s0 (toks v) (trimB s0 (locs v) s))

/-- Results as they are handed back: what is mutable is frozen; parts of several results bear no token. -/
def resVal (s : ASt) : List AV → Option (AV × ASt)
  | [.slice sz xs o] => some (.slice sz xs o, s)
  | [v] => fixv s v
  | vs => match fixvs s vs with | some (ws, s) => some (.tuple ws, s) | none => none

def argsEnv (args : List AV) : Env := fun i => args.getD i undefA

def cleanS (s : ASt) : ASt := { s with lowB := none, lowT := none }

def runF (H : Handler) (P : AProg) (lf : Nat) (f : AF) (args : List AV) (s : ASt) : Option (ARes × ASt) :=
  match Nat.ble args.length f.nt with
  | false => none
  | true =>
  match evC H P none lf f.body ⟨argsEnv args, []⟩ (cleanS s) with
  | some ⟨ex, fr, s1⟩ =>
    match (match ex with | .normal => some DM.ret | .ret => some DM.ret | .panic v => some (DM.pan v) | .exit _ => none) with
    | some m =>
      match runDs H fr.ds m s1 with
      | some (.pan v, s2) => some (.panic v, trimT s (toks v) (trimB s (locs v) s2))
      | some (.ret, s2) =>
        match resAll P fr.env s2 f.res with
        | some vs =>
          match resVal s2 vs with
          | some (v, s3) => match settle s v s3 with | (v, s4) => some (.ret v, s4)
          | none => none
        | none => none
      | none => none
    | none => none
  | none => none

/-! ### A deferred function -/
inductive RC where
  | ret
  | pan (v : AV)
  | recd

def evOpsD (P : AProg) : List AI → Fr → RC → ASt → Option (Fr × RC × ASt)
  | [], fr, rc, s => some (fr, rc, s)
  | i :: rest, fr, rc, s =>
    match i.op, i.gd with
    | .recov, none =>
      match rc with
      | .pan v => evOpsD P rest { fr with env := updO fr.env i.d v } .recd s
      | rc => evOpsD P rest { fr with env := updO fr.env i.d .niliface } rc s
    | op, gd =>
      match wanted fr.env gd, aopP P fr.env op with
      | some true, some v => evOpsD P rest { fr with env := updO fr.env i.d v } rc s
      | _, _ => none

def hasRecov (ops : List AI) : Bool := ops.any fun i => match i.op with | .recov => true | _ => false

def evD (H : Handler) (P : AProg) (lf : Nat) : AC → Fr → RC → ASt → Option (AExit × Fr × RC × ASt)
  | .reg draw ops, fr, rc, s =>
    match hasRecov ops with
    | true => match draw, evOpsD P ops fr rc s with | false, some (fr, rc, s) => some (.normal, fr, rc, s) | _, _ => none
    | false => match evC H P none lf (.reg draw ops) fr s with | some r => some (r.ex, r.fr, rc, r.s) | none => none
  | .seq a b, fr, rc, s =>
    match evD H P lf a fr rc s with
    | some (.normal, fr, rc, s) => evD H P lf b fr rc s
    | r => r
  | .cond c t e, fr, rc, s =>
    match evO P fr.env c with
    | .bool b => match b with | true => evD H P lf t fr rc s | false => evD H P lf e fr rc s
    | _ => none
  | c, fr, rc, s => match evC H P none lf c fr s with | some r => some (r.ex, r.fr, rc, r.s) | none => none

def rcOf : DM → RC
  | .ret => .ret
  | .pan v => .pan v

def runD (H : Handler) (P : AProg) (lf : Nat) (f : AF) (args : List AV) (m : DM) (s : ASt) : Option (DM × ASt) :=
  match Nat.ble args.length f.nt with
  | false => none
  | true =>
  match evD H P lf f.body ⟨argsEnv args, []⟩ (rcOf m) (cleanS s) with
  | some (ex, ⟨_, []⟩, rc, s1) =>
    match (match ex with | .normal => true | .ret => true | _ => false) with
    | true =>
      match f.res with
      | [] =>
        match rc with
        | .pan v => some (.pan v, trimT s (toks v) (trimB s (locs v) s1))
        | _ => some (.ret, trimT s false (trimB s false s1))
      | _ => none
    | false => none
  | _ => none

def primCalls (H : Handler) : List (Nat × List AV) → Option (List AV)
  | [] => some []
  | (f, a) :: r =>
    match pureL a with
    | true =>
      match H.call (.func f) a emptyS with
      | some (.ret v, _) =>
        match fixR v with
        | some v => match pureV v with
          | true => match primCalls H r with | some vs => some (v :: vs) | none => none
          | false => none
        | none => none
      | _ => none
    | false => none
def primRun (H : Handler) (p : Prim) (args : List AV) (s : ASt) : Option (ARes × ASt) :=
  match pureL args with
  | true =>
    match p.calls args with
    | some cs =>
      match primCalls H cs with
      | some vs => match p.fin args vs with
        | some v => match pureV v with | true => some (.ret v, s) | false => none
        | none => none
      | none => none
    | none => none
  | false => none

def callN (P : AProg) : Nat → Handler
  | 0 => { call := fun _ _ _ => none, dcall := fun _ _ _ _ => none }
  | n + 1 =>
    { call := fun g args s =>
        match g with
        | .func f =>
          match P.prim f with
          | some p => primRun (callN P n) p args s
          | none => match P.fn f with | some af => runF (callN P n) P n af args s | none => none
        | .yield l => roundN (callN P n) P n l args s
      dcall := fun f args m s => match P.fn f with | some af => runD (callN P n) P n af args m s | none => none }

end Go.Fw
