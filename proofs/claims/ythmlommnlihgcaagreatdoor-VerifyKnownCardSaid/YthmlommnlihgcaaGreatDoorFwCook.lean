/- The framework, part 2: from the model's code to cooked code. -/
import GoSem.Dispatch
import GoSem.Core.View
import Derived.Test.YthmlommnlihgcaaGreatDoorFwCore
namespace Go.Fw
open Go

/-- What is chosen for a function: variables that are never written ('box', 'alloc' without a store; 'alloc' with one store in the same region), and the regions' calls that see no store. -/
structure Hint where
  cb : List Nat := []
  ps : List Nat := []
  cp : List Nat := []       -- slots of the calls
  ap : List Nat := []       -- slots of appends onto what is no mutable row
  cs : List Nat := []       -- .. whose arguments are looked at in any case
  ls : List Nat := []       -- slices' literals whose owner stays known within values

def ofVal1 : Value → Option AV
  | .int k n => if k.wrap n = n then some (.int k n) else none
  | .bool b => some (.bool b)
  | .string s => if s.size ≤ big then some (.str s.data.toList) else none
  | .slice none 0 0 => some (.slice 0 [] .full)
  | .pointer none => some .nilptr
  | .map none => some .nilmap
  | .nilFunc => some .nilfunc
  | .nilIface => some .niliface
  | _ => none
def ofVals : List Value → Option (List AV)
  | [] => some []
  | v :: vs => match ofVal1 v, ofVals vs with | some x, some xs => some (x :: xs) | _, _ => none
def ofVal : Value → Option AV
  | .agg cs => match ofVals cs.toList with | some xs => some (.agg xs) | none => none
  | v => ofVal1 v

def opnd : Operand → Option AOpnd
  | .tmp t => some (.t t)
  | .const v => (ofVal v).map .c
  | .global g => some (.g g)
  | .func f => some (.f f)

/-- A function that is called is one of the program's. -/
def okFn (P : Program) : Operand → Bool
  | .func g => (P.funcs[g]?).isSome
  | _ => true

def opnds : List Operand → Option (List AOpnd)
  | [] => some []
  | x :: xs => match opnd x, opnds xs with | some y, some ys => some (y :: ys) | _, _ => none

def opndO : Option Operand → Option (Option AOpnd)
  | none => some none
  | some x => (opnd x).map some

def aggT (P : Program) (t : TypeId) : Option Bool :=
  match P.underlying t with
  | some (.struct _) | some (.array _ _) => some true
  | some _ => some false
  | none => none

def zeroOf (P : Program) (t : TypeId) : Option (List AV) :=
  match (P.info? t).bind (·.zero) with
  | some (.agg cs) => ofVals cs.toList
  | some v => (ofVal1 v).map fun x => [x]
  | none => none

/-- A type's zero as a value. -/
def zeroV (P : Program) (t : TypeId) : Option AV :=
  match (P.info? t).bind (·.zero) with
  | some v => ofVal v
  | none => none

/-- The kinds of fields of one cell each, whole numbers, strings and bools, one behind the other. -/
def kindsF (P : Program) : Nat → List Field → Option (List KK)
  | _, [] => some []
  | i, f :: fs =>
    match f.name != "_" && f.offset == i, P.underlying f.type, kindsF P (i + 1) fs with
    | true, some .bool, some r => some (.bool :: r)
    | true, some (.int _), some r => some (.int :: r)
    | true, some .string, some r => some (.str :: r)
    | _, _, _ => none

def keyT (P : Program) (t : TypeId) : Option KK :=
  match P.underlying t with
  | some .bool => some .bool
  | some (.int _) => some .int
  | some .string => some .str
  | _ => none

def isNilK : NK → Operand → Bool
  | .ptr, .const (.pointer none) | .slice, .const (.slice none _ _) | .map, .const (.map none) | .func, .const .nilFunc | .iface, .const .nilIface => true
  | _, _ => false

def eqNil (neg : Bool) (k : NK) (x y : Operand) (a b : AOpnd) : Option AOp :=
  match isNilK k x, isNilK k y with
  | true, _ => some (.eqnil neg k b)
  | false, true => some (.eqnil neg k a)
  | _, _ => none

def partsF (fs : Array Field) (P : Program) : List (Nat × Operand) → Option (List (Nat × Nat × AOpnd))
  | [] => some []
  | (i, x) :: rest =>
    match fs[i]?, opnd x, partsF fs P rest with
    | some f, some y, some ys => some ((f.offset, P.cellsOf f.type, y) :: ys)
    | _, _, _ => none

def partsA (esz : Nat) : List (Nat × Operand) → Option (List (Nat × Nat × AOpnd))
  | [] => some []
  | (i, x) :: rest => match opnd x, partsA esz rest with | some y, some ys => some ((i * esz, esz, y) :: ys) | _, _ => none

def partsS : List (Nat × Operand) → Option (List (Nat × AOpnd))
  | [] => some []
  | (i, x) :: rest => match opnd x, partsS rest with | some y, some ys => some ((i, y) :: ys) | _, _ => none

def cookBuiltin (P : Program) (tk : Bool) (b : Builtin) (ts : Array TypeId) (args : List Operand) : Option AOp :=
  match b, args with
  | .recover, [] => some .recov
  | .len, [x] =>
    match (ts[0]?).bind P.underlying, opnd x with
    | some .string, some x => some (.lenStr x)
    | some (.slice _), some x => some (.lenS x)
    | some (.array n _), some _ => if n ≤ big then some (.lenA n) else none
    | _, _ => none
  | .append, [s, x] =>
    match (ts[0]?).bind P.underlying, (ts[1]?).bind P.underlying, opnd s, opnd x with
    | some (.slice e), some (.slice _), some s, some x => if (zeroOf P e).map List.length = some (P.cellsOf e) then some (.append tk (P.cellsOf e) (P.bytesOf e) s x) else none
    | _, _, _, _ => none
  | .copy, [d, s] =>
    match (ts[0]?).bind P.underlying, (ts[1]?).bind P.underlying, opnd d, opnd s with
    | some (.slice e), some (.slice _), some d, some s => match P.info? e with | some _ => some (.copy (P.cellsOf e) d s) | none => none
    | _, _, _, _ => none
  | .max, [x, y] => match (ts[0]?).bind P.underlying, opnds [x, y] with | some (.int _), some xs => some (.minmax true xs) | _, _ => none
  | .min, [x, y] => match (ts[0]?).bind P.underlying, opnds [x, y] with | some (.int _), some xs => some (.minmax false xs) | _, _ => none
  | _, _ => none

def cookOp (P : Program) (h : Hint) (d : Option Nat) : Op → Option AOp
  | .move x | .assign x => (opnd x).map .mv
  | .pick c a b => match opnd c, opnd a, opnd b with | some c, some a, some b => some (.pick c a b) | _, _, _ => none
  | .alloc t =>
    match zeroOf P t with
    | some z => some (if d.any h.ps.contains then .pend z else if d.any h.cb.contains then .boxc (.c (match z with | [x] => (match aggT P t with | some false => x | _ => .agg z) | _ => .agg z)) else .alloc z)
    | none => none
  | .box _ x => match opnd x with | some x => some (if d.any h.cb.contains then .boxc x else .box x) | none => none
  | .build t parts =>
    match zeroOf P t, P.underlying t with
    | some z, some (.struct fs) => if fs.toList.all fun f => (P.info? f.type).isSome then (partsF fs P parts.toList).map (.build z) else none
    | some z, some (.array _ e) => if (P.info? e).isSome then (partsA (P.cellsOf e) parts.toList).map (.build z) else none
    | _, _ => none
  | .buildSlice t n parts =>
    match P.underlying t with
    | some (.slice e) => match zeroOf P e, partsS parts.toList with | some z, some ps => if z.length = P.cellsOf e ∧ 0 < z.length then some (if d.any h.ls.contains then .bsliceF (P.cellsOf e) n z ps else .bslice (P.cellsOf e) n z ps) else none | _, _ => none
    | _ => none
  | .load t a => match aggT P t, opnd a with | some b, some a => some (.load b (P.cellsOf t) a) | _, _ => none
  | .store t a v =>
    match P.info? t, opnd a, opnd v with
    | some _, some a, some v => some (match a with | .t i => if h.ps.contains i then .shut i (P.cellsOf t) v else .store (P.cellsOf t) a v | a => .store (P.cellsOf t) a v)
    | _, _, _ => none
  | .nilCheck x => (opnd x).map .nilchk
  | .binOp op t x y _ =>
    match opnd x, opnd y with
    | some a, some b =>
      match op with
      | .eql | .neq =>
        match P.underlying t with
        | some (.int _) | some .string => some (.bin op a b)
        | some .bool => some (.eq (op matches .neq) a b)
        | some (.pointer _) => eqNil (op matches .neq) .ptr x y a b
        | some (.slice _) => eqNil (op matches .neq) .slice x y a b
        | some (.map _ _) => eqNil (op matches .neq) .map x y a b
        | some (.func ..) => eqNil (op matches .neq) .func x y a b
        | some (.interface _) => eqNil (op matches .neq) .iface x y a b
        | some (.struct fs) => if P.stoodInHeld t || P.eqGuardType P.depth t then none else (kindsF P 0 fs.toList).map fun ks => .eqF (op matches .neq) ks a b
        | _ => none
      | _ => some (.bin op a b)
    | _, _ => none
  | .unOp op _ x => (opnd x).map (.un op)
  | .convert s t x =>
    match P.underlying s, P.underlying t, opnd x with
    | some (.int _), some (.int k), some x => some (.toInt k x)
    | some .string, some .string, some x => some (.cutStr x none none)
    | _, _, _ => none
  | .makeInterface t x => match P.underlying t, opnd x with | some (.interface _), _ => none | some _, some x => some (.mkIface t x) | _, _ => none
  | .makeFunc (.func f) a b => match opnds a.toList, opnds b.toList with | some a, some b => some (.mkFunc f a b) | _, _ => none
  | .makeMap _ none => some .mkMap
  | .makeSlice t l c => match P.underlying t, opnd l, opnd c with | some (.slice e), some l, some c => (match zeroOf P e with | some z => if z.length = P.cellsOf e then some (.mkSlice (P.cellsOf e) (P.bytesOf e) z l c) else none | none => none) | _, _, _ => none
  | .slice t x l u m =>
    match P.underlying t, opnd x, opndO l, opndO u, opndO m with
    | some (.slice e), some x, some l, some u, some m => if (P.underlying e).isSome then some (.cutS (P.cellsOf e) x l u m) else none
    | some .string, some x, some l, some u, some none => some (.cutStr x l u)
    | some (.array n e), some x, some l, some u, some none => if (P.underlying e).isSome && n ≤ big then some (.cutA n (P.cellsOf e) x l u) else none
    | _, _, _, _, _ => none
  | .fieldAddr s x f =>
    match P.underlying s, opnd x with
    | some (.struct fs), some x => match fs[f]? with | some f => if P.cellsOf f.type = 0 then none else some (.fieldA f.offset x) | none => none
    | _, _ => none
  | .field s x f =>
    match P.underlying s, opnd x with
    | some (.struct fs), some x => match fs[f]? with | some f => (aggT P f.type).map fun b => .field b f.offset (P.cellsOf f.type) x | none => none
    | _, _ => none
  | .indexAddr t x i =>
    match P.underlying t, opnd x, opnd i with
    | some (.slice e), some x, some i => if (P.underlying e).isSome then some (.idxS (P.cellsOf e) x i) else none
    | some (.array n e), some x, some i => if (P.underlying e).isSome then some (.idxA n (P.cellsOf e) x i) else none
    | _, _, _ => none
  | .index t x i => match P.underlying t, opnd x, opnd i with | some .string, some x, some i => some (.idxStr x i) | some (.array n e), some x, some i => (aggT P e).map fun ag => .idxV n (P.cellsOf e) ag x i | _, _, _ => none
  | .lookup t m k ok =>
    match P.underlying t, opnd m, opnd k with
    | some (.map kt e), some m, some k => match keyT P kt, zeroV P e with | some kk, some z => some (.lookup ok kk z m k) | _, _ => none
    | _, _, _ => none
  | .mapUpdate t m k v | .insert t m k v =>
    match P.underlying t, opnd m, opnd k, opnd v with
    | some (.map kt _), some m, some k, some v => (keyT P kt).map fun kk => .mapSet kk m k v
    | _, _, _, _ => none
  | .range t x => match P.underlying t, opnd x with | some .string, some x => some (.rangeStr x) | _, _ => none
  | .next x true => (opnd x).map .nextStr
  | .typeAssert x _ t ok =>
    match P.underlying t, opnd x, zeroV P t with
    | some (.interface _), _, _ => none
    | some _, some x, some z => some (.assert ok t z x)
    | _, _, _ => none
  | .extract x i => (opnd x).map fun x => .extract x i
  | .call c =>
    match c.callee with
    | .builtin b => cookBuiltin P (d.any h.ap.contains) b c.argTypes c.args.toList
    | .value f => match okFn P f, opnd f, opnds c.args.toList with | true, some f, some xs => some (if d.any h.cs.contains then .callP true f xs else if d.any h.cp.contains then .callP false f xs else .call f xs) | _, _, _ => none
    | .invoke .. => none
  | .defer c => match c.callee with | .value f => (match opnd f, opnds c.args.toList with | some f, some xs => some (.defer f xs) | _, _ => none) | _ => none
  | .panic x => (opnd x).map .panic
  | _ => none

/-- The operations that are ahead of the i-th, whatever is drawn. -/
def preOf (ops : List Oper) : List (List Nat) :=
  ops.foldl (fun acc o => acc ++ [((o.after.toList.filter (Region.binds .any)).flatMap fun e => e.on :: acc.getD e.on []).eraseDups]) []

def cookOps (P : Program) (h : Hint) (draw : Bool) (all : Array Oper) (pre : List (List Nat)) : Nat → List Oper → Option (List AI)
  | _, [] => some []
  | i, o :: rest =>
    match cookOps P h draw all pre (i + 1) rest, (match o.guard with | none => some none | some (j, b) => match (all[j]?).bind (·.dst) with | some t => some (some (t, b)) | none => none) with
    | some is, some g => some ({ d := o.dst, op := (cookOp P h o.dst o.op).getD .bad, gd := g, pre := if draw then (pre.getD i []).eraseDups else [] } :: is)
    | _, _ => none

/-- Whatever is ahead of an operation stands ahead of it. -/
def edgesOk : Nat → List Oper → Bool
  | _, [] => true
  | i, o :: rest => o.after.all (fun e => !Region.binds .any e || Nat.blt e.on i) && edgesOk (i + 1) rest

def cookC (P : Program) (h : Hint) : Code → Option AC
  | .skip => some .skip
  | .region _ ops draw => if draw && !edgesOk 0 ops.toList then none else (cookOps P h draw ops (if draw then preOf ops.toList else []) 0 ops.toList).map fun l => if draw && loose l then .regW l else .reg draw l
  | .seq a b => match cookC P h a, cookC P h b with | some a, some b => some (.seq a b) | _, _ => none
  | .cond c a b => match opnd c, cookC P h a, cookC P h b with | some c, some a, some b => some (.cond c a b) | _, _, _ => none
  | .block id b => (cookC P h b).map (.block id)
  | .loop b => (cookC P h b).map .loop
  | .rangeFunc f ps a b => match opnd f, cookC P h a, cookC P h b with | some f, some a, some b => some (.rangeF f ps.toList a b) | _, _, _ => none
  | .exit id => some (.exit id)
  | .ret => some .ret
  | .scope b => (cookC P h b).map .scope
  | .label _ => some .skip
  | _ => none

def cookRes (P : Program) : List ResultVar → Option (List ARV)
  | [] => some []
  | .tmp t :: rs => (cookRes P rs).map (.tmp t :: ·)
  | .cell a t :: rs => match aggT P t, cookRes P rs with | some b, some xs => some (.cell a b (P.cellsOf t) :: xs) | _, _ => none

def cookF (P : Program) (h : Hint) (f : Func) : Option AF :=
  match f.body.bind (cookC P h), cookRes P f.results.toList with
  | some b, some r => some { np := f.params.size + f.nfree, nt := f.ntmps, res := r, body := b }
  | _, _ => none

end Go.Fw
