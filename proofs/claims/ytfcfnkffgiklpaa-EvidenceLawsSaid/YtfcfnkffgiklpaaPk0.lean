/- Our own framework, the program's cooked code, and the proofs that a claim leans on: joined and shortened by a program of the prover's own. -/
import GoSem.Dispatch
import GoSem.Core.View
import Derived.Test.YtfcfnkffgiklpaaProg
import Derived.Below
import Derived.RangeFuncLeaves
import Derived.RangeFuncRecord
import Derived.RangeFuncCalls
import Derived.RecoverIn
import Derived.Laws.AppendOwn
import Derived.Laws.Tables
import Derived.Laws.CopyRow
import Derived.Laws.Cells
import Derived.Laws.Entries
import Derived.Laws.Rows
import Derived.Laws.StructEq
import Derived.ChangeKeysEq
set_option linter.unusedVariables false
set_option linter.unusedSimpArgs false
namespace Go.Fw
open Go
inductive Own where
 |no
 |full
 |lit
 |tok (t:Nat)
 deriving DecidableEq,Repr,Inhabited
inductive AV where
 |int (k:IntKind) (n:Int)
 |bool (b:Bool)
 |str (s:List UInt8)
 |slice (sz:Nat) (xs:List AV) (o:Own)
 |bM (l off len cap sz:Nat)
 |agg (cs:List AV)
 |tuple (vs:List AV)
 |cB
 |ptr (l off:Nat)
 |a8 (v:AV) (off:Nat)
 |func (f:Nat) (first captured:List AV)
 |bQ
 |yield (l:Nat)
 |map (l:Nat)
 |cF
 |iface (t:Nat) (v:AV)
 |a9
 |iter (l:Nat)
 |fZ
 deriving Repr,Inhabited
inductive aH where
 |t (i:Nat)
 |c (v:AV)
 |g (g:Nat)
 |f (f:Nat)
 deriving Repr,Inhabited
inductive KK where
 |int|str|bool
 deriving DecidableEq,Repr,Inhabited
inductive NK where
 |ptr|slice|map|func|iface
 deriving DecidableEq,Repr,Inhabited
inductive AOp where
 |mv (x:aH)
 |pick (c a b:aH)
 |n8 (x:aH)
 |box (x:aH)
 |pend (z:List AV)
 |shut (d:Nat) (sz:Nat) (x:aH)
 |alloc (z:List AV)
 |build (z:List AV) (parts:List (Nat×Nat×aH))
 |gO (esz:Nat) (len:Nat) (z:List AV) (parts:List (Nat×aH))
 |rG (esz:Nat) (len:Nat) (z:List AV) (parts:List (Nat×aH))
 |load (agg:Bool) (sz:Nat) (x:aH)
 |store (sz:Nat) (a x:aH)
 |aAJ (x:aH)
 |bin (op:BinOp) (x y:aH)
 |eq (neg:Bool) (x y:aH)
 |eqF (neg:Bool) (ks:List KK) (x y:aH)
 |aAP (neg:Bool) (k:NK) (x:aH)
 |un (op:UnOp) (x:aH)
 |toInt (k:IntKind) (x:aH)
 |w9 (t:Nat) (x:aH)
 |sV (f:Nat) (first captured:List aH)
 |mkMap
 |mkSlice (esz bytes:Nat) (z:List AV) (len cap:aH)
 |zF (esz:Nat) (x:aH) (lo hi mx:Option aH)
 |rW (x:aH) (lo hi:Option aH)
 |aDj (n esz:Nat) (x:aH) (lo hi:Option aH)
 |bO (off:Nat) (x:aH)
 |field (agg:Bool) (off sz:Nat) (x:aH)
 |hN (esz:Nat) (x i:aH)
 |aEP (n esz:Nat) (x i:aH)
 |aEf (n esz:Nat) (agg:Bool) (x i:aH)
 |lB (x i:aH)
 |lookup (ok:Bool) (kk:KK) (z:AV) (m k:aH)
 |kC (kk:KK) (m k v:aH)
 |gH (x:aH)
 |iE (it:aH)
 |assert (ok:Bool) (t:Nat) (z:AV) (x:aH)
 |extract (x:aH) (i:Nat)
 |call (f:aH) (args:List aH)
 |aI (st:Bool) (f:aH) (args:List aH)
 |j7 (x:aH)
 |jJ (x:aH)
 |aEd (n:Nat)
 |append (tk:Bool) (esz bytes:Nat) (s x:aH)
 |copy (esz:Nat) (d s:aH)
 |sU (mx:Bool) (xs:List aH)
 |u9
 |defer (f:aH) (args:List aH)
 |panic (x:aH)
 |bad
 deriving Repr,Inhabited
structure AI where
 d:Option Nat
 op:AOp
 gd:Option (Nat×Bool)
 pre:List Nat:= []
 deriving Repr,Inhabited
inductive AC where
 |skip
 |reg (draw:Bool) (ops:List AI)
 |seq (a b:AC)
 |cond (c:aH) (t e:AC)
 |block (id:Nat) (b:AC)
 |loop (b:AC)
 |pR (f:aH) (params:List Nat) (assign body:AC)
 |exit (id:Nat)
 |ret
 |scope (b:AC)
 |yJ (ops:List AI)
 deriving Repr,Inhabited
def s8(i:AI):Bool:=match i.op,i.d with| .store ..,none=>true|_,_=>false
def aAB(i:AI):Bool:=match i.op with| .load .. =>true|_=>false
def iV(i:AI):Bool:=s8 i||aAB i
def qF(a b:AI):Bool:=(s8 a&&iV b)||(iV a&&s8 b)
def loose(ops:List AI):Bool:=
 (List.range ops.length).any fun j=>(List.range j).any fun i=>
  match ops[i]?,ops[j]? with
  |some a,some b=>qF a b&& !b.pre.contains i
  |_,_=>false
inductive ARV where
 |tmp (t:Nat)
 |cell (t:Nat) (agg:Bool) (sz:Nat)
 deriving Repr,Inhabited
structure AF where
 np:Nat
 nt:Nat
 res:List ARV
 body:AC
 deriving Repr,Inhabited
inductive cY where
 |normal
 |exit (id:Nat)
 |ret
 |panic (v:AV)
 deriving Repr,Inhabited
inductive LSt where
 |ready|busy|done|exhausted
 deriving DecidableEq,Repr,Inhabited
structure mN where
 st:LSt
 pend:Option cY
 env:Nat→AV
 dq:Nat
 params:List Nat
 assign:AC
 body:AC
inductive eH where
 |cells (cs:List AV) (w:Bool)
 |map (es:List (AV×AV))
 |loop (l:mN)
 |iter (s:List UInt8) (pos:Nat)
 |z5
 |dead
instance:Inhabited eH:=⟨.dead⟩
structure ASt where
 blks:List eH
 toks:List Nat
 lowB:Option Nat:=none
 lowT:Option Nat:=none
inductive jT where
 |ret (v:AV)
 |panic (v:AV)
 deriving Repr,Inhabited
inductive AFn where
 |func (f:Nat)
 |yield (l:Nat)
 deriving Repr,Inhabited
inductive DM where
 |ret
 |pan (v:AV)
 deriving Repr,Inhabited
structure Handler where
 call:AFn→List AV→ASt→Option (jT×ASt)
 dcall:Nat→List AV→DM→ASt→Option (DM×ASt)
def dX:AV:= .tuple []
abbrev Env:=Nat→AV
def upd(e:Env)(i:Nat)(v:AV):Env:=fun j=>match Nat.beq j i with|true=>v|false=>e j
def dD(e:Env)(d:Option Nat)(v:AV):Env:=match d with|some i=>upd e i v|none=>e
def cellsOf:AV→List AV
 | .agg cs=>cs
 |v=> [v]
mutual
def lV:AV→Bool
 | .int .. | .bool .. | .str .. | .cB| .bQ| .cF| .a9| .fZ=>false
 | .slice _ xs _=>eN xs
 | .bM .. | .ptr .. | .yield _| .map _| .iter _=>true
 | .agg cs=>eN cs
 | .tuple vs=>eN vs
 | .a8 v _=>lV v
 | .func _ a b=>eN a||eN b
 | .iface _ v=>lV v
def eN:List AV→Bool
 | []=>false
 |x::xs=>lV x||eN xs
end
mutual
def toks:AV→Bool
 | .int .. | .bool .. | .str .. | .cB| .bQ| .cF| .a9| .fZ| .bM .. | .ptr .. | .yield _| .map _| .iter _=>false
 | .slice _ xs o=>(match o with| .tok _=>true|_=>fJ xs)
 | .agg cs=>fJ cs
 | .tuple vs=>fJ vs
 | .a8 v _=>toks v
 | .func _ a b=>fJ a||fJ b
 | .iface _ v=>toks v
def fJ:List AV→Bool
 | []=>false
 |x::xs=>toks x||fJ xs
end
mutual
def bE:AV→Bool
 | .int .. | .bool .. | .str .. | .cB| .bQ| .cF| .a9| .fZ=>true
 | .slice _ xs o=>(match o with| .tok _=>false|_=>dM xs)
 | .bM .. | .ptr .. | .yield _| .map _| .iter _=>false
 | .agg cs=>dM cs
 | .tuple vs=>dM vs
 | .a8 v _=>bE v
 | .func _ a b=>dM a&&dM b
 | .iface _ v=>bE v
def dM:List AV→Bool
 | []=>true
 |x::xs=>bE x&&dM xs
end
def chunks(sz:Nat):Nat→List AV→List AV
 |0,_=> []
 |n+1,cs=>(match sz with|1=>cs.headD dX|_=> .agg (cs.take sz))::chunks sz n (cs.drop sz)
def szC(sz:Nat):List AV→Nat
 | []=>0
 |_::_=>sz
def dY:AV→Option AV
 | .slice sz xs o=>match o with| .no=>some (.slice sz xs .no)| .lit=>some (.slice (szC sz xs) xs .lit)|_=>some (.slice (szC sz xs) xs .no)
 | .bM .. | .tuple _| .fZ| .agg _=>none
 |v=>some v
def tI:List AV→Option (List AV)
 | []=>some []
 |x::xs=>match dY x with|none=>none|some y=>match tI xs with|none=>none|some ys=>some (y::ys)
def eK:AV→Option AV
 | .agg cs=>match tI cs with|some ds=>some (.agg ds)|none=>none
 |v=>dY v
def cM:List AV→Option (List AV)
 | []=>some []
 |x::xs=>match eK x with|none=>none|some y=>match cM xs with|none=>none|some ys=>some (y::ys)
def rowOf(s:ASt)(l off len sz:Nat):Option (List AV):=
 match s.blks[l]? with
 |some (.cells cs _)=>if off+len*sz≤cs.length then cM (chunks sz len (cs.drop off)) else none
 |_=>none
def xN(s:ASt):AV→Option (AV×ASt)
 | .bM l off len _ sz=>
  match rowOf s l off len sz,s.blks[l]? with
  |some xs,some (.cells cs _)=>some (.slice sz xs .no,{s with blks:=s.blks.set l (.cells cs false)})
  |_,_=>none
 |v=>match eK v with|some x=>some (x,s)|none=>none
def lP(s:ASt):List AV→Option (List AV×ASt)
 | []=>some ([],s)
 |x::xs=>match xN s x with|none=>none|some (y,s1)=>match lP s1 xs with|none=>none|some (ys,s2)=>some (y::ys,s2)
structure Prim where
 calls:List AV→Option (List (Nat×List AV))
 fin:List AV→List AV→Option AV
structure aK where
 fn:Nat→Option AF
 gl:Nat→AV
 prim:Nat→Option Prim
def evO(P:aK)(e:Env):aH→AV
 | .t i=>e i
 | .c v=>v
 | .g g=> .a8 (P.gl g) 0
 | .f f=> .func f [] []
def big:Nat:=1099511627776
def fO(op:BinOp)(k:IntKind)(a b:Int):Option AV:=
 match op with
 | .add=>some (.int k (k.wrap (a+b)))
 | .sub=>some (.int k (k.wrap (a-b)))
 | .mul=>some (.int k (k.wrap (a*b)))
 | .quo=>if b=0 then none else some (.int k (k.wrap (a.tdiv b)))
 | .rem=>if b=0 then none else some (.int k (a.tmod b))
 | .and=>some (.int k (k.wrap (BitVec.ofInt k.bits a&&&BitVec.ofInt k.bits b).toNat))
 | .or=>some (.int k (k.wrap (BitVec.ofInt k.bits a|||BitVec.ofInt k.bits b).toNat))
 | .xor=>some (.int k (k.wrap (BitVec.ofInt k.bits a^^^BitVec.ofInt k.bits b).toNat))
 | .andNot=>some (.int k (k.wrap (BitVec.ofInt k.bits a&&& ~~~BitVec.ofInt k.bits b).toNat))
 | .eql=>some (.bool (a==b))
 | .neq=>some (.bool (a !=b))
 | .lss=>some (.bool (decide (a<b)))
 | .leq=>some (.bool (decide (a≤b)))
 | .gtr=>some (.bool (decide (a>b)))
 | .geq=>some (.bool (decide (a≥b)))
 |_=>none
def aCj(op:BinOp)(a b:List UInt8):Option AV:=
 match op with
 | .add=>if a.length+b.length≤big then some (.str (a++b)) else none
 | .eql=>some (.bool (a==b))
 | .neq=>some (.bool (!(a==b)))
 | .lss=>some (.bool (Op.bytesLess a b))
 | .leq=>some (.bool (Op.bytesLess a b||a==b))
 | .gtr=>some (.bool (!(Op.bytesLess a b||a==b)))
 | .geq=>some (.bool (!Op.bytesLess a b))
 |_=>none
def aAy(op:BinOp):AV→AV→Option AV
 | .int k a,.int k' b=>
  match op with
  | .shl=>if b<0 then none else some (.int k (k.wrap (a*2^(min b.toNat k.bits))))
  | .shr=>if b<0 then none else some (.int k (k.wrap (a.fdiv (2^(min b.toNat k.bits)))))
  |_=>if k=k' then fO op k a b else none
 | .str a,.str b=>aCj op a b
 |_,_=>none
def lQ:AV→AV→Option Bool
 | .int k a,.int k' b=>if k=k' then some (a==b) else none
 | .bool a,.bool b=>some (a==b)
 | .str a,.str b=>some (a==b)
 |_,_=>none
def kL:List KK→List AV→List AV→Option Bool
 | [],[],[]=>some true
 | .int::ks,.int k a::xs,.int k' b::ys=>if k=k' then(match kL ks xs ys with|some r=>some ((a==b)&&r)|none=>none) else none
 | .bool::ks,.bool a::xs,.bool b::ys=>(match kL ks xs ys with|some r=>some ((a==b)&&r)|none=>none)
 | .str::ks,.str a::xs,.str b::ys=>(match kL ks xs ys with|some r=>some ((a==b)&&r)|none=>none)
 |_,_,_=>none
def eqA(x y:AV):Option Bool:=lQ x y
def wQ:NK→AV→Option Bool
 | .ptr,.cB=>some true
 | .ptr,.ptr .. | .ptr,.a8 .. =>some false
 | .iface,.a9=>some true
 | .iface,.iface .. =>some false
 | .func,.bQ=>some true
 | .func,.func .. =>some false
 | .map,.cF=>some true
 | .map,.map _=>some false
 | .slice,.slice _ (_::_) _=>some false
 |_,_=>none
def partOf(agg:Bool)(sz:Nat)(cs:List AV)(off:Nat):Option AV:=
 match agg with
 |true=>if off+sz≤cs.length then some (.agg ((cs.drop off).take sz)) else none
 |false=>cs[off]?
def a0(cs:List AV)(off:Nat)(ds:List AV):List AV:=cs.take off++ds++cs.drop (off+ds.length)
def vO(z:List AV):List (Nat×Nat×AV)→Option (List AV)
 | []=>some z
 |(off,sz,v)::rest=>
  match eK v with
  |some v=>if(cellsOf v).length=sz&&off+sz≤z.length then vO (a0 z off (cellsOf v)) rest else none
  |none=>none
def aBH(n:Nat)(z:List AV):List AV:=match n with|0=> []|n+1=>z++aBH n z
def kM(xs:List AV):List (Nat×AV)→Option (List AV)
 | []=>some xs
 |(i,v)::rest=>if i<xs.length then kM (xs.set i v) rest else none
def elemOf(sz:Nat)(z:List AV):AV:=match sz with|1=>z.headD dX|_=> .agg z
def fR:AV→Option Nat
 | .int _ n=>if 0≤n then some n.toNat else none
 |_=>none
def bT(P:aK)(e:Env)(d:Nat):Option aH→Option Nat
 |none=>some d
 |some x=>fR (evO P e x)
def aU(P:aK)(e:Env):AOp→Option AV
 | .mv x=>some (evO P e x)
 | .pick c a b=>match evO P e c with| .bool t=>some (match t with|true=>evO P e a|false=>evO P e b)|_=>none
 | .n8 x=>match eK (evO P e x) with|some v=>some (.a8 v 0)|none=>none
 | .build z parts=>match vO z (parts.map fun p=>(p.1,p.2.1,evO P e p.2.2)) with|some cs=>some (.agg cs)|none=>none
 | .gO esz len z parts=>
  match cM (parts.map fun p=>evO P e p.2) with
  |some vs=>
   if vs.all (fun v=>(cellsOf v).length==esz)&&decide (len*esz≤16777216) then
    match kM (List.replicate len (elemOf esz z)) ((parts.map (·.1)).zip vs) with
    |some xs=>some (.slice esz xs .full)
    |none=>none
   else none
  |none=>none
 | .rG esz len z parts=>
  match cM (parts.map fun p=>evO P e p.2) with
  |some vs=>
   if vs.all (fun v=>(cellsOf v).length==esz)&&decide (len*esz≤16777216) then
    match kM (List.replicate len (elemOf esz z)) ((parts.map (·.1)).zip vs) with
    |some xs=>some (.slice esz xs .lit)
    |none=>none
   else none
  |none=>none
 | .aAJ x=>match evO P e x with| .ptr l o=>some (.ptr l o)| .a8 v o=>some (.a8 v o)| .func f a b=>some (.func f a b)| .yield l=>some (.yield l)|_=>none
 | .bin op x y=>aAy op (evO P e x) (evO P e y)
 | .eq neg x y=>match eqA (evO P e x) (evO P e y) with|some b=>some (.bool (match neg with|true=> !b|false=>b))|none=>none
 | .eqF neg ks x y=>
  match evO P e x,evO P e y with
  | .agg xs,.agg ys=>match kL ks xs ys with|some b=>some (.bool (match neg with|true=> !b|false=>b))|none=>none
  |_,_=>none
 | .aAP neg k x=>match wQ k (evO P e x) with|some b=>some (.bool (match neg with|true=> !b|false=>b))|none=>none
 | .un .not x=>match evO P e x with| .bool b=>some (.bool (!b))|_=>none
 | .un .neg x=>match evO P e x with| .int k n=>some (.int k (k.wrap (0-n)))|_=>none
 | .un .xor x=>match evO P e x with| .int k n=>some (.int k (k.wrap (BitVec.ofInt k.bits (if k.signed then-1 else k.max)^^^BitVec.ofInt k.bits n).toNat))|_=>none
 | .toInt k x=>match evO P e x with| .int k' n=>some (.int k (if k=k' then n else k.wrap n))|_=>none
 | .w9 t x=>match eK (evO P e x) with|some v=>some (.iface t v)|none=>none
 | .sV f a b=>match cM (a.map (evO P e)),cM (b.map (evO P e)) with|some a,some b=>some (.func f a b)|_,_=>none
 | .zF esz x lo hi mx=>
  match evO P e x with
  | .slice sz xs o=>
   match bT P e xs.length mx,bT P e xs.length hi,bT P e 0 lo with
   |some m,some h,some l=>
    if l≤h&&h≤m&&m≤xs.length&&(sz=esz||xs.isEmpty)&&(mx.isNone||hi.isSome) then
     some (match lo,hi,mx with
      |none,none,none=> .slice sz xs o
      |_,_,some _=> .slice (szC sz ((xs.take h).drop l)) ((xs.take h).drop l) (if h=m then .full else .no)
      |_,_,_=> .slice (szC sz ((xs.take h).drop l)) ((xs.take h).drop l) .no)
    else none
   |_,_,_=>none
  | .bM l0 off len cap sz=>
   match mx,bT P e len hi,bT P e 0 lo with
   |none,some h,some l=>if l≤h&&h≤len&&sz=esz&&(l=0||l<cap) then some (.bM l0 (off+l*sz) (h-l) (cap-l) sz) else none
   |_,_,_=>none
  |_=>none
 | .rW x lo hi=>
  match evO P e x with
  | .str s=>
   match bT P e s.length hi,bT P e 0 lo with
   |some h,some l=>if l≤h&&h≤s.length then some (.str ((s.take h).drop l)) else none
   |_,_=>none
  |_=>none
 | .aDj n esz x lo hi=>
  match evO P e x,bT P e n hi,bT P e 0 lo with
  | .a8 v off,some h,some l=>
   if l≤h&&h≤n&&off+n*esz≤(cellsOf v).length then some (.slice esz (chunks esz (h-l) ((cellsOf v).drop (off+l*esz))) .no) else none
  | .ptr b off,some h,some l=>if l≤h&&h≤n&&(l=0||l<n) then some (.bM b (off+l*esz) (h-l) (n-l) esz) else none
  |_,_,_=>none
 | .bO off x=>match evO P e x with| .ptr l o=>some (.ptr l (o+off))| .a8 v o=>some (.a8 v (o+off))|_=>none
 | .field agg off sz x=>match evO P e x with| .agg cs=>partOf agg sz cs off|_=>none
 | .hN esz x i=>
  match evO P e x,fR (evO P e i) with
  | .slice sz xs _,some i=>if sz=esz then(match xs[i]? with|some x=>some (.a8 x 0)|none=>none) else none
  | .bM l off len _ sz,some i=>if sz=esz&&i<len then some (.ptr l (off+i*sz)) else none
  |_,_=>none
 | .aEP n esz x i=>
  match evO P e x,fR (evO P e i) with
  | .ptr l o,some i=>if i<n then some (.ptr l (o+i*esz)) else none
  | .a8 v o,some i=>if i<n then some (.a8 v (o+i*esz)) else none
  |_,_=>none
 | .aEf n esz agg x i=>
  match evO P e x,fR (evO P e i) with
  | .agg cs,some i=>if i<n then partOf agg esz cs (i*esz) else none
  |_,_=>none
 | .lB x i=>
  match evO P e x,fR (evO P e i) with
  | .str s,some i=>match s[i]? with|some b=>some (.int .u8 b.toNat)|none=>none
  |_,_=>none
 | .assert ok t z x=>
  match evO P e x with
  | .iface t' v=>if t'=t then some (match ok with|true=> .tuple [v,.bool true]|false=>v) else(match ok with|true=>some (.tuple [z,.bool false])|false=>none)
  | .a9=>match ok with|true=>some (.tuple [z,.bool false])|false=>none
  |_=>none
 | .extract x i=>match evO P e x with| .tuple vs=>vs[i]?|_=>none
 | .j7 x=>match evO P e x with| .slice _ xs _=>some (.int .i64 xs.length)| .bM _ _ len _ _=>some (.int .i64 len)|_=>none
 | .jJ x=>match evO P e x with| .str s=>some (.int .i64 s.length)|_=>none
 | .aEd n=>some (.int .i64 n)
 | .sU mx [x,y]=>
  match evO P e x,evO P e y with
  | .int k a,.int k' b=>if k=k' then some (.int k (match mx with|true=>max a b|false=>min a b)) else none
  |_,_=>none
 |_=>none
def keyOf:KK→AV→Bool
 | .int,.int .. | .str,.str _| .bool,.bool _=>true
 |_,_=>false
def tP(k:AV):List (AV×AV)→Option (Option AV)
 | []=>some none
 |(a,v)::rest=>match lQ k a with|some true=>some (some v)|some false=>tP k rest|none=>none
def wC(k v:AV):List (AV×AV)→Option (List (AV×AV))
 | []=>some [(k,v)]
 |(a,u)::rest=>match lQ k a with|some true=>some ((k,v)::rest)|some false=>(match wC k v rest with|some r=>some ((a,u)::r)|none=>none)|none=>none
def dV(P:aK)(e:Env)(s:ASt):AOp→Option AV
 | .load agg sz x=>
  match evO P e x with
  | .a8 v off=>match agg with
   |true=>match off with
    |0=>if(cellsOf v).length=sz then some (.agg (cellsOf v)) else partOf true sz (cellsOf v) 0
    |off=>partOf true sz (cellsOf v) off
   |false=>(cellsOf v)[off]?
  | .ptr l off=>
   match s.blks[l]? with
   |some (.cells cs _)=>match agg with
    |true=>match partOf true sz cs off with|some v=>eK v|none=>none
    |false=>cs[off]?
   |_=>none
  |_=>none
 | .lookup ok kk z m k=>
  match evO P e m with
  | .map l=>
   match s.blks[l]? with
   |some (.map es)=>
    if keyOf kk (evO P e k) then
     match tP (evO P e k) es with
     |some (some v)=>some (match ok with|true=> .tuple [v,.bool true]|false=>v)
     |some none=>some (match ok with|true=> .tuple [z,.bool false]|false=>z)
     |none=>none
    else none
   |_=>none
  | .cF=>some (match ok with|true=> .tuple [z,.bool false]|false=>z)
  |_=>none
 |_=>none
def low(b:Bool)(l:Nat):Option Nat→Option Nat
 |none=>match b with|true=>some l|false=>none
 |some m=>match b with|true=>some (min l m)|false=>some m
def fC(s:ASt)(l:Nat)(cs:List AV)(blks:List eH):ASt:=
 {s with blks,lowB:=low (eN cs) l s.lowB,lowT:=low (fJ cs) l s.lowT}
def xA:AV→Bool
 | .slice .. =>true
 |_=>false
def elems(s:ASt)(esz:Nat):AV→Option (List AV)
 | .slice sz ys _=>if sz=esz||ys.isEmpty then some ys else none
 | .bM l off len _ sz=>if sz=esz then rowOf s l off len sz else none
 |_=>none
def iI(xs:List AV):List AV:=xs.flatMap cellsOf
def nU:AV→Bool
 | .tuple _| .fZ=>false
 |_=>true
def cA(P:aK)(e:Env)(s:ASt):AOp→Option (AV×ASt)
 | .box x=>match nU (evO P e x) with|true=>some (.ptr s.blks.length 0,{s with blks:=s.blks++ [.cells (cellsOf (evO P e x)) true]})|false=>none
 | .alloc z=>some (.ptr s.blks.length 0,{s with blks:=s.blks++ [.cells z true]})
 | .store sz a x=>
  match evO P e a with
  | .ptr l off=>
   match s.blks[l]? with
   |some (.cells cs true)=>
    if nU (evO P e x)&&(cellsOf (evO P e x)).length=sz&&off+sz≤cs.length then
     some (dX,fC s l (cellsOf (evO P e x)) (s.blks.set l (.cells (a0 cs off (cellsOf (evO P e x))) true)))
    else none
   |_=>none
  |_=>none
 | .mkMap=>some (.map s.blks.length,{s with blks:=s.blks++ [.map []]})
 | .mkSlice esz bytes z l c=>
  match fR (evO P e l),fR (evO P e c) with
  |some l,some c=>
   if l≤c&&c*bytes≤big&&c≤big then some (.bM s.blks.length 0 l c esz,{s with blks:=s.blks++ [.cells (aBH c z) true]}) else none
  |_,_=>none
 | .kC kk m k v=>
  match evO P e m,eK (evO P e v) with
  | .map l,some v=>
   match s.blks[l]? with
   |some (.map es)=>
    if keyOf kk (evO P e k) then
     match wC (evO P e k) v es with
     |some es'=>some (dX,fC s l [v] (s.blks.set l (.map es')))
     |none=>none
    else none
   |_=>none
  |_,_=>none
 | .gH x=>match evO P e x with| .str t=>some (.iter s.blks.length,{s with blks:=s.blks++ [.iter t 0]})|_=>none
 | .iE it=>
  match evO P e it with
  | .iter l=>
   match s.blks[l]? with
   |some (.iter t pos)=>
    if pos<t.length then
     match Utf8.decode ⟨t.toArray⟩ pos with
     |(c,width)=>some (.tuple [.bool true,.int .i64 pos,.int .i32 c],{s with blks:=s.blks.set l (.iter t (pos+width))})
    else some (.tuple [.bool false],s)
   |_=>none
  |_=>none
 | .append tk esz bytes a x=>
  match !tk||(xA (evO P e a)&&xA (evO P e x)) with
  |false=>none
  |true=>
  match elems s esz (evO P e x) with
  |some []=>match evO P e a with| .slice sz xs o=>some (.slice sz xs o,s)| .bM l o n c sz=>some (.bM l o n c sz,s)|_=>none
  |some (y::ys)=>
   match evO P e a with
   | .slice sz xs o=>
    if(sz=esz||xs.isEmpty)&&(xs.length+(ys.length+1))*bytes≤big&&xs.length+(ys.length+1)≤big&&0<esz then
     match o with
     | .full| .lit=>some (.slice esz (xs++y::ys) (.tok s.toks.length),{s with toks:=s.toks++ [xs.length+(ys.length+1)]})
     | .tok t=>
      match s.toks[t]? with
      |some n=>if sz=esz&&n=xs.length then some (.slice sz (xs++y::ys) (.tok t),{s with toks:=s.toks.set t (xs.length+(ys.length+1))}) else none
      |none=>none
     | .no=>none
    else none
   | .bM l off len cap sz=>
    if sz=esz&&(len+(ys.length+1))*bytes≤big&&len+(ys.length+1)≤big&&0<esz then
     if len+(ys.length+1)≤cap then
      match s.blks[l]? with
      |some (.cells cs true)=>
       if off+(len+(ys.length+1))*sz≤cs.length&&(iI (y::ys)).length=(ys.length+1)*sz then
        some (.bM l off (len+(ys.length+1)) cap sz,fC s l (iI (y::ys)) (s.blks.set l (.cells (a0 cs (off+len*sz) (iI (y::ys))) true)))
       else none
      |_=>none
     else
      match rowOf s l off len sz with
      |some xs=>some (.slice sz (xs++y::ys) (.tok s.toks.length),{s with toks:=s.toks++ [len+(ys.length+1)]})
      |none=>none
    else none
   |_=>none
  |none=>none
 | .copy esz d x=>
  match evO P e d,elems s esz (evO P e x) with
  | .bM l off len _ sz,some ys=>
   match s.blks[l]? with
   |some (.cells cs true)=>
    if sz=esz&&off+len*sz≤cs.length&&(iI (ys.take len)).length=(min ys.length len)*sz then
     some (.int .i64 (min ys.length len:Nat),fC s l (iI (ys.take len)) (s.blks.set l (.cells (a0 cs off (iI (ys.take len))) true)))
    else none
   |_=>none
  |_,_=>none
 |_=>none
inductive dC where
 |mark (l:Nat)
 |call (f:Nat) (args:List AV)
structure Fr where
 env:Env
 ds:List dC
inductive gW where
 |norm (fr:Fr) (s:ASt)
 |pan (v:AV) (fr:Fr) (s:ASt)
def wanted(e:Env):Option (Nat×Bool)→Option Bool
 |none=>some true
 |some (t,b)=>match e t with| .bool c=>some (c==b)| .tuple []=>some false|_=>none
def dE:ASt:={blks:= [],toks:= []}
def isE(s:ASt):Bool:=match s.blks,s.toks with| [],[]=>true|_,_=>false
def gZ:AV→Option AV
 | .tuple vs=>match cM vs with|some ws=>some (.tuple ws)|none=>none
 |v=>eK v
def aG(d:Option Nat)(pd:List (Nat×Nat)):List (Nat×Nat):=
 match d with|none=>pd|some d=>pd.filter fun x=> !(Nat.beq x.1 d)
def target:AV→Option (AFn×List AV×List AV)
 | .func f a b=>some (.func f,a,b)
 | .yield l=>some (.yield l,[],[])
 |_=>none
def j3(P:aK)(e:Env):AOp→Bool
 | .call f _| .aI _ f _=>match f with| .f _=>true|f=>(match evO P e f with| .tuple []=>true|_=>false)
 |_=>true
def aM(H:Handler)(P:aK):List AI→List (Nat×Nat)→Fr→ASt→Option gW
 | [],_,fr,s=>some (.norm fr s)
 |i::rest,pd,fr,s=>
  match wanted fr.env i.gd with
  |none=>none
  |some false=>match j3 P fr.env i.op with|true=>aM H P rest (aG i.d pd) {fr with env:=dD fr.env i.d dX} s|false=>none
  |some true=>
   match i.op with
   | .pend z=>match i.d with|some d=>aM H P rest ((d,z.length)::aG i.d pd) {fr with env:=upd fr.env d .fZ} s|none=>none
   | .shut d sz x=>
    match i.d,eK (evO P fr.env x) with
    |none,some v=>if(cellsOf v).length=sz&&pd.any (fun p=>Nat.beq p.1 d&&Nat.beq p.2 sz) then aM H P rest (aG (some d) pd) {fr with env:=upd fr.env d (.a8 v 0)} s else none
    |_,_=>none
   | .defer f args=>
    match evO P fr.env f,cM (args.map (evO P fr.env)) with
    | .func g a b,some vs=>aM H P rest (aG i.d pd) {env:=dD fr.env i.d dX,ds:= .call g (a++vs++b)::fr.ds} s
    |_,_=>none
   | .panic x=>match evO P fr.env x with| .iface t v=>some (.pan (.iface t v) fr s)|_=>none
   | .aI st f args=>
    match evO P fr.env f,cM (args.map (evO P fr.env)) with
    | .func g a b,some vs=>
     match(!st&&isE s)||dM (a++vs++b),H.call (.func g) (a++vs++b) dE with
     |true,some (.ret v,s2)=>
      match gZ v with
      |some v=>match isE s2||bE v with|true=>aM H P rest (aG i.d pd) {fr with env:=dD fr.env i.d v} s|false=>none
      |none=>none
     |_,_=>none
    |_,_=>none
   | .call f args=>
    match target (evO P fr.env f),lP s (args.map (evO P fr.env)) with
    |some (g,a,b),some (vs,s1)=>
     match H.call g (a++vs++b) s1 with
     |some (.ret v,s2)=>aM H P rest (aG i.d pd) {fr with env:=dD fr.env i.d v} s2
     |some (.panic v,s2)=>some (.pan v fr s2)
     |none=>none
    |_,_=>none
   |op=>
    match aU P fr.env op with
    |some v=>aM H P rest (aG i.d pd) {fr with env:=dD fr.env i.d v} s
    |none=>
     match dV P fr.env s op with
     |some v=>aM H P rest (aG i.d pd) {fr with env:=dD fr.env i.d v} s
     |none=>
      match cA P fr.env s op with
      |some (v,s1)=>aM H P rest (aG i.d pd) {fr with env:=dD fr.env i.d v} s1
      |none=>none
structure CR where
 ex:cY
 fr:Fr
 s:ASt
def gQ(step:Fr→ASt→Option CR):Nat→Fr→ASt→Option CR
 |0,_,_=>none
 |n+1,fr,s=>
  match step fr s with
  |some r=>match r.ex with| .normal=>gQ step n r.fr r.s|_=>some r
  |none=>none
def m8(rd:Option Nat)(params:List Nat)(assign body:AC)(fr:Fr)(s:ASt):Option (Nat×List dC×ASt):=
 match rd with
 |none=>some (s.blks.length+1,[.mark s.blks.length],{s with blks:=s.blks++ [.z5,.loop {st:= .ready,pend:=none,env:=fr.env,dq:=s.blks.length,params,assign,body}]})
 |some r=>
  match s.blks[r]? with
  |some (.loop lp)=>some (s.blks.length,[],{s with blks:=s.blks++ [.loop {st:= .ready,pend:=none,env:=fr.env,dq:=lp.dq,params,assign,body}]})
  |_=>none
def wK(P:aK)(g:Nat):Bool:=(P.prim g).isNone&&(P.fn g).isSome
def wdt(g:Bool)(sz:Nat):Nat:=match g with|true=>sz|false=>1
def stR(P:aK)(e:Env)(i:AI):Option (Nat×Nat×Nat):=
 match i.op with
 | .store sz a _=>(match evO P e a with| .ptr l o=>some (l,o,sz)|_=>none)
 | .load agg sz a=>(match evO P e a with| .ptr l o=>some (l,o,wdt agg sz)|_=>none)
 |_=>none
def p0:Option (Nat×Nat×Nat)→Option (Nat×Nat×Nat)→Bool
 |some (l,o,n),some (l',o',n')=> !(Nat.beq l l')||Nat.ble (o+n) o'||Nat.ble (o'+n') o
 |_,_=>true
def djS(P:aK)(e:Env)(ops:List AI):Bool:=
 (List.range ops.length).all fun j=>(List.range j).all fun i=>
  match ops[i]?,ops[j]? with
  |some a,some b=>b.pre.contains i|| !(qF a b)||p0 (stR P e a) (stR P e b)
  |_,_=>true
def evC(H:Handler)(P:aK)(rd:Option Nat)(lf:Nat):AC→Fr→ASt→Option CR
 | .yJ ops,fr,s=>
  match aM H P ops [] fr s with
  |some (.norm fr' s')=>(match djS P fr'.env ops with|true=>some ⟨.normal,fr',s'⟩|false=>none)
  |_=>none
 | .skip,fr,s=>some ⟨.normal,fr,s⟩
 | .reg _ ops,fr,s=>
  match aM H P ops [] fr s with
  |some (.norm fr s)=>some ⟨.normal,fr,s⟩
  |some (.pan v fr s)=>some ⟨.panic v,fr,s⟩
  |none=>none
 | .seq a b,fr,s=>
  match evC H P rd lf a fr s with
  |some r=>match r.ex with| .normal=>evC H P rd lf b r.fr r.s|_=>some r
  |none=>none
 | .cond c t e,fr,s=>
  match evO P fr.env c with
  | .bool b=>match b with|true=>evC H P rd lf t fr s|false=>evC H P rd lf e fr s
  |_=>none
 | .block id b,fr,s=>
  match evC H P rd lf b fr s with
  |some r=>match r.ex with| .exit j=>(match Nat.beq j id with|true=>some ⟨.normal,r.fr,r.s⟩|false=>some r)|_=>some r
  |none=>none
 | .loop b,fr,s=>gQ (evC H P rd lf b) lf fr s
 | .exit id,fr,s=>some ⟨.exit id,fr,s⟩
 | .ret,fr,s=>some ⟨.ret,fr,s⟩
 | .scope b,fr,s=>evC H P rd lf b fr s
 | .pR f params assign body,fr,s=>
  match m8 rd params assign body fr s,evO P fr.env f with
  |some (l,mark,s1),.func g a b=>
   match wK P g,H.call (.func g) (a++ .yield l::b) s1 with
   |true,some (.ret _,s2)=>
    match s2.blks[l]? with
    |some (.loop lp)=>
     match lp.st with
     | .busy=>none
     |_=>some ⟨lp.pend.getD .normal,{fr with ds:=mark++fr.ds},{s2 with blks:=s2.blks.set l (.loop {lp with st:= .exhausted})}⟩
    |_=>none
   |true,some (.panic v,s2)=>some ⟨.panic v,{fr with ds:=mark++fr.ds},s2⟩
   |_,_=>none
  |_,_=>none
def fM(s:ASt)(l:Nat)(f:mN→mN):Option ASt:=
 match s.blks[l]? with
 |some (.loop lp)=>some {s with blks:=s.blks.set l (.loop (f lp))}
 |_=>none
def jL(s:ASt)(l:Nat):Option ASt:=
 match s.blks[l]? with
 |some (.loop lp)=>match lp.st with| .ready=>some {s with blks:=s.blks.set l (.loop {lp with st:= .busy})}|_=>none
 |_=>none
def jC(e:Env):List Nat→List AV→Env
 |p::ps,v::vs=>jC (upd e p v) ps vs
 |_,_=>e
def mH(H:Handler)(P:aK)(lf:Nat)(l:Nat)(args:List AV)(s:ASt):Option (jT×ASt):=
 match s.blks[l]? with
 |some (.loop lp)=>
  match decide (lp.st= .ready),decide (args.length=lp.params.length) with
  |true,true=>
   match evC H P (some l) lf lp.assign ⟨jC lp.env lp.params args,[]⟩ s with
   |some ⟨.normal,⟨e1,[]⟩,s1⟩=>
    match jL s1 l with
    |some s2=>
     match evC H P (some l) lf lp.body ⟨e1,[]⟩ s2 with
     |some ⟨ex,⟨_,[]⟩,s3⟩=>
      match ex with
      | .panic v=>some (.panic v,s3)
      | .normal=>match fM s3 l fun lp=>{lp with st:= .ready,pend:=none} with|some s4=>some (.ret (.bool true),s4)|none=>none
      |ex=>match fM s3 l fun lp=>{lp with st:= .done,pend:=some ex} with|some s4=>some (.ret (.bool false),s4)|none=>none
     |_=>none
    |none=>none
   |_=>none
  |_,_=>none
 |_=>none
def iU(H:Handler):List dC→DM→ASt→Option (DM×ASt)
 | [],m,s=>some (m,s)
 | .mark l::ds,m,s=>match s.blks[l]? with|some .z5=>iU H ds m {s with blks:=s.blks.set l .dead}|_=>none
 | .call f args::ds,m,s=>match H.dcall f args m s with|some (m,s)=>iU H ds m s|none=>none
def uN(P:aK)(e:Env)(s:ASt):ARV→Option AV
 | .tmp t=>some (e t)
 | .cell t agg sz=>dV P e s (.load agg sz (.t t))
def iN(P:aK)(e:Env)(s:ASt):List ARV→Option (List AV)
 | []=>some []
 |x::xs=>match uN P e s x,iN P e s xs with|some v,some vs=>some (v::vs)|_,_=>none
def cW(base:Nat):Option Nat→Bool
 |none=>false
 |some l=>decide (l<base)
def z3:Option Nat→Option Nat→Option Nat
 |none,b=>b
 |a,none=>a
 |some a,some b=>some (min a b)
def oS(base:Nat)(a b:Option Nat):Option Nat:=match cW base b with|true=>z3 a b|false=>a
def cK(s0:ASt)(d:Bool)(s:ASt):ASt:=
 match Nat.beq s.blks.length s0.blks.length with
 |true=>{s with lowB:=oS s0.blks.length s0.lowB s.lowB}
 |false=>
  match cW s0.blks.length s.lowB||d with
  |true=>{s with lowB:=z3 s0.lowB s.lowB}
  |false=>{s with blks:=s.blks.take s0.blks.length,lowB:=s0.lowB}
def yQ(s0:ASt)(d:Bool)(s:ASt):Bool:=Nat.beq s.blks.length s0.blks.length&& !(cW s0.blks.length s.lowT||d)
def eE(s0:ASt)(d:Bool)(s:ASt):ASt:=
 match Nat.beq s.toks.length s0.toks.length with
 |true=>{s with lowT:=oS s0.blks.length s0.lowT s.lowT}
 |false=>
  match yQ s0 d s with
  |true=>{s with toks:=s.toks.take s0.toks.length,lowT:=s0.lowT}
  |false=>{s with lowT:=z3 s0.lowT s.lowT}
def settle(s0:ASt)(v:AV)(s:ASt):AV×ASt:=
 match v with
 | .slice sz xs (.tok t)=>
  match decide (t<s0.toks.length) with
  |true=>(.slice sz xs (.tok t),eE s0 (fJ xs) (cK s0 (eN xs) s))
  |false=>
   match yQ s0 (fJ xs) (cK s0 (eN xs) s),s.toks[t]? with
   |true,some n=>
    match Nat.beq n xs.length with
    |true=>(.slice sz xs (.tok s0.toks.length),{cK s0 (eN xs) s with toks:=s.toks.take s0.toks.length++ [n],lowT:=s0.lowT})
    |false=>(.slice (szC sz xs) xs .no,eE s0 (fJ xs) (cK s0 (eN xs) s))
   |_,_=>(.slice (szC sz xs) xs .no,eE s0 (fJ xs) (cK s0 (eN xs) s))
 |v=>(v,eE s0 (toks v) (cK s0 (lV v) s))
def mA(s:ASt):List AV→Option (AV×ASt)
 | [.slice sz xs o]=>some (.slice sz xs o,s)
 | [v]=>xN s v
 |vs=>match lP s vs with|some (ws,s)=>some (.tuple ws,s)|none=>none
def lJ(args:List AV):Env:=fun i=>args.getD i dX
def aV(s:ASt):ASt:={s with lowB:=none,lowT:=none}
def wU(H:Handler)(P:aK)(lf:Nat)(f:AF)(args:List AV)(s:ASt):Option (jT×ASt):=
 match Nat.ble args.length f.nt with
 |false=>none
 |true=>
 match evC H P none lf f.body ⟨lJ args,[]⟩ (aV s) with
 |some ⟨ex,fr,s1⟩=>
  match(match ex with| .normal=>some DM.ret| .ret=>some DM.ret| .panic v=>some (DM.pan v)| .exit _=>none) with
  |some m=>
   match iU H fr.ds m s1 with
   |some (.pan v,s2)=>some (.panic v,eE s (toks v) (cK s (lV v) s2))
   |some (.ret,s2)=>
    match iN P fr.env s2 f.res with
    |some vs=>
     match mA s2 vs with
     |some (v,s3)=>match settle s v s3 with|(v,s4)=>some (.ret v,s4)
     |none=>none
    |none=>none
   |none=>none
  |none=>none
 |none=>none
inductive RC where
 |ret
 |pan (v:AV)
 |aBh
def jP(P:aK):List AI→Fr→RC→ASt→Option (Fr×RC×ASt)
 | [],fr,rc,s=>some (fr,rc,s)
 |i::rest,fr,rc,s=>
  match i.op,i.gd with
  | .u9,none=>
   match rc with
   | .pan v=>jP P rest {fr with env:=dD fr.env i.d v} .aBh s
   |rc=>jP P rest {fr with env:=dD fr.env i.d .a9} rc s
  |op,gd=>
   match wanted fr.env gd,aU P fr.env op with
   |some true,some v=>jP P rest {fr with env:=dD fr.env i.d v} rc s
   |_,_=>none
def aDb(ops:List AI):Bool:=ops.any fun i=>match i.op with| .u9=>true|_=>false
def evD(H:Handler)(P:aK)(lf:Nat):AC→Fr→RC→ASt→Option (cY×Fr×RC×ASt)
 | .reg draw ops,fr,rc,s=>
  match aDb ops with
  |true=>match draw,jP P ops fr rc s with|false,some (fr,rc,s)=>some (.normal,fr,rc,s)|_,_=>none
  |false=>match evC H P none lf (.reg draw ops) fr s with|some r=>some (r.ex,r.fr,rc,r.s)|none=>none
 | .seq a b,fr,rc,s=>
  match evD H P lf a fr rc s with
  |some (.normal,fr,rc,s)=>evD H P lf b fr rc s
  |r=>r
 | .cond c t e,fr,rc,s=>
  match evO P fr.env c with
  | .bool b=>match b with|true=>evD H P lf t fr rc s|false=>evD H P lf e fr rc s
  |_=>none
 |c,fr,rc,s=>match evC H P none lf c fr s with|some r=>some (r.ex,r.fr,rc,r.s)|none=>none
def aE5:DM→RC
 | .ret=> .ret
 | .pan v=> .pan v
def zC(H:Handler)(P:aK)(lf:Nat)(f:AF)(args:List AV)(m:DM)(s:ASt):Option (DM×ASt):=
 match Nat.ble args.length f.nt with
 |false=>none
 |true=>
 match evD H P lf f.body ⟨lJ args,[]⟩ (aE5 m) (aV s) with
 |some (ex,⟨_,[]⟩,rc,s1)=>
  match(match ex with| .normal=>true| .ret=>true|_=>false) with
  |true=>
   match f.res with
   | []=>
    match rc with
    | .pan v=>some (.pan v,eE s (toks v) (cK s (lV v) s1))
    |_=>some (.ret,eE s false (cK s false s1))
   |_=>none
  |false=>none
 |_=>none
def bZ(H:Handler):List (Nat×List AV)→Option (List AV)
 | []=>some []
 |(f,a)::r=>
  match dM a with
  |true=>
   match H.call (.func f) a dE with
   |some (.ret v,_)=>
    match gZ v with
    |some v=>match bE v with
     |true=>match bZ H r with|some vs=>some (v::vs)|none=>none
     |false=>none
    |none=>none
   |_=>none
  |false=>none
def eU(H:Handler)(p:Prim)(args:List AV)(s:ASt):Option (jT×ASt):=
 match dM args with
 |true=>
  match p.calls args with
  |some cs=>
   match bZ H cs with
   |some vs=>match p.fin args vs with
    |some v=>match bE v with|true=>some (.ret v,s)|false=>none
    |none=>none
   |none=>none
  |none=>none
 |false=>none
def cC(P:aK):Nat→Handler
 |0=>{call:=fun _ _ _=>none,dcall:=fun _ _ _ _=>none}
 |n+1=>
  {call:=fun g args s=>
    match g with
    | .func f=>
     match P.prim f with
     |some p=>eU (cC P n) p args s
     |none=>match P.fn f with|some af=>wU (cC P n) P n af args s|none=>none
    | .yield l=>mH (cC P n) P n l args s
   dcall:=fun f args m s=>match P.fn f with|some af=>zC (cC P n) P n af args m s|none=>none}
structure Hint where
 cb:List Nat:= []
 ps:List Nat:= []
 cp:List Nat:= []
 ap:List Nat:= []
 cs:List Nat:= []
 ls:List Nat:= []
def pN:Value→Option AV
 | .int k n=>if k.wrap n=n then some (.int k n) else none
 | .bool b=>some (.bool b)
 | .string s=>if s.size≤big then some (.str s.data.toList) else none
 | .slice none 0 0=>some (.slice 0 [] .full)
 | .pointer none=>some .cB
 | .map none=>some .cF
 | .nilFunc=>some .bQ
 | .nilIface=>some .a9
 |_=>none
def kF:List Value→Option (List AV)
 | []=>some []
 |v::vs=>match pN v,kF vs with|some x,some xs=>some (x::xs)|_,_=>none
def aAY:Value→Option AV
 | .agg cs=>match kF cs.toList with|some xs=>some (.agg xs)|none=>none
 |v=>pN v
def bD:Operand→Option aH
 | .tmp t=>some (.t t)
 | .const v=>(aAY v).map .c
 | .global g=>some (.g g)
 | .func f=>some (.f f)
def aDI(P:Program):Operand→Bool
 | .func g=>(P.funcs[g]?).isSome
 |_=>true
def j2:List Operand→Option (List aH)
 | []=>some []
 |x::xs=>match bD x,j2 xs with|some y,some ys=>some (y::ys)|_,_=>none
def iQ:Option Operand→Option (Option aH)
 |none=>some none
 |some x=>(bD x).map some
def fY(P:Program)(t:TypeId):Option Bool:=
 match P.underlying t with
 |some (.struct _)|some (.array _ _)=>some true
 |some _=>some false
 |none=>none
def zeroOf(P:Program)(t:TypeId):Option (List AV):=
 match(P.info? t).bind (·.zero) with
 |some (.agg cs)=>kF cs.toList
 |some v=>(pN v).map fun x=> [x]
 |none=>none
def zeroV(P:Program)(t:TypeId):Option AV:=
 match(P.info? t).bind (·.zero) with
 |some v=>aAY v
 |none=>none
def mD(P:Program):Nat→List Field→Option (List KK)
 |_,[]=>some []
 |i,f::fs=>
  match f.name != "_" &&f.offset==i,P.underlying f.type,mD P (i+1) fs with
  |true,some .bool,some r=>some (.bool::r)
  |true,some (.int _),some r=>some (.int::r)
  |true,some .string,some r=>some (.str::r)
  |_,_,_=>none
def zI(P:Program)(t:TypeId):Option KK:=
 match P.underlying t with
 |some .bool=>some .bool
 |some (.int _)=>some .int
 |some .string=>some .str
 |_=>none
def w8:NK→Operand→Bool
 | .ptr,.const (.pointer none)| .slice,.const (.slice none _ _)| .map,.const (.map none)| .func,.const .nilFunc| .iface,.const .nilIface=>true
 |_,_=>false
def eO(neg:Bool)(k:NK)(x y:Operand)(a b:aH):Option AOp:=
 match w8 k x,w8 k y with
 |true,_=>some (.aAP neg k b)
 |false,true=>some (.aAP neg k a)
 |_,_=>none
def pV(fs:Array Field)(P:Program):List (Nat×Operand)→Option (List (Nat×Nat×aH))
 | []=>some []
 |(i,x)::rest=>
  match fs[i]?,bD x,pV fs P rest with
  |some f,some y,some ys=>some ((f.offset,P.cellsOf f.type,y)::ys)
  |_,_,_=>none
def pT(esz:Nat):List (Nat×Operand)→Option (List (Nat×Nat×aH))
 | []=>some []
 |(i,x)::rest=>match bD x,pT esz rest with|some y,some ys=>some ((i*esz,esz,y)::ys)|_,_=>none
def pY:List (Nat×Operand)→Option (List (Nat×aH))
 | []=>some []
 |(i,x)::rest=>match bD x,pY rest with|some y,some ys=>some ((i,y)::ys)|_,_=>none
def aY(P:Program)(tk:Bool)(b:Builtin)(ts:Array TypeId)(args:List Operand):Option AOp:=
 match b,args with
 | .recover,[]=>some .u9
 | .len,[x]=>
  match(ts[0]?).bind P.underlying,bD x with
  |some .string,some x=>some (.jJ x)
  |some (.slice _),some x=>some (.j7 x)
  |some (.array n _),some _=>if n≤big then some (.aEd n) else none
  |_,_=>none
 | .append,[s,x]=>
  match(ts[0]?).bind P.underlying,(ts[1]?).bind P.underlying,bD s,bD x with
  |some (.slice e),some (.slice _),some s,some x=>if(zeroOf P e).map List.length=some (P.cellsOf e) then some (.append tk (P.cellsOf e) (P.bytesOf e) s x) else none
  |_,_,_,_=>none
 | .copy,[d,s]=>
  match(ts[0]?).bind P.underlying,(ts[1]?).bind P.underlying,bD d,bD s with
  |some (.slice e),some (.slice _),some d,some s=>match P.info? e with|some _=>some (.copy (P.cellsOf e) d s)|none=>none
  |_,_,_,_=>none
 | .max,[x,y]=>match(ts[0]?).bind P.underlying,j2 [x,y] with|some (.int _),some xs=>some (.sU true xs)|_,_=>none
 | .min,[x,y]=>match(ts[0]?).bind P.underlying,j2 [x,y] with|some (.int _),some xs=>some (.sU false xs)|_,_=>none
 |_,_=>none
def aZ(P:Program)(h:Hint)(d:Option Nat):Op→Option AOp
 | .move x| .assign x=>(bD x).map .mv
 | .pick c a b=>match bD c,bD a,bD b with|some c,some a,some b=>some (.pick c a b)|_,_,_=>none
 | .alloc t=>
  match zeroOf P t with
  |some z=>some (if d.any h.ps.contains then .pend z else if d.any h.cb.contains then .n8 (.c (match z with| [x]=>(match fY P t with|some false=>x|_=> .agg z)|_=> .agg z)) else .alloc z)
  |none=>none
 | .box _ x=>match bD x with|some x=>some (if d.any h.cb.contains then .n8 x else .box x)|none=>none
 | .build t parts=>
  match zeroOf P t,P.underlying t with
  |some z,some (.struct fs)=>if fs.toList.all fun f=>(P.info? f.type).isSome then(pV fs P parts.toList).map (.build z) else none
  |some z,some (.array _ e)=>if(P.info? e).isSome then(pT (P.cellsOf e) parts.toList).map (.build z) else none
  |_,_=>none
 | .buildSlice t n parts=>
  match P.underlying t with
  |some (.slice e)=>match zeroOf P e,pY parts.toList with|some z,some ps=>if z.length=P.cellsOf e∧0<z.length then some (if d.any h.ls.contains then .rG (P.cellsOf e) n z ps else .gO (P.cellsOf e) n z ps) else none|_,_=>none
  |_=>none
 | .load t a=>match fY P t,bD a with|some b,some a=>some (.load b (P.cellsOf t) a)|_,_=>none
 | .store t a v=>
  match P.info? t,bD a,bD v with
  |some _,some a,some v=>some (match a with| .t i=>if h.ps.contains i then .shut i (P.cellsOf t) v else .store (P.cellsOf t) a v|a=> .store (P.cellsOf t) a v)
  |_,_,_=>none
 | .nilCheck x=>(bD x).map .aAJ
 | .binOp op t x y _=>
  match bD x,bD y with
  |some a,some b=>
   match op with
   | .eql| .neq=>
    match P.underlying t with
    |some (.int _)|some .string=>some (.bin op a b)
    |some .bool=>some (.eq (op matches .neq) a b)
    |some (.pointer _)=>eO (op matches .neq) .ptr x y a b
    |some (.slice _)=>eO (op matches .neq) .slice x y a b
    |some (.map _ _)=>eO (op matches .neq) .map x y a b
    |some (.func ..)=>eO (op matches .neq) .func x y a b
    |some (.interface _)=>eO (op matches .neq) .iface x y a b
    |some (.struct fs)=>if P.stoodInHeld t||P.eqGuardType P.depth t then none else(mD P 0 fs.toList).map fun ks=> .eqF (op matches .neq) ks a b
    |_=>none
   |_=>some (.bin op a b)
  |_,_=>none
 | .unOp op _ x=>(bD x).map (.un op)
 | .convert s t x=>
  match P.underlying s,P.underlying t,bD x with
  |some (.int _),some (.int k),some x=>some (.toInt k x)
  |some .string,some .string,some x=>some (.rW x none none)
  |_,_,_=>none
 | .makeInterface t x=>match P.underlying t,bD x with|some (.interface _),_=>none|some _,some x=>some (.w9 t x)|_,_=>none
 | .makeFunc (.func f) a b=>match j2 a.toList,j2 b.toList with|some a,some b=>some (.sV f a b)|_,_=>none
 | .makeMap _ none=>some .mkMap
 | .makeSlice t l c=>match P.underlying t,bD l,bD c with|some (.slice e),some l,some c=>(match zeroOf P e with|some z=>if z.length=P.cellsOf e then some (.mkSlice (P.cellsOf e) (P.bytesOf e) z l c) else none|none=>none)|_,_,_=>none
 | .slice t x l u m=>
  match P.underlying t,bD x,iQ l,iQ u,iQ m with
  |some (.slice e),some x,some l,some u,some m=>if(P.underlying e).isSome then some (.zF (P.cellsOf e) x l u m) else none
  |some .string,some x,some l,some u,some none=>some (.rW x l u)
  |some (.array n e),some x,some l,some u,some none=>if(P.underlying e).isSome&&n≤big then some (.aDj n (P.cellsOf e) x l u) else none
  |_,_,_,_,_=>none
 | .fieldAddr s x f=>
  match P.underlying s,bD x with
  |some (.struct fs),some x=>match fs[f]? with|some f=>if P.cellsOf f.type=0 then none else some (.bO f.offset x)|none=>none
  |_,_=>none
 | .field s x f=>
  match P.underlying s,bD x with
  |some (.struct fs),some x=>match fs[f]? with|some f=>(fY P f.type).map fun b=> .field b f.offset (P.cellsOf f.type) x|none=>none
  |_,_=>none
 | .indexAddr t x i=>
  match P.underlying t,bD x,bD i with
  |some (.slice e),some x,some i=>if(P.underlying e).isSome then some (.hN (P.cellsOf e) x i) else none
  |some (.array n e),some x,some i=>if(P.underlying e).isSome then some (.aEP n (P.cellsOf e) x i) else none
  |_,_,_=>none
 | .index t x i=>match P.underlying t,bD x,bD i with|some .string,some x,some i=>some (.lB x i)|some (.array n e),some x,some i=>(fY P e).map fun ag=> .aEf n (P.cellsOf e) ag x i|_,_,_=>none
 | .lookup t m k ok=>
  match P.underlying t,bD m,bD k with
  |some (.map kt e),some m,some k=>match zI P kt,zeroV P e with|some kk,some z=>some (.lookup ok kk z m k)|_,_=>none
  |_,_,_=>none
 | .mapUpdate t m k v| .insert t m k v=>
  match P.underlying t,bD m,bD k,bD v with
  |some (.map kt _),some m,some k,some v=>(zI P kt).map fun kk=> .kC kk m k v
  |_,_,_,_=>none
 | .range t x=>match P.underlying t,bD x with|some .string,some x=>some (.gH x)|_,_=>none
 | .next x true=>(bD x).map .iE
 | .typeAssert x _ t ok=>
  match P.underlying t,bD x,zeroV P t with
  |some (.interface _),_,_=>none
  |some _,some x,some z=>some (.assert ok t z x)
  |_,_,_=>none
 | .extract x i=>(bD x).map fun x=> .extract x i
 | .call c=>
  match c.callee with
  | .builtin b=>aY P (d.any h.ap.contains) b c.argTypes c.args.toList
  | .value f=>match aDI P f,bD f,j2 c.args.toList with|true,some f,some xs=>some (if d.any h.cs.contains then .aI true f xs else if d.any h.cp.contains then .aI false f xs else .call f xs)|_,_,_=>none
  | .invoke .. =>none
 | .defer c=>match c.callee with| .value f=>(match bD f,j2 c.args.toList with|some f,some xs=>some (.defer f xs)|_,_=>none)|_=>none
 | .panic x=>(bD x).map .panic
 |_=>none
def vN(ops:List Oper):List (List Nat):=
 ops.foldl (fun acc o=>acc++ [((o.after.toList.filter (Region.binds .any)).flatMap fun e=>e.on::acc.getD e.on []).eraseDups]) []
def oK(P:Program)(h:Hint)(draw:Bool)(all:Array Oper)(pre:List (List Nat)):Nat→List Oper→Option (List AI)
 |_,[]=>some []
 |i,o::rest=>
  match oK P h draw all pre (i+1) rest,(match o.guard with|none=>some none|some (j,b)=>match(all[j]?).bind (·.dst) with|some t=>some (some (t,b))|none=>none) with
  |some is,some g=>some ({d:=o.dst,op:=(aZ P h o.dst o.op).getD .bad,gd:=g,pre:=if draw then(pre.getD i []).eraseDups else []}::is)
  |_,_=>none
def rC:Nat→List Oper→Bool
 |_,[]=>true
 |i,o::rest=>o.after.all (fun e=> !Region.binds .any e||Nat.blt e.on i)&&rC (i+1) rest
def bJ(P:Program)(h:Hint):Code→Option AC
 | .skip=>some .skip
 | .region _ ops draw=>if draw&& !rC 0 ops.toList then none else(oK P h draw ops (if draw then vN ops.toList else []) 0 ops.toList).map fun l=>if draw&&loose l then .yJ l else .reg draw l
 | .seq a b=>match bJ P h a,bJ P h b with|some a,some b=>some (.seq a b)|_,_=>none
 | .cond c a b=>match bD c,bJ P h a,bJ P h b with|some c,some a,some b=>some (.cond c a b)|_,_,_=>none
 | .block id b=>(bJ P h b).map (.block id)
 | .loop b=>(bJ P h b).map .loop
 | .rangeFunc f ps a b=>match bD f,bJ P h a,bJ P h b with|some f,some a,some b=>some (.pR f ps.toList a b)|_,_,_=>none
 | .exit id=>some (.exit id)
 | .ret=>some .ret
 | .scope b=>(bJ P h b).map .scope
 | .label _=>some .skip
 |_=>none
def jX(P:Program):List ResultVar→Option (List ARV)
 | []=>some []
 | .tmp t::rs=>(jX P rs).map (.tmp t:: ·)
 | .cell a t::rs=>match fY P t,jX P rs with|some b,some xs=>some (.cell a b (P.cellsOf t)::xs)|_,_=>none
def mP(P:Program)(h:Hint)(f:Func):Option AF:=
 match f.body.bind (bJ P h),jX P f.results.toList with
 |some b,some r=>some {np:=f.params.size+f.nfree,nt:=f.ntmps,res:=r,body:=b}
 |_,_=>none
end Go.Fw
set_option maxRecDepth 100000
namespace Go.Proofs.Ytfcfnkffgiklpaa.Code
open Go Go.Fw
abbrev o(d:Nat)(x:AOp):AI:=⟨some d,x,none,[]⟩
abbrev g(d n:Nat)(b:Bool)(x:AOp):AI:=⟨some d,x,some (n,b),[]⟩
abbrev p(d:Nat)(l:List Nat)(x:AOp):AI:=⟨some d,x,none,l⟩
noncomputable def ck(h:Hint)(f:Func):AF:=(mP Try.prog h f).getD ⟨0,0,[],.skip⟩
abbrev hz:Hint:=⟨[],[],[],[],[],[]⟩
noncomputable def cD(k:Nat)(h:Hint):AF:=match Try.prog.funcs[k]? with|some fn=>ck h fn|none=>⟨0,0,[],.skip⟩
def c3:AF:=⟨4,111,[.tmp 8],
 (.seq (.reg false [o 5 (.n8 (.t 1)),o 8 (.mv (.c (.bool false)))]) (.seq (.seq (.reg false [o 21 (.mv (.t 0)),o 22 (.aI false (.f 5) [(.t 21)]),o 23 (.mv (.t 22)),g 24 23 false (.bO 0 (.t 5)),g 25 23 false (.load false 1 (.t 24)),g 26 23 false (.jJ (.t 25)),
 g 27 23 false (.bin .gtr (.t 26) (.c (.int .i64 100))),o 28 (.pick (.t 23) (.c (.bool true)) (.t 27)),o 29 (.mv (.t 28)),g 30 29 false (.mv (.t 2)),g 31 29 false (.jJ (.t 30)),
 g 32 29 false (.bin .gtr (.t 31) (.c (.int .i64 100))),o 33 (.pick (.t 29) (.c (.bool true)) (.t 32))]) (.cond (.t 33) (.seq (.reg false [o 34 (.aI false (.f 6) []),o 8 (.mv (.t 34))]) (.ret)) (.skip))) (.seq (.reg false [o 36 (.mv (.t 0)),o 37 (.load true 3 (.t 5)),o 38 (.aI false (.f 7) [(.t 36),(.t 37)]),o 35 (.mv (.t 38)),o 39 (.extract (.t 35) 0),o 40 (.extract (.t 35) 1),o 9 (.mv (.t 39)),
 o 10 (.mv (.t 40))]) (.seq (.reg false [o 42 (.mv (.t 0)),o 43 (.load true 3 (.t 5)),o 44 (.aI false (.f 8) [(.t 42),(.t 43)]),o 41 (.mv (.t 44)),o 45 (.extract (.t 41) 0),o 46 (.extract (.t 41) 1),o 11 (.mv (.t 45)),
 o 12 (.mv (.t 46))]) (.seq (.reg false [o 48 (.mv (.t 0)),o 49 (.mv (.t 2)),o 50 (.aI false (.f 9) [(.t 48),(.t 49)]),o 47 (.mv (.t 50)),o 51 (.extract (.t 47) 0),o 52 (.extract (.t 47) 1),o 13 (.mv (.t 51)),
 o 14 (.mv (.t 52))]) (.seq (.reg false [o 54 (.mv (.t 0)),o 55 (.mv (.t 2)),o 56 (.aI false (.f 10) [(.t 54),(.t 55)]),o 53 (.mv (.t 56)),o 57 (.extract (.t 53) 0),o 58 (.extract (.t 53) 1),o 15 (.mv (.t 57)),
 o 16 (.mv (.t 58))]) (.seq (.reg false [o 60 (.mv (.t 0)),o 61 (.mv (.t 2)),o 62 (.mv (.t 3)),o 63 (.aI false (.f 11) [(.t 60),(.t 61),(.t 62)]),o 59 (.mv (.t 63)),o 64 (.extract (.t 59) 0),o 65 (.extract (.t 59) 1),
 o 17 (.pend [(.str []),(.int .i64 0),(.int .i64 0)]),⟨none,.shut 17 3 (.t 64),none,[]⟩,o 18 (.mv (.t 65))]) (.seq (.reg false [o 67 (.mv (.t 0)),o 68 (.mv (.t 2)),o 69 (.mv (.t 3)),o 70 (.aI false (.f 12) [(.t 67),(.t 68),(.t 69)]),o 66 (.mv (.t 70)),o 71 (.extract (.t 66) 0),o 72 (.extract (.t 66) 1),
 o 19 (.pend [(.str []),(.int .i64 0),(.int .i64 0)]),⟨none,.shut 19 3 (.t 71),none,[]⟩,o 20 (.mv (.t 72))]) (.seq (.reg false [o 73 (.mv (.t 0)),o 74 (.aI false (.f 13) [(.t 73)]),o 75 (.mv (.t 0)),o 76 (.aI false (.f 14) [(.t 75)]),o 77 (.bin .eql (.t 74) (.t 76)),o 78 (.mv (.t 77)),g 79 78 true (.mv (.t 9)),
 g 80 78 true (.mv (.t 11)),g 81 78 true (.aI false (.f 15) [(.t 79),(.t 80)]),o 82 (.pick (.t 78) (.t 81) (.c (.bool false))),o 83 (.mv (.t 82)),g 84 83 true (.mv (.t 10)),
 g 85 83 true (.mv (.t 12)),g 86 83 true (.bin .eql (.t 84) (.t 85)),o 87 (.pick (.t 83) (.t 86) (.c (.bool false))),o 88 (.mv (.t 87)),g 89 88 true (.mv (.t 13)),g 90 88 true (.mv (.t 15)),
 g 91 88 true (.aI false (.f 15) [(.t 89),(.t 90)]),o 92 (.pick (.t 88) (.t 91) (.c (.bool false))),o 93 (.mv (.t 92)),g 94 93 true (.mv (.t 14)),g 95 93 true (.mv (.t 16)),
 g 96 93 true (.bin .eql (.t 94) (.t 95)),o 97 (.pick (.t 93) (.t 96) (.c (.bool false))),o 98 (.mv (.t 97)),g 99 98 true (.load true 3 (.t 17)),g 100 98 true (.load true 3 (.t 19)),
 g 101 98 true (.eqF false [.str,.int,.int] (.t 99) (.t 100)),o 102 (.pick (.t 98) (.t 101) (.c (.bool false))),o 103 (.mv (.t 102)),g 104 103 true (.mv (.t 18)),g 105 103 true (.mv (.t 20)),
 g 106 103 true (.bin .eql (.t 104) (.t 105)),o 107 (.pick (.t 103) (.t 106) (.c (.bool false))),o 108 (.mv (.t 107)),g 109 108 true (.aI false (.f 6) []),o 110 (.pick (.t 108) (.t 109) (.c (.bool false))),
 o 8 (.mv (.t 110))]) (.ret))))))))))⟩
def c4:AF:=⟨3,145,[.tmp 6],
 (.seq (.reg false [o 4 (.n8 (.t 1)),o 6 (.mv (.c (.bool false)))]) (.seq (.seq (.reg false [o 19 (.mv (.t 0)),o 20 (.aI false (.f 5) [(.t 19)]),o 21 (.mv (.t 20)),g 22 21 false (.bO 0 (.t 4)),g 23 21 false (.load false 1 (.t 22)),g 24 21 false (.jJ (.t 23)),
 g 25 21 false (.bin .gtr (.t 24) (.c (.int .i64 100))),o 26 (.pick (.t 21) (.c (.bool true)) (.t 25)),o 27 (.mv (.t 26)),g 28 27 false (.mv (.t 2)),g 29 27 false (.jJ (.t 28)),
 g 30 27 false (.bin .gtr (.t 29) (.c (.int .i64 100))),o 31 (.pick (.t 27) (.c (.bool true)) (.t 30)),o 32 (.mv (.t 31)),g 33 32 false (.mv (.t 0)),g 34 32 false (.aI false (.f 14) [(.t 33)]),
 g 35 32 false (.bin .neq (.t 34) (.c (.int .i64 0))),o 36 (.pick (.t 32) (.c (.bool true)) (.t 35))]) (.cond (.t 36) (.seq (.reg false [o 37 (.aI false (.f 6) []),o 6 (.mv (.t 37))]) (.ret)) (.skip))) (.seq (.reg false [o 39 (.mv (.t 0)),o 40 (.load true 3 (.t 4)),o 41 (.aI false (.f 7) [(.t 39),(.t 40)]),o 38 (.mv (.t 41)),o 42 (.extract (.t 38) 0),o 43 (.extract (.t 38) 1),o 7 (.mv (.t 42)),
 o 8 (.mv (.t 43))]) (.seq (.seq (.reg false [o 44 (.mv (.t 8)),o 45 (.bin .neq (.t 44) (.c (.int .i64 0)))]) (.cond (.t 45) (.seq (.reg false [o 46 (.mv (.t 7)),o 47 (.j7 (.t 46)),o 48 (.bin .eql (.t 47) (.c (.int .i64 0))),o 49 (.mv (.t 48)),g 50 49 true (.aI false (.f 6) []),o 51 (.pick (.t 49) (.t 50) (.c (.bool false))),
 o 6 (.mv (.t 51))]) (.ret)) (.skip))) (.seq (.reg false [o 53 (.mv (.t 7)),o 54 (.bO 0 (.t 4)),o 55 (.load false 1 (.t 54)),o 56 (.bO 1 (.t 4)),o 57 (.load false 1 (.t 56)),o 58 (.aI false (.f 11) [(.t 53),(.t 55),(.t 57)]),
 o 52 (.mv (.t 58)),o 59 (.extract (.t 52) 0),o 60 (.extract (.t 52) 1),o 9 (.pend [(.str []),(.int .i64 0),(.int .i64 0)]),⟨none,.shut 9 3 (.t 59),none,[]⟩,o 10 (.mv (.t 60))]) (.seq (.seq (.reg false [o 61 (.mv (.t 10)),o 62 (.bin .neq (.t 61) (.c (.int .i64 0))),o 63 (.mv (.t 62)),g 64 63 false (.load true 3 (.t 9)),g 65 63 false (.load true 3 (.t 4)),g 66 63 false (.eqF true [.str,.int,.int] (.t 64) (.t 65)),
 o 67 (.pick (.t 63) (.c (.bool true)) (.t 66)),o 68 (.mv (.t 67)),g 69 68 false (.mv (.t 7)),g 70 68 false (.j7 (.t 69)),g 71 68 false (.mv (.t 0)),g 72 68 false (.j7 (.t 71)),
 g 73 68 false (.bin .add (.t 72) (.c (.int .i64 1))),g 74 68 false (.bin .neq (.t 70) (.t 73)),o 75 (.pick (.t 68) (.c (.bool true)) (.t 74)),o 76 (.mv (.t 75)),g 77 76 false (.mv (.t 7)),
 g 78 76 false (.aI false (.f 13) [(.t 77)]),g 79 76 false (.bin .neq (.t 78) (.c (.int .i64 0))),o 80 (.pick (.t 76) (.c (.bool true)) (.t 79))]) (.cond (.t 80) (.seq (.reg false [o 6 (.mv (.c (.bool false)))]) (.ret)) (.skip))) (.seq (.seq (.reg false [o 81 (.bO 1 (.t 4)),o 82 (.load false 1 (.t 81)),o 83 (.bin .eql (.t 82) (.c (.int .i64 0)))]) (.cond (.t 83) (.seq (.reg false [o 85 (.mv (.t 7)),o 86 (.bO 0 (.t 4)),o 87 (.load false 1 (.t 86)),o 88 (.aI false (.f 9) [(.t 85),(.t 87)]),o 84 (.mv (.t 88)),o 89 (.extract (.t 84) 0),o 90 (.extract (.t 84) 1),
 o 11 (.mv (.t 89)),o 12 (.mv (.t 90))]) (.seq (.reg false [o 91 (.mv (.t 12)),o 92 (.bin .neq (.t 91) (.c (.int .i64 0))),o 93 (.mv (.t 92)),g 94 93 false (.mv (.t 11)),g 95 93 false (.mv (.t 0)),g 96 93 false (.aI false (.f 15) [(.t 94),(.t 95)]),
 g 97 93 false (.un .not (.t 96)),o 98 (.pick (.t 93) (.c (.bool true)) (.t 97))]) (.cond (.t 98) (.seq (.reg false [o 6 (.mv (.c (.bool false)))]) (.ret)) (.skip)))) (.skip))) (.seq (.seq (.reg false [o 99 (.mv (.t 2)),o 100 (.bO 0 (.t 4)),o 101 (.load false 1 (.t 100)),o 102 (.bin .eql (.t 99) (.t 101)),o 103 (.mv (.t 102)),g 104 103 false (.mv (.t 2)),g 105 103 false (.aI false (.f 16) [(.t 104)]),
 g 106 103 false (.un .not (.t 105)),o 107 (.pick (.t 103) (.c (.bool true)) (.t 106))]) (.cond (.t 107) (.seq (.reg false [o 108 (.aI false (.f 6) []),o 6 (.mv (.t 108))]) (.ret)) (.skip))) (.seq (.reg false [o 110 (.mv (.t 7)),o 111 (.mv (.t 2)),o 112 (.aI false (.f 9) [(.t 110),(.t 111)]),o 109 (.mv (.t 112)),o 113 (.extract (.t 109) 0),o 114 (.extract (.t 109) 1),o 13 (.mv (.t 113)),
 o 14 (.mv (.t 114))]) (.seq (.reg false [o 116 (.mv (.t 0)),o 117 (.mv (.t 2)),o 118 (.aI false (.f 9) [(.t 116),(.t 117)]),o 115 (.mv (.t 118)),o 119 (.extract (.t 115) 0),o 120 (.extract (.t 115) 1),o 15 (.mv (.t 119)),
 o 16 (.mv (.t 120))]) (.seq (.reg false [o 122 (.mv (.t 15)),o 123 (.load true 3 (.t 4)),o 124 (.aI false (.f 7) [(.t 122),(.t 123)]),o 121 (.mv (.t 124)),o 125 (.extract (.t 121) 0),o 126 (.extract (.t 121) 1),
 o 17 (.mv (.t 125)),o 18 (.mv (.t 126))]) (.seq (.reg false [o 127 (.mv (.t 14)),o 128 (.bin .eql (.t 127) (.c (.int .i64 0))),o 129 (.mv (.t 128)),g 130 129 true (.mv (.t 16)),g 131 129 true (.bin .eql (.t 130) (.c (.int .i64 0))),
 o 132 (.pick (.t 129) (.t 131) (.c (.bool false))),o 133 (.mv (.t 132)),g 134 133 true (.mv (.t 18)),g 135 133 true (.bin .eql (.t 134) (.c (.int .i64 0))),o 136 (.pick (.t 133) (.t 135) (.c (.bool false))),
 o 137 (.mv (.t 136)),g 138 137 true (.mv (.t 13)),g 139 137 true (.mv (.t 17)),g 140 137 true (.aI false (.f 15) [(.t 138),(.t 139)]),o 141 (.pick (.t 137) (.t 140) (.c (.bool false))),
 o 142 (.mv (.t 141)),g 143 142 true (.aI false (.f 6) []),o 144 (.pick (.t 142) (.t 143) (.c (.bool false))),o 6 (.mv (.t 144))]) (.ret)))))))))))))⟩
def aFb:AC:= .loop (.seq (.seq (.reg false [o 7<|.mv<|.t 3,o 8<|.mv<|.t 0,o 9<|.j7<|.t 8,o 10<|.bin .lss (.t 7)<|.t 9])<|.cond (.t 10) (.skip)<|.exit 0)<|.seq (.block 1<|.seq (.reg false [o 13<|.mv<|.t 0,o 14<|.mv<|.t 3,o 15<|.hN 3 (.t 13)<|.t 14,o 16<|.bO 0<|.t 15,o 17<|.load false 1<|.t 16,o 18<|.jJ<|.t 17,o 19<|.bin .gtr (.t 18)<|.c<|.int .i64 100])<|.cond (.t 19) (.seq (.reg false [o 2<|.mv<|.c<|.bool true])<|.ret)<|.skip)<|.reg false [o 11<|.mv<|.t 3,o 12<|.bin .add (.t 11)<|.c<|.int .i64 1,o 3<|.mv<|.t 12])
def c5:AF:=⟨1,20,[.tmp 2],
 (.seq (.reg false [o 2 (.mv (.c (.bool false)))]) (.seq (.seq (.reg false [o 4 (.mv (.t 0)),o 5 (.j7 (.t 4)),o 6 (.bin .gtr (.t 5) (.c (.int .i64 300)))]) (.cond (.t 6) (.seq (.reg false [o 2 (.mv (.c (.bool true)))]) (.ret)) (.skip))) (.seq (.seq (.reg false [o 3 (.mv (.c (.int .i64 0)))]) (.block 0 (aFb))) (.seq (.reg false [o 2 (.mv (.c (.bool false)))]) (.ret)))))⟩
def c6:AF:=⟨0,56,[.tmp 0],
 (.seq (.reg false [o 0 (.mv (.c (.bool false)))]) (.seq (.reg false [o 1 (.mv (.f 17))]) (.seq (.reg false [o 9 (.mv (.t 1)),o 10 (.aI false (.t 9) [(.c (.str [69])),(.c (.int .i64 0)),(.c (.int .i64 1))]),o 11 (.mv (.t 1)),o 12 (.aI false (.t 11) [(.c (.str [70])),(.c (.int .i64 0)),(.c (.int .i64 0))]),
 o 13 (.gO 3 2 [(.str []),(.int .i64 0),(.int .i64 0)] [(0,(.t 10)),(1,(.t 12))]),o 14 (.mv (.t 1)),o 15 (.aI false (.t 14) [(.c (.str [69])),(.c (.int .i64 0)),(.c (.int .i64 2))]),
 o 16 (.aI false (.f 7) [(.t 13),(.t 15)]),o 8 (.mv (.t 16)),o 17 (.extract (.t 8) 0),o 18 (.extract (.t 8) 1),o 2 (.mv (.t 17)),o 3 (.mv (.t 18))]) (.seq (.reg false [o 20 (.mv (.t 2)),o 21 (.aI false (.f 11) [(.t 20),(.c (.str [69])),(.c (.int .i64 0))]),o 19 (.mv (.t 21)),o 22 (.extract (.t 19) 0),o 23 (.extract (.t 19) 1),o 4 (.pend [(.str []),(.int .i64 0),(.int .i64 0)]),
 ⟨none,.shut 4 3 (.t 22),none,[]⟩,o 5 (.mv (.t 23))]) (.seq (.reg false [o 25 (.mv (.t 2)),o 26 (.aI false (.f 11) [(.t 25),(.c (.str [69])),(.c (.int .i64 3))]),o 24 (.mv (.t 26)),o 27 (.extract (.t 24) 0),o 28 (.extract (.t 24) 1),o 6 (.pend [(.str []),(.int .i64 0),(.int .i64 0)]),
 ⟨none,.shut 6 3 (.t 27),none,[]⟩,o 7 (.mv (.t 28))]) (.seq (.reg true [o 29 (.mv (.t 3)),p 30 [0] (.bin .eql (.t 29) (.c (.int .i64 0))),p 31 [1,0] (.mv (.t 30)),⟨some 32,.mv (.t 2),some (31,true),[2,1,0]⟩,⟨some 33,.mv (.t 1),some (31,true),[2,1,0]⟩,
 ⟨some 34,.aI true (.t 33) [(.c (.str [69])),(.c (.int .i64 0)),(.c (.int .i64 2))],some (31,true),[4,2,1,0]⟩,⟨some 35,.mv (.t 1),some (31,true),[2,1,0]⟩,
 ⟨some 36,.aI true (.t 35) [(.c (.str [69])),(.c (.int .i64 0)),(.c (.int .i64 1))],some (31,true),[6,2,1,0,5,4]⟩,⟨some 37,.mv (.t 1),some (31,true),[2,1,0]⟩,
 ⟨some 38,.aI true (.t 37) [(.c (.str [70])),(.c (.int .i64 0)),(.c (.int .i64 0))],some (31,true),[8,2,1,0,7,6,5,4]⟩,⟨some 39,.gO 3 3 [(.str []),(.int .i64 0),(.int .i64 0)] [(0,(.t 34)),(1,(.t 36)),(2,(.t 38))],some (31,true),[5,4,2,1,0,7,6,9,8]⟩,
 ⟨some 40,.aI false (.f 15) [(.t 32),(.t 39)],some (31,true),[3,2,1,0,10,5,4,7,6,9,8]⟩,p 41 [2,1,0,11,3,10,5,4,7,6,9,8] (.pick (.t 31) (.t 40) (.c (.bool false))),
 p 42 [12,2,1,0,11,3,10,5,4,7,6,9,8] (.mv (.t 41)),⟨some 43,.mv (.t 5),some (42,true),[13,12,2,1,0,11,3,10,5,4,7,6,9,8]⟩,⟨some 44,.bin .eql (.t 43) (.c (.int .i64 0)),some (42,true),[14,13,12,2,1,0,11,3,10,5,4,7,6,9,8]⟩,
 p 45 [13,12,2,1,0,11,3,10,5,4,7,6,9,8,15,14] (.pick (.t 42) (.t 44) (.c (.bool false))),p 46 [16,13,12,2,1,0,11,3,10,5,4,7,6,9,8,15,14] (.mv (.t 45)),
 ⟨some 47,.load true 3 (.t 4),some (46,true),[17,16,13,12,2,1,0,11,3,10,5,4,7,6,9,8,15,14]⟩,⟨some 48,.mv (.t 1),some (46,true),[17,16,13,12,2,1,0,11,3,10,5,4,7,6,9,8,15,14]⟩,
 ⟨some 49,.aI true (.t 48) [(.c (.str [69])),(.c (.int .i64 0)),(.c (.int .i64 2))],some (46,true),[19,17,16,13,12,2,1,0,11,3,10,5,4,7,6,9,8,15,14]⟩,
 ⟨some 50,.eqF false [.str,.int,.int] (.t 47) (.t 49),some (46,true),[18,17,16,13,12,2,1,0,11,3,10,5,4,7,6,9,8,15,14,20,19]⟩,p 51 [17,16,13,12,2,1,0,11,3,10,5,4,7,6,9,8,15,14,21,18,20,19] (.pick (.t 46) (.t 50) (.c (.bool false))),
 p 52 [22,17,16,13,12,2,1,0,11,3,10,5,4,7,6,9,8,15,14,21,18,20,19] (.mv (.t 51)),⟨some 53,.mv (.t 7),some (52,true),[23,22,17,16,13,12,2,1,0,11,3,10,5,4,7,6,9,8,15,14,21,18,20,19]⟩,
 ⟨some 54,.bin .eql (.t 53) (.c (.int .i64 6)),some (52,true),[24,23,22,17,16,13,12,2,1,0,11,3,10,5,4,7,6,9,8,15,14,21,18,20,19]⟩,p 55 [23,22,17,16,13,12,2,1,0,11,3,10,5,4,7,6,9,8,15,14,21,18,20,19,25,24] (.pick (.t 52) (.t 54) (.c (.bool false))),
 p 0 [26,23,22,17,16,13,12,2,1,0,11,3,10,5,4,7,6,9,8,15,14,21,18,20,19,25,24] (.mv (.t 55))]) (.ret)))))))⟩
def c7:AF:=⟨2,23,[.tmp 4,.tmp 5],
 (.seq (.reg false [o 3 (.n8 (.t 1)),o 4 (.mv (.c (.slice 0 [] .full))),o 5 (.mv (.c (.int .i64 0)))]) (.seq (.seq (.reg false [o 9 (.mv (.t 0)),o 10 (.aI false (.f 13) [(.t 9)]),o 6 (.mv (.t 10))]) (.seq (.reg false [o 11 (.mv (.t 6)),o 12 (.bin .neq (.t 11) (.c (.int .i64 0)))]) (.cond (.t 12) (.seq (.reg false [o 13 (.mv (.t 6)),o 4 (.mv (.c (.slice 0 [] .full))),o 5 (.mv (.t 13))]) (.ret)) (.skip)))) (.seq (.reg false [o 14 (.mv (.t 0)),o 15 (.load true 3 (.t 3)),o 16 (.aI false (.f 18) [(.t 14),(.t 15)]),o 7 (.mv (.t 16))]) (.seq (.seq (.reg false [o 17 (.mv (.t 7)),o 18 (.aI false (.f 13) [(.t 17)]),o 8 (.mv (.t 18))]) (.seq (.reg false [o 19 (.mv (.t 8)),o 20 (.bin .neq (.t 19) (.c (.int .i64 0)))]) (.cond (.t 20) (.seq (.reg false [o 21 (.mv (.t 8)),o 4 (.mv (.c (.slice 0 [] .full))),o 5 (.mv (.t 21))]) (.ret)) (.skip)))) (.seq (.reg false [o 22 (.mv (.t 7)),o 4 (.mv (.t 22)),o 5 (.mv (.c (.int .i64 0)))]) (.ret))))))⟩
def c8:AF:=⟨2,23,[.tmp 4,.tmp 5],
 (.seq (.reg false [o 3 (.n8 (.t 1)),o 4 (.mv (.c (.slice 0 [] .full))),o 5 (.mv (.c (.int .i64 0)))]) (.seq (.seq (.reg false [o 9 (.mv (.t 0)),o 10 (.aI false (.f 14) [(.t 9)]),o 6 (.mv (.t 10))]) (.seq (.reg false [o 11 (.mv (.t 6)),o 12 (.bin .neq (.t 11) (.c (.int .i64 0)))]) (.cond (.t 12) (.seq (.reg false [o 13 (.mv (.t 6)),o 4 (.mv (.c (.slice 0 [] .full))),o 5 (.mv (.t 13))]) (.ret)) (.skip)))) (.seq (.reg false [o 14 (.mv (.t 0)),o 15 (.load true 3 (.t 3)),o 16 (.aI false (.f 19) [(.t 14),(.t 15)]),o 7 (.mv (.t 16))]) (.seq (.seq (.reg false [o 17 (.mv (.t 7)),o 18 (.aI false (.f 14) [(.t 17)]),o 8 (.mv (.t 18))]) (.seq (.reg false [o 19 (.mv (.t 8)),o 20 (.bin .neq (.t 19) (.c (.int .i64 0)))]) (.cond (.t 20) (.seq (.reg false [o 21 (.mv (.t 8)),o 4 (.mv (.c (.slice 0 [] .full))),o 5 (.mv (.t 21))]) (.ret)) (.skip)))) (.seq (.reg false [o 22 (.mv (.t 7)),o 4 (.mv (.t 22)),o 5 (.mv (.c (.int .i64 0)))]) (.ret))))))⟩
def c9:AF:=⟨2,22,[.tmp 4,.tmp 5],
 (.seq (.reg false [o 4 (.mv (.c (.slice 0 [] .full))),o 5 (.mv (.c (.int .i64 0)))]) (.seq (.reg false [o 7 (.mv (.t 0)),o 8 (.aI false (.f 13) [(.t 7)]),o 6 (.mv (.t 8))]) (.seq (.seq (.reg false [o 9 (.mv (.t 6)),o 10 (.bin .eql (.t 9) (.c (.int .i64 0))),o 11 (.mv (.t 10)),g 12 11 true (.mv (.t 1)),g 13 11 true (.aI false (.f 20) [(.t 12)]),g 14 11 true (.un .not (.t 13)),
 o 15 (.pick (.t 11) (.t 14) (.c (.bool false)))]) (.cond (.t 15) (.reg false [o 6 (.mv (.c (.int .i64 4)))]) (.skip))) (.seq (.seq (.reg false [o 16 (.mv (.t 6)),o 17 (.bin .neq (.t 16) (.c (.int .i64 0)))]) (.cond (.t 17) (.seq (.reg false [o 18 (.mv (.t 6)),o 4 (.mv (.c (.slice 0 [] .full))),o 5 (.mv (.t 18))]) (.ret)) (.skip))) (.seq (.reg false [o 19 (.mv (.t 0)),o 20 (.mv (.t 1)),o 21 (.aI false (.f 21) [(.t 19),(.t 20)]),o 4 (.mv (.t 21)),o 5 (.mv (.c (.int .i64 0)))]) (.ret))))))⟩
def c10:AF:=⟨2,18,[.tmp 4,.tmp 5],
 (.seq (.reg false [o 4 (.mv (.c (.slice 0 [] .full))),o 5 (.mv (.c (.int .i64 0)))]) (.seq (.seq (.reg false [o 7 (.mv (.t 0)),o 8 (.aI false (.f 14) [(.t 7)]),o 6 (.mv (.t 8))]) (.seq (.reg false [o 9 (.mv (.t 6)),o 10 (.bin .neq (.t 9) (.c (.int .i64 0)))]) (.cond (.t 10) (.seq (.reg false [o 11 (.mv (.t 6)),o 4 (.mv (.c (.slice 0 [] .full))),o 5 (.mv (.t 11))]) (.ret)) (.skip)))) (.seq (.seq (.reg false [o 12 (.mv (.t 1)),o 13 (.aI false (.f 16) [(.t 12)]),o 14 (.un .not (.t 13))]) (.cond (.t 14) (.seq (.reg false [o 4 (.mv (.c (.slice 0 [] .full))),o 5 (.mv (.c (.int .i64 4)))]) (.ret)) (.skip))) (.seq (.reg false [o 15 (.mv (.t 0)),o 16 (.mv (.t 1)),o 17 (.aI false (.f 22) [(.t 15),(.t 16)]),o 4 (.mv (.t 17)),o 5 (.mv (.c (.int .i64 0)))]) (.ret)))))⟩
def c11:AF:=⟨3,28,[.cell 6 true 3,.tmp 7],
 (.seq (.reg false [o 6 (.alloc [(.str []),(.int .i64 0),(.int .i64 0)]),o 7 (.mv (.c (.int .i64 0)))]) (.seq (.seq (.reg false [o 11 (.mv (.t 0)),o 12 (.aI false (.f 13) [(.t 11)]),o 8 (.mv (.t 12))]) (.seq (.reg false [o 13 (.mv (.t 8)),o 14 (.bin .neq (.t 13) (.c (.int .i64 0)))]) (.cond (.t 14) (.seq (.reg false [o 15 (.build [(.str []),(.int .i64 0),(.int .i64 0)] []),o 16 (.mv (.t 8)),⟨none,.store 3 (.t 6) (.t 15),none,[]⟩,o 7 (.mv (.t 16))]) (.ret)) (.skip)))) (.seq (.reg false [o 18 (.mv (.t 0)),o 19 (.mv (.t 1)),o 20 (.mv (.t 2)),o 21 (.aI false (.f 23) [(.t 18),(.t 19),(.t 20)]),o 17 (.mv (.t 21)),o 22 (.extract (.t 17) 0),o 23 (.extract (.t 17) 1),
 o 9 (.pend [(.str []),(.int .i64 0),(.int .i64 0)]),⟨none,.shut 9 3 (.t 22),none,[]⟩,o 10 (.mv (.t 23))]) (.seq (.seq (.reg false [o 24 (.mv (.t 10)),o 25 (.un .not (.t 24))]) (.cond (.t 25) (.seq (.reg false [o 26 (.build [(.str []),(.int .i64 0),(.int .i64 0)] []),⟨none,.store 3 (.t 6) (.t 26),none,[]⟩,o 7 (.mv (.c (.int .i64 6)))]) (.ret)) (.skip))) (.seq (.reg false [o 27 (.load true 3 (.t 9)),⟨none,.store 3 (.t 6) (.t 27),none,[]⟩,o 7 (.mv (.c (.int .i64 0)))]) (.ret))))))⟩
def c12:AF:=⟨3,27,[.cell 6 true 3,.tmp 7],
 (.seq (.reg false [o 6 (.alloc [(.str []),(.int .i64 0),(.int .i64 0)]),o 7 (.mv (.c (.int .i64 0)))]) (.seq (.seq (.reg false [o 10 (.mv (.t 0)),o 11 (.aI false (.f 14) [(.t 10)]),o 8 (.mv (.t 11))]) (.seq (.reg false [o 12 (.mv (.t 8)),o 13 (.bin .neq (.t 12) (.c (.int .i64 0)))]) (.cond (.t 13) (.seq (.reg false [o 14 (.build [(.str []),(.int .i64 0),(.int .i64 0)] []),o 15 (.mv (.t 8)),⟨none,.store 3 (.t 6) (.t 14),none,[]⟩,o 7 (.mv (.t 15))]) (.ret)) (.skip)))) (.seq (.reg false [o 16 (.mv (.t 0)),o 17 (.mv (.t 1)),o 18 (.mv (.t 2)),o 19 (.aI false (.f 24) [(.t 16),(.t 17),(.t 18)]),o 9 (.mv (.t 19))]) (.seq (.seq (.reg false [o 20 (.mv (.t 9)),o 21 (.bin .lss (.t 20) (.c (.int .i64 0)))]) (.cond (.t 21) (.seq (.reg false [o 22 (.build [(.str []),(.int .i64 0),(.int .i64 0)] []),⟨none,.store 3 (.t 6) (.t 22),none,[]⟩,o 7 (.mv (.c (.int .i64 6)))]) (.ret)) (.skip))) (.seq (.reg false [o 23 (.mv (.t 0)),o 24 (.mv (.t 9)),o 25 (.hN 3 (.t 23) (.t 24)),o 26 (.load true 3 (.t 25)),⟨none,.store 3 (.t 6) (.t 26),none,[]⟩,o 7 (.mv (.c (.int .i64 0)))]) (.ret))))))⟩
def aD9:AC:= .loop (.seq (.reg false [o 11<|.bin .lss (.t 10)<|.t 9])<|.seq (.cond (.t 11) (.skip)<|.exit 0)<|.seq (.block 1<|.seq (.reg false [o 12<|.mv<|.t 10,o 13<|.hN 3 (.t 8)<|.t 10,o 14<|.load true 3<|.t 13,o 4<|.pend [(.str []),(.int .i64 0),(.int .i64 0)],o 3<|.mv<|.t 12,⟨none,.shut 4 3<|.t 14,none,[]⟩])<|.block 2<|.seq (.reg false [o 16<|.bO 0<|.t 4,o 17<|.load false 1<|.t 16,o 18<|.aI false (.f 20) [(.t 17)],o 19<|.un .not<|.t 18,o 15<|.mv<|.t 19])<|.cond (.t 15) (.seq (.reg false [o 2<|.mv<|.c<|.int .i64 4])<|.ret)<|.seq (.reg false [o 21<|.bO 1<|.t 4,o 22<|.load false 1<|.t 21,o 23<|.bin .lss (.t 22)<|.c<|.int .i64 0,o 24<|.mv<|.t 23,g 25 24 false<|.bO 2<|.t 4,g 26 24 false<|.load false 1<|.t 25,
 g 27 24 false (.bin .lss (.t 26) (.c (.int .i64 0))),o 28<|.pick (.t 24) (.c<|.bool true)<|.t 27,o 20<|.mv<|.t 28])<|.cond (.t 20) (.seq (.reg false [o 2<|.mv<|.c<|.int .i64 1])<|.ret)<|.seq (.reg true [o 30<|.mv<|.t 3,p 31 [0]<|.bin .gtr (.t 30)<|.c<|.int .i64 0,p 32 [1,0]<|.mv<|.t 31,⟨some 33,.mv<|.t 0,some (32,true),[2,1,0]⟩,⟨some 34,.mv<|.t 3,some (32,true),[2,1,0]⟩,
 ⟨some 35,.bin .sub (.t 34) (.c (.int .i64 1)),some (32,true),[4,2,1,0]⟩,⟨some 36,.hN 3 (.t 33)<|.t 35,some (32,true),[3,2,1,0,5,4]⟩,⟨some 37,.load true 3<|.t 36,some (32,true),[6,3,2,1,0,5,4]⟩,
 ⟨some 38,.load true 3 (.t 4),some (32,true),[2,1,0]⟩,⟨some 39,.aI true (.f 26) [(.t 37),(.t 38)],some (32,true),[7,6,3,2,1,0,5,4,8]⟩,⟨some 40,.bO 2<|.t 4,some (32,true),[2,1,0]⟩,
 ⟨some 41,.load false 1 (.t 40),some (32,true),[10,2,1,0]⟩,⟨some 42,.mv<|.t 0,some (32,true),[2,1,0]⟩,⟨some 43,.mv<|.t 3,some (32,true),[2,1,0]⟩,
 ⟨some 44,.bin .sub (.t 43) (.c (.int .i64 1)),some (32,true),[13,2,1,0]⟩,⟨some 45,.hN 3 (.t 42)<|.t 44,some (32,true),[12,2,1,0,14,13]⟩,⟨some 46,.bO 2<|.t 45,some (32,true),[15,12,2,1,0,14,13]⟩,
 ⟨some 47,.load false 1 (.t 46),some (32,true),[16,15,12,2,1,0,14,13]⟩,⟨some 48,.aI false (.f 27) [(.t 41),(.t 47)],some (32,true),[11,10,2,1,0,17,16,15,12,14,13,9,7,6,3,5,4,8]⟩,
 ⟨some 49,.gO 1 2 [(.int .i64 0)] [(0,(.t 39)),(1,(.t 48))],some (32,true),[9,7,6,3,2,1,0,5,4,8,18,11,10,17,16,15,12,14,13]⟩,⟨some 50,.aI false (.f 25) [(.t 49)],some (32,true),[19,9,7,6,3,2,1,0,5,4,8,18,11,10,17,16,15,12,14,13]⟩,
 ⟨some 51,.bin .geq (.t 50) (.c (.int .i64 0)),some (32,true),[20,19,9,7,6,3,2,1,0,5,4,8,18,11,10,17,16,15,12,14,13]⟩,p 52 [2,1,0,21,20,19,9,7,6,3,5,4,8,18,11,10,17,16,15,12,14,13]<|.pick (.t 32) (.t 51)<|.c<|.bool false,
 p 29 [22,2,1,0,21,20,19,9,7,6,3,5,4,8,18,11,10,17,16,15,12,14,13] (.mv (.t 52))])<|.cond (.t 29) (.seq (.reg false [o 2<|.mv<|.c<|.int .i64 1])<|.ret)<|.skip)<|.reg false [o 53<|.bin .add (.t 10)<|.c<|.int .i64 1,o 10<|.mv<|.t 53])
def c13:AF:=⟨1,54,[.tmp 2],
 (.seq (.reg false [o 2 (.mv (.c (.int .i64 0)))]) (.seq (.seq (.reg false [o 5 (.mv (.t 0)),o 6 (.j7 (.t 5)),o 7 (.bin .gtr (.t 6) (.c (.int .i64 200)))]) (.cond (.t 7) (.seq (.reg false [o 2 (.mv (.c (.int .i64 3)))]) (.ret)) (.skip))) (.seq (.seq (.reg false [o 8 (.mv (.t 0)),o 9 (.j7 (.t 8)),o 10 (.mv (.c (.int .i64 0)))]) (.block 0 (aD9))) (.seq (.reg false [o 2 (.mv (.c (.int .i64 0)))]) (.ret)))))⟩
def aD2:AC:= .loop (.seq (.seq (.reg false [o 7<|.mv<|.t 3,o 8<|.mv<|.t 0,o 9<|.j7<|.t 8,o 10<|.bin .lss (.t 7)<|.t 9])<|.cond (.t 10) (.skip)<|.exit 0)<|.seq (.block 1<|.seq (.seq (.reg false [o 13<|.mv<|.t 0,o 14<|.mv<|.t 3,o 15<|.hN 3 (.t 13)<|.t 14,o 16<|.bO 0<|.t 15,o 17<|.load false 1<|.t 16,o 18<|.aI false (.f 16) [(.t 17)],o 19<|.un .not<|.t 18])<|.cond (.t 19) (.seq (.reg false [o 2<|.mv<|.c<|.int .i64 4])<|.ret)<|.skip)<|.seq (.seq (.reg false [o 20<|.mv<|.t 0,o 21<|.mv<|.t 3,o 22<|.hN 3 (.t 20)<|.t 21,o 23<|.bO 1<|.t 22,o 24<|.load false 1<|.t 23,o 25<|.bin .lss (.t 24)<|.c<|.int .i64 0,o 26<|.mv<|.t 25,
 g 27 26 false (.mv (.t 0)),g 28 26 false<|.mv<|.t 3,g 29 26 false<|.hN 3 (.t 27)<|.t 28,g 30 26 false<|.bO 2<|.t 29,g 31 26 false<|.load false 1<|.t 30,
 g 32 26 false (.bin .lss (.t 31) (.c (.int .i64 0))),o 33<|.pick (.t 26) (.c<|.bool true)<|.t 32])<|.cond (.t 33) (.seq (.reg false [o 2<|.mv<|.c<|.int .i64 1])<|.ret)<|.skip)<|.seq (.reg true [o 34<|.mv<|.t 3,p 35 [0]<|.bin .gtr (.t 34)<|.c<|.int .i64 0,p 36 [1,0]<|.mv<|.t 35,⟨some 37,.mv<|.t 0,some (36,true),[2,1,0]⟩,⟨some 38,.mv<|.t 3,some (36,true),[2,1,0]⟩,
 ⟨some 39,.hN 3 (.t 37) (.t 38),some (36,true),[3,2,1,0,4]⟩,⟨some 40,.load true 3<|.t 39,some (36,true),[5,3,2,1,0,4]⟩,⟨some 41,.mv<|.t 0,some (36,true),[2,1,0]⟩,
 ⟨some 42,.mv (.t 3),some (36,true),[2,1,0]⟩,⟨some 43,.bin .sub (.t 42)<|.c<|.int .i64 1,some (36,true),[8,2,1,0]⟩,⟨some 44,.hN 3 (.t 41)<|.t 43,some (36,true),[7,2,1,0,9,8]⟩,
 ⟨some 45,.load true 3 (.t 44),some (36,true),[10,7,2,1,0,9,8]⟩,⟨some 46,.aI false (.f 28) [(.t 40),(.t 45)],some (36,true),[6,5,3,2,1,0,4,11,10,7,9,8]⟩,
 ⟨some 47,.mv (.t 46),some (36,true),[12,6,5,3,2,1,0,4,11,10,7,9,8]⟩,⟨some 48,.mv<|.t 0,some (47,false),[13,12,6,5,3,2,1,0,4,11,10,7,9,8]⟩,
 ⟨some 49,.mv (.t 3),some (47,false),[13,12,6,5,3,2,1,0,4,11,10,7,9,8]⟩,⟨some 50,.bin .sub (.t 49)<|.c<|.int .i64 1,some (47,false),[15,13,12,6,5,3,2,1,0,4,11,10,7,9,8]⟩,
 ⟨some 51,.hN 3 (.t 48) (.t 50),some (47,false),[14,13,12,6,5,3,2,1,0,4,11,10,7,9,8,16,15]⟩,⟨some 52,.load true 3<|.t 51,some (47,false),[17,14,13,12,6,5,3,2,1,0,4,11,10,7,9,8,16,15]⟩,
 ⟨some 53,.mv (.t 0),some (47,false),[13,12,6,5,3,2,1,0,4,11,10,7,9,8]⟩,⟨some 54,.mv<|.t 3,some (47,false),[13,12,6,5,3,2,1,0,4,11,10,7,9,8]⟩,
 ⟨some 55,.hN 3 (.t 53) (.t 54),some (47,false),[19,13,12,6,5,3,2,1,0,4,11,10,7,9,8,20]⟩,⟨some 56,.load true 3<|.t 55,some (47,false),[21,19,13,12,6,5,3,2,1,0,4,11,10,7,9,8,20]⟩,
 ⟨some 57,.aI false (.f 28) [(.t 52),(.t 56)],some (47,false),[18,17,14,13,12,6,5,3,2,1,0,4,11,10,7,9,8,16,15,22,21,19,20]⟩,⟨some 58,.un .not<|.t 57,some (47,false),[23,18,17,14,13,12,6,5,3,2,1,0,4,11,10,7,9,8,16,15,22,21,19,20]⟩,
 ⟨some 59,.mv (.t 58),some (47,false),[24,23,18,17,14,13,12,6,5,3,2,1,0,4,11,10,7,9,8,16,15,22,21,19,20]⟩,⟨some 60,.mv<|.t 0,some (59,true),[25,24,23,18,17,14,13,12,6,5,3,2,1,0,4,11,10,7,9,8,16,15,22,21,19,20]⟩,
 ⟨some 61,.mv (.t 3),some (59,true),[25,24,23,18,17,14,13,12,6,5,3,2,1,0,4,11,10,7,9,8,16,15,22,21,19,20]⟩,⟨some 62,.hN 3 (.t 60)<|.t 61,some (59,true),[26,25,24,23,18,17,14,13,12,6,5,3,2,1,0,4,11,10,7,9,8,16,15,22,21,19,20,27]⟩,
 ⟨some 63,.bO 2 (.t 62),some (59,true),[28,26,25,24,23,18,17,14,13,12,6,5,3,2,1,0,4,11,10,7,9,8,16,15,22,21,19,20,27]⟩,⟨some 64,.load false 1<|.t 63,some (59,true),[29,28,26,25,24,23,18,17,14,13,12,6,5,3,2,1,0,4,11,10,7,9,8,16,15,22,21,19,20,27]⟩,
 ⟨some 65,.mv (.t 0),some (59,true),[25,24,23,18,17,14,13,12,6,5,3,2,1,0,4,11,10,7,9,8,16,15,22,21,19,20]⟩,⟨some 66,.mv<|.t 3,some (59,true),[25,24,23,18,17,14,13,12,6,5,3,2,1,0,4,11,10,7,9,8,16,15,22,21,19,20]⟩,
 ⟨some 67,.bin .sub (.t 66) (.c (.int .i64 1)),some (59,true),[32,25,24,23,18,17,14,13,12,6,5,3,2,1,0,4,11,10,7,9,8,16,15,22,21,19,20]⟩,
 ⟨some 68,.hN 3 (.t 65) (.t 67),some (59,true),[31,25,24,23,18,17,14,13,12,6,5,3,2,1,0,4,11,10,7,9,8,16,15,22,21,19,20,33,32]⟩,⟨some 69,.bO 2<|.t 68,some (59,true),[34,31,25,24,23,18,17,14,13,12,6,5,3,2,1,0,4,11,10,7,9,8,16,15,22,21,19,20,33,32]⟩,
 ⟨some 70,.load false 1 (.t 69),some (59,true),[35,34,31,25,24,23,18,17,14,13,12,6,5,3,2,1,0,4,11,10,7,9,8,16,15,22,21,19,20,33,32]⟩,
 ⟨some 71,.bin .geq (.t 64) (.t 70),some (59,true),[30,29,28,26,25,24,23,18,17,14,13,12,6,5,3,2,1,0,4,11,10,7,9,8,16,15,22,21,19,20,27,36,35,34,31,33,32]⟩,
 ⟨some 72,.pick (.t 59) (.t 71) (.c (.bool false)),some (47,false),[25,24,23,18,17,14,13,12,6,5,3,2,1,0,4,11,10,7,9,8,16,15,22,21,19,20,37,30,29,28,26,27,36,35,34,31,33,32]⟩,
 ⟨some 73,.pick (.t 47) (.c (.bool true)) (.t 72),some (36,true),[13,12,6,5,3,2,1,0,4,11,10,7,9,8,38,25,24,23,18,17,14,16,15,22,21,19,20,37,30,29,28,26,27,36,35,34,31,33,32]⟩,
 p 74 [2,1,0,39,13,12,6,5,3,4,11,10,7,9,8,38,25,24,23,18,17,14,16,15,22,21,19,20,37,30,29,28,26,27,36,35,34,31,33,32] (.pick (.t 36) (.t 73) (.c (.bool false)))])<|.cond (.t 74) (.seq (.reg false [o 2<|.mv<|.c<|.int .i64 1])<|.ret)<|.skip)<|.reg false [o 11<|.mv<|.t 3,o 12<|.bin .add (.t 11)<|.c<|.int .i64 1,o 3<|.mv<|.t 12])
def c14:AF:=⟨1,75,[.tmp 2],
 (.seq (.reg false [o 2 (.mv (.c (.int .i64 0)))]) (.seq (.seq (.reg false [o 4 (.mv (.t 0)),o 5 (.j7 (.t 4)),o 6 (.bin .gtr (.t 5) (.c (.int .i64 200)))]) (.cond (.t 6) (.seq (.reg false [o 2 (.mv (.c (.int .i64 3)))]) (.ret)) (.skip))) (.seq (.seq (.reg false [o 3 (.mv (.c (.int .i64 0)))]) (.block 0 (aD2))) (.seq (.reg false [o 2 (.mv (.c (.int .i64 0)))]) (.ret)))))⟩
def aD4:AC:= .loop (.seq (.seq (.reg false [o 11<|.mv<|.t 5,o 12<|.mv<|.t 0,o 13<|.j7<|.t 12,o 14<|.bin .lss (.t 11)<|.t 13])<|.cond (.t 14) (.skip)<|.exit 0)<|.seq (.block 1<|.seq (.reg true [o 17<|.mv<|.t 0,o 18<|.mv<|.t 5,p 19 [0,1]<|.hN 3 (.t 17)<|.t 18,p 20 [2,0,1]<|.load true 3<|.t 19,o 21<|.mv<|.t 1,o 22<|.mv<|.t 5,p 23 [4,5]<|.hN 3 (.t 21)<|.t 22,
 p 24 [6,4,5] (.load true 3 (.t 23)),p 25 [3,2,0,1,7,6,4,5]<|.eqF true [.str,.int,.int] (.t 20)<|.t 24])<|.cond (.t 25) (.seq (.reg false [o 4<|.mv<|.c<|.bool false])<|.ret)<|.skip)<|.reg false [o 15<|.mv<|.t 5,o 16<|.bin .add (.t 15)<|.c<|.int .i64 1,o 5<|.mv<|.t 16])
def c15:AF:=⟨2,26,[.tmp 4],
 (.seq (.reg false [o 4 (.mv (.c (.bool false)))]) (.seq (.seq (.reg false [o 6 (.mv (.t 0)),o 7 (.j7 (.t 6)),o 8 (.mv (.t 1)),o 9 (.j7 (.t 8)),o 10 (.bin .neq (.t 7) (.t 9))]) (.cond (.t 10) (.seq (.reg false [o 4 (.mv (.c (.bool false)))]) (.ret)) (.skip))) (.seq (.seq (.reg false [o 5 (.mv (.c (.int .i64 0)))]) (.block 0 (aD4))) (.seq (.reg false [o 4 (.mv (.c (.bool true)))]) (.ret)))))⟩
def c16:AF:=⟨1,5,[.tmp 2],
 (.seq (.reg false [o 2 (.mv (.c (.bool false)))]) (.seq (.reg false [o 3 (.mv (.t 0)),o 4 (.aI false (.f 29) [(.t 3),(.c (.int .u8 65)),(.c (.int .u8 90)),(.c (.bool false))]),o 2 (.mv (.t 4))]) (.ret)))⟩
def c17:AF:=⟨3,11,[.cell 6 true 3],
 (.seq (.reg false [o 6 (.alloc [(.str []),(.int .i64 0),(.int .i64 0)])]) (.seq (.reg false [o 7 (.mv (.t 0)),o 8 (.mv (.t 1)),o 9 (.mv (.t 2)),o 10 (.build [(.str []),(.int .i64 0),(.int .i64 0)] [(0,1,(.t 7)),(1,1,(.t 8)),(2,1,(.t 9))]),⟨none,.store 3 (.t 6) (.t 10),none,[]⟩]) (.ret)))⟩
def aEW:AC:= .loop (.seq (.seq (.reg true [o 6<|.mv<|.t 5,o 7<|.mv<|.t 0,p 8 [1]<|.j7<|.t 7,p 9 [0,2,1]<|.bin .lss (.t 6)<|.t 8,p 10 [3,0,2,1]<|.mv<|.t 9,⟨some 11,.mv<|.t 0,some (10,true),[4,3,0,2,1]⟩,
 ⟨some 12,.mv (.t 5),some (10,true),[4,3,0,2,1]⟩,⟨some 13,.hN 3 (.t 11)<|.t 12,some (10,true),[5,4,3,0,2,1,6]⟩,⟨some 14,.load true 3<|.t 13,some (10,true),[7,5,4,3,0,2,1,6]⟩,
 ⟨some 15,.load true 3 (.t 3),some (10,true),[4,3,0,2,1]⟩,⟨some 16,.aI false (.f 28) [(.t 14),(.t 15)],some (10,true),[8,7,5,4,3,0,2,1,6,9]⟩,
 p 17 [4,3,0,2,1,10,8,7,5,6,9] (.pick (.t 10) (.t 16) (.c (.bool false)))])<|.cond (.t 17) (.skip)<|.exit 0)<|.block 1<|.reg false [o 18<|.mv<|.t 5,o 19<|.bin .add (.t 18)<|.c<|.int .i64 1,o 5<|.mv<|.t 19])
def c19:AF:=⟨2,32,[.tmp 4],
 (.seq (.reg false [o 3 (.n8 (.t 1)),o 4 (.mv (.c (.slice 0 [] .full)))]) (.seq (.reg false [o 5 (.mv (.c (.int .i64 0)))]) (.seq (.block 0 (aEW)) (.seq (.reg true [o 20 (.gO 3 0 [(.str []),(.int .i64 0),(.int .i64 0)] []),o 21 (.mv (.t 0)),o 22 (.mv (.t 5)),p 23 [1,2] (.zF 3 (.t 21) none (some (.t 22)) none),p 24 [0,3,1,2] (.append true 3 32 (.t 20) (.t 23)),
 o 25 (.load true 3 (.t 3)),p 26 [5] (.gO 3 1 [(.str []),(.int .i64 0),(.int .i64 0)] [(0,(.t 25))]),p 27 [4,0,3,1,2,6,5] (.append false 3 32 (.t 24) (.t 26)),
 o 28 (.mv (.t 0)),o 29 (.mv (.t 5)),p 30 [8,9] (.zF 3 (.t 28) (some (.t 29)) none none),p 31 [7,4,0,3,1,2,6,5,10,8,9] (.append false 3 32 (.t 27) (.t 30)),
 p 4 [11,7,4,0,3,1,2,6,5,10,8,9] (.mv (.t 31))]) (.ret)))))⟩
def c20:AF:=⟨1,5,[.tmp 2],
 (.seq (.reg false [o 2 (.mv (.c (.bool false)))]) (.seq (.reg false [o 3 (.mv (.t 0)),o 4 (.aI false (.f 33) [(.t 3),(.c (.int .i64 3))]),o 2 (.mv (.t 4))]) (.ret)))⟩
def c22:AF:=⟨2,24,[.tmp 4],
 (.seq (.reg false [o 4 (.mv (.c (.slice 0 [] .full)))]) (.seq (.reg false [o 6 (.mv (.t 0)),o 7 (.mv (.t 1)),o 8 (.aI false (.f 24) [(.t 6),(.t 7),(.c (.int .i64 0))]),o 5 (.mv (.t 8))]) (.seq (.seq (.reg false [o 9 (.mv (.t 5)),o 10 (.bin .lss (.t 9) (.c (.int .i64 0)))]) (.cond (.t 10) (.seq (.reg false [o 11 (.gO 3 0 [(.str []),(.int .i64 0),(.int .i64 0)] []),o 12 (.mv (.t 0)),o 13 (.append false 3 32 (.t 11) (.t 12)),o 4 (.mv (.t 13))]) (.ret)) (.skip))) (.seq (.reg true [o 14 (.gO 3 0 [(.str []),(.int .i64 0),(.int .i64 0)] []),o 15 (.mv (.t 0)),o 16 (.mv (.t 5)),p 17 [1,2] (.zF 3 (.t 15) none (some (.t 16)) none),p 18 [0,3,1,2] (.append false 3 32 (.t 14) (.t 17)),
 o 19 (.mv (.t 0)),o 20 (.mv (.t 5)),p 21 [6] (.bin .add (.t 20) (.c (.int .i64 1))),p 22 [5,7,6] (.zF 3 (.t 19) (some (.t 21)) none none),p 23 [4,0,3,1,2,8,5,7,6] (.append false 3 32 (.t 18) (.t 22)),
 p 4 [9,4,0,3,1,2,8,5,7,6] (.mv (.t 23))]) (.ret)))))⟩
def c23:AF:=⟨3,34,[.cell 6 true 3,.tmp 7],
 (.seq (.reg false [o 6 (.alloc [(.str []),(.int .i64 0),(.int .i64 0)]),o 7 (.mv (.c (.bool false)))]) (.seq (.reg false [o 10 (.mv (.t 1)),o 11 (.mv (.t 2)),o 12 (.build [(.str []),(.int .i64 0),(.int .i64 0)] [(0,1,(.t 10)),(1,1,(.t 11))]),o 8 (.pend [(.str []),(.int .i64 0),(.int .i64 0)]),
 ⟨none,.shut 8 3 (.t 12),none,[]⟩]) (.seq (.reg false [o 13 (.mv (.t 0)),o 14 (.load true 3 (.t 8)),o 15 (.aI false (.f 32) [(.t 13),(.t 14)]),o 9 (.mv (.t 15))]) (.seq (.seq (.reg true [o 16 (.mv (.t 9)),o 17 (.mv (.t 0)),p 18 [1] (.j7 (.t 17)),p 19 [0,2,1] (.bin .eql (.t 16) (.t 18)),p 20 [3,0,2,1] (.mv (.t 19)),⟨some 21,.mv (.t 0),some (20,false),[4,3,0,2,1]⟩,
 ⟨some 22,.mv (.t 9),some (20,false),[4,3,0,2,1]⟩,⟨some 23,.hN 3 (.t 21) (.t 22),some (20,false),[5,4,3,0,2,1,6]⟩,⟨some 24,.load true 3 (.t 23),some (20,false),[7,5,4,3,0,2,1,6]⟩,
 ⟨some 25,.load true 3 (.t 8),some (20,false),[4,3,0,2,1]⟩,⟨some 26,.aI false (.f 26) [(.t 24),(.t 25)],some (20,false),[8,7,5,4,3,0,2,1,6,9]⟩,
 ⟨some 27,.bin .neq (.t 26) (.c (.int .i64 0)),some (20,false),[10,8,7,5,4,3,0,2,1,6,9]⟩,p 28 [4,3,0,2,1,11,10,8,7,5,6,9] (.pick (.t 20) (.c (.bool true)) (.t 27))]) (.cond (.t 28) (.seq (.reg false [o 29 (.build [(.str []),(.int .i64 0),(.int .i64 0)] []),⟨none,.store 3 (.t 6) (.t 29),none,[]⟩,o 7 (.mv (.c (.bool false)))]) (.ret)) (.skip))) (.seq (.reg false [o 30 (.mv (.t 0)),o 31 (.mv (.t 9)),o 32 (.hN 3 (.t 30) (.t 31)),o 33 (.load true 3 (.t 32)),⟨none,.store 3 (.t 6) (.t 33),none,[]⟩,o 7 (.mv (.c (.bool true)))]) (.ret))))))⟩
def aE7:AC:= .loop (.seq (.seq (.reg false [o 8<|.mv<|.t 7,o 9<|.mv<|.t 0,o 10<|.j7<|.t 9,o 11<|.bin .lss (.t 8)<|.t 10])<|.cond (.t 11) (.skip)<|.exit 0)<|.seq (.block 1<|.seq (.reg false [o 14<|.mv<|.t 0,o 15<|.mv<|.t 7,o 16<|.hN 3 (.t 14)<|.t 15,o 17<|.bO 0<|.t 16,o 18<|.load false 1<|.t 17,o 19<|.mv<|.t 1,o 20<|.bin .eql (.t 18)<|.t 19,
 o 21 (.mv (.t 20)),g 22 21 true<|.mv<|.t 0,g 23 21 true<|.mv<|.t 7,g 24 21 true<|.hN 3 (.t 22)<|.t 23,g 25 21 true<|.bO 1<|.t 24,g 26 21 true<|.load false 1<|.t 25,
 g 27 21 true (.mv (.t 2)),g 28 21 true<|.bin .eql (.t 26)<|.t 27,o 29<|.pick (.t 21) (.t 28)<|.c<|.bool false])<|.cond (.t 29) (.seq (.reg false [o 30<|.mv<|.t 7,o 6<|.mv<|.t 30])<|.ret)<|.skip)<|.reg false [o 12<|.mv<|.t 7,o 13<|.bin .add (.t 12)<|.c<|.int .i64 1,o 7<|.mv<|.t 13])
def c24:AF:=⟨3,31,[.tmp 6],
 (.seq (.reg false [o 6 (.mv (.c (.int .i64 0)))]) (.seq (.seq (.reg false [o 7 (.mv (.c (.int .i64 0)))]) (.block 0 (aE7))) (.seq (.reg false [o 6 (.mv (.c (.int .i64 (-1))))]) (.ret))))⟩
def aEa:AC:= .loop (.seq (.reg false [o 9<|.bin .lss (.t 8)<|.t 7])<|.seq (.cond (.t 9) (.skip)<|.exit 0)<|.seq (.block 1<|.seq (.reg false [o 10<|.hN 1 (.t 6)<|.t 8,o 11<|.load false 1<|.t 10,o 5<|.mv<|.t 11])<|.seq (.reg false [o 12<|.mv<|.t 5,o 13<|.mv<|.t 3,o 14<|.bin .neq (.t 12)<|.t 13])<|.cond (.t 14) (.seq (.reg false [o 15<|.mv<|.t 5,o 2<|.mv<|.t 15])<|.ret)<|.skip)<|.reg false [o 16<|.bin .add (.t 8)<|.c<|.int .i64 1,o 8<|.mv<|.t 16])
def c25:AF:=⟨1,18,[.tmp 2],
 (.seq (.reg false [o 2 (.mv (.c (.int .i64 0)))]) (.seq (.reg false [o 3 (.mv (.c (.int .i64 0)))]) (.seq (.seq (.reg false [o 6 (.mv (.t 0)),o 7 (.j7 (.t 6)),o 8 (.mv (.c (.int .i64 0)))]) (.block 0 (aEa))) (.seq (.reg false [o 17 (.mv (.t 3)),o 2 (.mv (.t 17))]) (.ret)))))⟩
def c26:AF:=⟨2,17,[.tmp 4],
 (.seq (.reg false [o 2 (.n8 (.t 0)),o 3 (.n8 (.t 1)),o 4 (.mv (.c (.int .i64 0)))]) (.seq (.reg true [o 5 (.bO 0 (.t 2)),p 6 [0] (.load false 1 (.t 5)),o 7 (.bO 0 (.t 3)),p 8 [2] (.load false 1 (.t 7)),p 9 [1,0,3,2] (.aI true (.f 35) [(.t 6),(.t 8)]),o 10 (.bO 1 (.t 2)),
 p 11 [5] (.load false 1 (.t 10)),o 12 (.bO 1 (.t 3)),p 13 [7] (.load false 1 (.t 12)),p 14 [6,5,8,7,4,1,0,3,2] (.aI false (.f 27) [(.t 11),(.t 13)]),
 p 15 [4,1,0,3,2,9,6,5,8,7] (.gO 1 2 [(.int .i64 0)] [(0,(.t 9)),(1,(.t 14))]),p 16 [10,4,1,0,3,2,9,6,5,8,7] (.aI false (.f 25) [(.t 15)]),
 p 4 [11,10,4,1,0,3,2,9,6,5,8,7] (.mv (.t 16))]) (.ret)))⟩
def c27:AF:=⟨2,20,[.tmp 4],
 (.seq (.reg false [o 4 (.mv (.c (.int .i64 0)))]) (.seq (.reg false [o 7 (.mv (.t 0)),o 8 (.aI false (.f 36) [(.t 7)]),o 5 (.mv (.t 8))]) (.seq (.reg false [o 9 (.mv (.t 1)),o 10 (.aI false (.f 36) [(.t 9)]),o 6 (.mv (.t 10))]) (.seq (.seq (.reg false [o 11 (.mv (.t 5))]) (.cond (.t 11) (.seq (.seq (.reg false [o 12 (.mv (.t 6))]) (.cond (.t 12) (.seq (.reg false [o 4 (.mv (.c (.int .i64 0)))]) (.ret)) (.skip))) (.seq (.reg false [o 4 (.mv (.c (.int .i64 (-1))))]) (.ret))) (.skip))) (.seq (.seq (.reg false [o 13 (.mv (.t 6))]) (.cond (.t 13) (.seq (.reg false [o 4 (.mv (.c (.int .i64 1)))]) (.ret)) (.skip))) (.seq (.seq (.reg false [o 14 (.mv (.t 0)),o 15 (.mv (.t 1)),o 16 (.bin .lss (.t 14) (.t 15))]) (.cond (.t 16) (.seq (.reg false [o 4 (.mv (.c (.int .i64 (-1))))]) (.ret)) (.skip))) (.seq (.seq (.reg false [o 17 (.mv (.t 0)),o 18 (.mv (.t 1)),o 19 (.bin .gtr (.t 17) (.t 18))]) (.cond (.t 19) (.seq (.reg false [o 4 (.mv (.c (.int .i64 1)))]) (.ret)) (.skip))) (.seq (.reg false [o 4 (.mv (.c (.int .i64 0)))]) (.ret)))))))))⟩
def c28:AF:=⟨2,24,[.tmp 4],
 (.seq (.reg false [o 2 (.n8 (.t 0)),o 3 (.n8 (.t 1)),o 4 (.mv (.c (.bool false)))]) (.seq (.reg false [o 5 (.bO 0 (.t 2)),o 6 (.load false 1 (.t 5)),o 7 (.bO 0 (.t 3)),o 8 (.load false 1 (.t 7)),o 9 (.bin .lss (.t 6) (.t 8)),o 10 (.mv (.t 9)),g 11 10 false (.bO 0 (.t 2)),
 g 12 10 false (.load false 1 (.t 11)),g 13 10 false (.bO 0 (.t 3)),g 14 10 false (.load false 1 (.t 13)),g 15 10 false (.bin .eql (.t 12) (.t 14)),g 16 10 false (.mv (.t 15)),
 g 17 16 true (.bO 1 (.t 2)),g 18 16 true (.load false 1 (.t 17)),g 19 16 true (.bO 1 (.t 3)),g 20 16 true (.load false 1 (.t 19)),g 21 16 true (.bin .lss (.t 18) (.t 20)),
 g 22 10 false (.pick (.t 16) (.t 21) (.c (.bool false))),o 23 (.pick (.t 10) (.c (.bool true)) (.t 22)),o 4 (.mv (.t 23))]) (.ret)))⟩
def aD6:AC:= .loop (.seq (.seq (.reg false [o 36<|.mv<|.t 9,o 37<|.mv<|.t 0,o 38<|.jJ<|.t 37,o 39<|.bin .lss (.t 36)<|.t 38])<|.cond (.t 39) (.skip)<|.exit 0)<|.seq (.block 1<|.seq (.reg false [o 42<|.mv<|.t 0,o 43<|.mv<|.t 9,o 44<|.lB (.t 42)<|.t 43,o 10<|.mv<|.t 44])<|.seq (.reg false [o 45<|.mv<|.t 10,o 46<|.bin .geq (.t 45)<|.c<|.int .u8 97,o 47<|.mv<|.t 46,g 48 47 true<|.mv<|.t 10,g 49 47 true<|.bin .leq (.t 48)<|.c<|.int .u8 122,o 50<|.pick (.t 47) (.t 49)<|.c<|.bool false,
 o 51 (.mv (.t 50)),g 52 51 false<|.mv<|.t 10,g 53 51 false<|.bin .geq (.t 52)<|.c<|.int .u8 65,g 54 51 false<|.mv<|.t 53,g 55 54 true<|.mv<|.t 10,g 56 54 true<|.bin .leq (.t 55)<|.c<|.int .u8 90,
 g 57 51 false (.pick (.t 54) (.t 56) (.c (.bool false))),o 58<|.pick (.t 51) (.c<|.bool true)<|.t 57,o 59<|.mv<|.t 58,g 60 59 false<|.mv<|.t 10,g 61 59 false<|.bin .geq (.t 60)<|.c<|.int .u8 48,
 g 62 59 false (.mv (.t 61)),g 63 62 true<|.mv<|.t 10,g 64 62 true<|.bin .leq (.t 63)<|.c<|.int .u8 57,g 65 59 false<|.pick (.t 62) (.t 64)<|.c<|.bool false,o 66<|.pick (.t 59) (.c<|.bool true)<|.t 65,
 o 67 (.mv (.t 66)),g 68 67 false<|.mv<|.t 10,g 69 67 false<|.bin .eql (.t 68)<|.c<|.int .u8 95,o 70<|.pick (.t 67) (.c<|.bool true)<|.t 69,o 71<|.un .not<|.t 70])<|.cond (.t 71) (.seq (.reg false [o 8<|.mv<|.c<|.bool false])<|.ret)<|.skip)<|.reg false [o 40<|.mv<|.t 9,o 41<|.bin .add (.t 40)<|.c<|.int .i64 1,o 9<|.mv<|.t 41])
def c29:AF:=⟨4,72,[.tmp 8],
 (.seq (.reg false [o 8 (.mv (.c (.bool false)))]) (.seq (.seq (.reg false [o 11 (.mv (.t 0)),o 12 (.jJ (.t 11)),o 13 (.aI false (.f 37) [(.t 12),(.c (.int .i64 1)),(.c (.int .i64 12))]),o 14 (.un .not (.t 13)),o 15 (.mv (.t 14)),g 16 15 false (.mv (.t 0)),
 g 17 15 false (.lB (.t 16) (.c (.int .i64 0))),g 18 15 false (.mv (.t 1)),g 19 15 false (.bin .geq (.t 17) (.t 18)),g 20 15 false (.mv (.t 19)),g 21 20 true (.mv (.t 0)),
 g 22 20 true (.lB (.t 21) (.c (.int .i64 0))),g 23 20 true (.mv (.t 2)),g 24 20 true (.bin .leq (.t 22) (.t 23)),g 25 15 false (.pick (.t 20) (.t 24) (.c (.bool false))),
 g 26 15 false (.mv (.t 25)),g 27 26 false (.mv (.t 3)),g 28 26 false (.mv (.t 27)),g 29 28 true (.mv (.t 0)),g 30 28 true (.lB (.t 29) (.c (.int .i64 0))),g 31 28 true (.bin .eql (.t 30) (.c (.int .u8 95))),
 g 32 26 false (.pick (.t 28) (.t 31) (.c (.bool false))),g 33 15 false (.pick (.t 26) (.c (.bool true)) (.t 32)),g 34 15 false (.un .not (.t 33)),o 35 (.pick (.t 15) (.c (.bool true)) (.t 34))]) (.cond (.t 35) (.seq (.reg false [o 8 (.mv (.c (.bool false)))]) (.ret)) (.skip))) (.seq (.seq (.reg false [o 9 (.mv (.c (.int .i64 0)))]) (.block 0 (aD6))) (.seq (.reg false [o 8 (.mv (.c (.bool true)))]) (.ret)))))⟩
def c32:AF:=⟨2,9,[.tmp 4],
 (.seq (.reg false [o 2 (.n8 (.t 0)),o 3 (.n8 (.t 1)),o 4 (.mv (.c (.int .i64 0)))]) (.seq (.reg false [o 5 (.load false 1 (.t 2)),o 6 (.j7 (.t 5)),o 7 (.sV 41 [] [(.t 2),(.t 3)]),o 8 (.aI false (.f 40) [(.t 6),(.t 7)]),o 4 (.mv (.t 8))]) (.ret)))⟩
def aD0:AC:= .loop (.seq (.reg false [o 23<|.iE<|.t 22,o 24<|.extract (.t 23) 0])<|.seq (.cond (.t 24) (.skip)<|.exit 0)<|.block 1<|.seq (.reg false [o 25<|.extract (.t 23) 2,o 6<|.mv<|.t 25])<|.seq (.reg false [o 26<|.mv<|.t 6,o 27<|.bin .gtr (.t 26)<|.c<|.int .i32 127,o 28<|.mv<|.t 27,g 29 28 false<|.mv<|.t 6,g 30 28 false<|.toInt .u8<|.t 29,g 31 28 false<|.aI false (.f 42) [(.t 30)],
 g 32 28 false (.bin .lss (.t 31) (.c (.int .i64 2))),o 33<|.pick (.t 28) (.c<|.bool true)<|.t 32])<|.cond (.t 33) (.seq (.reg false [o 4<|.mv<|.c<|.bool false])<|.ret)<|.skip)
def c33:AF:=⟨2,34,[.tmp 4],
 (.seq (.reg false [o 4 (.mv (.c (.bool false)))]) (.seq (.seq (.reg false [o 7 (.mv (.t 0)),o 8 (.bin .eql (.t 7) (.c (.str []))),o 9 (.mv (.t 8)),g 10 9 false (.mv (.t 0)),g 11 9 false (.jJ (.t 10)),g 12 9 false (.bin .gtr (.t 11) (.c (.int .i64 12))),
 o 13 (.pick (.t 9) (.c (.bool true)) (.t 12)),o 14 (.mv (.t 13)),g 15 14 false (.mv (.t 0)),g 16 14 false (.lB (.t 15) (.c (.int .i64 0))),g 17 14 false (.aI false (.f 42) [(.t 16)]),
 g 18 14 false (.mv (.t 1)),g 19 14 false (.bin .neq (.t 17) (.t 18)),o 20 (.pick (.t 14) (.c (.bool true)) (.t 19))]) (.cond (.t 20) (.seq (.reg false [o 4 (.mv (.c (.bool false)))]) (.ret)) (.skip))) (.seq (.seq (.reg false [o 21 (.mv (.t 0)),o 22 (.gH (.t 21))]) (.block 0 (aD0))) (.seq (.reg false [o 4 (.mv (.c (.bool true)))]) (.ret)))))⟩
def c35:AF:=⟨2,20,[.tmp 4],
 (.seq (.reg false [o 4 (.mv (.c (.int .i64 0)))]) (.seq (.reg false [o 7 (.mv (.t 0)),o 8 (.aI false (.f 43) [(.t 7)]),o 5 (.mv (.t 8))]) (.seq (.reg false [o 9 (.mv (.t 1)),o 10 (.aI false (.f 43) [(.t 9)]),o 6 (.mv (.t 10))]) (.seq (.seq (.reg false [o 11 (.mv (.t 5))]) (.cond (.t 11) (.seq (.seq (.reg false [o 12 (.mv (.t 6))]) (.cond (.t 12) (.seq (.reg false [o 4 (.mv (.c (.int .i64 0)))]) (.ret)) (.skip))) (.seq (.reg false [o 4 (.mv (.c (.int .i64 (-1))))]) (.ret))) (.skip))) (.seq (.seq (.reg false [o 13 (.mv (.t 6))]) (.cond (.t 13) (.seq (.reg false [o 4 (.mv (.c (.int .i64 1)))]) (.ret)) (.skip))) (.seq (.seq (.reg false [o 14 (.mv (.t 0)),o 15 (.mv (.t 1)),o 16 (.bin .lss (.t 14) (.t 15))]) (.cond (.t 16) (.seq (.reg false [o 4 (.mv (.c (.int .i64 (-1))))]) (.ret)) (.skip))) (.seq (.seq (.reg false [o 17 (.mv (.t 0)),o 18 (.mv (.t 1)),o 19 (.bin .gtr (.t 17) (.t 18))]) (.cond (.t 19) (.seq (.reg false [o 4 (.mv (.c (.int .i64 1)))]) (.ret)) (.skip))) (.seq (.reg false [o 4 (.mv (.c (.int .i64 0)))]) (.ret)))))))))⟩
def c36:AF:=⟨1,6,[.tmp 2],
 (.seq (.reg false [o 2 (.mv (.c (.bool false)))]) (.seq (.reg false [o 3 (.mv (.t 0)),o 4 (.mv (.t 0)),o 5 (.bin .neq (.t 3) (.t 4)),o 2 (.mv (.t 5))]) (.ret)))⟩
def c37:AF:=⟨3,15,[.tmp 6],
 (.seq (.reg false [o 6 (.mv (.c (.bool false)))]) (.seq (.reg false [o 7 (.mv (.t 1)),o 8 (.mv (.t 0)),o 9 (.bin .leq (.t 7) (.t 8)),o 10 (.mv (.t 9)),g 11 10 true (.mv (.t 0)),g 12 10 true (.mv (.t 2)),g 13 10 true (.bin .leq (.t 11) (.t 12)),
 o 14 (.pick (.t 10) (.t 13) (.c (.bool false))),o 6 (.mv (.t 14))]) (.ret)))⟩
def aD3:AC:= .loop (.seq (.seq (.reg false [o 9<|.mv<|.t 5,o 10<|.mv<|.t 6,o 11<|.bin .lss (.t 9)<|.t 10])<|.cond (.t 11) (.skip)<|.exit 0)<|.block 1<|.seq (.reg false [o 12<|.mv<|.t 5,o 13<|.mv<|.t 6,o 14<|.bin .add (.t 12)<|.t 13,o 15<|.toInt .u64<|.t 14,o 16<|.bin .shr (.t 15)<|.c<|.int .u64 1,o 17<|.toInt .i64<|.t 16,
 o 7 (.mv (.t 17))])<|.seq (.reg false [o 18<|.mv<|.t 1,o 19<|.mv<|.t 7,o 20<|.aI false (.t 18) [(.t 19)],o 21<|.un .not<|.t 20])<|.cond (.t 21) (.reg false [o 22<|.mv<|.t 7,o 23<|.bin .add (.t 22)<|.c<|.int .i64 1,o 5<|.mv<|.t 23])<|.reg false [o 24<|.mv<|.t 7,o 6<|.mv<|.t 24])
def c40:AF:=⟨2,26,[.tmp 4],
 (.seq (.reg false [o 4 (.mv (.c (.int .i64 0)))]) (.seq (.reg false [o 8 (.mv (.t 0)),o 5 (.mv (.c (.int .i64 0))),o 6 (.mv (.t 8))]) (.seq (.block 0 (aD3)) (.seq (.reg false [o 25 (.mv (.t 5)),o 4 (.mv (.t 25))]) (.ret)))))⟩
def c41:AF:=⟨3,12,[.tmp 4],
 (.seq (.reg false [o 4 (.mv (.c (.bool false)))]) (.seq (.reg true [o 5 (.load false 1 (.t 1)),o 6 (.mv (.t 0)),p 7 [0,1] (.hN 3 (.t 5) (.t 6)),p 8 [2,0,1] (.load true 3 (.t 7)),o 9 (.load true 3 (.t 2)),p 10 [3,2,0,1,4] (.aI false (.f 26) [(.t 8),(.t 9)]),
 p 11 [5,3,2,0,1,4] (.bin .geq (.t 10) (.c (.int .i64 0))),p 4 [6,5,3,2,0,1,4] (.mv (.t 11))]) (.ret)))⟩
def c42:AF:=⟨1,39,[.tmp 2],
 (.seq (.reg false [o 2 (.mv (.c (.int .i64 0)))]) (.seq (.block 0 (.seq (.reg false [o 4 (.mv (.t 0)),o 5 (.bin .eql (.t 4) (.c (.int .u8 32))),o 6 (.mv (.t 5)),g 7 6 false (.mv (.t 0)),g 8 6 false (.bin .eql (.t 7) (.c (.int .u8 9))),o 9 (.pick (.t 6) (.c (.bool true)) (.t 8)),
 o 10 (.mv (.t 9)),g 11 10 false (.mv (.t 0)),g 12 10 false (.bin .eql (.t 11) (.c (.int .u8 10))),o 13 (.pick (.t 10) (.c (.bool true)) (.t 12)),o 3 (.mv (.t 13))]) (.cond (.t 3) (.seq (.reg false [o 2 (.mv (.c (.int .i64 1)))]) (.ret)) (.seq (.reg false [o 15 (.mv (.t 0)),o 16 (.bin .eql (.t 15) (.c (.int .u8 95))),o 17 (.mv (.t 16)),g 18 17 false (.mv (.t 0)),g 19 17 false (.bin .leq (.c (.int .u8 97)) (.t 18)),g 20 17 false (.mv (.t 19)),
 g 21 20 true (.mv (.t 0)),g 22 20 true (.bin .leq (.t 21) (.c (.int .u8 122))),g 23 17 false (.pick (.t 20) (.t 22) (.c (.bool false))),o 24 (.pick (.t 17) (.c (.bool true)) (.t 23)),
 o 14 (.mv (.t 24))]) (.cond (.t 14) (.seq (.reg false [o 2 (.mv (.c (.int .i64 2)))]) (.ret)) (.seq (.reg false [o 26 (.mv (.t 0)),o 27 (.bin .leq (.c (.int .u8 65)) (.t 26)),o 28 (.mv (.t 27)),g 29 28 true (.mv (.t 0)),g 30 28 true (.bin .leq (.t 29) (.c (.int .u8 90))),o 31 (.pick (.t 28) (.t 30) (.c (.bool false))),
 o 25 (.mv (.t 31))]) (.cond (.t 25) (.seq (.reg false [o 2 (.mv (.c (.int .i64 3)))]) (.ret)) (.seq (.reg false [o 33 (.mv (.t 0)),o 34 (.bin .leq (.c (.int .u8 48)) (.t 33)),o 35 (.mv (.t 34)),g 36 35 true (.mv (.t 0)),g 37 35 true (.bin .leq (.t 36) (.c (.int .u8 57))),o 38 (.pick (.t 35) (.t 37) (.c (.bool false))),
 o 32 (.mv (.t 38))]) (.cond (.t 32) (.seq (.reg false [o 2 (.mv (.c (.int .i64 4)))]) (.ret)) (.skip)))))))))) (.seq (.reg false [o 2 (.mv (.c (.int .i64 0)))]) (.ret))))⟩
def c43:AF:=⟨1,6,[.tmp 2],
 (.seq (.reg false [o 2 (.mv (.c (.bool false)))]) (.seq (.reg false [o 3 (.mv (.t 0)),o 4 (.mv (.t 0)),o 5 (.bin .neq (.t 3) (.t 4)),o 2 (.mv (.t 5))]) (.ret)))⟩
end Go.Proofs.Ytfcfnkffgiklpaa.Code
namespace Go.Fw
open Go
structure Gh where
 M:Nat→Nat→Option Value
 L:Nat→Option Nat
 H:Nat→Nat→Option (Nat×Nat×Nat)
structure Gh.le(G G':Gh):Prop where
 M: ∀b o x,G.M b o=some x→G'.M b o=some x
 L: ∀l b,G.L l=some b→G'.L l=some b
 H: ∀t n x,G.H t n=some x→G'.H t n=some x
theorem Gh.le.refl(G:Gh):G.le G:=⟨fun _ _ _ h=>h,fun _ _ h=>h,fun _ _ _ h=>h⟩
theorem Gh.le.trans{A B C:Gh}(h:A.le B)(k:B.le C):A.le C:=⟨fun _ _ _ x=>k.M _ _ _ (h.M _ _ _ x),fun _ _ x=>k.L _ _ (h.L _ _ x),fun _ _ _ x=>k.H _ _ _ (h.H _ _ _ x)⟩
inductive Sh where
 |v (a:AV) (x:Value)
 |l (a_:List AV) (xs:List Value)
 |k (a_:List AV) (xs:List Value)
 |c (a:AV) (xs:List Value)
 |r (sz:Nat) (a_:List AV) (b o:Nat)
def jG:AV→Bool
 | .agg _=>true
 |_=>false
def gR(G:Gh)(o:Own)(A:Option Addr)(sz n c:Nat):Prop:=
 match o with
 | .no=>True
 | .full=>c=n
 | .lit=>c=n
 | .tok t=> ∃b,A=some ⟨b,0,none⟩∧G.H t n=some (b,c,sz)
inductive R(G:Gh):Sh→Prop
 |int {k n} (h:k.wrap n=n):R G (.v (.int k n) (.int k n))
 |bool (b):R G (.v (.bool b) (.bool b))
 |str (s:ByteArray) (hs:s.size≤maxLen):R G (.v (.str s.data.toList) (.string s))
 |aW {sz o A c} (hm:c≤maxLen) (ho:gR G o A sz 0 c):R G (.v (.slice sz [] o) (.slice A 0 c))
 |bA {sz xs o b off c} (hc:xs.length≤c) (hm:c≤maxLen) (hr:R G (.r sz xs b off)) (ho:gR G o (some ⟨b,off,none⟩) sz xs.length c):
   R G (.v (.slice sz xs o) (.slice (some ⟨b,off,none⟩) xs.length c))
 |ms {l off len cap sz b} (hL:G.L l=some b) (hc:len≤cap) (hm:cap≤maxLen):R G (.v (.bM l off len cap sz) (.slice (some ⟨b,off,none⟩) len cap))
 |agg {cs vs} (h:R G (.k cs vs)):R G (.v (.agg cs) (.agg vs.toArray))
 |tuple {cs vs} (h:R G (.l cs vs)):R G (.v (.tuple cs) (.tuple vs.toArray))
 |cB:R G (.v .cB (.pointer none))
 |ptr {l b} (off) (hL:G.L l=some b):R G (.v (.ptr l off) (.pointer (some ⟨b,off,none⟩)))
 |a8 {v vs b o} (off) (hc:R G (.c v vs)) (hM: ∀j x,vs[j]?=some x→G.M b (o+j)=some x):R G (.v (.a8 v off) (.pointer (some ⟨b,o+off,none⟩)))
 |func {f a b fa fb} (ha:R G (.l a fa)) (hb:R G (.l b fb)):R G (.v (.func f a b) (.func (.func f) fa.toArray fb.toArray))
 |bQ:R G (.v .bQ .nilFunc)
 |yield {l b} (hL:G.L l=some b):R G (.v (.yield l) (.func (.yield b) #[] #[]))
 |map {l b} (hL:G.L l=some b):R G (.v (.map l) (.map (some b)))
 |cF:R G (.v .cF (.map none))
 |iface {t v x} (h:R G (.v v x)):R G (.v (.iface t v) (.iface t x))
 |a9:R G (.v .a9 .nilIface)
 |iter {l b} (hL:G.L l=some b):R G (.v (.iter l) (.pointer (some ⟨b,0,none⟩)))
 |fZ (x):R G (.v .fZ x)
 |iO:R G (.l [] [])
 |bK {a x a_ xs} (h:R G (.v a x)) (t:R G (.l a_ xs)):R G (.l (a::a_) (x::xs))
 |cT:R G (.k [] [])
 |aT {a x a_ xs} (h:R G (.v a x)) (h1:x.oneCell'=true) (t:R G (.k a_ xs)):R G (.k (a::a_) (x::xs))
 |kH {cs vs} (h:R G (.k cs vs)):R G (.c (.agg cs) vs)
 |mJ {a x} (ha:jG a=false) (h1:x.oneCell'=true) (h:R G (.v a x)):R G (.c a [x])
 |nM (sz b o):R G (.r sz [] b o)
 |fQ {sz x xs b o vs} (hc:R G (.c x vs)) (hl:vs.length=sz) (hM: ∀j y,vs[j]?=some y→G.M b (o+j)=some y) (t:R G (.r sz xs b (o+sz))):R G (.r sz (x::xs) b o)
theorem gR.mono{G G':Gh}(hG:G.le G'){o A sz n c}(h:gR G o A sz n c):gR G' o A sz n c:=by
 cases o with
 |no=>trivial
 |full=>exact h
 |lit=>exact h
 |tok t=>obtain⟨b,h1,h2⟩:=h;exact⟨b,h1,hG.H _ _ _ h2⟩
theorem R.mono{G G':Gh}(hG:G.le G'){s:Sh}(h:R G s):R G' s:=by
 induction h with
 |int h=>exact .int h
 |bool b=>exact .bool b
 |str s hs=>exact .str s hs
 |aW hm ho=>exact .aW hm (ho.mono hG)
 |bA hc hm _ ho ih=>exact .bA hc hm ih (ho.mono hG)
 |ms hL hc hm=>exact .ms (hG.L _ _ hL) hc hm
 |agg _ ih=>exact .agg ih
 |tuple _ ih=>exact .tuple ih
 |cB=>exact .cB
 |ptr off hL=>exact .ptr off (hG.L _ _ hL)
 |a8 off _ hM ih=>exact .a8 off ih fun j x hx=>hG.M _ _ _ (hM j x hx)
 |func _ _ ha hb=>exact .func ha hb
 |bQ=>exact .bQ
 |yield hL=>exact .yield (hG.L _ _ hL)
 |map hL=>exact .map (hG.L _ _ hL)
 |cF=>exact .cF
 |iface _ ih=>exact .iface ih
 |a9=>exact .a9
 |iter hL=>exact .iter (hG.L _ _ hL)
 |fZ x=>exact .fZ x
 |iO=>exact .iO
 |bK _ _ h t=>exact .bK h t
 |cT=>exact .cT
 |aT _ h1 _ h t=>exact .aT h h1 t
 |kH _ ih=>exact .kH ih
 |mJ ha h1 _ ih=>exact .mJ ha h1 ih
 |nM sz b o=>exact .nM sz b o
 |fQ _ hl hM _ hc t=>exact .fQ hc hl (fun j y hy=>hG.M _ _ _ (hM j y hy)) t
section
variable {G : Gh}
theorem R.oM{a_ xs}(h:R G (.l a_ xs)):a_.length=xs.length:=by
 generalize hs:Sh.l a_ xs=s at h
 induction h generalizing a_ xs with
 |iO=>cases hs;rfl
 |bK _ _ _ ih=>cases hs;simp [ih rfl]
 |_=>cases hs
theorem R.eG{a_ xs}(h:R G (.k a_ xs)):a_.length=xs.length:=by
 generalize hs:Sh.k a_ xs=s at h
 induction h generalizing a_ xs with
 |cT=>cases hs;rfl
 |aT _ _ _ _ ih=>cases hs;simp [ih rfl]
 |_=>cases hs
theorem R.aDX{a_ xs}(h:R G (.l a_ xs)){i:Nat}{a:AV}(ha:a_[i]?=some a): ∃x,xs[i]?=some x∧R G (.v a x):=by
 induction a_ generalizing xs i with
 |nil=>simp at ha
 |cons b bs ih=>
  cases h with
  |bK h t=>
   cases i with
   |zero=>simp at ha;subst ha;exact⟨_,rfl,h⟩
   |succ i=>simpa using ih t (by simpa using ha)
theorem R.aB9{a_ xs}(h:R G (.k a_ xs)){i:Nat}{a:AV}(ha:a_[i]?=some a): ∃x,xs[i]?=some x∧R G (.v a x)∧x.oneCell'=true:=by
 induction a_ generalizing xs i with
 |nil=>simp at ha
 |cons b bs ih=>
  cases h with
  |aT h h1 t=>
   cases i with
   |zero=>simp at ha;subst ha;exact⟨_,rfl,h,h1⟩
   |succ i=>simpa using ih t (by simpa using ha)
theorem R.aAW{a_ xs}(h:R G (.k a_ xs)): ∀x∈xs,x.oneCell'=true:=by
 induction a_ generalizing xs with
 |nil=>cases h;simp
 |cons a a_ ih=>
  cases h with
  |aT h h1 t=>intro x hx;rcases List.mem_cons.1 hx with rfl|hx;exact h1;exact ih t x hx
theorem R.iL{a_ xs bs ys}(h:R G (.l a_ xs))(k:R G (.l bs ys)):R G (.l (a_++bs) (xs++ys)):=by
 induction a_ generalizing xs with
 |nil=>cases h;exact k
 |cons a a_ ih=>cases h with|bK h t=>exact .bK h (ih t)
theorem R.kG{a_ xs bs ys}(h:R G (.k a_ xs))(k:R G (.k bs ys)):R G (.k (a_++bs) (xs++ys)):=by
 induction a_ generalizing xs with
 |nil=>cases h;exact k
 |cons a a_ ih=>cases h with|aT h h1 t=>exact .aT h h1 (ih t)
theorem R.oE{a_ xs}(h:R G (.k a_ xs))(n:Nat):R G (.k (a_.drop n) (xs.drop n)):=by
 induction n generalizing a_ xs with
 |zero=>simpa using h
 |succ n ih=>cases h with|cT=>simpa using R.cT|aT h h1 t=>simpa using ih t
theorem R.s9{a_ xs}(h:R G (.k a_ xs))(n:Nat):R G (.k (a_.take n) (xs.take n)):=by
 induction n generalizing a_ xs with
 |zero=>simpa using R.cT
 |succ n ih=>cases h with|cT=>simpa using R.cT|aT h h1 t=>simpa using R.aT h h1 (ih t)
theorem R.xC{cs vs ds us}(h:R G (.k cs vs))(k:R G (.k ds us))(off:Nat):R G (.k (a0 cs off ds) (vs.take off++us++vs.drop (off+us.length))):=by
 unfold a0;rw [k.eG];exact R.kG (R.kG (h.s9 _) k) (h.oE _)
theorem R.c_k{a vs}(h:R G (.c a vs)):R G (.k (cellsOf a) vs):=by
 cases h with
 |kH h=>exact h
 |mJ ha h1 h=>
  cases a<;>first|exact .aT h h1 .cT|(simp [jG] at ha)
theorem R.tH{a vs}(h:R G (.c a vs)):(cellsOf a).length=vs.length:=h.c_k.eG
theorem R.aE6{sz a_ b o}(h:R G (.r sz a_ b o)){i:Nat}{a:AV}(ha:a_[i]?=some a):
  ∃vs,R G (.c a vs)∧vs.length=sz∧ ∀j y,vs[j]?=some y→G.M b (o+i*sz+j)=some y:=by
 induction a_ generalizing o i with
 |nil=>simp at ha
 |cons x xs ih=>
  cases h with
  |fQ hc hl hM t=>
   cases i with
   |zero=>simp at ha;subst ha;exact⟨_,hc,hl,by simpa using hM⟩
   |succ i=>
    obtain⟨vs,h1,h2,h3⟩:=ih t (by simpa using ha);refine⟨vs,h1,h2,fun j y hy=> ?_⟩;have:=h3 j y hy;rw [show o+(i+1)*sz+j=o+sz+i*sz+j from by rw [Nat.add_mul];omega];exact this
theorem R.aEK{sz a_ b o}(h:R G (.r sz a_ b o))(n:Nat):n≤a_.length→R G (.r sz (a_.drop n) b (o+n*sz)):=by
 induction n generalizing a_ o with
 |zero=>intro _;simpa using h
 |succ n ih=>
  intro hn;cases h with
  |nM=>simp at hn
  |fQ hc hl hM t=>
   have:=ih t (by simpa using hn);simp only [List.drop_succ_cons];rw [show o+(n+1)*sz=o+sz+n*sz from by rw [Nat.add_mul];omega];exact this
theorem R.aEu{sz a_ b o}(h:R G (.r sz a_ b o))(n:Nat):R G (.r sz (a_.take n) b o):=by
 induction n generalizing a_ o with
 |zero=>simpa using R.nM sz b o
 |succ n ih=>
  cases h with
  |nM=>simpa using R.nM sz b o
  |fQ hc hl hM t=>simpa using R.fQ hc hl hM (ih t)
theorem R.aCh{sz a_ bs b o}(h:R G (.r sz a_ b o))(k:R G (.r sz bs b (o+a_.length*sz))):R G (.r sz (a_++bs) b o):=by
 induction a_ generalizing o with
 |nil=>simpa using k
 |cons x xs ih=>
  cases h with
  |fQ hc hl hM t=>
   refine R.fQ hc hl hM (ih t ?_);have e:o+sz+xs.length*sz=o+(x::xs).length*sz:=by simp only [List.length_cons,Nat.add_mul];omega
   rw [e];exact k
theorem R.aEX{sz b:Nat}: ∀{a_:List AV}{o:Nat}{cs:List (List Value)},(∀(i:Nat)(a:AV),a_[i]?=some a→ ∃vs,cs[i]?=some vs∧R G (.c a vs)∧vs.length=sz)→a_.length=cs.length→
  (∀(j:Nat)(y:Value),(cs.flatten)[j]?=some y→G.M b (o+j)=some y)→R G (.r sz a_ b o):=by
 intro a_
 induction a_ with
 |nil=>intro o cs _ _ _;exact .nM sz b o
 |cons x xs ih=>
  intro o cs h hl hM;cases cs with
  |nil=>simp at hl
  |cons c cs=>
   obtain⟨vs,h1,h2,h3⟩:=h 0 x rfl;simp at h1;subst h1;refine .fQ h2 h3 (fun j y hy=>hM j y ?_) (ih (cs:=cs) (fun i a ha=>by simpa using h (i+1) a (by simpa using ha)) (by simpa using hl) fun j y hy=> ?_)
   ·have:j<c.length:=by
     rcases Nat.lt_or_ge j c.length with h|h
     ·exact h
     ·rw [List.getElem?_eq_none h] at hy;cases hy
    simp only [List.flatten_cons];rw [List.getElem?_append_left this];exact hy
   ·have:=hM (sz+j) y (by
     simp only [List.flatten_cons];rw [←h3,List.getElem?_append_right (by omega)];simpa using hy)
    rw [Nat.add_assoc];exact this
end
def bC:AOp→Nat
 | .load .. | .lookup .. =>1
 | .box _| .alloc _| .store .. | .mkMap| .mkSlice .. | .kC .. | .gH _| .iE _| .copy .. | .defer .. | .u9=>2
 | .aI st _ _=>match st with|true=>0|false=>5
 | .append tk _ _ _ _=>match tk with|true=>4|false=>2
 | .call .. | .panic _=>3
 |_=>0
def oW(a b:Nat):Bool:=
 match a,b with
 |3,_|_,3=>true
 |0,_|_,0=>false
 |1,1|1,4|4,1|1,5|5,1|5,5=>false
 |_,_=>true
def dI:aH→List Nat
 | .t i=> [i]
 |_=> []
def m5:Option aH→List Nat
 |some x=>dI x
 |none=> []
def aR:AOp→List Nat
 | .aAP _ _ x| .mv x| .n8 x| .box x| .aAJ x| .un _ x| .toInt _ x| .w9 _ x| .bO _ x| .field _ _ _ x| .gH x| .iE x| .assert _ _ _ x| .extract x _| .j7 x| .jJ x| .panic x| .load _ _ x=>dI x
 | .pick a b c| .kC _ a b c=>dI a++dI b++dI c
 | .pend _| .alloc _| .mkMap| .aEd _| .u9| .bad=> []
 | .shut d _ x=>d::dI x
 | .build _ ps=>ps.flatMap fun p=>dI p.2.2
 | .gO _ _ _ ps| .rG _ _ _ ps=>ps.flatMap fun p=>dI p.2
 | .store _ a b| .bin _ a b| .eq _ a b| .eqF _ _ a b| .hN _ a b| .aEP _ _ a b| .aEf _ _ _ a b| .lB a b| .lookup _ _ _ a b| .append _ _ _ a b| .copy _ a b| .mkSlice _ _ _ a b=>dI a++dI b
 | .sV _ a b=>a.flatMap dI++b.flatMap dI
 | .zF _ x l h m=>dI x++m5 l++m5 h++m5 m
 | .rW x l h| .aDj _ _ x l h=>dI x++m5 l++m5 h
 | .call f xs| .aI _ f xs| .defer f xs=>dI f++xs.flatMap dI
 | .sU _ xs=>xs.flatMap dI
def aN(i:AI):List Nat:=i.d.toList++(match i.op with| .shut d _ _=> [d]|_=> [])
def cE(i:AI):List Nat:=aN i++aR i.op++(match i.gd with|some (t,_)=> [t]|none=> [])
def aCV(ops:List AI):Bool:=
 (List.range ops.length).all fun j=>(List.range j).all fun i=>
  match ops[i]?,ops[j]? with
  |some a,some b=>
   b.pre.contains i||
    !(oW (bC a.op) (bC b.op)||(aN a).any (fun t=>(cE b).contains t)||(aN b).any (fun t=>(cE a).contains t))
  |_,_=>false
def aBb(ops:List AI):Bool:=
 ((List.range ops.length).all fun j=>(List.range j).all fun i=>
  match ops[i]?,ops[j]? with
  |some a,some b=>
   (b.pre.contains i||
    !((oW (bC a.op) (bC b.op)&& !(qF a b))||(aN a).any (fun t=>(cE b).contains t)||(aN b).any (fun t=>(cE a).contains t)))&&
   (!iV a|| !((aN b).any (fun t=>(aR a.op).contains t)))
  |_,_=>false)&&ops.all fun i=> !(Nat.beq (bC i.op) 3)&&(!iV i|| !((aN i).any (fun t=>(aR i.op).contains t)))
def rY:AOp→Bool
 | .bad=>false
 |_=>true
def nW(nt:Nat)(rd:Bool)(ops:List AI):Bool:=
 ops.all fun i=>(aN i).all (fun d=>Nat.blt d nt)&& !(rd&&(match i.op with| .defer .. =>true|_=>false))&&(match i.gd with|none=>true|some _=>rY i.op)
def gA(nt:Nat):Bool→AC→Bool
 |rd,.reg draw ops=>nW nt rd ops&&(!draw||aCV ops)
 |rd,.yJ ops=>nW nt rd ops&&aBb ops
 |rd,.seq a b=>gA nt rd a&&gA nt rd b
 |rd,.cond _ a b=>gA nt rd a&&gA nt rd b
 |rd,.block _ b|rd,.loop b|rd,.scope b=>gA nt rd b
 |_,.pR _ ps a b=>ps.all (fun d=>Nat.blt d nt)&&gA nt true a&&gA nt true b
 |_,_=>true
def aE1:LSt→LoopState→Prop
 | .ready,.ready| .busy,.busy| .done,.done| .exhausted,.exhausted=>True
 |_,_=>False
def aFf:Option cY→Option Code→Prop
 |none,none=>True
 |some .ret,some .ret=>True
 |some (.exit i),some (.exit j)=>i=j
 |_,_=>False
structure sO(P:Program)(G:Gh)(lp:mN)(L:Loop):Prop where
 st:aE1 lp.st L.state
 pend:aFf lp.pend L.pending
 env: ∀i,R G (.v (lp.env i) (L.tmps.getD i undef))
 params:L.params.toList=lp.params
 pok:lp.params.all (fun d=>Nat.blt d L.tmps.size)=true
 assign: ∃h,bJ P h L.assign=some lp.assign∧gA L.tmps.size true lp.assign=true
 body: ∃h,bJ P h L.body=some lp.body∧gA L.tmps.size true lp.body=true
 dq:G.L lp.dq=some L.defers
 aAe: ∃fn,P.funcs[L.fn]?=some fn
inductive kW(G:Gh):List (AV×AV)→List MapEntry→Prop
 |nil:kW G [] []
 |cons {a v e es ents} (hk:R G (.v a e.key)) (hv:R G (.v v e.val)) (t:kW G es ents):kW G ((a,v)::es) (e::ents)
theorem kW.mono{G G':Gh}(hG:G.le G'){es ents}(h:kW G es ents):kW G' es ents:=by
 induction h with
 |nil=>exact .nil
 |cons hk hv _ ih=>exact .cons (hk.mono hG) (hv.mono hG) ih
theorem sO.mono{P:Program}{G G':Gh}(hG:G.le G'){lp L}(h:sO P G lp L):sO P G' lp L:=
 ⟨h.st,h.pend,fun i=>(h.env i).mono hG,h.params,h.pok,h.assign,h.body,hG.L _ _ h.dq,h.aAe⟩
def gD(P:Program)(G:Gh)(b:Nat)(o:Obj):eH→Prop
 | .cells cs wr=> ∃vs e,o= .cells (List.toArray vs) e (0,0)∧R G (.k cs vs)∧(wr=true→ ∀j,G.M b j=none)∧(wr=false→ ∀j x,vs[j]?=some x→G.M b j=some x)
 | .map es=> ∃ents clock,o= .map (List.toArray ents) clock∧kW G es ents
 | .iter t pos=> ∃st,o= .stringIter st pos∧st.data.toList=t∧st.size≤maxLen
 | .loop lp=> ∃L,o= .loop L∧sO P G lp L
 | .z5=>o= .deferred (some [])
 | .dead=>True
structure Bs where
 Pr:Nat→Prop
 w0:World
 M0:Nat→Nat→Option Value
 lt: ∀b,Pr b→b<w0.heap.size
structure aDY(G:Gh)(Pr:Nat→Prop)(w:World)(t n b c sz:Nat):Prop where
 h:G.H t n=some (b,c,sz)
 np: ¬Pr b
 lt:b<w.heap.size
 blk: ∃e cur,w.heap[b]?=some (.cells cur e (0,0))∧cur.size=c*sz
 szp:0<sz
 nc:n≤c
 cm:c≤maxLen
 m: ∀j,n*sz≤j→G.M b j=none
 l: ∀ℓ,G.L ℓ≠some b
structure Inv(P:Program)(B:Bs)(G:Gh)(s:ASt)(w:World):Prop where
 os:w.os=B.w0.os
 tape:w.tape=B.w0.tape
 output:w.output=B.w0.output
 size:B.w0.heap.size≤w.heap.size
 pr: ∀b,B.Pr b→w.heap[b]?=B.w0.heap[b]?
 prM: ∀b,B.Pr b→ ∀o,G.M b o=B.M0 b o
 m: ∀b o x,G.M b o=some x→w.cell? ⟨b,o,none⟩=some x
 l: ∀ℓ b,G.L ℓ=some b→ℓ<s.blks.length∧b<w.heap.size∧ ¬B.Pr b
 inj: ∀ℓ ℓ' b,G.L ℓ=some b→G.L ℓ'=some b→ℓ=ℓ'
 blk: ∀ℓ b o k,G.L ℓ=some b→w.heap[b]?=some o→s.blks[ℓ]?=some k→gD P G b o k
 tok: ∀t n,s.toks[t]?=some n→ ∃b c sz,aDY G B.Pr w t n b c sz
 fP: ∀t t' n n' b c sz c' sz',s.toks[t]?=some n→s.toks[t']?=some n'→G.H t n=some (b,c,sz)→G.H t' n'=some (b,c',sz')→t=t'
 hh: ∀t n x,G.H t n=some x→ ∃n0,s.toks[t]?=some n0∧n≤n0
 tot: ∀ℓ,ℓ<s.blks.length→ ∃b,G.L ℓ=some b
theorem gD.mono{P:Program}{G G':Gh}(hG:G.le G'){b:Nat}{o:Obj}{k:eH}(hM: ∀cs,k= .cells cs true→ ∀j,G'.M b j=none)(h:gD P G b o k):gD P G' b o k:=by
 cases k with
 |cells cs wr=>
  obtain⟨vs,e,h1,h2,h3,h4⟩:=h;refine⟨vs,e,h1,h2.mono hG,fun hw=> ?_,fun hw j x hx=>hG.M _ _ _ (h4 hw j x hx)⟩;subst hw;exact hM cs rfl
 |map es=>obtain⟨ents,clock,h1,h2⟩:=h;exact⟨ents,clock,h1,h2.mono hG⟩
 |iter t pos=>exact h
 |loop lp=>obtain⟨L,h1,h2⟩:=h;exact⟨L,h1,h2.mono hG⟩
 |z5=>exact h
 |dead=>trivial
theorem iD{w:World}{o:Obj}{b:Nat}(h:b≠w.heap.size):(w.alloc o).heap[b]?=w.heap[b]?:=by
 simp only [World.alloc,Array.getElem?_push];rw [if_neg h]
theorem eZ{w:World}{o:Obj}:(w.alloc o).heap[w.heap.size]?=some o:=by unfold World.alloc;simp
theorem eC{w:World}{b:Nat}{o:Obj}(h:w.heap[b]?=some o):b<w.heap.size:=(Array.getElem?_eq_some_iff.1 h).1
theorem fA{w w':World}{a:Addr}(h:w'.heap[a.block]?=w.heap[a.block]?):w'.cell? a=w.cell? a:=by simp [World.cell?,h]
theorem vY{w:World}{a:Addr}{x:Value}(h:w.cell? a=some x):a.block<w.heap.size:=by
 unfold World.cell? at h;split at h
 ·rename_i e;exact eC e
 ·cases h
theorem cell_of{w:World}{b:Nat}{vs:List Value}{e:TypeId}{fr:Nat×Nat}(h:w.heap[b]?=some (.cells vs.toArray e fr))(j:Nat):w.cell? ⟨b,j,none⟩=vs[j]?:=by
 simp [World.cell?,h]
section
variable {P : Program} {B : Bs} {w : World} {G : Gh} {s : ASt}
theorem Inv.tT{s':ASt}(h:Inv P B G s w)(hb:s'.blks=s.blks)(ht:s'.toks=s.toks):Inv P B G s' w:=
 ⟨h.os,h.tape,h.output,h.size,h.pr,h.prM,h.m,by rw [hb];exact h.l,h.inj,by rw [hb];exact h.blk,by rw [ht];exact h.tok,by rw [ht];exact h.fP,by rw [ht];exact h.hh,by rw [hb];exact h.tot⟩
theorem Inv.drawn(h:Inv P B G s w)(d:Nat):Inv P B G s {w with drawn:=d}:=
 ⟨h.os,h.tape,h.output,h.size,h.pr,h.prM,h.m,h.l,h.inj,h.blk,fun t n ht=>let ⟨b,c,sz,k⟩:=h.tok t n ht;⟨b,c,sz,k.h,k.np,k.lt,k.blk,k.szp,k.nc,k.cm,k.m,k.l⟩,h.fP,h.hh,h.tot⟩
theorem Inv.Mlt(h:Inv P B G s w){b o:Nat}{x:Value}(hx:G.M b o=some x):b<w.heap.size:=vY (a:=⟨b,o,none⟩) (h.m b o x hx)
theorem Inv.aDa(h:Inv P B G s w)(o:Nat):G.M w.heap.size o=none:=by
 cases hx:G.M w.heap.size o with
 |none=>rfl
 |some x=>exact absurd (h.Mlt hx) (Nat.lt_irrefl _)
theorem Inv.aDT(h:Inv P B G s w)(ℓ:Nat):G.L ℓ≠some w.heap.size:=fun e=>absurd (h.l _ _ e).2.1 (Nat.lt_irrefl _)
theorem Inv.aAm(h:Inv P B G s w):G.L s.blks.length=none:=by
 cases hx:G.L s.blks.length with
 |none=>rfl
 |some x=>exact absurd (h.l _ _ hx).1 (Nat.lt_irrefl _)
theorem Inv.grow(h:Inv P B G s w){w':World}(ho:w'.os=w.os)(ht:w'.tape=w.tape)(hu:w'.output=w.output)(hs:w.heap.size≤w'.heap.size)
(hk: ∀b,b<w.heap.size→w'.heap[b]?=w.heap[b]?):Inv P B G s w' where
 os:=ho.trans h.os
 tape:=ht.trans h.tape
 output:=hu.trans h.output
 size:=Nat.le_trans h.size hs
 pr:=fun b hb=>(hk b (Nat.lt_of_lt_of_le (B.lt b hb) h.size)).trans (h.pr b hb)
 prM:=h.prM
 m:=fun b o x hx=>(fA (hk b (h.Mlt hx))).trans (h.m b o x hx)
 l:=fun ℓ b hl=>⟨(h.l ℓ b hl).1,Nat.lt_of_lt_of_le (h.l ℓ b hl).2.1 hs,(h.l ℓ b hl).2.2⟩
 inj:=h.inj
 blk:=fun ℓ b o k hl ho hk'=>h.blk ℓ b o k hl (by rw [←hk b (h.l ℓ b hl).2.1];exact ho) hk'
 tok:=fun t n ht=>by
  obtain⟨b,c,sz,k⟩:=h.tok t n ht;exact⟨b,c,sz,k.h,k.np,Nat.lt_of_lt_of_le k.lt hs,by rw [hk b k.lt];exact k.blk,k.szp,k.nc,k.cm,k.m,k.l⟩
 fP:=h.fP
 hh:=h.hh
 tot:=h.tot
theorem Inv.alloc(h:Inv P B G s w)(o:Obj):Inv P B G s (w.alloc o):=
 h.grow rfl rfl rfl (by simp) fun _ hb=>iD (Nat.ne_of_lt hb)
def Gh.eL(G:Gh)(b lo hi:Nat)(vs:List Value):Gh:=
 {G with M:=fun b' o=>if b'=b∧lo≤o∧o<hi then vs[o]? else G.M b' o}
theorem Gh.nD{b lo hi:Nat}{vs:List Value}(hn: ∀o,lo≤o→o<hi→ ∀x,G.M b o=some x→vs[o]?=some x):G.le (G.eL b lo hi vs) where
 M:=fun b' o x hx=>by
  simp only [Gh.eL];split
  ·rename_i hc;obtain⟨rfl,h1,h2⟩:=hc;exact hn o h1 h2 x hx
  ·exact hx
 L:=fun _ _ h=>h
 H:=fun _ _ _ h=>h
theorem fL{b lo hi:Nat}{vs:List Value}{o:Nat}(h1:lo≤o)(h2:o<hi):(G.eL b lo hi vs).M b o=vs[o]?:=by simp [Gh.eL,h1,h2]
theorem lH{b lo hi:Nat}{vs:List Value}{b' o:Nat}(h:b'≠b):(G.eL b lo hi vs).M b' o=G.M b' o:=by simp [Gh.eL,h]
theorem oO{b lo hi:Nat}{vs:List Value}{b' o:Nat}(h: ¬(lo≤o∧o<hi)):(G.eL b lo hi vs).M b' o=G.M b' o:=by simp [Gh.eL,h]
theorem Inv.uR(h:Inv P B G s w){b:Nat}{vs:List Value}{e:TypeId}{fr:Nat×Nat}(hb:w.heap[b]?=some (.cells vs.toArray e fr))(hn: ∀o,G.M b o=none)(hl: ∀ℓ,G.L ℓ≠some b)
(ht: ∀t n b' c sz,s.toks[t]?=some n→G.H t n=some (b',c,sz)→b'≠b)(hp: ¬B.Pr b)(lo hi:Nat):Inv P B (G.eL b lo hi vs) s w:=by
 have hle:G.le (G.eL b lo hi vs):=Gh.nD fun o _ _ x hx=>by rw [hn o] at hx;cases hx
 exact{
  os:=h.os,tape:=h.tape,output:=h.output,size:=h.size,pr:=h.pr
  prM:=fun x hx o=>by
   have hne:x≠b:=fun e'=>hp (by rw [←e'];exact hx);rw [lH hne];exact h.prM x hx o
  m:=fun b' o x hx=>by
   by_cases hc:b'=b∧lo≤o∧o<hi
   ·obtain⟨rfl,h1,h2⟩:=hc;rw [fL h1 h2] at hx;rw [cell_of hb];exact hx
   ·have:G.M b' o=some x:=by simpa [Gh.eL,hc] using hx
    exact h.m b' o x this
  l:=h.l,inj:=h.inj
  blk:=fun ℓ b' o k hl' ho hk=>(h.blk ℓ b' o k hl' ho hk).mono hle fun cs hc j=>by
   have hne:b'≠b:=fun e=>hl ℓ (e▸hl');rw [lH hne];have:=h.blk ℓ b' o k hl' ho hk;subst hc;obtain⟨_,_,_,_,h3,_⟩:=this;exact h3 rfl j
  tok:=fun t n ht'=>by
   obtain⟨b',c,sz,k⟩:=h.tok t n ht';have hne:b'≠b:=ht t n b' c sz ht' k.h;exact⟨b',c,sz,k.h,k.np,k.lt,k.blk,k.szp,k.nc,k.cm,fun j hj=>by rw [lH hne];exact k.m j hj,k.l⟩
  fP:=h.fP,hh:=h.hh,tot:=h.tot}
theorem Inv.aB7(h:Inv P B G s w)(vs:List Value)(e:TypeId)(fr:Nat×Nat)(hi:Nat):
  Inv P B (G.eL w.heap.size 0 hi vs) s (w.alloc (.cells vs.toArray e fr)):=
 (h.alloc _).uR eZ (fun o=>h.aDa o) (fun ℓ=>h.aDT ℓ) (fun t n b' c sz ht hh=>by
  obtain⟨b,c',sz',k⟩:=h.tok t n ht;rw [k.h] at hh;cases hh;exact Nat.ne_of_lt k.lt) (fun hp=>absurd (Nat.lt_of_lt_of_le (B.lt _ hp) h.size) (Nat.lt_irrefl _)) 0 hi
theorem Inv.iF(h:Inv P B G s w)(hi:Nat)(vs:List Value):G.le (G.eL w.heap.size 0 hi vs):=
 Gh.nD fun o _ _ x hx=>by rw [h.aDa o] at hx;cases hx
def Gh.lZ(G:Gh)(l b:Nat):Gh:={G with L:=fun l'=>if l'=l then some b else G.L l'}
theorem iB{l b:Nat}:(G.lZ l b).L l=some b:=by simp [Gh.lZ]
theorem vT{l b l':Nat}(h:l'≠l):(G.lZ l b).L l'=G.L l':=by simp [Gh.lZ,h]
theorem Gh.lF{l b:Nat}(h:G.L l=none):G.le (G.lZ l b) where
 M:=fun _ _ _ h=>h
 L:=fun l' b' hb=>by
  by_cases e:l'=l
  ·subst e;rw [h] at hb;cases hb
  ·rw [vT e];exact hb
 H:=fun _ _ _ h=>h
theorem Inv.p8(h:Inv P B G s w)(o:Obj)(k:eH)(hk:gD P (G.lZ s.blks.length w.heap.size) w.heap.size o k):
  Inv P B (G.lZ s.blks.length w.heap.size) {s with blks:=s.blks++ [k]} (w.alloc o):=by
 have ha:=h.alloc o;have hle:G.le (G.lZ s.blks.length w.heap.size):=Gh.lF h.aAm;have hL: ∀{ℓ b},(G.lZ s.blks.length w.heap.size).L ℓ=some b→(ℓ=s.blks.length∧b=w.heap.size)∨(ℓ≠s.blks.length∧G.L ℓ=some b):=by
  intro ℓ b hb;by_cases e:ℓ=s.blks.length
  ·subst e;rw [iB] at hb;cases hb;exact .inl ⟨rfl,rfl⟩
  ·rw [vT e] at hb;exact .inr ⟨e,hb⟩
 exact{
  os:=ha.os,tape:=ha.tape,output:=ha.output,size:=ha.size,pr:=ha.pr,prM:=ha.prM,m:=ha.m
  l:=fun ℓ b hb=>by
   rcases hL hb with ⟨rfl,rfl⟩|⟨_,hb⟩
   ·exact⟨by simp,by simp,fun hp=>absurd (Nat.lt_of_lt_of_le (B.lt _ hp) h.size) (Nat.lt_irrefl _)⟩
   ·exact⟨by have:=(h.l ℓ b hb).1;simp;omega,(ha.l ℓ b hb).2.1,(h.l ℓ b hb).2.2⟩
  inj:=fun ℓ ℓ' b hb hb'=>by
   rcases hL hb with ⟨rfl,rfl⟩|⟨_,hb⟩<;>rcases hL hb' with ⟨rfl,e⟩|⟨_,hb'⟩
   ·rfl
   ·exact absurd hb' (h.aDT _)
   ·subst e;exact absurd hb (h.aDT _)
   ·exact h.inj _ _ _ hb hb'
  blk:=fun ℓ b o' k' hb ho hk'=>by
   rcases hL hb with ⟨rfl,rfl⟩|⟨hne,hb⟩
   ·rw [eZ] at ho;cases ho;simp at hk';subst hk';exact hk
   ·have hlt:=(h.l ℓ b hb).1;rw [List.getElem?_append_left hlt] at hk';exact(ha.blk ℓ b o' k' hb ho hk').mono hle fun cs hc j=>by
     have:=ha.blk ℓ b o' k' hb ho hk';subst hc;obtain⟨_,_,_,_,h3,_⟩:=this;exact h3 rfl j
  tok:=fun t n ht=>by
   obtain⟨b,c,sz,k⟩:=ha.tok t n ht;obtain⟨b',c',sz',k'⟩:=h.tok t n ht;have he:=k.h.symm.trans k'.h;cases he;exact⟨b,c,sz,k.h,k.np,k.lt,k.blk,k.szp,k.nc,k.cm,k.m,fun ℓ hb=>by
    rcases hL hb with ⟨rfl,rfl⟩|⟨_,hb⟩
    ·exact absurd k'.lt (Nat.lt_irrefl _)
    ·exact k.l ℓ hb⟩
  fP:=ha.fP,hh:=ha.hh
  tot:=fun ℓ hℓ=>by
   by_cases q:ℓ=s.blks.length
   ·subst q;exact⟨_,iB⟩
   ·rw [vT q];refine h.tot ℓ ?_;simp at hℓ;omega}
theorem Inv.put(h:Inv P B G s w){ℓ b:Nat}{o':Obj}{k':eH}(hl:G.L ℓ=some b)(hk:gD P G b o' k')(hM: ∀j x,G.M b j=some x→(w.putObj b o').cell? ⟨b,j,none⟩=some x):
  Inv P B G {s with blks:=s.blks.set ℓ k'} (w.putObj b o'):=by
 have hlt:=(h.l ℓ b hl).2.1;have hne: ∀{x},x≠b→(w.putObj b o').heap[x]?=w.heap[x]?:=fun hx=>World.putObj_heap_other hx;have hsz:(w.putObj b o').heap.size=w.heap.size:=by simp [World.putObj]
 exact{
  os:=h.os,tape:=h.tape,output:=h.output,size:=by rw [hsz];exact h.size
  pr:=fun x hx=>(hne (fun e=>(h.l ℓ b hl).2.2 (e▸hx))).trans (h.pr x hx)
  prM:=h.prM
  m:=fun x j v hv=>by
   by_cases e:x=b
   ·subst e;exact hM j v hv
   ·rw [fA (hne e)];exact h.m x j v hv
  l:=fun ℓ' x hx=>⟨by simpa using (h.l ℓ' x hx).1,by rw [hsz];exact(h.l ℓ' x hx).2.1,(h.l ℓ' x hx).2.2⟩
  inj:=h.inj
  blk:=fun ℓ' x o k hx ho hk'=>by
   by_cases e:ℓ'=ℓ
   ·subst e;rw [hl] at hx;cases hx;rw [World.putObj_heap_same hlt] at ho;cases ho;rw [List.getElem?_set_self (h.l _ _ hl).1] at hk';cases hk';exact hk
   ·have hxb:x≠b:=fun e'=>e (h.inj _ _ _ hx (e'▸hl));rw [hne hxb] at ho;rw [List.getElem?_set_ne (fun e'=>e e'.symm)] at hk';exact h.blk ℓ' x o k hx ho hk'
  tok:=fun t n ht=>by
   obtain⟨x,c,sz,k⟩:=h.tok t n ht;have hxb:x≠b:=fun e=>k.l ℓ (e▸hl);exact⟨x,c,sz,k.h,k.np,by rw [hsz];exact k.lt,by rw [hne hxb];exact k.blk,k.szp,k.nc,k.cm,k.m,k.l⟩
  fP:=h.fP,hh:=h.hh,tot:=fun ℓ hℓ=>h.tot ℓ (by simpa using hℓ)}
theorem Inv.aE3(h:Inv P B G s w){G':Gh}(hle:G.le G')(hLe: ∀ℓ,G'.L ℓ=G.L ℓ)(hHe: ∀t n,G'.H t n=G.H t n){ℓ b:Nat}{k':eH}(hl:G.L ℓ=some b)
(hM: ∀x j,x≠b→G'.M x j=G.M x j)(hMb: ∀j x,G'.M b j=some x→w.cell? ⟨b,j,none⟩=some x)
(hk: ∀o,w.heap[b]?=some o→gD P G' b o k'):Inv P B G' {s with blks:=s.blks.set ℓ k'} w:=by
 exact{
  os:=h.os,tape:=h.tape,output:=h.output,size:=h.size,pr:=h.pr
  prM:=fun x hx o=>by rw [hM x o (fun e=>(h.l ℓ b hl).2.2 (e▸hx))];exact h.prM x hx o
  m:=fun x j v hv=>by
   by_cases e:x=b
   ·subst e;exact hMb j v hv
   ·rw [hM x j e] at hv;exact h.m x j v hv
  l:=fun ℓ' x hx=>by rw [hLe] at hx;exact⟨by simpa using (h.l ℓ' x hx).1,(h.l ℓ' x hx).2⟩
  inj:=fun ℓ' ℓ'' x hx hx'=>by rw [hLe] at hx hx';exact h.inj _ _ _ hx hx'
  blk:=fun ℓ' x o k hx ho hk'=>by
   rw [hLe] at hx;by_cases e:ℓ'=ℓ
   ·subst e;rw [hl] at hx;cases hx;rw [List.getElem?_set_self (h.l _ _ hl).1] at hk';cases hk';exact hk o ho
   ·have hxb:x≠b:=fun e'=>e (h.inj _ _ _ hx (e'▸hl));rw [List.getElem?_set_ne (fun e'=>e e'.symm)] at hk';refine(h.blk ℓ' x o k hx ho hk').mono hle fun cs hc j=> ?_;rw [hM x j hxb];have:=h.blk ℓ' x o k hx ho hk';subst hc;obtain⟨_,_,_,_,h3,_⟩:=this;exact h3 rfl j
  tok:=fun t n ht=>by
   obtain⟨x,c,sz,k⟩:=h.tok t n ht;have hxb:x≠b:=fun e=>k.l ℓ (e▸hl);exact⟨x,c,sz,by rw [hHe];exact k.h,k.np,k.lt,k.blk,k.szp,k.nc,k.cm,fun j hj=>by rw [hM x j hxb];exact k.m j hj,fun ℓ'=>by rw [hLe];exact k.l ℓ'⟩
  fP:=fun t t' n n' b' c sz c' sz' h1 h2 h3 h4=>by rw [hHe] at h3 h4;exact h.fP t t' n n' b' c sz c' sz' h1 h2 h3 h4
  hh:=fun t n x hx=>by rw [hHe] at hx;exact h.hh t n x hx
  tot:=fun ℓ' hℓ=>by rw [hLe];exact h.tot ℓ' (by simpa using hℓ)}
structure Quiet(G:Gh)(w:World)(G':Gh)(w':World):Prop where
 le:G.le G'
 L: ∀ℓ,G'.L ℓ=G.L ℓ
 H: ∀t n,G'.H t n=G.H t n
 os:w'.os=w.os
 tape:w'.tape=w.tape
 output:w'.output=w.output
 size:w.heap.size≤w'.heap.size
 aBG: ∀b,b<w.heap.size→w'.heap[b]?=w.heap[b]?
 old: ∀b,b<w.heap.size→ ∀o,G'.M b o=G.M b o
 new: ∀b o x,w.heap.size≤b→G'.M b o=some x→w'.cell? ⟨b,o,none⟩=some x
theorem Quiet.refl(G:Gh)(w:World)(h: ∀b o x,w.heap.size≤b→G.M b o=some x→w.cell? ⟨b,o,none⟩=some x):Quiet G w G w:=
 ⟨.refl _,fun _=>rfl,fun _ _=>rfl,rfl,rfl,rfl,Nat.le_refl _,fun _ _=>rfl,fun _ _ _=>rfl,h⟩
theorem Inv.quiet(h:Inv P B G s w):Quiet G w G w:= .refl _ _ fun b o x _ hx=>h.m b o x hx
theorem Quiet.inv{G':Gh}{w':World}(q:Quiet G w G' w')(h:Inv P B G s w):Inv P B G' s w' where
 os:=q.os.trans h.os
 tape:=q.tape.trans h.tape
 output:=q.output.trans h.output
 size:=Nat.le_trans h.size q.size
 pr:=fun b hb=>(q.aBG b (Nat.lt_of_lt_of_le (B.lt b hb) h.size)).trans (h.pr b hb)
 prM:=fun b hb o=>(q.old b (Nat.lt_of_lt_of_le (B.lt b hb) h.size) o).trans (h.prM b hb o)
 m:=fun b o x hx=>by
  rcases Nat.lt_or_ge b w.heap.size with hb|hb
  ·rw [q.old b hb] at hx;exact(fA (q.aBG b hb)).trans (h.m b o x hx)
  ·exact q.new b o x hb hx
 l:=fun ℓ b hl=>by rw [q.L] at hl;exact⟨(h.l ℓ b hl).1,Nat.lt_of_lt_of_le (h.l ℓ b hl).2.1 q.size,(h.l ℓ b hl).2.2⟩
 inj:=fun ℓ ℓ' b hl hl'=>by rw [q.L] at hl hl';exact h.inj _ _ _ hl hl'
 blk:=fun ℓ b o k hl ho hk=>by
  rw [q.L] at hl;have hlt:=(h.l ℓ b hl).2.1;rw [q.aBG b hlt] at ho;refine(h.blk ℓ b o k hl ho hk).mono q.le fun cs hc j=> ?_;rw [q.old b hlt];have:=h.blk ℓ b o k hl ho hk;subst hc;obtain⟨_,_,_,_,h3,_⟩:=this;exact h3 rfl j
 tok:=fun t n ht=>by
  obtain⟨b,c,sz,k⟩:=h.tok t n ht;exact⟨b,c,sz,by rw [q.H];exact k.h,k.np,Nat.lt_of_lt_of_le k.lt q.size,by rw [q.aBG b k.lt];exact k.blk,k.szp,k.nc,k.cm,fun j hj=>by rw [q.old b k.lt];exact k.m j hj,fun ℓ=>by rw [q.L];exact k.l ℓ⟩
 fP:=fun t t' n n' b c sz c' sz' h1 h2 h3 h4=>by rw [q.H] at h3 h4;exact h.fP t t' n n' b c sz c' sz' h1 h2 h3 h4
 hh:=fun t n x hx=>by rw [q.H] at hx;exact h.hh t n x hx
 tot:=fun ℓ hℓ=>by rw [q.L];exact h.tot ℓ hℓ
theorem Inv.aAF(h:Inv P B G s w)(vs:List Value)(e:TypeId)(fr:Nat×Nat)(hi:Nat):Quiet G w (G.eL w.heap.size 0 hi vs) (w.alloc (.cells vs.toArray e fr)) where
 le:=h.iF hi vs
 L:=fun _=>rfl
 H:=fun _ _=>rfl
 os:=rfl
 tape:=rfl
 output:=rfl
 size:=by simp
 aBG:=fun b hb=>iD (Nat.ne_of_lt hb)
 old:=fun b hb o=>lH (Nat.ne_of_lt hb)
 new:=fun b o x hb hx=>(h.aB7 vs e fr hi).m b o x hx
end
theorem kO{G:Gh}{v:Value}{a:AV}(h:pN v=some a):R G (.v a v)∧v.oneCell'=true∧jG a=false:=by
 unfold pN at h;split at h
 ·rename_i k n;split at h
  ·rename_i hk;cases h;exact⟨.int hk,rfl,rfl⟩
  ·cases h
 ·cases h;exact⟨.bool _,rfl,rfl⟩
 ·split at h
  ·rename_i hb;cases h;exact⟨.str _ (by simp only [big,maxLen] at*;omega),rfl,rfl⟩
  ·cases h
 ·cases h;exact⟨.aW (by simp [maxLen]) rfl,rfl,rfl⟩
 ·cases h;exact⟨.cB,rfl,rfl⟩
 ·cases h;exact⟨.cF,rfl,rfl⟩
 ·cases h;exact⟨.bQ,rfl,rfl⟩
 ·cases h;exact⟨.a9,rfl,rfl⟩
 ·cases h
theorem pX{G:Gh}: ∀{vs:List Value}{a_:List AV},kF vs=some a_→R G (.k a_ vs)
 | [],a_,h=>by simp [kF] at h;subst h;exact .cT
 |v::vs,a_,h=>by
  simp only [kF] at h;split at h
  ·rename_i x xs h1 h2;cases h;obtain⟨k1,k2,_⟩:=kO (G:=G) h1;exact .aT k1 k2 (pX h2)
  ·cases h
theorem xG{G:Gh}{v:Value}{a:AV}(h:aAY v=some a):R G (.v a v):=by
 unfold aAY at h;split at h
 ·rename_i cs;split at h
  ·rename_i xs hx;cases h;simpa using R.agg (pX (G:=G) hx)
  ·cases h
 ·exact(kO h).1
theorem gS{P:Program}{G:Gh}{t:TypeId}{z:List AV}(h:zeroOf P t=some z): ∃i v,P.info? t=some i∧i.zero=some v∧R G (.k z v.cells.toList):=by
 unfold zeroOf at h;cases hi:P.info? t with
 |none=>simp [hi] at h
 |some i=>
  simp only [hi,Option.bind_some] at h;cases hz:i.zero with
  |none=>simp [hz] at h
  |some v=>
   simp only [hz] at h;refine⟨i,v,rfl,hz,?_⟩;cases v with
   |agg cs=>simp only at h;exact pX h
   |_=>
    simp only [Option.map_eq_some_iff] at h;obtain⟨a,h1,rfl⟩:=h;obtain⟨k1,k2,_⟩:=kO (G:=G) h1;exact .aT k1 k2 .cT
theorem bF{P:Program}{t:TypeId}{i:TypeInfo}{v:Value}(hi:P.info? t=some i)(hz:i.zero=some v)(w:World):(zeroValue t).run P w= .ok v w:=by
 simp [zeroValue,typeInfo,hi,hz]
theorem eM{P:Program}{t:TypeId}{i:TypeInfo}(hi:P.info? t=some i)(w:World):(sizeOf t).run P w= .ok (P.cellsOf t) w:=by
 simp [sizeOf,typeInfo,hi,Program.cellsOf]
theorem uE{P:Program}{t:TypeId}{d:TypeDesc}(h:P.underlying t=some d): ∃i,P.info? t=some i:=by
 unfold Program.underlying at h;split at h
 ·exact⟨_,by assumption⟩
 ·exact⟨_,by assumption⟩
 ·cases h
theorem dP{P:Program}{t:TypeId}{d:TypeDesc}(h:P.underlying t=some d)(w:World):(sizeOf t).run P w= .ok (P.cellsOf t) w:=by
 obtain⟨i,hi⟩:=uE h;exact eM hi w
theorem kR{P:Program}{t:TypeId}{b:Bool}(h:fY P t=some b)(w:World):(isAgg t).run P w= .ok b w:=by
 unfold fY at h;split at h
 ·rename_i fs hu;cases h;simp [isAgg,run_underlying hu]
 ·rename_i n e hu;cases h;simp [isAgg,run_underlying hu]
 ·rename_i d h1 h2 hu;cases h;simp only [isAgg,Sem.run_bind,run_underlying hu,Result.andThen_ok]
  rfl
 ·cases h
theorem iX{P:Program}{t:TypeId}{b:Bool}(h:fY P t=some b): ∃d,P.underlying t=some d:=by
 unfold fY at h;split at h
 ·exact⟨_,by assumption⟩
 ·exact⟨_,by assumption⟩
 ·exact⟨_,by assumption⟩
 ·cases h
section
variable {P : Program} {B : Bs} {G : Gh} {s : ASt} {w : World}
theorem wI{a a':AV}{x:Value}(h:dY a=some a')(r:R G (.v a x)):R G (.v a' x)∧x.oneCell'=true∧jG a'=false:=by
 cases r with
 | @aW sz o A c hm ho=>
  cases o with
  |no=>simp [dY] at h;subst h;exact⟨.aW hm trivial,rfl,rfl⟩
  |full=>simp [dY] at h;subst h;exact⟨.aW hm trivial,rfl,rfl⟩
  |lit=>simp [dY] at h;subst h;exact⟨.aW hm ho,rfl,rfl⟩
  |tok t=>simp [dY] at h;subst h;exact⟨.aW hm trivial,rfl,rfl⟩
 | @bA sz xs o b off c hc hm hr ho=>
  have key: ∀z,z=szC sz xs→R G (.v (.slice z xs .no) (.slice (some ⟨b,off,none⟩) xs.length c)):=fun z hz=>by
   subst hz;cases xs with
   |nil=>exact .aW hm trivial
   |cons y ys=>exact .bA hc hm hr trivial
  cases o with
  |no=>simp [dY] at h;subst h;exact⟨.bA hc hm hr trivial,rfl,rfl⟩
  |full=>simp [dY] at h;subst h;exact⟨key _ rfl,rfl,rfl⟩
  |lit=>
   simp [dY] at h;subst h;refine⟨?_,rfl,rfl⟩;cases xs with
   |nil=>exact .aW hm ho
   |cons y ys=>exact .bA hc hm hr ho
  |tok t=>simp [dY] at h;subst h;exact⟨key _ rfl,rfl,rfl⟩
 |ms hL hc hm=>simp [dY] at h
 |agg h=>simp [dY] at h
 |tuple h=>simp [dY] at h
 |fZ x=>simp [dY] at h
 |int h'=>simp [dY] at h;subst h;exact⟨.int h',rfl,rfl⟩
 |bool b=>simp [dY] at h;subst h;exact⟨.bool b,rfl,rfl⟩
 |str t ht=>simp [dY] at h;subst h;exact⟨.str t ht,rfl,rfl⟩
 |cB=>simp [dY] at h;subst h;exact⟨.cB,rfl,rfl⟩
 |ptr off hL=>simp [dY] at h;subst h;exact⟨.ptr off hL,rfl,rfl⟩
 |a8 off hc hM=>simp [dY] at h;subst h;exact⟨.a8 off hc hM,rfl,rfl⟩
 |func ha hb=>simp [dY] at h;subst h;exact⟨.func ha hb,rfl,rfl⟩
 |bQ=>simp [dY] at h;subst h;exact⟨.bQ,rfl,rfl⟩
 |yield hL=>simp [dY] at h;subst h;exact⟨.yield hL,rfl,rfl⟩
 |map hL=>simp [dY] at h;subst h;exact⟨.map hL,rfl,rfl⟩
 |cF=>simp [dY] at h;subst h;exact⟨.cF,rfl,rfl⟩
 |iface h'=>simp [dY] at h;subst h;exact⟨.iface h',rfl,rfl⟩
 |a9=>simp [dY] at h;subst h;exact⟨.a9,rfl,rfl⟩
 |iter hL=>simp [dY] at h;subst h;exact⟨.iter hL,rfl,rfl⟩
theorem wX: ∀{a_ as':List AV}{xs:List Value},tI a_=some as'→R G (.k a_ xs)→R G (.k as' xs)
 | [],as',xs,h,r=>by simp [tI] at h;subst h;exact r
 |a::a_,as',xs,h,r=>by
  cases r with
  |aT r1 r2 r3=>
   simp only [tI] at h;split at h
   ·cases h
   ·rename_i y hy;split at h
    ·cases h
    ·rename_i ys hys;cases h;obtain⟨k1,k2,_⟩:=wI hy r1;exact .aT k1 k2 (wX hys r3)
theorem uY{x:Value}(h:x.oneCell'=true):x.cells.toList= [x]:=by cases x<;>first|rfl|(simp [Value.oneCell'] at h)
theorem iA{a a':AV}{x:Value}(h:eK a=some a')(r:R G (.v a x)):R G (.v a' x)∧R G (.c a' x.cells.toList):=by
 unfold eK at h;split at h
 ·rename_i cs;split at h
  ·rename_i ds hd;cases h;cases r with
   |agg r=>
    have:=wX hd r;exact⟨.agg this,by simpa [Value.cells] using R.kH this⟩
  ·cases h
 ·obtain⟨k1,k2,k3⟩:=wI h r;exact⟨k1,by rw [uY k2];exact .mJ k3 k2 k1⟩
theorem jU: ∀{a_ as':List AV}{xs:List Value},cM a_=some as'→R G (.l a_ xs)→R G (.l as' xs)
 | [],as',xs,h,r=>by simp [cM] at h;subst h;exact r
 |a::a_,as',xs,h,r=>by
  cases r with
  |bK r1 r3=>
   simp only [cM] at h;split at h
   ·cases h
   ·rename_i y hy;split at h
    ·cases h
    ·rename_i ys hys;cases h;exact .bK (iA hy r1).1 (jU hys r3)
structure Opn(P':aK)(env:Env)(G:Gh)(ρ:Operand→Value):Prop where
 out: ∀x y,bD x=some y→R G (.v (evO P' env y) (ρ x))
def cS(P':aK)(G:Gh):Prop:= ∀g,R G (.v (.a8 (P'.gl g) 0) (.pointer (some ⟨g,0,none⟩)))
theorem cS.mono{P':aK}{G G':Gh}(hG:G.le G')(h:cS P' G):cS P' G':=fun g=>(h g).mono hG
def eA(G:Gh)(nt:Nat)(env:Env)(tmps:Array Value):Prop:=tmps.size=nt∧ ∀i,R G (.v (env i) (tmps.getD i undef))
theorem eA.mono{G G':Gh}(hG:G.le G'){nt:Nat}{env:Env}{tmps:Array Value}(h:eA G nt env tmps):eA G' nt env tmps:=⟨h.1,fun i=>(h.2 i).mono hG⟩
theorem lO{P':aK}{env:Env}{nt:Nat}{a:Act}(hE:eA G nt env a.tmps)(hg:cS P' G):Opn P' env G a.eval:=⟨by
 intro x y hxy;cases x with
 |tmp t=>simp [bD] at hxy;subst hxy;exact hE.2 t
 |const v=>
  simp only [bD,Option.map_eq_some_iff] at hxy;obtain⟨av,h1,rfl⟩:=hxy;exact xG h1
 |global g=>simp [bD] at hxy;subst hxy;exact hg g
 |func f=>simp [bD] at hxy;subst hxy;simpa [Act.eval,evO] using R.func (f:=f) .iO .iO⟩
variable {P' : aK} {env : Env} {ρ : Operand → Value}
theorem kV(hO:Opn P' env G ρ): ∀{xs:List Operand}{ys:List aH},j2 xs=some ys→R G (.l (ys.map (evO P' env)) (xs.map ρ))
 | [],ys,h=>by simp [j2] at h;subst h;exact .iO
 |x::xs,ys,h=>by
  simp only [j2] at h;split at h
  ·rename_i y ys' h1 h2;cases h;exact .bK (hO.out _ _ h1) (kV hO h2)
  ·cases h
def fH(P:Program)(G:Gh)(w:World)(m:Sem Value)(v:AV):Prop:=
 ∃x w' G',m.run P w= .ok x w'∧Quiet G w G' w'∧R G' (.v v x)
theorem fH.of(hI:Inv P B G s w){m:Sem Value}{v:AV}{x:Value}(h:m.run P w= .ok x w)(r:R G (.v v x)):fH P G w m v:=⟨x,w,G,h,hI.quiet,r⟩
theorem aEb(hI:Inv P B G s w){c a b:AV}{xc xa xb:Value}(hc:R G (.v c xc))(ha:R G (.v a xa))(hb:R G (.v b xb)){v:AV}
(h:(match(generalizing:=false) c with| .bool t=>some (match t with|true=>a|false=>b)|_=>none)=some v):fH P G w (do pure (if←asBool xc then xa else xb)) v:=by
 cases hc<;>simp at h;rename_i t;subst h;cases t with
 |true=>exact .of hI (x:=xa) (by simp [asBool]) ha
 |false=>exact .of hI (x:=xb) (by simp [asBool]) hb
theorem aEx(hI:Inv P B G s w){a v:AV}{x:Value}(r:R G (.v a x))(t:TypeId)(h:(match(generalizing:=false) eK a with|some v=>some (AV.a8 v 0)|none=>none)=some v):fH P G w (Instr.box t x) v:=by
 split at h
 ·rename_i a' ha;cases h;obtain⟨k1,k2⟩:=iA ha r;refine⟨.pointer (some ⟨w.heap.size,0,none⟩),w.alloc (.cells x.cells t),G.eL w.heap.size 0 x.cells.toList.length x.cells.toList,?_,?_,?_⟩
  ·simp [Instr.box,newVar,newRow]
  ·have:=hI.aAF x.cells.toList t (0,0) x.cells.toList.length;simpa using this
  ·have hle:=hI.iF x.cells.toList.length x.cells.toList;have:=R.a8 (G:=G.eL w.heap.size 0 x.cells.toList.length x.cells.toList) (b:=w.heap.size) (o:=0) 0 (k2.mono hle) (fun j y hy=>by
    have hj:j<x.cells.toList.length:=by
     rcases Nat.lt_or_ge j x.cells.toList.length with h|h
     ·exact h
     ·rw [List.getElem?_eq_none h] at hy;cases hy
    rw [Nat.zero_add,fL (Nat.zero_le _) hj];exact hy)
   simpa using this
 ·cases h
theorem aCE(hI:Inv P B G s w){a v:AV}{x:Value}(r:R G (.v a x))(o:Oper)(y:Operand)(ho:o.op= .nilCheck y)(hy:ρ y=x)
(h:(match(generalizing:=false) a with| .ptr l o=>some (AV.ptr l o)| .a8 v o=>some (.a8 v o)| .func f a b=>some (.func f a b)| .yield l=>some (.yield l)|_=>none)=some v):
  ∃x w' G',(execOp ρ o).run P w= .ok (.value x) w'∧Quiet G w G' w'∧R G' (.v v x):=by
 refine⟨x,w,G,?_,hI.quiet,?_⟩
 ·cases r<;>simp at h<;>simp [execOp,ho,hy]
 ·cases r<;>simp at h<;>subst h
  ·exact .ptr _ (by assumption)
  ·exact .a8 _ (by assumption) (by assumption)
  ·exact .func (by assumption) (by assumption)
  ·exact .yield (by assumption)
theorem wrap_wrap(k:IntKind)(n:Int):k.wrap (k.wrap n)=k.wrap n:=by
 cases k
 ·have e: ∀n,IntKind.i8.wrap n=if n%256≥128 then n%256-256 else n%256:=fun n=>by simp [IntKind.wrap,IntKind.bits,IntKind.signed]
  rw [e,e];by_cases h:n%256≥128
  ·rw [if_pos h,if_pos (by omega)];omega
  ·rw [if_neg h,if_neg (by omega)];omega
 ·have e: ∀n,IntKind.i16.wrap n=if n%65536≥32768 then n%65536-65536 else n%65536:=fun n=>by simp [IntKind.wrap,IntKind.bits,IntKind.signed]
  rw [e,e];by_cases h:n%65536≥32768
  ·rw [if_pos h,if_pos (by omega)];omega
  ·rw [if_neg h,if_neg (by omega)];omega
 ·have e: ∀n,IntKind.i32.wrap n=if n%4294967296≥2147483648 then n%4294967296-4294967296 else n%4294967296:=fun n=>by simp [IntKind.wrap,IntKind.bits,IntKind.signed]
  rw [e,e];by_cases h:n%4294967296≥2147483648
  ·rw [if_pos h,if_pos (by omega)];omega
  ·rw [if_neg h,if_neg (by omega)];omega
 ·have e: ∀n,IntKind.i64.wrap n=if n%18446744073709551616≥9223372036854775808 then n%18446744073709551616-18446744073709551616 else n%18446744073709551616:=fun n=>by simp [IntKind.wrap,IntKind.bits,IntKind.signed]
  rw [e,e];by_cases h:n%18446744073709551616≥9223372036854775808
  ·rw [if_pos h,if_pos (by omega)];omega
  ·rw [if_neg h,if_neg (by omega)];omega
 ·have e: ∀n,IntKind.u8.wrap n=n%256:=fun n=>by simp [IntKind.wrap,IntKind.bits,IntKind.signed]
  rw [e,e];omega
 ·have e: ∀n,IntKind.u16.wrap n=n%65536:=fun n=>by simp [IntKind.wrap,IntKind.bits,IntKind.signed]
  rw [e,e];omega
 ·have e: ∀n,IntKind.u32.wrap n=n%4294967296:=fun n=>by simp [IntKind.wrap,IntKind.bits,IntKind.signed]
  rw [e,e];omega
 ·have e: ∀n,IntKind.u64.wrap n=n%18446744073709551616:=fun n=>by simp [IntKind.wrap,IntKind.bits,IntKind.signed]
  rw [e,e];omega
theorem oP{k:IntKind}{a n:Int}(ha:k.wrap a=a)(h:(0≤n∧n≤a)∨(a≤n∧n≤0)):k.wrap n=n:=by
 cases k
 ·have e: ∀n,IntKind.i8.wrap n=if n%256≥128 then n%256-256 else n%256:=fun n=>by simp [IntKind.wrap,IntKind.bits,IntKind.signed]
  rw [e] at ha⊢;by_cases h1:a%256≥128
  ·rw [if_pos h1] at ha;by_cases h2:n%256≥128
   ·rw [if_pos h2];omega
   ·rw [if_neg h2];omega
  ·rw [if_neg h1] at ha;by_cases h2:n%256≥128
   ·rw [if_pos h2];omega
   ·rw [if_neg h2];omega
 ·have e: ∀n,IntKind.i16.wrap n=if n%65536≥32768 then n%65536-65536 else n%65536:=fun n=>by simp [IntKind.wrap,IntKind.bits,IntKind.signed]
  rw [e] at ha⊢;by_cases h1:a%65536≥32768
  ·rw [if_pos h1] at ha;by_cases h2:n%65536≥32768
   ·rw [if_pos h2];omega
   ·rw [if_neg h2];omega
  ·rw [if_neg h1] at ha;by_cases h2:n%65536≥32768
   ·rw [if_pos h2];omega
   ·rw [if_neg h2];omega
 ·have e: ∀n,IntKind.i32.wrap n=if n%4294967296≥2147483648 then n%4294967296-4294967296 else n%4294967296:=fun n=>by simp [IntKind.wrap,IntKind.bits,IntKind.signed]
  rw [e] at ha⊢;by_cases h1:a%4294967296≥2147483648
  ·rw [if_pos h1] at ha;by_cases h2:n%4294967296≥2147483648
   ·rw [if_pos h2];omega
   ·rw [if_neg h2];omega
  ·rw [if_neg h1] at ha;by_cases h2:n%4294967296≥2147483648
   ·rw [if_pos h2];omega
   ·rw [if_neg h2];omega
 ·have e: ∀n,IntKind.i64.wrap n=if n%18446744073709551616≥9223372036854775808 then n%18446744073709551616-18446744073709551616 else n%18446744073709551616:=fun n=>by simp [IntKind.wrap,IntKind.bits,IntKind.signed]
  rw [e] at ha⊢;by_cases h1:a%18446744073709551616≥9223372036854775808
  ·rw [if_pos h1] at ha;by_cases h2:n%18446744073709551616≥9223372036854775808
   ·rw [if_pos h2];omega
   ·rw [if_neg h2];omega
  ·rw [if_neg h1] at ha;by_cases h2:n%18446744073709551616≥9223372036854775808
   ·rw [if_pos h2];omega
   ·rw [if_neg h2];omega
 ·have e: ∀n,IntKind.u8.wrap n=n%256:=fun n=>by simp [IntKind.wrap,IntKind.bits,IntKind.signed]
  rw [e] at ha⊢;omega
 ·have e: ∀n,IntKind.u16.wrap n=n%65536:=fun n=>by simp [IntKind.wrap,IntKind.bits,IntKind.signed]
  rw [e] at ha⊢;omega
 ·have e: ∀n,IntKind.u32.wrap n=n%4294967296:=fun n=>by simp [IntKind.wrap,IntKind.bits,IntKind.signed]
  rw [e] at ha⊢;omega
 ·have e: ∀n,IntKind.u64.wrap n=n%18446744073709551616:=fun n=>by simp [IntKind.wrap,IntKind.bits,IntKind.signed]
  rw [e] at ha⊢;omega
theorem aBZ{k:IntKind}{a b:Int}(ha:k.wrap a=a):k.wrap (a.tmod b)=a.tmod b:=by
 refine oP ha ?_;rcases Int.le_total 0 a with h|h
 ·exact .inl ⟨Int.tmod_nonneg b h,by
   have:=Int.tmod_add_mul_tdiv a b;have h2:0≤b*a.tdiv b:=by
    rcases Int.le_total 0 b with hb|hb
    ·exact Int.mul_nonneg hb (Int.tdiv_nonneg h hb)
    ·exact Int.mul_nonneg_of_nonpos_of_nonpos hb (Int.tdiv_nonpos_of_nonneg_of_nonpos h hb)
   omega⟩
 ·refine .inr ?_;have e:a.tmod b= -((-a).tmod b):=by rw [Int.neg_tmod,Int.neg_neg]
  have h0:0≤(-a).tmod b:=Int.tmod_nonneg b (by omega);have:=Int.tmod_add_mul_tdiv (-a) b;have h2:0≤b*(-a).tdiv b:=by
   rcases Int.le_total 0 b with hb|hb
   ·exact Int.mul_nonneg hb (Int.tdiv_nonneg (by omega) hb)
   ·exact Int.mul_nonneg_of_nonpos_of_nonpos hb (Int.tdiv_nonpos_of_nonneg_of_nonpos (by omega) hb)
  omega
theorem aBz{k:IntKind}{a:Int}(ha:k.wrap a=a)(n:Nat):k.wrap (a.fdiv (2^n))=a.fdiv (2^n):=by
 have hp:(0:Int)<2^n:=Int.pow_pos (by decide);rw [Int.fdiv_eq_ediv_of_nonneg _ (Int.le_of_lt hp)];refine oP ha ?_;rcases Int.le_total 0 a with h|h
 ·exact .inl ⟨Int.ediv_nonneg h (Int.le_of_lt hp),Int.ediv_le_self _ h⟩
 ·refine .inr ⟨?_,?_⟩
  ·rw [Int.le_ediv_iff_mul_le hp];have h3:a*(2^n-1)≤0:=Int.mul_nonpos_of_nonpos_of_nonneg h (by omega);rw [Int.mul_sub,Int.mul_one] at h3;omega
  ·exact Int.ediv_nonpos_of_nonpos_of_neg h hp|>fun x=>x
theorem aCB(s t:ByteArray):(s.toList==t.toList)=(s.data.toList==t.data.toList):=by rw [ByteArray.toList_eq,ByteArray.toList_eq]
theorem aE8(hI:Inv P B G s w){op:BinOp}{a b v:AV}{xa xb:Value}(ha:R G (.v a xa))(hb:R G (.v b xb))(t:TypeId)(x y:Operand)(h:aAy op a b=some v):
  fH P G w (do eqGuard op t x y xa xb;binOp op t xa xb) v:=by
 cases ha with
 |int hk=>
  rename_i k n;cases hb with
  |int hk'=>
   rename_i k' n';have hg: ∀op,(eqGuard op t x y (.int k n) (.int k' n')).run P w= .ok () w:=fun op=>by unfold eqGuard;split<;>simp
   cases op<;>simp only [aAy] at h
   case add=>
    split at h
    ·rename_i hkk;subst hkk;simp only [fO] at h;cases h;exact .of hI (x:= .int k _) (by simp only [Sem.run_bind,hg,Result.andThen_ok,binOp];simp [Op.intArith]) (.int (wrap_wrap _ _))
    ·cases h
   case sub=>
    split at h
    ·rename_i hkk;subst hkk;simp only [fO] at h;cases h;exact .of hI (x:= .int k _) (by simp only [Sem.run_bind,hg,Result.andThen_ok,binOp];simp [Op.intArith]) (.int (wrap_wrap _ _))
    ·cases h
   case mul=>
    split at h
    ·rename_i hkk;subst hkk;simp only [fO] at h;cases h;exact .of hI (x:= .int k _) (by simp only [Sem.run_bind,hg,Result.andThen_ok,binOp];simp [Op.intArith]) (.int (wrap_wrap _ _))
    ·cases h
   case quo=>
    split at h
    ·rename_i hkk;subst hkk;simp only [fO] at h;split at h
     ·cases h
     ·rename_i hz;cases h;exact .of hI (x:= .int k _) (by simp only [Sem.run_bind,hg,Result.andThen_ok,binOp];simp [Op.intDiv,hz]) (.int (wrap_wrap _ _))
    ·cases h
   case rem=>
    split at h
    ·rename_i hkk;subst hkk;simp only [fO] at h;split at h
     ·cases h
     ·rename_i hz;cases h;exact .of hI (x:= .int k _) (by simp only [Sem.run_bind,hg,Result.andThen_ok,binOp];simp [Op.intDiv,hz]) (.int (aBZ hk))
    ·cases h
   case and=>
    split at h
    ·rename_i hkk;subst hkk;simp only [fO] at h;cases h;exact .of hI (x:= .int k _) (by simp only [Sem.run_bind,hg,Result.andThen_ok,binOp];simp [Op.intBits]) (.int (wrap_wrap _ _))
    ·cases h
   case or=>
    split at h
    ·rename_i hkk;subst hkk;simp only [fO] at h;cases h;exact .of hI (x:= .int k _) (by simp only [Sem.run_bind,hg,Result.andThen_ok,binOp];simp [Op.intBits]) (.int (wrap_wrap _ _))
    ·cases h
   case xor=>
    split at h
    ·rename_i hkk;subst hkk;simp only [fO] at h;cases h;exact .of hI (x:= .int k _) (by simp only [Sem.run_bind,hg,Result.andThen_ok,binOp];simp [Op.intBits]) (.int (wrap_wrap _ _))
    ·cases h
   case andNot=>
    split at h
    ·rename_i hkk;subst hkk;simp only [fO] at h;cases h;exact .of hI (x:= .int k _) (by simp only [Sem.run_bind,hg,Result.andThen_ok,binOp];simp [Op.intBits]) (.int (wrap_wrap _ _))
    ·cases h
   case eql=>
    split at h
    ·rename_i hkk;subst hkk;simp only [fO] at h;cases h;exact .of hI (x:= .bool _) (by simp only [Sem.run_bind,hg,Result.andThen_ok,binOp];simp [Op.intCmp]) (.bool _)
    ·cases h
   case neq=>
    split at h
    ·rename_i hkk;subst hkk;simp only [fO] at h;cases h;exact .of hI (x:= .bool _) (by simp only [Sem.run_bind,hg,Result.andThen_ok,binOp];simp [Op.intCmp]) (.bool _)
    ·cases h
   case lss=>
    split at h
    ·rename_i hkk;subst hkk;simp only [fO] at h;cases h;exact .of hI (x:= .bool _) (by simp only [Sem.run_bind,hg,Result.andThen_ok,binOp];simp [Op.intCmp]) (.bool _)
    ·cases h
   case leq=>
    split at h
    ·rename_i hkk;subst hkk;simp only [fO] at h;cases h;exact .of hI (x:= .bool _) (by simp only [Sem.run_bind,hg,Result.andThen_ok,binOp];simp [Op.intCmp]) (.bool _)
    ·cases h
   case gtr=>
    split at h
    ·rename_i hkk;subst hkk;simp only [fO] at h;cases h;exact .of hI (x:= .bool _) (by simp only [Sem.run_bind,hg,Result.andThen_ok,binOp];simp [Op.intCmp]) (.bool _)
    ·cases h
   case geq=>
    split at h
    ·rename_i hkk;subst hkk;simp only [fO] at h;cases h;exact .of hI (x:= .bool _) (by simp only [Sem.run_bind,hg,Result.andThen_ok,binOp];simp [Op.intCmp]) (.bool _)
    ·cases h
   case shl=>
    split at h
    ·cases h
    ·rename_i hn;cases h;refine .of hI (x:= .int k (k.wrap (n*2^(min n'.toNat k.bits)))) ?_ (.int (wrap_wrap _ _));simp only [Sem.run_bind,hg,Result.andThen_ok,binOp,Op.shift,if_neg hn];simp
   case shr=>
    split at h
    ·cases h
    ·rename_i hn;cases h;refine .of hI (x:= .int k (k.wrap (n.fdiv (2^(min n'.toNat k.bits))))) ?_ (.int (wrap_wrap _ _));simp only [Sem.run_bind,hg,Result.andThen_ok,binOp,Op.shift,if_neg hn];simp [aBz hk]
  |_=>simp [aAy] at h
 |str sa hsa=>
  cases hb with
  |str sb hsb=>
   have hg:(eqGuard op t x y (.string sa) (.string sb)).run P w= .ok () w:=by unfold eqGuard;split<;>simp
   have hrun: ∀v',(Op.stringOp op sa sb).run P w= .ok v' w→((do eqGuard op t x y (.string sa) (.string sb);binOp op t (.string sa) (.string sb)):Sem Value).run P w= .ok v' w:=by
    intro v' hv;simp only [Sem.run_bind,hg,Result.andThen_ok];cases op<;>exact hv
   have hE:(sa.toList==sb.toList)=(sa.data.toList==sb.data.toList):=aCB sa sb;have hL:Op.bytesLess sa.toList sb.toList=Op.bytesLess sa.data.toList sb.data.toList:=by rw [ByteArray.toList_eq,ByteArray.toList_eq]
   simp only [aAy] at h;cases op<;>simp only [aCj] at h<;>first
    |(cases h;done)
    |(cases h;exact .of hI (hrun (.bool _) (by simp [Op.stringOp,hE,hL];rfl)) (.bool _))
    |(cases h;exact .of hI (hrun (.bool _) (by simp only [Op.stringOp,hE,hL];rfl)) (.bool _))
    |skip
   split at h
   ·rename_i hlen;cases h;have hlen':sa.size+sb.size≤big:=by simpa using hlen
    have e:(sa++sb).data.toList=sa.data.toList++sb.data.toList:=by simp
    refine .of hI (hrun (.string (sa++sb)) ?_) ?_
    ·have hn: ¬(((sa.size+sb.size:Nat):Int)>IntKind.i64.max):=by
      have:IntKind.i64.max=9223372036854775807:=by decide
      rw [this];simp only [big] at hlen';omega
     simp only [Op.stringOp];rw [if_neg hn];rfl
    ·rw [←e];exact .str _ (by rw [ByteArray.size_append];simp only [big,maxLen] at*;omega)
   ·cases h
  |_=>simp [aAy] at h
 |_=>simp [aAy] at h
end
section
variable {P : Program} {B : Bs} {G : Gh} {s : ASt} {w : World}
theorem bytes_beq(p q:ByteArray):(p==q)=(p.data.toList==q.data.toList):=by
 cases p with|mk p=>cases q with|mk q=>
 show(p==q)=(p.toList==q.toList)
 rw [Bool.eq_iff_iff];simp
theorem xL{a b:AV}{xa xb:Value}{r:Bool}(h:lQ a b=some r)(ha:R G (.v a xa))(hb:R G (.v b xb)):
  (∃k n m,xa= .int k n∧xb= .int k m∧r=(n==m))∨(∃p q,xa= .bool p∧xb= .bool q∧r=(p==q))∨(∃p q:ByteArray,xa= .string p∧xb= .string q∧r=(p.data.toList==q.data.toList)):=by
 cases ha with
 |int hk=>
  cases hb with
  |int hk'=>
   simp only [lQ] at h;split at h
   ·rename_i e;subst e;cases h;exact .inl ⟨_,_,_,rfl,rfl,rfl⟩
   ·cases h
  |_=>simp [lQ] at h
 |bool p=>
  cases hb with
  |bool q=>simp only [lQ] at h;cases h;exact .inr (.inl ⟨_,_,rfl,rfl,rfl⟩)
  |_=>simp [lQ] at h
 |str p hp=>
  cases hb with
  |str q hq=>simp only [lQ] at h;cases h;exact .inr (.inr ⟨_,_,rfl,rfl,rfl⟩)
  |_=>simp [lQ] at h
 |_=>simp [lQ] at h
theorem rN(t:TypeId)(x y:Value):Op.equal t x y=Op.equalIn (9999+1) t x y:=rfl
theorem aCt{t:TypeId}{j:IntKind}(hu:P.underlying t=some (.int j))(d:Nat)(k:IntKind)(n m:Int):(Op.equalIn (d+1) t (.int k n) (.int k m)).run P w= .ok (n==m) w:=by
 simp only [Op.equalIn,Sem.run_bind,run_underlying hu,Result.andThen_ok,if_true];rfl
theorem uQ{t:TypeId}(hu:P.underlying t=some .bool)(d:Nat)(n m:Bool):(Op.equalIn (d+1) t (.bool n) (.bool m)).run P w= .ok (n==m) w:=by
 simp only [Op.equalIn,Sem.run_bind,run_underlying hu,Result.andThen_ok];rfl
theorem aB8{t:TypeId}(hu:P.underlying t=some .string)(d:Nat)(n m:ByteArray):(Op.equalIn (d+1) t (.string n) (.string m)).run P w= .ok (n.data.toList==m.data.toList) w:=by
 simp only [Op.equalIn,Sem.run_bind,run_underlying hu,Result.andThen_ok,bytes_beq];rfl
def kP(k:NK)(u:TypeDesc):Prop:=
 match k with| .ptr=> ∃e,u= .pointer e| .slice=> ∃e,u= .slice e| .map=> ∃e f,u= .map e f| .func=> ∃e f g,u= .func e f g| .iface=> ∃e,u= .interface e
def aAL(k:NK)(c:Value):Prop:=
 match k with| .ptr=>c= .pointer none| .slice=> ∃l d,c= .slice none l d| .map=>c= .map none| .func=>c= .nilFunc| .iface=>c= .nilIface
theorem x5{t:TypeId}{u:TypeDesc}(hu:P.underlying t=some u){k:NK}{a:AV}{x n:Value}{b:Bool}(r:R G (.v a x))(h:wQ k a=some b)
(d:Nat)(hk:kP k u∧aAL k n):
  (Op.equalIn (d+1) t x n).run P w= .ok b w∧(Op.equalIn (d+1) t n x).run P w= .ok b w:=by
 cases k with
 |ptr=>
  obtain⟨⟨e,rfl⟩,rfl⟩:=hk;cases r<;>simp only [wQ] at h<;>cases h<;>(constructor<;>(simp only [Op.equalIn,Sem.run_bind,run_underlying hu,Result.andThen_ok];rfl))
 |slice=>
  obtain⟨⟨e,rfl⟩,l,c,rfl⟩:=hk;cases r with
  |bA hc hm hr ho=>
   rename_i sz xs o b' off cc;cases xs with
   |nil=>simp [wQ] at h
   |cons y ys=>simp only [wQ] at h;cases h;constructor<;>(simp only [Op.equalIn,Sem.run_bind,run_underlying hu,Result.andThen_ok];rfl)
  |_=>simp [wQ] at h
 |map=>
  obtain⟨⟨e,f,rfl⟩,rfl⟩:=hk;cases r<;>simp only [wQ] at h<;>cases h<;>(constructor<;>(simp only [Op.equalIn,Sem.run_bind,run_underlying hu,Result.andThen_ok];rfl))
 |func=>
  obtain⟨⟨e,f,g,rfl⟩,rfl⟩:=hk;cases r<;>simp only [wQ] at h<;>cases h<;>(constructor<;>(simp only [Op.equalIn,Sem.run_bind,run_underlying hu,Result.andThen_ok];rfl))
 |iface=>
  obtain⟨⟨e,rfl⟩,rfl⟩:=hk;cases r<;>simp only [wQ] at h<;>cases h<;>(constructor<;>(simp only [Op.equalIn,Sem.run_bind,run_underlying hu,Result.andThen_ok];rfl))
def tM:Value→Value→Bool
 | .int ..,.int .. | .string _,.string _| .float ..,.float .. | .complex ..,.complex .. =>false
 |_,_=>true
theorem binOp_eql{t:TypeId}{x y:Value}(h:tM x y=true):binOp .eql t x y=(do pure (.bool (←Op.equal t x y)))∧binOp .neq t x y=(do pure (.bool (!(←Op.equal t x y)))):=by
 cases x<;>cases y<;>first|(simp [tM] at h;done)|exact⟨rfl,rfl⟩
variable {P' : aK} {env : Env} {ρ : Operand → Value}
theorem aFp(hI:Inv P B G s w){op:UnOp}{a v:AV}{x:Value}(r:R G (.v a x))
(h:(match(generalizing:=false) op with
   | .not=>(match(generalizing:=false) a with| .bool b=>some (AV.bool (!b))|_=>none)
   | .neg=>(match(generalizing:=false) a with| .int k n=>some (.int k (k.wrap (0-n)))|_=>none)
   | .xor=>(match(generalizing:=false) a with| .int k n=>some (.int k (k.wrap (BitVec.ofInt k.bits (if k.signed then-1 else k.max)^^^BitVec.ofInt k.bits n).toNat))|_=>none)
   |_=>none)=some v):fH P G w (Op.unary op x) v:=by
 cases op with
 |not=>cases r<;>simp at h;subst h;exact .of hI (x:= .bool _) (by simp [Op.unary]) (.bool _)
 |neg=>cases r<;>simp at h;subst h;exact .of hI (x:= .int _ _) (by simp [Op.unary,Op.intArith]) (.int (wrap_wrap _ _))
 |xor=>cases r<;>simp at h;subst h;exact .of hI (x:= .int _ _) (by simp [Op.unary,Op.intBits]) (.int (wrap_wrap _ _))
 |plus=>simp at h
theorem aDD(hI:Inv P B G s w){k:IntKind}{a v:AV}{x:Value}(r:R G (.v a x)){S T:TypeId}{kS:IntKind}(hs:P.underlying S=some (.int kS))(ht:P.underlying T=some (.int k))
(h:(match(generalizing:=false) a with| .int k' n=>some (AV.int k (if k=k' then n else k.wrap n))|_=>none)=some v):fH P G w (convert S T x) v:=by
 cases r<;>simp at h;rename_i k' n hk;subst h;refine .of hI (x:= .int k (k.wrap n)) (by simp [convert,run_underlying hs,run_underlying ht,Conv.intToInt]) ?_;by_cases e:k=k'
 ·subst e;rw [if_pos rfl,hk];exact .int hk
 ·rw [if_neg e];exact .int (wrap_wrap _ _)
theorem aBV(hI:Inv P B G s w){t:TypeId}{u:TypeDesc}(hu:P.underlying t=some u)(hn: ∀m,u≠ .interface m){a v:AV}{x:Value}(r:R G (.v a x))
(h:(match(generalizing:=false) eK a with|some v=>some (AV.iface t v)|none=>none)=some v):fH P G w (Instr.makeInterface t x) v:=by
 split at h
 ·rename_i a' ha;cases h;refine .of hI (x:= .iface t x) ?_ (.iface (iA ha r).1);simp only [Instr.makeInterface,Sem.run_bind,run_underlying hu,Result.andThen_ok]
  first|rfl|(split;exact absurd rfl (hn _);rfl)
 ·cases h
theorem aCi(hI:Inv P B G s w){f:Nat}{a b:List AV}{xa xb:List Value}(ra:R G (.l a xa))(rb:R G (.l b xb)){v:AV}
(h:(match(generalizing:=false) cM a,cM b with|some a,some b=>some (AV.func f a b)|_,_=>none)=some v):fH P G w (Instr.makeFunc (.func f) xa.toArray xb.toArray) v:=by
 split at h
 ·rename_i a' b' h1 h2;cases h;exact .of hI (x:= .func (.func f) xa.toArray xb.toArray) (by simp [Instr.makeFunc]) (.func (jU h1 ra) (jU h2 rb))
 ·cases h
theorem jR{a:AV}{x:Value}{n:Nat}(h:fR a=some n)(r:R G (.v a x)): ∃k,x= .int k (n:Int):=by
 cases r<;>simp [fR] at h;obtain⟨h0,rfl⟩:=h;exact⟨_,by rw [Int.toNat_of_nonneg h0]⟩
theorem oC(hO:Opn P' env G ρ){x:Option Operand}{y:Option aH}(h:iQ x=some y){d n:Nat}(hn:bT P' env d y=some n):
  (x=none∧y=none∧n=d)∨(∃z z' k,x=some z∧y=some z'∧ρ z= .int k (n:Int)):=by
 cases x with
 |none=>simp [iQ] at h;subst h;simp [bT] at hn;exact .inl ⟨rfl,rfl,hn.symm⟩
 |some z=>
  simp only [iQ,Option.map_eq_some_iff] at h;obtain⟨z',h1,rfl⟩:=h;simp only [bT] at hn;obtain⟨k,hk⟩:=jR hn (hO.out _ _ h1);exact .inr ⟨z,z',k,rfl,rfl,hk⟩
theorem cO{k:IntKind}{n y:Nat}(h:n≤y)(c:BoundsCode):(Instr.sliceBound (.int k (n:Int)) y c).run P w= .ok n w:=by
 have:(0:Int)≤(n:Int)∧(n:Int)≤(y:Int):=⟨by omega,by omega⟩
 simp [Instr.sliceBound,asIntOf,this]
theorem aCK(hI:Inv P B G s w)(hO:Opn P' env G ρ){t:TypeId}(hu:P.underlying t=some .string){a v:AV}{x:Value}(r:R G (.v a x)){lo hi:Option Operand}{lo' hi':Option aH}(hl:iQ lo=some lo')(hh:iQ hi=some hi')
(h:(match(generalizing:=false) a with
   | .str s=>
    (match bT P' env s.length hi',bT P' env 0 lo' with
    |some h,some l=>if l≤h&&h≤s.length then some (AV.str ((s.take h).drop l)) else none
    |_,_=>none)
   |_=>none)=some v):fH P G w (Instr.sliceAt t x (lo.map ρ) (hi.map ρ) none) v:=by
 cases r<;>simp only [reduceCtorEq] at h;rename_i st hst;split at h
 ·rename_i n l h1 h2;split at h
  ·rename_i hc;cases h;simp at hc;obtain⟨hc1,hc2⟩:=hc;have hc2':n≤st.size:=by simpa using hc2
   refine .of hI (x:= .string (st.extract l n)) ?_ ?_
   ·have e1:(match hi.map ρ with|some v=>Instr.sliceBound v st.size .sliceAlen|none=>(pure st.size:Sem Nat)).run P w= .ok n w:=by
     rcases oC hO hh h1 with ⟨rfl,_,e⟩|⟨z,z',k,rfl,_,e⟩
     ·simp at e;simp [e]
     ·simp only [Option.map_some,e];exact cO hc2' _
    have e2:(match lo.map ρ with|some v=>Instr.sliceBound v n .sliceB|none=>(pure 0:Sem Nat)).run P w= .ok l w:=by
     rcases oC hO hl h2 with ⟨rfl,_,e⟩|⟨z,z',k,rfl,_,e⟩
     ·simp [e]
     ·simp only [Option.map_some,e];exact cO hc1 _
    have e3:(Instr.sliceBounds false st.size st.size (lo.map ρ) (hi.map ρ) none).run P w= .ok (l,n,st.size) w:=by
     unfold Instr.sliceBounds;cases hi<;>cases lo<;>simp_all
    simp [Instr.sliceAt,Instr.slice,run_underlying hu,e3]
   ·have:(st.data.toList.take n).drop l=(st.extract l n).data.toList:=by
     simp [ByteArray.data_extract,List.take_drop,Array.toList_extract]
     try rw [Nat.add_sub_cancel' hc1]
    rw [this];exact .str _ (by rw [ByteArray.size_extract];omega)
  ·cases h
 ·cases h
end
section
variable {P : Program} {B : Bs} {G : Gh} {s : ASt} {w : World} {P' : aK} {env : Env} {ρ : Operand → Value}
theorem bY(b o n:Nat):(⟨b,o,none⟩:Addr).add n=⟨b,o+n,none⟩:=by unfold Addr.add;split<;>simp_all
theorem aEI(hI:Inv P B G s w)(hO:Opn P' env G ρ){t e:TypeId}(hu:P.underlying t=some (.slice e)){esz:Nat}(hes:P.cellsOf e=esz)(he: ∃d,P.underlying e=some d){a v:AV}{x:Value}(r:R G (.v a x)){lo hi mx:Option Operand}{lo' hi' mx':Option aH}
(h:(match(generalizing:=false) a with
  | .slice sz xs o=>
   (match bT P' env xs.length mx',bT P' env xs.length hi',bT P' env 0 lo' with
   |some m,some h,some l=>
    if l≤h&&h≤m&&m≤xs.length&&(sz=esz||xs.isEmpty)&&(mx'.isNone||hi'.isSome) then
     some (match lo',hi',mx' with
      |none,none,none=> .slice sz xs o
      |_,_,some _=> .slice (szC sz ((xs.take h).drop l)) ((xs.take h).drop l) (if h=m then .full else .no)
      |_,_,_=> .slice (szC sz ((xs.take h).drop l)) ((xs.take h).drop l) .no)
    else none
   |_,_,_=>none)
  | .bM l0 off len cap sz=>
   (match mx',bT P' env len hi',bT P' env 0 lo' with
   |none,some h,some l=>if l≤h&&h≤len&&sz=esz&&(l=0||l<cap) then some (AV.bM l0 (off+l*sz) (h-l) (cap-l) sz) else none
   |_,_,_=>none)
  |_=>none)=some v)(hl:iQ lo=some lo')(hh:iQ hi=some hi')(hm:iQ mx=some mx'):fH P G w (Instr.sliceAt t x (lo.map ρ) (hi.map ρ) (mx.map ρ)) v:=by
 obtain⟨ed,he⟩:=he;have key: ∀(A:Option Addr)(len cap l h m:Nat),l≤h→h≤m→m≤cap→
   ((mx=none∧m=cap)∨ ∃z k,mx=some z∧ρ z= .int k (m:Int))→((hi=none∧mx=none∧h=len)∨ ∃z k,hi=some z∧ρ z= .int k (h:Int))→((lo=none∧l=0)∨ ∃z k,lo=some z∧ρ z= .int k (l:Int))→
   (Instr.sliceAt t (.slice A len cap) (lo.map ρ) (hi.map ρ) (mx.map ρ)).run P w= .ok (.slice (if m=l then A else A.map (·.add (l*esz))) (h-l) (m-l)) w:=by
  intro A len cap l h m h1 h2 h3 hm hh hl;have e:(Instr.sliceBounds true len cap (lo.map ρ) (hi.map ρ) (mx.map ρ)).run P w= .ok (l,h,m) w:=by
   unfold Instr.sliceBounds;rcases hm with ⟨rfl,rfl⟩|⟨zm,km,rfl,em⟩
   ·rcases hh with ⟨rfl,_,rfl⟩|⟨zh,kh,rfl,eh⟩
    ·rcases hl with ⟨rfl,rfl⟩|⟨zl,kl,rfl,el⟩
     ·simp
     ·simp [el,cO h1]
    ·rcases hl with ⟨rfl,rfl⟩|⟨zl,kl,rfl,el⟩
     ·simp [eh,cO h2]
     ·simp [el,eh,cO h1,cO h2]
   ·rcases hh with ⟨_,hx,_⟩|⟨zh,kh,rfl,eh⟩
    ·cases hx
    ·rcases hl with ⟨rfl,rfl⟩|⟨zl,kl,rfl,el⟩
     ·simp [eh,em,cO h2,cO h3]
     ·simp [el,eh,em,cO h1,cO h2,cO h3]
  simp [Instr.sliceAt,Instr.slice,run_underlying hu,e,dP he,hes]
 have om: ∀{d m},bT P' env d mx'=some m→(mx=none∧mx'=none∧m=d)∨ ∃z z' k,mx=some z∧mx'=some z'∧ρ z= .int k (m:Int):=fun h=>oC hO hm h;have oh: ∀{d m},bT P' env d hi'=some m→(hi=none∧hi'=none∧m=d)∨ ∃z z' k,hi=some z∧hi'=some z'∧ρ z= .int k (m:Int):=fun h=>oC hO hh h;have ol: ∀{d m},bT P' env d lo'=some m→(lo=none∧lo'=none∧m=d)∨ ∃z z' k,lo=some z∧lo'=some z'∧ρ z= .int k (m:Int):=fun h=>oC hO hl h;have core0: ∀(sz:Nat)(xs:List AV)(o:Own)(A:Option Addr)(c:Nat),R G (.v (.slice sz xs o) (.slice A xs.length c))→xs.length≤c→c≤maxLen→
   (∀l hx m,l≤hx→hx≤m→m≤c→hx≤xs.length→(sz=esz∨xs= [])→ ∀o',(o'= .no∨(o'= .full∧hx=m))→R G (.v (.slice sz ((xs.take hx).drop l) o') (.slice (if m=l then A else A.map (·.add (l*esz))) (hx-l) (m-l)))):=by
  clear h om oh ol key;intro sz xs o A c r hc hcm l hx m h1 h2 h3 h4 hs o' ho';have hlen:((xs.take hx).drop l).length=hx-l:=by simp;omega
  have hown: ∀A',gR G o' A' sz (hx-l) (m-l):=by
   intro A';rcases ho' with rfl|⟨rfl,rfl⟩
   ·trivial
   ·rfl
  by_cases hz:hx-l=0
  ·have he:(xs.take hx).drop l= []:=List.eq_nil_of_length_eq_zero (by omega);rw [he,hz];exact .aW (by omega) (by have:=hown (if m=l then A else A.map (·.add (l*esz)));rwa [hz] at this)
  ·have hml:m≠l:=by omega
   rw [if_neg hml];cases r with
   |aW=>simp at h4;omega
   |bA _ _ hr _=>
    rename_i b off;have hse:sz=esz:=by
     rcases hs with h|h
     ·exact h
     ·subst h;simp at h4;omega
    subst hse;simp only [Option.map_some,bY];have:=(hr.aEu hx).aEK l (by simp;omega);have e2:hx-l=((xs.take hx).drop l).length:=hlen.symm;rw [e2];exact .bA (by rw [hlen];omega) (by omega) this (by rw [hlen];exact hown _)
 have core: ∀(sz:Nat)(xs:List AV)(o:Own)(A:Option Addr)(c:Nat),R G (.v (.slice sz xs o) (.slice A xs.length c))→xs.length≤c→c≤maxLen→
   (∀l hx m,l≤hx→hx≤m→m≤c→hx≤xs.length→(sz=esz∨xs= [])→ ∀o',(o'= .no∨(o'= .full∧hx=m))→R G (.v (.slice (szC sz ((xs.take hx).drop l)) ((xs.take hx).drop l) o') (.slice (if m=l then A else A.map (·.add (l*esz))) (hx-l) (m-l)))):=by
  clear h om oh ol key;intro sz xs o A c r hc hcm l hx m h1 h2 h3 h4 hs o' ho';have k:=core0 sz xs o A c r hc hcm l hx m h1 h2 h3 h4 hs o' ho';cases hq:(xs.take hx).drop l with
  |cons y ys=>rw [hq] at k;exact k
  |nil=>
   rw [hq] at k;generalize hn:hx-l=n at k⊢;generalize hA:(if m=l then A else A.map (·.add (l*esz)))=A' at k⊢;generalize m-l=c' at k⊢;cases k with
   |aW hm ho=>
    refine .aW hm ?_;rcases ho' with rfl|⟨rfl,_⟩
    ·trivial
    ·exact ho
   |bA hc hm hr ho=>
    refine .aW hm ?_;rcases ho' with rfl|⟨rfl,_⟩
    ·trivial
    ·exact ho
 cases r with
 |ms hL hc hcm=>
  rename_i l0 off len cap sz b;simp only at h;split at h
  ·rename_i hh' ll e2 e3;split at h
   ·rename_i hcond;cases h;simp at hcond;obtain⟨⟨⟨c1,c2⟩,c3⟩,c4⟩:=hcond;have hmx:mx=none:=by cases mx with|none=>rfl|some z=>simp only [iQ,Option.map_eq_some_iff] at hm;obtain⟨_,_,hq⟩:=hm;cases hq
    subst hmx;refine .of hI (key _ len cap ll hh' cap c1 (by omega) (Nat.le_refl _) (.inl ⟨rfl,rfl⟩) ?_ ?_) ?_
    ·rcases oh e2 with ⟨h1,_,h2⟩|⟨z,_,k,h1,_,h2⟩
     ·exact .inl ⟨h1,rfl,h2⟩
     ·exact .inr ⟨z,k,h1,h2⟩
    ·rcases ol e3 with ⟨h1,_,h2⟩|⟨z,_,k,h1,_,h2⟩
     ·exact .inl ⟨h1,h2⟩
     ·exact .inr ⟨z,k,h1,h2⟩
    ·subst c3;by_cases hcl:cap=ll
     ·have hl0:ll=0:=by omega
      subst hl0;rw [if_pos hcl];simpa using R.ms (off:=off) (sz:=sz) hL (len:=hh'-0) (cap:=cap-0) (by omega) (by omega)
     ·rw [if_neg hcl];simp only [Option.map_some,bY];exact .ms hL (by omega) (by omega)
   ·cases h
  ·cases h
 |aW hcm ho=>
  rename_i sz o A c;have rr:R G (.v (.slice sz [] o) (.slice A ([]:List AV).length c)):= .aW hcm ho;simp only at h;split at h
  ·rename_i m hh' ll e1 e2 e3;split at h
   ·rename_i hcond;simp at hcond;obtain⟨⟨⟨c1,c2⟩,c3⟩,c5⟩:=hcond;subst c3;have hh0:hh'=0:=by omega
    have hl0:ll=0:=by omega
    subst hh0;subst hl0;rcases om e1 with ⟨m1,m2,_⟩|⟨zm,zm',km,m1,m2,m3⟩
    ·subst m1;subst m2;have hrun:=key A 0 c 0 0 c (Nat.le_refl _) (Nat.zero_le _) (Nat.le_refl _) (.inl ⟨rfl,rfl⟩) (by rcases oh e2 with ⟨h1,_,h2⟩|⟨z,_,k,h1,_,h2⟩;exact .inl ⟨h1,rfl,rfl⟩;exact .inr ⟨z,k,h1,h2⟩) (by rcases ol e3 with ⟨h1,_,h2⟩|⟨z,_,k,h1,_,h2⟩;exact .inl ⟨h1,rfl⟩;exact .inr ⟨z,k,h1,h2⟩);refine .of hI hrun ?_;have hA:(if c=0 then A else A.map (·.add (0*esz)))=A:=by
      split
      ·rfl
      ·cases A<;>simp [Addr.add]
     rw [hA];cases h;split
     ·exact .aW hcm ho
     ·contradiction
     ·exact .aW (by omega) trivial
    ·subst m1;subst m2;have hrun:=key A 0 c 0 0 0 (Nat.le_refl _) (Nat.le_refl _) (Nat.zero_le _) (.inr ⟨zm,km,rfl,m3⟩) (by rcases oh e2 with ⟨h1,hq,h2⟩|⟨z,_,k,h1,_,h2⟩;exact absurd c5 (by rw [hq];simp);exact .inr ⟨z,k,h1,h2⟩) (by rcases ol e3 with ⟨h1,_,h2⟩|⟨z,_,k,h1,_,h2⟩;exact .inl ⟨h1,rfl⟩;exact .inr ⟨z,k,h1,h2⟩);refine .of hI hrun ?_;cases h;simpa using core sz [] o A c rr (Nat.zero_le _) hcm 0 0 0 (Nat.le_refl _) (Nat.le_refl _) (Nat.zero_le _) (Nat.le_refl _) (.inr rfl) .full (.inr ⟨rfl,rfl⟩)
   ·cases h
  ·cases h
 |bA hc hcm hr ho=>
  rename_i sz xs o b off c;have rr:R G (.v (.slice sz xs o) (.slice (some ⟨b,off,none⟩) xs.length c)):= .bA hc hcm hr ho;simp only at h;split at h
  ·rename_i m hh' ll e1 e2 e3;split at h
   ·rename_i hcond;simp at hcond;obtain⟨⟨⟨⟨c1,c2⟩,c3⟩,c4⟩,c5⟩:=hcond;rcases om e1 with ⟨m1,m2,m3⟩|⟨zm,zm',km,m1,m2,m3⟩
    ·subst m1;subst m2;have hrun:=key (some ⟨b,off,none⟩) xs.length c ll hh' c c1 (by omega) (Nat.le_refl _) (.inl ⟨rfl,rfl⟩) (by rcases oh e2 with ⟨h1,_,h2⟩|⟨z,_,k,h1,_,h2⟩;exact .inl ⟨h1,rfl,h2⟩;exact .inr ⟨z,k,h1,h2⟩) (by rcases ol e3 with ⟨h1,_,h2⟩|⟨z,_,k,h1,_,h2⟩;exact .inl ⟨h1,h2⟩;exact .inr ⟨z,k,h1,h2⟩);refine .of hI hrun ?_;cases h;split
     ·rename_i g1 g2;rcases oh e2 with ⟨_,_,h2⟩|⟨_,_,_,_,hq,_⟩
      ·rcases ol e3 with ⟨_,_,h4⟩|⟨_,_,_,_,hq,_⟩
       ·subst h2;subst h4;have hA:(if c=0 then some (⟨b,off,none⟩:Addr) else(some (⟨b,off,none⟩:Addr)).map (·.add (0*esz)))=some ⟨b,off,none⟩:=by
         split
         ·rfl
         ·simp [Addr.add]
        rw [hA];simpa using rr
       ·cases hq
      ·cases hq
     ·contradiction
     ·exact core sz xs o _ c rr hc hcm ll hh' c c1 (by omega) (Nat.le_refl _) (by omega) c4 .no (.inl rfl)
    ·subst m1;subst m2;have hrun:=key (some ⟨b,off,none⟩) xs.length c ll hh' m c1 c2 (by omega) (.inr ⟨zm,km,rfl,m3⟩) (by rcases oh e2 with ⟨h1,hq,h2⟩|⟨z,_,k,h1,_,h2⟩;exact absurd c5 (by rw [hq];simp);exact .inr ⟨z,k,h1,h2⟩) (by rcases ol e3 with ⟨h1,_,h2⟩|⟨z,_,k,h1,_,h2⟩;exact .inl ⟨h1,h2⟩;exact .inr ⟨z,k,h1,h2⟩);refine .of hI hrun ?_;have hfin:R G (.v (.slice (szC sz ((xs.take hh').drop ll)) ((xs.take hh').drop ll) (if hh'=m then .full else .no)) (.slice (if m=ll then some ⟨b,off,none⟩ else(some (⟨b,off,none⟩:Addr)).map (·.add (ll*esz))) (hh'-ll) (m-ll))):=by
      refine core sz xs o _ c rr hc hcm ll hh' m c1 c2 (by omega) (by omega) c4 _ ?_;by_cases hm':hh'=m
      ·rw [if_pos hm'];exact .inr ⟨rfl,hm'⟩
      ·rw [if_neg hm'];exact .inl rfl
     have e9:v= .slice (szC sz ((xs.take hh').drop ll)) ((xs.take hh').drop ll) (if hh'=m then .full else .no):=by
      cases lo'<;>cases hi'<;>simp at h<;>exact h.symm
     rw [e9];exact hfin
   ·cases h
  ·cases h
 |_=>simp at h
end
section
variable {P : Program} {B : Bs} {G : Gh} {s : ASt} {w : World} {P' : aK} {env : Env} {ρ : Operand → Value}
theorem oD{a:AV}{x:Value}(r:R G (.v a x))(h:x.oneCell'=true):jG a=false:=by
 cases r<;>first|rfl|(simp [Value.oneCell'] at h)
theorem aCX{sz b:Nat}: ∀{n o:Nat}{cs:List AV}{vs:List Value},R G (.k cs vs)→n*sz≤cs.length→(∀j x,vs[j]?=some x→G.M b (o+j)=some x)→R G (.r sz (chunks sz n cs) b o):=by
 intro n
 induction n with
 |zero=>intro o cs vs _ _ _;exact .nM _ _ _
 |succ n ih=>
  intro o cs vs r hl hM;have hl':sz≤cs.length:=by rw [Nat.add_mul] at hl;omega
  have hvl:cs.length=vs.length:=r.eG;have hrest:R G (.r sz (chunks sz n (cs.drop sz)) b (o+sz)):=ih (r.oE sz) (by rw [List.length_drop];rw [Nat.add_mul] at hl;omega) (fun j x hx=>by
   rw [List.getElem?_drop] at hx;have:=hM (sz+j) x hx;rw [←Nat.add_assoc] at this;exact this)
  have hvs:(vs.take sz).length=sz:=by rw [List.length_take];omega
  have hMt: ∀j y,(vs.take sz)[j]?=some y→G.M b (o+j)=some y:=fun j y hy=>by
   rw [List.getElem?_take] at hy;split at hy
   ·exact hM j y hy
   ·cases hy
  unfold chunks;split
  ·cases r with
   |cT=>simp at hl'
   |aT h1 h2 t=>
    exact .fQ (.mJ (oD h1 h2) h2 h1) rfl (by simpa using hMt) hrest
  ·exact .fQ (.kH (r.s9 sz)) hvs hMt hrest
theorem aED(hI:Inv P B G s w)(hO:Opn P' env G ρ){t e:TypeId}{n:Nat}(hu:P.underlying t=some (.array n e)){esz:Nat}(hes:P.cellsOf e=esz)(he: ∃d,P.underlying e=some d)(hn:n≤big){a v:AV}{x:Value}{lo hi:Option Operand}{lo' hi':Option aH}
(h:(match(generalizing:=false) a,bT P' env n hi',bT P' env 0 lo' with
  | .a8 v off,some h,some l=>
   if l≤h&&h≤n&&off+n*esz≤(cellsOf v).length then some (AV.slice esz (chunks esz (h-l) ((cellsOf v).drop (off+l*esz))) .no) else none
  | .ptr b off,some h,some l=>if l≤h&&h≤n&&(l=0||l<n) then some (.bM b (off+l*esz) (h-l) (n-l) esz) else none
  |_,_,_=>none)=some v)(r:R G (.v a x))(hl:iQ lo=some lo')(hh:iQ hi=some hi'):fH P G w (Instr.sliceAt t x (lo.map ρ) (hi.map ρ) none) v:=by
 obtain⟨ed,he⟩:=he;have key: ∀(A:Addr)(l hx:Nat),l≤hx→hx≤n→((hi=none∧hx=n)∨ ∃z k,hi=some z∧ρ z= .int k (hx:Int))→((lo=none∧l=0)∨ ∃z k,lo=some z∧ρ z= .int k (l:Int))→
   (Instr.sliceAt t (.pointer (some A)) (lo.map ρ) (hi.map ρ) none).run P w= .ok (.slice (some (if n=l then A else A.add (l*esz))) (hx-l) (n-l)) w:=by
  intro A l hx h1 h2 hh hl;have e:(Instr.sliceBounds false n n (lo.map ρ) (hi.map ρ) none).run P w= .ok (l,hx,n) w:=by
   unfold Instr.sliceBounds;rcases hh with ⟨rfl,rfl⟩|⟨zh,kh,rfl,eh⟩
   ·rcases hl with ⟨rfl,rfl⟩|⟨zl,kl,rfl,el⟩
    ·simp
    ·simp [el,cO h1]
   ·rcases hl with ⟨rfl,rfl⟩|⟨zl,kl,rfl,el⟩
    ·simp [eh,cO h2]
    ·simp [el,eh,cO h1,cO h2]
  simp [Instr.sliceAt,Instr.sureAddr,run_underlying hu,e,dP he,hes]
 have toH: ∀{m},bT P' env n hi'=some m→(hi=none∧m=n)∨ ∃z k,hi=some z∧ρ z= .int k (m:Int):=fun h=>by
  rcases oC hO hh h with ⟨h1,_,h2⟩|⟨z,_,k,h1,_,h2⟩
  ·exact .inl ⟨h1,h2⟩
  ·exact .inr ⟨z,k,h1,h2⟩
 have toL: ∀{m},bT P' env 0 lo'=some m→(lo=none∧m=0)∨ ∃z k,lo=some z∧ρ z= .int k (m:Int):=fun h=>by
  rcases oC hO hl h with ⟨h1,_,h2⟩|⟨z,_,k,h1,_,h2⟩
  ·exact .inl ⟨h1,h2⟩
  ·exact .inr ⟨z,k,h1,h2⟩
 have hbm:n≤maxLen:=by simp only [big,maxLen] at*;omega
 cases e1:bT P' env n hi' with
 |none=>rw [e1] at h;cases r<;>simp at h
 |some hx=>
 cases e2:bT P' env 0 lo' with
 |none=>rw [e1,e2] at h;cases r<;>simp at h
 |some l=>
 rw [e1,e2] at h;cases r with
 |a8 off hc hM=>
  rename_i v0 vs b o;simp only at h;split at h
  ·rename_i hcond;cases h;simp at hcond;obtain⟨⟨c1,c2⟩,c3⟩:=hcond;refine .of hI (key _ l hx c1 c2 (toH e1) (toL e2)) ?_;by_cases hz:hx-l=0
   ·rw [hz];exact .aW (by omega) trivial
   ·have hnl:n≠l:=by omega
    rw [if_neg hnl,bY];have hk:=hc.c_k;have hlen:(chunks esz (hx-l) ((cellsOf v0).drop (off+l*esz))).length=hx-l:=by
     generalize hx-l=m;generalize (cellsOf v0).drop (off+l*esz)=cs
     induction m generalizing cs with
     |zero=>rfl
     |succ m ih=>simp [chunks,ih]
    have hr:=aCX (b:=b) (o:=o+off+l*esz) (n:=hx-l) (sz:=esz) (hk.oE (off+l*esz)) (by
     rw [List.length_drop];have:(hx-l)*esz+l*esz≤n*esz:=by rw [←Nat.add_mul];exact Nat.mul_le_mul_right _ (by omega)
     omega) (fun j y hy=>by
      rw [List.getElem?_drop] at hy;have:=hM _ y hy;rw [show o+off+l*esz+j=o+(off+l*esz+j) from by omega];exact this)
    have:=R.bA (o:= .no) (c:=n-l) (by rw [hlen];omega) (by omega) hr trivial;rw [hlen] at this;exact this
  ·cases h
 |ptr off hL=>
  rename_i ℓ b;simp only at h;split at h
  ·rename_i hcond;cases h;simp at hcond;obtain⟨⟨c1,c2⟩,c3⟩:=hcond;refine .of hI (key _ l hx c1 c2 (toH e1) (toL e2)) ?_;by_cases hnl:n=l
   ·have hl0:l=0:=by omega
    subst hl0;rw [if_pos hnl];simpa using R.ms (off:=off) (sz:=esz) hL (len:=hx-0) (cap:=n-0) (by omega) (by omega)
   ·rw [if_neg hnl,bY];exact .ms hL (by omega) (by omega)
  ·cases h
 |_=>simp at h
theorem aCL(hI:Inv P B G s w){S:TypeId}{fs:Array Field}{f:Nat}{fd:Field}(hu:P.underlying S=some (.struct fs))(hf:fs[f]?=some fd)(hz:P.cellsOf fd.type≠0){a v:AV}{x:Value}(r:R G (.v a x))
(h:(match(generalizing:=false) a with| .ptr l o=>some (AV.ptr l (o+fd.offset))| .a8 v o=>some (.a8 v (o+fd.offset))|_=>none)=some v):fH P G w (Instr.fieldAt S x f) v:=by
 obtain⟨i,hi⟩: ∃i,P.info? fd.type=some i:=by
  cases h:P.info? fd.type with
  |none=>simp [Program.cellsOf,h] at hz
  |some i=>exact⟨i,rfl⟩
 have key: ∀A:Addr,(Instr.fieldAt S (.pointer (some A)) f).run P w= .ok (.pointer (some (A.add fd.offset))) w:=by
  intro A;simp [Instr.fieldAt,run_underlying hu,hf,Instr.sureAddr,fieldPlace,eM hi,hz]
 cases r<;>simp at h<;>subst h
 ·rename_i ℓ b o hL;refine .of hI (key _) ?_;rw [bY];exact .ptr _ hL
 ·rename_i v0 vs b o off hc hM;refine .of hI (key _) ?_;rw [bY,Nat.add_assoc];exact .a8 _ hc hM
theorem aA6{t:TypeId}{ag:Bool}(hag:fY P t=some ag){cs:List AV}{vs:List Value}(r:R G (.k cs vs)){off:Nat}{v:AV}(h:partOf ag (P.cellsOf t) cs off=some v): ∃x,(part t vs.toArray off).run P w= .ok x w∧R G (.v v x):=by
 obtain⟨d,hd⟩:=iX hag;unfold partOf at h;cases ag with
 |true=>
  simp only at h;split at h
  ·rename_i hc;cases h;refine⟨.agg ((vs.drop off).take (P.cellsOf t)).toArray,?_,.agg ((r.oE off).s9 _)⟩;simp only [part,Sem.run_bind,kR hag,Result.andThen_ok,if_true,dP hd];simp [List.extract_eq_take_drop]
  ·cases h
 |false=>
  simp only at h;obtain⟨x,h1,h2,_⟩:=r.aB9 h;refine⟨x,?_,h2⟩;simp [part,kR hag,h1]
theorem aDV(hI:Inv P B G s w){S:TypeId}{fs:Array Field}{f:Nat}{fd:Field}(hu:P.underlying S=some (.struct fs))(hf:fs[f]?=some fd){ag:Bool}(hag:fY P fd.type=some ag){a v:AV}{x:Value}(r:R G (.v a x))
(h:(match(generalizing:=false) a with| .agg cs=>partOf ag (P.cellsOf fd.type) cs fd.offset|_=>none)=some v):fH P G w (Instr.field S x f) v:=by
 cases r<;>simp at h;rename_i cs vs hk;obtain⟨x,h1,h2⟩:=aA6 (w:=w) hag hk h;exact .of hI (x:=x) (by simp [Instr.field,run_underlying hu,hf,asAgg,h1]) h2
theorem aEJ(hI:Inv P B G s w){t e:TypeId}(hu:P.underlying t=some (.slice e)){esz:Nat}(hes:P.cellsOf e=esz)(he: ∃d,P.underlying e=some d){a b v:AV}{x y:Value}(r:R G (.v a x))(r2:R G (.v b y))
(h:(match(generalizing:=false) a,fR b with
  | .slice sz xs _,some i=>if sz=esz then(match xs[i]? with|some x=>some (AV.a8 x 0)|none=>none) else none
  | .bM l off len _ sz,some i=>if sz=esz&&i<len then some (.ptr l (off+i*sz)) else none
  |_,_=>none)=some v):fH P G w (Instr.indexAt t x y) v:=by
 obtain⟨ed,he⟩:=he;have key: ∀(A:Addr)(len cap i:Nat)(k:IntKind),i<len→(Instr.indexAt t (.slice (some A) len cap) (.int k (i:Int))).run P w= .ok (.pointer (some (A.add (i*esz)))) w:=by
  intro A len cap i k hi;have hc:(0:Int)≤(i:Int)∧(i:Int)<(len:Int):=⟨by omega,by omega⟩
  simp [Instr.indexAt,asIntOf,run_underlying hu,dP he,hes,hi]
 cases hi:fR b with
 |none=>rw [hi] at h;cases r<;>simp at h
 |some i=>
  rw [hi] at h;obtain⟨k,rfl⟩:=jR hi r2;cases r with
  |aW=>simp at h
  |bA hc hm hr ho=>
   rename_i sz xs o bb off c;simp only at h;split at h
   ·rename_i hsz;subst hsz;split at h
    ·rename_i z hz;cases h;have hlt:i<xs.length:=(List.getElem?_eq_some_iff.1 hz).1;obtain⟨vs,h1,h2,h3⟩:=hr.aE6 hz;refine .of hI (key _ _ _ _ _ hlt) ?_;rw [bY];have:=R.a8 (b:=bb) (o:=off+i*sz) 0 h1 h3;simpa using this
    ·cases h
   ·cases h
  |ms hL hc hm=>
   simp only at h;split at h
   ·rename_i hcond;simp at hcond;obtain⟨rfl,hlt⟩:=hcond;cases h;refine .of hI (key _ _ _ _ _ hlt) ?_;rw [bY];exact .ptr _ hL
   ·cases h
  |_=>simp at h
theorem aEt(hI:Inv P B G s w){t e:TypeId}{n:Nat}(hu:P.underlying t=some (.array n e)){esz:Nat}(hes:P.cellsOf e=esz)(he: ∃d,P.underlying e=some d){a b v:AV}{x y:Value}(r:R G (.v a x))(r2:R G (.v b y))
(h:(match(generalizing:=false) a,fR b with
  | .ptr l o,some i=>if i<n then some (AV.ptr l (o+i*esz)) else none
  | .a8 v o,some i=>if i<n then some (.a8 v (o+i*esz)) else none
  |_,_=>none)=some v):fH P G w (Instr.indexAt t x y) v:=by
 obtain⟨ed,he⟩:=he;have key: ∀(A:Addr)(i:Nat)(k:IntKind),i<n→(Instr.indexAt t (.pointer (some A)) (.int k (i:Int))).run P w= .ok (.pointer (some (A.add (i*esz)))) w:=by
  intro A i k hi;have hc:(0:Int)≤(i:Int)∧(i:Int)<(n:Int):=⟨by omega,by omega⟩
  simp [Instr.indexAt,asIntOf,Instr.sureAddr,run_underlying hu,dP he,hes,hi]
 cases hi:fR b with
 |none=>rw [hi] at h;cases r<;>simp at h
 |some i=>
  rw [hi] at h;obtain⟨k,rfl⟩:=jR hi r2;cases r with
  |ptr off hL=>
   simp only at h;split at h
   ·rename_i hlt;cases h;refine .of hI (key _ _ _ hlt) ?_;rw [bY];exact .ptr _ hL
   ·cases h
  |a8 off hc hM=>
   simp only at h;split at h
   ·rename_i hlt;cases h;refine .of hI (key _ _ _ hlt) ?_;rw [bY,Nat.add_assoc];exact .a8 _ hc hM
   ·cases h
  |_=>simp at h
theorem aEF(hI:Inv P B G s w){t e:TypeId}{n:Nat}(hu:P.underlying t=some (.array n e)){ag:Bool}(hag:fY P e=some ag){a b v:AV}{x y:Value}(r:R G (.v a x))(r2:R G (.v b y))
(h:(match(generalizing:=false) a,fR b with
  | .agg cs,some i=>if i<n then partOf ag (P.cellsOf e) cs (i*P.cellsOf e) else none
  |_,_=>none)=some v):fH P G w (Instr.index t x y) v:=by
 obtain⟨ed,he⟩:=iX hag;cases hi:fR b with
 |none=>rw [hi] at h;cases r<;>simp at h
 |some i=>
  rw [hi] at h;obtain⟨k,rfl⟩:=jR hi r2;cases r<;>simp only [reduceCtorEq] at h;rename_i cs vs hk;split at h
  ·rename_i hlt;obtain⟨x,h1,h2⟩:=aA6 (w:=w) hag hk h;have hc:(0:Int)≤(i:Int)∧(i:Int)<(n:Int):=⟨by omega,by omega⟩
   exact .of hI (x:=x) (by simp [Instr.index,asIntOf,run_underlying hu,dP he,hlt,h1]) h2
  ·cases h
theorem aC2(hI:Inv P B G s w){t:TypeId}(hu:P.underlying t=some .string){a b v:AV}{x y:Value}(r:R G (.v a x))(r2:R G (.v b y))
(h:(match(generalizing:=false) a,fR b with
  | .str s,some i=>(match s[i]? with|some b=>some (AV.int .u8 b.toNat)|none=>none)
  |_,_=>none)=some v):fH P G w (Instr.index t x y) v:=by
 cases hi:fR b with
 |none=>rw [hi] at h;cases r<;>simp at h
 |some i=>
  rw [hi] at h;obtain⟨k,rfl⟩:=jR hi r2;cases r with
  |str st hst=>
   simp only at h;split at h
   ·rename_i bt hb;cases h;have hb':st[i]?=some bt:=by
     obtain⟨h1,h2⟩:=List.getElem?_eq_some_iff.1 hb;have hlt:i<st.size:=by simpa using h1
     rw [getElem?_pos st i hlt];simp at h2;rw [←h2];rfl
    refine .of hI (x:= .int .u8 bt.toNat) ?_ (.int ?_)
    ·have h0:(0:Int)≤(i:Int):=by omega
     simp [Instr.index,asIntOf,run_underlying hu,hb']
    ·have e: ∀n,IntKind.u8.wrap n=n%256:=fun n=>by simp [IntKind.wrap,IntKind.bits,IntKind.signed]
     have:=bt.toNat_lt;rw [e];omega
   ·cases h
  |_=>simp at h
theorem aCg(hI:Inv P B G s w){t xt:TypeId}{u:TypeDesc}(hu:P.underlying t=some u)(hn: ∀m,u≠ .interface m){ok:Bool}{z a v:AV}{zv:Value}{i:TypeInfo}(hi:P.info? t=some i)(hz:i.zero=some zv)(rz:R G (.v z zv)){x:Value}(r:R G (.v a x))
(h:(match(generalizing:=false) a with
  | .iface t' v=>if t'=t then some (match ok with|true=>AV.tuple [v,.bool true]|false=>v) else(match ok with|true=>some (.tuple [z,.bool false])|false=>none)
  | .a9=>(match ok with|true=>some (.tuple [z,.bool false])|false=>none)
  |_=>none)=some v):fH P G w (Instr.typeAssert x xt t ok) v:=by
 have two: ∀{p q:AV}{xp xq:Value},R G (.v p xp)→R G (.v q xq)→R G (.v (.tuple [p,q]) (.tuple #[xp,xq])):=fun h1 h2=>by simpa using R.tuple (.bK h1 (.bK h2 .iO))
 cases r<;>simp only [reduceCtorEq] at h
 ·rename_i t' v0 x0 r0;split at h
  ·rename_i e;subst e;cases ok with
   |true=>
    cases h;refine .of hI (x:= .tuple #[x0,.bool true]) ?_ (two r0 (.bool _));cases u<;>first|(exact absurd rfl (hn _))|simp [Instr.typeAssert,run_underlying hu]
   |false=>
    cases h;refine .of hI (x:=x0) ?_ r0;cases u<;>first|(exact absurd rfl (hn _))|simp [Instr.typeAssert,run_underlying hu]
  ·rename_i e;cases ok with
   |true=>
    cases h;refine .of hI (x:= .tuple #[zv,.bool false]) ?_ (two rz (.bool _));cases u<;>first|(exact absurd rfl (hn _))|simp [Instr.typeAssert,run_underlying hu,e,bF hi hz]
   |false=>cases h
 ·cases ok with
  |true=>
   cases h;refine .of hI (x:= .tuple #[zv,.bool false]) ?_ (two rz (.bool _));cases u<;>first|(exact absurd rfl (hn _))|simp [Instr.typeAssert,run_underlying hu,bF hi hz]
  |false=>cases h
theorem aBC(hI:Inv P B G s w){i:Nat}{a v:AV}{x:Value}(r:R G (.v a x))(h:(match(generalizing:=false) a with| .tuple vs=>vs[i]?|_=>none)=some v):fH P G w (Instr.extract x i) v:=by
 cases r<;>simp only [reduceCtorEq] at h;rename_i cs vs hl;obtain⟨y,h1,h2⟩:=hl.aDX h;exact .of hI (x:=y) (by simp [Instr.extract,h1]) h2
theorem jH{n:Nat}(h:n≤maxLen):IntKind.i64.wrap (n:Int)=n:=by
 have e: ∀n,IntKind.i64.wrap n=if n%18446744073709551616≥9223372036854775808 then n%18446744073709551616-18446744073709551616 else n%18446744073709551616:=fun n=>by simp [IntKind.wrap,IntKind.bits,IntKind.signed]
 rw [e];simp only [maxLen] at h;rw [if_neg (by omega)];omega
theorem aEG(hI:Inv P B G s w){t e ty:TypeId}{ts:Array TypeId}(ht:ts[0]?=some t)(hu:P.underlying t=some (.slice e)){a v:AV}{x:Value}(r:R G (.v a x))
(h:(match(generalizing:=false) a with| .slice _ xs _=>some (AV.int .i64 xs.length)| .bM _ _ len _ _=>some (.int .i64 len)|_=>none)=some v):fH P G w (Builtin.len_ ts ty #[x]) v:=by
 cases r<;>simp only [reduceCtorEq] at h<;>cases h
 ·rename_i hm ho;exact .of hI (x:= .int .i64 (0:Nat)) (by simp [Builtin.len_,ht,run_underlying hu,goInt]) (.int (by decide))
 ·rename_i hc hm hr ho;exact .of hI (x:= .int .i64 _) (by simp [Builtin.len_,ht,run_underlying hu,goInt]) (.int (jH (by omega)))
 ·rename_i hL hc hm;exact .of hI (x:= .int .i64 _) (by simp [Builtin.len_,ht,run_underlying hu,goInt]) (.int (jH (by omega)))
theorem aCy(hI:Inv P B G s w){t ty:TypeId}{ts:Array TypeId}(ht:ts[0]?=some t)(hu:P.underlying t=some .string){a v:AV}{x:Value}(r:R G (.v a x))
(h:(match(generalizing:=false) a with| .str s=>some (AV.int .i64 s.length)|_=>none)=some v):fH P G w (Builtin.len_ ts ty #[x]) v:=by
 cases r<;>simp only [reduceCtorEq] at h;cases h;rename_i st hst;have e:st.data.toList.length=st.size:=by simp
 rw [e];exact .of hI (x:= .int .i64 st.size) (by simp [Builtin.len_,ht,run_underlying hu,goInt]) (.int (jH hst))
theorem aEr(hI:Inv P B G s w){t e ty:TypeId}{n:Nat}{ts:Array TypeId}(ht:ts[0]?=some t)(hu:P.underlying t=some (.array n e))(hn:n≤big){x:Value}:fH P G w (Builtin.len_ ts ty #[x]) (.int .i64 n):=
 .of hI (x:= .int .i64 n) (by simp [Builtin.len_,ht,run_underlying hu,goInt]) (.int (jH (by simp only [big,maxLen] at*;omega)))
end
section
variable {P : Program} {B : Bs} {G : Gh} {s : ASt} {w : World} {P' : aK} {env : Env} {ρ : Operand → Value}
theorem foldl_set(vs:List Value): ∀(k:Nat)(cs:Array Value)(off:Nat),off+k+vs.length≤cs.size→
  ((vs.zipIdx k).foldl (fun cs (x:Value×Nat)=>cs.setIfInBounds (off+x.2) x.1) cs).toList=cs.toList.take (off+k)++vs++cs.toList.drop (off+k+vs.length):=by
 induction vs with
 |nil=>intro k cs off _;simp
 |cons v vs ih=>
  intro k cs off h;simp only [List.zipIdx_cons,List.foldl_cons];rw [ih (k+1) _ off (by simp at h⊢;omega)];simp only [Array.toList_setIfInBounds];have hlt:off+k<cs.toList.length:=by simp at h⊢;omega
  apply List.ext_getElem?;intro j;simp only [List.getElem?_append,List.length_append,List.length_take,List.length_set,List.length_cons,List.getElem?_take,List.getElem?_drop,List.getElem?_set];have hl:cs.toList.length=cs.size:=by simp
  simp only [List.length_cons] at h;by_cases h1:j<off+k
  ·have a1:j<min (off+(k+1)) cs.toList.length:=by omega
   have a2:j<min (off+k) cs.toList.length:=by omega
   have a3:j<min (off+(k+1)) cs.toList.length+vs.length:=by omega
   have a4:j<min (off+k) cs.toList.length+(vs.length+1):=by omega
   have a5: ¬off+k=j:=by omega
   have a6:j<off+(k+1):=by omega
   simp only [a1,a2,a3,a4,a5,a6,h1,if_true,if_false]
  ·by_cases h2:j=off+k
   ·subst h2;have a1:off+k<min (off+(k+1)) cs.toList.length:=by omega
    have a2: ¬off+k<min (off+k) cs.toList.length:=by omega
    have a3:off+k<min (off+(k+1)) cs.toList.length+vs.length:=by omega
    have a4:off+k<min (off+k) cs.toList.length+(vs.length+1):=by omega
    have a6:off+k<off+(k+1):=by omega
    have a7:off+k-min (off+k) cs.toList.length=0:=by omega
    simp only [a1,a2,a3,a4,a6,if_true,if_false,hlt,a7,List.getElem?_cons_zero]
   ·by_cases h3:j<off+k+(vs.length+1)
    ·have a1: ¬j<min (off+(k+1)) cs.toList.length:=by omega
     have a2: ¬j<min (off+k) cs.toList.length:=by omega
     have a3:j<min (off+(k+1)) cs.toList.length+vs.length:=by omega
     have a4:j<min (off+k) cs.toList.length+(vs.length+1):=by omega
     have a5:j-min (off+k) cs.toList.length=(j-min (off+(k+1)) cs.toList.length)+1:=by omega
     simp only [a1,a2,a3,a4,if_true,if_false,a5,List.getElem?_cons_succ]
    ·have a3: ¬j<min (off+(k+1)) cs.toList.length+vs.length:=by omega
     have a4: ¬j<min (off+k) cs.toList.length+(vs.length+1):=by omega
     have e1:off+(k+1)+vs.length+(j-(min (off+(k+1)) cs.toList.length+vs.length))=j:=by omega
     have e2:off+k+(vs.length+1)+(j-(min (off+k) cs.toList.length+(vs.length+1)))=j:=by omega
     have a5: ¬off+k=j:=by omega
     simp only [a3,a4,if_false,e1,e2,a5]
theorem yX(v:Value)(cs:Array Value)(off:Nat)(h:off+v.cells.size≤cs.size):
  (v.cells.zipIdx.foldl (fun cs (x:Value×Nat)=>cs.setIfInBounds (off+x.2) x.1) cs).toList=cs.toList.take off++v.cells.toList++cs.toList.drop (off+v.cells.toList.length):=by
 have:=foldl_set v.cells.toList 0 cs off (by simpa using h);rw [←Array.foldl_toList,Array.toList_zipIdx];simpa using this
theorem sJ{place:Nat→Option (Nat×Nat)}: ∀{ps:List (Nat×Nat×AV)}{qs:List (Nat×Value)}{z z':List AV}{vs:List Value},
  vO z ps=some z'→R G (.k z vs)→ps.length=qs.length→
  (∀(i:Nat)(p:Nat×Nat×AV)(q:Nat×Value),ps[i]?=some p→qs[i]?=some q→place q.1=some (p.1,p.2.1)∧R G (.v p.2.2 q.2))→
  ∃vs',Instr.fill place vs.toArray qs=some vs'.toArray∧R G (.k z' vs')
 | [],[],z,z',vs,h,r,_,_=>by simp [vO] at h;subst h;exact⟨vs,rfl,r⟩
 | [],_::_,_,_,_,_,_,hl,_=>by simp at hl
 |_::_,[],_,_,_,_,_,hl,_=>by simp at hl
 |(off,sz,a)::ps,(i,x)::qs,z,z',vs,h,r,hl,hp=>by
  obtain⟨h1,h2⟩:=hp 0 _ _ rfl rfl;simp only [vO] at h;split at h
  ·rename_i v hv;split at h
   ·rename_i hc;obtain⟨k1,k2⟩:=iA hv h2;simp only [Bool.and_eq_true,decide_eq_true_eq] at hc;obtain⟨c1,c2⟩:=hc;have hlen:x.cells.size=sz:=by have:=k2.tH;rw [c1] at this;simpa using this.symm
    have hvl:z.length=vs.length:=r.eG;have hfill:=yX x vs.toArray off (by simp;omega);have hr:=r.xC k2.c_k off;obtain⟨vs',f1,f2⟩:=sJ (place:=place) (ps:=ps) (qs:=qs) h hr (by simpa using hl) (fun i p q hp1 hq1=>hp (i+1) p q (by simpa using hp1) (by simpa using hq1));refine⟨vs',?_,f2⟩;simp only [Instr.fill,h1];rw [if_neg (by simp;omega)];rw [←f1]
    congr 1
    apply Array.toList_inj.1;rw [hfill]
   ·cases h
  ·cases h
theorem x4{fs:List Field}(h: ∀f∈fs,(P.info? f.type).isSome=true):(fs.mapM (fun f=>(do pure (f.offset,←sizeOf f.type):Sem (Nat×Nat)))).run P w= .ok (fs.map fun f=>(f.offset,P.cellsOf f.type)) w:=by
 induction fs with
 |nil=>rfl
 |cons f fs ih=>
  obtain⟨i,hi⟩:=Option.isSome_iff_exists.1 (h f (by simp));rw [List.mapM_cons];simp only [Sem.run_bind,eM hi,Result.andThen_ok,Sem.run_pure,ih (fun g hg=>h g (by simp [hg])),List.map_cons]
theorem vU{fs:Array Field}(h: ∀f∈fs.toList,(P.info? f.type).isSome=true):(fs.mapM (fun f=>(do pure (f.offset,←sizeOf f.type):Sem (Nat×Nat)))).run P w= .ok ((fs.toList.map fun f=>(f.offset,P.cellsOf f.type)).toArray) w:=by
 rw [Array.mapM_eq_mapM_toList,Sem.run_map,x4 h]
 rfl
theorem uV(hO:Opn P' env G ρ){fs:Array Field}: ∀{ps:List (Nat×Operand)}{qs:List (Nat×Nat×aH)},pV fs P ps=some qs→
  qs.length=ps.length∧ ∀(i:Nat)(p:Nat×Nat×AV)(q:Nat×Value),(qs.map fun p=>(p.1,p.2.1,evO P' env p.2.2))[i]?=some p→(ps.map fun(x:Nat×Operand)=>(x.1,ρ x.2))[i]?=some q→
   ((fs.toList.map fun f=>(f.offset,P.cellsOf f.type)).toArray)[q.1]?=some (p.1,p.2.1)∧R G (.v p.2.2 q.2)
 | [],qs,h=>by simp [pV] at h;subst h;simp
 |(i,x)::ps,qs,h=>by
  simp only [pV] at h;split at h
  ·rename_i f y ys h1 h2 h3;cases h;obtain⟨k1,k2⟩:=uV hO h3;refine⟨by simp [k1],fun j p q hp hq=> ?_⟩;cases j with
   |zero=>
    simp at hp hq;subst hp;subst hq;exact⟨by simp [h1],hO.out _ _ h2⟩
   |succ j=>exact k2 j p q (by simpa using hp) (by simpa using hq)
  ·cases h
theorem uZ(hO:Opn P' env G ρ){esz:Nat}: ∀{ps:List (Nat×Operand)}{qs:List (Nat×Nat×aH)},pT esz ps=some qs→
  qs.length=ps.length∧ ∀(i:Nat)(p:Nat×Nat×AV)(q:Nat×Value),(qs.map fun p=>(p.1,p.2.1,evO P' env p.2.2))[i]?=some p→(ps.map fun(x:Nat×Operand)=>(x.1,ρ x.2))[i]?=some q→
   (some (q.1*esz,esz)=some (p.1,p.2.1))∧R G (.v p.2.2 q.2)
 | [],qs,h=>by simp [pT] at h;subst h;simp
 |(i,x)::ps,qs,h=>by
  simp only [pT] at h;split at h
  ·rename_i y ys h2 h3;cases h;obtain⟨k1,k2⟩:=uZ hO h3;refine⟨by simp [k1],fun j p q hp hq=> ?_⟩;cases j with
   |zero=>simp at hp hq;subst hp;subst hq;exact⟨rfl,hO.out _ _ h2⟩
   |succ j=>exact k2 j p q (by simpa using hp) (by simpa using hq)
  ·cases h
theorem aBc(hI:Inv P B G s w)(hO:Opn P' env G ρ){t:TypeId}{parts:Array (Nat×Operand)}{z:List AV}{qs:List (Nat×Nat×aH)}(hz:zeroOf P t=some z)
(hu:(∃fs,P.underlying t=some (.struct fs)∧(fs.toList.all fun f=>(P.info? f.type).isSome)=true∧pV fs P parts.toList=some qs)∨(∃n e,P.underlying t=some (.array n e)∧(P.info? e).isSome=true∧pT (P.cellsOf e) parts.toList=some qs)){v:AV}
(h:(match(generalizing:=false) vO z (qs.map fun p=>(p.1,p.2.1,evO P' env p.2.2)) with|some cs=>some (AV.agg cs)|none=>none)=some v):fH P G w (Instr.build t (parts.map fun(x:Nat×Operand)=>(x.1,ρ x.2))) v:=by
 split at h
 ·rename_i cs hf;cases h;obtain⟨i,zv,hi,hzv,rz⟩:=gS (G:=G) hz;have hpl:(parts.map fun(x:Nat×Operand)=>(x.1,ρ x.2)).toList=parts.toList.map fun(x:Nat×Operand)=>(x.1,ρ x.2):=by simp
  rcases hu with ⟨fs,hu,hall,hp⟩|⟨n,e,hu,he,hp⟩
  ·obtain⟨k1,k2⟩:=uV hO hp;obtain⟨vs',f1,f2⟩:=sJ (place:=fun i=>((fs.toList.map fun f=>(f.offset,P.cellsOf f.type)).toArray)[i]?) hf rz (by simp [k1]) k2;refine .of hI (x:= .agg vs'.toArray) ?_ (.agg f2);have hm:=vU (P:=P) (w:=w) (fs:=fs) (fun f hf=>by simpa using List.all_eq_true.1 hall f hf);simp only [Instr.build,Sem.run_bind,bF hi hzv,Result.andThen_ok,run_underlying hu,hm,hpl];simp only [Array.toArray_toList] at f1;rw [f1]
   rfl
  ·obtain⟨k1,k2⟩:=uZ hO hp;obtain⟨vs',f1,f2⟩:=sJ (place:=fun i=>some (i*P.cellsOf e,P.cellsOf e)) hf rz (by simp [k1]) k2;refine .of hI (x:= .agg vs'.toArray) ?_ (.agg f2);obtain⟨ie,hie⟩:=Option.isSome_iff_exists.1 he;simp only [Instr.build,Sem.run_bind,bF hi hzv,Result.andThen_ok,run_underlying hu,eM hie,hpl];simp only [Array.toArray_toList] at f1;rw [f1]
   rfl
 ·cases h
theorem qM{sz:Nat}: ∀{css:List (List Value)}{i:Nat}{c:List Value},(∀x∈css,x.length=sz)→c.length=sz→i<css.length→
  (css.flatten.take (i*sz)++c++css.flatten.drop (i*sz+c.length))=(css.set i c).flatten
 | [],i,c,_,_,hi=>by simp at hi
 |x::css,0,c,hx,hc,_=>by
  have:x.length=sz:=hx x (by simp);simp only [Nat.zero_mul,List.take_zero,List.nil_append,Nat.zero_add,List.set_cons_zero,List.flatten_cons,hc];rw [List.drop_append_of_le_length (by omega),List.drop_of_length_le (by omega),List.nil_append]
 |x::css,i+1,c,hx,hc,hi=>by
  have h1:x.length=sz:=hx x (by simp);have ih:=qM (css:=css) (i:=i) (c:=c) (fun y hy=>hx y (by simp [hy])) hc (by simpa using hi);simp only [List.set_cons_succ,List.flatten_cons];rw [←ih,Nat.add_mul,Nat.one_mul,←h1,Nat.add_comm (i*x.length) x.length,List.take_length_add_append,Nat.add_assoc,List.drop_length_add_append];simp only [List.append_assoc]
theorem zU{sz:Nat}: ∀{ps:List (Nat×AV)}{qs:List (Nat×Value)}{xs xs':List AV}{css:List (List Value)},
  kM xs ps=some xs'→ps.length=qs.length→
  (∀(i:Nat)(p:Nat×AV)(q:Nat×Value),ps[i]?=some p→qs[i]?=some q→q.1=p.1∧R G (.c p.2 q.2.cells.toList)∧q.2.cells.size=sz)→
  xs.length=css.length→(∀x∈css,x.length=sz)→(∀(i:Nat)(a:AV),xs[i]?=some a→ ∃vs,css[i]?=some vs∧R G (.c a vs)∧vs.length=sz)→
  ∃css':List (List Value),Instr.fill (fun i=>some (i*sz,sz)) css.flatten.toArray qs=some css'.flatten.toArray∧xs'.length=css'.length∧(∀x∈css',x.length=sz)∧(∀(i:Nat)(a:AV),xs'[i]?=some a→ ∃vs,css'[i]?=some vs∧R G (.c a vs)∧vs.length=sz)
 | [],[],xs,xs',css,h,_,_,hl,hs,hr=>by simp [kM] at h;subst h;exact⟨css,rfl,hl,hs,hr⟩
 | [],_::_,_,_,_,_,hl,_,_,_,_=>by simp at hl
 |_::_,[],_,_,_,_,hl,_,_,_,_=>by simp at hl
 |(i,a)::ps,(j,x)::qs,xs,xs',css,h,hl,hp,hlen,hs,hr=>by
  obtain⟨h1,h2,h3⟩:=hp 0 _ _ rfl rfl;simp only at h1 h2 h3;subst h1;simp only [kM] at h;split at h
  ·rename_i hi;have hi':j<css.length:=by omega
   have hfl:css.flatten.length=css.length*sz:=by
    clear hr hp h hlen hi hi'
    induction css with
    |nil=>simp
    |cons y ys ih=>simp [ih (fun z hz=>hs z (by simp [hz])),hs y (by simp),Nat.add_mul];omega
   have hbd:j*sz+x.cells.size≤css.flatten.length:=by
    rw [hfl,h3];have:=Nat.mul_le_mul_right sz (show j+1≤css.length by omega);rw [Nat.add_mul,Nat.one_mul] at this;exact this
   have hxl:x.cells.toList.length=sz:=by simpa using h3
   obtain⟨css',f1,f2,f3,f4⟩:=zU (ps:=ps) (qs:=qs) (css:=css.set j x.cells.toList) h (by simpa using hl) (fun i p q hp1 hq1=>hp (i+1) p q (by simpa using hp1) (by simpa using hq1)) (by simpa using hlen)
    (fun y hy=>by rcases List.mem_or_eq_of_mem_set hy with hy|rfl;exact hs y hy;exact hxl)
    (fun k b hb=>by
     rw [List.getElem?_set] at hb;by_cases e:j=k
     ·subst e;rw [if_pos rfl,if_pos hi] at hb;cases hb;exact⟨x.cells.toList,by rw [List.getElem?_set_self hi'],h2,hxl⟩
     ·rw [if_neg e] at hb;obtain⟨vs,g1,g2,g3⟩:=hr k b hb;exact⟨vs,by rw [List.getElem?_set_ne e];exact g1,g2,g3⟩)
   refine⟨css',?_,f2,f3,f4⟩;simp only [Instr.fill];rw [if_neg (fun hor=>by
    simp only [ne_eq,Bool.or_eq_true,decide_eq_true_eq] at hor;rcases hor with hq|hq
    ·exact hq h3
    ·have h9:(css.flatten.toArray).size=css.flatten.length:=by simp only [List.size_toArray]
     rw [h9] at hq;exact absurd hbd (Nat.not_le.2 hq))]
   rw [←f1]
   congr 1
   apply Array.toList_inj.1;rw [yX x css.flatten.toArray (j*sz) (by simpa using hbd)];have:=qM (css:=css) (i:=j) (c:=x.cells.toList) hs hxl hi';simpa using this
  ·cases h
theorem rO(z:List Value): ∀n,((Array.range (n*z.length)).map (fun i=>z.toArray[i%z.toArray.size]!)).toList=(List.replicate n z).flatten:=by
 intro n
 induction n with
 |zero=>simp
 |succ n ih=>
  rw [List.replicate_succ',List.flatten_append,←ih,Nat.add_mul,Nat.one_mul];simp only [Array.toList_map,Array.toList_range,List.size_toArray,List.flatten_cons,List.flatten_nil,List.append_nil];rw [List.range_add,List.map_append,List.map_map]
  congr 1
  apply List.ext_getElem
  ·simp
  ·intro i h1 h2;simp at h1;simp [Nat.mul_add_mod_self_right,Nat.mod_eq_of_lt h1,h1]
theorem vA(hO:Opn P' env G ρ): ∀{ps:List (Nat×Operand)}{qs:List (Nat×aH)},pY ps=some qs→
  qs.map (·.1)=ps.map (·.1)∧R G (.l (qs.map fun p=>evO P' env p.2) (ps.map fun p=>ρ p.2))
 | [],qs,h=>by simp [pY] at h;subst h;exact⟨rfl,.iO⟩
 |(i,x)::ps,qs,h=>by
  simp only [pY] at h;split at h
  ·rename_i y ys h2 h3;cases h;obtain⟨k1,k2⟩:=vA hO h3;exact⟨by simp [k1],.bK (hO.out _ _ h2) k2⟩
  ·cases h
theorem qK: ∀{a_ as':List AV}{xs:List Value},cM a_=some as'→R G (.l a_ xs)→ ∀(i:Nat)(a:AV)(x:Value),as'[i]?=some a→xs[i]?=some x→R G (.c a x.cells.toList)
 | [],as',xs,h,r,i,a,x,ha,hx=>by simp [cM] at h;subst h;simp at ha
 |b::a_,as',xs,h,r,i,a,x,ha,hx=>by
  cases r with
  |bK r1 r3=>
   simp only [cM] at h;split at h
   ·cases h
   ·rename_i y hy;split at h
    ·cases h
    ·rename_i ys hys;cases h;cases i with
     |zero=>simp at ha hx;subst ha;subst hx;exact(iA hy r1).2
     |succ i=>exact qK hys r3 i a x (by simpa using ha) (by simpa using hx)
theorem zR(hI:Inv P B G s w)(hO:Opn P' env G ρ){t e:TypeId}{len:Nat}{parts:Array (Nat×Operand)}{z:List AV}{qs:List (Nat×aH)}{ow:Own}(how:ow= .full∨ow= .lit)(hu:P.underlying t=some (.slice e))(hz:zeroOf P e=some z)(hzl:z.length=P.cellsOf e)(hz0:0<z.length)
(hp:pY parts.toList=some qs){v:AV}
(h:(match(generalizing:=false) cM (qs.map fun p=>evO P' env p.2) with
  |some vs=>
   if vs.all (fun v=>(cellsOf v).length==P.cellsOf e)&&decide (len*P.cellsOf e≤16777216) then
    (match kM (List.replicate len (elemOf (P.cellsOf e) z)) ((qs.map (·.1)).zip vs) with
    |some xs=>some (AV.slice (P.cellsOf e) xs ow)
    |none=>none)
   else none
  |none=>none)=some v):fH P G w (Instr.buildSlice t len (parts.map fun(x:Nat×Operand)=>(x.1,ρ x.2))) v:=by
 split at h
 ·rename_i vs hvs;split at h
  ·rename_i hc;split at h
   ·rename_i xs hxs;cases h;simp only [Bool.and_eq_true,decide_eq_true_eq,List.all_eq_true,beq_iff_eq] at hc;obtain⟨c1,c2⟩:=hc;obtain⟨i,zv,hi,hzv,rz⟩:=gS (G:=G) hz;obtain⟨k1,k2⟩:=vA hO hp;have hvl:vs.length=qs.length:=by
     have h1:=(jU hvs k2).oM;have h2:=congrArg List.length k1;simp at h1 h2;omega
    have hql:qs.length=parts.toList.length:=by simpa using congrArg List.length k1
    generalize hsz:P.cellsOf e=sz at*;have hzvl:zv.cells.toList.length=sz:=by rw [←rz.eG];exact hzl
    have hisz:i.size=sz:=by rw [←hsz];simp [Program.cellsOf,hi]
    have rel: ∀zl,R G (.k z zl)→R G (.c (elemOf sz z) zl):=by
     intro zl rz;unfold elemOf;split
     ·cases rz with
      |cT=>simp at hz0
      |aT r1 r2 r3=>
       rename_i a x a_ ys;have:a_.length=0:=by simp at hzl;exact List.length_eq_zero_iff.2 hzl
       have:a_= []:=List.eq_nil_of_length_eq_zero this;subst this;cases r3;exact .mJ (oD r1 r2) r2 r1
     ·exact .kH rz
    obtain⟨css',f1,f2,f3,f4⟩:=zU (G:=G) (sz:=sz) (qs:=parts.toList.map fun(x:Nat×Operand)=>(x.1,ρ x.2)) (css:=List.replicate len zv.cells.toList) hxs (by simp [hvl,hql])
     (fun j p q hp1 hq1=>by
      rw [List.getElem?_zip_eq_some] at hp1;obtain⟨p1,p2⟩:=hp1;have hq2:=hq1;simp only [List.getElem?_map,Option.map_eq_some_iff] at hq1;obtain⟨pt,hq3,rfl⟩:=hq1;have e1:p.1=pt.1:=by
       have:=congrArg (fun l=>l[j]?) k1;simp only [List.getElem?_map] at this p1;rw [p1,hq3] at this;simpa using this
      have e2:(parts.toList.map fun p=>ρ p.2)[j]?=some (ρ pt.2):=by simp [hq3]
      have rc:=qK hvs k2 j p.2 _ p2 e2;refine⟨e1.symm,rc,?_⟩;have:=c1 p.2 (List.mem_of_getElem? p2);rw [rc.tH] at this;simpa using this)
     (by simp) (fun x hx=>by rw [List.eq_of_mem_replicate hx];exact hzvl) (fun j a ha=>by
      have ha':=List.eq_of_mem_replicate (List.mem_of_getElem? ha);have hj:j<len:=by simpa using (List.getElem?_eq_some_iff.1 ha).1
      subst ha';exact⟨_,by simp [hj],rel _ rz,hzvl⟩)
    have hlen:xs.length=len:=by
     have: ∀{ps:List (Nat×AV)}{a_ bs:List AV},kM a_ ps=some bs→bs.length=a_.length:=by
      intro ps
      induction ps with
      |nil=>intro a_ bs h;simp [kM] at h;rw [h]
      |cons p ps ih=>intro a_ bs h;simp only [kM] at h;split at h;rw [ih h];simp;cases h
     rw [this hxs];simp
    have hzs:(0:Nat)<sz:=by omega
    refine⟨.slice (some ⟨w.heap.size,0,none⟩) len len,w.alloc (.cells css'.flatten.toArray e),G.eL w.heap.size 0 css'.flatten.length css'.flatten,?_,?_,?_⟩
    ·by_cases hl0:len=0
     ·subst hl0;have hxe:css'= []:=List.eq_nil_of_length_eq_zero (by omega);subst hxe;have hf:Instr.fill (fun i=>some (i*sz,sz)) (#[]:Array Value) ((parts.toList.map fun(x:Nat×Operand)=>(x.1,ρ x.2)))=some #[]:=by simpa using f1
      have e0:Array.map (fun(_:Nat)=>(default:Value)) (Array.range 0)= #[]:=by simp [Array.range]
      simp [Instr.buildSlice,run_underlying hu,eM hi,hsz,newRow];rw [e0,hf];simp
     ·have hpos: ¬(len*sz=0):=by
       intro h0;rcases Nat.mul_eq_zero.1 h0 with h|h<;>omega
      have hbig: ¬(len*sz>2^24):=by omega
      have hf:Instr.fill (fun i=>some (i*sz,sz)) ((Array.range (len*sz)).map (zv.cells[· %zv.cells.size]!)) ((parts.toList.map fun(x:Nat×Operand)=>(x.1,ρ x.2)))=some css'.flatten.toArray:=by
       rw [←f1]
       congr 1
       apply Array.toList_inj.1;have:=rO zv.cells.toList len;rw [hzvl] at this;simpa using this
      simp [Instr.buildSlice,run_underlying hu,eM hi,hsz,hpos,hbig,bF hi hzv,hf,newRow]
    ·exact hI.aAF css'.flatten e (0,0) css'.flatten.length
    ·have hle:=hI.iF css'.flatten.length css'.flatten;have hr:R (G.eL w.heap.size 0 css'.flatten.length css'.flatten) (.r sz xs w.heap.size 0):=R.aEX (cs:=css') (fun j a ha=>by
       obtain⟨vs,g1,g2,g3⟩:=f4 j a ha;exact⟨vs,g1,g2.mono hle,g3⟩) f2 (fun j y hy=>by
       have hj:j<css'.flatten.length:=(List.getElem?_eq_some_iff.1 hy).1;rw [Nat.zero_add,fL (Nat.zero_le _) hj];exact hy)
     have hm:len≤maxLen:=by
      have:len*1≤len*sz:=Nat.mul_le_mul_left _ hzs;simp only [maxLen];omega
     have:=R.bA (o:=ow) (c:=len) (by omega) hm hr (by rcases how with rfl|rfl<;>simp [gR,hlen]);rw [hlen] at this;exact this
   ·cases h
  ·cases h
 ·cases h
end
section
variable {P : Program} {B : Bs} {G : Gh} {s : ASt} {w : World} {P' : aK} {env : Env} {ρ : Operand → Value}
theorem zJ(hI:Inv P B G s w){mx:Bool}{a b v:AV}{x y:Value}(ra:R G (.v a x))(rb:R G (.v b y))(ts:Array TypeId)(ty:TypeId)
(h:(match(generalizing:=false) a,b with
  | .int k a,.int k' b=>if k=k' then some (AV.int k (match mx with|true=>max a b|false=>min a b)) else none
  |_,_=>none)=some v):fH P G w (match mx with|true=>Builtin.max_ ts ty #[x,y]|false=>Builtin.min_ ts ty #[x,y]) v:=by
 cases ra with
 |int hk=>
  cases rb with
  |int hk'=>
   rename_i k n k' m;by_cases e:k=k'
   ·subst e;simp only [if_true,Option.some.injEq] at h;subst h;cases mx with
    |true=>
     refine .of hI (x:= .int k (max n m)) ?_ (.int ?_)
     ·simp [Builtin.max_,Builtin.max2];omega
     ·rcases Int.le_total n m with h|h
      ·rw [Int.max_eq_right h];exact hk'
      ·rw [Int.max_eq_left h];exact hk
    |false=>
     refine .of hI (x:= .int k (min n m)) ?_ (.int ?_)
     ·simp [Builtin.min_,Builtin.min2];omega
     ·rcases Int.le_total n m with h|h
      ·rw [Int.min_eq_left h];exact hk
      ·rw [Int.min_eq_right h];exact hk'
   ·simp [e] at h
  |_=>simp at h
 |_=>simp at h
theorem fH.lift{m:Sem Value}{v:AV}(h:fH P G w m v): ∃x w' G',((do pure (Next.value (←m))):Sem Next).run P w= .ok (.value x) w'∧Quiet G w G' w'∧R G' (.v v x):=by
 obtain⟨x,w',G',h1,h2,h3⟩:=h;exact⟨x,w',G',by simp [h1],h2,h3⟩
theorem rA{neg:Bool}{t:TypeId}{p q:Operand}{x y:Value}{r:Bool}(hn:tM x y=true)(hg: ∀op,(eqGuard op t p q x y).run P w= .ok () w)(h:(Op.equal t x y).run P w= .ok r w):
  ((do eqGuard (if neg then BinOp.neq else .eql) t p q x y;binOp (if neg then BinOp.neq else .eql) t x y):Sem Value).run P w= .ok (.bool (match neg with|true=> !r|false=>r)) w:=by
 cases neg with
 |true=>simp only [if_true,Sem.run_bind,hg,Result.andThen_ok,(binOp_eql hn).2,h];rfl
 |false=>simp only [Bool.false_eq_true,if_false,Sem.run_bind,hg,Result.andThen_ok,(binOp_eql hn).1,h];rfl
theorem aA0{k:NK}{x:Operand}(h:w8 k x=true): ∃c,x= .const c∧(aAL k c):=by
 unfold w8 at h;split at h<;>first|exact⟨_,rfl,rfl⟩|exact⟨_,rfl,_,_,rfl⟩|cases h
theorem nV{t:TypeId}{p q:Operand}{x y:Value}(hx: ∀a b,¬(x= .agg a∧y= .agg b))(hc:(∃c,p= .const c)∨(∃c,q= .const c))(op:BinOp):(eqGuard op t p q x y).run P w= .ok () w:=by
 cases op<;>first
  |rfl
  |(cases x<;>cases y<;>first
   |rfl
   |(exact absurd ⟨rfl,rfl⟩ (hx _ _))
   |(rcases hc with ⟨c,rfl⟩|⟨c,rfl⟩<;>simp [eqGuard]))
theorem aCJ(hI:Inv P B G s w){neg:Bool}{t:TypeId}{x y:Operand}{a b:aH}(hO:Opn P' env G ρ)(hc: ∀v,(ρ (.const v))=v)(ha:bD x=some a)(hb:bD y=some b){u:TypeDesc}(hu:P.underlying t=some u){k:NK}{aop:AOp}
(hku:kP k u)
(hk:eO neg k x y a b=some aop){v:AV}(h:aU P' env aop=some v):
  fH P G w (do eqGuard (if neg then BinOp.neq else .eql) t x y (ρ x) (ρ y);binOp (if neg then BinOp.neq else .eql) t (ρ x) (ρ y)) v:=by
 have notAgg: ∀c,(aAL k c)→(∀z,tM c z=true∧tM z c=true)∧ ∀a,c≠Value.agg a:=by
  intro c hcc;cases k with
  |slice=>obtain⟨l,d,rfl⟩:=hcc;exact⟨fun z=>by cases z<;>exact⟨rfl,rfl⟩,fun _ h=>by cases h⟩
  |_=>cases hcc;exact⟨fun z=>by cases z<;>exact⟨rfl,rfl⟩,fun _ h=>by cases h⟩
 unfold eO at hk;split at hk
 ·rename_i h1;cases hk;obtain⟨c,rfl,hcc⟩:=aA0 h1;simp only [aU] at h;split at h
  ·rename_i r hr;cases h;obtain⟨n2,n3⟩:=notAgg c hcc;have he:=(x5 (P:=P) (w:=w) hu (hO.out _ _ hb) hr 9999 ⟨hku,hcc⟩).2;rw [hc];exact .of hI (rA (n2 _).1 (nV (fun a b h=>n3 _ h.1) (.inl ⟨_,rfl⟩)) he) (.bool _)
  ·cases h
 ·rename_i h1 h2;cases hk;obtain⟨c,rfl,hcc⟩:=aA0 h2;simp only [aU] at h;split at h
  ·rename_i r hr;cases h;obtain⟨n2,n3⟩:=notAgg c hcc;have he:=(x5 (P:=P) (w:=w) hu (hO.out _ _ ha) hr 9999 ⟨hku,hcc⟩).1;rw [hc];exact .of hI (rA (n2 _).2 (nV (fun a b h=>n3 _ h.2) (.inr ⟨_,rfl⟩)) he) (.bool _)
  ·cases h
 ·cases hk
theorem aBg(hI:Inv P B G s w){neg:Bool}{t:TypeId}{x y:Operand}{a b:AV}{xa xb:Value}(ra:R G (.v a xa))(rb:R G (.v b xb))(hu:P.underlying t=some .bool){v:AV}
(h:(match(generalizing:=false) eqA a b with|some r=>some (AV.bool (match neg with|true=> !r|false=>r))|none=>none)=some v):
  fH P G w (do eqGuard (if neg then BinOp.neq else .eql) t x y xa xb;binOp (if neg then BinOp.neq else .eql) t xa xb) v:=by
 split at h
 ·rename_i r hr;cases h;have hg: ∀{p q:Value},(∀a b,¬(p=Value.agg a∧q= .agg b))→(p≠ .nilIface)→ ∀op,(eqGuard op t x y p q).run P w= .ok () w:=by
   intro p q h1 h2 op;cases op<;>first
    |rfl
    |(cases p<;>cases q<;>first
     |rfl
     |(exact absurd ⟨rfl,rfl⟩ (h1 _ _))
     |(exact absurd rfl h2))
  rcases xL hr ra rb with ⟨k,n,m,rfl,rfl,rfl⟩|⟨p,q,rfl,rfl,rfl⟩|⟨p,q,rfl,rfl,rfl⟩
  ·refine .of hI (x:= .bool (match neg with|true=> !(n==m)|false=>(n==m))) ?_ (.bool _);simp only [Sem.run_bind,hg (p:= .int k n) (q:= .int k m) (fun a b h=>by cases h.1) (by simp),Result.andThen_ok];cases neg<;>simp [binOp,Op.intCmp]<;>rfl
  ·exact .of hI (rA rfl (hg (fun a b h=>by cases h.1) (by simp)) (by rw [rN];exact uQ hu _ _ _)) (.bool _)
  ·refine .of hI (x:= .bool (match neg with|true=> !(p.data.toList==q.data.toList)|false=>(p.data.toList==q.data.toList))) ?_ (.bool _);simp only [Sem.run_bind,hg (p:= .string p) (q:= .string q) (fun a b h=>by cases h.1) (by simp),Result.andThen_ok];cases neg<;>simp [binOp,Op.stringOp,aCB]
 ·cases h
theorem zS{e:TypeId}(he:P.plainKey e=true){xs:Array Value}{off:Nat}{v:Value}{r:List Value}(h:xs.toList.drop off=v::r):(part e xs off).run P w= .ok v w:=
 run_part_plain w he (by
  have:=congrArg (·[0]?) h;simpa using this)
theorem drop_tail{α:Type}{l:List α}{n:Nat}{x:α}{r:List α}(h:l.drop n=x::r):l.drop (n+1)=r:=by
 rw [←List.drop_drop,h];rfl
theorem aA8{xs ys:Array Value}(d:Nat): ∀(fs:List Field)(off:Nat){ks:List KK}{a_ bs:List AV}{r:Bool},mD P off fs=some ks→R G (.k a_ (xs.toList.drop off))→R G (.k bs (ys.toList.drop off))→kL ks a_ bs=some r→
  (Op.eqFields (d+1) xs ys fs).run P w= .ok r w
 | [],off,ks,a_,bs,r,hk,ha,hb,h=>by
  simp only [mD,Option.some.injEq] at hk;subst hk;cases a_ with
  |cons=>simp [kL] at h
  |nil=>
   cases bs with
   |cons=>simp [kL] at h
   |nil=>simp [kL] at h;subst h;simp [Op.eqFields]
 |f::fs,off,ks,a_,bs,r,hk,ha,hb,h=>by
  have fin: ∀{ks':List KK}{as' bs':List AV}{x y:Value}{xr yr:List Value}{r1 r2:Bool},(f.name != "_" &&f.offset==off)=true→mD P (off+1) fs=some ks'→P.plainKey f.type=true→xs.toList.drop off=x::xr→ys.toList.drop off=y::yr→
    R G (.k as' xr)→R G (.k bs' yr)→kL ks' as' bs'=some r2→(Op.equalIn (d+1) f.type x y).run P w= .ok r1 w→(Op.eqFields (d+1) xs ys (f::fs)).run P w= .ok (r1&&r2) w:=by
   intro ks' as' bs' x y xr yr r1 r2 hn hks hpl hx hy ha' hb' hf he;simp only [Bool.and_eq_true,bne_iff_ne,ne_eq,beq_iff_eq] at hn;have hrec:=aA8 d fs (off+1) (xs:=xs) (ys:=ys) hks (by rw [drop_tail hx];exact ha') (by rw [drop_tail hy];exact hb') hf;have hof:=hn.2;simp only [Op.eqFields,hn.1,ne_eq,not_false_eq_true,if_true,Sem.run_bind,hof,zS hpl hx,zS hpl hy,he,Result.andThen_ok];cases r1 with
   |false=>simp
   |true=>simpa using hrec
  simp only [mD] at hk;split at hk
  ·rename_i hn hu hks;cases hk;unfold kL at h;split at h<;>first|(cases h;done)|skip
   all_goals (first|(simp at*;done)|skip)
   rename_i e3;cases e3;split at h
   ·rename_i r2 hr2;cases h;generalize hx:xs.toList.drop off=lx at ha;generalize hy:ys.toList.drop off=ly at hb;cases ha with
    |aT hv1 h11 ht1=>
     cases hb with
     |aT hv2 h12 ht2=>
      cases hv1;cases hv2;exact fin hn hks (by simp [Program.plainKey,hu]) hx hy ht1 ht2 hr2 (uQ hu d _ _)
   ·cases h
  ·rename_i hn hu hks;cases hk;unfold kL at h;split at h<;>first|(cases h;done)|skip
   all_goals (first|(simp at*;done)|skip)
   rename_i e3;cases e3;split at h
   ·rename_i hkk;subst hkk;split at h
    ·rename_i r2 hr2;cases h;generalize hx:xs.toList.drop off=lx at ha;generalize hy:ys.toList.drop off=ly at hb;cases ha with
     |aT hv1 h11 ht1=>
      cases hb with
      |aT hv2 h12 ht2=>
       cases hv1;cases hv2;exact fin hn hks (by simp [Program.plainKey,hu]) hx hy ht1 ht2 hr2 (aCt hu d _ _ _)
    ·cases h
   ·cases h
  ·rename_i hn hu hks;cases hk;unfold kL at h;split at h<;>first|(cases h;done)|skip
   all_goals (first|(simp at*;done)|skip)
   rename_i e3;cases e3;split at h
   ·rename_i r2 hr2;cases h;generalize hx:xs.toList.drop off=lx at ha;generalize hy:ys.toList.drop off=ly at hb;cases ha with
    |aT hv1 h11 ht1=>
     cases hb with
     |aT hv2 h12 ht2=>
      cases hv1;cases hv2;exact fin hn hks (by simp [Program.plainKey,hu]) hx hy ht1 ht2 hr2 (aB8 hu d _ _)
   ·cases h
  ·cases hk
theorem yD(hI:Inv P B G s w){neg:Bool}{t:TypeId}{x y:Operand}{a b:AV}{xa xb:Value}(ra:R G (.v a xa))(rb:R G (.v b xb)){fs:Array Field}(hu:P.underlying t=some (.struct fs))(hst:P.stoodInHeld t=false)(hgt:P.eqGuardType P.depth t=false)
{ks:List KK}(hks:mD P 0 fs.toList=some ks){v:AV}
(h:(match(generalizing:=false) a,b with
  | .agg xs,.agg ys=>(match kL ks xs ys with|some b=>some (AV.bool (match neg with|true=> !b|false=>b))|none=>none)
  |_,_=>none)=some v):
  fH P G w (do eqGuard (if neg then BinOp.neq else .eql) t x y xa xb;binOp (if neg then BinOp.neq else .eql) t xa xb) v:=by
 split at h
 ·rename_i xs ys;split at h
  ·rename_i r hr;cases h;cases ra with
   | @agg _ vs ha=>
   cases rb with
   | @agg _ us hb=>
   have hfs:P.fieldsOf t=fs:=by simp [Program.fieldsOf,hu]
   have he:(Op.equal t (.agg vs.toArray) (.agg us.toArray)).run P w= .ok r w:=by
    rw [rN,run_equalIn_struct w 9999 t _ _ (by rw [hfs];exact hu) hst,hfs];exact aA8 9998 fs.toList 0 hks (by simpa using ha) (by simpa using hb) hr
   exact .of hI (rA rfl (fun op=>by cases op<;>first|rfl|(simp [eqGuard,hgt])) he) (.bool _)
  ·cases h
 ·cases h
end
section
variable {P : Program} {B : Bs} {G : Gh} {s : ASt} {w : World} {P' : aK} {env : Env} {ρ : Operand → Value}
theorem aAa{t:TypeId}{z:List AV}{v:Value}(hz:zeroOf P t=some z){i:TypeInfo}(hi:P.info? t=some i)(hv:i.zero=some v):(∃cs,v= .agg cs∧kF cs.toList=some z)∨(∃a,pN v=some a∧z= [a]):=by
 unfold zeroOf at hz;simp only [hi,Option.bind_some,hv] at hz;cases v with
 |agg cs=>exact .inl ⟨cs,rfl,hz⟩
 |_=>
  simp only [Option.map_eq_some_iff] at hz;obtain⟨a,h1,h2⟩:=hz;exact .inr ⟨a,h1,h2.symm⟩
theorem zc{z:List AV}{ag:Option Bool}(h: ∀y,z= [y]→jG y=false):cellsOf (match(generalizing:=false) z with| [x]=>(match ag with|some false=>x|_=> .agg z)|_=> .agg z)=z:=by
 split
 ·rename_i y;have:=h y rfl;split
  ·cases y<;>first|rfl|(simp [jG] at this)
  ·rfl
 ·rfl
theorem zc'{z:List AV}{ag:Option Bool}{vs:List Value}(hr:R G (.k z vs))(h: ∀y,z= [y]→jG y=false):R G (.k (cellsOf (match(generalizing:=false) z with| [x]=>(match ag with|some false=>x|_=> .agg z)|_=> .agg z)) vs):=by
 rw [zc h];exact hr
theorem z9{vs:List Value}{z:List AV}(h:kF vs=some z): ∀y,z= [y]→jG y=false:=by
 intro y hy;subst hy;cases vs with
 |nil=>simp [kF] at h
 |cons q qs=>
  simp only [kF] at h;split at h
  ·rename_i p ps e1 e2;cases h;exact(kO (G:=⟨fun _ _=>none,fun _=>none,fun _ _=>none⟩) e1).2.2
  ·cases h
theorem yR{t:TypeId}{z:AV}(h:zeroV P t=some z): ∃i v,P.info? t=some i∧i.zero=some v∧R G (.v z v):=by
 unfold zeroV at h;cases hi:P.info? t with
 |none=>simp [hi] at h
 |some i=>
  simp only [hi,Option.bind_some] at h;cases hz:i.zero with
  |none=>simp [hz] at h
  |some v=>simp only [hz] at h;exact⟨i,v,rfl,hz,xG h⟩
theorem sX{a a':AV}(h:eK a=some a'): ∀vs:List Value,R G (.k (cellsOf a) vs)→R G (.k (cellsOf a') vs):=by
 intro vs r;unfold eK at h;split at h
 ·split at h
  ·rename_i ds hd;cases h;exact wX hd r
  ·cases h
 ·rename_i hna;have ha:cellsOf a= [a]:=by cases a<;>first|rfl|(exact absurd rfl (hna _))
  rw [ha] at r;cases r with
  |aT r1 r2 r3=>
   cases r3;obtain⟨k1,k2,k3⟩:=wI h r1;have hb:cellsOf a'= [a']:=by cases a'<;>first|rfl|(simp [jG] at k3)
   rw [hb];exact .aT k1 k2 .cT
theorem R.aCx{a:AV}{vs:List Value}(r:R G (.k (cellsOf a) vs)):R G (.c a vs):=by
 cases a with
 |agg cs=>exact .kH r
 |_=>cases r with|aT r1 r2 r3=>cases r3;exact .mJ rfl r2 r1
theorem aEh(hI:Inv P B G s w){a:AV}(t:TypeId){x:Value}(r:R G (.k (cellsOf a) x.cells.toList)):
  fH P G w (do pure (.pointer (some (←newVar t x)))) (.a8 a 0):=by
 refine⟨.pointer (some ⟨w.heap.size,0,none⟩),w.alloc (.cells x.cells t),G.eL w.heap.size 0 x.cells.toList.length x.cells.toList,?_,?_,?_⟩
 ·simp [newVar,newRow]
 ·have:=hI.aAF x.cells.toList t (0,0) x.cells.toList.length;simpa using this
 ·have hle:=hI.iF x.cells.toList.length x.cells.toList;have:=R.a8 (G:=G.eL w.heap.size 0 x.cells.toList.length x.cells.toList) (b:=w.heap.size) (o:=0) 0 (R.aCx (r.mono hle)) (fun j y hy=>by
   have hj:j<x.cells.toList.length:=by
    rcases Nat.lt_or_ge j x.cells.toList.length with h|h
    ·exact h
    ·rw [List.getElem?_eq_none h] at hy;cases hy
   rw [Nat.zero_add,fL (Nat.zero_le _) hj];exact hy)
  simpa using this
def fB(P:Program)(G:Gh)(w:World)(m:Sem Next)(v:AV):Prop:= ∃x w' G',m.run P w= .ok (.value x) w'∧Quiet G w G' w'∧R G' (.v v x)
theorem aCk(hI:Inv P B G s w)(hO:Opn P' env G ρ)(hc: ∀v,ρ (.const v)=v){h:Hint}{o:Oper}{aop:AOp}(hk:aZ P h o.dst o.op=some aop){v:AV}(hv:aU P' env aop=some v):
  fB P G w (execOp ρ o) v:=by
 unfold aZ at hk;split at hk
 ·rename_i x ho;simp only [Option.map_eq_some_iff] at hk;obtain⟨a,h1,rfl⟩:=hk;simp [aU] at hv;subst hv;exact⟨_,w,G,by simp [execOp,ho],hI.quiet,hO.out _ _ h1⟩
 ·rename_i x ho;simp only [Option.map_eq_some_iff] at hk;obtain⟨a,h1,rfl⟩:=hk;simp [aU] at hv;subst hv;exact⟨_,w,G,by simp [execOp,ho],hI.quiet,hO.out _ _ h1⟩
 ·rename_i c a b ho;split at hk
  ·rename_i c' a' b' h1 h2 h3;cases hk;simp only [aU] at hv;have hcc:=hO.out _ _ h1;generalize evO P' env c'=C at hcc hv;have:=aEb hI hcc (hO.out _ _ h2) (hO.out _ _ h3) hv;obtain⟨x,w',G',q1,q2,q3⟩:=this;refine⟨x,w',G',?_,q2,q3⟩;simp only [execOp,ho,Sem.run_bind,Sem.run_pure] at q1⊢
   revert q1
   cases (asBool (ρ c)).run P w<;>simp [Result.andThen]<;>(intro h;first|exact h|simp_all)
  ·cases hk
 ·rename_i t ho;split at hk
  ·rename_i z hz;obtain⟨i,zv,hi,hzv,hr⟩:=gS (G:=G) hz;split at hk
   ·cases hk;simp [aU] at hv
   ·split at hk
    ·cases hk;simp only [aU] at hv;split at hv
     ·rename_i a' ha';cases hv;have hcell:R G (.k (cellsOf a') zv.cells.toList):=by
       refine sX ha' _ ?_;refine zc' hr ?_;rcases aAa hz hi hzv with ⟨cs,_,h2⟩|⟨a,h1,h2⟩
       ·exact z9 h2
       ·intro y hy;rw [h2] at hy;cases hy;exact(kO (G:=G) h1).2.2
      obtain⟨x,w',G',q1,q2,q3⟩:=aEh hI t hcell;refine⟨x,w',G',?_,q2,q3⟩;simp only [execOp,ho,Instr.alloc,Sem.run_bind,bF hi hzv,Result.andThen_ok] at q1⊢
      revert q1
      cases (newVar t zv).run P w<;>simp [Result.andThen]<;>(intro h;first|exact h|simp_all)
     ·cases hv
    ·cases hk;simp [aU] at hv
  ·cases hk
 ·rename_i t x ho;split at hk
  ·rename_i x' h1;cases hk;split at hv
   ·simp only [aU] at hv;simpa [execOp,ho,fB] using (aEx hI (hO.out _ _ h1) t hv).lift
   ·simp [aU] at hv
  ·cases hk
 ·rename_i t parts ho;split at hk
  ·rename_i z fs hz hu;split at hk
   ·rename_i hall;simp only [Option.map_eq_some_iff] at hk;obtain⟨qs,h1,rfl⟩:=hk;simp only [aU] at hv;simpa [execOp,ho,fB] using (aBc hI hO hz (.inl ⟨fs,hu,hall,h1⟩) hv).lift
   ·cases hk
  ·rename_i z n e hz hu;split at hk
   ·rename_i hall;simp only [Option.map_eq_some_iff] at hk;obtain⟨qs,h1,rfl⟩:=hk;simp only [aU] at hv;simpa [execOp,ho,fB] using (aBc hI hO hz (.inr ⟨n,e,hu,hall,h1⟩) hv).lift
   ·cases hk
  ·cases hk
 ·rename_i t n parts ho;split at hk
  ·rename_i e hu;split at hk
   ·rename_i z ps hz hp;split at hk
    ·rename_i hcond;cases hk;split at hv
     ·simp only [aU] at hv;simpa [execOp,ho,fB] using (zR hI hO (.inr rfl) hu hz hcond.1 hcond.2 hp hv).lift
     ·simp only [aU] at hv;simpa [execOp,ho,fB] using (zR hI hO (.inl rfl) hu hz hcond.1 hcond.2 hp hv).lift
    ·cases hk
   ·cases hk
  ·cases hk
 ·split at hk
  ·cases hk;simp [aU] at hv
  ·cases hk
 ·rename_i t a x ho;split at hk
  ·rename_i a' x' h1 h2;cases hk;split at hv
   ·split at hv<;>simp [aU] at hv
   ·simp [aU] at hv
  ·cases hk
 ·rename_i x ho;simp only [Option.map_eq_some_iff] at hk;obtain⟨a,h1,rfl⟩:=hk;simp only [aU] at hv;exact aCE hI (hO.out _ _ h1) o x ho rfl hv
 ·rename_i op t x y r ho;split at hk
  ·rename_i a b h1 h2;have hbin: ∀{aop:AOp},aop= .bin op a b→aU P' env aop=some v→fB P G w (execOp ρ o) v:=by
    intro aop e hv;subst e;simp only [aU] at hv;simpa [execOp,ho,fB] using (aE8 hI (hO.out _ _ h1) (hO.out _ _ h2) t x y hv).lift
   have hnil: ∀{neg:Bool}{k:NK}{u:TypeDesc}{aop:AOp},(op=if neg then BinOp.neq else .eql)→P.underlying t=some u→kP k u→eO neg k x y a b=some aop→aU P' env aop=some v→fB P G w (execOp ρ o) v:=by
    intro neg k u aop e hu hku he hv;subst e;simpa [execOp,ho,fB] using (aCJ hI hO hc h1 h2 hu hku he hv).lift
   have hflat: ∀{neg:Bool},(op=if neg then BinOp.neq else .eql)→P.underlying t=some .bool→aU P' env (.eq neg a b)=some v→fB P G w (execOp ρ o) v:=by
    intro neg e hu hv;subst e;simp only [aU] at hv;simpa [execOp,ho,fB] using (aBg hI (x:=x) (y:=y) (hO.out _ _ h1) (hO.out _ _ h2) hu hv).lift
   have hstr: ∀{neg:Bool}{fs:Array Field}{aop:AOp},(op=if neg then BinOp.neq else .eql)→P.underlying t=some (.struct fs)→(if P.stoodInHeld t||P.eqGuardType P.depth t then none else(mD P 0 fs.toList).map fun ks=>AOp.eqF neg ks a b)=some aop→aU P' env aop=some v→fB P G w (execOp ρ o) v:=by
    intro neg fs aop e hu hk' hv';subst e;split at hk'
    ·cases hk'
    ·rename_i hcl;simp only [Bool.or_eq_true,not_or,Bool.not_eq_true] at hcl;simp only [Option.map_eq_some_iff] at hk';obtain⟨ks,hks,rfl⟩:=hk';simp only [aU] at hv';simpa [execOp,ho,fB] using (yD hI (x:=x) (y:=y) (hO.out _ _ h1) (hO.out _ _ h2) hu hcl.1 hcl.2 hks hv').lift
   split at hk
   ·split at hk
    ·cases hk;exact hbin rfl hv
    ·cases hk;exact hbin rfl hv
    ·rename_i hu;cases hk;exact hflat (neg:=false) rfl hu hv
    ·rename_i hu;exact hnil (neg:=false) rfl hu (by simp [kP]) hk hv
    ·rename_i hu;exact hnil (neg:=false) rfl hu (by simp [kP]) hk hv
    ·rename_i hu;exact hnil (neg:=false) rfl hu (by simp [kP]) hk hv
    ·rename_i hu;exact hnil (neg:=false) rfl hu (by simp [kP]) hk hv
    ·rename_i hu;exact hnil (neg:=false) rfl hu (by simp [kP]) hk hv
    ·rename_i hu;exact hstr (neg:=false) rfl hu hk hv
    ·cases hk
   ·split at hk
    ·cases hk;exact hbin rfl hv
    ·cases hk;exact hbin rfl hv
    ·rename_i hu;cases hk;exact hflat (neg:=true) rfl hu hv
    ·rename_i hu;exact hnil (neg:=true) rfl hu (by simp [kP]) hk hv
    ·rename_i hu;exact hnil (neg:=true) rfl hu (by simp [kP]) hk hv
    ·rename_i hu;exact hnil (neg:=true) rfl hu (by simp [kP]) hk hv
    ·rename_i hu;exact hnil (neg:=true) rfl hu (by simp [kP]) hk hv
    ·rename_i hu;exact hnil (neg:=true) rfl hu (by simp [kP]) hk hv
    ·rename_i hu;exact hstr (neg:=true) rfl hu hk hv
    ·cases hk
   ·cases hk;exact hbin rfl hv
  ·cases hk
 ·rename_i op t x ho;simp only [Option.map_eq_some_iff] at hk;obtain⟨a,h1,rfl⟩:=hk;have:fH P G w (Op.unary op (ρ x)) v:=aFp hI (hO.out _ _ h1) (by cases op<;>simp only [aU] at hv⊢ <;>first|exact hv|cases hv);simpa [execOp,ho,fB] using this.lift
 ·rename_i S T x ho;split at hk
  ·rename_i k1 k2 x' hs ht h1;cases hk;simp only [aU] at hv;simpa [execOp,ho,fB] using (aDD hI (hO.out _ _ h1) hs ht hv).lift
  ·rename_i x' hs ht h1;cases hk;have hr:=hO.out _ _ h1;simp only [aU] at hv;generalize evO P' env x'=C at hr hv;have key: ∃st,ρ x= .string st∧v=C:=by
    generalize ρ x=X at hr;cases hr<;>simp only [reduceCtorEq] at hv;rename_i st hst;simp [bT] at hv;exact⟨st,rfl,by rw [←hv,List.take_of_length_le (by simp)]⟩
   obtain⟨st,h3,rfl⟩:=key;refine⟨ρ x,w,G,?_,hI.quiet,hr⟩;simp [execOp,ho,convert,run_underlying hs,run_underlying ht,h3]
  ·cases hk
 ·rename_i t x ho;split at hk
  ·cases hk
  ·rename_i u x' hn hu h1;cases hk;simp only [aU] at hv;simpa [execOp,ho,fB] using (aBV hI hu (fun m e=>hn m e) (hO.out _ _ h1) hv).lift
  ·cases hk
 ·rename_i f a b ho;split at hk
  ·rename_i a' b' h1 h2;cases hk;simp only [aU] at hv;have:=(aCi (f:=f) hI (kV hO h1) (kV hO h2) hv).lift;have e1:(a.toList.map ρ).toArray=a.map ρ:=by rw [←Array.toList_map,Array.toArray_toList]
   have e2:(b.toList.map ρ).toArray=b.map ρ:=by rw [←Array.toList_map,Array.toArray_toList]
   rw [e1,e2] at this;simpa [execOp,ho,fB] using this
  ·cases hk
 ·cases hk;simp [aU] at hv
 ·rename_i t l c ho;split at hk
  ·split at hk
   ·split at hk
    ·cases hk;simp [aU] at hv
    ·cases hk
   ·cases hk
  ·cases hk
 ·rename_i t x l u m ho;split at hk
  ·rename_i e x' l' u' m' hu h1 h2 h3 h4;split at hk
   ·rename_i he;cases hk;have he': ∃d,P.underlying e=some d:=Option.isSome_iff_exists.1 he;simp only [aU] at hv;simpa [execOp,ho,fB] using (aEI hI hO hu rfl he' (hO.out _ _ h1) hv h2 h3 h4).lift
   ·cases hk
  ·rename_i x' l' u' hu h1 h2 h3 h4;cases hk;have hm:m=none:=by cases m with|none=>rfl|some q=>simp only [iQ,Option.map_eq_some_iff] at h4;obtain⟨_,_,hq⟩:=h4;cases hq
   subst hm;simp only [aU] at hv;simpa [execOp,ho,fB] using (aCK hI hO hu (hO.out _ _ h1) h2 h3 hv).lift
  ·rename_i n e x' l' u' hu h1 h2 h3 h4;split at hk
   ·rename_i hcond;cases hk;simp at hcond;have he': ∃d,P.underlying e=some d:=Option.isSome_iff_exists.1 hcond.1;have hm:m=none:=by cases m with|none=>rfl|some q=>simp only [iQ,Option.map_eq_some_iff] at h4;obtain⟨_,_,hq⟩:=h4;cases hq
    subst hm;simp only [aU] at hv;simpa [execOp,ho,fB] using (aED hI hO hu rfl he' hcond.2 hv (hO.out _ _ h1) h2 h3).lift
   ·cases hk
  ·cases hk
 ·rename_i S x f ho;split at hk
  ·rename_i fs x' hu h1;split at hk
   ·rename_i fd hf;split at hk
    ·cases hk
    ·rename_i hz;cases hk;simp only [aU] at hv;simpa [execOp,ho,fB] using (aCL hI hu hf hz (hO.out _ _ h1) hv).lift
   ·cases hk
  ·cases hk
 ·rename_i S x f ho;split at hk
  ·rename_i fs x' hu h1;split at hk
   ·rename_i fd hf;simp only [Option.map_eq_some_iff] at hk;obtain⟨ag,hag,rfl⟩:=hk;simp only [aU] at hv;simpa [execOp,ho,fB] using (aDV hI hu hf hag (hO.out _ _ h1) hv).lift
   ·cases hk
  ·cases hk
 ·rename_i t x i ho;split at hk
  ·rename_i e x' i' hu h1 h2;split at hk
   ·rename_i he;cases hk;have he': ∃d,P.underlying e=some d:=Option.isSome_iff_exists.1 he;simp only [aU] at hv;simpa [execOp,ho,fB] using (aEJ hI hu rfl he' (hO.out _ _ h1) (hO.out _ _ h2) hv).lift
   ·cases hk
  ·rename_i n e x' i' hu h1 h2;split at hk
   ·rename_i he;cases hk;have he': ∃d,P.underlying e=some d:=Option.isSome_iff_exists.1 he;simp only [aU] at hv;simpa [execOp,ho,fB] using (aEt hI hu rfl he' (hO.out _ _ h1) (hO.out _ _ h2) hv).lift
   ·cases hk
  ·cases hk
 ·rename_i t x i ho;split at hk
  ·rename_i x' i' hu h1 h2;cases hk;simp only [aU] at hv;simpa [execOp,ho,fB] using (aC2 hI hu (hO.out _ _ h1) (hO.out _ _ h2) hv).lift
  ·rename_i n e x' i' hu h1 h2;simp only [Option.map_eq_some_iff] at hk;obtain⟨ag,hag,rfl⟩:=hk;simp only [aU] at hv;simpa [execOp,ho,fB] using (aEF hI hu hag (hO.out _ _ h1) (hO.out _ _ h2) hv).lift
  ·cases hk
 ·split at hk
  ·split at hk
   ·cases hk;simp [aU] at hv
   ·cases hk
  ·cases hk
 ·split at hk
  ·simp only [Option.map_eq_some_iff] at hk;obtain⟨z,_,rfl⟩:=hk;simp [aU] at hv
  ·cases hk
 ·split at hk
  ·simp only [Option.map_eq_some_iff] at hk;obtain⟨z,_,rfl⟩:=hk;simp [aU] at hv
  ·cases hk
 ·split at hk
  ·cases hk;simp [aU] at hv
  ·cases hk
 ·simp only [Option.map_eq_some_iff] at hk;obtain⟨a,_,rfl⟩:=hk;simp [aU] at hv
 ·rename_i x xt t ok ho;split at hk
  ·cases hk
  ·rename_i u x' z hn hu h1 hz;cases hk;obtain⟨i,zv,hi,hzv,rz⟩:=yR (G:=G) hz;simp only [aU] at hv;simpa [execOp,ho,fB] using (aCg hI hu (fun m e=>hn m e) hi hzv rz (hO.out _ _ h1) hv).lift
  ·cases hk
 ·rename_i x i ho;simp only [Option.map_eq_some_iff] at hk;obtain⟨a,h1,rfl⟩:=hk;simp only [aU] at hv;simpa [execOp,ho,fB] using (aBC hI (hO.out _ _ h1) hv).lift
 ·rename_i c ho;split at hk
  ·rename_i b hb;have hcall: ∃cs,(execOp ρ o).run P w=(builtin b c.argTypes o.type cs (c.args.map ρ)).run P w:=by
    simp only [execOp,ho,resolve,hb,Sem.run_bind,Sem.run_pure,Result.andThen_ok,invoke];exact⟨_,rfl⟩
   obtain⟨cs,hcall⟩:=hcall;unfold aY at hk;split at hk
   ·cases hk;simp [aU] at hv
   ·rename_i x hargs;have hx:c.args= #[x]:=by rw [←Array.toArray_toList (xs:=c.args),hargs]
    split at hk
    ·rename_i x' hu h1;cases hk;simp only [aU] at hv;obtain⟨t,ht,hu⟩:=Option.bind_eq_some_iff.1 hu;have:=(aCy (ty:=o.type) hI ht hu (hO.out _ _ h1) hv).lift;unfold fB;rw [hcall,hx];simpa [builtin] using this
    ·rename_i e x' hu h1;cases hk;simp only [aU] at hv;obtain⟨t,ht,hu⟩:=Option.bind_eq_some_iff.1 hu;have:=(aEG (ty:=o.type) hI ht hu (hO.out _ _ h1) hv).lift;unfold fB;rw [hcall,hx];simpa [builtin] using this
    ·rename_i n e x' hu h1;split at hk
     ·rename_i hn;cases hk;simp only [aU] at hv;cases hv;obtain⟨t,ht,hu⟩:=Option.bind_eq_some_iff.1 hu;have:=(aEr (ty:=o.type) (x:=ρ x) hI ht hu hn).lift;unfold fB;rw [hcall,hx];simpa [builtin] using this
     ·cases hk
    ·cases hk
   ·split at hk
    ·split at hk
     ·cases hk;simp [aU] at hv
     ·cases hk
    ·cases hk
   ·split at hk
    ·split at hk
     ·cases hk;simp [aU] at hv
     ·cases hk
    ·cases hk
   ·rename_i x y hargs;have hx:c.args= #[x,y]:=by rw [←Array.toArray_toList (xs:=c.args),hargs]
    split at hk
    ·rename_i k xs hu h1;cases hk;have hxs: ∃a b,xs= [a,b]∧bD x=some a∧bD y=some b:=by
      simp only [j2] at h1;split at h1
      ·rename_i a a_ e1 e2;split at e2
       ·rename_i b bs e3 e4;cases e4;cases e2;cases h1;exact⟨a,b,rfl,e1,e3⟩
       ·cases e2
      ·cases h1
     obtain⟨a,b,rfl,h2,h3⟩:=hxs;simp only [aU] at hv;have:=(zJ (mx:=true) hI (hO.out _ _ h2) (hO.out _ _ h3) c.argTypes o.type hv).lift;unfold fB;rw [hcall,hx];simpa [builtin] using this
    ·cases hk
   ·rename_i x y hargs;have hx:c.args= #[x,y]:=by rw [←Array.toArray_toList (xs:=c.args),hargs]
    split at hk
    ·rename_i k xs hu h1;cases hk;have hxs: ∃a b,xs= [a,b]∧bD x=some a∧bD y=some b:=by
      simp only [j2] at h1;split at h1
      ·rename_i a a_ e1 e2;split at e2
       ·rename_i b bs e3 e4;cases e4;cases e2;cases h1;exact⟨a,b,rfl,e1,e3⟩
       ·cases e2
      ·cases h1
     obtain⟨a,b,rfl,h2,h3⟩:=hxs;simp only [aU] at hv;have:=(zJ (mx:=false) hI (hO.out _ _ h2) (hO.out _ _ h3) c.argTypes o.type hv).lift;unfold fB;rw [hcall,hx];simpa [builtin] using this
    ·cases hk
   ·cases hk
  ·split at hk
   ·simp only [Option.some.injEq] at hk;split at hk
    ·cases hk;simp [aU] at hv
    ·split at hk<;>cases hk<;>simp [aU] at hv
   ·cases hk
  ·cases hk
 ·split at hk
  ·split at hk
   ·cases hk;simp [aU] at hv
   ·cases hk
  ·cases hk
 ·simp only [Option.map_eq_some_iff] at hk;obtain⟨a,_,rfl⟩:=hk;simp [aU] at hv
 ·cases hk
end
section
variable {P : Program} {B : Bs} {G : Gh} {s : ASt} {w : World} {P' : aK} {env : Env} {ρ : Operand → Value}
def aC6(kk:KK)(d:TypeDesc):Prop:=match kk with| .int=> ∃k,d= .int k| .str=>d= .string| .bool=>d= .bool
theorem aAZ{t:TypeId}{kk:KK}(h:zI P t=some kk): ∃d,P.underlying t=some d∧aC6 kk d:=by
 unfold zI at h;split at h<;>first|cases h|(simp at h;subst h)
 ·exact⟨_,by assumption,rfl⟩
 ·exact⟨_,by assumption,⟨_,rfl⟩⟩
 ·exact⟨_,by assumption,rfl⟩
theorem lG{kk:KK}{d:TypeDesc}(hd:aC6 kk d){k a:AV}{xk xa:Value}(rk:R G (.v k xk))(ra:R G (.v a xa))(hk:keyOf kk k=true){r:Bool}(h:lQ k a=some r):
  Instr.sameNow d xk xa=some r∧(r=true→ ∀n,Instr.sameBits n xa xk=true):=by
 rcases xL h rk ra with ⟨j,n,m,rfl,rfl,rfl⟩|⟨p,q,rfl,rfl,rfl⟩|⟨p,q,rfl,rfl,rfl⟩
 ·cases rk with
  |fZ=>simp [keyOf] at hk
  |int=>
   cases kk<;>simp [keyOf] at hk;obtain⟨k',rfl⟩:=hd;refine⟨by simp [Instr.sameNow],fun h n=> ?_⟩;simp at h;subst h;cases n<;>simp [Instr.sameBits]
 ·cases rk with
  |fZ=>simp [keyOf] at hk
  |bool=>
   cases kk<;>simp [keyOf] at hk;cases hd;refine⟨by simp [Instr.sameNow],fun h n=> ?_⟩;simp at h;subst h;cases n<;>simp [Instr.sameBits]
 ·cases rk with
  |fZ=>simp [keyOf] at hk
  |str=>
   cases kk<;>simp [keyOf] at hk;cases hd;refine⟨by simp [Instr.sameNow,bytes_beq],fun h n=> ?_⟩;have e:p=q:=by
    have:p.data.toList=q.data.toList:=by simpa using h
    cases p;cases q;simp at this;simpa using this
   subst e;have:(p==p)=true:=by rw [bytes_beq];simp
   cases n<;>simp [Instr.sameBits,this]
theorem aC9{kk:KK}{d:TypeDesc}(hd:aC6 kk d){k:AV}{xk:Value}(rk:R G (.v k xk))(hk:keyOf kk k=true){es:List (AV×AV)}{ents:List MapEntry}(hm:kW G es ents):
  ∀{r},tP k es=some r→ ∀i,(r=none∧Instr.findNow d xk ents i=some none)∨(∃v j x,r=some v∧Instr.findNow d xk ents i=some (some (j,x))∧R G (.v v x)):=by
 induction hm with
 |nil=>intro r h i;simp [tP] at h;exact .inl ⟨h.symm,rfl⟩
 |cons hk' hv _ ih=>
  intro r h i;simp only [tP] at h;split at h
  ·rename_i hf;cases h;obtain⟨e1,_⟩:=lG hd rk hk' hk hf;exact .inr ⟨_,i,_,rfl,by simp only [Instr.findNow,e1],hv⟩
  ·rename_i hf;obtain⟨e1,_⟩:=lG hd rk hk' hk hf;rcases ih h (i+1) with ⟨h1,h2⟩|⟨v,j,x,h1,h2,h3⟩
   ·exact .inl ⟨h1,by simp only [Instr.findNow,e1];exact h2⟩
   ·exact .inr ⟨v,j,x,h1,by simp only [Instr.findNow,e1];exact h2,h3⟩
  ·cases h
theorem run_checkKey{kk:KK}{t:TypeId}{d:TypeDesc}(hu:P.underlying t=some d)(hd:aC6 kk d)(b:Bool)(x:Value):(Instr.checkKey b 10000 t x).run P w= .ok () w:=by
 show(Instr.checkKey b (9999+1) t x).run P w= .ok () w;unfold Instr.checkKey;simp only [Sem.run_bind,run_underlying hu,Result.andThen_ok];cases kk with
 |int=>obtain⟨k,rfl⟩:=hd;rfl
 |str=>cases hd;rfl
 |bool=>cases hd;rfl
theorem R.aDy{a:AV}{x:Value}(r:R G (.v a x)){l:Nat}(h:a= .map l): ∃b,x= .map (some b)∧G.L l=some b:=by
 cases r<;>cases h;exact⟨_,rfl,by assumption⟩
theorem eQ{b:Nat}{o:Obj}(h:w.heap[b]?=some o)(hn: ∀c e f,o≠ .cells c e f):(getObj b).run P w= .ok o w:=by
 cases o<;>first|(simp [getObj,Sem.run,h];done)|exact absurd rfl (hn _ _ _)
theorem Inv.at(hI:Inv P B G s w){l b:Nat}(hl:G.L l=some b){k:eH}(hk:s.blks[l]?=some k): ∃o,w.heap[b]?=some o∧gD P G b o k:=by
 have hlt:=(hI.l _ _ hl).2.1;exact⟨w.heap[b],by simp [hlt],hI.blk l b _ k hl (by simp [hlt]) hk⟩
theorem aAD{sz:Nat}{cs:List AV}{off:Nat}{v:AV}(h:partOf true sz cs off=some v):off+sz≤cs.length∧v= .agg ((cs.drop off).take sz):=by
 unfold partOf at h;simp only at h;split at h
 ·cases h;exact⟨by assumption,rfl⟩
 ·cases h
theorem aA2(hI:Inv P B G s w){t:TypeId}{ag:Bool}(hag:fY P t=some ag){a v:AV}{x:Value}(r:R G (.v a x))
(h:(match(generalizing:=false) a with
  | .a8 v off=>(match(generalizing:=false) ag with
   |true=>(match off with
    |0=>if(cellsOf v).length=P.cellsOf t then some (AV.agg (cellsOf v)) else partOf true (P.cellsOf t) (cellsOf v) 0
    |off=>partOf true (P.cellsOf t) (cellsOf v) off)
   |false=>(cellsOf v)[off]?)
  | .ptr l off=>
   (match s.blks[l]? with
   |some (.cells cs _)=>(match(generalizing:=false) ag with
    |true=>(match partOf true (P.cellsOf t) cs off with|some v=>eK v|none=>none)
    |false=>cs[off]?)
   |_=>none)
  |_=>none)=some v):fH P G w (Instr.loadAt t x) v:=by
 obtain⟨d,hd⟩:=iX hag;have key: ∀(b o:Nat)(cs:List AV)(vs:List Value),R G (.k cs vs)→cs.length=P.cellsOf t→ag=true→(∀j y,vs[j]?=some y→w.cell? ⟨b,o+j,none⟩=some y)→
   (Instr.loadAt t (.pointer (some ⟨b,o,none⟩))).run P w= .ok (.agg vs.toArray) w:=by
  intro b o cs vs hk hl ha hc;subst ha;have:=run_loadCells_list (P:=P) w ⟨b,o,none⟩ vs (fun j y hy=>by rw [bY];exact hc j y hy);have hlen:vs.length=P.cellsOf t:=by rw [←hk.eG];exact hl
  rw [hlen] at this;simp [Instr.loadAt,Instr.sureAddr,loadVar,kR hag,dP hd,this]
 have key1: ∀(b o:Nat)(y:Value),ag=false→w.cell? ⟨b,o,none⟩=some y→(Instr.loadAt t (.pointer (some ⟨b,o,none⟩))).run P w= .ok y w:=by
  intro b o y ha hc;subst ha;simp [Instr.loadAt,Instr.sureAddr,loadVar,kR hag,run_load,hc]
 have hpart: ∀(b o off:Nat)(cs:List AV)(vs:List Value)(v:AV),R G (.k cs vs)→partOf true (P.cellsOf t) cs off=some v→ag=true→(∀j y,vs[j]?=some y→w.cell? ⟨b,o+j,none⟩=some y)→
   ∃us:List Value,(Instr.loadAt t (.pointer (some ⟨b,o+off,none⟩))).run P w= .ok (.agg us.toArray) w∧R G (.v v (.agg us.toArray)):=by
  intro b o off cs vs v hk hp ha hc;obtain⟨h1,rfl⟩:=aAD hp;have hk2:=(hk.oE off).s9 (P.cellsOf t);refine⟨(vs.drop off).take (P.cellsOf t),key b (o+off) _ _ hk2 (by rw [List.length_take,List.length_drop];omega) ha ?_,.agg hk2⟩;intro j y hy;rw [List.getElem?_take] at hy;split at hy
  ·rw [List.getElem?_drop] at hy;have:=hc _ _ hy;rwa [←Nat.add_assoc] at this
  ·cases hy
 cases r with
 |a8 off hc hM=>
  rename_i v0 vs b o;have hcell: ∀j y,vs[j]?=some y→w.cell? ⟨b,o+j,none⟩=some y:=fun j y hy=>hI.m _ _ _ (hM j y hy);simp only at h;cases ag with
  |true=>
   simp only at h;split at h
   ·split at h
    ·rename_i hl;cases h;exact .of hI (key b o _ vs hc.c_k hl rfl hcell) (.agg hc.c_k)
    ·obtain⟨us,h1,h2⟩:=hpart b o 0 _ vs v hc.c_k h rfl hcell;exact .of hI h1 h2
   ·obtain⟨us,h1,h2⟩:=hpart b o off _ vs v hc.c_k h rfl hcell;exact .of hI h1 h2
  |false=>
   simp only at h;obtain⟨y,h1,h2,_⟩:=hc.c_k.aB9 h;exact .of hI (key1 b (o+off) y rfl (hcell off y h1)) h2
 |ptr off hL=>
  rename_i l b;simp only at h;split at h
  ·rename_i cs wr hb;obtain⟨o,ho,hok⟩:=hI.at hL hb;obtain⟨vs,e,rfl,hk,_,_⟩:=hok;have hcell: ∀j y,vs[j]?=some y→w.cell? ⟨b,0+j,none⟩=some y:=fun j y hy=>by rw [Nat.zero_add,cell_of ho];exact hy
   cases ag with
   |true=>
    simp only at h;split at h
    ·rename_i v1 hv1;obtain⟨us,h1,h2⟩:=hpart b 0 off _ vs v1 hk hv1 rfl hcell;rw [Nat.zero_add] at h1;exact .of hI h1 (iA h h2).1
    ·cases h
   |false=>
    simp only at h;obtain⟨y,h1,h2,_⟩:=hk.aB9 h;exact .of hI (key1 b off y rfl (by have:=hcell off y h1;rwa [Nat.zero_add] at this)) h2
  ·cases h
 |_=>simp at h
theorem aBx(hI:Inv P B G s w){t kt et:TypeId}(hu:P.underlying t=some (.map kt et)){kk:KK}(hkt:zI P kt=some kk){z:AV}(hz:zeroV P et=some z){ok:Bool}{m k v:AV}{xm xk:Value}(rm:R G (.v m xm))(rk:R G (.v k xk))
(h:(match(generalizing:=false) m with
  | .map l=>
   (match s.blks[l]? with
   |some (.map es)=>
    if keyOf kk k then
     (match tP k es with
     |some (some v)=>some (match ok with|true=>AV.tuple [v,.bool true]|false=>v)
     |some none=>some (match ok with|true=> .tuple [z,.bool false]|false=>z)
     |none=>none)
    else none
   |_=>none)
  | .cF=>some (match ok with|true=> .tuple [z,.bool false]|false=>z)
  |_=>none)=some v):fH P G w (Instr.lookup t xm xk ok) v:=by
 obtain⟨d,hd,hkk⟩:=aAZ hkt;obtain⟨i,zv,hi,hzv,rz⟩:=yR (G:=G) hz;have two: ∀{p q:AV}{xp xq:Value},R G (.v p xp)→R G (.v q xq)→R G (.v (.tuple [p,q]) (.tuple #[xp,xq])):=fun h1 h2=>by simpa using R.tuple (.bK h1 (.bK h2 .iO))
 cases rm with
 |cF=>
  simp only at h;cases h;have hc:=fun b=>run_checkKey (w:=w) hd hkk b xk;cases ok with
  |true=>exact .of hI (x:= .tuple #[zv,.bool false]) (by simp [Instr.lookup,run_underlying hu,hc,Instr.findKey,run_underlying hd,Instr.findNow,bF hi hzv]) (two rz (.bool _))
  |false=>exact .of hI (x:=zv) (by simp [Instr.lookup,run_underlying hu,hc,Instr.findKey,run_underlying hd,Instr.findNow,bF hi hzv]) rz
 |map hL=>
  rename_i l b;simp only at h;split at h
  ·rename_i es hb;obtain⟨o,ho,hok⟩:=hI.at hL hb;obtain⟨ents,clock,rfl,hm⟩:=hok;split at h
   ·rename_i hkey;have hc:=fun b=>run_checkKey (w:=w) hd hkk b xk;cases hf:tP k es with
    |none=>rw [hf] at h;cases h
    |some r=>
     rw [hf] at h;rcases aC9 hkk rk hkey hm hf 0 with ⟨rfl,h2⟩|⟨v1,j,x,rfl,h2,h3⟩
     ·cases h;cases ok with
      |true=>exact .of hI (x:= .tuple #[zv,.bool false]) (by simp [Instr.lookup,run_underlying hu,eQ ho (by simp),hc,Instr.findKey,run_underlying hd,h2,bF hi hzv]) (two rz (.bool _))
      |false=>exact .of hI (x:=zv) (by simp [Instr.lookup,run_underlying hu,eQ ho (by simp),hc,Instr.findKey,run_underlying hd,h2,bF hi hzv]) rz
     ·cases h;cases ok with
      |true=>exact .of hI (x:= .tuple #[x,.bool true]) (by simp [Instr.lookup,run_underlying hu,eQ ho (by simp),hc,Instr.findKey,run_underlying hd,h2]) (two h3 (.bool _))
      |false=>exact .of hI (x:=x) (by simp [Instr.lookup,run_underlying hu,eQ ho (by simp),hc,Instr.findKey,run_underlying hd,h2]) h3
   ·cases h
  ·cases h
 |_=>simp at h
end
structure Css(G:Gh)(sz:Nat)(xs:List AV)(css:List (List Value)):Prop where
 len:css.length=xs.length
 get: ∀(i:Nat)(a:AV),xs[i]?=some a→ ∃vs,css[i]?=some vs∧R G (.c a vs)∧vs.length=sz
theorem Css.nil{G:Gh}{sz:Nat}:Css G sz [] []:=⟨rfl,by simp⟩
theorem Css.cons{G:Gh}{sz:Nat}{x:AV}{xs:List AV}{vs:List Value}{css:List (List Value)}(h:R G (.c x vs))(hl:vs.length=sz)(k:Css G sz xs css):Css G sz (x::xs) (vs::css):=by
 refine⟨by simp [k.len],fun i a ha=> ?_⟩;cases i with
 |zero=>simp at ha;subst ha;exact⟨vs,rfl,h,hl⟩
 |succ i=>simpa using k.get i a (by simpa using ha)
theorem Css.tail{G:Gh}{sz:Nat}{x:AV}{xs:List AV}{vs:List Value}{css:List (List Value)}(k:Css G sz (x::xs) (vs::css)):R G (.c x vs)∧vs.length=sz∧Css G sz xs css:=by
 obtain⟨us,h1,h2,h3⟩:=k.get 0 x rfl;simp at h1;subst h1;exact⟨h2,h3,by have:=k.len;simpa using this,fun i a ha=>by simpa using k.get (i+1) a (by simpa using ha)⟩
theorem Css.mono{G G':Gh}(hG:G.le G'){sz:Nat}{xs:List AV}{css:List (List Value)}(k:Css G sz xs css):Css G' sz xs css:=
 ⟨k.len,fun i a ha=>by obtain⟨vs,h1,h2,h3⟩:=k.get i a ha;exact⟨vs,h1,h2.mono hG,h3⟩⟩
theorem Css.append{G:Gh}{sz:Nat}: ∀{xs ys:List AV}{css dss:List (List Value)},Css G sz xs css→Css G sz ys dss→Css G sz (xs++ys) (css++dss)
 | [],ys,css,dss,h,k=>by have:=h.len;simp at this;subst this;exact k
 |x::xs,ys,[],dss,h,k=>by have:=h.len;simp at this
 |x::xs,ys,vs::css,dss,h,k=>by obtain⟨h1,h2,h3⟩:=h.tail;exact .cons h1 h2 (h3.append k)
theorem Css.take{G:Gh}{sz:Nat}: ∀(n:Nat){xs:List AV}{css:List (List Value)},Css G sz xs css→Css G sz (xs.take n) (css.take n)
 |0,xs,css,_=> .nil
 |n+1,[],css,h=>by have:=h.len;simp at this;subst this;exact .nil
 |n+1,x::xs,[],h=>by have:=h.len;simp at this
 |n+1,x::xs,vs::css,h=>by obtain⟨h1,h2,h3⟩:=h.tail;exact .cons h1 h2 (h3.take n)
theorem Css.flat{G:Gh}{sz:Nat}: ∀{xs:List AV}{css:List (List Value)},Css G sz xs css→R G (.k (iI xs) css.flatten)∧css.flatten.length=xs.length*sz
 | [],css,h=>by have:=h.len;simp at this;subst this;exact⟨by simpa [iI] using R.cT,by simp⟩
 |x::xs,[],h=>by have:=h.len;simp at this
 |x::xs,vs::css,h=>by
  obtain⟨h1,h2,h3⟩:=h.tail;obtain⟨k1,k2⟩:=h3.flat;refine⟨?_,?_⟩
  ·simpa [iI] using R.kG h1.c_k k1
  ·simp only [List.flatten_cons,List.length_append,List.length_cons,h2,k2,Nat.add_mul];omega
theorem Css.row{G:Gh}{sz b o:Nat}{xs:List AV}{css:List (List Value)}(h:Css G sz xs css)(hM: ∀j y,css.flatten[j]?=some y→G.M b (o+j)=some y):R G (.r sz xs b o):=
 R.aEX h.get h.len.symm hM
theorem wO{G:Gh}{sz b:Nat}: ∀{xs:List AV}{o:Nat},R G (.r sz xs b o)→ ∃css,Css G sz xs css∧ ∀j y,css.flatten[j]?=some y→G.M b (o+j)=some y
 | [],o,_=>⟨[],.nil,by simp⟩
 |x::xs,o,h=>by
  cases h with
  |fQ hc hl hM t=>
   rename_i vs;obtain⟨css,h1,h2⟩:=wO t;refine⟨vs::css,.cons hc hl h1,fun j y hy=> ?_⟩;simp only [List.flatten_cons] at hy;rcases Nat.lt_or_ge j vs.length with hj|hj
   ·rw [List.getElem?_append_left hj] at hy;exact hM j y hy
   ·rw [List.getElem?_append_right hj] at hy;have:=h2 _ _ hy;rw [show o+sz+(j-vs.length)=o+j from by omega] at this;exact this
theorem aER{G:Gh}{a a':AV}{vs:List Value}(h:eK a=some a')(r:R G (.c a vs)):R G (.c a' vs):=R.aCx (sX h vs r.c_k)
theorem uL{G:Gh}{sz:Nat}: ∀{xs ys:List AV}{css:List (List Value)},cM xs=some ys→Css G sz xs css→Css G sz ys css
 | [],ys,css,h,k=>by simp [cM] at h;subst h;exact k
 |x::xs,ys,[],h,k=>by have:=k.len;simp at this
 |x::xs,ys,vs::css,h,k=>by
  obtain⟨h1,h2,h3⟩:=k.tail;simp only [cM] at h;split at h
  ·cases h
  ·rename_i y hy;split at h
   ·cases h
   ·rename_i ys' hys;cases h;exact .cons (aER hy h1) h2 (uL hys h3)
theorem aAi{G:Gh}{sz:Nat}: ∀{n:Nat}{cs:List AV}{vs:List Value},R G (.k cs vs)→n*sz≤cs.length→ ∃css,Css G sz (chunks sz n cs) css∧css.flatten=vs.take (n*sz):=by
 intro n
 induction n with
 |zero=>intro cs vs _ _;exact⟨[],.nil,by simp⟩
 |succ n ih=>
  intro cs vs r hl;have hl':sz≤cs.length:=by rw [Nat.add_mul] at hl;omega
  have hvl:cs.length=vs.length:=r.eG;obtain⟨css,h1,h2⟩:=ih (r.oE sz) (by rw [List.length_drop];rw [Nat.add_mul] at hl;omega);have hvs:(vs.take sz).length=sz:=by rw [List.length_take];omega
  refine⟨vs.take sz::css,?_,?_⟩
  ·unfold chunks;refine .cons ?_ hvs h1;split
   ·cases r with
    |cT=>simp at hl'
    |aT g1 g2 t=>exact .mJ (oD g1 g2) g2 g1
   ·exact .kH (r.s9 sz)
  ·rw [List.flatten_cons,h2,Nat.add_mul,Nat.one_mul,Nat.add_comm (n*sz) sz,List.take_add]
theorem sZ{sz:Nat}: ∀{n:Nat}{cs:List AV},(chunks sz n cs).length=n
 |0,_=>rfl
 |n+1,cs=>by simp [chunks,sZ]
theorem vJ: ∀{a_ as':List AV},cM a_=some as'→as'.length=a_.length
 | [],as',h=>by simp [cM] at h;subst h;rfl
 |a::a_,as',h=>by
  simp only [cM] at h;split at h
  ·cases h
  ·split at h
   ·cases h
   ·rename_i ys hys;cases h;simp [vJ hys]
section
variable {P : Program} {B : Bs} {G : Gh} {s : ASt} {w : World} {P' : aK} {env : Env} {ρ : Operand → Value}
theorem sI(hI:Inv P B G s w){l off len sz b:Nat}(hL:G.L l=some b){xs:List AV}(h:rowOf s l off len sz=some xs):
  ∃css,Css G sz xs css∧xs.length=len∧(∀j y,css.flatten[j]?=some y→w.cell? ⟨b,off+j,none⟩=some y):=by
 unfold rowOf at h;split at h
 ·rename_i cs wr hb;obtain⟨o,ho,hok⟩:=hI.at hL hb;obtain⟨vs,e,rfl,hk,_,_⟩:=hok;split at h
  ·rename_i hc;obtain⟨css,h1,h2⟩:=aAi (n:=len) (sz:=sz) (hk.oE off) (by rw [List.length_drop];omega);refine⟨css,uL h h1,by rw [vJ h,sZ],fun j y hy=> ?_⟩;rw [h2,List.getElem?_take] at hy;split at hy
   ·rw [List.getElem?_drop] at hy;rw [cell_of ho];exact hy
   ·cases hy
  ·cases h
 ·cases h
theorem kN{sz:Nat}: ∀{css:List (List Value)}{n j:Nat}{y:Value},(∀c∈css,c.length=sz)→(css.take n).flatten[j]?=some y→css.flatten[j]?=some y
 | [],n,j,y,_,h=>by simp at h
 |c::css,0,j,y,_,h=>by simp at h
 |c::css,n+1,j,y,hl,h=>by
  simp only [List.take_succ_cons,List.flatten_cons] at h⊢;rcases Nat.lt_or_ge j c.length with hj|hj
  ·rw [List.getElem?_append_left hj] at h⊢;exact h
  ·rw [List.getElem?_append_right hj] at h⊢;exact kN (fun x hx=>hl x (List.mem_cons_of_mem _ hx)) h
theorem Css.all{sz:Nat}{xs:List AV}{css:List (List Value)}(h:Css G sz xs css): ∀c∈css,c.length=sz:=by
 intro c hc;obtain⟨i,hi,rfl⟩:=List.mem_iff_getElem.1 hc;have hx:i<xs.length:=by rw [←h.len];exact hi
 obtain⟨vs,h1,_,h3⟩:=h.get i xs[i] (by simp [hx]);rw [List.getElem?_eq_getElem hi] at h1;cases h1;exact h3
theorem oY(hI:Inv P B G s w){esz:Nat}{a:AV}{x:Value}(r:R G (.v a x)){ys:List AV}(h:elems s esz a=some ys):
  ∃css A c,x= .slice A ys.length c∧Css G esz ys css∧ ∀w':World,w'.heap=w.heap→ ∀n,n≤ys.length→(Builtin.firstCells esz n x).run P w'= .ok (css.take n).flatten.toArray w':=by
 have key: ∀(b o c:Nat)(css:List (List Value)),Css G esz ys css→(∀j y,css.flatten[j]?=some y→w.cell? ⟨b,o+j,none⟩=some y)→
   ∀w':World,w'.heap=w.heap→ ∀n,n≤ys.length→(Builtin.firstCells esz n (.slice (some ⟨b,o,none⟩) ys.length c)).run P w'= .ok (css.take n).flatten.toArray w':=by
  intro b o c css hc hcell w' hw n hn;refine run_firstCells_some w' esz n _ _ _ _ ?_ ?_
  ·rw [(hc.take n).flat.2,List.length_take,Nat.min_eq_left hn]
  ·intro j y hy;rw [bY];have:=hcell j y (kN hc.all hy);rw [fA (w:=w) (w':=w') (by rw [hw])];exact this
 have none0: ∀(A:Option Addr)(c:Nat)(w':World),∀n,n≤0→(Builtin.firstCells esz n (.slice A 0 c)).run P w'= .ok ((([]:List (List Value)).take n).flatten.toArray) w':=by
  intro A c w' n hn;have:n=0:=by omega
  subst this;cases A with
  |none=>simp [Builtin.firstCells]
  |some A=>simp [Builtin.firstCells,loadCells,loadCellsFrom]
 cases r with
 |aW hm ho=>
  simp only [elems] at h;split at h
  ·cases h;exact⟨[],_,_,rfl,.nil,fun w' _=>none0 _ _ w'⟩
  ·cases h
 |bA hc hm hr ho=>
  rename_i sz xs o b off c;simp only [elems] at h;split at h
  ·rename_i hcond;cases h;by_cases hs:sz=esz
   ·subst hs;obtain⟨css,h1,h2⟩:=wO hr;exact⟨css,_,_,rfl,h1,key b off c css h1 fun j y hy=>hI.m _ _ _ (h2 j y hy)⟩
   ·have hnil:ys= []:=by simpa [hs] using hcond
    subst hnil;exact⟨[],_,_,rfl,.nil,fun w' _=>none0 _ _ w'⟩
  ·cases h
 |ms hL hc hm=>
  simp only [elems] at h;split at h
  ·rename_i hs;subst hs;obtain⟨css,h1,h2,h3⟩:=sI hI hL h;subst h2;exact⟨css,_,_,rfl,h1,key _ _ _ css h1 h3⟩
  ·cases h
 |_=>simp [elems] at h
def Gh.oN(G:Gh)(t n b c sz:Nat):Gh:={G with H:=fun t' n'=>if t'=t∧n'=n then some (b,c,sz) else G.H t' n'}
theorem iW{t n b c sz:Nat}:(G.oN t n b c sz).H t n=some (b,c,sz):=by simp [Gh.oN]
theorem gK{t n b c sz t' n':Nat}(h: ¬(t'=t∧n'=n)):(G.oN t n b c sz).H t' n'=G.H t' n':=by simp only [Gh.oN,if_neg h]
theorem rI{t n b c sz:Nat}(h:G.H t n=none):G.le (G.oN t n b c sz) where
 M:=fun _ _ _ h=>h
 L:=fun _ _ h=>h
 H:=fun t' n' x hx=>by
  by_cases e:t'=t∧n'=n
  ·obtain⟨rfl,rfl⟩:=e;rw [h] at hx;cases hx
  ·rw [gK e];exact hx
theorem Inv.aCe(h:Inv P B G s w){t n b c sz:Nat}{toks':List Nat}(hself:toks'[t]?=some n)(hoth: ∀t',t'≠t→toks'[t']?=s.toks[t']?)(hless: ∀n0,s.toks[t]?=some n0→n0<n)
(hnp: ¬B.Pr b){e:TypeId}{cur:Array Value}(hb:w.heap[b]?=some (.cells cur e (0,0)))(hcur:cur.size=c*sz)(hsz:0<sz)(hnc:n≤c)(hcm:c≤maxLen)(hM: ∀j,n*sz≤j→G.M b j=none)
(hL: ∀ℓ,G.L ℓ≠some b)(hfree: ∀t' n' b' c' sz',t'≠t→s.toks[t']?=some n'→G.H t' n'=some (b',c',sz')→b'≠b):
  G.H t n=none∧Inv P B (G.oN t n b c sz) {s with toks:=toks'} w:=by
 have hnone:G.H t n=none:=by
  cases hx:G.H t n with
  |none=>rfl
  |some x=>
   obtain⟨n0,h1,h2⟩:=h.hh t n x hx;have:=hless n0 h1;omega
 have hle:=rI (b:=b) (c:=c) (sz:=sz) hnone;refine⟨hnone,?_⟩;exact{
  os:=h.os,tape:=h.tape,output:=h.output,size:=h.size,pr:=h.pr,prM:=h.prM,m:=h.m,l:=h.l,inj:=h.inj
  blk:=fun ℓ b' o k hl ho hk=>(h.blk ℓ b' o k hl ho hk).mono hle fun cs hc j=>by
   have:=h.blk ℓ b' o k hl ho hk;subst hc;obtain⟨_,_,_,_,h3,_⟩:=this;exact h3 rfl j
  tok:=fun t' n' ht'=>by
   by_cases e':t'=t
   ·subst e';rw [hself] at ht';cases ht';exact⟨b,c,sz,iW,hnp,eC hb,⟨e,cur,hb,hcur⟩,hsz,hnc,hcm,hM,hL⟩
   ·rw [hoth t' e'] at ht';obtain⟨b',c',sz',k⟩:=h.tok t' n' ht';exact⟨b',c',sz',by rw [gK (fun q=>e' q.1)];exact k.h,k.np,k.lt,k.blk,k.szp,k.nc,k.cm,k.m,k.l⟩
  fP:=fun t1 t2 n1 n2 b1 c1 sz1 c2 sz2 h1 h2 h3 h4=>by
   by_cases e1:t1=t
   ·by_cases e2:t2=t
    ·rw [e1,e2]
    ·subst e1;rw [hself] at h1;cases h1;rw [iW] at h3;cases h3;rw [hoth t2 e2] at h2;rw [gK (fun q=>e2 q.1)] at h4;exact absurd rfl (hfree t2 n2 _ _ _ e2 h2 h4)
   ·rw [hoth t1 e1] at h1;rw [gK (fun q=>e1 q.1)] at h3;by_cases e2:t2=t
    ·subst e2;rw [hself] at h2;cases h2;rw [iW] at h4;cases h4;exact absurd rfl (hfree t1 n1 _ _ _ e1 h1 h3)
    ·rw [hoth t2 e2] at h2;rw [gK (fun q=>e2 q.1)] at h4;exact h.fP t1 t2 n1 n2 b1 c1 sz1 c2 sz2 h1 h2 h3 h4
  hh:=fun t1 n1 x hx=>by
   by_cases e1:t1=t∧n1=n
   ·obtain⟨rfl,rfl⟩:=e1;exact⟨_,hself,Nat.le_refl _⟩
   ·rw [gK e1] at hx;obtain⟨n0,h1,h2⟩:=h.hh t1 n1 x hx;by_cases e2:t1=t
    ·subst e2;exact⟨n,hself,by have:=hless n0 h1;omega⟩
    ·exact⟨n0,by rw [hoth t1 e2];exact h1,h2⟩
  tot:=h.tot}
theorem Inv.aCm(h:Inv P B G s w){t n b c sz:Nat}(ht:s.toks[t]?=some n)(hH:G.H t n=some (b,c,sz)){e:TypeId}{cur:Array Value}(hb:w.heap[b]?=some (.cells cur e (0,0)))
{vs:List Value}(hlen:vs.length=cur.size)(hkeep: ∀j,j<n*sz→vs[j]?=cur[j]?){n':Nat}(hn:n<n')(hnc:n'≤c):
  G.le ((G.eL b (n*sz) (n'*sz) vs).oN t n' b c sz)∧Inv P B ((G.eL b (n*sz) (n'*sz) vs).oN t n' b c sz) {s with toks:=s.toks.set t n'} (w.putObj b (.cells vs.toArray e (0,0))):=by
 obtain⟨b0,c0,sz0,k⟩:=h.tok t n ht;have hq:=k.h;rw [hH] at hq;cases hq;have hle0:G.le (G.eL b (n*sz) (n'*sz) vs):=Gh.nD fun o h1 _ x hx=>by rw [k.m o h1] at hx;cases hx
 have hnone:(G.eL b (n*sz) (n'*sz) vs).H t n'=none:=by
  show G.H t n'=none;cases hx:G.H t n' with
  |none=>rfl
  |some x=>
   obtain⟨n0,h1,h2⟩:=h.hh t n' x hx;rw [ht] at h1;cases h1;omega
 have hle:G.le ((G.eL b (n*sz) (n'*sz) vs).oN t n' b c sz):=hle0.trans (rI hnone);have hlt:=k.lt;have htl:t<s.toks.length:=(List.getElem?_eq_some_iff.1 ht).1;have hself:(s.toks.set t n')[t]?=some n':=List.getElem?_set_self htl;have hoth: ∀t',t'≠t→(s.toks.set t n')[t']?=s.toks[t']?:=fun t' ht'=>List.getElem?_set_ne (fun e=>ht' e.symm);have hne: ∀{x},x≠b→(w.putObj b (.cells vs.toArray e (0,0))).heap[x]?=w.heap[x]?:=fun hx=>World.putObj_heap_other hx;have hse:(w.putObj b (.cells vs.toArray e (0,0))).heap[b]?=some (.cells vs.toArray e (0,0)):=World.putObj_heap_same hlt;have hsz:(w.putObj b (.cells vs.toArray e (0,0))).heap.size=w.heap.size:=by simp [World.putObj]
 obtain⟨e0,cur0,hb0,hcur0⟩:=k.blk;rw [hb] at hb0;cases hb0;have hMn: ∀{x j},x≠b→((G.eL b (n*sz) (n'*sz) vs).oN t n' b c sz).M x j=G.M x j:=fun hx=>lH hx;refine⟨hle,?_⟩;exact{
  os:=h.os,tape:=h.tape,output:=h.output,size:=by rw [hsz];exact h.size
  pr:=fun x hx=>(hne (fun e'=>k.np (e'▸hx))).trans (h.pr x hx)
  prM:=fun x hx o=>by rw [hMn (fun e'=>k.np (e'▸hx))];exact h.prM x hx o
  m:=fun x j v hv=>by
   by_cases e':x=b
   ·subst e';rw [cell_of hse];change (G.eL x (n*sz) (n'*sz) vs).M x j=some v at hv;by_cases hj:n*sz≤j∧j<n'*sz
    ·rw [fL hj.1 hj.2] at hv;exact hv
    ·rw [oO hj] at hv;have hjn:j<n*sz:=by
      rcases Nat.lt_or_ge j (n*sz) with q|q
      ·exact q
      ·rw [k.m j q] at hv;cases hv
     rw [hkeep j hjn];have:=h.m x j v hv;simpa [World.cell?,hb] using this
   ·rw [hMn e'] at hv;rw [fA (hne e')];exact h.m x j v hv
  l:=fun ℓ x hx=>⟨(h.l ℓ x hx).1,by rw [hsz];exact(h.l ℓ x hx).2.1,(h.l ℓ x hx).2.2⟩
  inj:=h.inj
  blk:=fun ℓ x o k' hx ho hk'=>by
   have hxb:x≠b:=fun e'=>k.l ℓ (e'▸hx);rw [hne hxb] at ho;exact(h.blk ℓ x o k' hx ho hk').mono hle fun cs hc j=>by
    rw [hMn hxb];have:=h.blk ℓ x o k' hx ho hk';subst hc;obtain⟨_,_,_,_,h3,_⟩:=this;exact h3 rfl j
  tok:=fun t' n1 ht'=>by
   by_cases e':t'=t
   ·subst e';have ht2:(s.toks.set t' n')[t']?=some n1:=ht';rw [hself] at ht2;cases ht2;refine⟨b,c,sz,iW,k.np,by rw [hsz];exact hlt,⟨e,vs.toArray,hse,by simpa [hlen] using hcur0⟩,k.szp,hnc,k.cm,fun j hj=> ?_,k.l⟩;show(G.eL b (n*sz) (n'*sz) vs).M b j=none;rw [oO (by omega)];have:n*sz≤n'*sz:=Nat.mul_le_mul_right _ (by omega);exact k.m j (by omega)
   ·have ht2:(s.toks.set t n')[t']?=some n1:=ht';rw [hoth t' e'] at ht2;obtain⟨x,c',sz',k'⟩:=h.tok t' n1 ht2;have hxb:x≠b:=fun e2=>e' (h.fP t' t n1 n x c' sz' c sz ht2 ht k'.h (e2▸hH));exact⟨x,c',sz',by rw [gK (fun q=>e' q.1)];exact k'.h,k'.np,by rw [hsz];exact k'.lt,by rw [hne hxb];exact k'.blk,k'.szp,k'.nc,k'.cm,fun j hj=>by rw [hMn hxb];exact k'.m j hj,k'.l⟩
  fP:=fun t1 t2 n1 n2 b1 c1 sz1 c2 sz2 h1 h2 h3 h4=>by
   change (s.toks.set t n')[t1]?=some n1 at h1;change (s.toks.set t n')[t2]?=some n2 at h2;have hfree: ∀t' n1 b' c' sz',t'≠t→s.toks[t']?=some n1→G.H t' n1=some (b',c',sz')→b'≠b:=fun t' n1 b' c' sz' e' hq1 hq2 e2=>e' (h.fP t' t n1 n b' c' sz' c sz hq1 ht hq2 (e2▸hH));by_cases e1:t1=t
   ·by_cases e2:t2=t
    ·rw [e1,e2]
    ·subst e1;rw [hself] at h1;cases h1;rw [iW] at h3;cases h3;rw [hoth t2 e2] at h2;rw [gK (fun q=>e2 q.1)] at h4;exact absurd rfl (hfree t2 n2 _ _ _ e2 h2 h4)
   ·rw [hoth t1 e1] at h1;rw [gK (fun q=>e1 q.1)] at h3;by_cases e2:t2=t
    ·subst e2;rw [hself] at h2;cases h2;rw [iW] at h4;cases h4;exact absurd rfl (hfree t1 n1 _ _ _ e1 h1 h3)
    ·rw [hoth t2 e2] at h2;rw [gK (fun q=>e2 q.1)] at h4;exact h.fP t1 t2 n1 n2 b1 c1 sz1 c2 sz2 h1 h2 h3 h4
  hh:=fun t1 n1 x hx=>by
   show∃n0,(s.toks.set t n')[t1]?=some n0∧n1≤n0;by_cases e1:t1=t∧n1=n'
   ·obtain⟨rfl,rfl⟩:=e1;exact⟨_,hself,Nat.le_refl _⟩
   ·rw [gK e1] at hx;obtain⟨n0,h1,h2⟩:=h.hh t1 n1 x hx;by_cases e2:t1=t
    ·subst e2;rw [ht] at h1;cases h1;exact⟨n',hself,by omega⟩
    ·exact⟨n0,by rw [hoth t1 e2];exact h1,h2⟩
  tot:=h.tot}
end
section
variable {P : Program} {B : Bs} {G : Gh} {s s1 : ASt} {w : World} {P' : aK} {env : Env} {ρ : Operand → Value}
def sB(P:Program)(B:Bs)(G:Gh)(s1:ASt)(w:World)(m:Sem Next)(v:AV):Prop:=
 ∃n x w' G',m.run P w= .ok n w'∧(n=Next.value x∨(n= .skip∧x=undef))∧G.le G'∧Inv P B G' s1 w'∧R G' (.v v x)
theorem R.box{a:AV}{x:Value}(r:R G (.v a x))(h:nU a=true):R G (.k (cellsOf a) x.cells.toList):=by
 cases r with
 |tuple=>simp [nU] at h
 |fZ=>simp [nU] at h
 |agg hk=>simpa [Value.cells,cellsOf] using hk
 |int h'=>exact .aT (.int h') rfl .cT
 |bool b=>exact .aT (.bool b) rfl .cT
 |str s hs=>exact .aT (.str s hs) rfl .cT
 |aW hm ho=>exact .aT (.aW hm ho) rfl .cT
 |bA hc hm hr ho=>exact .aT (.bA hc hm hr ho) rfl .cT
 |ms hL hc hm=>exact .aT (.ms hL hc hm) rfl .cT
 |cB=>exact .aT .cB rfl .cT
 |ptr off hL=>exact .aT (.ptr off hL) rfl .cT
 |a8 off hc hM=>exact .aT (.a8 off hc hM) rfl .cT
 |func ha hb=>exact .aT (.func ha hb) rfl .cT
 |bQ=>exact .aT .bQ rfl .cT
 |yield hL=>exact .aT (.yield hL) rfl .cT
 |map hL=>exact .aT (.map hL) rfl .cT
 |cF=>exact .aT .cF rfl .cT
 |iface h1=>exact .aT (.iface h1) rfl .cT
 |a9=>exact .aT .a9 rfl .cT
 |iter hL=>exact .aT (.iter hL) rfl .cT
theorem Inv.tL(hI:Inv P B G s w){cs:List AV}{vs:List Value}(r:R G (.k cs vs))(e:TypeId):
  G.le (G.lZ s.blks.length w.heap.size)∧Inv P B (G.lZ s.blks.length w.heap.size) {s with blks:=s.blks++ [.cells cs true]} (w.alloc (.cells vs.toArray e)):=by
 have hle:G.le (G.lZ s.blks.length w.heap.size):=Gh.lF hI.aAm;exact⟨hle,hI.p8 _ _ ⟨vs,e,rfl,r.mono hle,fun _ j=>hI.aDa j,fun h=>by cases h⟩⟩
theorem aD7(hI:Inv P B G s w){cs:List AV}(t:TypeId){x:Value}(r:R G (.k cs x.cells.toList)):
  sB P B G {s with blks:=s.blks++ [.cells cs true]} w (do pure (Next.value (.pointer (some (←newVar t x))))) (.ptr s.blks.length 0):=by
 obtain⟨hle,h2⟩:=hI.tL r t;refine⟨_,.pointer (some ⟨w.heap.size,0,none⟩),w.alloc (.cells x.cells t),_,?_,.inl rfl,hle,by simpa using h2,.ptr 0 iB⟩;simp [newVar,newRow]
theorem kE{g:Nat}{cur:Array Value}{t:TypeId}{fr:Nat×Nat}(hg:w.heap[g]?=some (.cells cur t fr))(cs:Array Value):w.setRow g cs=w.putObj g (.cells cs t fr):=by
 have hlt:g<w.heap.size:=(Array.getElem?_eq_some_iff.1 hg).1;have hv:w.heap[g]= .cells cur t fr:=(Array.getElem?_eq_some_iff.1 hg).2;unfold World.setRow World.putObj
 congr 1
 apply Array.ext
 ·simp
 ·intro i h1 h2;rw [Array.getElem_modify,Array.getElem_setIfInBounds];by_cases e:g=i
  ·subst e;simp [hv]
  ·simp [e]
  ·simpa using h1
theorem Inv.write(hI:Inv P B G s w){l b:Nat}(hL:G.L l=some b){cs:List AV}(hb:s.blks[l]?=some (.cells cs true)){off:Nat}{ds:List AV}{us:List Value}(hk:R G (.k ds us))(hlen:off+ds.length≤cs.length):
  ∃w',(storeCells ⟨b,off,none⟩ us).run P w= .ok () w'∧Inv P B G {s with blks:=s.blks.set l (.cells (a0 cs off ds) true)} w':=by
 obtain⟨o,ho,hok⟩:=hI.at hL hb;obtain⟨vs,e,rfl,hkv,hM,_⟩:=hok;have hl1:cs.length=vs.length:=hkv.eG;have hl2:ds.length=us.length:=hk.eG;have hrun:=run_storeCells_at P b off e us 0 vs.toArray w ho (by simp;omega) hk.aAW;refine⟨_,hrun,?_⟩;rw [kE ho];refine hI.put hL ⟨_,e,rfl,?_,fun _=>hM rfl,fun h=>by cases h⟩ (fun j x hx=>by rw [hM rfl j] at hx;cases hx);simpa using hkv.xC hk off
theorem Inv.fC{s0:ASt}{l:Nat}{cs:List AV}{blks:List eH}(h:Inv P B G {s0 with blks:=blks} w):Inv P B G (fC s0 l cs blks) w:=h.tT rfl rfl
theorem aDo(hI:Inv P B G s w){t:TypeId}{i:TypeInfo}(hi:P.info? t=some i){a x:AV}{xa xv:Value}(ra:R G (.v a xa))(rx:R G (.v x xv)){v:AV}
(h:(match(generalizing:=false) a with
  | .ptr l off=>
   (match s.blks[l]? with
   |some (.cells cs true)=>
    if nU x&&(cellsOf x).length=P.cellsOf t&&off+P.cellsOf t≤cs.length then
     some (dX,Fw.fC s l (cellsOf x) (s.blks.set l (.cells (a0 cs off (cellsOf x)) true)))
    else none
   |_=>none)
  |_=>none)=some (v,s1)):sB P B G s1 w (do Instr.storeAt t xa xv;pure .skip) v:=by
 cases ra<;>simp only [reduceCtorEq] at h;rename_i l b off hL;split at h
 ·rename_i cs hb;split at h
  ·rename_i hc;cases h;simp at hc;obtain⟨⟨hc1,hc2⟩,hc3⟩:=hc;have hk:=rx.box hc1;obtain⟨w',hrun,h'⟩:=hI.write hL hb (off:=off) hk (by omega);have hsz:xv.cells.size=P.cellsOf t:=by rw [←hc2,hk.eG];simp
   refine⟨.skip,undef,w',G,?_,.inr ⟨rfl,rfl⟩,.refl _,h'.fC,?_⟩
   ·simp [Instr.storeAt,Instr.sureAddr,storeVar,eM hi,hsz,hrun]
   ·exact .tuple .iO
  ·cases h
 ·cases h
theorem lX{b:Nat}{o o':Obj}(h:w.heap[b]?=some o)(hn: ∀c e f,o≠ .cells c e f):(setObj b o').run P w= .ok () (w.putObj b o'):=by
 cases o<;>first|(simp [setObj,Sem.run,h,World.putObj];done)|exact absurd rfl (hn _ _ _)
theorem aDJ{kk:KK}{d:TypeDesc}(hd:aC6 kk d){k v:AV}{xk xv:Value}(rk:R G (.v k xk))(rv:R G (.v v xv))(hk:keyOf kk k=true){es:List (AV×AV)}{ents:List MapEntry}(hm:kW G es ents):
  ∀{es'},wC k v es=some es'→ ∀i,
   (Instr.findNow d xk ents i=some none∧ ∀born,kW G es' (ents++ [{key:=xk,val:=xv,born}]))∨
   (∃j e,Instr.findNow d xk ents i=some (some (i+j,e.val))∧ents[j]?=some e∧(∀n,Instr.sameBits n e.key xk=true)∧kW G es' (ents.modify j fun e=>{e with key:=xk,val:=xv})):=by
 induction hm with
 |nil=>
  intro es' h i;simp [wC] at h;subst h;exact .inl ⟨rfl,fun born=> .cons rk rv .nil⟩
 |cons hk' hv ht ih=>
  rename_i a u e es ents;intro es' h i;simp only [wC] at h;split at h
  ·rename_i hf;cases h;obtain⟨e1,e2⟩:=lG hd rk hk' hk hf;exact .inr ⟨0,e,by simp only [Instr.findNow,e1];rfl,rfl,e2 rfl,by simpa using kW.cons rk rv ht⟩
  ·rename_i hf;obtain⟨e1,_⟩:=lG hd rk hk' hk hf;split at h
   ·rename_i r hr;cases h;rcases ih hr (i+1) with ⟨h1,h2⟩|⟨j,e',h1,h2,h3,h4⟩
    ·exact .inl ⟨by simp only [Instr.findNow,e1];exact h1,fun born=> .cons hk' hv (h2 born)⟩
    ·refine .inr ⟨j+1,e',?_,by simpa using h2,h3,by simpa using kW.cons hk' hv h4⟩;simp only [Instr.findNow,e1,h1];rw [show i+1+j=i+(j+1) from by omega]
   ·cases h
  ·cases h
theorem zB(hI:Inv P B G s w){t kt et:TypeId}(hu:P.underlying t=some (.map kt et)){kk:KK}(hkt:zI P kt=some kk){m k x v:AV}{xm xk xv:Value}(rm:R G (.v m xm))(rk:R G (.v k xk))(rx:R G (.v x xv))
(h:(match(generalizing:=false) m,eK x with
  | .map l,some v=>
   (match s.blks[l]? with
   |some (.map es)=>
    if keyOf kk k then
     (match wC k v es with
     |some es'=>some (dX,Fw.fC s l [v] (s.blks.set l (.map es')))
     |none=>none)
    else none
   |_=>none)
  |_,_=>none)=some (v,s1)):sB P B G s1 w (do Instr.mapUpdate t xm xk xv;pure .skip) v:=by
 obtain⟨d,hd,hkk⟩:=aAZ hkt;split at h
 ·rename_i l v1 hfix;obtain⟨b,rfl,hL⟩:=rm.aDy rfl;split at h
  ·rename_i es hb;obtain⟨o,ho,hok⟩:=hI.at hL hb;obtain⟨ents,clock,rfl,hm⟩:=hok;split at h
   ·rename_i hkey;split at h
    ·rename_i es' hput;cases h;have hc:=fun b=>run_checkKey (w:=w) hd hkk b xk;rcases aDJ hkk rk (iA hfix rx).1 hkey hm hput 0 with ⟨h1,h2⟩|⟨j,e,h1,h2,h3,h4⟩
     ·refine⟨.skip,undef,w.putObj b (.map (ents.toArray.push {key:=xk,val:=xv,born:=clock}) (clock+1)),G,?_,.inr ⟨rfl,rfl⟩,.refl _,?_,.tuple .iO⟩
      ·simp [Instr.mapUpdate,run_underlying hu,eQ ho (by simp),hc,Instr.findKey,run_underlying hd,h1,lX ho (by simp)]
      ·refine(hI.put hL (k':= .map es') ⟨ents++ [{key:=xk,val:=xv,born:=clock}],clock+1,by simp,h2 clock⟩ ?_).fC;intro j x hx;have:=hI.m b j x hx;simp [World.cell?,ho] at this
     ·rw [Nat.zero_add] at h1;refine⟨.skip,undef,w.putObj b (.map (ents.toArray.modify j fun e=>{e with key:=xk,val:=xv}) clock),G,?_,.inr ⟨rfl,rfl⟩,.refl _,?_,.tuple .iO⟩
      ·have hmod: ∀f,(ents.toArray.modify j f)=(ents.modify j f).toArray:=fun f=>by simp
       simp [Instr.mapUpdate,run_underlying hu,eQ ho (by simp),hc,Instr.findKey,run_underlying hd,h1,lX ho (by simp),Instr.keyThatStays,h2,h3]
      ·refine(hI.put hL (k':= .map es') ⟨ents.modify j fun e=>{e with key:=xk,val:=xv},clock,by simp,h4⟩ ?_).fC;intro j x hx;have:=hI.m b j x hx;simp [World.cell?,ho] at this
    ·cases h
   ·cases h
  ·cases h
 ·cases h
theorem aDq(hI:Inv P B G s w){t:TypeId}(hu:P.underlying t=some .string){a v:AV}{x:Value}(r:R G (.v a x))
(h:(match(generalizing:=false) a with| .str t=>some (AV.iter s.blks.length,{s with blks:=s.blks++ [.iter t 0]})|_=>none)=some (v,s1)):sB P B G s1 w (do pure (Next.value (←Instr.range t x))) v:=by
 cases r<;>simp only [reduceCtorEq] at h;rename_i st hst;cases h;have hle:G.le (G.lZ s.blks.length w.heap.size):=Gh.lF hI.aAm;refine⟨_,.pointer (some ⟨w.heap.size,0,none⟩),w.alloc (.stringIter st 0),_,?_,.inl rfl,hle,hI.p8 _ _ ⟨st,rfl,rfl,hst⟩,.iter iB⟩;simp [Instr.range,run_underlying hu]
theorem aBw(st:ByteArray):(⟨st.data.toList.toArray⟩:ByteArray)=st:=by cases st;simp
theorem aAC(s:ByteArray)(pos:Nat):(Utf8.decode s pos).1≤2097151:=by
 unfold Utf8.decode;dsimp only;split
 ·dsimp only;omega
 ·split
  ·split
   ·dsimp only;omega
   ·simp [Utf8.runeError]
  ·split
   ·split
    ·dsimp only;omega
    ·simp [Utf8.runeError]
   ·split
    ·split
     ·dsimp only;omega
     ·simp [Utf8.runeError]
    ·simp [Utf8.runeError]
theorem aEp(hI:Inv P B G s w){ty:TypeId}{a v:AV}{x:Value}(r:R G (.v a x))
(h:(match(generalizing:=false) a with
  | .iter l=>
   (match s.blks[l]? with
   |some (.iter t pos)=>
    if pos<t.length then
     (match Utf8.decode ⟨t.toArray⟩ pos with
     |(c,width)=>some (AV.tuple [.bool true,.int .i64 pos,.int .i32 c],{s with blks:=s.blks.set l (.iter t (pos+width))}))
    else some (.tuple [.bool false],s)
   |_=>none)
  |_=>none)=some (v,s1)):sB P B G s1 w (do pure (Next.value (←Instr.next x true ty))) v:=by
 cases r<;>simp only [reduceCtorEq] at h;rename_i l b hL;split at h
 ·rename_i t pos hb;obtain⟨o,ho,hok⟩:=hI.at hL hb;obtain⟨st,rfl,rfl,hst⟩:=hok;have hmem: ∀o',∀j x,G.M b j=some x→(w.putObj b o').cell? ⟨b,j,none⟩=some x:=fun o' j x hx=>by
   have:=hI.m b j x hx;simp [World.cell?,ho] at this
  split at h
  ·rename_i hlt;have hlt':pos<st.size:=by simpa using hlt
   rw [aBw] at h;cases hdec:Utf8.decode st pos with
   |mk c width=>
    rw [hdec] at h;cases h;have hc:c≤2097151:=by have:=aAC st pos;rw [hdec] at this;exact this
    refine⟨_,.tuple #[.bool true,.int .i64 pos,.int .i32 c],w.putObj b (.stringIter st (pos+width)),G,?_,.inl rfl,.refl _,hI.put hL ⟨st,rfl,rfl,hst⟩ (hmem _),?_⟩
    ·simp [Instr.next,eQ ho (by simp),hlt',hdec,lX ho (by simp),goInt]
    ·refine .tuple (.bK (.bool _) (.bK (.int (jH (by omega))) (.bK (.int ?_) .iO)));have e: ∀n,IntKind.i32.wrap n=if n%4294967296≥2147483648 then n%4294967296-4294967296 else n%4294967296:=fun n=>by simp [IntKind.wrap,IntKind.bits,IntKind.signed]
     rw [e,if_neg (by omega)];omega
  ·rename_i hlt;have hlt': ¬pos<st.size:=by simpa using hlt
   cases h;exact⟨_,.tuple #[.bool false],w,G,by simp [Instr.next,eQ ho (by simp),hlt'],.inl rfl,.refl _,hI,.tuple (.bK (.bool _) .iO)⟩
 ·cases h
end
section
variable {P : Program} {B : Bs} {G : Gh} {s s1 : ASt} {w : World} {P' : aK} {env : Env} {ρ : Operand → Value}
section
variable {ts : Array TypeId} {t t2 e e2 ty : TypeId} {i : TypeInfo} (ht : ts[0]? = some t) (hu : P.underlying t = some (.slice e)) (ht2 : ts[1]? = some t2) (hu2 : P.underlying t2 = some (.slice e2)) (hi : P.info? e = some i)
include ht hu ht2 hu2 hi
theorem k9{A:Option Addr}{n cap m c:Nat}{X:Option Addr}{news:Array Value}{w':World}(hf:(Builtin.firstCells i.size m (.slice X m c)).run P w= .ok news w)
(hst:match A with|some a=>(storeCells (a.add (n*i.size)) news.toList).run P w= .ok () w'|none=>w'=w)(hroom:n+m≤cap):
  (Builtin.append_ ts ty #[.slice A n cap,.slice X m c]).run P w= .ok (.slice A (n+m) cap) w':=by
 cases A with
 |none=>
  simp only at hst;subst hst;simp [Builtin.append_,ht,ht2,run_underlying hu,run_underlying hu2,sizeOf,typeInfo,hi,Builtin.lenOf,hroom,hf]
 |some a=>
  simp only at hst;simp [Builtin.append_,ht,ht2,run_underlying hu,run_underlying hu2,sizeOf,typeInfo,hi,Builtin.lenOf,hroom,hf,hst]
theorem vV{z:Value}(hz:i.zero=some z){A:Option Addr}{n cap m c:Nat}{X:Option Addr}{olds news:Array Value}(ho:(Builtin.firstCells i.size n (.slice A n cap)).run P w.drew= .ok olds w.drew)
(hf:(Builtin.firstCells i.size m (.slice X m c)).run P w.drew= .ok news w.drew)(hroom:cap<n+m)(h63:n+m≤maxLen)(hb:(n+m)*i.bytes≤140737488355328):
  (Builtin.append_ ts ty #[.slice A n cap,.slice X m c]).run P w= .ok (.slice (some ⟨w.heap.size,0,none⟩) (n+m) (grownCap w (n+m) cap e))
   (w.drew.alloc (.cells (olds++news++Builtin.zeroCells z.cells (grownCap w (n+m) cap e-(n+m))) e)):=by
 have hfit:=growslice_fits hroom hb;have hn: ¬(n+m≤cap):=by omega
 have h63': ¬(9223372036854775807<((n:Int)+(m:Int))):=by simp only [maxLen] at h63;omega
 have h48': ¬(281474976710656<Builtin.nextslicecap (n+m) cap*i.bytes):=by omega
 simp [Builtin.append_,ht,ht2,run_underlying hu,run_underlying hu2,sizeOf,typeInfo,zeroValue,hi,hz,Builtin.lenOf,hn,h63',h48',Question.forced,newRow,grownCap];rw [ho];simp [hf]
end
theorem Inv.drew(hI:Inv P B G s w):Inv P B G s w.drew:=hI.drawn _
theorem Inv.grown(hI:Inv P B G s w){esz n m:Nat}{xs ys:List AV}{css dss:List (List Value)}(hx:Css G esz xs css)(hy:Css G esz ys dss)(hn:xs.length=n)(hm:ys.length=m){e:TypeId}{z:Array Value}(hz:z.size=esz)(he:0<esz){c:Nat}(hc:n+m≤c)(hcm:c≤maxLen)
{t:Nat}{toks':List Nat}(hself:toks'[t]?=some (n+m))(hoth: ∀t',t'≠t→toks'[t']?=s.toks[t']?)(hless: ∀n0,s.toks[t]?=some n0→n0<n+m):
  ∃G',G.le G'∧Inv P B G' {s with toks:=toks'} (w.drew.alloc (.cells (css.flatten.toArray++dss.flatten.toArray++Builtin.zeroCells z (c-(n+m))) e))∧
   R G' (.v (.slice esz (xs++ys) (.tok t)) (.slice (some ⟨w.heap.size,0,none⟩) (n+m) c)):=by
 have hD:=hI.drew;have hfl:=(hx.append hy).flat;have hcells:(css.flatten.toArray++dss.flatten.toArray++Builtin.zeroCells z (c-(n+m)))=((css++dss).flatten++(Builtin.zeroCells z (c-(n+m))).toList).toArray:=by
  apply Array.ext';simp
 rw [hcells];generalize hvs:(css++dss).flatten++(Builtin.zeroCells z (c-(n+m))).toList=vs;have hlen:(css++dss).flatten.length=(n+m)*esz:=by rw [hfl.2,List.length_append,hn,hm]
 have hvl:vs.length=c*esz:=by
  rw [←hvs,List.length_append,hlen,Array.length_toList,size_zeroCells,hz,←Nat.add_mul]
  congr 1;omega
 have h1:=hD.aB7 vs e (0,0) ((n+m)*esz);have hle1:=hD.iF ((n+m)*esz) vs;have hb:(w.drew.alloc (.cells vs.toArray e (0,0))).heap[w.heap.size]?=some (.cells vs.toArray e (0,0)):=eZ (w:=w.drew);obtain⟨hnone,h2⟩:=h1.aCe (t:=t) (n:=n+m) (b:=w.heap.size) (c:=c) (sz:=esz) (toks':=toks') hself hoth hless (fun hp=>absurd (Nat.lt_of_lt_of_le (B.lt _ hp) hD.size) (Nat.lt_irrefl _)) hb (by simpa using hvl) he hc hcm
  (fun j hj=>by rw [show w.heap.size=w.drew.heap.size from rfl,oO (by omega)];exact hD.aDa j)
  (fun ℓ=>hD.aDT ℓ)
  (fun t' n' b' c' sz' _ hq1 hq2 e=>by
   obtain⟨b2,c2,sz2,k⟩:=hD.tok t' n' hq1;have hq3:G.H t' n'=some (b',c',sz'):=hq2;rw [k.h] at hq3;cases hq3;exact absurd k.lt (by rw [e];exact Nat.lt_irrefl _))
 have hle:=hle1.trans (rI (b:=w.heap.size) (c:=c) (sz:=esz) hnone);refine⟨_,hle,h2,?_⟩;have hrow:R ((G.eL w.drew.heap.size 0 ((n+m)*esz) vs).oN t (n+m) w.heap.size c esz) (.r esz (xs++ys) w.heap.size 0):=by
  refine((hx.append hy).mono hle).row fun j y hy=> ?_;show(G.eL w.drew.heap.size 0 ((n+m)*esz) vs).M w.heap.size (0+j)=some y;have hj:j<(n+m)*esz:=by
   rcases Nat.lt_or_ge j ((n+m)*esz) with q|q
   ·exact q
   ·rw [List.getElem?_eq_none (by omega)] at hy;cases hy
  rw [Nat.zero_add,show w.heap.size=w.drew.heap.size from rfl,fL (Nat.zero_le _) hj,←hvs,List.getElem?_append_left (by omega)];exact hy
 have hxl:(xs++ys).length=n+m:=by simp [hn,hm]
 have:=R.bA (o:= .tok t) (c:=c) (by rw [hxl];exact hc) hcm hrow ⟨_,rfl,by rw [hxl];exact iW⟩;rw [hxl] at this;exact this
theorem aAI{ts:Array TypeId}{t t2 e e2 ty:TypeId}{i:TypeInfo}(ht:ts[0]?=some t)(hu:P.underlying t=some (.slice e))(ht2:ts[1]?=some t2)(hu2:P.underlying t2=some (.slice e2))(hi:P.info? e=some i)
{A:Option Addr}{n cap:Nat}(hc:n≤cap){X:Option Addr}{c:Nat}:(Builtin.append_ ts ty #[.slice A n cap,.slice X 0 c]).run P w= .ok (.slice A n cap) w:=by
 have hf:(Builtin.firstCells i.size 0 (.slice X 0 c)).run P w= .ok #[] w:=by
  cases X with
  |none=>simp [Builtin.firstCells]
  |some A=>simp [Builtin.firstCells,loadCells,loadCellsFrom]
 exact k9 ht hu ht2 hu2 hi (m:=0) (w':=w) hf (by cases A<;>simp [storeCells]) hc
theorem aCb(hI:Inv P B G s w){ts:Array TypeId}{t t2 e e2 ty:TypeId}(ht:ts[0]?=some t)(hu:P.underlying t=some (.slice e))(ht2:ts[1]?=some t2)(hu2:P.underlying t2=some (.slice e2))
(hzl:(zeroOf P e).map List.length=some (P.cellsOf e)){a x v:AV}{xa xx:Value}(ra:R G (.v a xa))(rx:R G (.v x xx)){esz bytes:Nat}(hes:P.cellsOf e=esz)(hby:P.bytesOf e=bytes)
(h:(match elems s esz x with
  |some []=>(match(generalizing:=false) a with| .slice sz xs o=>some (AV.slice sz xs o,s)| .bM l o n c sz=>some (.bM l o n c sz,s)|_=>none)
  |some (y::ys)=>
   (match(generalizing:=false) a with
   | .slice sz xs o=>
    if(sz=esz||xs.isEmpty)&&(xs.length+(ys.length+1))*bytes≤big&&xs.length+(ys.length+1)≤big&&0<esz then
     (match o with
     | .full| .lit=>some (AV.slice esz (xs++y::ys) (.tok s.toks.length),{s with toks:=s.toks++ [xs.length+(ys.length+1)]})
     | .tok t=>
      (match s.toks[t]? with
      |some n=>if sz=esz&&n=xs.length then some (.slice sz (xs++y::ys) (.tok t),{s with toks:=s.toks.set t (xs.length+(ys.length+1))}) else none
      |none=>none)
     | .no=>none)
    else none
   | .bM l off len cap sz=>
    if sz=esz&&(len+(ys.length+1))*bytes≤big&&len+(ys.length+1)≤big&&0<esz then
     if len+(ys.length+1)≤cap then
      (match s.blks[l]? with
      |some (.cells cs true)=>
       if off+(len+(ys.length+1))*sz≤cs.length&&(iI (y::ys)).length=(ys.length+1)*sz then
        some (.bM l off (len+(ys.length+1)) cap sz,Fw.fC s l (iI (y::ys)) (s.blks.set l (.cells (a0 cs (off+len*sz) (iI (y::ys))) true)))
       else none
      |_=>none)
     else
      (match rowOf s l off len sz with
      |some xs=>some (.slice sz (xs++y::ys) (.tok s.toks.length),{s with toks:=s.toks++ [len+(ys.length+1)]})
      |none=>none)
    else none
   |_=>none)
  |none=>none)=some (v,s1)):sB P B G s1 w (do pure (Next.value (←Builtin.append_ ts ty #[xa,xx]))) v:=by
 cases hzo:zeroOf P e with
 |none=>simp [hzo] at hzl
 |some z=>
 obtain⟨i,zv,hi,hzv,hrz⟩:=gS (G:=G) hzo;have hzs:zv.cells.size=esz:=by
  simp [hzo] at hzl;rw [←hes,←hzl,hrz.eG];simp
 have hisz:i.size=esz:=by rw [←hes];simp [Program.cellsOf,hi]
 have hiby:i.bytes=bytes:=by rw [←hby];simp [Program.bytesOf,hi]
 have fin: ∀{x:Value}{w':World}{G':Gh},(Builtin.append_ ts ty #[xa,xx]).run P w= .ok x w'→G.le G'→Inv P B G' s1 w'→R G' (.v v x)→sB P B G s1 w (do pure (Next.value (←Builtin.append_ ts ty #[xa,xx]))) v:=
  fun{x w' G'} h1 h2 h3 h4=>⟨.value x,x,w',G',by simp [h1],.inl rfl,h2,h3,h4⟩
 split at h
 ·
  rename_i he;obtain⟨dss,X,c,rfl,hd,_⟩:=oY hI rx he;split at h
  ·cases h;cases ra with
   |aW hm ho=>exact fin (aAI ht hu ht2 hu2 hi (Nat.zero_le _)) (.refl _) hI (.aW hm ho)
   |bA hc hm hr ho=>exact fin (aAI ht hu ht2 hu2 hi hc) (.refl _) hI (.bA hc hm hr ho)
  ·cases h;cases ra with
   |ms hL hc hm=>exact fin (aAI ht hu ht2 hu2 hi hc) (.refl _) hI (.ms hL hc hm)
  ·cases h
 ·rename_i y ys he;obtain⟨dss,X,c,rfl,hd,hfirst⟩:=oY hI rx he;have hm:(y::ys).length=ys.length+1:=rfl;rw [hm] at hfirst;have hdl:dss.take (ys.length+1)=dss:=by rw [←hm,←hd.len];simp
  have hnew: ∀w':World,w'.heap=w.heap→(Builtin.firstCells i.size (ys.length+1) (.slice X (ys.length+1) c)).run P w'= .ok dss.flatten.toArray w':=fun w' hw=>by
   have:=hfirst w' hw (ys.length+1) (Nat.le_refl _);rw [hdl] at this;rw [hisz];exact this
  have grow: ∀{xs:List AV}{css:List (List Value)}{A:Option Addr}{cap:Nat}(_:Css G esz xs css){toks':List Nat}{t0:Nat}(_:xa= .slice A xs.length cap)(_:cap<xs.length+(ys.length+1))(_:xs.length+(ys.length+1)≤maxLen)(_:(xs.length+(ys.length+1))*bytes≤big)(_:0<esz)
    (_:(Builtin.firstCells esz xs.length xa).run P w.drew= .ok css.flatten.toArray w.drew)
    (_:toks'[t0]?=some (xs.length+(ys.length+1))) (_: ∀t',t'≠t0→toks'[t']?=s.toks[t']?) (_: ∀n0,s.toks[t0]?=some n0→n0<xs.length+(ys.length+1)),
    ∃x w' G',(Builtin.append_ ts ty #[xa,.slice X (ys.length+1) c]).run P w= .ok x w'∧G.le G'∧Inv P B G' {s with toks:=toks'} w'∧R G' (.v (.slice esz (xs++y::ys) (.tok t0)) x):=by
   intro xs css A cap hx toks' t0 hxa hcap h63 hb he0 hold hself hoth hless;subst hxa;have hb':(xs.length+(ys.length+1))*i.bytes≤140737488355328:=by rw [hiby];simp only [big] at hb;omega
   have hrun:=vV ht hu ht2 hu2 hi (ty:=ty) hzv (by rw [hisz];exact hold) (hnew w.drew rfl) hcap h63 hb';obtain⟨G',h1,h2,h3⟩:=hI.grown hx hd rfl hm (e:=e) hzs he0 (grownCap_ge w _ cap e) (grownCap_le_maxLen w _ cap e h63) hself hoth hless;exact⟨_,_,G',hrun,h1,h2,h3⟩
  have newTok: ∀k,(s.toks++ [k])[s.toks.length]?=some k∧(∀t',t'≠s.toks.length→(s.toks++ [k])[t']?=s.toks[t']?)∧ ∀n0,s.toks[s.toks.length]?=some n0→n0<k:=by
   intro k;refine⟨by simp,fun t' ht'=> ?_,fun n0 h0=>by simp at h0⟩;rcases Nat.lt_or_ge t' s.toks.length with q|q
   ·rw [List.getElem?_append_left q]
   ·rw [List.getElem?_eq_none (by simp;omega),List.getElem?_eq_none q]
  have hsmall: ∀{k},k≤big→k≤maxLen:=fun{k} h=>by simp only [big,maxLen] at*;omega
  split at h
  ·rename_i sz xs o;split at h
   ·rename_i hcond;simp only [Bool.and_eq_true,decide_eq_true_eq] at hcond;obtain⟨⟨⟨hc1,hc2⟩,hc3⟩,hc4⟩:=hcond;have old: ∃css A cap,xa= .slice A xs.length cap∧xs.length≤cap∧Css G esz xs css∧gR G o A sz xs.length cap∧(∀w':World,w'.heap=w.heap→(Builtin.firstCells esz xs.length xa).run P w'= .ok css.flatten.toArray w')∧(xs≠ []→sz=esz):=by
     have hel:elems s esz (.slice sz xs o)=some xs:=by simp only [elems];rw [if_pos hc1]
     obtain⟨css,A,cap,e1,hcs,hf⟩:=oY hI ra hel;subst e1;refine⟨css,A,cap,rfl,?_,hcs,?_,fun w' hw=> ?_,fun hne=> ?_⟩
     ·cases ra with
      |aW=>exact Nat.zero_le _
      |bA hc=>exact hc
     ·cases ra with
      |aW hm ho=>exact ho
      |bA hc hm hr ho=>exact ho
     ·have:=hf w' hw xs.length (Nat.le_refl _);rwa [show css.take xs.length=css from by rw [←hcs.len];simp] at this
     ·simp at hc1;rcases hc1 with q|q
      ·exact q
      ·exact absurd q hne
    obtain⟨css,A,cap,e1,hcap,hcs,hown,hold,hsz⟩:=old;subst e1;split at h
    ·cases h;have hcap':cap=xs.length:=hown;obtain⟨k1,k2,k3⟩:=newTok (xs.length+(ys.length+1));obtain⟨x,w',G',g1,g2,g3,g4⟩:=grow hcs rfl (by omega) (hsmall hc3) hc2 hc4 (hold w.drew rfl) k1 k2 k3;exact fin g1 g2 g3 g4
    ·cases h;have hcap':cap=xs.length:=hown;obtain⟨k1,k2,k3⟩:=newTok (xs.length+(ys.length+1));obtain⟨x,w',G',g1,g2,g3,g4⟩:=grow hcs rfl (by omega) (hsmall hc3) hc2 hc4 (hold w.drew rfl) k1 k2 k3;exact fin g1 g2 g3 g4
    ·rename_i t0;split at h
     ·rename_i n0 hn0;split at h
      ·rename_i hn;cases h;simp only [Bool.and_eq_true,decide_eq_true_eq] at hn;obtain⟨hsz',hn⟩:=hn;subst hn;obtain⟨b,hA,hH⟩:=hown;subst hA;obtain⟨b',c',sz',hk⟩:=hI.tok t0 _ hn0;have hq:=hk.h;rw [hH] at hq;cases hq;subst hsz';obtain⟨e0,cur,hb,hcur⟩:=hk.blk;by_cases hroom:xs.length+(ys.length+1)≤cap
       ·have hdf:=hd.flat;have hmul:xs.length*sz+(ys.length+1)*sz≤cap*sz:=by rw [←Nat.add_mul];exact Nat.mul_le_mul_right _ hroom
        have hdlen:dss.flatten.length=(ys.length+1)*sz:=by rw [hdf.2,hm]
        have hst:=run_storeCells_at P b (xs.length*sz) e0 dss.flatten 0 cur w hb (by rw [hdlen];omega) hdf.1.aAW;simp only [Nat.add_zero] at hst;rw [kE hb] at hst;have htk:(cur.toList.take (xs.length*sz)).length=xs.length*sz:=by simp only [List.length_take,Array.length_toList];omega
        generalize hL:cur.toList.take (xs.length*sz)++dss.flatten++cur.toList.drop (xs.length*sz+dss.flatten.length)=L at hst;have hLl:L.length=cur.size:=by
         rw [←hL];simp only [List.length_append,htk,List.length_drop,Array.length_toList];omega
        obtain⟨hle,hinv⟩:=hI.aCm hn0 hH hb (vs:=L) hLl (fun j hj=>by
         rw [←hL,List.getElem?_append_left (by rw [List.length_append,htk];omega),List.getElem?_append_left (by omega),List.getElem?_take_of_lt hj];simp) (n':=xs.length+(ys.length+1)) (by omega) hroom
        refine fin (k9 ht hu ht2 hu2 hi (hnew w rfl) (w':=w.putObj b (.cells L.toArray e0 (0,0))) ?_ hroom) hle hinv ?_
        ·rw [hisz];simp only [bY,Nat.zero_add];exact hst
        ·have hro:R G (.r sz xs b 0):=by
          cases ra with
          |aW=>exact .nM _ _ _
          |bA _ _ hr _=>exact hr
         have hrn:R ((G.eL b (xs.length*sz) ((xs.length+(ys.length+1))*sz) L).oN t0 (xs.length+(ys.length+1)) b cap sz) (.r sz (y::ys) b (0+xs.length*sz)):=by
          refine(hd.mono hle).row fun j v hv=> ?_;have hj:j<(ys.length+1)*sz:=by
           rcases Nat.lt_or_ge j ((ys.length+1)*sz) with q|q
           ·exact q
           ·rw [List.getElem?_eq_none (by omega)] at hv;cases hv
          show(G.eL b (xs.length*sz) ((xs.length+(ys.length+1))*sz) L).M b (0+xs.length*sz+j)=some v;rw [fL (by omega) (by rw [Nat.add_mul];omega),←hL,List.getElem?_append_left (by rw [List.length_append,htk];omega),List.getElem?_append_right (by omega),htk];rw [show 0+xs.length*sz+j-xs.length*sz=j from by omega];exact hv
         have hxl:(xs++y::ys).length=xs.length+(ys.length+1):=by simp
         have:=R.bA (o:= .tok t0) (c:=cap) (by rw [hxl];exact hroom) hk.cm ((hro.mono hle).aCh hrn) ⟨_,rfl,by rw [hxl];exact iW⟩;rw [hxl] at this;exact this
       ·have hl:=(List.getElem?_eq_some_iff.1 hn0).1;obtain⟨x,w',G',g1,g2,g3,g4⟩:=grow (t0:=t0) (toks':=s.toks.set t0 (xs.length+(ys.length+1))) hcs rfl (by omega) (hsmall hc3) hc2 hc4 (hold w.drew rfl) (List.getElem?_set_self hl) (fun t' ht'=>List.getElem?_set_ne (fun e=>ht' e.symm)) (fun n0 h0=>by rw [hn0] at h0;cases h0;omega);exact fin g1 g2 g3 g4
      ·cases h
     ·cases h
    ·cases h
   ·cases h
  ·rename_i l off len cap sz;split at h
   ·rename_i hcond;simp only [Bool.and_eq_true,decide_eq_true_eq] at hcond;obtain⟨⟨⟨hc1,hc2⟩,hc3⟩,hc4⟩:=hcond;subst hc1;cases ra with
    |ms hL hc hmx=>
    rename_i b;split at h
    ·rename_i hroom;split at h
     ·rename_i cs hb;split at h
      ·rename_i hcc;simp only [Bool.and_eq_true,decide_eq_true_eq] at hcc;cases h;have hsum:off+len*sz+(iI (y::ys)).length≤cs.length:=by have:=hcc.1;rw [Nat.add_mul] at this;rw [hcc.2];omega
       obtain⟨w',hst,hinv⟩:=hI.write hL hb (off:=off+len*sz) hd.flat.1 hsum;refine fin (k9 ht hu ht2 hu2 hi (hnew w rfl) (w':=w') ?_ hroom) (.refl _) hinv.fC (.ms hL hroom hmx);rw [hisz];simp only [bY];exact hst
      ·cases h
     ·cases h
    ·rename_i hroom;split at h
     ·rename_i xs hrow;cases h;obtain⟨css,hcs,hxl,hcell⟩:=sI hI hL hrow;subst hxl;obtain⟨k1,k2,k3⟩:=newTok (xs.length+(ys.length+1));obtain⟨x,w',G',g1,g2,g3,g4⟩:=grow hcs rfl (by omega) (hsmall hc3) hc2 hc4 (run_firstCells_some w.drew _ _ _ _ _ _ hcs.flat.2 (fun j u hu=>by rw [bY];exact(fA rfl).trans (hcell j u hu))) k1 k2 k3;exact fin g1 g2 g3 g4
     ·cases h
   ·cases h
  ·cases h
 ·cases h
end
end Go.Fw
