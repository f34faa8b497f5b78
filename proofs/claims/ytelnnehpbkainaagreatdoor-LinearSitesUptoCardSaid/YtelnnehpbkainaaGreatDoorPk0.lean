/- Our own framework, the program's cooked code, and the proofs that a claim leans on: joined and shortened by a program of the prover's own. -/
import GoSem.Dispatch
import GoSem.Core.View
import Derived.Below
import Derived.RangeFuncLeaves
import Derived.RangeFuncRecord
import Derived.RangeFuncCalls
import Derived.RecoverIn
import Derived.Laws.AppendOwn
import Derived.Laws.Tables
import Derived.Laws.CopyRow
import Derived.Laws.Cells
import Derived.Laws.Entries
import Derived.Laws.Rows
import Derived.Laws.RangeAny
import Derived.KernelRfl
set_option linter.unusedVariables false
set_option linter.unusedSimpArgs false
namespace Go.Fw
open Go
inductive Own where
 |no
 |full
 |tok (t:Nat)
 deriving DecidableEq,Repr,Inhabited
inductive AV where
 |int (k:IntKind) (n:Int)
 |bool (b:Bool)
 |str (s:List UInt8)
 |slice (sz:Nat) (xs:List AV) (o:Own)
 |cE (l off len cap sz:Nat)
 |agg (cs:List AV)
 |tuple (vs:List AV)
 |dO
 |ptr (l off:Nat)
 |aF (v:AV) (off:Nat)
 |func (f:Nat) (first captured:List AV)
 |cZ
 |yield (l:Nat)
 |map (l:Nat)
 |dX
 |iface (t:Nat) (v:AV)
 |bU
 |iter (l:Nat)
 |lU
 deriving Repr,Inhabited
inductive aJ where
 |t (i:Nat)
 |c (v:AV)
 |g (g:Nat)
 |f (f:Nat)
 deriving Repr,Inhabited
inductive KK where
 |int|str|bool
 deriving DecidableEq,Repr,Inhabited
inductive NK where
 |ptr|slice|map|func|iface
 deriving DecidableEq,Repr,Inhabited
inductive AOp where
 |mv (x:aJ)
 |pick (c a b:aJ)
 |g5 (x:aJ)
 |box (x:aJ)
 |pend (z:List AV)
 |shut (d:Nat) (sz:Nat) (x:aJ)
 |alloc (z:List AV)
 |build (z:List AV) (parts:List (Nat×Nat×aJ))
 |oK (esz:Nat) (len:Nat) (z:List AV) (parts:List (Nat×aJ))
 |load (agg:Bool) (sz:Nat) (x:aJ)
 |store (sz:Nat) (a x:aJ)
 |eF (x:aJ)
 |bin (op:BinOp) (x y:aJ)
 |eq (neg:Bool) (x y:aJ)
 |eqF (neg:Bool) (ks:List KK) (x y:aJ)
 |aD1 (neg:Bool) (k:NK) (x:aJ)
 |un (op:UnOp) (x:aJ)
 |toInt (k:IntKind) (x:aJ)
 |z0 (t:Nat) (x:aJ)
 |lW (f:Nat) (first captured:List aJ)
 |mkMap
 |mkSlice (esz bytes:Nat) (z:List AV) (len cap:aJ)
 |aAF (esz:Nat) (x:aJ) (lo hi mx:Option aJ)
 |aBO (x:aJ) (lo hi:Option aJ)
 |aMg (n esz:Nat) (x:aJ) (lo hi:Option aJ)
 |aI (off:Nat) (x:aJ)
 |field (agg:Bool) (off sz:Nat) (x:aJ)
 |nA (esz:Nat) (x i:aJ)
 |aAC (n esz:Nat) (x i:aJ)
 |aCf (x i:aJ)
 |lookup (ok:Bool) (kk:KK) (z:AV) (m k:aJ)
 |kM (kk:KK) (m k v:aJ)
 |mA (x:aJ)
 |mH (it:aJ)
 |assert (ok:Bool) (t:Nat) (z:AV) (x:aJ)
 |extract (x:aJ) (i:Nat)
 |call (f:aJ) (args:List aJ)
 |aW (st:Bool) (f:aJ) (args:List aJ)
 |jF (x:aJ)
 |aEA (x:aJ)
 |aP7 (n:Nat)
 |append (tk:Bool) (esz bytes:Nat) (s x:aJ)
 |copy (esz:Nat) (d s:aJ)
 |yI (mx:Bool) (xs:List aJ)
 |aA3
 |defer (f:aJ) (args:List aJ)
 |panic (x:aJ)
 |bad
 deriving Repr,Inhabited
structure AI where
 d:Option Nat
 op:AOp
 gd:Option (Nat×Bool)
 pre:List Nat:= []
 deriving Repr,Inhabited
inductive AC where
 |skip
 |reg (draw:Bool) (ops:List AI)
 |seq (a b:AC)
 |cond (c:aJ) (t e:AC)
 |block (id:Nat) (b:AC)
 |loop (b:AC)
 |lY (f:aJ) (params:List Nat) (assign body:AC)
 |exit (id:Nat)
 |ret
 |scope (b:AC)
 deriving Repr,Inhabited
inductive ARV where
 |tmp (t:Nat)
 |cell (t:Nat) (agg:Bool) (sz:Nat)
 deriving Repr,Inhabited
structure AF where
 np:Nat
 nt:Nat
 res:List ARV
 body:AC
 deriving Repr,Inhabited
inductive cY where
 |normal
 |exit (id:Nat)
 |ret
 |panic (v:AV)
 deriving Repr,Inhabited
inductive LSt where
 |ready|busy|done|exhausted
 deriving DecidableEq,Repr,Inhabited
structure uT where
 st:LSt
 pend:Option cY
 env:Nat→AV
 dq:Nat
 params:List Nat
 assign:AC
 body:AC
inductive cQ where
 |cells (cs:List AV) (w:Bool)
 |map (es:List (AV×AV))
 |loop (l:uT)
 |iter (s:List UInt8) (pos:Nat)
 |qZ
 |dead
instance:Inhabited cQ:=⟨.dead⟩
structure ASt where
 blks:List cQ
 toks:List Nat
 lowB:Option Nat:=none
 lowT:Option Nat:=none
inductive jM where
 |ret (v:AV)
 |panic (v:AV)
 deriving Repr,Inhabited
inductive AFn where
 |func (f:Nat)
 |yield (l:Nat)
 deriving Repr,Inhabited
inductive DM where
 |ret
 |pan (v:AV)
 deriving Repr,Inhabited
structure Handler where
 call:AFn→List AV→ASt→Option (jM×ASt)
 dcall:Nat→List AV→DM→ASt→Option (DM×ASt)
def fA:AV:= .tuple []
abbrev Env:=Nat→AV
def upd(e:Env)(i:Nat)(v:AV):Env:=fun j=>match Nat.beq j i with|true=>v|false=>e j
def eU(e:Env)(d:Option Nat)(v:AV):Env:=match d with|some i=>upd e i v|none=>e
def cellsOf:AV→List AV
 | .agg cs=>cs
 |v=> [v]
mutual
def m9:AV→Bool
 | .int .. | .bool .. | .str .. | .dO| .cZ| .dX| .bU| .lU=>false
 | .slice _ xs _=>iO xs
 | .cE .. | .ptr .. | .yield _| .map _| .iter _=>true
 | .agg cs=>iO cs
 | .tuple vs=>iO vs
 | .aF v _=>m9 v
 | .func _ a b=>iO a||iO b
 | .iface _ v=>m9 v
def iO:List AV→Bool
 | []=>false
 |x::xs=>m9 x||iO xs
end
mutual
def toks:AV→Bool
 | .int .. | .bool .. | .str .. | .dO| .cZ| .dX| .bU| .lU| .cE .. | .ptr .. | .yield _| .map _| .iter _=>false
 | .slice _ xs o=>(match o with| .tok _=>true|_=>kH xs)
 | .agg cs=>kH cs
 | .tuple vs=>kH vs
 | .aF v _=>toks v
 | .func _ a b=>kH a||kH b
 | .iface _ v=>toks v
def kH:List AV→Bool
 | []=>false
 |x::xs=>toks x||kH xs
end
mutual
def cR:AV→Bool
 | .int .. | .bool .. | .str .. | .dO| .cZ| .dX| .bU| .lU=>true
 | .slice _ xs o=>(match o with| .tok _=>false|_=>eM xs)
 | .cE .. | .ptr .. | .yield _| .map _| .iter _=>false
 | .agg cs=>eM cs
 | .tuple vs=>eM vs
 | .aF v _=>cR v
 | .func _ a b=>eM a&&eM b
 | .iface _ v=>cR v
def eM:List AV→Bool
 | []=>true
 |x::xs=>cR x&&eM xs
end
def chunks(sz:Nat):Nat→List AV→List AV
 |0,_=> []
 |n+1,cs=>(match sz with|1=>cs.headD fA|_=> .agg (cs.take sz))::chunks sz n (cs.drop sz)
def szC(sz:Nat):List AV→Nat
 | []=>0
 |_::_=>sz
def iL:AV→Option AV
 | .slice sz xs o=>match o with| .no=>some (.slice sz xs .no)|_=>some (.slice (szC sz xs) xs .no)
 | .cE .. | .tuple _| .lU| .agg _=>none
 |v=>some v
def aB2:List AV→Option (List AV)
 | []=>some []
 |x::xs=>match iL x with|none=>none|some y=>match aB2 xs with|none=>none|some ys=>some (y::ys)
def gP:AV→Option AV
 | .agg cs=>match aB2 cs with|some ds=>some (.agg ds)|none=>none
 |v=>iL v
def dL:List AV→Option (List AV)
 | []=>some []
 |x::xs=>match gP x with|none=>none|some y=>match dL xs with|none=>none|some ys=>some (y::ys)
def rowOf(s:ASt)(l off len sz:Nat):Option (List AV):=
 match s.blks[l]? with
 |some (.cells cs _)=>if off+len*sz≤cs.length then dL (chunks sz len (cs.drop off)) else none
 |_=>none
def aC4(s:ASt):AV→Option (AV×ASt)
 | .cE l off len _ sz=>
  match rowOf s l off len sz,s.blks[l]? with
  |some xs,some (.cells cs _)=>some (.slice sz xs .no,{s with blks:=s.blks.set l (.cells cs false)})
  |_,_=>none
 |v=>match gP v with|some x=>some (x,s)|none=>none
def rL(s:ASt):List AV→Option (List AV×ASt)
 | []=>some ([],s)
 |x::xs=>match aC4 s x with|none=>none|some (y,s1)=>match rL s1 xs with|none=>none|some (ys,s2)=>some (y::ys,s2)
structure aS where
 fn:Nat→Option AF
 gl:Nat→AV
 prim:Nat→Option (List AV→ASt→Option (jM×ASt))
def evO(P:aS)(e:Env):aJ→AV
 | .t i=>e i
 | .c v=>v
 | .g g=> .aF (P.gl g) 0
 | .f f=> .func f [] []
def big:Nat:=1099511627776
def jL(op:BinOp)(k:IntKind)(a b:Int):Option AV:=
 match op with
 | .add=>some (.int k (k.wrap (a+b)))
 | .sub=>some (.int k (k.wrap (a-b)))
 | .mul=>some (.int k (k.wrap (a*b)))
 | .quo=>if b=0 then none else some (.int k (k.wrap (a.tdiv b)))
 | .rem=>if b=0 then none else some (.int k (a.tmod b))
 | .and=>some (.int k (k.wrap (BitVec.ofInt k.bits a&&&BitVec.ofInt k.bits b).toNat))
 | .or=>some (.int k (k.wrap (BitVec.ofInt k.bits a|||BitVec.ofInt k.bits b).toNat))
 | .xor=>some (.int k (k.wrap (BitVec.ofInt k.bits a^^^BitVec.ofInt k.bits b).toNat))
 | .andNot=>some (.int k (k.wrap (BitVec.ofInt k.bits a&&& ~~~BitVec.ofInt k.bits b).toNat))
 | .eql=>some (.bool (a==b))
 | .neq=>some (.bool (a !=b))
 | .lss=>some (.bool (decide (a<b)))
 | .leq=>some (.bool (decide (a≤b)))
 | .gtr=>some (.bool (decide (a>b)))
 | .geq=>some (.bool (decide (a≥b)))
 |_=>none
def aNF(op:BinOp)(a b:List UInt8):Option AV:=
 match op with
 | .add=>if a.length+b.length≤big then some (.str (a++b)) else none
 | .eql=>some (.bool (a==b))
 | .neq=>some (.bool (!(a==b)))
 | .lss=>some (.bool (Op.bytesLess a b))
 | .leq=>some (.bool (Op.bytesLess a b||a==b))
 | .gtr=>some (.bool (!(Op.bytesLess a b||a==b)))
 | .geq=>some (.bool (!Op.bytesLess a b))
 |_=>none
def aBm(op:BinOp):AV→AV→Option AV
 | .int k a,.int k' b=>
  match op with
  | .shl=>if b<0 then none else some (.int k (k.wrap (a*2^(min b.toNat k.bits))))
  | .shr=>if b<0 then none else some (.int k (k.wrap (a.fdiv (2^(min b.toNat k.bits)))))
  |_=>if k=k' then jL op k a b else none
 | .str a,.str b=>aNF op a b
 |_,_=>none
def rD:AV→AV→Option Bool
 | .int k a,.int k' b=>if k=k' then some (a==b) else none
 | .bool a,.bool b=>some (a==b)
 | .str a,.str b=>some (a==b)
 |_,_=>none
def rV:List KK→List AV→List AV→Option Bool
 | [],[],[]=>some true
 | .int::ks,.int k a::xs,.int k' b::ys=>if k=k' then(match rV ks xs ys with|some r=>some ((a==b)&&r)|none=>none) else none
 | .bool::ks,.bool a::xs,.bool b::ys=>(match rV ks xs ys with|some r=>some ((a==b)&&r)|none=>none)
 | .str::ks,.str a::xs,.str b::ys=>(match rV ks xs ys with|some r=>some ((a==b)&&r)|none=>none)
 |_,_,_=>none
def eqA(x y:AV):Option Bool:=rD x y
def aDj:NK→AV→Option Bool
 | .ptr,.dO=>some true
 | .ptr,.ptr .. | .ptr,.aF .. =>some false
 | .iface,.bU=>some true
 | .iface,.iface .. =>some false
 | .func,.cZ=>some true
 | .func,.func .. =>some false
 | .map,.dX=>some true
 | .map,.map _=>some false
 | .slice,.slice _ (_::_) _=>some false
 |_,_=>none
def partOf(agg:Bool)(sz:Nat)(cs:List AV)(off:Nat):Option AV:=
 match agg with
 |true=>if off+sz≤cs.length then some (.agg ((cs.drop off).take sz)) else none
 |false=>cs[off]?
def fO(cs:List AV)(off:Nat)(ds:List AV):List AV:=cs.take off++ds++cs.drop (off+ds.length)
def aBQ(z:List AV):List (Nat×Nat×AV)→Option (List AV)
 | []=>some z
 |(off,sz,v)::rest=>
  match gP v with
  |some v=>if(cellsOf v).length=sz&&off+sz≤z.length then aBQ (fO z off (cellsOf v)) rest else none
  |none=>none
def aDm(n:Nat)(z:List AV):List AV:=match n with|0=> []|n+1=>z++aDm n z
def tH(xs:List AV):List (Nat×AV)→Option (List AV)
 | []=>some xs
 |(i,v)::rest=>if i<xs.length then tH (xs.set i v) rest else none
def elemOf(sz:Nat)(z:List AV):AV:=match sz with|1=>z.headD fA|_=> .agg z
def g6:AV→Option Nat
 | .int _ n=>if 0≤n then some n.toNat else none
 |_=>none
def cF(P:aS)(e:Env)(d:Nat):Option aJ→Option Nat
 |none=>some d
 |some x=>g6 (evO P e x)
def bJ(P:aS)(e:Env):AOp→Option AV
 | .mv x=>some (evO P e x)
 | .pick c a b=>match evO P e c with| .bool t=>some (match t with|true=>evO P e a|false=>evO P e b)|_=>none
 | .g5 x=>match gP (evO P e x) with|some v=>some (.aF v 0)|none=>none
 | .build z parts=>match aBQ z (parts.map fun p=>(p.1,p.2.1,evO P e p.2.2)) with|some cs=>some (.agg cs)|none=>none
 | .oK esz len z parts=>
  match dL (parts.map fun p=>evO P e p.2) with
  |some vs=>
   if vs.all (fun v=>(cellsOf v).length==esz)&&decide (len*esz≤16777216) then
    match tH (List.replicate len (elemOf esz z)) ((parts.map (·.1)).zip vs) with
    |some xs=>some (.slice esz xs .full)
    |none=>none
   else none
  |none=>none
 | .eF x=>match evO P e x with| .ptr l o=>some (.ptr l o)| .aF v o=>some (.aF v o)| .func f a b=>some (.func f a b)| .yield l=>some (.yield l)|_=>none
 | .bin op x y=>aBm op (evO P e x) (evO P e y)
 | .eq neg x y=>match eqA (evO P e x) (evO P e y) with|some b=>some (.bool (match neg with|true=> !b|false=>b))|none=>none
 | .eqF neg ks x y=>
  match evO P e x,evO P e y with
  | .agg xs,.agg ys=>match rV ks xs ys with|some b=>some (.bool (match neg with|true=> !b|false=>b))|none=>none
  |_,_=>none
 | .aD1 neg k x=>match aDj k (evO P e x) with|some b=>some (.bool (match neg with|true=> !b|false=>b))|none=>none
 | .un .not x=>match evO P e x with| .bool b=>some (.bool (!b))|_=>none
 | .un .neg x=>match evO P e x with| .int k n=>some (.int k (k.wrap (0-n)))|_=>none
 | .un .xor x=>match evO P e x with| .int k n=>some (.int k (k.wrap (BitVec.ofInt k.bits (if k.signed then-1 else k.max)^^^BitVec.ofInt k.bits n).toNat))|_=>none
 | .toInt k x=>match evO P e x with| .int k' n=>some (.int k (if k=k' then n else k.wrap n))|_=>none
 | .z0 t x=>match gP (evO P e x) with|some v=>some (.iface t v)|none=>none
 | .lW f a b=>match dL (a.map (evO P e)),dL (b.map (evO P e)) with|some a,some b=>some (.func f a b)|_,_=>none
 | .aAF esz x lo hi mx=>
  match evO P e x with
  | .slice sz xs o=>
   match cF P e xs.length mx,cF P e xs.length hi,cF P e 0 lo with
   |some m,some h,some l=>
    if l≤h&&h≤m&&m≤xs.length&&(sz=esz||xs.isEmpty)&&(mx.isNone||hi.isSome) then
     some (match lo,hi,mx with
      |none,none,none=> .slice sz xs o
      |_,_,some _=> .slice (szC sz ((xs.take h).drop l)) ((xs.take h).drop l) (if h=m then .full else .no)
      |_,_,_=> .slice (szC sz ((xs.take h).drop l)) ((xs.take h).drop l) .no)
    else none
   |_,_,_=>none
  | .cE l0 off len cap sz=>
   match mx,cF P e len hi,cF P e 0 lo with
   |none,some h,some l=>if l≤h&&h≤len&&sz=esz&&(l=0||l<cap) then some (.cE l0 (off+l*sz) (h-l) (cap-l) sz) else none
   |_,_,_=>none
  |_=>none
 | .aBO x lo hi=>
  match evO P e x with
  | .str s=>
   match cF P e s.length hi,cF P e 0 lo with
   |some h,some l=>if l≤h&&h≤s.length then some (.str ((s.take h).drop l)) else none
   |_,_=>none
  |_=>none
 | .aMg n esz x lo hi=>
  match evO P e x,cF P e n hi,cF P e 0 lo with
  | .aF v off,some h,some l=>
   if l≤h&&h≤n&&off+n*esz≤(cellsOf v).length then some (.slice esz (chunks esz (h-l) ((cellsOf v).drop (off+l*esz))) .no) else none
  | .ptr b off,some h,some l=>if l≤h&&h≤n&&(l=0||l<n) then some (.cE b (off+l*esz) (h-l) (n-l) esz) else none
  |_,_,_=>none
 | .aI off x=>match evO P e x with| .ptr l o=>some (.ptr l (o+off))| .aF v o=>some (.aF v (o+off))|_=>none
 | .field agg off sz x=>match evO P e x with| .agg cs=>partOf agg sz cs off|_=>none
 | .nA esz x i=>
  match evO P e x,g6 (evO P e i) with
  | .slice sz xs _,some i=>if sz=esz then(match xs[i]? with|some x=>some (.aF x 0)|none=>none) else none
  | .cE l off len _ sz,some i=>if sz=esz&&i<len then some (.ptr l (off+i*sz)) else none
  |_,_=>none
 | .aAC n esz x i=>
  match evO P e x,g6 (evO P e i) with
  | .ptr l o,some i=>if i<n then some (.ptr l (o+i*esz)) else none
  | .aF v o,some i=>if i<n then some (.aF v (o+i*esz)) else none
  |_,_=>none
 | .aCf x i=>
  match evO P e x,g6 (evO P e i) with
  | .str s,some i=>match s[i]? with|some b=>some (.int .u8 b.toNat)|none=>none
  |_,_=>none
 | .assert ok t z x=>
  match evO P e x with
  | .iface t' v=>if t'=t then some (match ok with|true=> .tuple [v,.bool true]|false=>v) else(match ok with|true=>some (.tuple [z,.bool false])|false=>none)
  | .bU=>match ok with|true=>some (.tuple [z,.bool false])|false=>none
  |_=>none
 | .extract x i=>match evO P e x with| .tuple vs=>vs[i]?|_=>none
 | .jF x=>match evO P e x with| .slice _ xs _=>some (.int .i64 xs.length)| .cE _ _ len _ _=>some (.int .i64 len)|_=>none
 | .aEA x=>match evO P e x with| .str s=>some (.int .i64 s.length)|_=>none
 | .aP7 n=>some (.int .i64 n)
 | .yI mx [x,y]=>
  match evO P e x,evO P e y with
  | .int k a,.int k' b=>if k=k' then some (.int k (match mx with|true=>max a b|false=>min a b)) else none
  |_,_=>none
 |_=>none
def keyOf:KK→AV→Bool
 | .int,.int .. | .str,.str _| .bool,.bool _=>true
 |_,_=>false
def pI(k:AV):List (AV×AV)→Option (Option AV)
 | []=>some none
 |(a,v)::rest=>match rD k a with|some true=>some (some v)|some false=>pI k rest|none=>none
def aCq(k v:AV):List (AV×AV)→Option (List (AV×AV))
 | []=>some [(k,v)]
 |(a,u)::rest=>match rD k a with|some true=>some ((k,v)::rest)|some false=>(match aCq k v rest with|some r=>some ((a,u)::r)|none=>none)|none=>none
def fS(P:aS)(e:Env)(s:ASt):AOp→Option AV
 | .load agg sz x=>
  match evO P e x with
  | .aF v off=>match agg with
   |true=>match off with
    |0=>if(cellsOf v).length=sz then some (.agg (cellsOf v)) else partOf true sz (cellsOf v) 0
    |off=>partOf true sz (cellsOf v) off
   |false=>(cellsOf v)[off]?
  | .ptr l off=>
   match s.blks[l]? with
   |some (.cells cs _)=>match agg with
    |true=>match partOf true sz cs off with|some v=>gP v|none=>none
    |false=>cs[off]?
   |_=>none
  |_=>none
 | .lookup ok kk z m k=>
  match evO P e m with
  | .map l=>
   match s.blks[l]? with
   |some (.map es)=>
    if keyOf kk (evO P e k) then
     match pI (evO P e k) es with
     |some (some v)=>some (match ok with|true=> .tuple [v,.bool true]|false=>v)
     |some none=>some (match ok with|true=> .tuple [z,.bool false]|false=>z)
     |none=>none
    else none
   |_=>none
  | .dX=>some (match ok with|true=> .tuple [z,.bool false]|false=>z)
  |_=>none
 |_=>none
def low(b:Bool)(l:Nat):Option Nat→Option Nat
 |none=>match b with|true=>some l|false=>none
 |some m=>match b with|true=>some (min l m)|false=>some m
def lA(s:ASt)(l:Nat)(cs:List AV)(blks:List cQ):ASt:=
 {s with blks,lowB:=low (iO cs) l s.lowB,lowT:=low (kH cs) l s.lowT}
def sM:AV→Bool
 | .slice .. =>true
 |_=>false
def elems(s:ASt)(esz:Nat):AV→Option (List AV)
 | .slice sz ys _=>if sz=esz||ys.isEmpty then some ys else none
 | .cE l off len _ sz=>if sz=esz then rowOf s l off len sz else none
 |_=>none
def jY(xs:List AV):List AV:=xs.flatMap cellsOf
def uZ:AV→Bool
 | .tuple _| .lU=>false
 |_=>true
def eD(P:aS)(e:Env)(s:ASt):AOp→Option (AV×ASt)
 | .box x=>match uZ (evO P e x) with|true=>some (.ptr s.blks.length 0,{s with blks:=s.blks++ [.cells (cellsOf (evO P e x)) true]})|false=>none
 | .alloc z=>some (.ptr s.blks.length 0,{s with blks:=s.blks++ [.cells z true]})
 | .store sz a x=>
  match evO P e a with
  | .ptr l off=>
   match s.blks[l]? with
   |some (.cells cs true)=>
    if uZ (evO P e x)&&(cellsOf (evO P e x)).length=sz&&off+sz≤cs.length then
     some (fA,lA s l (cellsOf (evO P e x)) (s.blks.set l (.cells (fO cs off (cellsOf (evO P e x))) true)))
    else none
   |_=>none
  |_=>none
 | .mkMap=>some (.map s.blks.length,{s with blks:=s.blks++ [.map []]})
 | .mkSlice esz bytes z l c=>
  match g6 (evO P e l),g6 (evO P e c) with
  |some l,some c=>
   if l≤c&&c*bytes≤big&&c≤big then some (.cE s.blks.length 0 l c esz,{s with blks:=s.blks++ [.cells (aDm c z) true]}) else none
  |_,_=>none
 | .kM kk m k v=>
  match evO P e m,gP (evO P e v) with
  | .map l,some v=>
   match s.blks[l]? with
   |some (.map es)=>
    if keyOf kk (evO P e k) then
     match aCq (evO P e k) v es with
     |some es'=>some (fA,lA s l [v] (s.blks.set l (.map es')))
     |none=>none
    else none
   |_=>none
  |_,_=>none
 | .mA x=>match evO P e x with| .str t=>some (.iter s.blks.length,{s with blks:=s.blks++ [.iter t 0]})|_=>none
 | .mH it=>
  match evO P e it with
  | .iter l=>
   match s.blks[l]? with
   |some (.iter t pos)=>
    if pos<t.length then
     match Utf8.decode ⟨t.toArray⟩ pos with
     |(c,width)=>some (.tuple [.bool true,.int .i64 pos,.int .i32 c],{s with blks:=s.blks.set l (.iter t (pos+width))})
    else some (.tuple [.bool false],s)
   |_=>none
  |_=>none
 | .append tk esz bytes a x=>
  match !tk||(sM (evO P e a)&&sM (evO P e x)) with
  |false=>none
  |true=>
  match elems s esz (evO P e x) with
  |some []=>match evO P e a with| .slice sz xs o=>some (.slice sz xs o,s)| .cE l o n c sz=>some (.cE l o n c sz,s)|_=>none
  |some (y::ys)=>
   match evO P e a with
   | .slice sz xs o=>
    if(sz=esz||xs.isEmpty)&&(xs.length+(ys.length+1))*bytes≤big&&xs.length+(ys.length+1)≤big&&0<esz then
     match o with
     | .full=>some (.slice esz (xs++y::ys) (.tok s.toks.length),{s with toks:=s.toks++ [xs.length+(ys.length+1)]})
     | .tok t=>
      match s.toks[t]? with
      |some n=>if sz=esz&&n=xs.length then some (.slice sz (xs++y::ys) (.tok t),{s with toks:=s.toks.set t (xs.length+(ys.length+1))}) else none
      |none=>none
     | .no=>none
    else none
   | .cE l off len cap sz=>
    if sz=esz&&(len+(ys.length+1))*bytes≤big&&len+(ys.length+1)≤big&&0<esz then
     if len+(ys.length+1)≤cap then
      match s.blks[l]? with
      |some (.cells cs true)=>
       if off+(len+(ys.length+1))*sz≤cs.length&&(jY (y::ys)).length=(ys.length+1)*sz then
        some (.cE l off (len+(ys.length+1)) cap sz,lA s l (jY (y::ys)) (s.blks.set l (.cells (fO cs (off+len*sz) (jY (y::ys))) true)))
       else none
      |_=>none
     else
      match rowOf s l off len sz with
      |some xs=>some (.slice sz (xs++y::ys) (.tok s.toks.length),{s with toks:=s.toks++ [len+(ys.length+1)]})
      |none=>none
    else none
   |_=>none
  |none=>none
 | .copy esz d x=>
  match evO P e d,elems s esz (evO P e x) with
  | .cE l off len _ sz,some ys=>
   match s.blks[l]? with
   |some (.cells cs true)=>
    if sz=esz&&off+len*sz≤cs.length&&(jY (ys.take len)).length=(min ys.length len)*sz then
     some (.int .i64 (min ys.length len:Nat),lA s l (jY (ys.take len)) (s.blks.set l (.cells (fO cs off (jY (ys.take len))) true)))
    else none
   |_=>none
  |_,_=>none
 |_=>none
inductive hY where
 |mark (l:Nat)
 |call (f:Nat) (args:List AV)
structure Fr where
 env:Env
 ds:List hY
inductive pM where
 |norm (fr:Fr) (s:ASt)
 |pan (v:AV) (fr:Fr) (s:ASt)
def wanted(e:Env):Option (Nat×Bool)→Option Bool
 |none=>some true
 |some (t,b)=>match e t with| .bool c=>some (c==b)| .tuple []=>some false|_=>none
def dK:ASt:={blks:= [],toks:= []}
def isE(s:ASt):Bool:=match s.blks,s.toks with| [],[]=>true|_,_=>false
def mO:AV→Option AV
 | .tuple vs=>match dL vs with|some ws=>some (.tuple ws)|none=>none
 |v=>gP v
def aK(d:Option Nat)(pd:List (Nat×Nat)):List (Nat×Nat):=
 match d with|none=>pd|some d=>pd.filter fun x=> !(Nat.beq x.1 d)
def target:AV→Option (AFn×List AV×List AV)
 | .func f a b=>some (.func f,a,b)
 | .yield l=>some (.yield l,[],[])
 |_=>none
def bG(H:Handler)(P:aS):List AI→List (Nat×Nat)→Fr→ASt→Option pM
 | [],_,fr,s=>some (.norm fr s)
 |i::rest,pd,fr,s=>
  match wanted fr.env i.gd with
  |none=>none
  |some false=>bG H P rest (aK i.d pd) {fr with env:=eU fr.env i.d fA} s
  |some true=>
   match i.op with
   | .pend z=>match i.d with|some d=>bG H P rest ((d,z.length)::aK i.d pd) {fr with env:=upd fr.env d .lU} s|none=>none
   | .shut d sz x=>
    match i.d,gP (evO P fr.env x) with
    |none,some v=>if(cellsOf v).length=sz&&pd.any (fun p=>Nat.beq p.1 d&&Nat.beq p.2 sz) then bG H P rest (aK (some d) pd) {fr with env:=upd fr.env d (.aF v 0)} s else none
    |_,_=>none
   | .defer f args=>
    match evO P fr.env f,dL (args.map (evO P fr.env)) with
    | .func g a b,some vs=>bG H P rest (aK i.d pd) {env:=eU fr.env i.d fA,ds:= .call g (a++vs++b)::fr.ds} s
    |_,_=>none
   | .panic x=>match evO P fr.env x with| .iface t v=>some (.pan (.iface t v) fr s)|_=>none
   | .aW st f args=>
    match evO P fr.env f,dL (args.map (evO P fr.env)) with
    | .func g a b,some vs=>
     match(!st&&isE s)||eM (a++vs++b),H.call (.func g) (a++vs++b) dK with
     |true,some (.ret v,s2)=>
      match mO v with
      |some v=>match isE s2||cR v with|true=>bG H P rest (aK i.d pd) {fr with env:=eU fr.env i.d v} s|false=>none
      |none=>none
     |_,_=>none
    |_,_=>none
   | .call f args=>
    match target (evO P fr.env f),rL s (args.map (evO P fr.env)) with
    |some (g,a,b),some (vs,s1)=>
     match H.call g (a++vs++b) s1 with
     |some (.ret v,s2)=>bG H P rest (aK i.d pd) {fr with env:=eU fr.env i.d v} s2
     |some (.panic v,s2)=>some (.pan v fr s2)
     |none=>none
    |_,_=>none
   |op=>
    match bJ P fr.env op with
    |some v=>bG H P rest (aK i.d pd) {fr with env:=eU fr.env i.d v} s
    |none=>
     match fS P fr.env s op with
     |some v=>bG H P rest (aK i.d pd) {fr with env:=eU fr.env i.d v} s
     |none=>
      match eD P fr.env s op with
      |some (v,s1)=>bG H P rest (aK i.d pd) {fr with env:=eU fr.env i.d v} s1
      |none=>none
structure CR where
 ex:cY
 fr:Fr
 s:ASt
def mU(step:Fr→ASt→Option CR):Nat→Fr→ASt→Option CR
 |0,_,_=>none
 |n+1,fr,s=>
  match step fr s with
  |some r=>match r.ex with| .normal=>mU step n r.fr r.s|_=>some r
  |none=>none
def qC(rd:Option Nat)(params:List Nat)(assign body:AC)(fr:Fr)(s:ASt):Option (Nat×List hY×ASt):=
 match rd with
 |none=>some (s.blks.length+1,[.mark s.blks.length],{s with blks:=s.blks++ [.qZ,.loop {st:= .ready,pend:=none,env:=fr.env,dq:=s.blks.length,params,assign,body}]})
 |some r=>
  match s.blks[r]? with
  |some (.loop lp)=>some (s.blks.length,[],{s with blks:=s.blks++ [.loop {st:= .ready,pend:=none,env:=fr.env,dq:=lp.dq,params,assign,body}]})
  |_=>none
def zD(P:aS)(g:Nat):Bool:=(P.prim g).isNone&&(P.fn g).isSome
def evC(H:Handler)(P:aS)(rd:Option Nat)(lf:Nat):AC→Fr→ASt→Option CR
 | .skip,fr,s=>some ⟨.normal,fr,s⟩
 | .reg _ ops,fr,s=>
  match bG H P ops [] fr s with
  |some (.norm fr s)=>some ⟨.normal,fr,s⟩
  |some (.pan v fr s)=>some ⟨.panic v,fr,s⟩
  |none=>none
 | .seq a b,fr,s=>
  match evC H P rd lf a fr s with
  |some r=>match r.ex with| .normal=>evC H P rd lf b r.fr r.s|_=>some r
  |none=>none
 | .cond c t e,fr,s=>
  match evO P fr.env c with
  | .bool b=>match b with|true=>evC H P rd lf t fr s|false=>evC H P rd lf e fr s
  |_=>none
 | .block id b,fr,s=>
  match evC H P rd lf b fr s with
  |some r=>match r.ex with| .exit j=>(match Nat.beq j id with|true=>some ⟨.normal,r.fr,r.s⟩|false=>some r)|_=>some r
  |none=>none
 | .loop b,fr,s=>mU (evC H P rd lf b) lf fr s
 | .exit id,fr,s=>some ⟨.exit id,fr,s⟩
 | .ret,fr,s=>some ⟨.ret,fr,s⟩
 | .scope b,fr,s=>evC H P rd lf b fr s
 | .lY f params assign body,fr,s=>
  match qC rd params assign body fr s,evO P fr.env f with
  |some (l,mark,s1),.func g a b=>
   match zD P g,H.call (.func g) (a++ .yield l::b) s1 with
   |true,some (.ret _,s2)=>
    match s2.blks[l]? with
    |some (.loop lp)=>
     match lp.st with
     | .busy=>none
     |_=>some ⟨lp.pend.getD .normal,{fr with ds:=mark++fr.ds},{s2 with blks:=s2.blks.set l (.loop {lp with st:= .exhausted})}⟩
    |_=>none
   |true,some (.panic v,s2)=>some ⟨.panic v,{fr with ds:=mark++fr.ds},s2⟩
   |_,_=>none
  |_,_=>none
def dW(s:ASt)(l:Nat)(f:uT→uT):Option ASt:=
 match s.blks[l]? with
 |some (.loop lp)=>some {s with blks:=s.blks.set l (.loop (f lp))}
 |_=>none
def iS(s:ASt)(l:Nat):Option ASt:=
 match s.blks[l]? with
 |some (.loop lp)=>match lp.st with| .ready=>some {s with blks:=s.blks.set l (.loop {lp with st:= .busy})}|_=>none
 |_=>none
def mX(e:Env):List Nat→List AV→Env
 |p::ps,v::vs=>mX (upd e p v) ps vs
 |_,_=>e
def nM(H:Handler)(P:aS)(lf:Nat)(l:Nat)(args:List AV)(s:ASt):Option (jM×ASt):=
 match s.blks[l]? with
 |some (.loop lp)=>
  match decide (lp.st= .ready),decide (args.length=lp.params.length) with
  |true,true=>
   match evC H P (some l) lf lp.assign ⟨mX lp.env lp.params args,[]⟩ s with
   |some ⟨.normal,⟨e1,[]⟩,s1⟩=>
    match iS s1 l with
    |some s2=>
     match evC H P (some l) lf lp.body ⟨e1,[]⟩ s2 with
     |some ⟨ex,⟨_,[]⟩,s3⟩=>
      match ex with
      | .panic v=>some (.panic v,s3)
      | .normal=>match dW s3 l fun lp=>{lp with st:= .ready,pend:=none} with|some s4=>some (.ret (.bool true),s4)|none=>none
      |ex=>match dW s3 l fun lp=>{lp with st:= .done,pend:=some ex} with|some s4=>some (.ret (.bool false),s4)|none=>none
     |_=>none
    |none=>none
   |_=>none
  |_,_=>none
 |_=>none
def g7(H:Handler):List hY→DM→ASt→Option (DM×ASt)
 | [],m,s=>some (m,s)
 | .mark l::ds,m,s=>match s.blks[l]? with|some .qZ=>g7 H ds m {s with blks:=s.blks.set l .dead}|_=>none
 | .call f args::ds,m,s=>match H.dcall f args m s with|some (m,s)=>g7 H ds m s|none=>none
def aAZ(P:aS)(e:Env)(s:ASt):ARV→Option AV
 | .tmp t=>some (e t)
 | .cell t agg sz=>fS P e s (.load agg sz (.t t))
def jK(P:aS)(e:Env)(s:ASt):List ARV→Option (List AV)
 | []=>some []
 |x::xs=>match aAZ P e s x,jK P e s xs with|some v,some vs=>some (v::vs)|_,_=>none
def cI(base:Nat):Option Nat→Bool
 |none=>false
 |some l=>decide (l<base)
def aBT:Option Nat→Option Nat→Option Nat
 |none,b=>b
 |a,none=>a
 |some a,some b=>some (min a b)
def wN(base:Nat)(a b:Option Nat):Option Nat:=match cI base b with|true=>aBT a b|false=>a
def dE(s0:ASt)(d:Bool)(s:ASt):ASt:=
 match Nat.beq s.blks.length s0.blks.length with
 |true=>{s with lowB:=wN s0.blks.length s0.lowB s.lowB}
 |false=>
  match cI s0.blks.length s.lowB||d with
  |true=>{s with lowB:=aBT s0.lowB s.lowB}
  |false=>{s with blks:=s.blks.take s0.blks.length,lowB:=s0.lowB}
def aBs(s0:ASt)(d:Bool)(s:ASt):Bool:=Nat.beq s.blks.length s0.blks.length&& !(cI s0.blks.length s.lowT||d)
def eQ(s0:ASt)(d:Bool)(s:ASt):ASt:=
 match Nat.beq s.toks.length s0.toks.length with
 |true=>{s with lowT:=wN s0.blks.length s0.lowT s.lowT}
 |false=>
  match aBs s0 d s with
  |true=>{s with toks:=s.toks.take s0.toks.length,lowT:=s0.lowT}
  |false=>{s with lowT:=aBT s0.lowT s.lowT}
def settle(s0:ASt)(v:AV)(s:ASt):AV×ASt:=
 match v with
 | .slice sz xs (.tok t)=>
  match decide (t<s0.toks.length) with
  |true=>(.slice sz xs (.tok t),eQ s0 (kH xs) (dE s0 (iO xs) s))
  |false=>
   match aBs s0 (kH xs) (dE s0 (iO xs) s),s.toks[t]? with
   |true,some n=>
    match Nat.beq n xs.length with
    |true=>(.slice sz xs (.tok s0.toks.length),{dE s0 (iO xs) s with toks:=s.toks.take s0.toks.length++ [n],lowT:=s0.lowT})
    |false=>(.slice (szC sz xs) xs .no,eQ s0 (kH xs) (dE s0 (iO xs) s))
   |_,_=>(.slice (szC sz xs) xs .no,eQ s0 (kH xs) (dE s0 (iO xs) s))
 |v=>(v,eQ s0 (toks v) (dE s0 (m9 v) s))
def nE(s:ASt):List AV→Option (AV×ASt)
 | [.slice sz xs o]=>some (.slice sz xs o,s)
 | [v]=>aC4 s v
 |vs=>match rL s vs with|some (ws,s)=>some (.tuple ws,s)|none=>none
def gI(args:List AV):Env:=fun i=>args.getD i fA
def aT(s:ASt):ASt:={s with lowB:=none,lowT:=none}
def yU(H:Handler)(P:aS)(lf:Nat)(f:AF)(args:List AV)(s:ASt):Option (jM×ASt):=
 match Nat.ble args.length f.nt with
 |false=>none
 |true=>
 match evC H P none lf f.body ⟨gI args,[]⟩ (aT s) with
 |some ⟨ex,fr,s1⟩=>
  match(match ex with| .normal=>some DM.ret| .ret=>some DM.ret| .panic v=>some (DM.pan v)| .exit _=>none) with
  |some m=>
   match g7 H fr.ds m s1 with
   |some (.pan v,s2)=>some (.panic v,eQ s (toks v) (dE s (m9 v) s2))
   |some (.ret,s2)=>
    match jK P fr.env s2 f.res with
    |some vs=>
     match nE s2 vs with
     |some (v,s3)=>match settle s v s3 with|(v,s4)=>some (.ret v,s4)
     |none=>none
    |none=>none
   |none=>none
  |none=>none
 |none=>none
inductive RC where
 |ret
 |pan (v:AV)
 |aK9
def qV(P:aS):List AI→Fr→RC→ASt→Option (Fr×RC×ASt)
 | [],fr,rc,s=>some (fr,rc,s)
 |i::rest,fr,rc,s=>
  match i.op,i.gd with
  | .aA3,none=>
   match rc with
   | .pan v=>qV P rest {fr with env:=eU fr.env i.d v} .aK9 s
   |rc=>qV P rest {fr with env:=eU fr.env i.d .bU} rc s
  |op,gd=>
   match wanted fr.env gd,bJ P fr.env op with
   |some true,some v=>qV P rest {fr with env:=eU fr.env i.d v} rc s
   |_,_=>none
def aFi(ops:List AI):Bool:=ops.any fun i=>match i.op with| .aA3=>true|_=>false
def evD(H:Handler)(P:aS)(lf:Nat):AC→Fr→RC→ASt→Option (cY×Fr×RC×ASt)
 | .reg draw ops,fr,rc,s=>
  match aFi ops with
  |true=>match draw,qV P ops fr rc s with|false,some (fr,rc,s)=>some (.normal,fr,rc,s)|_,_=>none
  |false=>match evC H P none lf (.reg draw ops) fr s with|some r=>some (r.ex,r.fr,rc,r.s)|none=>none
 | .seq a b,fr,rc,s=>
  match evD H P lf a fr rc s with
  |some (.normal,fr,rc,s)=>evD H P lf b fr rc s
  |r=>r
 | .cond c t e,fr,rc,s=>
  match evO P fr.env c with
  | .bool b=>match b with|true=>evD H P lf t fr rc s|false=>evD H P lf e fr rc s
  |_=>none
 |c,fr,rc,s=>match evC H P none lf c fr s with|some r=>some (r.ex,r.fr,rc,r.s)|none=>none
def aRe:DM→RC
 | .ret=> .ret
 | .pan v=> .pan v
def aBf(H:Handler)(P:aS)(lf:Nat)(f:AF)(args:List AV)(m:DM)(s:ASt):Option (DM×ASt):=
 match Nat.ble args.length f.nt with
 |false=>none
 |true=>
 match evD H P lf f.body ⟨gI args,[]⟩ (aRe m) (aT s) with
 |some (ex,⟨_,[]⟩,rc,s1)=>
  match(match ex with| .normal=>true| .ret=>true|_=>false) with
  |true=>
   match f.res with
   | []=>
    match rc with
    | .pan v=>some (.pan v,eQ s (toks v) (dE s (m9 v) s1))
    |_=>some (.ret,eQ s false (dE s false s1))
   |_=>none
  |false=>none
 |_=>none
def cH(P:aS):Nat→Handler
 |0=>{call:=fun _ _ _=>none,dcall:=fun _ _ _ _=>none}
 |n+1=>
  {call:=fun g args s=>
    match g with
    | .func f=>
     match P.prim f with
     |some p=>p args s
     |none=>match P.fn f with|some af=>yU (cH P n) P n af args s|none=>none
    | .yield l=>nM (cH P n) P n l args s
   dcall:=fun f args m s=>match P.fn f with|some af=>aBf (cH P n) P n af args m s|none=>none}
structure Ev{α:Type}(F:Nat→Option α)(Q:α→Prop):Prop where
 out: ∃r N,Q r∧ ∀n,N≤n→F n=some r
section
variable {α β : Type} {F F' : Nat → Option α} {Q Q' : α → Prop}
theorem Ev.mono(h:Ev F Q)(k: ∀r,Q r→Q' r):Ev F Q':=by
 obtain⟨r,N,h1,h2⟩:=h.out;exact⟨r,N,k r h1,h2⟩
theorem Ev.congr(h:Ev F Q)(e: ∀n,F' n=F n):Ev F' Q:=by
 obtain⟨r,N,h1,h2⟩:=h.out;exact⟨r,N,h1,fun n hn=>(e n).trans (h2 n hn)⟩
theorem Ev.one{r:α}(h: ∀n,F n=some r)(hq:Q r):Ev F Q:=⟨r,0,hq,fun n _=>h n⟩
theorem Ev.bind{G:Nat→α→Option β}{K:Nat→Option β}{Q:β→Prop}(h:Ev F (fun r=>Ev (fun n=>G n r) Q))(e: ∀n r,F n=some r→K n=G n r):Ev K Q:=by
 obtain⟨r,N,h1,h2⟩:=h.out;obtain⟨x,M,h3,h4⟩:=h1.out;exact⟨x,max N M,h3,fun n hn=>(e n r (h2 n (by omega))).trans (h4 n (by omega))⟩
theorem Ev.succ(h:Ev (fun n=>F (n+1)) Q):Ev F Q:=by
 obtain⟨r,N,h1,h2⟩:=h.out;refine⟨r,N+1,h1,fun n hn=> ?_⟩;cases n with
 |zero=>omega
 |succ n=>exact h2 n (by omega)
end
def cX(P:aS)(e:Env)(s:ASt)(op:AOp):Option (AV×ASt):=
 match bJ P e op with
 |some v=>some (v,s)
 |none=>match fS P e s op with
  |some v=>some (v,s)
  |none=>eD P e s op
def plainO:AOp→Bool
 | .pend _| .shut .. | .defer .. | .panic _| .aW .. | .call .. =>false
 |_=>true
structure Wo(P:aS)(is:List AI)(pd:List (Nat×Nat))(fr:Fr)(s:ASt)(Q:pM→Prop):Prop where
 ev:Ev (fun n=>bG (cH P n) P is pd fr s) Q
section
variable {H : Handler} {P : aS} {i : AI} {d : Nat} {d' : Option Nat} {op : AOp} {gd : Option (Nat × Bool)} {pre : List Nat} {rest : List AI} {pd : List (Nat × Nat)} {fr : Fr} {e : Env} {ds : List hY} {s s1 : ASt} {Q : pM → Prop} {v : AV}
theorem vW(hp:plainO op=true)(hg:wanted e gd=some true)(h:cX P e s op=some (v,s1)):
  bG H P (⟨d',op,gd,pre⟩::rest) pd ⟨e,ds⟩ s=bG H P rest (aK d' pd) ⟨eU e d' v,ds⟩ s1:=by
 have key:(match bJ P e op with
    |some v=>bG H P rest (aK d' pd) ⟨eU e d' v,ds⟩ s
    |none=>
     match fS P e s op with
     |some v=>bG H P rest (aK d' pd) ⟨eU e d' v,ds⟩ s
     |none=>
      match eD P e s op with
      |some (v,s1)=>bG H P rest (aK d' pd) ⟨eU e d' v,ds⟩ s1
      |none=>none)=bG H P rest (aK d' pd) ⟨eU e d' v,ds⟩ s1:=by
  unfold cX at h;cases h1:bJ P e op with
  |some x=>simp [h1] at h;obtain⟨rfl,rfl⟩:=h;rfl
  |none=>
   cases h2:fS P e s op with
   |some x=>simp [h1,h2] at h;obtain⟨rfl,rfl⟩:=h;rfl
   |none=>simp [h1,h2] at h;simp [h]
 rw [←key];simp only [bG,hg];cases op<;>first|rfl|(simp [plainO] at hp)
theorem aB(h:Q (.norm fr s)):Wo P [] pd fr s Q:=⟨.one (fun _=>rfl) h⟩
theorem aSC(hp:plainO op=true)(hg:wanted e gd=some true)(h:cX P e s op=some (v,s1))(k:Wo P rest [] ⟨eU e d' v,ds⟩ s1 Q):Wo P (⟨d',op,gd,pre⟩::rest) [] ⟨e,ds⟩ s Q:=
 ⟨k.ev.congr fun _=>by rw [vW hp hg h];cases d'<;>rfl⟩
theorem aRa(hp:plainO op=true)(hg:wanted e gd=some true)(h:cX P e s op=some (v,s1))(k:Wo P rest (aK d' pd) ⟨eU e d' v,ds⟩ s1 Q):Wo P (⟨d',op,gd,pre⟩::rest) pd ⟨e,ds⟩ s Q:=
 ⟨k.ev.congr fun _=>vW hp hg h⟩
theorem aNa{f:aJ}{args:List aJ}{g:Nat}{a b vs:List AV}(hf:evO P e f= .func g a b)(ha:dL (args.map (evO P e))=some vs)(k:Wo P rest (aK d' pd) ⟨eU e d' fA,.call g (a++vs++b)::ds⟩ s Q):
  Wo P (⟨d',.defer f args,none,pre⟩::rest) pd ⟨e,ds⟩ s Q:=
 ⟨k.ev.congr fun _=>by simp only [bG,wanted,hf,ha]⟩
def Can(v:AV):Prop:=gP v=some v∧cR v=true
inductive aCX:List AV→Prop
 |nil:aCX []
 |cons {v:AV} {vs:List AV} (h:Can v) (t:aCX vs):aCX (v::vs)
theorem aCX.pure{vs:List AV}(h:aCX vs):eM vs=true:=by
 induction h with
 |nil=>rfl
 |cons h _ ih=>simp only [eM,h.2,ih,Bool.and_self]
theorem aJp: ∀{vs:List AV},dL vs=some vs→eM vs=true→aCX vs
 | [],_,_=> .nil
 |v::vs,h,hp=>by
  simp only [eM,Bool.and_eq_true] at hp;simp only [dL] at h;split at h
  ·cases h
  ·rename_i y hy;split at h
   ·cases h
   ·rename_i ys hys;simp only [Option.some.injEq,List.cons.injEq] at h;exact .cons ⟨by rw [hy,h.1],hp.1⟩ (aJp (by rw [hys,h.2]) hp.2)
theorem aOl(k:IntKind)(n:Int):Can (.int k n):=⟨rfl,rfl⟩
theorem aPs(s:List UInt8):Can (.str s):=⟨rfl,rfl⟩
structure Pf(P:aS)(g:Nat)(args:List AV)(v:AV):Prop where
 ev:Ev (fun n=>(cH P n).call (.func g) args dK) (fun r=> ∃v0,r.1= .ret v0∧mO v0=some v)
 pure:cR v=true
 can:aCX args
theorem aHV{st:Bool}{f:aJ}{args:List aJ}{g:Nat}{a b vs:List AV}(hg:wanted e gd=some true)(hf:evO P e f= .func g a b)(ha:dL (args.map (evO P e))=some vs)(hc:Pf P g (a++vs++b) v)
(k:Wo P rest (aK d' pd) ⟨eU e d' v,ds⟩ s Q):Wo P (⟨d',.aW st f args,gd,pre⟩::rest) pd ⟨e,ds⟩ s Q:=by
 obtain⟨⟨r,s2⟩,N,⟨v0,h1,h2⟩,h3⟩:=hc.ev.out;simp only at h1;subst h1;obtain⟨x,M,h4,h5⟩:=k.ev.out;refine⟨⟨x,max N M,h4,fun n hn=> ?_⟩⟩;simp only [bG,hg,hf,ha,hc.can.pure,Bool.or_true,h3 n (by omega),h2,hc.pure];exact h5 n (by omega)
theorem zF{f:aJ}{args:List aJ}{g:AFn}{a b vs:List AV}(hg:wanted e gd=some true)(hf:target (evO P e f)=some (g,a,b))(ha:rL s (args.map (evO P e))=some (vs,s1))
(hc:Ev (fun n=>(cH P n).call g (a++vs++b) s1) (fun r=>match r.1 with| .ret v=>Wo P rest (aK d' pd) ⟨eU e d' v,ds⟩ r.2 Q| .panic v=>Q (.pan v ⟨e,ds⟩ r.2))):
  Wo P (⟨d',.call f args,gd,pre⟩::rest) pd ⟨e,ds⟩ s Q:=by
 obtain⟨⟨r,s2⟩,N,h1,h2⟩:=hc.out;cases r with
 |ret v=>
  obtain⟨x,M,h4,h5⟩:=(h1:Wo ..).ev.out;refine⟨⟨x,max N M,h4,fun n hn=> ?_⟩⟩;simp only [bG,hg,hf,ha,h2 n (by omega)];exact h5 n (by omega)
 |panic v=>exact⟨⟨_,N,h1,fun n hn=>by simp only [bG,hg,hf,ha,h2 n hn]⟩⟩
end
structure Wk(P:aS)(rd:Option Nat)(c:AC)(fr:Fr)(s:ASt)(Q:cY→Fr→ASt→Prop):Prop where
 ev:Ev (fun n=>evC (cH P n) P rd n c fr s) (fun r=>Q r.ex r.fr r.s)
def aPV(k:Fr→ASt→Prop)(Q:cY→Fr→ASt→Prop):cY→Fr→ASt→Prop
 | .normal,fr,s=>k fr s
 |e,fr,s=>Q e fr s
def aRG(Q:cY→Fr→ASt→Prop):pM→Prop
 | .norm fr s=>Q .normal fr s
 | .pan v fr s=>Q (.panic v) fr s
def aRR(id:Nat)(Q:cY→Fr→ASt→Prop):cY→Fr→ASt→Prop
 | .exit j,fr,s=>match Nat.beq j id with|true=>Q .normal fr s|false=>Q (.exit j) fr s
 |e,fr,s=>Q e fr s
section
variable {P : aS} {rd : Option Nat} {fr : Fr} {s : ASt} {Q Q' : cY → Fr → ASt → Prop}
theorem Wk.mono{c:AC}(h:Wk P rd c fr s Q)(k: ∀ex fr s,Q ex fr s→Q' ex fr s):Wk P rd c fr s Q':=⟨h.ev.mono fun _ q=>k _ _ _ q⟩
theorem aN(h:Q .normal fr s):Wk P rd .skip fr s Q:=⟨.one (fun _=>rfl) h⟩
theorem aL(h:Q .ret fr s):Wk P rd .ret fr s Q:=⟨.one (fun _=>rfl) h⟩
theorem dR{id:Nat}(h:Q (.exit id) fr s):Wk P rd (.exit id) fr s Q:=⟨.one (fun _=>rfl) h⟩
theorem vC{b:AC}(h:Wk P rd b fr s Q):Wk P rd (.scope b) fr s Q:=⟨h.ev.congr fun _=>by simp only [evC]⟩
theorem aD{a b:AC}(h:Wk P rd a fr s (aPV (fun fr s=>Wk P rd b fr s Q) Q)):Wk P rd (.seq a b) fr s Q:=by
 obtain⟨⟨ex,fr1,s1⟩,N,h1,h2⟩:=h.ev.out;cases ex with
 |normal=>
  obtain⟨r,M,h3,h4⟩:=(h1:Wk P rd b fr1 s1 Q).ev.out;exact⟨⟨r,max N M,h3,fun n hn=>by simp only [evC,h2 n (by omega)];exact h4 n (by omega)⟩⟩
 |exit id=>exact⟨⟨⟨.exit id,fr1,s1⟩,N,h1,fun n hn=>by simp only [evC,h2 n hn]⟩⟩
 |ret=>exact⟨⟨⟨.ret,fr1,s1⟩,N,h1,fun n hn=>by simp only [evC,h2 n hn]⟩⟩
 |panic v=>exact⟨⟨⟨.panic v,fr1,s1⟩,N,h1,fun n hn=>by simp only [evC,h2 n hn]⟩⟩
theorem aOR{c:aJ}{t f:AC}{b:Bool}(hb:evO P fr.env c= .bool b)(ht:b=true→Wk P rd t fr s Q)(hf:b=false→Wk P rd f fr s Q):Wk P rd (.cond c t f) fr s Q:=by
 cases b with
 |true=>exact⟨(ht rfl).ev.congr fun _=>by simp only [evC,hb]⟩
 |false=>exact⟨(hf rfl).ev.congr fun _=>by simp only [evC,hb]⟩
theorem aC7{c:aJ}{t f:AC}(hb:evO P fr.env c= .bool true)(ht:Wk P rd t fr s Q):Wk P rd (.cond c t f) fr s Q:=⟨ht.ev.congr fun _=>by simp only [evC,hb]⟩
theorem aAw{c:aJ}{t f:AC}(hb:evO P fr.env c= .bool false)(hf:Wk P rd f fr s Q):Wk P rd (.cond c t f) fr s Q:=⟨hf.ev.congr fun _=>by simp only [evC,hb]⟩
theorem aE{dr:Bool}{ops:List AI}(h:Wo P ops [] fr s (aRG Q)):Wk P rd (.reg dr ops) fr s Q:=by
 obtain⟨r,N,h1,h2⟩:=h.ev.out;cases r with
 |norm fr s=>exact⟨⟨⟨.normal,fr,s⟩,N,h1,fun n hn=>by simp only [evC,h2 n hn]⟩⟩
 |pan v fr s=>exact⟨⟨⟨.panic v,fr,s⟩,N,h1,fun n hn=>by simp only [evC,h2 n hn]⟩⟩
theorem aQ{id:Nat}{b:AC}(h:Wk P rd b fr s (aRR id Q)):Wk P rd (.block id b) fr s Q:=by
 obtain⟨⟨ex,fr1,s1⟩,N,h1,h2⟩:=h.ev.out;cases ex with
 |normal=>exact⟨⟨⟨.normal,fr1,s1⟩,N,h1,fun n hn=>by simp only [evC,h2 n hn]⟩⟩
 |exit j=>
  simp only [aRR] at h1;cases hj:Nat.beq j id with
  |true=>rw [hj] at h1;exact⟨⟨⟨.normal,fr1,s1⟩,N,h1,fun n hn=>by simp only [evC,h2 n hn,hj]⟩⟩
  |false=>rw [hj] at h1;exact⟨⟨⟨.exit j,fr1,s1⟩,N,h1,fun n hn=>by simp only [evC,h2 n hn,hj]⟩⟩
 |ret=>exact⟨⟨⟨.ret,fr1,s1⟩,N,h1,fun n hn=>by simp only [evC,h2 n hn]⟩⟩
 |panic v=>exact⟨⟨⟨.panic v,fr1,s1⟩,N,h1,fun n hn=>by simp only [evC,h2 n hn]⟩⟩
def aJn:cY→Bool
 | .normal| .ret=>true
 |_=>false
theorem wF{s0 s3:ASt}{v1 v:AV}(h:mO v1=some v):mO (settle s0 v1 s3).1=some v:=by
 unfold settle;split
 ·rename_i sz xs t;have h':some (AV.slice (szC sz xs) xs .no)=some v:=h;split
  ·exact h
  ·split
   ·split
    ·exact h'
    ·exact h'
   ·exact h'
 ·exact h
structure aRo(P:aS)(af:AF)(v:AV)(ex:cY)(fr:Fr)(s:ASt):Prop where
 ex:aJn ex=true
 ds:fr.ds= []
 res: ∃vs v1 s3,jK P fr.env s af.res=some vs∧nE s vs=some (v1,s3)∧mO v1=some v
theorem aJ0{g:Nat}{af:AF}{args:List AV}{v:AV}(h0:P.prim g=none)(h:P.fn g=some af)(hn:Nat.ble args.length af.nt=true)(hv:cR v=true)(hcan:aCX args)
(k:Wk P none af.body ⟨gI args,[]⟩ dK (aRo P af v)):Pf P g args v:=by
 refine⟨Ev.succ ?_,hv,hcan⟩;obtain⟨⟨ex,⟨e,ds⟩,s1⟩,N,⟨h1,h2,vs,v1,s3,h4,h5,h6⟩,h3⟩:=k.ev.out;simp only at h1 h2 h4 h5;subst h2;refine⟨((.ret (settle dK v1 s3).1),(settle dK v1 s3).2),N,⟨_,rfl,wF h6⟩,fun n hn'=> ?_⟩;have e1:evC (cH P n) P none n af.body ⟨gI args,[]⟩ (aT dK)=some ⟨ex,⟨e,[]⟩,s1⟩:=h3 n hn';simp only [cH,h0,h,yU,hn,e1];cases ex with
 |normal=>simp only [g7,h4,h5]
 |ret=>simp only [g7,h4,h5]
 |exit i=>cases h1
 |panic v=>cases h1
theorem aKV{f:Nat}{args:List AV}(h:Pf P f args (.bool true)): ∃n s',(cH P n).call (.func f) args dK=some (.ret (.bool true),s'):=by
 obtain⟨⟨r,s2⟩,N,⟨v0,h1,h2⟩,h3⟩:=h.ev.out;simp only at h1;subst h1;refine⟨N,s2,?_⟩;have:v0= .bool true:=by
  cases v0<;>simp [mO,gP,iL] at h2
  ·exact h2▸rfl
  ·rename_i sz xs o;cases o<;>simp at h2
  ·split at h2<;>simp at h2
  ·split at h2<;>simp at h2
 rw [h3 N (Nat.le_refl _),this]
end
structure Hint where
 cb:List Nat:= []
 ps:List Nat:= []
 cp:List Nat:= []
 ap:List Nat:= []
 cs:List Nat:= []
def aAv:Value→Option AV
 | .int k n=>if k.wrap n=n then some (.int k n) else none
 | .bool b=>some (.bool b)
 | .string s=>if s.size≤big then some (.str s.data.toList) else none
 | .slice none 0 0=>some (.slice 0 [] .full)
 | .pointer none=>some .dO
 | .map none=>some .dX
 | .nilFunc=>some .cZ
 | .nilIface=>some .bU
 |_=>none
def sS:List Value→Option (List AV)
 | []=>some []
 |v::vs=>match aAv v,sS vs with|some x,some xs=>some (x::xs)|_,_=>none
def aJJ:Value→Option AV
 | .agg cs=>match sS cs.toList with|some xs=>some (.agg xs)|none=>none
 |v=>aAv v
def cT:Operand→Option aJ
 | .tmp t=>some (.t t)
 | .const v=>(aJJ v).map .c
 | .global g=>some (.g g)
 | .func f=>some (.f f)
def aOk(P:Program):Operand→Bool
 | .func g=>(P.funcs[g]?).isSome
 |_=>true
def sD:List Operand→Option (List aJ)
 | []=>some []
 |x::xs=>match cT x,sD xs with|some y,some ys=>some (y::ys)|_,_=>none
def pX:Option Operand→Option (Option aJ)
 |none=>some none
 |some x=>(cT x).map some
def nR(P:Program)(t:TypeId):Option Bool:=
 match P.underlying t with
 |some (.struct _)|some (.array _ _)=>some true
 |some _=>some false
 |none=>none
def zeroOf(P:Program)(t:TypeId):Option (List AV):=
 match(P.info? t).bind (·.zero) with
 |some (.agg cs)=>sS cs.toList
 |some v=>(aAv v).map fun x=> [x]
 |none=>none
def zeroV(P:Program)(t:TypeId):Option AV:=
 match(P.info? t).bind (·.zero) with
 |some v=>aJJ v
 |none=>none
def vA(P:Program):Nat→List Field→Option (List KK)
 |_,[]=>some []
 |i,f::fs=>
  match f.name != "_" &&f.offset==i,P.underlying f.type,vA P (i+1) fs with
  |true,some .bool,some r=>some (.bool::r)
  |true,some (.int _),some r=>some (.int::r)
  |true,some .string,some r=>some (.str::r)
  |_,_,_=>none
def aHo(P:Program)(t:TypeId):Option KK:=
 match P.underlying t with
 |some .bool=>some .bool
 |some (.int _)=>some .int
 |some .string=>some .str
 |_=>none
def aEo:NK→Operand→Bool
 | .ptr,.const (.pointer none)| .slice,.const (.slice none _ _)| .map,.const (.map none)| .func,.const .nilFunc| .iface,.const .nilIface=>true
 |_,_=>false
def jX(neg:Bool)(k:NK)(x y:Operand)(a b:aJ):Option AOp:=
 match aEo k x,aEo k y with
 |true,_=>some (.aD1 neg k b)
 |false,true=>some (.aD1 neg k a)
 |_,_=>none
def aAB(fs:Array Field)(P:Program):List (Nat×Operand)→Option (List (Nat×Nat×aJ))
 | []=>some []
 |(i,x)::rest=>
  match fs[i]?,cT x,aAB fs P rest with
  |some f,some y,some ys=>some ((f.offset,P.cellsOf f.type,y)::ys)
  |_,_,_=>none
def aAh(esz:Nat):List (Nat×Operand)→Option (List (Nat×Nat×aJ))
 | []=>some []
 |(i,x)::rest=>match cT x,aAh esz rest with|some y,some ys=>some ((i*esz,esz,y)::ys)|_,_=>none
def aAl:List (Nat×Operand)→Option (List (Nat×aJ))
 | []=>some []
 |(i,x)::rest=>match cT x,aAl rest with|some y,some ys=>some ((i,y)::ys)|_,_=>none
def cB(P:Program)(tk:Bool)(b:Builtin)(ts:Array TypeId)(args:List Operand):Option AOp:=
 match b,args with
 | .recover,[]=>some .aA3
 | .len,[x]=>
  match(ts[0]?).bind P.underlying,cT x with
  |some .string,some x=>some (.aEA x)
  |some (.slice _),some x=>some (.jF x)
  |some (.array n _),some _=>if n≤big then some (.aP7 n) else none
  |_,_=>none
 | .append,[s,x]=>
  match(ts[0]?).bind P.underlying,(ts[1]?).bind P.underlying,cT s,cT x with
  |some (.slice e),some (.slice _),some s,some x=>if(zeroOf P e).map List.length=some (P.cellsOf e) then some (.append tk (P.cellsOf e) (P.bytesOf e) s x) else none
  |_,_,_,_=>none
 | .copy,[d,s]=>
  match(ts[0]?).bind P.underlying,(ts[1]?).bind P.underlying,cT d,cT s with
  |some (.slice e),some (.slice _),some d,some s=>match P.info? e with|some _=>some (.copy (P.cellsOf e) d s)|none=>none
  |_,_,_,_=>none
 | .max,[x,y]=>match(ts[0]?).bind P.underlying,sD [x,y] with|some (.int _),some xs=>some (.yI true xs)|_,_=>none
 | .min,[x,y]=>match(ts[0]?).bind P.underlying,sD [x,y] with|some (.int _),some xs=>some (.yI false xs)|_,_=>none
 |_,_=>none
def cC(P:Program)(h:Hint)(d:Option Nat):Op→Option AOp
 | .move x| .assign x=>(cT x).map .mv
 | .pick c a b=>match cT c,cT a,cT b with|some c,some a,some b=>some (.pick c a b)|_,_,_=>none
 | .alloc t=>
  match zeroOf P t with
  |some z=>some (if d.any h.ps.contains then .pend z else if d.any h.cb.contains then .g5 (.c (match z with| [x]=>(match nR P t with|some false=>x|_=> .agg z)|_=> .agg z)) else .alloc z)
  |none=>none
 | .box _ x=>match cT x with|some x=>some (if d.any h.cb.contains then .g5 x else .box x)|none=>none
 | .build t parts=>
  match zeroOf P t,P.underlying t with
  |some z,some (.struct fs)=>if fs.toList.all fun f=>(P.info? f.type).isSome then(aAB fs P parts.toList).map (.build z) else none
  |some z,some (.array _ e)=>if(P.info? e).isSome then(aAh (P.cellsOf e) parts.toList).map (.build z) else none
  |_,_=>none
 | .buildSlice t n parts=>
  match P.underlying t with
  |some (.slice e)=>match zeroOf P e,aAl parts.toList with|some z,some ps=>if z.length=P.cellsOf e∧0<z.length then some (.oK (P.cellsOf e) n z ps) else none|_,_=>none
  |_=>none
 | .load t a=>match nR P t,cT a with|some b,some a=>some (.load b (P.cellsOf t) a)|_,_=>none
 | .store t a v=>
  match P.info? t,cT a,cT v with
  |some _,some a,some v=>some (match a with| .t i=>if h.ps.contains i then .shut i (P.cellsOf t) v else .store (P.cellsOf t) a v|a=> .store (P.cellsOf t) a v)
  |_,_,_=>none
 | .nilCheck x=>(cT x).map .eF
 | .binOp op t x y _=>
  match cT x,cT y with
  |some a,some b=>
   match op with
   | .eql| .neq=>
    match P.underlying t with
    |some (.int _)|some .string=>some (.bin op a b)
    |some .bool=>some (.eq (op matches .neq) a b)
    |some (.pointer _)=>jX (op matches .neq) .ptr x y a b
    |some (.slice _)=>jX (op matches .neq) .slice x y a b
    |some (.map _ _)=>jX (op matches .neq) .map x y a b
    |some (.func ..)=>jX (op matches .neq) .func x y a b
    |some (.interface _)=>jX (op matches .neq) .iface x y a b
    |some (.struct fs)=>if P.stoodInHeld t||P.eqGuardType P.depth t then none else(vA P 0 fs.toList).map fun ks=> .eqF (op matches .neq) ks a b
    |_=>none
   |_=>some (.bin op a b)
  |_,_=>none
 | .unOp op _ x=>(cT x).map (.un op)
 | .convert s t x=>
  match P.underlying s,P.underlying t,cT x with
  |some (.int _),some (.int k),some x=>some (.toInt k x)
  |some .string,some .string,some x=>some (.aBO x none none)
  |_,_,_=>none
 | .makeInterface t x=>match P.underlying t,cT x with|some (.interface _),_=>none|some _,some x=>some (.z0 t x)|_,_=>none
 | .makeFunc (.func f) a b=>match sD a.toList,sD b.toList with|some a,some b=>some (.lW f a b)|_,_=>none
 | .makeMap _ none=>some .mkMap
 | .makeSlice t l c=>match P.underlying t,cT l,cT c with|some (.slice e),some l,some c=>(match zeroOf P e with|some z=>if z.length=P.cellsOf e then some (.mkSlice (P.cellsOf e) (P.bytesOf e) z l c) else none|none=>none)|_,_,_=>none
 | .slice t x l u m=>
  match P.underlying t,cT x,pX l,pX u,pX m with
  |some (.slice e),some x,some l,some u,some m=>if(P.underlying e).isSome then some (.aAF (P.cellsOf e) x l u m) else none
  |some .string,some x,some l,some u,some none=>some (.aBO x l u)
  |some (.array n e),some x,some l,some u,some none=>if(P.underlying e).isSome&&n≤big then some (.aMg n (P.cellsOf e) x l u) else none
  |_,_,_,_,_=>none
 | .fieldAddr s x f=>
  match P.underlying s,cT x with
  |some (.struct fs),some x=>match fs[f]? with|some f=>if P.cellsOf f.type=0 then none else some (.aI f.offset x)|none=>none
  |_,_=>none
 | .field s x f=>
  match P.underlying s,cT x with
  |some (.struct fs),some x=>match fs[f]? with|some f=>(nR P f.type).map fun b=> .field b f.offset (P.cellsOf f.type) x|none=>none
  |_,_=>none
 | .indexAddr t x i=>
  match P.underlying t,cT x,cT i with
  |some (.slice e),some x,some i=>if(P.underlying e).isSome then some (.nA (P.cellsOf e) x i) else none
  |some (.array n e),some x,some i=>if(P.underlying e).isSome then some (.aAC n (P.cellsOf e) x i) else none
  |_,_,_=>none
 | .index t x i=>match P.underlying t,cT x,cT i with|some .string,some x,some i=>some (.aCf x i)|_,_,_=>none
 | .lookup t m k ok=>
  match P.underlying t,cT m,cT k with
  |some (.map kt e),some m,some k=>match aHo P kt,zeroV P e with|some kk,some z=>some (.lookup ok kk z m k)|_,_=>none
  |_,_,_=>none
 | .mapUpdate t m k v| .insert t m k v=>
  match P.underlying t,cT m,cT k,cT v with
  |some (.map kt _),some m,some k,some v=>(aHo P kt).map fun kk=> .kM kk m k v
  |_,_,_,_=>none
 | .range t x=>match P.underlying t,cT x with|some .string,some x=>some (.mA x)|_,_=>none
 | .next x true=>(cT x).map .mH
 | .typeAssert x _ t ok=>
  match P.underlying t,cT x,zeroV P t with
  |some (.interface _),_,_=>none
  |some _,some x,some z=>some (.assert ok t z x)
  |_,_,_=>none
 | .extract x i=>(cT x).map fun x=> .extract x i
 | .call c=>
  match c.callee with
  | .builtin b=>cB P (d.any h.ap.contains) b c.argTypes c.args.toList
  | .value f=>match aOk P f,cT f,sD c.args.toList with|true,some f,some xs=>some (if d.any h.cs.contains then .aW true f xs else if d.any h.cp.contains then .aW false f xs else .call f xs)|_,_,_=>none
  | .invoke .. =>none
 | .defer c=>match c.callee with| .value f=>(match cT f,sD c.args.toList with|some f,some xs=>some (.defer f xs)|_,_=>none)|_=>none
 | .panic x=>(cT x).map .panic
 |_=>none
def aF3(ops:List Oper):List (List Nat):=
 ops.foldl (fun acc o=>acc++ [((o.after.toList.filter (Region.binds .any)).flatMap fun e=>e.on::acc.getD e.on []).eraseDups]) []
def zQ(P:Program)(h:Hint)(draw:Bool)(all:Array Oper)(pre:List (List Nat)):Nat→List Oper→Option (List AI)
 |_,[]=>some []
 |i,o::rest=>
  match zQ P h draw all pre (i+1) rest,(match o.guard with|none=>some none|some (j,b)=>match(all[j]?).bind (·.dst) with|some t=>some (some (t,b))|none=>none) with
  |some is,some g=>some ({d:=o.dst,op:=(cC P h o.dst o.op).getD .bad,gd:=g,pre:=if draw then(pre.getD i []).eraseDups else []}::is)
  |_,_=>none
def aBL:Nat→List Oper→Bool
 |_,[]=>true
 |i,o::rest=>o.after.all (fun e=> !Region.binds .any e||Nat.blt e.on i)&&aBL (i+1) rest
def dV(P:Program)(h:Hint):Code→Option AC
 | .skip=>some .skip
 | .region _ ops draw=>if draw&& !aBL 0 ops.toList then none else(zQ P h draw ops (if draw then aF3 ops.toList else []) 0 ops.toList).map (.reg draw)
 | .seq a b=>match dV P h a,dV P h b with|some a,some b=>some (.seq a b)|_,_=>none
 | .cond c a b=>match cT c,dV P h a,dV P h b with|some c,some a,some b=>some (.cond c a b)|_,_,_=>none
 | .block id b=>(dV P h b).map (.block id)
 | .loop b=>(dV P h b).map .loop
 | .rangeFunc f ps a b=>match cT f,dV P h a,dV P h b with|some f,some a,some b=>some (.lY f ps.toList a b)|_,_,_=>none
 | .exit id=>some (.exit id)
 | .ret=>some .ret
 | .scope b=>(dV P h b).map .scope
 | .label _=>some .skip
 |_=>none
def sE(P:Program):List ResultVar→Option (List ARV)
 | []=>some []
 | .tmp t::rs=>(sE P rs).map (.tmp t:: ·)
 | .cell a t::rs=>match nR P t,sE P rs with|some b,some xs=>some (.cell a b (P.cellsOf t)::xs)|_,_=>none
def vI(P:Program)(h:Hint)(f:Func):Option AF:=
 match f.body.bind (dV P h),sE P f.results.toList with
 |some b,some r=>some {np:=f.params.size+f.nfree,nt:=f.ntmps,res:=r,body:=b}
 |_,_=>none
structure Gh where
 M:Nat→Nat→Option Value
 L:Nat→Option Nat
 H:Nat→Nat→Option (Nat×Nat×Nat)
structure Gh.le(G G':Gh):Prop where
 M: ∀b o x,G.M b o=some x→G'.M b o=some x
 L: ∀l b,G.L l=some b→G'.L l=some b
 H: ∀t n x,G.H t n=some x→G'.H t n=some x
theorem Gh.le.refl(G:Gh):G.le G:=⟨fun _ _ _ h=>h,fun _ _ h=>h,fun _ _ _ h=>h⟩
theorem Gh.le.trans{A B C:Gh}(h:A.le B)(k:B.le C):A.le C:=⟨fun _ _ _ x=>k.M _ _ _ (h.M _ _ _ x),fun _ _ x=>k.L _ _ (h.L _ _ x),fun _ _ _ x=>k.H _ _ _ (h.H _ _ _ x)⟩
inductive Sh where
 |v (a:AV) (x:Value)
 |l (a_:List AV) (xs:List Value)
 |k (a_:List AV) (xs:List Value)
 |c (a:AV) (xs:List Value)
 |r (sz:Nat) (a_:List AV) (b o:Nat)
def qT:AV→Bool
 | .agg _=>true
 |_=>false
def n7(G:Gh)(o:Own)(A:Option Addr)(sz n c:Nat):Prop:=
 match o with
 | .no=>True
 | .full=>c=n
 | .tok t=> ∃b,A=some ⟨b,0,none⟩∧G.H t n=some (b,c,sz)
inductive R(G:Gh):Sh→Prop
 |int {k n} (h:k.wrap n=n):R G (.v (.int k n) (.int k n))
 |bool (b):R G (.v (.bool b) (.bool b))
 |str (s:ByteArray) (hs:s.size≤maxLen):R G (.v (.str s.data.toList) (.string s))
 |cK {sz o A c} (hm:c≤maxLen) (ho:n7 G o A sz 0 c):R G (.v (.slice sz [] o) (.slice A 0 c))
 |dA {sz xs o b off c} (hc:xs.length≤c) (hm:c≤maxLen) (hr:R G (.r sz xs b off)) (ho:n7 G o (some ⟨b,off,none⟩) sz xs.length c):
   R G (.v (.slice sz xs o) (.slice (some ⟨b,off,none⟩) xs.length c))
 |ms {l off len cap sz b} (hL:G.L l=some b) (hc:len≤cap) (hm:cap≤maxLen):R G (.v (.cE l off len cap sz) (.slice (some ⟨b,off,none⟩) len cap))
 |agg {cs vs} (h:R G (.k cs vs)):R G (.v (.agg cs) (.agg vs.toArray))
 |tuple {cs vs} (h:R G (.l cs vs)):R G (.v (.tuple cs) (.tuple vs.toArray))
 |dO:R G (.v .dO (.pointer none))
 |ptr {l b} (off) (hL:G.L l=some b):R G (.v (.ptr l off) (.pointer (some ⟨b,off,none⟩)))
 |aF {v vs b o} (off) (hc:R G (.c v vs)) (hM: ∀j x,vs[j]?=some x→G.M b (o+j)=some x):R G (.v (.aF v off) (.pointer (some ⟨b,o+off,none⟩)))
 |func {f a b fa fb} (ha:R G (.l a fa)) (hb:R G (.l b fb)):R G (.v (.func f a b) (.func (.func f) fa.toArray fb.toArray))
 |cZ:R G (.v .cZ .nilFunc)
 |yield {l b} (hL:G.L l=some b):R G (.v (.yield l) (.func (.yield b) #[] #[]))
 |map {l b} (hL:G.L l=some b):R G (.v (.map l) (.map (some b)))
 |dX:R G (.v .dX (.map none))
 |iface {t v x} (h:R G (.v v x)):R G (.v (.iface t v) (.iface t x))
 |bU:R G (.v .bU .nilIface)
 |iter {l b} (hL:G.L l=some b):R G (.v (.iter l) (.pointer (some ⟨b,0,none⟩)))
 |lU (x):R G (.v .lU x)
 |rE:R G (.l [] [])
 |fR {a x a_ xs} (h:R G (.v a x)) (t:R G (.l a_ xs)):R G (.l (a::a_) (x::xs))
 |gN:R G (.k [] [])
 |cJ {a x a_ xs} (h:R G (.v a x)) (h1:x.oneCell'=true) (t:R G (.k a_ xs)):R G (.k (a::a_) (x::xs))
 |tQ {cs vs} (h:R G (.k cs vs)):R G (.c (.agg cs) vs)
 |vO {a x} (ha:qT a=false) (h1:x.oneCell'=true) (h:R G (.v a x)):R G (.c a [x])
 |w6 (sz b o):R G (.r sz [] b o)
 |l9 {sz x xs b o vs} (hc:R G (.c x vs)) (hl:vs.length=sz) (hM: ∀j y,vs[j]?=some y→G.M b (o+j)=some y) (t:R G (.r sz xs b (o+sz))):R G (.r sz (x::xs) b o)
theorem n7.mono{G G':Gh}(hG:G.le G'){o A sz n c}(h:n7 G o A sz n c):n7 G' o A sz n c:=by
 cases o with
 |no=>trivial
 |full=>exact h
 |tok t=>obtain⟨b,h1,h2⟩:=h;exact⟨b,h1,hG.H _ _ _ h2⟩
theorem R.mono{G G':Gh}(hG:G.le G'){s:Sh}(h:R G s):R G' s:=by
 induction h with
 |int h=>exact .int h
 |bool b=>exact .bool b
 |str s hs=>exact .str s hs
 |cK hm ho=>exact .cK hm (ho.mono hG)
 |dA hc hm _ ho ih=>exact .dA hc hm ih (ho.mono hG)
 |ms hL hc hm=>exact .ms (hG.L _ _ hL) hc hm
 |agg _ ih=>exact .agg ih
 |tuple _ ih=>exact .tuple ih
 |dO=>exact .dO
 |ptr off hL=>exact .ptr off (hG.L _ _ hL)
 |aF off _ hM ih=>exact .aF off ih fun j x hx=>hG.M _ _ _ (hM j x hx)
 |func _ _ ha hb=>exact .func ha hb
 |cZ=>exact .cZ
 |yield hL=>exact .yield (hG.L _ _ hL)
 |map hL=>exact .map (hG.L _ _ hL)
 |dX=>exact .dX
 |iface _ ih=>exact .iface ih
 |bU=>exact .bU
 |iter hL=>exact .iter (hG.L _ _ hL)
 |lU x=>exact .lU x
 |rE=>exact .rE
 |fR _ _ h t=>exact .fR h t
 |gN=>exact .gN
 |cJ _ h1 _ h t=>exact .cJ h h1 t
 |tQ _ ih=>exact .tQ ih
 |vO ha h1 _ ih=>exact .vO ha h1 ih
 |w6 sz b o=>exact .w6 sz b o
 |l9 _ hl hM _ hc t=>exact .l9 hc hl (fun j y hy=>hG.M _ _ _ (hM j y hy)) t
section
variable {G : Gh}
theorem R.zO{a_ xs}(h:R G (.l a_ xs)):a_.length=xs.length:=by
 generalize hs:Sh.l a_ xs=s at h
 induction h generalizing a_ xs with
 |rE=>cases hs;rfl
 |fR _ _ _ ih=>cases hs;simp [ih rfl]
 |_=>cases hs
theorem R.jP{a_ xs}(h:R G (.k a_ xs)):a_.length=xs.length:=by
 generalize hs:Sh.k a_ xs=s at h
 induction h generalizing a_ xs with
 |gN=>cases hs;rfl
 |cJ _ _ _ _ ih=>cases hs;simp [ih rfl]
 |_=>cases hs
theorem R.aPI{a_ xs}(h:R G (.l a_ xs)){i:Nat}{a:AV}(ha:a_[i]?=some a): ∃x,xs[i]?=some x∧R G (.v a x):=by
 induction a_ generalizing xs i with
 |nil=>simp at ha
 |cons b bs ih=>
  cases h with
  |fR h t=>
   cases i with
   |zero=>simp at ha;subst ha;exact⟨_,rfl,h⟩
   |succ i=>simpa using ih t (by simpa using ha)
theorem R.aLC{a_ xs}(h:R G (.k a_ xs)){i:Nat}{a:AV}(ha:a_[i]?=some a): ∃x,xs[i]?=some x∧R G (.v a x)∧x.oneCell'=true:=by
 induction a_ generalizing xs i with
 |nil=>simp at ha
 |cons b bs ih=>
  cases h with
  |cJ h h1 t=>
   cases i with
   |zero=>simp at ha;subst ha;exact⟨_,rfl,h,h1⟩
   |succ i=>simpa using ih t (by simpa using ha)
theorem R.aNe{a_ xs}(h:R G (.k a_ xs)): ∀x∈xs,x.oneCell'=true:=by
 induction a_ generalizing xs with
 |nil=>cases h;simp
 |cons a a_ ih=>
  cases h with
  |cJ h h1 t=>intro x hx;rcases List.mem_cons.1 hx with rfl|hx;exact h1;exact ih t x hx
theorem R.pK{a_ xs bs ys}(h:R G (.l a_ xs))(k:R G (.l bs ys)):R G (.l (a_++bs) (xs++ys)):=by
 induction a_ generalizing xs with
 |nil=>cases h;exact k
 |cons a a_ ih=>cases h with|fR h t=>exact .fR h (ih t)
theorem R.sT{a_ xs bs ys}(h:R G (.k a_ xs))(k:R G (.k bs ys)):R G (.k (a_++bs) (xs++ys)):=by
 induction a_ generalizing xs with
 |nil=>cases h;exact k
 |cons a a_ ih=>cases h with|cJ h h1 t=>exact .cJ h h1 (ih t)
theorem R.yP{a_ xs}(h:R G (.k a_ xs))(n:Nat):R G (.k (a_.drop n) (xs.drop n)):=by
 induction n generalizing a_ xs with
 |zero=>simpa using h
 |succ n ih=>cases h with|gN=>simpa using R.gN|cJ h h1 t=>simpa using ih t
theorem R.aCh{a_ xs}(h:R G (.k a_ xs))(n:Nat):R G (.k (a_.take n) (xs.take n)):=by
 induction n generalizing a_ xs with
 |zero=>simpa using R.gN
 |succ n ih=>cases h with|gN=>simpa using R.gN|cJ h h1 t=>simpa using R.cJ h h1 (ih t)
theorem R.aFy{cs vs ds us}(h:R G (.k cs vs))(k:R G (.k ds us))(off:Nat):R G (.k (fO cs off ds) (vs.take off++us++vs.drop (off+us.length))):=by
 unfold fO;rw [k.jP];exact R.sT (R.sT (h.aCh _) k) (h.yP _)
theorem R.c_k{a vs}(h:R G (.c a vs)):R G (.k (cellsOf a) vs):=by
 cases h with
 |tQ h=>exact h
 |vO ha h1 h=>
  cases a<;>first|exact .cJ h h1 .gN|(simp [qT] at ha)
theorem R.aCw{a vs}(h:R G (.c a vs)):(cellsOf a).length=vs.length:=h.c_k.jP
theorem R.aRz{sz a_ b o}(h:R G (.r sz a_ b o)){i:Nat}{a:AV}(ha:a_[i]?=some a):
  ∃vs,R G (.c a vs)∧vs.length=sz∧ ∀j y,vs[j]?=some y→G.M b (o+i*sz+j)=some y:=by
 induction a_ generalizing o i with
 |nil=>simp at ha
 |cons x xs ih=>
  cases h with
  |l9 hc hl hM t=>
   cases i with
   |zero=>simp at ha;subst ha;exact⟨_,hc,hl,by simpa using hM⟩
   |succ i=>
    obtain⟨vs,h1,h2,h3⟩:=ih t (by simpa using ha);refine⟨vs,h1,h2,fun j y hy=> ?_⟩;have:=h3 j y hy;rw [show o+(i+1)*sz+j=o+sz+i*sz+j from by rw [Nat.add_mul];omega];exact this
theorem R.aQy{sz a_ b o}(h:R G (.r sz a_ b o))(n:Nat):n≤a_.length→R G (.r sz (a_.drop n) b (o+n*sz)):=by
 induction n generalizing a_ o with
 |zero=>intro _;simpa using h
 |succ n ih=>
  intro hn;cases h with
  |w6=>simp at hn
  |l9 hc hl hM t=>
   have:=ih t (by simpa using hn);simp only [List.drop_succ_cons];rw [show o+(n+1)*sz=o+sz+n*sz from by rw [Nat.add_mul];omega];exact this
theorem R.aQW{sz a_ b o}(h:R G (.r sz a_ b o))(n:Nat):R G (.r sz (a_.take n) b o):=by
 induction n generalizing a_ o with
 |zero=>simpa using R.w6 sz b o
 |succ n ih=>
  cases h with
  |w6=>simpa using R.w6 sz b o
  |l9 hc hl hM t=>simpa using R.l9 hc hl hM (ih t)
theorem R.aLN{sz a_ bs b o}(h:R G (.r sz a_ b o))(k:R G (.r sz bs b (o+a_.length*sz))):R G (.r sz (a_++bs) b o):=by
 induction a_ generalizing o with
 |nil=>simpa using k
 |cons x xs ih=>
  cases h with
  |l9 hc hl hM t=>
   refine R.l9 hc hl hM (ih t ?_);have e:o+sz+xs.length*sz=o+(x::xs).length*sz:=by simp only [List.length_cons,Nat.add_mul];omega
   rw [e];exact k
theorem R.aRO{sz b:Nat}: ∀{a_:List AV}{o:Nat}{cs:List (List Value)},(∀(i:Nat)(a:AV),a_[i]?=some a→ ∃vs,cs[i]?=some vs∧R G (.c a vs)∧vs.length=sz)→a_.length=cs.length→
  (∀(j:Nat)(y:Value),(cs.flatten)[j]?=some y→G.M b (o+j)=some y)→R G (.r sz a_ b o):=by
 intro a_
 induction a_ with
 |nil=>intro o cs _ _ _;exact .w6 sz b o
 |cons x xs ih=>
  intro o cs h hl hM;cases cs with
  |nil=>simp at hl
  |cons c cs=>
   obtain⟨vs,h1,h2,h3⟩:=h 0 x rfl;simp at h1;subst h1;refine .l9 h2 h3 (fun j y hy=>hM j y ?_) (ih (cs:=cs) (fun i a ha=>by simpa using h (i+1) a (by simpa using ha)) (by simpa using hl) fun j y hy=> ?_)
   ·have:j<c.length:=by
     rcases Nat.lt_or_ge j c.length with h|h
     ·exact h
     ·rw [List.getElem?_eq_none h] at hy;cases hy
    simp only [List.flatten_cons];rw [List.getElem?_append_left this];exact hy
   ·have:=hM (sz+j) y (by
     simp only [List.flatten_cons];rw [←h3,List.getElem?_append_right (by omega)];simpa using hy)
    rw [Nat.add_assoc];exact this
end
def dY:AOp→Nat
 | .load .. | .lookup .. =>1
 | .box _| .alloc _| .store .. | .mkMap| .mkSlice .. | .kM .. | .mA _| .mH _| .copy .. | .defer .. | .aA3=>2
 | .aW st _ _=>match st with|true=>0|false=>5
 | .append tk _ _ _ _=>match tk with|true=>4|false=>2
 | .call .. | .panic _=>3
 |_=>0
def aAU(a b:Nat):Bool:=
 match a,b with
 |3,_|_,3=>true
 |0,_|_,0=>false
 |1,1|1,4|4,1|1,5|5,1|5,5=>false
 |_,_=>true
def jU:aJ→List Nat
 | .t i=> [i]
 |_=> []
def wJ:Option aJ→List Nat
 |some x=>jU x
 |none=> []
def eC:AOp→List Nat
 | .aD1 _ _ x| .mv x| .g5 x| .box x| .eF x| .un _ x| .toInt _ x| .z0 _ x| .aI _ x| .field _ _ _ x| .mA x| .mH x| .assert _ _ _ x| .extract x _| .jF x| .aEA x| .panic x| .load _ _ x=>jU x
 | .pick a b c| .kM _ a b c=>jU a++jU b++jU c
 | .pend _| .alloc _| .mkMap| .aP7 _| .aA3| .bad=> []
 | .shut d _ x=>d::jU x
 | .build _ ps=>ps.flatMap fun p=>jU p.2.2
 | .oK _ _ _ ps=>ps.flatMap fun p=>jU p.2
 | .store _ a b| .bin _ a b| .eq _ a b| .eqF _ _ a b| .nA _ a b| .aAC _ _ a b| .aCf a b| .lookup _ _ _ a b| .append _ _ _ a b| .copy _ a b| .mkSlice _ _ _ a b=>jU a++jU b
 | .lW _ a b=>a.flatMap jU++b.flatMap jU
 | .aAF _ x l h m=>jU x++wJ l++wJ h++wJ m
 | .aBO x l h| .aMg _ _ x l h=>jU x++wJ l++wJ h
 | .call f xs| .aW _ f xs| .defer f xs=>jU f++xs.flatMap jU
 | .yI _ xs=>xs.flatMap jU
def eR(i:AI):List Nat:=i.d.toList++(match i.op with| .shut d _ _=> [d]|_=> [])
def nS(i:AI):List Nat:=eR i++eC i.op++(match i.gd with|some (t,_)=> [t]|none=> [])
def aLy(ops:List AI):Bool:=
 (List.range ops.length).all fun j=>(List.range j).all fun i=>
  match ops[i]?,ops[j]? with
  |some a,some b=>
   b.pre.contains i||
    !(aAU (dY a.op) (dY b.op)||(eR a).any (fun t=>(nS b).contains t)||(eR b).any (fun t=>(nS a).contains t))
  |_,_=>false
def yD:AOp→Bool
 | .call (.f _) _| .aW _ (.f _) _=>true
 | .call .. | .aW .. | .bad=>false
 |_=>true
def aEd(nt:Nat)(rd:Bool)(ops:List AI):Bool:=
 ops.all fun i=>(eR i).all (fun d=>Nat.blt d nt)&& !(rd&&(match i.op with| .defer .. =>true|_=>false))&&(match i.gd with|none=>true|some _=>yD i.op)
def nQ(nt:Nat):Bool→AC→Bool
 |rd,.reg draw ops=>aEd nt rd ops&&(!draw||aLy ops)
 |rd,.seq a b=>nQ nt rd a&&nQ nt rd b
 |rd,.cond _ a b=>nQ nt rd a&&nQ nt rd b
 |rd,.block _ b|rd,.loop b|rd,.scope b=>nQ nt rd b
 |_,.lY _ ps a b=>ps.all (fun d=>Nat.blt d nt)&&nQ nt true a&&nQ nt true b
 |_,_=>true
def aRy:LSt→LoopState→Prop
 | .ready,.ready| .busy,.busy| .done,.done| .exhausted,.exhausted=>True
 |_,_=>False
def aRq:Option cY→Option Code→Prop
 |none,none=>True
 |some .ret,some .ret=>True
 |some (.exit i),some (.exit j)=>i=j
 |_,_=>False
structure aCB(P:Program)(G:Gh)(lp:uT)(L:Loop):Prop where
 st:aRy lp.st L.state
 pend:aRq lp.pend L.pending
 env: ∀i,R G (.v (lp.env i) (L.tmps.getD i undef))
 params:L.params.toList=lp.params
 pok:lp.params.all (fun d=>Nat.blt d L.tmps.size)=true
 assign: ∃h,dV P h L.assign=some lp.assign∧nQ L.tmps.size true lp.assign=true
 body: ∃h,dV P h L.body=some lp.body∧nQ L.tmps.size true lp.body=true
 dq:G.L lp.dq=some L.defers
 aIx: ∃fn,P.funcs[L.fn]?=some fn
inductive s8(G:Gh):List (AV×AV)→List MapEntry→Prop
 |nil:s8 G [] []
 |cons {a v e es ents} (hk:R G (.v a e.key)) (hv:R G (.v v e.val)) (t:s8 G es ents):s8 G ((a,v)::es) (e::ents)
theorem s8.mono{G G':Gh}(hG:G.le G'){es ents}(h:s8 G es ents):s8 G' es ents:=by
 induction h with
 |nil=>exact .nil
 |cons hk hv _ ih=>exact .cons (hk.mono hG) (hv.mono hG) ih
theorem aCB.mono{P:Program}{G G':Gh}(hG:G.le G'){lp L}(h:aCB P G lp L):aCB P G' lp L:=
 ⟨h.st,h.pend,fun i=>(h.env i).mono hG,h.params,h.pok,h.assign,h.body,hG.L _ _ h.dq,h.aIx⟩
def m8(P:Program)(G:Gh)(b:Nat)(o:Obj):cQ→Prop
 | .cells cs wr=> ∃vs e,o= .cells (List.toArray vs) e (0,0)∧R G (.k cs vs)∧(wr=true→ ∀j,G.M b j=none)∧(wr=false→ ∀j x,vs[j]?=some x→G.M b j=some x)
 | .map es=> ∃ents clock,o= .map (List.toArray ents) clock∧s8 G es ents
 | .iter t pos=> ∃st,o= .stringIter st pos∧st.data.toList=t∧st.size≤maxLen
 | .loop lp=> ∃L,o= .loop L∧aCB P G lp L
 | .qZ=>o= .deferred (some [])
 | .dead=>True
structure Bs where
 Pr:Nat→Prop
 w0:World
 M0:Nat→Nat→Option Value
 lt: ∀b,Pr b→b<w0.heap.size
structure aPH(G:Gh)(Pr:Nat→Prop)(w:World)(t n b c sz:Nat):Prop where
 h:G.H t n=some (b,c,sz)
 np: ¬Pr b
 lt:b<w.heap.size
 blk: ∃e cur,w.heap[b]?=some (.cells cur e (0,0))∧cur.size=c*sz
 szp:0<sz
 nc:n≤c
 cm:c≤maxLen
 m: ∀j,n*sz≤j→G.M b j=none
 l: ∀ℓ,G.L ℓ≠some b
structure Inv(P:Program)(B:Bs)(G:Gh)(s:ASt)(w:World):Prop where
 os:w.os=B.w0.os
 tape:w.tape=B.w0.tape
 output:w.output=B.w0.output
 size:B.w0.heap.size≤w.heap.size
 pr: ∀b,B.Pr b→w.heap[b]?=B.w0.heap[b]?
 prM: ∀b,B.Pr b→ ∀o,G.M b o=B.M0 b o
 m: ∀b o x,G.M b o=some x→w.cell? ⟨b,o,none⟩=some x
 l: ∀ℓ b,G.L ℓ=some b→ℓ<s.blks.length∧b<w.heap.size∧ ¬B.Pr b
 inj: ∀ℓ ℓ' b,G.L ℓ=some b→G.L ℓ'=some b→ℓ=ℓ'
 blk: ∀ℓ b o k,G.L ℓ=some b→w.heap[b]?=some o→s.blks[ℓ]?=some k→m8 P G b o k
 tok: ∀t n,s.toks[t]?=some n→ ∃b c sz,aPH G B.Pr w t n b c sz
 lX: ∀t t' n n' b c sz c' sz',s.toks[t]?=some n→s.toks[t']?=some n'→G.H t n=some (b,c,sz)→G.H t' n'=some (b,c',sz')→t=t'
 hh: ∀t n x,G.H t n=some x→ ∃n0,s.toks[t]?=some n0∧n≤n0
 tot: ∀ℓ,ℓ<s.blks.length→ ∃b,G.L ℓ=some b
theorem m8.mono{P:Program}{G G':Gh}(hG:G.le G'){b:Nat}{o:Obj}{k:cQ}(hM: ∀cs,k= .cells cs true→ ∀j,G'.M b j=none)(h:m8 P G b o k):m8 P G' b o k:=by
 cases k with
 |cells cs wr=>
  obtain⟨vs,e,h1,h2,h3,h4⟩:=h;refine⟨vs,e,h1,h2.mono hG,fun hw=> ?_,fun hw j x hx=>hG.M _ _ _ (h4 hw j x hx)⟩;subst hw;exact hM cs rfl
 |map es=>obtain⟨ents,clock,h1,h2⟩:=h;exact⟨ents,clock,h1,h2.mono hG⟩
 |iter t pos=>exact h
 |loop lp=>obtain⟨L,h1,h2⟩:=h;exact⟨L,h1,h2.mono hG⟩
 |qZ=>exact h
 |dead=>trivial
theorem sK{w:World}{o:Obj}{b:Nat}(h:b≠w.heap.size):(w.alloc o).heap[b]?=w.heap[b]?:=by
 simp only [World.alloc,Array.getElem?_push];rw [if_neg h]
theorem oX{w:World}{o:Obj}:(w.alloc o).heap[w.heap.size]?=some o:=by unfold World.alloc;simp
theorem aJT{w:World}{b:Nat}{o:Obj}(h:w.heap[b]?=some o):b<w.heap.size:=(Array.getElem?_eq_some_iff.1 h).1
theorem oV{w w':World}{a:Addr}(h:w'.heap[a.block]?=w.heap[a.block]?):w'.cell? a=w.cell? a:=by simp [World.cell?,h]
theorem aJ3{w:World}{a:Addr}{x:Value}(h:w.cell? a=some x):a.block<w.heap.size:=by
 unfold World.cell? at h;split at h
 ·rename_i e;exact aJT e
 ·cases h
theorem tN{w:World}{b:Nat}{vs:List Value}{e:TypeId}{fr:Nat×Nat}(h:w.heap[b]?=some (.cells vs.toArray e fr))(j:Nat):w.cell? ⟨b,j,none⟩=vs[j]?:=by
 simp [World.cell?,h]
section
variable {P : Program} {B : Bs} {w : World} {G : Gh} {s : ASt}
theorem Inv.aDl{s':ASt}(h:Inv P B G s w)(hb:s'.blks=s.blks)(ht:s'.toks=s.toks):Inv P B G s' w:=
 ⟨h.os,h.tape,h.output,h.size,h.pr,h.prM,h.m,by rw [hb];exact h.l,h.inj,by rw [hb];exact h.blk,by rw [ht];exact h.tok,by rw [ht];exact h.lX,by rw [ht];exact h.hh,by rw [hb];exact h.tot⟩
theorem Inv.drawn(h:Inv P B G s w)(d:Nat):Inv P B G s {w with drawn:=d}:=
 ⟨h.os,h.tape,h.output,h.size,h.pr,h.prM,h.m,h.l,h.inj,h.blk,fun t n ht=>let ⟨b,c,sz,k⟩:=h.tok t n ht;⟨b,c,sz,k.h,k.np,k.lt,k.blk,k.szp,k.nc,k.cm,k.m,k.l⟩,h.lX,h.hh,h.tot⟩
theorem Inv.Mlt(h:Inv P B G s w){b o:Nat}{x:Value}(hx:G.M b o=some x):b<w.heap.size:=aJ3 (a:=⟨b,o,none⟩) (h.m b o x hx)
theorem Inv.aLU(h:Inv P B G s w)(o:Nat):G.M w.heap.size o=none:=by
 cases hx:G.M w.heap.size o with
 |none=>rfl
 |some x=>exact absurd (h.Mlt hx) (Nat.lt_irrefl _)
theorem Inv.aOH(h:Inv P B G s w)(ℓ:Nat):G.L ℓ≠some w.heap.size:=fun e=>absurd (h.l _ _ e).2.1 (Nat.lt_irrefl _)
theorem Inv.aIA(h:Inv P B G s w):G.L s.blks.length=none:=by
 cases hx:G.L s.blks.length with
 |none=>rfl
 |some x=>exact absurd (h.l _ _ hx).1 (Nat.lt_irrefl _)
theorem Inv.grow(h:Inv P B G s w){w':World}(ho:w'.os=w.os)(ht:w'.tape=w.tape)(hu:w'.output=w.output)(hs:w.heap.size≤w'.heap.size)
(hk: ∀b,b<w.heap.size→w'.heap[b]?=w.heap[b]?):Inv P B G s w' where
 os:=ho.trans h.os
 tape:=ht.trans h.tape
 output:=hu.trans h.output
 size:=Nat.le_trans h.size hs
 pr:=fun b hb=>(hk b (Nat.lt_of_lt_of_le (B.lt b hb) h.size)).trans (h.pr b hb)
 prM:=h.prM
 m:=fun b o x hx=>(oV (hk b (h.Mlt hx))).trans (h.m b o x hx)
 l:=fun ℓ b hl=>⟨(h.l ℓ b hl).1,Nat.lt_of_lt_of_le (h.l ℓ b hl).2.1 hs,(h.l ℓ b hl).2.2⟩
 inj:=h.inj
 blk:=fun ℓ b o k hl ho hk'=>h.blk ℓ b o k hl (by rw [←hk b (h.l ℓ b hl).2.1];exact ho) hk'
 tok:=fun t n ht=>by
  obtain⟨b,c,sz,k⟩:=h.tok t n ht;exact⟨b,c,sz,k.h,k.np,Nat.lt_of_lt_of_le k.lt hs,by rw [hk b k.lt];exact k.blk,k.szp,k.nc,k.cm,k.m,k.l⟩
 lX:=h.lX
 hh:=h.hh
 tot:=h.tot
theorem Inv.alloc(h:Inv P B G s w)(o:Obj):Inv P B G s (w.alloc o):=
 h.grow rfl rfl rfl (by simp) fun _ hb=>sK (Nat.ne_of_lt hb)
def Gh.kL(G:Gh)(b lo hi:Nat)(vs:List Value):Gh:=
 {G with M:=fun b' o=>if b'=b∧lo≤o∧o<hi then vs[o]? else G.M b' o}
theorem Gh.yV{b lo hi:Nat}{vs:List Value}(hn: ∀o,lo≤o→o<hi→ ∀x,G.M b o=some x→vs[o]?=some x):G.le (G.kL b lo hi vs) where
 M:=fun b' o x hx=>by
  simp only [Gh.kL];split
  ·rename_i hc;obtain⟨rfl,h1,h2⟩:=hc;exact hn o h1 h2 x hx
  ·exact hx
 L:=fun _ _ h=>h
 H:=fun _ _ _ h=>h
theorem nH{b lo hi:Nat}{vs:List Value}{o:Nat}(h1:lo≤o)(h2:o<hi):(G.kL b lo hi vs).M b o=vs[o]?:=by simp [Gh.kL,h1,h2]
theorem wI{b lo hi:Nat}{vs:List Value}{b' o:Nat}(h:b'≠b):(G.kL b lo hi vs).M b' o=G.M b' o:=by simp [Gh.kL,h]
theorem zY{b lo hi:Nat}{vs:List Value}{b' o:Nat}(h: ¬(lo≤o∧o<hi)):(G.kL b lo hi vs).M b' o=G.M b' o:=by simp [Gh.kL,h]
theorem Inv.aDZ(h:Inv P B G s w){b:Nat}{vs:List Value}{e:TypeId}{fr:Nat×Nat}(hb:w.heap[b]?=some (.cells vs.toArray e fr))(hn: ∀o,G.M b o=none)(hl: ∀ℓ,G.L ℓ≠some b)
(ht: ∀t n b' c sz,s.toks[t]?=some n→G.H t n=some (b',c,sz)→b'≠b)(hp: ¬B.Pr b)(lo hi:Nat):Inv P B (G.kL b lo hi vs) s w:=by
 have hle:G.le (G.kL b lo hi vs):=Gh.yV fun o _ _ x hx=>by rw [hn o] at hx;cases hx
 exact{
  os:=h.os,tape:=h.tape,output:=h.output,size:=h.size,pr:=h.pr
  prM:=fun x hx o=>by
   have hne:x≠b:=fun e'=>hp (by rw [←e'];exact hx);rw [wI hne];exact h.prM x hx o
  m:=fun b' o x hx=>by
   by_cases hc:b'=b∧lo≤o∧o<hi
   ·obtain⟨rfl,h1,h2⟩:=hc;rw [nH h1 h2] at hx;rw [tN hb];exact hx
   ·have:G.M b' o=some x:=by simpa [Gh.kL,hc] using hx
    exact h.m b' o x this
  l:=h.l,inj:=h.inj
  blk:=fun ℓ b' o k hl' ho hk=>(h.blk ℓ b' o k hl' ho hk).mono hle fun cs hc j=>by
   have hne:b'≠b:=fun e=>hl ℓ (e▸hl');rw [wI hne];have:=h.blk ℓ b' o k hl' ho hk;subst hc;obtain⟨_,_,_,_,h3,_⟩:=this;exact h3 rfl j
  tok:=fun t n ht'=>by
   obtain⟨b',c,sz,k⟩:=h.tok t n ht';have hne:b'≠b:=ht t n b' c sz ht' k.h;exact⟨b',c,sz,k.h,k.np,k.lt,k.blk,k.szp,k.nc,k.cm,fun j hj=>by rw [wI hne];exact k.m j hj,k.l⟩
  lX:=h.lX,hh:=h.hh,tot:=h.tot}
theorem Inv.aMl(h:Inv P B G s w)(vs:List Value)(e:TypeId)(fr:Nat×Nat)(hi:Nat):
  Inv P B (G.kL w.heap.size 0 hi vs) s (w.alloc (.cells vs.toArray e fr)):=
 (h.alloc _).aDZ oX (fun o=>h.aLU o) (fun ℓ=>h.aOH ℓ) (fun t n b' c sz ht hh=>by
  obtain⟨b,c',sz',k⟩:=h.tok t n ht;rw [k.h] at hh;cases hh;exact Nat.ne_of_lt k.lt) (fun hp=>absurd (Nat.lt_of_lt_of_le (B.lt _ hp) h.size) (Nat.lt_irrefl _)) 0 hi
theorem Inv.pC(h:Inv P B G s w)(hi:Nat)(vs:List Value):G.le (G.kL w.heap.size 0 hi vs):=
 Gh.yV fun o _ _ x hx=>by rw [h.aLU o] at hx;cases hx
def Gh.wD(G:Gh)(l b:Nat):Gh:={G with L:=fun l'=>if l'=l then some b else G.L l'}
theorem oZ{l b:Nat}:(G.wD l b).L l=some b:=by simp [Gh.wD]
theorem aEm{l b l':Nat}(h:l'≠l):(G.wD l b).L l'=G.L l':=by simp [Gh.wD,h]
theorem Gh.uK{l b:Nat}(h:G.L l=none):G.le (G.wD l b) where
 M:=fun _ _ _ h=>h
 L:=fun l' b' hb=>by
  by_cases e:l'=l
  ·subst e;rw [h] at hb;cases hb
  ·rw [aEm e];exact hb
 H:=fun _ _ _ h=>h
theorem Inv.aAt(h:Inv P B G s w)(o:Obj)(k:cQ)(hk:m8 P (G.wD s.blks.length w.heap.size) w.heap.size o k):
  Inv P B (G.wD s.blks.length w.heap.size) {s with blks:=s.blks++ [k]} (w.alloc o):=by
 have ha:=h.alloc o;have hle:G.le (G.wD s.blks.length w.heap.size):=Gh.uK h.aIA;have hL: ∀{ℓ b},(G.wD s.blks.length w.heap.size).L ℓ=some b→(ℓ=s.blks.length∧b=w.heap.size)∨(ℓ≠s.blks.length∧G.L ℓ=some b):=by
  intro ℓ b hb;by_cases e:ℓ=s.blks.length
  ·subst e;rw [oZ] at hb;cases hb;exact .inl ⟨rfl,rfl⟩
  ·rw [aEm e] at hb;exact .inr ⟨e,hb⟩
 exact{
  os:=ha.os,tape:=ha.tape,output:=ha.output,size:=ha.size,pr:=ha.pr,prM:=ha.prM,m:=ha.m
  l:=fun ℓ b hb=>by
   rcases hL hb with ⟨rfl,rfl⟩|⟨_,hb⟩
   ·exact⟨by simp,by simp,fun hp=>absurd (Nat.lt_of_lt_of_le (B.lt _ hp) h.size) (Nat.lt_irrefl _)⟩
   ·exact⟨by have:=(h.l ℓ b hb).1;simp;omega,(ha.l ℓ b hb).2.1,(h.l ℓ b hb).2.2⟩
  inj:=fun ℓ ℓ' b hb hb'=>by
   rcases hL hb with ⟨rfl,rfl⟩|⟨_,hb⟩<;>rcases hL hb' with ⟨rfl,e⟩|⟨_,hb'⟩
   ·rfl
   ·exact absurd hb' (h.aOH _)
   ·subst e;exact absurd hb (h.aOH _)
   ·exact h.inj _ _ _ hb hb'
  blk:=fun ℓ b o' k' hb ho hk'=>by
   rcases hL hb with ⟨rfl,rfl⟩|⟨hne,hb⟩
   ·rw [oX] at ho;cases ho;simp at hk';subst hk';exact hk
   ·have hlt:=(h.l ℓ b hb).1;rw [List.getElem?_append_left hlt] at hk';exact(ha.blk ℓ b o' k' hb ho hk').mono hle fun cs hc j=>by
     have:=ha.blk ℓ b o' k' hb ho hk';subst hc;obtain⟨_,_,_,_,h3,_⟩:=this;exact h3 rfl j
  tok:=fun t n ht=>by
   obtain⟨b,c,sz,k⟩:=ha.tok t n ht;obtain⟨b',c',sz',k'⟩:=h.tok t n ht;have he:=k.h.symm.trans k'.h;cases he;exact⟨b,c,sz,k.h,k.np,k.lt,k.blk,k.szp,k.nc,k.cm,k.m,fun ℓ hb=>by
    rcases hL hb with ⟨rfl,rfl⟩|⟨_,hb⟩
    ·exact absurd k'.lt (Nat.lt_irrefl _)
    ·exact k.l ℓ hb⟩
  lX:=ha.lX,hh:=ha.hh
  tot:=fun ℓ hℓ=>by
   by_cases q:ℓ=s.blks.length
   ·subst q;exact⟨_,oZ⟩
   ·rw [aEm q];refine h.tot ℓ ?_;simp at hℓ;omega}
theorem Inv.put(h:Inv P B G s w){ℓ b:Nat}{o':Obj}{k':cQ}(hl:G.L ℓ=some b)(hk:m8 P G b o' k')(hM: ∀j x,G.M b j=some x→(w.putObj b o').cell? ⟨b,j,none⟩=some x):
  Inv P B G {s with blks:=s.blks.set ℓ k'} (w.putObj b o'):=by
 have hlt:=(h.l ℓ b hl).2.1;have hne: ∀{x},x≠b→(w.putObj b o').heap[x]?=w.heap[x]?:=fun hx=>World.putObj_heap_other hx;have hsz:(w.putObj b o').heap.size=w.heap.size:=by simp [World.putObj]
 exact{
  os:=h.os,tape:=h.tape,output:=h.output,size:=by rw [hsz];exact h.size
  pr:=fun x hx=>(hne (fun e=>(h.l ℓ b hl).2.2 (e▸hx))).trans (h.pr x hx)
  prM:=h.prM
  m:=fun x j v hv=>by
   by_cases e:x=b
   ·subst e;exact hM j v hv
   ·rw [oV (hne e)];exact h.m x j v hv
  l:=fun ℓ' x hx=>⟨by simpa using (h.l ℓ' x hx).1,by rw [hsz];exact(h.l ℓ' x hx).2.1,(h.l ℓ' x hx).2.2⟩
  inj:=h.inj
  blk:=fun ℓ' x o k hx ho hk'=>by
   by_cases e:ℓ'=ℓ
   ·subst e;rw [hl] at hx;cases hx;rw [World.putObj_heap_same hlt] at ho;cases ho;rw [List.getElem?_set_self (h.l _ _ hl).1] at hk';cases hk';exact hk
   ·have hxb:x≠b:=fun e'=>e (h.inj _ _ _ hx (e'▸hl));rw [hne hxb] at ho;rw [List.getElem?_set_ne (fun e'=>e e'.symm)] at hk';exact h.blk ℓ' x o k hx ho hk'
  tok:=fun t n ht=>by
   obtain⟨x,c,sz,k⟩:=h.tok t n ht;have hxb:x≠b:=fun e=>k.l ℓ (e▸hl);exact⟨x,c,sz,k.h,k.np,by rw [hsz];exact k.lt,by rw [hne hxb];exact k.blk,k.szp,k.nc,k.cm,k.m,k.l⟩
  lX:=h.lX,hh:=h.hh,tot:=fun ℓ hℓ=>h.tot ℓ (by simpa using hℓ)}
theorem Inv.aRX(h:Inv P B G s w){G':Gh}(hle:G.le G')(hLe: ∀ℓ,G'.L ℓ=G.L ℓ)(hHe: ∀t n,G'.H t n=G.H t n){ℓ b:Nat}{k':cQ}(hl:G.L ℓ=some b)
(hM: ∀x j,x≠b→G'.M x j=G.M x j)(hMb: ∀j x,G'.M b j=some x→w.cell? ⟨b,j,none⟩=some x)
(hk: ∀o,w.heap[b]?=some o→m8 P G' b o k'):Inv P B G' {s with blks:=s.blks.set ℓ k'} w:=by
 exact{
  os:=h.os,tape:=h.tape,output:=h.output,size:=h.size,pr:=h.pr
  prM:=fun x hx o=>by rw [hM x o (fun e=>(h.l ℓ b hl).2.2 (e▸hx))];exact h.prM x hx o
  m:=fun x j v hv=>by
   by_cases e:x=b
   ·subst e;exact hMb j v hv
   ·rw [hM x j e] at hv;exact h.m x j v hv
  l:=fun ℓ' x hx=>by rw [hLe] at hx;exact⟨by simpa using (h.l ℓ' x hx).1,(h.l ℓ' x hx).2⟩
  inj:=fun ℓ' ℓ'' x hx hx'=>by rw [hLe] at hx hx';exact h.inj _ _ _ hx hx'
  blk:=fun ℓ' x o k hx ho hk'=>by
   rw [hLe] at hx;by_cases e:ℓ'=ℓ
   ·subst e;rw [hl] at hx;cases hx;rw [List.getElem?_set_self (h.l _ _ hl).1] at hk';cases hk';exact hk o ho
   ·have hxb:x≠b:=fun e'=>e (h.inj _ _ _ hx (e'▸hl));rw [List.getElem?_set_ne (fun e'=>e e'.symm)] at hk';refine(h.blk ℓ' x o k hx ho hk').mono hle fun cs hc j=> ?_;rw [hM x j hxb];have:=h.blk ℓ' x o k hx ho hk';subst hc;obtain⟨_,_,_,_,h3,_⟩:=this;exact h3 rfl j
  tok:=fun t n ht=>by
   obtain⟨x,c,sz,k⟩:=h.tok t n ht;have hxb:x≠b:=fun e=>k.l ℓ (e▸hl);exact⟨x,c,sz,by rw [hHe];exact k.h,k.np,k.lt,k.blk,k.szp,k.nc,k.cm,fun j hj=>by rw [hM x j hxb];exact k.m j hj,fun ℓ'=>by rw [hLe];exact k.l ℓ'⟩
  lX:=fun t t' n n' b' c sz c' sz' h1 h2 h3 h4=>by rw [hHe] at h3 h4;exact h.lX t t' n n' b' c sz c' sz' h1 h2 h3 h4
  hh:=fun t n x hx=>by rw [hHe] at hx;exact h.hh t n x hx
  tot:=fun ℓ' hℓ=>by rw [hLe];exact h.tot ℓ' (by simpa using hℓ)}
structure uS(G:Gh)(w:World)(G':Gh)(w':World):Prop where
 le:G.le G'
 L: ∀ℓ,G'.L ℓ=G.L ℓ
 H: ∀t n,G'.H t n=G.H t n
 os:w'.os=w.os
 tape:w'.tape=w.tape
 output:w'.output=w.output
 size:w.heap.size≤w'.heap.size
 aBr: ∀b,b<w.heap.size→w'.heap[b]?=w.heap[b]?
 old: ∀b,b<w.heap.size→ ∀o,G'.M b o=G.M b o
 new: ∀b o x,w.heap.size≤b→G'.M b o=some x→w'.cell? ⟨b,o,none⟩=some x
theorem uS.refl(G:Gh)(w:World)(h: ∀b o x,w.heap.size≤b→G.M b o=some x→w.cell? ⟨b,o,none⟩=some x):uS G w G w:=
 ⟨.refl _,fun _=>rfl,fun _ _=>rfl,rfl,rfl,rfl,Nat.le_refl _,fun _ _=>rfl,fun _ _ _=>rfl,h⟩
theorem Inv.quiet(h:Inv P B G s w):uS G w G w:= .refl _ _ fun b o x _ hx=>h.m b o x hx
theorem uS.inv{G':Gh}{w':World}(q:uS G w G' w')(h:Inv P B G s w):Inv P B G' s w' where
 os:=q.os.trans h.os
 tape:=q.tape.trans h.tape
 output:=q.output.trans h.output
 size:=Nat.le_trans h.size q.size
 pr:=fun b hb=>(q.aBr b (Nat.lt_of_lt_of_le (B.lt b hb) h.size)).trans (h.pr b hb)
 prM:=fun b hb o=>(q.old b (Nat.lt_of_lt_of_le (B.lt b hb) h.size) o).trans (h.prM b hb o)
 m:=fun b o x hx=>by
  rcases Nat.lt_or_ge b w.heap.size with hb|hb
  ·rw [q.old b hb] at hx;exact(oV (q.aBr b hb)).trans (h.m b o x hx)
  ·exact q.new b o x hb hx
 l:=fun ℓ b hl=>by rw [q.L] at hl;exact⟨(h.l ℓ b hl).1,Nat.lt_of_lt_of_le (h.l ℓ b hl).2.1 q.size,(h.l ℓ b hl).2.2⟩
 inj:=fun ℓ ℓ' b hl hl'=>by rw [q.L] at hl hl';exact h.inj _ _ _ hl hl'
 blk:=fun ℓ b o k hl ho hk=>by
  rw [q.L] at hl;have hlt:=(h.l ℓ b hl).2.1;rw [q.aBr b hlt] at ho;refine(h.blk ℓ b o k hl ho hk).mono q.le fun cs hc j=> ?_;rw [q.old b hlt];have:=h.blk ℓ b o k hl ho hk;subst hc;obtain⟨_,_,_,_,h3,_⟩:=this;exact h3 rfl j
 tok:=fun t n ht=>by
  obtain⟨b,c,sz,k⟩:=h.tok t n ht;exact⟨b,c,sz,by rw [q.H];exact k.h,k.np,Nat.lt_of_lt_of_le k.lt q.size,by rw [q.aBr b k.lt];exact k.blk,k.szp,k.nc,k.cm,fun j hj=>by rw [q.old b k.lt];exact k.m j hj,fun ℓ=>by rw [q.L];exact k.l ℓ⟩
 lX:=fun t t' n n' b c sz c' sz' h1 h2 h3 h4=>by rw [q.H] at h3 h4;exact h.lX t t' n n' b c sz c' sz' h1 h2 h3 h4
 hh:=fun t n x hx=>by rw [q.H] at hx;exact h.hh t n x hx
 tot:=fun ℓ hℓ=>by rw [q.L];exact h.tot ℓ hℓ
theorem Inv.aIY(h:Inv P B G s w)(vs:List Value)(e:TypeId)(fr:Nat×Nat)(hi:Nat):uS G w (G.kL w.heap.size 0 hi vs) (w.alloc (.cells vs.toArray e fr)) where
 le:=h.pC hi vs
 L:=fun _=>rfl
 H:=fun _ _=>rfl
 os:=rfl
 tape:=rfl
 output:=rfl
 size:=by simp
 aBr:=fun b hb=>sK (Nat.ne_of_lt hb)
 old:=fun b hb o=>wI (Nat.ne_of_lt hb)
 new:=fun b o x hb hx=>(h.aMl vs e fr hi).m b o x hx
end
def aRr{α:Type}(v:AV)(k:AV→α):α:=
 match v with
 | .int a b=>k (.int a b)| .bool b=>k (.bool b)| .str s=>k (.str s)| .slice a b c=>k (.slice a b c)| .cE a b c d e=>k (.cE a b c d e)
 | .agg cs=>k (.agg cs)| .tuple vs=>k (.tuple vs)| .dO=>k .dO| .ptr a b=>k (.ptr a b)| .aF v o=>k (.aF v o)| .func a b c=>k (.func a b c)
 | .cZ=>k .cZ| .yield l=>k (.yield l)| .map l=>k (.map l)| .dX=>k .dX| .iface a b=>k (.iface a b)| .bU=>k .bU| .iter l=>k (.iter l)| .lU=>k .lU
theorem aPt{α:Type}(v:AV)(k:AV→α):aRr v k=k v:=by cases v<;>rfl
def aMD{α:Type}(e:Env)(d:Option Nat)(v:AV)(k:Env→α):α:=match d with|none=>k e|some i=>k (upd e i v)
theorem aER{α:Type}(e:Env)(d:Option Nat)(v:AV)(k:Env→α):aMD e d v k=k (eU e d v):=by cases d<;>rfl
def aKg{α:Type}(d:Option Nat)(pd:List (Nat×Nat))(k:List (Nat×Nat)→α):α:=match pd with| []=>k []|x::xs=>k (aK d (x::xs))
theorem aIf{α:Type}(d:Option Nat)(pd:List (Nat×Nat))(k:List (Nat×Nat)→α):aKg d pd k=k (aK d pd):=by
 cases pd with
 |nil=>cases d<;>rfl
 |cons x xs=>rfl
def aRn{α:Type}(s:ASt)(k:ASt→α):α:=match s with|⟨b,t,lb,lt⟩=>k ⟨b,t,lb,lt⟩
structure Now where
 pd:List (Nat×Nat)
 e:Env
 ds:List hY
 s:ASt
def aEL(see:Bool)(d:Option Nat)(pd:List (Nat×Nat))(e:Env)(ds:List hY)(v:AV)(s:ASt):Option Now:=
 match see with
 |true=>aRr v fun v=>aKg d pd fun pd=>aMD e d v fun e=>some ⟨pd,e,ds,s⟩
 |false=>aKg d pd fun pd=>aMD e d v fun e=>some ⟨pd,e,ds,s⟩
theorem aPq(see:Bool)(d:Option Nat)(pd:List (Nat×Nat))(e:Env)(ds:List hY)(v:AV)(s:ASt):aEL see d pd e ds v s=some ⟨aK d pd,eU e d v,ds,s⟩:=by
 cases see<;>simp only [aEL,aPt,aIf,aER]
def stU(see:Bool)(P:aS)(i:AI)(pd:List (Nat×Nat))(e:Env)(ds:List hY)(s:ASt):Option Now:=
 match wanted e i.gd with
 |none=>none
 |some false=>aKg i.d pd fun pd=>aMD e i.d fA fun e=>some ⟨pd,e,ds,s⟩
 |some true=>
  match i.op with
  | .pend z=>match i.d with|some d=>some ⟨(d,z.length)::aK (some d) pd,upd e d .lU,ds,s⟩|none=>none
  | .shut d sz x=>
   match i.d,gP (evO P e x) with
   |none,some v=>match decide ((cellsOf v).length=sz),pd.any (fun p=>Nat.beq p.1 d&&Nat.beq p.2 sz) with|true,true=>some ⟨aK (some d) pd,upd e d (.aF v 0),ds,s⟩|_,_=>none
   |_,_=>none
  | .defer f args=>
   match evO P e f,dL (args.map (evO P e)) with
   | .func g a b,some vs=>aMD e i.d fA fun e=>some ⟨aK i.d pd,e,.call g (a++vs++b)::ds,s⟩
   |_,_=>none
  | .panic _=>none
  | .aW .. =>none
  | .call .. =>none
  | .mv x=>aEL see i.d pd e ds (evO P e x) s
  |op=>
   match bJ P e op with
   |some v=>aEL see i.d pd e ds v s
   |none=>match fS P e s op with
    |some v=>aEL see i.d pd e ds v s
    |none=>match eD P e s op with
     |some (v,s1)=>aRn s1 fun s1=>aEL see i.d pd e ds v s1
     |none=>none
section
variable {H : Handler} {P : aS} {i : AI} {rest : List AI} {pd pd' : List (Nat × Nat)} {e e' : Env} {ds ds' : List hY} {s s' : ASt} {Q : pM → Prop}
theorem aMk{see:Bool}(h:stU see P i pd e ds s=some ⟨pd',e',ds',s'⟩):bG H P (i::rest) pd ⟨e,ds⟩ s=bG H P rest pd' ⟨e',ds'⟩ s':=by
 obtain⟨d,op,gd,pre⟩:=i;cases hw:wanted e gd with
 |none=>simp [stU,hw] at h
 |some b=>
  cases b with
  |false=>
   simp only [stU,hw,aIf,aER,Option.some.injEq,Now.mk.injEq] at h;obtain⟨rfl,rfl,rfl,rfl⟩:=h;simp only [bG,hw]
  |true=>
   cases hp:plainO op with
   |true=>
    have key:stU see P ⟨d,op,gd,pre⟩ pd e ds s=(match cX P e s op with|some (v,s1)=>some ⟨aK d pd,eU e d v,ds,s1⟩|none=>none):=by
     have gen:(match bJ P e op with
      |some v=>aEL see d pd e ds v s
      |none=>match fS P e s op with
       |some v=>aEL see d pd e ds v s
       |none=>match eD P e s op with
        |some (v,s1)=>aRn s1 fun s1=>aEL see d pd e ds v s1
        |none=>none)=(match cX P e s op with|some (v,s1)=>some ⟨aK d pd,eU e d v,ds,s1⟩|none=>none):=by
      unfold cX;simp only [aPq];cases bJ P e op with
      |some v=>rfl
      |none=>cases fS P e s op with
       |some v=>rfl
       |none=>cases eD P e s op with
        |none=>rfl
        |some x=>rfl
     rw [←gen];simp only [stU,hw];cases op<;>first|rfl|(simp [plainO] at hp)
    rw [key] at h;cases hs:cX P e s op with
    |none=>rw [hs] at h;cases h
    |some x=>
     rw [hs] at h;cases h;exact vW hp hw hs
   |false=>
    cases op<;>first|(simp [plainO] at hp;done)|skip
    case pend z=>
     cases d with
     |none=>simp [stU,hw] at h
     |some d=>
      simp only [stU,hw,Option.some.injEq,Now.mk.injEq] at h;obtain⟨rfl,rfl,rfl,rfl⟩:=h;simp only [bG,hw]
    case shut d0 sz x=>
     cases d with
     |some d=>simp [stU,hw] at h
     |none=>
      simp only [stU,hw] at h;cases hf:gP (evO P e x) with
      |none=>simp [hf] at h
      |some v=>
       simp only [hf] at h;split at h
       ·rename_i h1 h2;cases h;simp only [bG,hw,hf];rw [if_pos (by rw [h1,h2];rfl)]
       ·cases h
    case defer f args=>
     simp only [stU,hw] at h;split at h
     ·rename_i h1 h2;rw [aER] at h;cases h;simp only [bG,hw,h1,h2]
     ·cases h
    case panic x=>simp [stU,hw] at h
    case aW st f args=>simp [stU,hw] at h
    case call f args=>simp [stU,hw] at h
theorem wu(h:stU true P i pd e ds s=some ⟨pd',e',ds',s'⟩)(k:Wo P rest pd' ⟨e',ds'⟩ s' Q):Wo P (i::rest) pd ⟨e,ds⟩ s Q:=
 ⟨k.ev.congr fun _=>aMk h⟩
theorem wv(h:stU false P i pd e ds s=some ⟨pd',e',ds',s'⟩)(k:Wo P rest pd' ⟨e',ds'⟩ s' Q):Wo P (i::rest) pd ⟨e,ds⟩ s Q:=
 ⟨k.ev.congr fun _=>aMk h⟩
end
section
variable {P : aS} {e : Env} {ds : List hY} {s s1 : ASt} {Q : pM → Prop} {d : Nat} {rest : List AI} {pre : List Nat} {v : AV}
theorem wg{op:AOp}{gd:Option (Nat×Bool)}(hp:plainO op=true)(hg:wanted e gd=some true)(h:cX P e s op=some (v,s1))(k:Wo P rest [] ⟨upd e d v,ds⟩ s1 Q):Wo P (⟨some d,op,gd,pre⟩::rest) [] ⟨e,ds⟩ s Q:=
 aSC (d':=some d) hp hg h k
end
theorem aKd(t:List UInt8):(⟨t.toArray⟩:ByteArray).size=t.length:=by simp [ByteArray.size]
theorem aOi{t:List UInt8}{pos:Nat}{b:UInt8}(h:t[pos]?=some b)(hb:b.toNat<128):Utf8.decode ⟨t.toArray⟩ pos=(b.toNat,1):=by
 have hp:pos<t.length:=(List.getElem?_eq_some_iff.1 h).1;have hget:(⟨t.toArray⟩:ByteArray)[pos]'(by rw [aKd];exact hp)=b:=by
  have:=(List.getElem?_eq_some_iff.1 h).2;simpa [ByteArray.getElem_eq_getElem_data] using this
 have:=decode_ascii ⟨t.toArray⟩ pos (by rw [aKd];exact hp) (by rw [hget];exact hb);rw [this,hget]
theorem aMV{t:List UInt8}{pos:Nat}{b:UInt8}(h:t[pos]?=some b)(hb: ¬b.toNat<128):128≤(Utf8.decode ⟨t.toArray⟩ pos).1:=by
 have hp:pos<t.length:=(List.getElem?_eq_some_iff.1 h).1;have hget:(⟨t.toArray⟩:ByteArray)[pos]'(by rw [aKd];exact hp)=b:=by
  have:=(List.getElem?_eq_some_iff.1 h).2;simpa [ByteArray.getElem_eq_getElem_data] using this
 exact(decode_high ⟨t.toArray⟩ pos (by rw [aKd];exact hp) (by rw [hget];omega)).1
theorem wrap_i64{n:Int}(h1: -9223372036854775808≤n)(h2:n<9223372036854775808):IntKind.wrap .i64 n=n:=by
 unfold IntKind.wrap;simp [IntKind.signed,IntKind.bits];split<;>omega
theorem aBY{e:Env}{i:Nat}{v:AV}(h:e i=v):upd e i v=e:=by
 funext j
 unfold upd;cases hb:Nat.beq j i with
 |true=>simp [Nat.eq_of_beq_eq_true hb,h]
 |false=>rfl
def bB(e:Env):List (Nat×AV)→Env
 | []=>e
 |(i,v)::r=>upd (bB e r) i v
inductive xG(e:Env):List (Nat×AV)→Prop
 |nil:xG e []
 |cons {i:Nat} {v:AV} {r:List (Nat×AV)} (h:e i=v) (t:xG e r):xG e ((i,v)::r)
theorem xG.bB{e:Env}{l:List (Nat×AV)}(h:xG e l):bB e l=e:=by
 induction h with
 |nil=>rfl
 |cons h _ ih=>simp only [Fw.bB,ih];exact aBY h
def Kept(S:List (Nat×AV))(ds:List hY)(s':ASt):cY→Fr→ASt→Prop:=fun ex f s=>ex= .normal∧s=s'∧f.ds=ds∧xG f.env S
theorem Kept.mk{S:List (Nat×AV)}{ds:List hY}{s:ASt}{f:Fr}(h1:f.ds=ds)(h2:xG f.env S):Kept S ds s .normal f s:=⟨rfl,rfl,h1,h2⟩
structure Hle(H H':Handler):Prop where
 call: ∀g a s r,H.call g a s=some r→H'.call g a s=some r
 dcall: ∀f a m s r,H.dcall f a m s=some r→H'.dcall f a m s=some r
section
variable {H H' : Handler} {P : aS}
theorem aB7{d':Option Nat}{op:AOp}{gd:Option (Nat×Bool)}{pre:List Nat}{rest:List AI}{pd:List (Nat×Nat)}{fr:Fr}{s:ASt}(hp:plainO op=true)(hg:wanted fr.env gd=some true):
  bG H P (⟨d',op,gd,pre⟩::rest) pd fr s=(match cX P fr.env s op with|some (v,s1)=>bG H P rest (aK d' pd) {fr with env:=eU fr.env d' v} s1|none=>none):=by
 have key:(match bJ P fr.env op with
    |some v=>bG H P rest (aK d' pd) {fr with env:=eU fr.env d' v} s
    |none=>
     match fS P fr.env s op with
     |some v=>bG H P rest (aK d' pd) {fr with env:=eU fr.env d' v} s
     |none=>
      match eD P fr.env s op with
      |some (v,s1)=>bG H P rest (aK d' pd) {fr with env:=eU fr.env d' v} s1
      |none=>none)=(match cX P fr.env s op with|some (v,s1)=>bG H P rest (aK d' pd) {fr with env:=eU fr.env d' v} s1|none=>none):=by
  unfold cX;cases bJ P fr.env op with
  |some x=>rfl
  |none=>cases fS P fr.env s op with
   |some x=>rfl
   |none=>rfl
 rw [←key];simp only [bG,hg];cases op<;>first|rfl|(simp [plainO] at hp)
theorem kU(hH:Hle H H'): ∀{is:List AI}{pd:List (Nat×Nat)}{fr:Fr}{s:ASt}{r:pM},bG H P is pd fr s=some r→bG H' P is pd fr s=some r
 | [],_,_,_,_,h=>h
 |⟨d',op,gd,pre⟩::rest,pd,fr,s,r,h=>by
  cases hw:wanted fr.env gd with
  |none=>simp [bG,hw] at h
  |some b=>
   cases b with
   |false=>
    simp only [bG,hw] at h⊢;exact kU hH h
   |true=>
    cases hp:plainO op with
    |true=>
     rw [aB7 hp hw] at h⊢;cases hs:cX P fr.env s op with
     |none=>rw [hs] at h;cases h
     |some x=>rw [hs] at h;exact kU hH h
    |false=>
     cases op<;>first|(simp [plainO] at hp;done)|skip
     case pend z=>
      cases d' with
      |none=>simp [bG,hw] at h
      |some d=>simp only [bG,hw] at h⊢;exact kU hH h
     case shut d sz x=>
      cases d' with
      |some d=>simp [bG,hw] at h
      |none=>
       cases hf:gP (evO P fr.env x) with
       |none=>simp [bG,hw,hf] at h
       |some v=>
        simp only [bG,hw,hf] at h⊢;split at h
        ·rename_i hc;rw [if_pos hc];exact kU hH h
        ·cases h
     case defer f args=>
      simp only [bG,hw] at h⊢;split at h
      ·rename_i h1 h2;(try simp only [h1,h2]);exact kU hH h
      ·cases h
     case panic x=>
      simp only [bG,hw] at h⊢;exact h
     case aW st f args=>
      simp only [bG,hw] at h⊢;split at h
      ·rename_i g a b vs h1 h2
       (try simp only [h1,h2])
       split at h
       ·rename_i v s2 h3 h4;simp only [hH.call _ _ _ _ h4]
        (try simp only [h3])
        split at h
        ·rename_i v' h5
         (try simp only [h5])
         split at h
         ·rename_i h6;(try simp only [h6]);exact kU hH h
         ·cases h
        ·cases h
       ·cases h
      ·cases h
     case call f args=>
      simp only [bG,hw] at h⊢;split at h
      ·rename_i g a b vs s1 h1 h2
       (try simp only [h1,h2])
       split at h
       ·rename_i v s2 h3;simp only [hH.call _ _ _ _ h3];exact kU hH h
       ·rename_i v s2 h3;simp only [hH.call _ _ _ _ h3];exact h
       ·cases h
      ·cases h
theorem uD{f f':Fr→ASt→Option CR}(hf: ∀fr s r,f fr s=some r→f' fr s=some r): ∀{k k':Nat}{fr:Fr}{s:ASt}{r:CR},k≤k'→mU f k fr s=some r→mU f' k' fr s=some r
 |0,_,_,_,_,_,h=>by simp [mU] at h
 |k+1,0,_,_,_,hk,_=>by omega
 |k+1,k'+1,fr,s,r,hk,h=>by
  simp only [mU] at h⊢;cases hs:f fr s with
  |none=>rw [hs] at h;cases h
  |some x=>
   rw [hs] at h;rw [hf _ _ _ hs];cases hx:x.ex with
   |normal=>simp only [hx] at h⊢;exact uD hf (by omega) h
   |exit i=>simp only [hx] at h⊢;exact h
   |ret=>simp only [hx] at h⊢;exact h
   |panic v=>simp only [hx] at h⊢;exact h
theorem eS(hH:Hle H H'){rd:Option Nat}{lf lf':Nat}(hl:lf≤lf'): ∀(c:AC){fr:Fr}{s:ASt}{r:CR},evC H P rd lf c fr s=some r→evC H' P rd lf' c fr s=some r
 | .skip,_,_,_,h=>h
 | .exit _,_,_,_,h=>h
 | .ret,_,_,_,h=>h
 | .scope b,fr,s,r,h=>by simp only [evC] at h⊢;exact eS hH hl b h
 | .reg _ ops,fr,s,r,h=>by
  simp only [evC] at h⊢;cases he:bG H P ops [] fr s with
  |none=>rw [he] at h;cases h
  |some x=>rw [he] at h;rw [kU hH he];exact h
 | .seq a b,fr,s,r,h=>by
  simp only [evC] at h⊢;cases he:evC H P rd lf a fr s with
  |none=>rw [he] at h;cases h
  |some x=>
   rw [he] at h;rw [eS hH hl a he];cases hx:x.ex with
   |normal=>simp only [hx] at h⊢;exact eS hH hl b h
   |exit i=>simp only [hx] at h⊢;exact h
   |ret=>simp only [hx] at h⊢;exact h
   |panic v=>simp only [hx] at h⊢;exact h
 | .cond c t e,fr,s,r,h=>by
  simp only [evC] at h⊢;split at h
  ·rename_i b hb
   (try simp only [hb])
   cases b with
   |true=>exact eS hH hl t h
   |false=>exact eS hH hl e h
  ·cases h
 | .block id b,fr,s,r,h=>by
  simp only [evC] at h⊢;cases he:evC H P rd lf b fr s with
  |none=>rw [he] at h;cases h
  |some x=>rw [he] at h;rw [eS hH hl b he];exact h
 | .loop b,fr,s,r,h=>by
  simp only [evC] at h⊢;exact uD (fun _ _ _=>eS hH hl b) hl h
 | .lY f params assign body,fr,s,r,h=>by
  simp only [evC] at h⊢;split at h
  ·rename_i l mark s1 g a b h1 h2
   (try simp only [h1,h2])
   split at h
   ·rename_i v s2 h3 h4;simp only [hH.call _ _ _ _ h4];(try simp only [h3]);exact h
   ·rename_i v s2 h3 h4;simp only [hH.call _ _ _ _ h4];(try simp only [h3]);exact h
   ·cases h
  ·cases h
theorem aFD(hH:Hle H H'){lf lf':Nat}(hl:lf≤lf'){l:Nat}{args:List AV}{s:ASt}{r:jM×ASt}(h:nM H P lf l args s=some r):nM H' P lf' l args s=some r:=by
 unfold nM at h⊢;split at h
 ·rename_i lp h1
  (try simp only [h1])
  split at h
  ·rename_i h2 h3
   (try simp only [h2,h3])
   split at h
   ·rename_i e1 s1 h4;simp only [eS hH hl _ h4];split at h
    ·rename_i s2 h5
     (try simp only [h5])
     split at h
     ·rename_i ex e2 s3 h6;simp only [eS hH hl _ h6];exact h
     ·cases h
    ·cases h
   ·cases h
  ·cases h
 ·cases h
theorem oQ(hH:Hle H H'): ∀{ds:List hY}{m:DM}{s:ASt}{r:DM×ASt},g7 H ds m s=some r→g7 H' ds m s=some r
 | [],_,_,_,h=>h
 | .mark l::ds,m,s,r,h=>by
  simp only [g7] at h⊢;split at h
  ·rename_i h1;(try simp only [h1]);exact oQ hH h
  ·cases h
 | .call f args::ds,m,s,r,h=>by
  simp only [g7] at h⊢;cases hd:H.dcall f args m s with
  |none=>rw [hd] at h;cases h
  |some x=>rw [hd] at h;rw [hH.dcall _ _ _ _ _ hd];exact oQ hH h
theorem aKA(hH:Hle H H'){lf lf':Nat}(hl:lf≤lf'){f:AF}{args:List AV}{s:ASt}{r:jM×ASt}(h:yU H P lf f args s=some r):yU H' P lf' f args s=some r:=by
 unfold yU at h⊢;split at h
 ·cases h
 ·rename_i h0;split at h
  ·rename_i ex fr s1 h1;simp only [eS hH hl _ h1];split at h
   ·rename_i m h2
    (try simp only [h2])
    split at h
    ·rename_i v s2 h3;simp only [oQ hH h3];exact h
    ·rename_i s2 h3;simp only [oQ hH h3];exact h
    ·cases h
   ·cases h
  ·cases h
theorem aM1(hH:Hle H H'){lf lf':Nat}(hl:lf≤lf'): ∀(c:AC){fr:Fr}{rc:RC}{s:ASt}{r:cY×Fr×RC×ASt},evD H P lf c fr rc s=some r→evD H' P lf' c fr rc s=some r:=by
 intro c
 induction c with
 |reg draw ops=>
  intro fr rc s r h;simp only [evD] at h⊢;split at h
  ·exact h
  ·split at h
   ·rename_i x he;rw [eS hH hl _ he];exact h
   ·cases h
 |seq a b iha ihb=>
  intro fr rc s r h;simp only [evD] at h⊢;split at h
  ·rename_i fr1 rc1 s1 h1;simp only [iha h1];exact ihb h
  ·rename_i hne;rw [iha h];split
   ·rename_i fr1 rc1 s1 h1;cases h1;exact absurd h (hne _ _ _)
   ·rfl
 |cond c t e iht ihe=>
  intro fr rc s r h;simp only [evD] at h⊢;split at h
  ·rename_i b hb
   (try simp only [hb])
   cases b with
   |true=>exact iht h
   |false=>exact ihe h
  ·cases h
 |skip=>
  intro fr rc s r h;simp only [evD] at h⊢;split at h
  ·rename_i x he;rw [eS hH hl _ he];exact h
  ·cases h
 |block id b _=>
  intro fr rc s r h;simp only [evD] at h⊢;split at h
  ·rename_i x he;rw [eS hH hl _ he];exact h
  ·cases h
 |loop b _=>
  intro fr rc s r h;simp only [evD] at h⊢;split at h
  ·rename_i x he;rw [eS hH hl _ he];exact h
  ·cases h
 |lY f p a b _ _=>
  intro fr rc s r h;simp only [evD] at h⊢;split at h
  ·rename_i x he;rw [eS hH hl _ he];exact h
  ·cases h
 |exit id=>
  intro fr rc s r h;simp only [evD] at h⊢;split at h
  ·rename_i x he;rw [eS hH hl _ he];exact h
  ·cases h
 |ret=>
  intro fr rc s r h;simp only [evD] at h⊢;split at h
  ·rename_i x he;rw [eS hH hl _ he];exact h
  ·cases h
 |scope b _=>
  intro fr rc s r h;simp only [evD] at h⊢;split at h
  ·rename_i x he;rw [eS hH hl _ he];exact h
  ·cases h
theorem aDG(hH:Hle H H'){lf lf':Nat}(hl:lf≤lf'){f:AF}{args:List AV}{m:DM}{s:ASt}{r:DM×ASt}(h:aBf H P lf f args m s=some r):aBf H' P lf' f args m s=some r:=by
 unfold aBf at h⊢;split at h
 ·cases h
 ·rename_i h0
  (try simp only [h0])
  split at h
  ·rename_i ex e rc s1 h1;simp only [aM1 hH hl _ h1];exact h
  ·cases h
theorem aCC: ∀{n m:Nat},n≤m→Hle (cH P n) (cH P m)
 |0,_,_=>⟨fun _ _ _ _ h=>by simp [cH] at h,fun _ _ _ _ _ h=>by simp [cH] at h⟩
 |n+1,0,h=>by omega
 |n+1,m+1,h=>by
  have ih:=aCC (show n≤m by omega);refine⟨fun g a s r hr=> ?_,fun f a d s r hr=> ?_⟩
  ·cases g with
   |func f=>
    simp only [cH] at hr⊢;cases hp:P.prim f with
    |some p=>simp only [hp] at hr⊢;exact hr
    |none=>
     simp only [hp] at hr⊢;cases hf:P.fn f with
     |none=>simp only [hf] at hr;cases hr
     |some af=>simp only [hf] at hr⊢;exact aKA ih (by omega) hr
   |yield l=>simp only [cH] at hr⊢;exact aFD ih (by omega) hr
  ·simp only [cH] at hr⊢;cases hf:P.fn f with
   |none=>simp only [hf] at hr;cases hr
   |some af=>simp only [hf] at hr⊢;exact aDG ih (by omega) hr
end
mutual
def iK (n:Nat):AV→Bool
 | .int .. | .bool .. | .str .. | .dO| .cZ| .dX| .bU| .lU=>true
 | .slice _ xs _=>gM n xs
 | .cE l .. =>Nat.blt l n
 | .ptr l _| .yield l| .map l| .iter l=>Nat.blt l n
 | .agg cs=>gM n cs
 | .tuple vs=>gM n vs
 | .aF v _=>iK n v
 | .func _ a b=>gM n a&&gM n b
 | .iface _ v=>iK n v
def gM (n:Nat):List AV→Bool
 | []=>true
 |x::xs=>iK n x&&gM n xs
end
mutual
def jJ (n:Nat):AV→Bool
 | .int .. | .bool .. | .str .. | .dO| .cZ| .dX| .bU| .lU| .cE .. | .ptr .. | .yield _| .map _| .iter _=>true
 | .slice _ xs o=>(match o with| .tok t=>Nat.blt t n|_=>true)&&gH n xs
 | .agg cs=>gH n cs
 | .tuple vs=>gH n vs
 | .aF v _=>jJ n v
 | .func _ a b=>gH n a&&gH n b
 | .iface _ v=>jJ n v
def gH (n:Nat):List AV→Bool
 | []=>true
 |x::xs=>jJ n x&&gH n xs
end
mutual
theorem aBM (n:Nat): ∀v:AV,m9 v=false→iK n v=true
 | .int ..,_| .bool ..,_| .str ..,_| .dO,_| .cZ,_| .dX,_| .bU,_| .lU,_=>rfl
 | .slice _ xs _,h=>pB n xs (by simpa [m9] using h)
 | .cE ..,h| .ptr ..,h| .yield _,h| .map _,h| .iter _,h=>by simp [m9] at h
 | .agg cs,h=>pB n cs (by simpa [m9] using h)
 | .tuple vs,h=>pB n vs (by simpa [m9] using h)
 | .aF v _,h=>aBM n v (by simpa [m9] using h)
 | .func _ a b,h=>by
  simp only [m9,Bool.or_eq_false_iff] at h;simp [iK,pB n a h.1,pB n b h.2]
 | .iface _ v,h=>aBM n v (by simpa [m9] using h)
theorem pB (n:Nat): ∀xs:List AV,iO xs=false→gM n xs=true
 | [],_=>rfl
 |x::xs,h=>by
  simp only [iO,Bool.or_eq_false_iff] at h;simp [gM,aBM n x h.1,pB n xs h.2]
end
mutual
theorem aBI (n:Nat): ∀v:AV,toks v=false→jJ n v=true
 | .int ..,_| .bool ..,_| .str ..,_| .dO,_| .cZ,_| .dX,_| .bU,_| .lU,_| .cE ..,_| .ptr ..,_| .yield _,_| .map _,_| .iter _,_=>rfl
 | .slice _ xs o,h=>by
  cases o with
  |tok t=>simp [toks] at h
  |no=>simpa [jJ] using kY n xs (by simpa [toks] using h)
  |full=>simpa [jJ] using kY n xs (by simpa [toks] using h)
 | .agg cs,h=>kY n cs (by simpa [toks] using h)
 | .tuple vs,h=>kY n vs (by simpa [toks] using h)
 | .aF v _,h=>aBI n v (by simpa [toks] using h)
 | .func _ a b,h=>by
  simp only [toks,Bool.or_eq_false_iff] at h;simp [jJ,kY n a h.1,kY n b h.2]
 | .iface _ v,h=>aBI n v (by simpa [toks] using h)
theorem kY (n:Nat): ∀xs:List AV,kH xs=false→gH n xs=true
 | [],_=>rfl
 |x::xs,h=>by
  simp only [kH,Bool.or_eq_false_iff] at h;simp [gH,aBI n x h.1,kY n xs h.2]
end
def aC8(n:Nat):cQ→Prop
 | .cells cs _=>gM n cs=true
 | .map es=> ∀p∈es,iK n p.1=true∧iK n p.2=true
 | .loop lp=>(∀i,iK n (lp.env i)=true)∧lp.dq<n
 |_=>True
def aDo(n:Nat):cQ→Prop
 | .cells cs _=>gH n cs=true
 | .map es=> ∀p∈es,jJ n p.1=true∧jJ n p.2=true
 | .loop lp=> ∀i,jJ n (lp.env i)=true
 |_=>True
structure Low(s s':ASt):Prop where
 aBc:s.blks.length≤s'.blks.length
 aBe:s.toks.length≤s'.toks.length
 B: ∀n,n≤s.blks.length→cI n s'.lowB=false→cI n s.lowB=false∧ ∀l k',l<n→s'.blks[l]?=some k'→ ∀k,s.blks[l]?=some k→aC8 n k→aC8 n k'
 T: ∀n,n≤s.blks.length→cI n s'.lowT=false→cI n s.lowT=false∧ ∀m l k',l<n→s'.blks[l]?=some k'→ ∀k,s.blks[l]?=some k→aDo m k→aDo m k'
theorem Low.refl(s:ASt):Low s s:=⟨Nat.le_refl _,Nat.le_refl _,fun _ _ h=>⟨h,fun _ _ _ h1 _ h2 h=>by rw [h1] at h2;cases h2;exact h⟩,fun _ _ h=>⟨h,fun _ _ _ _ h1 _ h2 h=>by rw [h1] at h2;cases h2;exact h⟩⟩
theorem Low.trans{a b c:ASt}(h:Low a b)(k:Low b c):Low a c where
 aBc:=Nat.le_trans h.aBc k.aBc
 aBe:=Nat.le_trans h.aBe k.aBe
 B:=fun n hn hl=>by
  obtain⟨h1,h2⟩:=k.B n (Nat.le_trans hn h.aBc) hl;obtain⟨h3,h4⟩:=h.B n hn h1;refine⟨h3,fun l k' hl hk' k0 hk0 hb=> ?_⟩;have hlb:l<b.blks.length:=Nat.lt_of_lt_of_le (Nat.lt_of_lt_of_le hl hn) h.aBc;exact h2 l k' hl hk' _ (List.getElem?_eq_getElem hlb) (h4 l _ hl (List.getElem?_eq_getElem hlb) k0 hk0 hb)
 T:=fun n hn hl=>by
  obtain⟨h1,h2⟩:=k.T n (Nat.le_trans hn h.aBc) hl;obtain⟨h3,h4⟩:=h.T n hn h1;refine⟨h3,fun m l k' hl hk' k0 hk0 hb=> ?_⟩;have hlb:l<b.blks.length:=Nat.lt_of_lt_of_le (Nat.lt_of_lt_of_le hl hn) h.aBc;exact h2 m l k' hl hk' _ (List.getElem?_eq_getElem hlb) (h4 m l _ hl (List.getElem?_eq_getElem hlb) k0 hk0 hb)
theorem Low.append{s:ASt}(ks:List cQ)(ts:List Nat):Low s {s with blks:=s.blks++ks,toks:=s.toks++ts} where
 aBc:=by simp
 aBe:=by simp
 B:=fun n hn hl=>⟨hl,fun l k' h1 h2 k h3 h=>by rw [List.getElem?_append_left (by omega),h3] at h2;cases h2;exact h⟩
 T:=fun n hn hl=>⟨hl,fun m l k' h1 h2 k h3 h=>by rw [List.getElem?_append_left (by omega),h3] at h2;cases h2;exact h⟩
theorem Low.set{s:ASt}{l:Nat}{k1 k2:cQ}(h:s.blks[l]?=some k1)(hB: ∀n,aC8 n k1→aC8 n k2)(hT: ∀n,aDo n k1→aDo n k2):Low s {s with blks:=s.blks.set l k2} where
 aBc:=by simp
 aBe:=Nat.le_refl _
 B:=fun n hn hl=>⟨hl,fun j k' h1 h2 k h3 hb=>by
  by_cases q:l=j
  ·subst q;rw [h] at h3;cases h3;have hlt:l<s.blks.length:=(List.getElem?_eq_some_iff.1 h).1;rw [List.getElem?_set_self hlt] at h2;cases h2;exact hB _ hb
  ·rw [List.getElem?_set_ne q,h3] at h2;cases h2;exact hb⟩
 T:=fun n hn hl=>⟨hl,fun m j k' h1 h2 k h3 hb=>by
  by_cases q:l=j
  ·subst q;rw [h] at h3;cases h3;have hlt:l<s.blks.length:=(List.getElem?_eq_some_iff.1 h).1;rw [List.getElem?_set_self hlt] at h2;cases h2;exact hT _ hb
  ·rw [List.getElem?_set_ne q,h3] at h2;cases h2;exact hb⟩
theorem aGz{b:Bool}{l n:Nat}{o:Option Nat}(h:cI n (low b l o)=false):cI n o=false∧(l<n→b=false):=by
 unfold low at h;cases o with
 |none=>
  cases b with
  |true=>simp [cI] at h;exact⟨rfl,fun q=>by omega⟩
  |false=>exact⟨rfl,fun _=>rfl⟩
 |some m=>
  cases b with
  |true=>simp [cI] at h⊢;omega
  |false=>exact⟨h,fun _=>rfl⟩
theorem Low.lA{s:ASt}{l:Nat}{k1 k2:cQ}{cs:List AV}(h:s.blks[l]?=some k1)(hB: ∀n,gM n cs=true→aC8 n k1→aC8 n k2)(hT: ∀n,gH n cs=true→aDo n k1→aDo n k2):
  Low s (Fw.lA s l cs (s.blks.set l k2)) where
 aBc:=by simp [Fw.lA]
 aBe:=Nat.le_refl _
 B:=fun n hn hl=>by
  obtain⟨h1,h2⟩:=aGz hl;refine⟨h1,fun j k' hj hk' k hk hb=> ?_⟩;simp only [Fw.lA] at hk';by_cases q:l=j
  ·subst q;rw [h] at hk;cases hk;have hlt:l<s.blks.length:=(List.getElem?_eq_some_iff.1 h).1;rw [List.getElem?_set_self hlt] at hk';cases hk';exact hB _ (pB _ _ (h2 hj)) hb
  ·rw [List.getElem?_set_ne q,hk] at hk';cases hk';exact hb
 T:=fun n hn hl=>by
  obtain⟨h1,h2⟩:=aGz hl;refine⟨h1,fun m j k' hj hk' k hk hb=> ?_⟩;simp only [Fw.lA] at hk';by_cases q:l=j
  ·subst q;rw [h] at hk;cases hk;have hlt:l<s.blks.length:=(List.getElem?_eq_some_iff.1 h).1;rw [List.getElem?_set_self hlt] at hk';cases hk';exact hT _ (kY _ _ (h2 hj)) hb
  ·rw [List.getElem?_set_ne q,hk] at hk';cases hk';exact hb
theorem tW{n:Nat}: ∀{xs ys:List AV},gM n (xs++ys)=(gM n xs&&gM n ys)
 | [],ys=>by simp [gM]
 |x::xs,ys=>by simp [gM,tW (xs:=xs),Bool.and_assoc]
theorem uJ{n:Nat}: ∀{xs ys:List AV},gH n (xs++ys)=(gH n xs&&gH n ys)
 | [],ys=>by simp [gH]
 |x::xs,ys=>by simp [gH,uJ (xs:=xs),Bool.and_assoc]
theorem aDN{n:Nat}{xs ys:List AV}(h: ∀x∈ys,x∈xs)(k:gM n xs=true):gM n ys=true:=by
 have h1: ∀{l:List AV},gM n l=true↔ ∀x∈l,iK n x=true:=by
  intro l;induction l with
  |nil=>simp [gM]
  |cons a l ih=>simp [gM,ih]
 rw [h1] at*;exact fun x hx=>k x (h x hx)
theorem aDL{n:Nat}{xs ys:List AV}(h: ∀x∈ys,x∈xs)(k:gH n xs=true):gH n ys=true:=by
 have h1: ∀{l:List AV},gH n l=true↔ ∀x∈l,jJ n x=true:=by
  intro l;induction l with
  |nil=>simp [gH]
  |cons a l ih=>simp [gH,ih]
 rw [h1] at*;exact fun x hx=>k x (h x hx)
theorem uB{n:Nat}{cs ds:List AV}{off:Nat}(h:gM n cs=true)(k:gM n ds=true):gM n (fO cs off ds)=true:=by
 unfold fO;rw [tW,tW,Bool.and_eq_true,Bool.and_eq_true];exact⟨⟨aDN (fun x hx=>List.mem_of_mem_take hx) h,k⟩,aDN (fun x hx=>List.mem_of_mem_drop hx) h⟩
theorem uN{n:Nat}{cs ds:List AV}{off:Nat}(h:gH n cs=true)(k:gH n ds=true):gH n (fO cs off ds)=true:=by
 unfold fO;rw [uJ,uJ,Bool.and_eq_true,Bool.and_eq_true];exact⟨⟨aDL (fun x hx=>List.mem_of_mem_take hx) h,k⟩,aDL (fun x hx=>List.mem_of_mem_drop hx) h⟩
theorem aCv{k v:AV}: ∀{es es':List (AV×AV)},aCq k v es=some es'→ ∀p∈es',p=(k,v)∨p∈es
 | [],es',h=>by simp [aCq] at h;subst h;simp
 |(a,u)::rest,es',h=>by
  simp only [aCq] at h;split at h
  ·cases h;intro p hp;rcases List.mem_cons.1 hp with rfl|hp
   ·exact .inl rfl
   ·exact .inr (by simp [hp])
  ·split at h
   ·rename_i r hr;cases h;intro p hp;rcases List.mem_cons.1 hp with rfl|hp
    ·exact .inr (by simp)
    ·rcases aCv hr p hp with q|q
     ·exact .inl q
     ·exact .inr (by simp [q])
   ·cases h
  ·cases h
theorem aEa{kk:KK}{k:AV}(h:keyOf kk k=true)(n:Nat):iK n k=true∧jJ n k=true:=by
 cases kk<;>cases k<;>simp [keyOf] at h<;>exact⟨rfl,rfl⟩
section
variable {P : aS} {e : Env} {s s1 : ASt} {v : AV}
theorem aNM{op:AOp}(h:eD P e s op=some (v,s1)):Low s s1:=by
 cases op with
 |box x=>
  simp only [eD] at h;split at h
  ·cases h;simpa using Low.append (s:=s) [_] []
  ·cases h
 |alloc z=>simp only [eD] at h;cases h;simpa using Low.append (s:=s) [_] []
 |store sz a x=>
  simp only [eD] at h;split at h
  ·split at h
   ·rename_i l off _ cs hb;split at h
    ·cases h;exact Low.lA hb (fun n h1 h2=>uB h2 h1) (fun n h1 h2=>uN h2 h1)
    ·cases h
   ·cases h
  ·cases h
 |mkMap=>simp only [eD] at h;cases h;simpa using Low.append (s:=s) [_] []
 |mkSlice esz bytes z l c=>
  simp only [eD] at h;split at h
  ·split at h
   ·cases h;simpa using Low.append (s:=s) [_] []
   ·cases h
  ·cases h
 |kM kk m k x=>
  simp only [eD] at h;split at h
  ·split at h
   ·rename_i l xv _ hx es hb;split at h
    ·rename_i hkey;split at h
     ·rename_i es' hp;cases h;refine Low.lA hb (fun n h1 h2=> ?_) (fun n h1 h2=> ?_)
      ·intro p hp';rcases aCv hp p hp' with q|q
       ·rw [q];exact⟨(aEa hkey n).1,by simpa [gM] using h1⟩
       ·exact h2 p q
      ·intro p hp';rcases aCv hp p hp' with q|q
       ·rw [q];exact⟨(aEa hkey n).2,by simpa [gH] using h1⟩
       ·exact h2 p q
     ·cases h
    ·cases h
   ·cases h
  ·cases h
 |mA x=>
  simp only [eD] at h;split at h
  ·cases h;simpa using Low.append (s:=s) [_] []
  ·cases h
 |mH it=>
  simp only [eD] at h;split at h
  ·split at h
   ·rename_i l _ t pos hb;split at h
    ·cases h;exact Low.set hb (fun _ _=>trivial) (fun _ _=>trivial)
    ·cases h;exact .refl _
   ·cases h
  ·cases h
 |append tk esz bytes a x=>
  simp only [eD] at h;split at h
  ·cases h
  split at h
  ·split at h
   ·cases h;exact .refl _
   ·cases h;exact .refl _
   ·cases h
  ·split at h
   ·split at h
    ·split at h
     ·cases h;simpa using Low.append (s:=s) [] [_]
     ·split at h
      ·split at h
       ·cases h;exact⟨Nat.le_refl _,by simp,(Low.refl s).B,(Low.refl s).T⟩
       ·cases h
      ·cases h
     ·cases h
    ·cases h
   ·split at h
    ·split at h
     ·split at h
      ·rename_i hb;split at h
       ·cases h;exact Low.lA hb (fun n h1 h2=>uB h2 h1) (fun n h1 h2=>uN h2 h1)
       ·cases h
      ·cases h
     ·split at h
      ·cases h;simpa using Low.append (s:=s) [] [_]
      ·cases h
    ·cases h
   ·cases h
  ·cases h
 |copy esz d x=>
  simp only [eD] at h;split at h
  ·split at h
   ·rename_i hb;split at h
    ·cases h;exact Low.lA hb (fun n h1 h2=>uB h2 h1) (fun n h1 h2=>uN h2 h1)
    ·cases h
   ·cases h
  ·cases h
 |_=>simp [eD] at h
theorem aGv{a a':AV}(h:aC4 s a=some (a',s1)):Low s s1:=by
 unfold aC4 at h;split at h
 ·split at h
  ·rename_i hb;cases h;exact Low.set hb (fun _ h=>h) (fun _ h=>h)
  ·cases h
 ·split at h
  ·cases h;exact .refl _
  ·cases h
theorem wK: ∀{a_ as':List AV}{s s1:ASt},rL s a_=some (as',s1)→Low s s1
 | [],as',s,s1,h=>by simp [rL] at h;rw [←h.2];exact .refl _
 |a::a_,as',s,s1,h=>by
  simp only [rL] at h;split at h
  ·cases h
  ·rename_i y s2 hy;split at h
   ·cases h
   ·rename_i ys s3 hys;cases h;exact(aGv hy).trans (wK hys)
structure aPg(H:Handler):Prop where
 call: ∀g args s r s',H.call g args s=some (r,s')→Low s s'
 dcall: ∀f args m s m' s',H.dcall f args m s=some (m',s')→Low s s'
variable {H : Handler} (hH : aPg H)
def aR6:pM→ASt
 | .norm _ s=>s
 | .pan _ _ s=>s
include hH in
theorem jQ: ∀{is:List AI}{pd:List (Nat×Nat)}{fr:Fr}{s:ASt}{r:pM},bG H P is pd fr s=some r→Low s (aR6 r)
 | [],pd,fr,s,r,h=>by simp [bG] at h;subst h;exact .refl _
 |i::rest,pd,fr,s,r,h=>by
  obtain⟨d,op,gd,pre⟩:=i;simp only [bG] at h;split at h
  ·cases h
  ·exact jQ h
  ·cases op with
   |pend z=>simp only at h;split at h<;>first|exact jQ h|cases h
   |shut d' sz x=>
    simp only at h;split at h
    ·split at h
     ·exact jQ h
     ·cases h
    ·cases h
   |defer f args=>simp only at h;split at h<;>first|exact jQ h|cases h
   |panic x=>simp only at h;split at h<;>cases h;exact .refl _
   |aW st f args=>
    simp only at h;split at h
    ·split at h
     ·split at h
      ·split at h
       ·exact jQ h
       ·cases h
      ·cases h
     ·cases h
    ·cases h
   |call f args=>
    simp only at h;split at h
    ·rename_i hvs;split at h
     ·rename_i hc;exact((wK hvs).trans (hH.call _ _ _ _ _ hc)).trans (jQ h)
     ·rename_i hc;cases h;exact(wK hvs).trans (hH.call _ _ _ _ _ hc)
     ·cases h
    ·cases h
   |_=>
    simp only at h;split at h
    ·exact jQ h
    ·split at h
     ·exact jQ h
     ·split at h
      ·rename_i hw;exact(aNM hw).trans (jQ h)
      ·cases h
theorem aAV{rd:Option Nat}{ps:List Nat}{a_ bd:AC}{fr:Fr}{l:Nat}{mk:List hY}(h:qC rd ps a_ bd fr s=some (l,mk,s1)):Low s s1:=by
 unfold qC at h;split at h
 ·cases h;simpa using Low.append (s:=s) [_,_] []
 ·split at h
  ·cases h;simpa using Low.append (s:=s) [_] []
  ·cases h
theorem aDH{step:Fr→ASt→Option CR}(hs: ∀fr s r,step fr s=some r→Low s r.s): ∀{n:Nat}{fr:Fr}{s:ASt}{r:CR},mU step n fr s=some r→Low s r.s
 |0,_,_,_,h=>by simp [mU] at h
 |n+1,fr,s,r,h=>by
  simp only [mU] at h;split at h
  ·rename_i r1 h1;split at h
   ·exact(hs _ _ _ h1).trans (aDH hs h)
   ·cases h;exact hs _ _ _ h1
  ·cases h
include hH in
theorem wR{lf:Nat}{rd:Option Nat}: ∀(c:AC){fr:Fr}{s:ASt}{r:CR},evC H P rd lf c fr s=some r→Low s r.s:=by
 intro c
 induction c with
 |skip=>intro fr s r h;simp only [evC,Option.some.injEq] at h;subst h;exact .refl _
 |ret=>intro fr s r h;simp only [evC,Option.some.injEq] at h;subst h;exact .refl _
 |exit id=>intro fr s r h;simp only [evC,Option.some.injEq] at h;subst h;exact .refl _
 |scope b ih=>intro fr s r h;simp only [evC] at h;exact ih h
 |reg dr ops=>
  intro fr s r h;simp only [evC] at h;split at h
  ·rename_i ho;cases h;exact jQ hH ho
  ·rename_i ho;cases h;exact jQ hH ho
  ·cases h
 |seq a b iha ihb=>
  intro fr s r h;simp only [evC] at h;split at h
  ·rename_i r1 h1;split at h
   ·exact(iha h1).trans (ihb h)
   ·cases h;exact iha h1
  ·cases h
 |cond c t e iht ihe=>
  intro fr s r h;simp only [evC] at h;split at h
  ·split at h
   ·exact iht h
   ·exact ihe h
  ·cases h
 |block id b ih=>
  intro fr s r h;simp only [evC] at h;split at h
  ·rename_i r1 h1;split at h
   ·have hl:=ih h1;split at h<;>cases h<;>exact hl
   ·cases h;exact ih h1
  ·cases h
 |loop b ih=>intro fr s r h;simp only [evC] at h;exact aDH (fun _ _ _ h=>ih h) h
 |lY f ps a_ bd iha ihb=>
  intro fr s r h;simp only [evC] at h;split at h
  ·rename_i hl _;split at h
   ·rename_i hc;split at h
    ·rename_i lp hlp;split at h
     ·cases h
     ·cases h;exact((aAV hl).trans (hH.call _ _ _ _ _ hc)).trans (Low.set hlp (fun _ h=>h) (fun _ h=>h))
    ·cases h
   ·rename_i hc;cases h;exact(aAV hl).trans (hH.call _ _ _ _ _ hc)
   ·cases h
  ·cases h
theorem aA5{l:Nat}{f:uT→uT}(hf: ∀lp,(f lp).env=lp.env∧(f lp).dq=lp.dq)(h:dW s l f=some s1):Low s s1:=by
 unfold dW at h;split at h
 ·rename_i lp hlp;cases h;refine Low.set hlp (fun n h=> ?_) (fun n h=> ?_)
  ·simp only [aC8,(hf lp).1,(hf lp).2] at h⊢;exact h
  ·simp only [aDo,(hf lp).1] at h⊢;exact h
 ·cases h
theorem aEC{l:Nat}(h:iS s l=some s1):Low s s1:=by
 unfold iS at h;split at h
 ·rename_i lp hlp;split at h
  ·cases h;exact Low.set hlp (fun _ h=>h) (fun _ h=>h)
  ·cases h
 ·cases h
include hH in
theorem aIw{lf l:Nat}{args:List AV}{r:jM}{s':ASt}(h:nM H P lf l args s=some (r,s')):Low s s':=by
 unfold nM at h;split at h
 ·split at h
  ·split at h
   ·rename_i e1 s1 h1;split at h
    ·rename_i s2 h2;split at h
     ·rename_i ex _ s3 h3;have h12:=((wR hH _ h1).trans (aEC h2)).trans (wR hH _ h3);split at h
      ·cases h;exact h12
      ·split at h
       ·rename_i h4;cases h;exact h12.trans (aA5 (f:=fun lp=>{lp with st:= .ready,pend:=none}) (fun _=>⟨rfl,rfl⟩) h4)
       ·cases h
      ·split at h
       ·rename_i h4;cases h;exact h12.trans (aA5 (f:=fun lp=>{lp with st:= .done,pend:=some ex}) (fun _=>⟨rfl,rfl⟩) h4)
       ·cases h
     ·cases h
    ·cases h
   ·cases h
  ·cases h
 ·cases h
include hH in
theorem qM: ∀{ds:List hY}{m m':DM}{s s':ASt},g7 H ds m s=some (m',s')→Low s s'
 | [],m,m',s,s',h=>by simp [g7] at h;rw [←h.2];exact .refl _
 | .mark l::ds,m,m',s,s',h=>by
  simp only [g7] at h;split at h
  ·rename_i hl;exact(Low.set (s:=s) (k2:= .dead) hl (fun _ _=>trivial) (fun _ _=>trivial)).trans (qM h)
  ·cases h
 | .call f args::ds,m,m',s,s',h=>by
  simp only [g7] at h;split at h
  ·rename_i hc;exact(hH.dcall _ _ _ _ _ _ hc).trans (qM h)
  ·cases h
theorem aCZ{vs:List AV}(h:nE s vs=some (v,s1)):Low s s1:=by
 unfold nE at h;split at h
 ·cases h;exact .refl _
 ·exact aGv h
 ·split at h
  ·rename_i hf;cases h;exact wK hf
  ·cases h
theorem aAm{n:Nat}{a b:Option Nat}(h:cI n (aBT a b)=false):cI n a=false∧cI n b=false:=by
 cases a<;>cases b<;>simp [aBT,cI] at h⊢ <;>omega
theorem aBH{n m:Nat}{a:Option Nat}(hn:n≤m)(h:cI m a=false):cI n a=false:=by
 cases a<;>simp [cI] at h⊢;omega
theorem y2{n m:Nat}{a b:Option Nat}(hn:n≤m)(h:cI n (wN m a b)=false):cI n a=false∧cI n b=false:=by
 unfold wN at h;split at h
 ·exact aAm h
 ·rename_i hb;exact⟨h,aBH hn hb⟩
theorem Low.dE{s s':ASt}{d:Bool}(h:Low (aT s) s'):s.blks.length≤(dE s d s').blks.length∧(dE s d s').toks=s'.toks∧(dE s d s').lowT=s'.lowT∧
  (∀l,l<s.blks.length→(dE s d s').blks[l]?=s'.blks[l]?)∧ ∀n,n≤s.blks.length→cI n (dE s d s').lowB=false→cI n s.lowB=false∧cI n s'.lowB=false:=by
 have hlen:s.blks.length≤s'.blks.length:=h.aBc;unfold Fw.dE;split
 ·exact⟨hlen,rfl,rfl,fun _ _=>rfl,fun n hn hl=>y2 hn hl⟩
 ·split
  ·exact⟨hlen,rfl,rfl,fun _ _=>rfl,fun n hn hl=>aAm hl⟩
  ·rename_i hd;simp only [Bool.or_eq_false_iff] at hd;refine⟨by simp [hlen],rfl,rfl,fun l hl=> ?_,fun n hn hl=>⟨hl,aBH hn hd.1⟩⟩;simp only;rw [List.getElem?_take_of_lt hl]
theorem aKW{s s':ASt}{d:Bool}(hlen:s.toks.length≤s'.toks.length):s.toks.length≤(eQ s d s').toks.length∧(eQ s d s').blks=s'.blks∧(eQ s d s').lowB=s'.lowB∧
  ∀n,n≤s.blks.length→cI n (eQ s d s').lowT=false→cI n s.lowT=false∧cI n s'.lowT=false:=by
 unfold Fw.eQ;split
 ·exact⟨hlen,rfl,rfl,fun n hn hl=>y2 hn hl⟩
 ·split
  ·rename_i hc;simp only [aBs,Bool.and_eq_true,Bool.not_eq_true',Bool.or_eq_false_iff] at hc;exact⟨by simp [hlen],rfl,rfl,fun n hn hl=>⟨hl,aBH hn hc.2.1⟩⟩
  ·exact⟨hlen,rfl,rfl,fun n hn hl=>aAm hl⟩
theorem Low.aJZ{s s' s'':ASt}(h:Low (aT s) s')(h1:s.blks.length≤s''.blks.length)(h2:s.toks.length≤s''.toks.length)(h3: ∀l,l<s.blks.length→s''.blks[l]?=s'.blks[l]?)
(hB: ∀n,n≤s.blks.length→cI n s''.lowB=false→cI n s.lowB=false∧cI n s'.lowB=false)(hT: ∀n,n≤s.blks.length→cI n s''.lowT=false→cI n s.lowT=false∧cI n s'.lowT=false):Low s s'' where
 aBc:=h1
 aBe:=h2
 B:=fun n hn hl=>by
  obtain⟨k1,k2⟩:=hB n hn hl;exact⟨k1,fun l k' hl' hk' k hk hb=>(h.B n hn k2).2 l k' hl' (by rw [←h3 l (by omega)];exact hk') k hk hb⟩
 T:=fun n hn hl=>by
  obtain⟨k1,k2⟩:=hT n hn hl;exact⟨k1,fun m l k' hl' hk' k hk hb=>(h.T n hn k2).2 m l k' hl' (by rw [←h3 l (by omega)];exact hk') k hk hb⟩
theorem Low.yK{s s':ASt}{d d':Bool}(h:Low (aT s) s'):Low s (eQ s d' (Fw.dE s d s')):=by
 obtain⟨a1,a2,a3,a4,a5⟩:=Low.dE (d:=d) h;have hlen:s.toks.length≤(Fw.dE s d s').toks.length:=by rw [a2];exact h.aBe
 obtain⟨b1,b2,b3,b4⟩:=aKW (d:=d') hlen;refine h.aJZ (by rw [b2];exact a1) b1 (fun l hl=>by rw [b2];exact a4 l hl) (fun n hn hl=> ?_) (fun n hn hl=> ?_)
 ·rw [b3] at hl;exact a5 n hn hl
 ·obtain⟨k1,k2⟩:=b4 n hn hl;rw [a3] at k2;exact⟨k1,k2⟩
theorem aIt{s s' s'':ASt}{v v':AV}(h:Low (aT s) s')(hs:settle s v s'=(v',s'')):Low s s'':=by
 unfold settle at hs;split at hs
 ·rename_i sz xs t;split at hs
  ·cases hs;exact h.yK
  ·split at hs
   ·rename_i n hc hn;split at hs
    ·cases hs;obtain⟨a1,a2,a3,a4,a5⟩:=Low.dE (d:=iO xs) h;simp only [aBs,Bool.and_eq_true,Bool.not_eq_true',Bool.or_eq_false_iff] at hc;refine h.aJZ a1 (by have:=h.aBe;simp [aT] at this;simp;omega) a4 a5 fun n hn hl=>⟨hl,?_⟩
     rw [←a3];exact aBH hn hc.2.1
    ·cases hs;exact h.yK
   ·cases hs;exact h.yK
 ·cases hs;exact h.yK
include hH in
theorem aLK{lf:Nat}{f:AF}{args:List AV}{r:jM}{s':ASt}(h:yU H P lf f args s=some (r,s')):Low s s':=by
 unfold yU at h;split at h
 ·cases h
 split at h
 ·rename_i ex fr s1 he;have h1:=wR hH _ he;split at h
  ·split at h
   ·rename_i hd;cases h;exact(h1.trans (qM hH hd)).yK
   ·rename_i s2 hd;split at h
    ·split at h
     ·rename_i v s3 hv;split at h;rename_i v' s4 hs;cases h;exact aIt ((h1.trans (qM hH hd)).trans (aCZ hv)) hs
     ·cases h
    ·cases h
   ·cases h
  ·cases h
 ·cases h
theorem tT: ∀{ops:List AI}{fr fr':Fr}{rc rc':RC}{s s':ASt},qV P ops fr rc s=some (fr',rc',s')→s'=s
 | [],fr,fr',rc,rc',s,s',h=>by simp [qV] at h;exact h.2.2.symm
 |i::rest,fr,fr',rc,rc',s,s',h=>by
  simp only [qV] at h;split at h
  ·split at h
   ·exact tT h
   ·exact tT h
  ·split at h
   ·exact tT h
   ·cases h
include hH in
theorem aJW{lf:Nat}: ∀(c:AC){fr:Fr}{rc:RC}{s:ASt}{r:cY×Fr×RC×ASt},evD H P lf c fr rc s=some r→Low s r.2.2.2:=by
 intro c
 induction c with
 |reg dr ops=>
  intro fr rc s r h;simp only [evD] at h;split at h
  ·split at h
   ·rename_i ho;cases h;rw [tT ho];exact .refl _
   ·cases h
  ·split at h
   ·rename_i r1 h1;cases h;exact wR hH _ h1
   ·cases h
 |seq a b iha ihb=>
  intro fr rc s r h;simp only [evD] at h;split at h
  ·rename_i h1;exact(iha h1).trans (ihb h)
  ·exact iha h
 |cond c t e iht ihe=>
  intro fr rc s r h;simp only [evD] at h;split at h
  ·split at h
   ·exact iht h
   ·exact ihe h
  ·cases h
 |_=>
  intro fr rc s r h;simp only [evD] at h;split at h
  ·rename_i r1 h1;cases h;exact wR hH _ h1
  ·cases h
include hH in
theorem aLS{lf:Nat}{f:AF}{args:List AV}{m m':DM}{s':ASt}(h:aBf H P lf f args m s=some (m',s')):Low s s':=by
 unfold aBf at h;split at h
 ·cases h
 split at h
 ·rename_i he;have h1:=aJW hH _ he;split at h
  ·split at h
   ·split at h
    ·cases h;exact h1.yK
    ·cases h;exact h1.yK
   ·cases h
  ·cases h
 ·cases h
theorem aAf(hp: ∀f p,P.prim f=some p→ ∀args s r s',p args s=some (r,s')→Low s s'): ∀n,aPg (cH P n)
 |0=>⟨fun _ _ _ _ _ h=>by simp [cH] at h,fun _ _ _ _ _ _ h=>by simp [cH] at h⟩
 |n+1=>by
  have ih:=aAf hp n;refine⟨fun g args s r s' h=> ?_,fun f args m s m' s' h=> ?_⟩
  ·simp only [cH] at h;split at h
   ·split at h
    ·rename_i hq;exact hp _ _ hq _ _ _ _ h
    ·split at h
     ·exact aLK ih h
     ·cases h
   ·exact aIw ih h
  ·simp only [cH] at h;split at h
   ·exact aLS ih h
   ·cases h
end
abbrev Str:=List UInt8
def slA(sz:Nat)(xs:List AV):AV:= .slice (szC sz xs) xs .no
theorem aQg(sz:Nat)(xs:List AV):szC sz xs=sz∨xs= []:=by cases xs with|nil=>exact .inr rfl|cons=>exact .inl rfl
structure Ext(L T:List Nat)(s0 s:ASt):Prop where
 bl:s0.blks.length≤s.blks.length
 b: ∀i,i<s0.blks.length→i∉L→s.blks[i]?=s0.blks[i]?
 tl:s0.toks.length≤s.toks.length
 t: ∀i,i<s0.toks.length→i∉T→s.toks[i]?=s0.toks[i]?
theorem Ext.refl(L T:List Nat)(s:ASt):Ext L T s s:=⟨Nat.le_refl _,fun _ _ _=>rfl,Nat.le_refl _,fun _ _ _=>rfl⟩
theorem Ext.clean(L T:List Nat)(s:ASt):Ext L T s (aT s):=⟨Nat.le_refl _,fun _ _ _=>rfl,Nat.le_refl _,fun _ _ _=>rfl⟩
theorem oL{s0 s:ASt}{d:Bool}(i:Nat)(hi:i<s0.blks.length):(dE s0 d s).blks[i]?=s.blks[i]?:=by
 unfold dE;split
 ·rfl
 ·split
  ·rfl
  ·simp [List.getElem?_take,hi]
theorem aAg{s0 s:ASt}{d:Bool}(h:s0.blks.length≤s.blks.length):s0.blks.length≤(dE s0 d s).blks.length:=by
 unfold dE;split
 ·exact h
 ·split
  ·exact h
  ·simp [List.length_take];omega
theorem uL{s0 s:ASt}{d:Bool}:(dE s0 d s).toks=s.toks:=by
 unfold dE;split
 ·rfl
 ·split<;>rfl
theorem mL{s0 s:ASt}{d:Bool}:(eQ s0 d s).blks=s.blks:=by
 unfold eQ;split
 ·rfl
 ·split<;>rfl
theorem aD0{s0 s:ASt}{d:Bool}(i:Nat)(hi:i<s0.toks.length):(eQ s0 d s).toks[i]?=s.toks[i]?:=by
 unfold eQ;split
 ·rfl
 ·split
  ·simp [List.getElem?_take,hi]
  ·rfl
theorem aLv{s0 s:ASt}{d:Bool}(h:s0.toks.length≤s.toks.length):s0.toks.length≤(eQ s0 d s).toks.length:=by
 unfold eQ;split
 ·exact h
 ·split
  ·simp [List.length_take];omega
  ·exact h
theorem Ext.aGo{L T:List Nat}{s0 s:ASt}(h:Ext L T s0 s)(d1 d2:Bool):Ext L T s0 (eQ s0 d1 (dE s0 d2 s)):=by
 refine⟨?_,fun i hi hn=> ?_,aLv (by rw [uL];exact h.tl),fun i hi hn=> ?_⟩
 ·rw [mL];exact aAg h.bl
 ·rw [mL,oL i hi];exact h.b i hi hn
 ·rw [aD0 i hi,uL];exact h.t i hi hn
theorem aIs{s0 s:ASt}(v:AV)(i:Nat)(hi:i<s0.blks.length):(settle s0 v s).2.blks[i]?=s.blks[i]?:=by
 unfold settle;split
 ·split
  ·rw [mL,oL i hi]
  ·split
   ·split
    ·exact oL i hi
    ·rw [mL,oL i hi]
   ·rw [mL,oL i hi]
 ·rw [mL,oL i hi]
theorem Ext.settle{L T:List Nat}{s0 s:ASt}(h:Ext L T s0 s)(v:AV):Ext L T s0 (settle s0 v s).2:=by
 unfold Fw.settle;split
 ·split
  ·exact h.aGo _ _
  ·split
   ·split
    ·refine⟨aAg h.bl,fun i hi hn=>(oL i hi).trans (h.b i hi hn),?_,fun i hi hn=> ?_⟩
     ·simp only [List.length_append,List.length_take];have:=h.tl;omega
     ·rw [List.getElem?_append_left (by simp only [List.length_take];have:=h.tl;omega)];simp only [List.getElem?_take,hi,if_true];exact h.t i hi hn
    ·exact h.aGo _ _
   ·exact h.aGo _ _
 ·exact h.aGo _ _
structure Fc(P:aS)(g:AFn)(args:List AV)(s:ASt)(Q:jM→ASt→Prop):Prop where
 ev:Ev (fun n=>(cH P n).call g args s) (fun r=>Q r.1 r.2)
theorem Fc.mono{P:aS}{g:AFn}{args:List AV}{s:ASt}{Q Q':jM→ASt→Prop}(h:Fc P g args s Q)(k: ∀r s,Q r s→Q' r s):Fc P g args s Q':=⟨h.ev.mono fun _ q=>k _ _ q⟩
def aGf(P:aS)(af:AF)(Q:AV→ASt→Prop)(e:Env)(s:ASt):Prop:= ∃vs v1 s3,jK P e s af.res=some vs∧nE s vs=some (v1,s3)∧Q v1 s3
structure rP(P:aS)(af:AF)(Q:AV→ASt→Prop)(ex:cY)(fr:Fr)(s:ASt):Prop where
 ex:aJn ex=true
 res: ∃s1,(∀H,g7 H fr.ds .ret s=some (.ret,s1))∧aGf P af Q fr.env s1
def VQ(v:AV)(X:ASt→Prop):AV→ASt→Prop:=fun v1 s3=>mO v1=some v∧(sM v1=false→v1=v)∧X s3
abbrev PQ(s:ASt)(v:AV):AV→ASt→Prop:=VQ v (Ext [] [] s)
def dZ(s:ASt)(v:AV):jM→ASt→Prop:=fun o s'=> ∃v0,o= .ret v0∧mO v0=some v∧(sM v=false→v0=v)∧(∀n,n≤s.blks.length→cI n s.lowT=true→cI n s'.lowT=true)∧Ext [] [] s s'
theorem aJc{P:aS}{g:Nat}{af:AF}{args:List AV}{s:ASt}{Q0:AV→ASt→Prop}{Q:jM→ASt→Prop}(h0:P.prim g=none)(h:P.fn g=some af)(hn:Nat.ble args.length af.nt=true)
(hQ: ∀v1 s3,Q0 v1 s3→Q (.ret (settle s v1 s3).1) (settle s v1 s3).2)(k:Wk P none af.body ⟨gI args,[]⟩ (aT s) (rP P af Q0)):Fc P (.func g) args s Q:=by
 refine⟨Ev.succ ?_⟩;obtain⟨⟨ex,fr,s1⟩,N,⟨h1,s2,hd,vs,v1,s3,h4,h5,h6⟩,h3⟩:=k.ev.out;simp only at h1 h4 h5 hd;refine⟨((.ret (settle s v1 s3).1),(settle s v1 s3).2),N,hQ _ _ h6,fun n hn'=> ?_⟩;have e1:evC (cH P n) P none n af.body ⟨gI args,[]⟩ (aT s)=some ⟨ex,fr,s1⟩:=h3 n hn';simp only [cH,h0,h,yU,hn,e1];cases ex with
 |normal=>simp only [hd,h4,h5]
 |ret=>simp only [hd,h4,h5]
 |exit i=>cases h1
 |panic v=>cases h1
def aK6(v:AV)(X:ASt→Prop):cY→Fr→ASt→Prop:=fun ex fr s=>ex= .panic v∧ ∃s1,(∀H,g7 H fr.ds (.pan v) s=some (.pan v,s1))∧X s1
theorem aLQ{P:aS}{g:Nat}{af:AF}{args:List AV}{s:ASt}{v:AV}{X:ASt→Prop}{Q:jM→ASt→Prop}(h0:P.prim g=none)(h:P.fn g=some af)(hn:Nat.ble args.length af.nt=true)
(hQ: ∀s3,X s3→Q (.panic v) (eQ s (toks v) (dE s (m9 v) s3)))(k:Wk P none af.body ⟨gI args,[]⟩ (aT s) (aK6 v X)):Fc P (.func g) args s Q:=by
 refine⟨Ev.succ ?_⟩;obtain⟨⟨ex,fr,s1⟩,N,⟨h1,s2,hd,h6⟩,h3⟩:=k.ev.out;simp only at h1 hd;subst h1;refine⟨(.panic v,eQ s (toks v) (dE s (m9 v) s2)),N,hQ _ h6,fun n hn'=> ?_⟩;have e1:evC (cH P n) P none n af.body ⟨gI args,[]⟩ (aT s)=some ⟨.panic v,fr,s1⟩:=h3 n hn';simp only [cH,h0,h,yU,hn,e1,hd]
theorem Pf.fG{P:aS}{g:Nat}{args:List AV}{v:AV}(h:Fc P (.func g) args dK (dZ dK v))(hp:cR v=true)(hc:aCX args):Pf P g args v:=
 ⟨h.ev.mono fun _ q=>by obtain⟨v0,h1,h2,_⟩:=q;exact⟨v0,h1,h2⟩,hp,hc⟩
inductive Sl(sz:Nat):AV→List AV→Prop
 |no (xs:List AV):Sl sz (slA sz xs) xs
 |own {z:Nat} {xs:List AV} {o:Own} (h:z=sz∨xs= []) (ho:o≠ .no):Sl sz (.slice z xs o) xs
theorem aMz{z sz:Nat}{xs:List AV}(h:z=sz∨xs= []):szC z xs=szC sz xs:=by
 rcases h with rfl|rfl<;>rfl
theorem Sl.iL{sz:Nat}{w:AV}{xs:List AV}(h:Sl sz w xs):iL w=some (slA sz xs):=by
 cases h with
 |no=>rfl
 | @own z xs o h ho=>
  cases o with
  |no=>exact absurd rfl ho
  |full=>simp only [Fw.iL,aMz h];rfl
  |tok t=>simp only [Fw.iL,aMz h];rfl
theorem Sl.fix{sz:Nat}{w:AV}{xs:List AV}(h:Sl sz w xs):gP w=some (slA sz xs):=by
 have:=h.iL;cases h<;>exact this
theorem Sl.mO{sz:Nat}{w:AV}{xs:List AV}(h:Sl sz w xs):mO w=some (slA sz xs):=by
 have:=h.fix;cases h<;>exact this
theorem Sl.is{sz:Nat}{w:AV}{xs:List AV}(h:Sl sz w xs): ∃z o,w= .slice z xs o∧(z=sz∨xs= []):=by
 cases h with
 |no=>exact⟨_,_,rfl,aQg sz xs⟩
 |own h=>exact⟨_,_,rfl,h⟩
theorem Sl.elems{sz:Nat}{w:AV}{xs:List AV}(s:ASt)(h:Sl sz w xs):elems s sz w=some xs:=by
 obtain⟨z,o,rfl,rfl|rfl⟩:=h.is<;>simp [Fw.elems]
theorem Sl.oK{sz:Nat}{xs:List AV}{o:Own}(ho:o≠ .no):Sl sz (.slice sz xs o) xs:= .own (.inl rfl) ho
inductive Gr(tk:List Nat)(sz:Nat):AV→List AV→Prop
 |nil (z:Nat):Gr tk sz (.slice z [] .full) []
 |full (xs:List AV):Gr tk sz (.slice sz xs .full) xs
 |tok (xs:List AV) (t:Nat) (h:tk[t]?=some xs.length):Gr tk sz (.slice sz xs (.tok t)) xs
theorem Gr.sl{tk:List Nat}{sz:Nat}{w:AV}{xs:List AV}(h:Gr tk sz w xs):Sl sz w xs:=by
 cases h with
 |nil=>exact .own (.inr rfl) (by simp)
 |full=>exact .own (.inl rfl) (by simp)
 |tok=>exact .own (.inl rfl) (by simp)
def fM:AV→Option Nat
 | .slice _ _ (.tok t)=>some t
 |_=>none
structure St(L T:List Nat)(s0 s:ASt)(bs:List (Nat×cQ))(gs:List (AV×Nat×List AV)):Prop where
 ext:Ext L T s0 s
 b: ∀p∈bs,s.blks[p.1]?=some p.2
 bL: ∀p∈bs,p.1∈L∨s0.blks.length≤p.1
 nd:(bs.map (·.1)).Nodup
 g: ∀p∈gs,Gr s.toks p.2.1 p.1 p.2.2
 gT: ∀t∈gs.filterMap (fM ·.1),t∈T∨s0.toks.length≤t
 gd:(gs.filterMap (fM ·.1)).Nodup
 lk: ∀p∈bs,p.1<s0.blks.length→ ∀cs w,p.2= .cells cs w→ ∀v∈cs,∀t,fM v=some t→cI (p.1+1) s.lowT=true∨ ∃cs0 w0,s0.blks[p.1]?=some (.cells cs0 w0)∧v∈cs0
 tv: ∀p∈bs,∀cs w,p.2= .cells cs w→ ∀v∈cs,∀t,fM v=some t→t<s.toks.length
section
variable {L T : List Nat} {s0 s s' : ASt} {bs bs' : List (Nat × cQ)} {gs gs' : List (AV × Nat × List AV)}
theorem St.clean(s:ASt):St [] [] s (aT s) [] []:=⟨.clean _ _ _,by simp,by simp,by simp,by simp,by simp,by simp,by simp,by simp⟩
theorem St.less(h:St L T s0 s bs gs)(hb:bs'.Sublist bs)(hg:gs'.Sublist gs):St L T s0 s bs' gs':=
 ⟨h.ext,fun p hp=>h.b p (hb.subset hp),fun p hp=>h.bL p (hb.subset hp),h.nd.sublist (hb.map _),fun p hp=>h.g p (hg.subset hp),fun t ht=>h.gT t ((hg.filterMap _).subset ht),h.gd.sublist (hg.filterMap _),fun p hp=>h.lk p (hb.subset hp),fun p hp=>h.tv p (hb.subset hp)⟩
theorem St.perm(h:St L T s0 s bs gs)(hb:bs'.Perm bs)(hg:gs'.Perm gs):St L T s0 s bs' gs':=
 ⟨h.ext,fun p hp=>h.b p (hb.subset hp),fun p hp=>h.bL p (hb.subset hp),(hb.map _).nodup_iff.2 h.nd,fun p hp=>h.g p (hg.subset hp),fun t ht=>h.gT t ((hg.filterMap _).subset ht),(hg.filterMap _).nodup_iff.2 h.gd,fun p hp=>h.lk p (hb.subset hp),fun p hp=>h.tv p (hb.subset hp)⟩
theorem St.aSr{sz:Nat}{w:AV}{xs:List AV}(h:St L T s0 s bs gs)(hw:Gr s.toks sz w xs)(ht:fM w=none):St L T s0 s bs ((w,sz,xs)::gs):=
 ⟨h.ext,h.b,h.bL,h.nd,fun p hp=>by rcases List.mem_cons.1 hp with rfl|hp;exact hw;exact h.g p hp,by simp [List.filterMap_cons,ht];simpa using h.gT,by simp only [List.filterMap_cons,ht];exact h.gd,h.lk,h.tv⟩
theorem St.nil(z sz:Nat)(h:St L T s0 s bs gs):St L T s0 s bs ((.slice z [] .full,sz,[])::gs):=h.aSr (.nil z) rfl
end
theorem xL{gs:List (AV×Nat×List AV)}{t:Nat}:t∈gs.filterMap (fM ·.1)↔ ∃p∈gs,fM p.1=some t:=by simp [List.mem_filterMap]
theorem Gr.aBr{tk tk':List Nat}{sz:Nat}{w:AV}{xs:List AV}(h:Gr tk sz w xs)(k: ∀t,fM w=some t→tk'[t]?=tk[t]?):Gr tk' sz w xs:=by
 cases h with
 |nil z=>exact .nil z
 |full xs=>exact .full xs
 |tok xs t h=>exact .tok xs t (by rw [k t rfl];exact h)
theorem Gr.tlt{tk:List Nat}{sz:Nat}{w:AV}{xs:List AV}{t:Nat}(h:Gr tk sz w xs)(ht:fM w=some t):t<tk.length:=by
 cases h with
 |nil z=>cases ht
 |full xs=>cases ht
 |tok xs t' h=>
  simp only [fM,Option.some.injEq] at ht;subst ht;exact(List.getElem?_eq_some_iff.1 h).1
theorem aHs{P:aS}{e:Env}{L T:List Nat}{s0 s:ASt}{bs:List (Nat×cQ)}{gs:List (AV×Nat×List AV)}{esz bytes:Nat}{a x:aJ}{w:AV}{xs ys:List AV}(tk:Bool)
(hS:St L T s0 s bs ((w,esz,xs)::gs))(ha:evO P e a=w)(hw:Sl esz (evO P e x) ys)(h1:(xs.length+ys.length)*bytes≤big)(h2:xs.length+ys.length≤big)(h0:0<esz):
  ∃w' s',cX P e s (.append tk esz bytes a x)=some (w',s')∧St L T s0 s' bs ((w',esz,xs++ys)::gs):=by
 have hG:=hS.g _ (List.mem_cons_self ..);simp only at hG;have hel:=hw.elems s;have hsl:sM (evO P e x)=true:=by obtain⟨z,o,hq,_⟩:=hw.is;rw [hq];rfl
 have hwl:sM w=true:=by obtain⟨z,o,hq,_⟩:=hG.sl.is;rw [hq];rfl
 have htk:(!tk||(sM w&&sM (evO P e x)))=true:=by rw [hsl,hwl];simp
 cases ys with
 |nil=>
  refine⟨w,s,?_,by rw [List.append_nil];exact hS⟩;obtain⟨z,o,hq,_⟩:=hG.sl.is;simp only [cX,bJ,fS,eD,ha,hel,htk];rw [hq]
 |cons y ys=>
  simp only [List.length_cons] at h1 h2;have keepall: ∀p∈gs,∀t n,(∃u,fM w=some u∧t=u)∨s.toks.length≤t→Gr (s.toks.set t n) p.2.1 p.1 p.2.2:=by
   intro p hp t n ht;refine(hS.g p (List.mem_cons_of_mem _ hp)).aBr fun u hu=> ?_;rw [List.getElem?_set_ne]
   rintro rfl
   rcases ht with ⟨u',h3,rfl⟩|ht
   ·have hd:=hS.gd;rw [List.filterMap_cons,h3] at hd;simp only [List.nodup_cons] at hd;exact hd.1 (xL.2 ⟨p,hp,hu⟩)
   ·have:=(hS.g p (List.mem_cons_of_mem _ hp)).tlt hu;omega
  have grow: ∀z,(decide (z=esz)||xs.isEmpty)=true→fM w=none→w= .slice z xs .full→
    ∃w' s',cX P e s (.append tk esz bytes a x)=some (w',s')∧St L T s0 s' bs ((w',esz,xs++y::ys)::gs):=by
   intro z hz htw hwe;refine⟨.slice esz (xs++y::ys) (.tok s.toks.length),{s with toks:=s.toks++ [xs.length+(ys.length+1)]},?_,?_⟩
   ·have hc:((decide (z=esz)||xs.isEmpty)&&decide ((xs.length+(ys.length+1))*bytes≤big)&&decide (xs.length+(ys.length+1)≤big)&&decide (0<esz))=true:=by
     rw [hz];simp [h0,h1,h2]
    simp only [cX,bJ,fS,eD,ha,hel,htk,hwe];rw [hwe] at htk;simp only [htk,hc,if_true]
   ·have hd:=hS.gd;rw [List.filterMap_cons,htw] at hd;have hT:=hS.gT;rw [List.filterMap_cons,htw] at hT;refine⟨⟨hS.ext.bl,hS.ext.b,by simp;have:=hS.ext.tl;omega,fun i hi hn=> ?_⟩,hS.b,hS.bL,hS.nd,?_,?_,?_,hS.lk,fun p hp cs w he v hv t ht=>by have:=hS.tv p hp cs w he v hv t ht;simp;omega⟩
    ·rw [←hS.ext.t i hi hn];exact List.getElem?_append_left (by have:=hS.ext.tl;omega)
    ·intro p hp;rcases List.mem_cons.1 hp with rfl|hp
     ·exact .tok _ _ (by simp)
     ·refine(hS.g p (List.mem_cons_of_mem _ hp)).aBr fun u hu=> ?_;have:=(hS.g p (List.mem_cons_of_mem _ hp)).tlt hu;exact List.getElem?_append_left this
    ·intro t ht;simp only [List.filterMap_cons,fM,List.mem_cons] at ht;rcases ht with rfl|ht
     ·exact .inr hS.ext.tl
     ·exact hT t ht
    ·simp only [List.filterMap_cons,fM,List.nodup_cons];refine⟨fun hm=> ?_,hd⟩;obtain⟨p,hp,hu⟩:=xL.1 hm;have:=(hS.g p (List.mem_cons_of_mem _ hp)).tlt hu;omega
  generalize hwq:w=w0 at hG;cases hG with
  |nil z=>exact grow z (by simp) (by rw [hwq];rfl) hwq
  |full xs=>exact grow esz (by simp) (by rw [hwq];rfl) hwq
  |tok xs t ht=>
   have htw:fM w=some t:=by rw [hwq];rfl
   have htl:t<s.toks.length:=(List.getElem?_eq_some_iff.1 ht).1;refine⟨.slice esz (xs++y::ys) (.tok t),{s with toks:=s.toks.set t (xs.length+(ys.length+1))},?_,?_⟩
   ·have hc:((decide (esz=esz)||xs.isEmpty)&&decide ((xs.length+(ys.length+1))*bytes≤big)&&decide (xs.length+(ys.length+1)≤big)&&decide (0<esz))=true:=by
     simp [h0,h1,h2]
    simp only [cX,bJ,fS,eD,ha,hel,htk,hwq];rw [hwq] at htk;simp [htk,hc,ht,h0,h1,h2]
   ·have hd:=hS.gd;rw [List.filterMap_cons,htw] at hd;have hT:=hS.gT;rw [List.filterMap_cons,htw] at hT;refine⟨⟨hS.ext.bl,hS.ext.b,by simp;exact hS.ext.tl,fun i hi hn=> ?_⟩,hS.b,hS.bL,hS.nd,?_,?_,?_,hS.lk,fun p hp cs w he v hv t ht=>by have:=hS.tv p hp cs w he v hv t ht;simpa using this⟩
    ·rw [←hS.ext.t i hi hn];refine List.getElem?_set_ne ?_
     rintro rfl
     rcases hT t (List.mem_cons_self ..) with h|h
     ·exact hn h
     ·omega
    ·intro p hp;rcases List.mem_cons.1 hp with rfl|hp
     ·exact .tok _ _ (by simp [htl])
     ·exact keepall p hp t _ (.inl ⟨t,htw,rfl⟩)
    ·intro u hu;simp only [List.filterMap_cons,fM] at hu;exact hT u hu
    ·simp only [List.filterMap_cons,fM];exact hd
section
variable {L T : List Nat} {s0 s : ASt} {bs : List (Nat × cQ)} {gs : List (AV × Nat × List AV)}
theorem xJ{α:Type}: ∀{l:List α}{i:Nat}{p:α},l[i]?=some p→(p::l.eraseIdx i).Perm l
 | [],_,_,h=>by simp at h
 |a::l,0,p,h=>by simp at h;subst h;exact .refl _
 |a::l,i+1,p,h=>by
  simp only [List.getElem?_cons_succ] at h;simp only [List.eraseIdx_cons_succ];exact(List.Perm.swap a p _).trans ((xJ h).cons a)
theorem St.slG{w:AV}{sz:Nat}{xs:List AV}(h:St L T s0 s bs gs)(i:Nat)(hp:gs[i]?=some (w,sz,xs)):Sl sz w xs:=
 (h.g _ (List.mem_of_getElem? hp)).sl
end
theorem Sl.full{z sz:Nat}{xs:List AV}(h:z=sz∨xs= []):Sl sz (.slice z xs .full) xs:= .own h (by simp)
def idx{α:Type}(l:List α)(i:Int):Option α:=if 0≤i then l[i.toNat]? else none
def cut{α:Type}(l:List α)(lo hi:Int):Option (List α):=if 0≤lo∧lo≤hi∧hi≤l.length then some ((l.take hi.toNat).drop lo.toNat) else none
def app{α:Type}(b:Nat)(xs ys:List α):Option (List α):=if(xs.length+ys.length)*b≤big∧xs.length+ys.length≤big then some (xs++ys) else none
def nf{α:Type}(x:α):α:=x
inductive Ctl(R S:Type) where
 |ret (r:R)
 |nx (s:S)
theorem bs{α β:Type}{o:Option α}{f:α→Option β}{r:β}(h:(o>>=f)=some r): ∃x,o=some x∧f x=some r:=Option.bind_eq_some_iff.1 h
theorem bP{α:Type}{b:Bool}{a c:Option α}{r:α}(h:b=true)(k:(if b=true then a else c)=some r):a=some r:=by rwa [if_pos h] at k
theorem bO{α:Type}{b:Bool}{a c:Option α}{r:α}(h:b=false)(k:(if b=true then a else c)=some r):c=some r:=by rwa [if_neg (by rw [h];decide)] at k
theorem aH{P:aS}{rd:Option Nat}{c:aJ}{t f:AC}{b:Bool}{fr:Fr}{s:ASt}{Q:cY→Fr→ASt→Prop}{α:Type}{x y:Option α}{r:α}(hyp:(if b=true then x else y)=some r)(hb:evO P fr.env c= .bool b)
(ht:b=true→x=some r→Wk P rd t fr s Q)(hf:b=false→y=some r→Wk P rd f fr s Q):Wk P rd (.cond c t f) fr s Q:=
 aOR hb (fun hc=>ht hc (bP hc hyp)) (fun hc=>hf hc (bO hc hyp))
abbrev AV.i(n:Int):AV:= .int .i64 n
def aU(sz:Nat){α:Type}(f:α→AV)(l:List α):AV:=slA sz (l.map f)
theorem fV{α:Type}{f:α→AV}(h: ∀x,cR (f x)=true): ∀l:List α,eM (l.map f)=true
 | []=>rfl
 |x::r=>by simp only [List.map_cons,eM,h x,fV h r,Bool.and_self]
inductive PuL:List AV→Prop
 |nil:PuL []
 |cons {v:AV} {vs:List AV} (h:cR v=true) (t:PuL vs):PuL (v::vs)
theorem PuL.eq{vs:List AV}(h:PuL vs):eM vs=true:=by
 induction h with
 |nil=>rfl
 |cons h _ ih=>simp only [eM,h,ih,Bool.and_self]
theorem aNp{vs:List AV}(h:PuL vs):cR (.agg vs)=true:=h.eq
theorem aIh: ∀{vs:List AV},eM vs=true→PuL vs
 | [],_=> .nil
 |v::vs,h=>by simp only [eM,Bool.and_eq_true] at h;exact .cons h.1 (aIh h.2)
theorem lM: ∀{a b:List AV},eM a=true→eM b=true→eM (a++b)=true
 | [],_,_,h=>h
 |v::vs,b,h,k=>by simp only [eM,Bool.and_eq_true] at h;simp only [List.cons_append,eM,h.1,lM h.2 k,Bool.and_self]
theorem uG{v:AV}(h:cR v=true):eM [v]=true:=by simp only [eM,h,Bool.and_self]
theorem yR{vs:List AV}(h:PuL vs):cR (.tuple vs)=true:=h.eq
theorem sO{sz:Nat}{xs:List AV}(h:eM xs=true):Can (slA sz xs):=⟨rfl,h⟩
theorem aOq{sz:Nat}{α:Type}{f:α→AV}(h: ∀x,cR (f x)=true)(l:List α):cR (aU sz f l)=true:=fV h l
theorem pS{sz:Nat}{α:Type}{f:α→AV}(h: ∀x,cR (f x)=true)(l:List α):cR (slA sz (l.map f))=true:=fV h l
inductive Fx1:List AV→List AV→Prop
 |nil:Fx1 [] []
 |cons {v w:AV} {vs ws:List AV} (h:iL v=some w) (t:Fx1 vs ws):Fx1 (v::vs) (w::ws)
theorem Fx1.eq{vs ws:List AV}(h:Fx1 vs ws):aB2 vs=some ws:=by
 induction h with
 |nil=>rfl
 |cons h _ ih=>simp only [aB2,h,ih]
theorem Fx1.agg{vs ws:List AV}(h:Fx1 vs ws):gP (.agg vs)=some (.agg ws):=by simp only [gP,h.eq]
theorem zZ{v:AV}{o:Nat}(h:Can v):Can (.aF v o):=⟨rfl,h.2⟩
theorem aIX{g:Nat}{a b:List AV}(h:aCX a)(k:aCX b):Can (.func g a b):=⟨rfl,by simp only [cR,h.pure,k.pure,Bool.and_self]⟩
inductive vF:List AV→List AV→Prop
 |nil:vF [] []
 |cons {v w:AV} {vs ws:List AV} (h:gP v=some w) (t:vF vs ws):vF (v::vs) (w::ws)
theorem vF.eq{vs ws:List AV}(h:vF vs ws):dL vs=some ws:=by
 induction h with
 |nil=>rfl
 |cons h _ ih=>simp only [dL,h,ih]
theorem aOo{v w:AV}(s:ASt)(h:gP v=some w):aC4 s v=some (w,s):=by
 cases v<;>first|(simp only [aC4,h];done)|(simp [gP,iL] at h)
theorem vF.vs{vs ws:List AV}(s:ASt)(h:vF vs ws):rL s vs=some (ws,s):=by
 induction h with
 |nil=>rfl
 |cons h _ ih=>simp only [rL,aOo s h,ih]
theorem yH{s0 s3:ASt}{v:AV}(h:sM v=false):(settle s0 v s3).1=v:=by
 cases v<;>first|rfl|(simp [sM] at h)
theorem bK{P:aS}{af:AF}{e:Env}{X:ASt→Prop}{s s3:ASt}{vs:List AV}{v1 v:AV}(h3:jK P e s af.res=some vs)(h4:nE s vs=some (v1,s3))(he:v1=v)(h5:mO v=some v)(hx:X s3):aGf P af (VQ v X) e s:=
 ⟨vs,v1,s3,h3,h4,he▸h5,fun _=>he,hx⟩
theorem tP{P:aS}{af:AF}{e:Env}{X:ASt→Prop}{s:ASt}{sz:Nat}{w:AV}{xs:List AV}(h3:jK P e s af.res=some [w])(h:Sl sz w xs)(hx:X s):aGf P af (VQ (slA sz xs) X) e s:=by
 refine⟨[w],w,s,h3,?_,h.mO,fun hn=> ?_,hx⟩
 ·obtain⟨z,o,rfl,_⟩:=h.is
  rfl
 ·obtain⟨z,o,rfl,_⟩:=h.is;cases hn
theorem aNQ{vs ws:List AV}(h:dL vs=some ws):mO (.tuple vs)=some (.tuple ws):=by simp only [mO,h]
theorem aKU{v w:AV}(h:iL v=some w):iL w=some w:=by
 cases v<;>simp [iL] at h<;>(try subst h)<;>(try rfl);rename_i sz xs o;cases o<;>simp at h<;>subst h<;>rfl
theorem aD4: ∀{vs ws:List AV},aB2 vs=some ws→aB2 ws=some ws
 | [],_,h=>by cases h;rfl
 |v::vs,ws,h=>by
  simp only [aB2] at h;split at h
  ·cases h
  ·rename_i y hy;split at h
   ·cases h
   ·rename_i ys hys;cases h;simp only [aB2,aKU hy,aD4 hys]
theorem aLo{v w:AV}(h:gP v=some w):gP w=some w:=by
 cases v
 case agg cs=>
  simp only [gP] at h;split at h
  ·rename_i ds hd;cases h;simp only [gP,aD4 hd]
  ·cases h
 case slice sz xs o=>cases o<;>(simp [gP,iL] at h;subst h;rfl)
 all_goals first
  |(simp [gP,iL] at h;done)
  |(simp [gP,iL] at h;subst h;rfl)
theorem aCM: ∀{vs ws:List AV},dL vs=some ws→dL ws=some ws
 | [],_,h=>by cases h;rfl
 |v::vs,ws,h=>by
  simp only [dL] at h;split at h
  ·cases h
  ·rename_i y hy;split at h
   ·cases h
   ·rename_i ys hys;cases h;simp only [dL,aLo hy,aCM hys]
theorem gJ{P:aS}{af:AF}{e:Env}{X:ASt→Prop}{s:ASt}(h3:jK P e s af.res=some [])(hx:X s):aGf P af (VQ (.tuple []) X) e s:=
 ⟨[],.tuple [],s,h3,rfl,rfl,fun _=>rfl,hx⟩
theorem fN{P:aS}{af:AF}{e:Env}{X:ASt→Prop}{s:ASt}{u v:AV}{vs ws:List AV}(h3:jK P e s af.res=some (u::v::vs))(h:vF (u::v::vs) ws)(hx:X s):aGf P af (VQ (.tuple ws) X) e s:=by
 refine⟨_,.tuple ws,s,h3,?_,aNQ (aCM h.eq),fun _=>rfl,hx⟩;have:=h.vs s;simp only [nE,this]
theorem frE{e:Env}{S:List (Nat×AV)}{ds:List hY}(h:xG e S):(⟨e,ds⟩:Fr)=⟨bB e S,ds⟩:=by rw [h.bB]
section
variable {P : aS} {rd : Option Nat} {s s' : ASt} {ds : List hY}
theorem eL{c:AC}{S:List (Nat×AV)}{Q' Q:cY→Fr→ASt→Prop}{e0:Env}(h: ∀e,Wk P rd c ⟨bB e S,ds⟩ s Q')(hh:xG e0 S)(k: ∀ex fr s,Q' ex fr s→Q ex fr s):Wk P rd c ⟨e0,ds⟩ s Q:=by
 have:=h e0;rw [hh.bB] at this;exact this.mono k
theorem dC{b:AC}{fr:Fr}{Q:cY→Fr→ASt→Prop}(h:Wk P rd b fr s (aPV (fun fr s=>Wk P rd (.loop b) fr s Q) Q)):Wk P rd (.loop b) fr s Q:=by
 obtain⟨⟨ex,fr1,s1⟩,N,h1,h2⟩:=h.ev.out;have fin: ∀(r:CR),Q r.ex r.fr r.s→mU (evC (cH P N) P rd N b) (N+1) fr s=some r→(match ex with| .normal=>False|_=>True)→Wk P rd (.loop b) fr s Q:=by
  intro r hq hr hne;refine⟨⟨r,N+1,hq,fun n hn=> ?_⟩⟩;simp only [evC];exact uD (fun fr s r h=>eS (aCC (by omega)) (by omega) b h) hn hr
 cases ex with
 |normal=>
  obtain⟨r,M,h3,h4⟩:=(h1:Wk P rd (.loop b) fr1 s1 Q).ev.out;refine⟨⟨r,max N M+1,h3,fun n hn=> ?_⟩⟩;have e1:=h4 M (Nat.le_refl _);simp only [evC] at e1⊢;obtain⟨m,rfl⟩: ∃m,n=m+1:=⟨n-1,by omega⟩
  have e2:mU (evC (cH P (m+1)) P rd (m+1) b) m fr1 s1=some r:=uD (fun fr s r h=>eS (aCC (by omega)) (by omega) b h) (by omega) e1;simp only [mU,h2 (m+1) (by omega)];exact e2
 |exit i=>exact fin ⟨.exit i,fr1,s1⟩ h1 (by simp only [mU,h2 N (Nat.le_refl _)]) trivial
 |ret=>exact fin ⟨.ret,fr1,s1⟩ h1 (by simp only [mU,h2 N (Nat.le_refl _)]) trivial
 |panic v=>exact fin ⟨.panic v,fr1,s1⟩ h1 (by simp only [mU,h2 N (Nat.le_refl _)]) trivial
end
def aIF(i:AI):Bool:=match i.op with| .pend _=>false|_=>true
theorem nW(d:Option Nat):aK d []= []:=by cases d<;>rfl
theorem aDX{H:Handler}{P:aS}: ∀{a b:List AI}{fr fr1:Fr}{s s1:ASt},a.all aIF=true→bG H P a [] fr s=some (.norm fr1 s1)→bG H P (a++b) [] fr s=bG H P b [] fr1 s1
 | [],b,fr,fr1,s,s1,_,h=>by simp only [bG,Option.some.injEq,pM.norm.injEq] at h;obtain⟨rfl,rfl⟩:=h;rfl
 |i::a,b,⟨e,ds⟩,fr1,s,s1,hp,h=>by
  simp only [List.all_cons,Bool.and_eq_true] at hp;obtain⟨d,op,gd,pre⟩:=i;have ih:=fun{fr:Fr}{s:ASt}(h:bG H P a [] fr s=some (.norm fr1 s1))=>aDX (b:=b) hp.2 h;simp only [List.cons_append];cases hw:wanted e gd with
  |none=>simp [bG,hw] at h
  |some w=>
   cases w with
   |false=>
    simp only [bG,hw,nW] at h⊢;exact ih h
   |true=>
    cases hpl:plainO op with
    |true=>
     rw [aB7 (d':=d) hpl hw] at h⊢
     revert h
     cases cX P e s op with
     |none=>intro h;cases h
     |some x=>intro h;simp only [nW] at h⊢;exact ih h
    |false=>
     cases op<;>first|(simp [plainO] at hpl;done)|skip
     case pend z=>simp [aIF] at hp
     case shut d0 sz x=>
      simp only [bG,hw] at h;split at h
      ·simp at h
      ·cases h
     case defer f args=>
      simp only [bG,hw] at h⊢;split at h
      ·rename_i h1 h2;simp only [h1,h2,nW] at h⊢;exact ih h
      ·cases h
     case panic x=>
      simp only [bG,hw] at h;split at h<;>cases h
     case aW st f args=>
      simp only [bG,hw] at h⊢;split at h
      ·rename_i h1 h2;split at h
       ·rename_i h3 h4;split at h
        ·rename_i h5;split at h
         ·rename_i h6;simp only [h1,h2,h3,h4,h5,h6,nW] at h⊢;exact ih h
         ·cases h
        ·cases h
       ·cases h
      ·cases h
     case call f args=>
      simp only [bG,hw] at h⊢;split at h
      ·rename_i h1 h2;split at h
       ·rename_i h3;simp only [h1,h2,h3,nW] at h⊢;exact ih h
       ·cases h
       ·cases h
      ·cases h
theorem bF{P:aS}{ops:List AI}{e0:Env}{ds:List hY}{s:ASt}{Q:pM→Prop}(n:Nat)(S:List (Nat×AV))(s':ASt)(h:Wo P (ops.take n) [] ⟨e0,ds⟩ s (aRG (Kept S ds s')))(k: ∀e,Wo P (ops.drop n) [] ⟨bB e S,ds⟩ s' Q)(hp:(ops.take n).all aIF=true:=by rfl):Wo P ops [] ⟨e0,ds⟩ s Q:=by
 obtain⟨r,N,h1,h2⟩:=h.ev.out;cases r with
 |pan v f s1=>exact absurd h1.1 (by simp)
 |norm f s1=>
  obtain⟨_,rfl,h3,h4⟩:=h1;have k1:=k f.env;rw [h4.bB] at k1;obtain⟨r2,M,h5,h6⟩:=k1.ev.out;refine⟨⟨r2,max N M,h5,fun n' hn=> ?_⟩⟩;have e1:=aDX (b:=ops.drop n) hp (h2 n' (by omega));rw [List.take_append_drop] at e1;rw [e1];obtain⟨fe,fd⟩:=f;simp only at h3;subst h3;exact h6 n' (by omega)
theorem bE{P:aS}{l:List AI}{pd:List (Nat×Nat)}{e:Env}{ds:List hY}{s:ASt}{Q:pM→Prop}{t:Nat}{c:Bool}(h:e t= .bool c)
(kt:c=true→Wo P l pd ⟨upd e t (.bool true),ds⟩ s Q)(kf:c=false→Wo P l pd ⟨upd e t (.bool false),ds⟩ s Q):Wo P l pd ⟨e,ds⟩ s Q:=by
 cases c with
 |true=>have:=kt rfl;rwa [aBY h] at this
 |false=>have:=kf rfl;rwa [aBY h] at this
section
variable {P : aS} {e : Env} {ds : List hY} {s s1 : ASt} {Q : pM → Prop} {d : Nat} {d' : Option Nat} {rest : List AI} {pre : List Nat} {v : AV} {gd : Option (Nat × Bool)} {pd : List (Nat × Nat)}
theorem wgp{op:AOp}(hp:plainO op=true)(hg:wanted e gd=some true)(h:cX P e s op=some (v,s1))(k:Wo P rest (aK (some d) pd) ⟨upd e d v,ds⟩ s1 Q):Wo P (⟨some d,op,gd,pre⟩::rest) pd ⟨e,ds⟩ s Q:=
 aRa (d':=some d) hp hg h k
theorem wgv{op:AOp}(v:AV)(hp:plainO op=true)(hg:wanted e gd=some true)(h:cX P e s op=some (v,s))(k:Wo P rest (aK (some d) pd) ⟨upd e d v,ds⟩ s Q):Wo P (⟨some d,op,gd,pre⟩::rest) pd ⟨e,ds⟩ s Q:=wgp hp hg h k
theorem cG{α:Type}{f:α→AV}{l:List α}{esz:Nat}{x:aJ}(hg:wanted e gd=some true)(hx:Sl esz (evO P e x) (l.map f))(k:Wo P rest (aK (some d) pd) ⟨upd e d (.int .i64 (l.length:Int)),ds⟩ s Q):Wo P (⟨some d,.jF x,gd,pre⟩::rest) pd ⟨e,ds⟩ s Q:=by
 refine wgp rfl hg (s1:=s) ?_ k;obtain⟨z,o,h,_⟩:=hx.is;simp [cX,bJ,h]
theorem j5{α:Type}{f:α→AV}{l:List α}{esz:Nat}{x i:aJ}{ik:IntKind}{n:Int}{y:α}(hg:wanted e gd=some true)(hx:Sl esz (evO P e x) (l.map f))(hi:evO P e i= .int ik n)(h:idx l n=some y)(hv:f y=v)
(k:Wo P rest (aK (some d) pd) ⟨upd e d (.aF v 0),ds⟩ s Q):Wo P (⟨some d,.nA esz x i,gd,pre⟩::rest) pd ⟨e,ds⟩ s Q:=by
 refine wgp rfl hg (v:= .aF v 0) (s1:=s) ?_ k;unfold idx at h;split at h
 ·rename_i hn;obtain⟨z,o,hxe,hz⟩:=hx.is;have hsz:z=esz:=by
   rcases hz with rfl|hz
   ·rfl
   ·rw [List.map_eq_nil_iff.1 hz] at h;simp at h
  simp [cX,bJ,hxe,hi,g6,hn,hsz,h,hv]
 ·cases h
theorem aRp{x i:aJ}{t:Str}{ik:IntKind}{n:Int}{b:UInt8}(hg:wanted e gd=some true)(hx:evO P e x= .str t)(hi:evO P e i= .int ik n)(h:idx t n=some b)
(k:Wo P rest (aK (some d) pd) ⟨upd e d (.int .u8 b.toNat),ds⟩ s Q):Wo P (⟨some d,.aCf x i,gd,pre⟩::rest) pd ⟨e,ds⟩ s Q:=by
 refine wgp rfl hg (v:= .int .u8 b.toNat) (s1:=s) ?_ k;unfold idx at h;split at h
 ·rename_i hn;simp [cX,bJ,hx,hi,g6,hn,h]
 ·cases h
theorem aD3{dflt:Nat}{lo:Option aJ}{n:Int}(h:(lo=none∧n=dflt)∨ ∃ik,lo.map (evO P e)=some (.int ik n))(hn:0≤n):cF P e dflt lo=some n.toNat:=by
 rcases h with ⟨rfl,rfl⟩|⟨ik,h⟩
 ·simp [cF]
 ·cases lo with
  |none=>cases h
  |some x=>
   simp only [Option.map_some,Option.some.injEq] at h;simp [cF,h,g6,hn]
theorem uI{α:Type}{f:α→AV}{l l':List α}{esz:Nat}{x:aJ}{lo hi:Option aJ}{lo' hi':Int}(hg:wanted e gd=some true)(hx:Sl esz (evO P e x) (l.map f))
(hlo:(lo=none∧lo'=0)∨ ∃ik,lo.map (evO P e)=some (.int ik lo'))(hhi:(hi=none∧hi'=(l.length:Int))∨ ∃ik,hi.map (evO P e)=some (.int ik hi'))(hn:(lo.isSome||hi.isSome)=true)(h:cut l lo' hi'=some l')
(k:Wo P rest (aK (some d) pd) ⟨upd e d (slA esz (l'.map f)),ds⟩ s Q):Wo P (⟨some d,.aAF esz x lo hi none,gd,pre⟩::rest) pd ⟨e,ds⟩ s Q:=by
 refine wgp rfl hg (v:=slA esz (l'.map f)) (s1:=s) ?_ k;unfold cut at h;split at h
 ·rename_i hc;cases h;obtain⟨z,o,hxe,hz⟩:=hx.is;have h1:cF P e 0 lo=some lo'.toNat:=aD3 (by rcases hlo with ⟨a,b⟩|h;exact .inl ⟨a,by simpa using b⟩;exact .inr h) hc.1;have h2:cF P e (l.map f).length hi=some hi'.toNat:=aD3 (by rcases hhi with ⟨a,b⟩|h;exact .inl ⟨a,by simpa using b⟩;exact .inr h) (by omega);have h3:cF P e (l.map f).length none=some (l.map f).length:=rfl;have hzz:szC z (((l.map f).take hi'.toNat).drop lo'.toNat)=szC esz (((l.map f).take hi'.toNat).drop lo'.toNat):=by
   rcases hz with rfl|hz
   ·rfl
   ·rw [hz];simp [szC]
  have hze:(decide (z=esz)||(l.map f).isEmpty)=true:=by rcases hz with rfl|hz<;>simp [*]
  have hcc:(decide (lo'.toNat≤hi'.toNat)&&decide (hi'.toNat≤(l.map f).length)&&decide ((l.map f).length≤(l.map f).length)&&(decide (z=esz)||(l.map f).isEmpty)&&((none:Option aJ).isNone||hi.isSome))=true:=by
   rw [hze];simp;omega
  have:bJ P e (.aAF esz x lo hi none)=some (slA esz ((((l.take hi'.toNat).drop lo'.toNat)).map f)):=by
   simp only [bJ,hxe,h1,h2,h3];rw [if_pos hcc];cases lo with
   |some y=>cases hi<;>(simp only [hzz,slA,List.map_drop,List.map_take])
   |none=>
    cases hi with
    |some z=>simp only [hzz,slA,List.map_drop,List.map_take]
    |none=>cases hn
  simp only [cX,this]
 ·cases h
theorem aQ4{w:AV}{esz len:Nat}{z:List AV}{parts:List (Nat×aJ)}{sz:Nat}{xs:List AV}(hg:wanted e gd=some true)(h:cX P e s (.oK esz len z parts)=some (.slice sz xs .full,s))(hw: .slice sz xs .full=w)
(k:Wo P rest (aK (some d) pd) ⟨upd e d w,ds⟩ s Q):Wo P (⟨some d,.oK esz len z parts,gd,pre⟩::rest) pd ⟨e,ds⟩ s Q:=by
 subst hw;exact wgp rfl hg h k
theorem aD2{z:AV}: ∀(vs:List AV)(pre post:List AV)(k:Nat),k=pre.length→post.length=vs.length→tH (pre++post) ((List.range' k vs.length).zip vs)=some (pre++vs)
 | [],pre,post,k,_,h=>by
  have:post= []:=List.length_eq_zero_iff.1 h;subst this;simp [tH]
 |v::vs,pre,post,k,hk,h=>by
  cases post with
  |nil=>simp at h
  |cons p post=>
   subst hk;simp only [List.length_cons,List.range'_succ,List.zip_cons_cons,tH];rw [if_pos (by simp),List.set_append_right _ _ (Nat.le_refl _),Nat.sub_self,List.set_cons_zero];have:=aD2 (z:=z) vs (pre++ [v]) post (pre.length+1) (by simp) (by simpa using h);simpa using this
theorem aJQ{α:Type}{f:α→AV}{l:List α}{vs:List AV}{esz len:Nat}{z:List AV}{parts:List (Nat×aJ)}(hg:wanted e gd=some true)(hf:vF (parts.map fun p=>evO P e p.2) vs)(hv:vs=l.map f)
(hc: ∀x,(cellsOf (f x)).length=esz)(hi:parts.map (·.1)=List.range' 0 l.length)(hl:len=l.length)(h16:len*esz≤16777216)
(k:Wo P rest (aK (some d) pd) ⟨upd e d (.slice esz (l.map f) .full),ds⟩ s Q):Wo P (⟨some d,.oK esz len z parts,gd,pre⟩::rest) pd ⟨e,ds⟩ s Q:=by
 refine wgp rfl hg (v:= .slice esz (l.map f) .full) (s1:=s) ?_ k;have h1:dL (parts.map fun p=>evO P e p.2)=some (l.map f):=by rw [hf.eq,hv]
 have h2:((l.map f).all (fun v=>(cellsOf v).length==esz)&&decide (len*esz≤16777216))=true:=by simp [hc,h16]
 have h3:=aD2 (z:=elemOf esz z) (l.map f) [] (List.replicate len (elemOf esz z)) 0 rfl (by simp [hl]);simp only [List.nil_append,List.length_map] at h3;simp only [cX,bJ,h1];rw [if_pos h2,hi,h3]
theorem aIG{L T:List Nat}{s0:ASt}{bs:List (Nat×cQ)}{gs:List (AV×Nat×List AV)}{α:Type}{f:α→AV}{xs ys l:List α}{tk:Bool}{esz bytes:Nat}{a x:aJ}{w:AV}(hg:wanted e gd=some true)
(hS:St L T s0 s bs ((w,esz,xs.map f)::gs))(ha:evO P e a=w)(hw:Sl esz (evO P e x) (ys.map f))(h:app bytes xs ys=some l)(h0:0<esz)
(k: ∀w' s',St L T s0 s' bs ((w',esz,l.map f)::gs)→Wo P rest (aK (some d) pd) ⟨upd e d w',ds⟩ s' Q):Wo P (⟨some d,.append tk esz bytes a x,gd,pre⟩::rest) pd ⟨e,ds⟩ s Q:=by
 unfold app at h;split at h
 ·rename_i hc;cases h;obtain⟨w',s',h1,h2⟩:=aHs tk hS ha hw (by simpa using hc.1) (by simpa using hc.2) h0;exact wgp rfl hg h1 (k w' s' (by rw [List.map_append];exact h2))
 ·cases h
theorem wcD{st:Bool}{f:aJ}{args:List aJ}{g:Nat}{vs:List AV}(hc:Pf P g vs v)(hg:wanted e gd=some true)(hf:evO P e f= .func g [] [])(ha:vF (args.map (evO P e)) vs)
(k:Wo P rest (aK d' pd) ⟨eU e d' v,ds⟩ s Q):Wo P (⟨d',.aW st f args,gd,pre⟩::rest) pd ⟨e,ds⟩ s Q:=
 aHV (a:= []) (b:= []) hg hf ha.eq (by simpa using hc) k
theorem wcC{st:Bool}{f:aJ}{args:List aJ}{g:Nat}{vs us a b:List AV}(hc:Pf P g us v)(hg:wanted e gd=some true)(hf:evO P e f= .func g a b)(ha:vF (args.map (evO P e)) vs)(hu:a++vs++b=us)
(k:Wo P rest (aK d' pd) ⟨eU e d' v,ds⟩ s Q):Wo P (⟨d',.aW st f args,gd,pre⟩::rest) pd ⟨e,ds⟩ s Q:=
 aHV hg hf ha.eq (by rw [hu];exact hc) k
end
section
variable {L T : List Nat} {s0 s s' : ASt} {bs bs' : List (Nat × cQ)} {gs gs' : List (AV × Nat × List AV)}
theorem St.lt(h:St L T s0 s bs gs){p:Nat×cQ}(hp:p∈bs):p.1<s.blks.length:=(List.getElem?_eq_some_iff.1 (h.b p hp)).1
theorem St.get{l:Nat}{b:cQ}(h:St L T s0 s bs gs)(i:Nat)(hb:bs[i]?=some (l,b)):s.blks[l]?=some b:=h.b (l,b) (List.mem_of_getElem? hb)
def aMB(v:AV):Bool:=(fM v).isNone
theorem St.alloc{cs:List AV}(h:St L T s0 s bs gs)(ht: ∀v∈cs,∀t,fM v=some t→t<s.toks.length)(w:Bool):St L T s0 {s with blks:=s.blks++ [.cells cs w]} ((s.blks.length,.cells cs w)::bs) gs:=by
 refine⟨⟨by simp;have:=h.ext.bl;omega,fun i hi hn=> ?_,h.ext.tl,h.ext.t⟩,?_,?_,?_,h.g,h.gT,h.gd,?_,?_⟩
 ·rw [←h.ext.b i hi hn];exact List.getElem?_append_left (by have:=h.ext.bl;omega)
 ·intro p hp;rcases List.mem_cons.1 hp with rfl|hp
  ·simp
  ·rw [←h.b p hp];exact List.getElem?_append_left (h.lt hp)
 ·intro p hp;rcases List.mem_cons.1 hp with rfl|hp
  ·exact .inr h.ext.bl
  ·exact h.bL p hp
 ·simp only [List.map_cons,List.nodup_cons];refine⟨fun hm=> ?_,h.nd⟩;obtain⟨p,hp,he⟩:=List.mem_map.1 hm;have:=h.lt hp;omega
 ·intro p hp hl cs' w' he;rcases List.mem_cons.1 hp with rfl|hp
  ·have:=h.ext.bl;simp only at hl;omega
  ·exact h.lk p hp hl cs' w' he
 ·intro p hp cs' w' he;rcases List.mem_cons.1 hp with rfl|hp
  ·simp only [cQ.cells.injEq] at he;obtain⟨rfl,rfl⟩:=he;exact ht
  ·exact h.tv p hp cs' w' he
theorem aB0{b:Bool}{l n:Nat}{o:Option Nat}(h:cI n o=true):cI n (low b l o)=true:=by
 cases o with
 |none=>simp [cI] at h
 |some m=>cases b<;>simp [low,cI] at h⊢ <;>omega
theorem aOt{l:Nat}{o:Option Nat}:cI (l+1) (low true l o)=true:=by
 cases o with
 |none=>simp [low,cI]
 |some m=>simp [low,cI];omega
theorem aIS{v:AV}{t:Nat}(h:fM v=some t):toks v=true:=by
 cases v with
 |slice sz xs o=>cases o<;>simp [fM] at h;simp [toks]
 |_=>simp [fM] at h
theorem aKP{vs:List AV}{v:AV}(h:v∈vs)(ht:toks v=true):kH vs=true:=by
 induction vs with
 |nil=>cases h
 |cons x xs ih=>
  rcases List.mem_cons.1 h with rfl|h
  ·simp [kH,ht]
  ·simp [kH,ih h]
theorem aB5{cs ds:List AV}{off:Nat}{v:AV}(h:v∈fO cs off ds):v∈cs∨v∈ds:=by
 unfold fO at h;rcases List.mem_append.1 h with h|h
 ·rcases List.mem_append.1 h with h|h
  ·exact .inl (List.mem_of_mem_take h)
  ·exact .inr h
 ·exact .inl (List.mem_of_mem_drop h)
theorem St.set{l:Nat}{cs ds cs':List AV}{w:Bool}{off:Nat}(h:St L T s0 s bs gs)(i:Nat)(hb:bs[i]?=some (l,.cells cs w))(hc:fO cs off ds=cs')(ht: ∀v∈ds,∀t,fM v=some t→t<s.toks.length):
  St L T s0 (lA s l ds (s.blks.set l (.cells cs' true))) (bs.set i (l,.cells cs' true)) gs:=by
 subst hc;have hm:(l,cQ.cells cs w)∈bs:=List.mem_of_getElem? hb;have hi:i<bs.length:=(List.getElem?_eq_some_iff.1 hb).1;have hbi:bs[i]=(l,.cells cs w):=(List.getElem?_eq_some_iff.1 hb).2;have hkeys:(bs.set i (l,cQ.cells (fO cs off ds) true)).map (·.1)=bs.map (·.1):=by
  rw [List.map_set];apply List.ext_getElem?;intro k;by_cases hk:i=k
  ·subst hk;simp [hi,hbi]
  ·rw [List.getElem?_set_ne hk]
 have hne: ∀p∈bs.set i (l,cQ.cells (fO cs off ds) true),p=(l,cQ.cells (fO cs off ds) true)∨(p∈bs∧p.1≠l):=by
  intro p hp;obtain⟨k,hk,rfl⟩:=List.mem_iff_getElem.1 hp;by_cases hik:i=k
  ·subst hik;simp
  ·refine .inr ⟨by rw [List.getElem_set_ne hik];exact List.getElem_mem _,fun he=>hik ?_⟩;rw [List.getElem_set_ne hik] at he;simp only [List.length_set] at hk;have h1:(bs.map (·.1))[i]'(by simpa using hi)=(bs.map (·.1))[k]'(by simpa using hk):=by simp [hbi,he]
   exact(List.getElem_inj h.nd).1 h1
 have hll:l<s.blks.length:=h.lt hm;refine⟨⟨by simp [lA];exact h.ext.bl,fun j hj hn=> ?_,h.ext.tl,h.ext.t⟩,?_,?_,by rw [hkeys];exact h.nd,h.g,h.gT,h.gd,?_,?_⟩
 ·rw [←h.ext.b j hj hn];refine List.getElem?_set_ne ?_
  rintro rfl
  rcases h.bL _ hm with h1|h1
  ·exact hn h1
  ·simp only at h1;omega
 ·intro p hp;rcases hne p hp with rfl|⟨hp,hn⟩
  ·simp [lA,hll]
  ·rw [←h.b p hp];exact List.getElem?_set_ne (Ne.symm hn)
 ·intro p hp;rcases hne p hp with rfl|⟨hp,hn⟩
  ·exact h.bL (l,.cells cs w) hm
  ·exact h.bL p hp
 ·intro p hp hl cs' w' he v hv t htk;rcases hne p hp with rfl|⟨hp,hn⟩
  ·simp only [cQ.cells.injEq] at he;obtain⟨rfl,rfl⟩:=he;rcases aB5 hv with hv|hv
   ·exact(h.lk (l,.cells cs w) hm hl cs w rfl v hv t htk).imp aB0 id
   ·left;simp only [lA,aKP hv (aIS htk)];exact aOt
  ·exact(h.lk p hp hl cs' w' he v hv t htk).imp aB0 id
 ·intro p hp cs' w' he v hv t htk;rcases hne p hp with rfl|⟨hp,hn⟩
  ·simp only [cQ.cells.injEq] at he;obtain⟨rfl,rfl⟩:=he;rcases aB5 hv with hv|hv
   ·exact h.tv (l,.cells cs w) hm cs w rfl v hv t htk
   ·exact ht v hv t htk
  ·exact h.tv p hp cs' w' he v hv t htk
theorem St.aM{p:Nat×cQ}(h:St L T s0 s bs gs)(i:Nat)(hp:bs[i]?=some p):St L T s0 s (p::bs.eraseIdx i) gs:=h.perm (xJ hp) (.refl _)
theorem St.tJ(h:St L T s0 s bs gs)(n:Nat):St L T s0 s (bs.take n) gs:=h.less (List.take_sublist _ _) (List.Sublist.refl _)
structure Kn(s:ASt)(bs:List (Nat×cQ))(gs:List (AV×Nat×List AV)):Prop where
 b: ∀p∈bs,s.blks[p.1]?=some p.2
 nd:(bs.map (·.1)).Nodup
 g: ∀p∈gs,Gr s.toks p.2.1 p.1 p.2.2
 gd:(gs.filterMap (fM ·.1)).Nodup
 tv: ∀p∈bs,∀cs w,p.2= .cells cs w→ ∀v∈cs,∀t,fM v=some t→t<s.toks.length
def eV(bs:List (Nat×cQ)):List Nat:=bs.map (·.1)
def cL(gs:List (AV×Nat×List AV)):List Nat:=gs.filterMap (fM ·.1)
theorem Kn.start(h:Kn s bs gs):St (eV bs) (cL gs) s (aT s) bs gs:=by
 refine⟨.clean _ _ _,h.b,fun p hp=> .inl (List.mem_map.2 ⟨p,hp,rfl⟩),h.nd,h.g,fun t ht=> .inl ht,h.gd,?_,h.tv⟩;intro p hp _ cs w he v hv t ht;exact .inr ⟨cs,w,by rw [←he];exact h.b p hp,hv⟩
theorem St.kn(h:St L T s0 s bs gs):Kn s bs gs:=⟨h.b,h.nd,h.g,h.gd,h.tv⟩
theorem aDz{n m:Nat}{o:Option Nat}(h:cI n o=true)(hn:n≤m):cI m o=true:=by
 cases o with
 |none=>simp [cI] at h
 |some k=>simp [cI] at h⊢;omega
theorem aDu{n:Nat}{a b:Option Nat}(h:cI n a=true):cI n (aBT a b)=true:=by
 cases a with
 |none=>simp [cI] at h
 |some x=>cases b<;>simp [aBT,cI] at h⊢ <;>omega
theorem aD9{n:Nat}{a b:Option Nat}(h:cI n b=true):cI n (aBT a b)=true:=by
 cases b with
 |none=>simp [cI] at h
 |some x=>cases a<;>simp [aBT,cI] at h⊢ <;>omega
theorem qO{d:Bool}(n:Nat)(h:cI n s0.lowT=true):cI n (eQ s0 d s).lowT=true:=by
 unfold eQ;split
 ·unfold wN;split
  ·exact aDu h
  ·exact h
 ·split
  ·exact h
  ·exact aDu h
theorem vY(v:AV)(n:Nat)(h:cI n s0.lowT=true):cI n (settle s0 v s).2.lowT=true:=by
 unfold settle;split
 ·split
  ·exact qO n h
  ·split
   ·split
    ·exact h
    ·exact qO n h
   ·exact qO n h
 ·exact qO n h
theorem aCR{d:Bool}:(dE s0 d s).lowT=s.lowT:=by
 unfold dE;split
 ·rfl
 ·split<;>rfl
theorem aIr{d:Bool}(hb:s0.blks.length≤s.blks.length):((eQ s0 d s).toks=s.toks∧(cI s0.blks.length s.lowT=true→ ∀n,cI n s.lowT=true→cI n (eQ s0 d s).lowT=true))∨cI s0.blks.length s.lowT=false:=by
 unfold eQ;split
 ·refine .inl ⟨rfl,fun hl n hn=> ?_⟩;simp only [wN,hl];exact aD9 hn
 ·split
  ·rename_i hc;simp only [aBs,Bool.and_eq_true,Bool.not_eq_true',Bool.or_eq_false_iff] at hc;exact .inr hc.2.1
  ·exact .inl ⟨rfl,fun _ n hn=>aD9 hn⟩
theorem vU(v:AV)(hb:s0.blks.length≤s.blks.length):((settle s0 v s).2.toks=s.toks∧(cI s0.blks.length s.lowT=true→ ∀n,cI n s.lowT=true→cI n (settle s0 v s).2.lowT=true))∨cI s0.blks.length s.lowT=false:=by
 have key: ∀d1 d2,((eQ s0 d1 (dE s0 d2 s)).toks=s.toks∧(cI s0.blks.length s.lowT=true→ ∀n,cI n s.lowT=true→cI n (eQ s0 d1 (dE s0 d2 s)).lowT=true))∨cI s0.blks.length s.lowT=false:=by
  intro d1 d2;have:=aIr (s0:=s0) (s:=dE s0 d2 s) (d:=d1) (aAg hb);rwa [aCR,uL] at this
 unfold settle;split
 ·split
  ·exact key _ _
  ·split
   ·rename_i hc _;split
    ·simp only [aBs,Bool.and_eq_true,Bool.not_eq_true',Bool.or_eq_false_iff,aCR] at hc;exact .inr hc.2.1
    ·exact key _ _
   ·exact key _ _
 ·exact key _ _
theorem St.settle(h:St L T s0 s bs gs)(v:AV)(hk: ∀p∈bs,p.1<s0.blks.length)(hk0: ∀p∈bs,∀cs0 w0,s0.blks[p.1]?=some (.cells cs0 w0)→ ∀v∈cs0,∀t,fM v=some t→t<s0.toks.length)(hg: ∀q∈gs,∃p∈bs,∃cs w,p.2= .cells cs w∧q.1∈cs):St L T s0 (settle s0 v s).2 bs gs:=by
 have hx:=h.ext.settle v;have htok: ∀t,(∃p∈bs,∃cs w,p.2= .cells cs w∧ ∃v∈cs,fM v=some t)→(Fw.settle s0 v s).2.toks[t]?=s.toks[t]?∧t<(Fw.settle s0 v s).2.toks.length∧(s0.toks.length≤t→ ∀n,cI n s.lowT=true→cI n (Fw.settle s0 v s).2.lowT=true):=by
  rintro t ⟨p,hp,cs,w,he,u,hu,ht⟩
  have hts:=h.tv p hp cs w he u hu t ht;by_cases h0:s0.toks.length≤t
  ·have hl:cI (p.1+1) s.lowT=true:=by
    rcases h.lk p hp (hk p hp) cs w he u hu t ht with hl|⟨cs0,w0,h1,h2⟩
    ·exact hl
    ·have:=hk0 p hp cs0 w0 h1 u h2 t ht;omega
   have hl2:=aDz hl (show p.1+1≤s0.blks.length from hk p hp);rcases vU v h.ext.bl with ⟨h1,h2⟩|h1
   ·exact⟨by rw [h1],by rw [h1];exact hts,fun _=>h2 hl2⟩
   ·rw [hl2] at h1;cases h1
  ·refine⟨?_,Nat.lt_of_lt_of_le (by omega) hx.tl,fun hh=>absurd hh h0⟩;rcases vU v h.ext.bl with ⟨h1,_⟩|h1
   ·rw [h1]
   ·unfold Fw.settle;have key: ∀d1 d2,(eQ s0 d1 (dE s0 d2 s)).toks[t]?=s.toks[t]?:=fun d1 d2=>by rw [aD0 t (by omega),uL]
    split
    ·split
     ·exact key _ _
     ·split
      ·split
       ·simp only [];rw [List.getElem?_append_left (by simp only [List.length_take];have:=h.ext.tl;omega)];simp [List.getElem?_take,show t<s0.toks.length by omega]
       ·exact key _ _
      ·exact key _ _
    ·exact key _ _
 have htg: ∀q∈gs,∀t,fM q.1=some t→ ∃p∈bs,∃cs w,p.2= .cells cs w∧ ∃v∈cs,fM v=some t:=by
  intro q hq t ht;obtain⟨p,hp,cs,w,he,hm⟩:=hg q hq;exact⟨p,hp,cs,w,he,q.1,hm,ht⟩
 refine⟨hx,fun p hp=> ?_,h.bL,h.nd,fun q hq=> ?_,h.gT,h.gd,?_,?_⟩
 ·rw [aIs v p.1 (hk p hp)];exact h.b p hp
 ·exact(h.g q hq).aBr fun t ht=>(htok t (htg q hq t ht)).1
 ·intro p hp hl cs w he u hu t ht;rcases h.lk p hp hl cs w he u hu t ht with h1|h1
  ·have hl2:=aDz h1 (show p.1+1≤s0.blks.length from hl);rcases vU v h.ext.bl with ⟨_,h2⟩|h2
   ·exact .inl (h2 hl2 _ h1)
   ·rw [hl2] at h2;cases h2
  ·exact .inr h1
 ·intro p hp cs w he u hu t ht;exact(htok t ⟨p,hp,cs,w,he,u,hu,ht⟩).2.1
theorem aMd{v1 v:AV}(h1:mO v1=some v)(hn:sM v=false):sM v1=false:=by
 cases v1<;>first|rfl|skip
 rename_i sz xs o;cases o<;>(simp [mO,gP,iL] at h1;subst h1;cases hn)
theorem bZ{P:aS}{g:Nat}{af:AF}{args:List AV}{s:ASt}{v:AV}(h0:P.prim g=none)(h:P.fn g=some af)(hn:Nat.ble args.length af.nt=true)
(k:Wk P none af.body ⟨gI args,[]⟩ (aT s) (rP P af (PQ s v))):Fc P (.func g) args s (dZ s v):=
 aJc h0 h hn (fun v1 s3 hq=>⟨_,rfl,wF hq.1,fun hn=>(yH (aMd hq.1 hn)).trans (hq.2.1 (aMd hq.1 hn)),fun n _ hl=>vY v1 n hl,hq.2.2.settle v1⟩) k
def lV{α:Type}(s:ASt)(L T:List Nat)(v:AV)(bs:α→List (Nat×cQ))(gs:α→List (AV×Nat×List AV))(fs:α→Prop):jM→ASt→Prop:=fun o s'=>
 ∃v0,o= .ret v0∧mO v0=some v∧(sM v=false→v0=v)∧(∀n,n≤s.blks.length→cI n s.lowT=true→cI n s'.lowT=true)∧ ∃a,fs a∧St L T s s' (bs a) (gs a)
abbrev aOy(bs:List (Nat×cQ))(gs:List (AV×Nat×List AV)):Prop:= ∀q∈gs,∃p∈bs,∃cs w,p.2= .cells cs w∧q.1∈cs
def RX{α:Type}(s:ASt)(L T:List Nat)(bs:α→List (Nat×cQ))(gs:α→List (AV×Nat×List AV))(fs:α→Prop):ASt→Prop:=fun s3=> ∃a,fs a∧St L T s s3 (bs a) (gs a)
theorem pO{α:Type}{P:aS}{g:Nat}{af:AF}{args:List AV}{v:AV}{bs0:List (Nat×cQ)}{gs0:List (AV×Nat×List AV)}{bs:α→List (Nat×cQ)}{gs:α→List (AV×Nat×List AV)}{fs:α→Prop}(hK:Kn s bs0 gs0)(hkeys: ∀a,eV (bs a)=eV bs0)(hin: ∀a,aOy (bs a) (gs a))(h0:P.prim g=none)(h:P.fn g=some af)(hn:Nat.ble args.length af.nt=true)
(k:Wk P none af.body ⟨gI args,[]⟩ (aT s) (rP P af (VQ v (RX s L T bs gs fs)))):Fc P (.func g) args s (lV s L T v bs gs fs):=
 aJc h0 h hn (fun v1 s3 hq=>by
  obtain⟨h1,h1',a,hF,h2⟩:=hq;refine⟨_,rfl,wF h1,fun hn=> ?_,fun n _ hl=>vY v1 n hl,a,hF,h2.settle v1 (fun p hp=> ?_) (fun p hp cs0 w0 hc v hv t ht=> ?_) (hin a)⟩
  ·have hv1:sM v1=false:=by
    cases v1<;>first|rfl|skip
    rename_i sz xs o;cases o<;>(simp [mO,gP,iL] at h1;subst h1;cases hn)
   rw [yH hv1,h1' hv1]
  ·have hm:p.1∈eV bs0:=hkeys a▸List.mem_map.2 ⟨p,hp,rfl⟩;obtain⟨q,hq,he⟩:=List.mem_map.1 hm;rw [←he];exact(List.getElem?_eq_some_iff.1 (hK.b q hq)).1
  ·have hm:p.1∈eV bs0:=hkeys a▸List.mem_map.2 ⟨p,hp,rfl⟩;obtain⟨q,hq,he⟩:=List.mem_map.1 hm;have:=hK.b q hq;rw [he,hc,Option.some.injEq] at this;exact hK.tv q hq cs0 w0 this.symm v hv t ht) k
def u4(s:ASt)(L T:List Nat)(v:AV):jM→ASt→Prop:=fun o s'=>o= .panic v∧(∀n,n≤s.blks.length→cI n s.lowT=true→cI n s'.lowT=true)∧Ext L T s s'
def wZ{R Pn:Type}(r:Ctl R Pn)(A:R→jM→ASt→Prop)(B:Pn→jM→ASt→Prop):jM→ASt→Prop:=match r with| .ret q=>A q| .nx p=>B p
def aSa{R Pn:Type}(r:Ctl R Pn)(A:R→cY→Fr→ASt→Prop)(B:Pn→cY→Fr→ASt→Prop):cY→Fr→ASt→Prop:=match r with| .ret q=>A q| .nx p=>B p
theorem sR{α R Pn:Type}{P:aS}{g:Nat}{af:AF}{args:List AV}{bs0:List (Nat×cQ)}{gs0:List (AV×Nat×List AV)}(r:Ctl R Pn){v:R→AV}{pv:Pn→AV}{bs:R→α→List (Nat×cQ)}{gs:R→α→List (AV×Nat×List AV)}{fs:R→α→Prop}(hK:Kn s bs0 gs0)(hkeys: ∀q a,eV (bs q a)=eV bs0)(hin: ∀q a,aOy (bs q a) (gs q a))(h0:P.prim g=none)(h:P.fn g=some af)(hn:Nat.ble args.length af.nt=true)
(k:Wk P none af.body ⟨gI args,[]⟩ (aT s) (aSa r (fun q=>rP P af (VQ (v q) (RX s L T (bs q) (gs q) (fs q)))) (fun p=>aK6 (pv p) (Ext L T s)))):Fc P (.func g) args s (wZ r (fun q=>lV s L T (v q) (bs q) (gs q) (fs q)) (fun p=>u4 s L T (pv p))):=by
 cases r with
 |ret q=>exact pO hK (hkeys q) (hin q) h0 h hn k
 |nx p=>exact aLQ h0 h hn (fun s3 hx=>⟨rfl,fun n _ hl=>qO n hl,hx.aGo _ _⟩) k
theorem St.panicked{L' T':List Nat}{bs1 bs2:List (Nat×cQ)}{gs1 gs2:List (AV×Nat×List AV)}(h:St L T s0 s (bs1++bs2) (gs1++gs2))(hL:L'=eV bs1)(hT:T'=cL gs1)(k:Ext L' T' s s')(hlow: ∀n,n≤s.blks.length→cI n s.lowT=true→cI n s'.lowT=true):St L T s0 s' bs2 gs2:=by
 subst hL hT;have hnd:(eV bs1++eV bs2).Nodup:=by have:=h.nd;rwa [List.map_append] at this
 have hgd:(cL gs1++cL gs2).Nodup:=by have:=h.gd;rwa [List.filterMap_append] at this
 have hnot: ∀p∈bs2,p.1∉eV bs1:=fun p hp hm=>(List.nodup_append.1 hnd).2.2 _ hm _ (List.mem_map.2 ⟨p,hp,rfl⟩) rfl;have hm2: ∀p∈bs2,p∈bs1++bs2:=fun p hp=>List.mem_append_right _ hp;have hin: ∀x∈eV bs1,x∈L∨s0.blks.length≤x:=by
  intro x hx;obtain⟨p,hp,rfl⟩:=List.mem_map.1 hx;exact h.bL p (List.mem_append_left _ hp)
 have hint: ∀t∈cL gs1,t∈T∨s0.toks.length≤t:=fun t ht=>h.gT t (by rw [List.filterMap_append];exact List.mem_append_left _ ht);have tk2: ∀q∈gs2,∀t,fM q.1=some t→s'.toks[t]?=s.toks[t]?:=by
  intro q hq t ht;have hq2:t∈cL gs2:=List.mem_filterMap.2 ⟨q,hq,ht⟩;refine k.t t ((h.g q (List.mem_append_right _ hq)).tlt ht) fun hm=>(List.nodup_append.1 hgd).2.2 _ hm _ hq2 rfl
 refine⟨⟨Nat.le_trans h.ext.bl k.bl,fun i hi hn=> ?_,Nat.le_trans h.ext.tl k.tl,fun i hi hn=> ?_⟩,fun p hp=> ?_,fun p hp=>h.bL p (hm2 p hp),(List.nodup_append.1 hnd).2.1,fun q hq=>(h.g q (List.mem_append_right _ hq)).aBr (tk2 q hq),fun t ht=>h.gT t (by rw [List.filterMap_append];exact List.mem_append_right _ ht),(List.nodup_append.1 hgd).2.1,fun p hp hl cs w he v hv t ht=> ?_,fun p hp cs w he v hv t ht=> ?_⟩
 ·rw [k.b i (Nat.lt_of_lt_of_le hi h.ext.bl) (fun hm=>by rcases hin i hm with h1|h1;exact hn h1;omega)];exact h.ext.b i hi hn
 ·rw [k.t i (Nat.lt_of_lt_of_le hi h.ext.tl) (fun hm=>by rcases hint i hm with h1|h1;exact hn h1;omega)];exact h.ext.t i hi hn
 ·rw [k.b p.1 (h.lt (hm2 p hp)) (hnot p hp)];exact h.b p (hm2 p hp)
 ·exact(h.lk p (hm2 p hp) hl cs w he v hv t ht).imp (hlow _ (h.lt (hm2 p hp))) id
 ·exact Nat.lt_of_lt_of_le (h.tv p (hm2 p hp) cs w he v hv t ht) k.tl
theorem St.call{L' T':List Nat}{bs1 bs2 bs1':List (Nat×cQ)}{gs1 gs2 gs1':List (AV×Nat×List AV)}(h:St L T s0 s (bs1++bs2) (gs1++gs2))(hL:L'=eV bs1)(hT:T'=cL gs1)(k:St L' T' s s' bs1' gs1')(hlow: ∀n,n≤s.blks.length→cI n s.lowT=true→cI n s'.lowT=true)(hk:eV bs1'=eV bs1):
  St L T s0 s' (bs1'++bs2) (gs1'++gs2):=by
 subst hL hT;have hnd:(eV bs1++eV bs2).Nodup:=by have:=h.nd;rwa [List.map_append] at this
 have hgd:(cL gs1++cL gs2).Nodup:=by have:=h.gd;rwa [List.filterMap_append] at this
 have hnot: ∀p∈bs2,p.1∉eV bs1:=fun p hp hm=>(List.nodup_append.1 hnd).2.2 _ hm _ (List.mem_map.2 ⟨p,hp,rfl⟩) rfl;have hm2: ∀p∈bs2,p∈bs1++bs2:=fun p hp=>List.mem_append_right _ hp;have hin: ∀x∈eV bs1,x∈L∨s0.blks.length≤x:=by
  intro x hx;obtain⟨p,hp,rfl⟩:=List.mem_map.1 hx;exact h.bL p (List.mem_append_left _ hp)
 have hint: ∀t∈cL gs1,t∈T∨s0.toks.length≤t:=fun t ht=>h.gT t (by rw [List.filterMap_append];exact List.mem_append_left _ ht);have b1': ∀p∈bs1',p.1∈eV bs1:=fun p hp=>hk▸List.mem_map.2 ⟨p,hp,rfl⟩;have tk2: ∀q∈gs2,∀t,fM q.1=some t→s'.toks[t]?=s.toks[t]?:=by
  intro q hq t ht;have hq2:t∈cL gs2:=List.mem_filterMap.2 ⟨q,hq,ht⟩;refine k.ext.t t ((h.g q (List.mem_append_right _ hq)).tlt ht) fun hm=>(List.nodup_append.1 hgd).2.2 _ hm _ hq2 rfl
 refine⟨⟨Nat.le_trans h.ext.bl k.ext.bl,fun i hi hn=> ?_,Nat.le_trans h.ext.tl k.ext.tl,fun i hi hn=> ?_⟩,?_,?_,?_,?_,?_,?_,?_,?_⟩
 ·rw [k.ext.b i (Nat.lt_of_lt_of_le hi h.ext.bl) (fun hm=>by rcases hin i hm with h1|h1;exact hn h1;omega)];exact h.ext.b i hi hn
 ·rw [k.ext.t i (Nat.lt_of_lt_of_le hi h.ext.tl) (fun hm=>by rcases hint i hm with h1|h1;exact hn h1;omega)];exact h.ext.t i hi hn
 ·intro p hp;rcases List.mem_append.1 hp with hp|hp
  ·exact k.b p hp
  ·rw [k.ext.b p.1 (h.lt (hm2 p hp)) (hnot p hp)];exact h.b p (hm2 p hp)
 ·intro p hp;rcases List.mem_append.1 hp with hp|hp
  ·exact hin _ (b1' p hp)
  ·exact h.bL p (hm2 p hp)
 ·rw [List.map_append];show(eV bs1'++eV bs2).Nodup;rw [hk];exact hnd
 ·intro q hq;rcases List.mem_append.1 hq with hq|hq
  ·exact k.g q hq
  ·exact(h.g q (List.mem_append_right _ hq)).aBr (tk2 q hq)
 ·intro t ht;rw [List.filterMap_append] at ht;rcases List.mem_append.1 ht with ht|ht
  ·rcases k.gT t ht with h1|h1
   ·exact hint t h1
   ·exact .inr (Nat.le_trans h.ext.tl h1)
  ·exact h.gT t (by rw [List.filterMap_append];exact List.mem_append_right _ ht)
 ·rw [List.filterMap_append];refine List.nodup_append.2 ⟨k.gd,(List.nodup_append.1 hgd).2.1,?_⟩
  rintro a ha b hb rfl
  rcases k.gT a ha with h1|h1
  ·exact(List.nodup_append.1 hgd).2.2 _ h1 _ hb rfl
  ·obtain⟨q,hq,ht⟩:=List.mem_filterMap.1 hb;have:=(h.g q (List.mem_append_right _ hq)).tlt ht;omega
 ·intro p hp hl cs w he v hv t ht;rcases List.mem_append.1 hp with hp|hp
  ·obtain⟨p0,hp0,he0⟩:=List.mem_map.1 (b1' p hp);have hpl:p.1<s.blks.length:=by rw [←he0];exact h.lt (List.mem_append_left _ hp0)
   rcases k.lk p hp hpl cs w he v hv t ht with h1|⟨cs0,w0,h1,h2⟩
   ·exact .inl h1
   ·have hb0:=h.b p0 (List.mem_append_left _ hp0);rw [he0,h1,Option.some.injEq] at hb0;rcases h.lk p0 (List.mem_append_left _ hp0) (by rw [he0];exact hl) cs0 w0 hb0.symm v h2 t ht with h3|h3
    ·rw [he0] at h3;exact .inl (hlow _ hpl h3)
    ·rw [he0] at h3;exact .inr h3
  ·exact(h.lk p (hm2 p hp) hl cs w he v hv t ht).imp (hlow _ (h.lt (hm2 p hp))) id
 ·intro p hp cs w he v hv t ht;rcases List.mem_append.1 hp with hp|hp
  ·exact k.tv p hp cs w he v hv t ht
  ·exact Nat.lt_of_lt_of_le (h.tv p (hm2 p hp) cs w he v hv t ht) k.ext.tl
end
inductive TkL(n:Nat):List AV→Prop
 |nil:TkL n []
 |cons {v:AV} {vs:List AV} (h: ∀t,fM v=some t→t<n) (r:TkL n vs):TkL n (v::vs)
theorem TkL.all{n:Nat}{vs:List AV}(h:TkL n vs): ∀v∈vs,∀t,fM v=some t→t<n:=by
 induction h with
 |nil=>intro v hv;cases hv
 |cons h _ ih=>intro v hv;rcases List.mem_cons.1 hv with rfl|hv;exact h;exact ih v hv
theorem tkN{n:Nat}{v:AV}(h:fM v=none): ∀t,fM v=some t→t<n:=fun t ht=>by rw [h] at ht;cases ht
theorem aPF{n:Nat}: ∀{vs:List AV},vs.all aMB=true→TkL n vs
 | [],_=> .nil
 |v::vs,h=>by
  simp only [List.all_cons,Bool.and_eq_true] at h;exact .cons (tkN (by simpa [aMB] using h.1)) (aPF h.2)
theorem Sl.cells{sz:Nat}{w:AV}{xs:List AV}(h:Sl sz w xs):cellsOf w= [w]:=by obtain⟨z,o,rfl,_⟩:=h.is;rfl
theorem Sl.box{sz:Nat}{w:AV}{xs:List AV}(h:Sl sz w xs):uZ w=true:=by obtain⟨z,o,rfl,_⟩:=h.is;rfl
theorem St.tkG{L T:List Nat}{s0 s:ASt}{bs:List (Nat×cQ)}{gs:List (AV×Nat×List AV)}{w:AV}{sz:Nat}{xs:List AV}(h:St L T s0 s bs gs)(i:Nat)(hp:gs[i]?=some (w,sz,xs)): ∀t,fM w=some t→t<s.toks.length:=
 fun _ ht=>(h.g _ (List.mem_of_getElem? hp)).tlt ht
@[reducible] def nwB{X:Type}(l:Nat)(o:Option X)(f:X→List AV):List (Nat×cQ):=match o with|some c=> [(l,.cells (f c) true)]|none=> []
@[reducible] def nwG {X Y:Type} (o:Option X) (f:X→List Y):List Y:=match o with|some c=>f c|none=> []
@[reducible] def nwF {X:Type} (o:Option X) (f:X→Prop):Prop:=match o with|some c=>f c|none=>True
theorem aRt{X Y:Type}{l:Nat}{o:Option X}{f:X→List AV}{g:X→List Y}(h:nwB l o f= []):nwG o g= []:=by
 cases o with
 |none=>rfl
 |some c=>cases h
section
variable {L T : List Nat} {s0 s s' : ASt} {bs bs' : List (Nat × cQ)} {gs gs' : List (AV × Nat × List AV)}
def aOL{α:Type}(s:ASt)(v:α→AV)(bs:α→List (Nat×cQ))(gs:α→List (AV×Nat×List AV))(fs:α→Prop):jM→ASt→Prop:=fun o s'=>
 ∃a,o= .ret (v a)∧(∀n,n≤s.blks.length→cI n s.lowT=true→cI n s'.lowT=true)∧fs a∧St [] [] s s' (bs a) (gs a)
def NQ{α:Type}(s:ASt)(v:α→AV)(bs:α→List (Nat×cQ))(gs:α→List (AV×Nat×List AV))(fs:α→Prop):AV→ASt→Prop:=fun v1 s3=> ∃a,v1=v a∧fs a∧St [] [] s s3 (bs a) (gs a)
theorem aIL{v:AV}(hs:sM v=false)(hl:m9 v=true)(hn:s.blks.length≠s0.blks.length):(Fw.settle s0 v s).1=v∧(Fw.settle s0 v s).2.blks=s.blks∧(Fw.settle s0 v s).2.toks=s.toks:=by
 have h1:Nat.beq s.blks.length s0.blks.length=false:=by
  cases h:Nat.beq s.blks.length s0.blks.length with
  |false=>rfl
  |true=>exact absurd (Nat.eq_of_beq_eq_true h) hn
 have h2:dE s0 true s={s with lowB:=aBT s0.lowB s.lowB}:=by
  unfold dE;rw [h1];simp
 have h3:Fw.settle s0 v s=(v,eQ s0 (toks v) (dE s0 (m9 v) s)):=by
  cases v<;>first|rfl|(cases hs)
 rw [h3,hl,h2];refine⟨rfl,mL,?_⟩;unfold eQ;split
 ·rfl
 ·have:aBs s0 (toks v) {s with lowB:=aBT s0.lowB s.lowB}=false:=by
   unfold aBs;simp only [h1,Bool.false_and]
  rw [this]
theorem St.aPi{v:AV}(h:St L T s0 s bs gs)(hs:sM v=false)(hl:m9 v=true)(hn:s.blks.length≠s0.blks.length)(hL: ∀p∈bs,s0.blks.length≤p.1):St L T s0 (Fw.settle s0 v s).2 bs gs:=by
 obtain⟨_,h1,h2⟩:=aIL (s:=s) (s0:=s0) hs hl hn;refine⟨h.ext.settle v,fun p hp=>by rw [h1];exact h.b p hp,h.bL,h.nd,fun p hp=>by rw [h2];exact h.g p hp,h.gT,h.gd,fun p hp hq=>absurd (hL p hp) (by omega),fun p hp cs w he v hv t ht=>by rw [h2];exact h.tv p hp cs w he v hv t ht⟩
theorem NQ.out{α:Type}{v:α→AV}{bs:α→List (Nat×cQ)}{gs:α→List (AV×Nat×List AV)}{fs:α→Prop}(hs: ∀a,sM (v a)=false)(hl: ∀a,m9 (v a)=true)(he: ∀a,bs a= []→gs a= []){v1:AV}{s3:ASt}(h:NQ s v bs gs fs v1 s3):aOL s v bs gs fs (.ret (Fw.settle s v1 s3).1) (Fw.settle s v1 s3).2:=by
 obtain⟨a,rfl,hF,hS⟩:=h;have h0:(Fw.settle s (v a) s3).1=v a:=yH (hs a);refine⟨a,by rw [h0],fun n _ hl=>vY _ n hl,hF,?_⟩;have hL: ∀p∈bs a,s.blks.length≤p.1:=fun p hp=>(hS.bL p hp).resolve_left (by simp);cases hb:bs a with
 |nil=>
  rw [he a hb];exact⟨hS.ext.settle _,by simp,by simp,by simp,by simp,by simp,by simp,by simp,by simp⟩
 |cons p r=>
  have hp:p∈bs a:=hb▸List.mem_cons_self;have h1:=hS.lt hp;have h2:=hL p hp;rw [←hb];exact hS.aPi (hs a) (hl a) (by omega) hL
theorem St.cH{fb:List (Nat×cQ)}{fg:List (AV×Nat×List AV)}(h:St L T s0 s bs gs)(k:St [] [] s s' fb fg)(hlow: ∀n,n≤s.blks.length→cI n s.lowT=true→cI n s'.lowT=true):St L T s0 s' (fb++bs) (fg++gs):=by
 have h1:St L T s0 s' bs gs:=St.call (L':= []) (T':= []) (bs1:= []) (gs1:= []) (bs1':= []) (gs1':= []) h rfl rfl (k.less (List.nil_sublist _) (List.nil_sublist _)) hlow rfl;have hL: ∀p∈fb,s.blks.length≤p.1:=fun p hp=>(k.bL p hp).resolve_left (by simp);have hT: ∀t∈fg.filterMap (fM ·.1),s.toks.length≤t:=fun t ht=>(k.gT t ht).resolve_left (by simp);refine⟨h1.ext,?_,?_,?_,?_,?_,?_,?_,?_⟩
 ·intro p hp;exact(List.mem_append.1 hp).elim (k.b p) (h1.b p)
 ·intro p hp;exact(List.mem_append.1 hp).elim (fun hp=> .inr (Nat.le_trans h.ext.bl (hL p hp))) (h1.bL p)
 ·rw [List.map_append];refine List.nodup_append.2 ⟨k.nd,h1.nd,?_⟩;intro x hx y hy hxy;obtain⟨p,hp,rfl⟩:=List.mem_map.1 hx;obtain⟨q,hq,rfl⟩:=List.mem_map.1 hy;have:=hL p hp;have:=h.lt hq;omega
 ·intro p hp;exact(List.mem_append.1 hp).elim (k.g p) (h1.g p)
 ·intro t ht;rw [List.filterMap_append] at ht;exact(List.mem_append.1 ht).elim (fun ht=> .inr (Nat.le_trans h.ext.tl (hT t ht))) (h1.gT t)
 ·rw [List.filterMap_append];refine List.nodup_append.2 ⟨k.gd,h1.gd,?_⟩;intro x hx y hy hxy;obtain⟨q,hq,hy'⟩:=List.mem_filterMap.1 hy;have:=hT x hx;have:=(h.g q hq).tlt hy';omega
 ·intro p hp hl;rcases List.mem_append.1 hp with hp|hp
  ·have:=hL p hp;have:=h.ext.bl;omega
  ·exact h1.lk p hp hl
 ·intro p hp;exact(List.mem_append.1 hp).elim (k.tv p) (h1.tv p)
theorem aPR{α:Type}{P:aS}{af:AF}{e:Env}{s:ASt}{u v:AV}{vs ws:List AV}{vf:α→AV}{bs:α→List (Nat×cQ)}{gs:α→List (AV×Nat×List AV)}{fs:α→Prop}(h3:jK P e s af.res=some (u::v::vs))(h:vF (u::v::vs) ws)(hx: ∃a,.tuple ws=vf a∧fs a∧St [] [] s0 s (bs a) (gs a)):aGf P af (NQ s0 vf bs gs fs) e s:=by
 refine⟨_,.tuple ws,s,h3,?_,hx⟩;have:=h.vs s;simp only [nE,this]
end
section
variable {P : aS} {e : Env} {ds : List hY} {s s1 : ASt} {Q : pM → Prop} {d : Nat} {d' : Option Nat} {rest : List AI} {pre : List Nat} {v : AV} {gd : Option (Nat × Bool)} {pd : List (Nat × Nat)}
 {L T : List Nat} {s0 : ASt} {bs : List (Nat × cQ)} {gs : List (AV × Nat × List AV)}
theorem kG{z:List AV}(hg:wanted e gd=some true)(hS:St L T s0 s bs gs)(hz:z.all aMB=true)(k: ∀l s',St L T s0 s' ((l,.cells z true)::bs) gs→Wo P rest (aK (some d) pd) ⟨upd e d (.ptr l 0),ds⟩ s' Q):Wo P (⟨some d,.alloc z,gd,pre⟩::rest) pd ⟨e,ds⟩ s Q:=
 wgp rfl hg (v:= .ptr s.blks.length 0) (by simp only [cX,bJ,fS,eD]) (k _ _ (hS.alloc (aPF hz).all true))
theorem aMe{x:aJ}{cs:List AV}(hg:wanted e gd=some true)(hS:St L T s0 s bs gs)(hx:cellsOf (evO P e x)=cs)(hb:uZ (evO P e x)=true)(ht:TkL s.toks.length cs)(k: ∀l s',St L T s0 s' ((l,.cells cs true)::bs) gs→Wo P rest (aK (some d) pd) ⟨upd e d (.ptr l 0),ds⟩ s' Q):Wo P (⟨some d,.box x,gd,pre⟩::rest) pd ⟨e,ds⟩ s Q:=
 wgp rfl hg (v:= .ptr s.blks.length 0) (s1:={s with blks:=s.blks++ [.cells cs true]}) (by simp only [cX,bJ,fS,eD,hb,hx]) (k _ _ (hS.alloc ht.all true))
theorem bV{l off sz:Nat}{a x:aJ}{cs ds' cs':List AV}(i:Nat)(hg:wanted e gd=some true)(hS:St L T s0 s bs gs)(hb:bs[i]?=some (l,.cells cs true))(ha:evO P e a= .ptr l off)(hx:cellsOf (evO P e x)=ds')(hbx:uZ (evO P e x)=true)(hl:ds'.length=sz)(hf:off+sz≤cs.length)
(ht:TkL s.toks.length ds')(hc:fO cs off ds'=cs')(k: ∀s',St L T s0 s' (bs.set i (l,.cells cs' true)) gs→Wo P rest (aK d' pd) ⟨eU e d' fA,ds⟩ s' Q):Wo P (⟨d',.store sz a x,gd,pre⟩::rest) pd ⟨e,ds⟩ s Q:=by
 have hget:=hS.get i hb;refine aRa (d':=d') rfl hg (v:=fA) (s1:=lA s l ds' (s.blks.set l (.cells cs' true))) ?_ (k _ (hS.set i hb hc ht.all));have hcc:(uZ (evO P e x)&&decide ((cellsOf (evO P e x)).length=sz)&&decide (off+sz≤cs.length))=true:=by rw [hbx,hx,hl];simp [hf]
 simp only [cX,bJ,fS,eD,ha,hget];rw [if_pos hcc,hx,hc]
theorem j1{l off sz:Nat}{a:aJ}{cs:List AV}{w:Bool}(i:Nat)(hg:wanted e gd=some true)(hS:St L T s0 s bs gs)(hb:bs[i]?=some (l,.cells cs w))(ha:evO P e a= .ptr l off)(hv:cs[off]?=some v)
(k:Wo P rest (aK (some d) pd) ⟨upd e d v,ds⟩ s Q):Wo P (⟨some d,.load false sz a,gd,pre⟩::rest) pd ⟨e,ds⟩ s Q:=
 wgp rfl hg (by simp only [cX,bJ,fS,ha,hS.get i hb,hv]) k
theorem aAz{l off sz:Nat}{a:aJ}{cs us ws:List AV}{w:Bool}(i:Nat)(hg:wanted e gd=some true)(hS:St L T s0 s bs gs)(hb:bs[i]?=some (l,.cells cs w))(ha:evO P e a= .ptr l off)(hl:off+sz≤cs.length)(hu:(cs.drop off).take sz=us)(hf:Fx1 us ws)
(k:Wo P rest (aK (some d) pd) ⟨upd e d (.agg ws),ds⟩ s Q):Wo P (⟨some d,.load true sz a,gd,pre⟩::rest) pd ⟨e,ds⟩ s Q:=by
 refine wgp rfl hg (v:= .agg ws) (s1:=s) ?_ k;simp only [cX,bJ,fS,ha,hS.get i hb,partOf,hl,if_true,hu,hf.agg]
theorem aQo{α:Type}{f:aJ}{args:List aJ}{g:AFn}{a b vs us:List AV}{L' T':List Nat}{bs1 bs2:List (Nat×cQ)}{gs1 gs2:List (AV×Nat×List AV)}{bs':α→List (Nat×cQ)}{gs':α→List (AV×Nat×List AV)}{fs':α→Prop}
(hg:wanted e gd=some true)(hS:St L T s0 s (bs1++bs2) (gs1++gs2))(hc:Kn s bs1 gs1→Fc P g us s (lV s L' T' v bs' gs' fs'))(hL:L'=eV bs1)(hT:T'=cL gs1)(hk: ∀a,eV (bs' a)=eV bs1)
(hf:target (evO P e f)=some (g,a,b))(ha:vF (args.map (evO P e)) vs)(hu:a++vs++b=us)
(k: ∀v0 s' x,mO v0=some v→(sM v=false→v0=v)→fs' x→St L T s0 s' (bs' x++bs2) (gs' x++gs2)→Wo P rest (aK d' pd) ⟨eU e d' v0,ds⟩ s' Q):Wo P (⟨d',.call f args,gd,pre⟩::rest) pd ⟨e,ds⟩ s Q:=by
 have hK:Kn s bs1 gs1:=(hS.less (List.sublist_append_left _ _) (List.sublist_append_left _ _)).kn;refine zF (a:=a) (b:=b) hg hf (ha.vs s) ?_;rw [hu];refine(hc hK).ev.mono ?_
 rintro ⟨r,s'⟩ ⟨v0,h1,h2,h2',h3,x,hF,h4⟩
 simp only at h1;subst h1;exact k v0 s' x h2 h2' hF (hS.call hL hT h4 h3 (hk x))
theorem cA{α:Type}{f:aJ}{args:List aJ}{g:AFn}{a b vs us:List AV}{L' T':List Nat}{bs1 bs2:List (Nat×cQ)}{gs1 gs2:List (AV×Nat×List AV)}{bs':α→List (Nat×cQ)}{gs':α→List (AV×Nat×List AV)}{fs':α→Prop}
(hv:sM v=false)(hg:wanted e gd=some true)(hS:St L T s0 s (bs1++bs2) (gs1++gs2))(hc:Kn s bs1 gs1→Fc P g us s (lV s L' T' v bs' gs' fs'))(hL:L'=eV bs1)(hT:T'=cL gs1)(hk: ∀a,eV (bs' a)=eV bs1)
(hf:target (evO P e f)=some (g,a,b))(ha:vF (args.map (evO P e)) vs)(hu:a++vs++b=us)
(k: ∀s' x,fs' x→St L T s0 s' (bs' x++bs2) (gs' x++gs2)→Wo P rest (aK d' pd) ⟨eU e d' v,ds⟩ s' Q):Wo P (⟨d',.call f args,gd,pre⟩::rest) pd ⟨e,ds⟩ s Q:=
 aQo hg hS hc hL hT hk hf ha hu fun v0 s' x _ h2 hF h3=>by rw [h2 hv];exact k s' x hF h3
theorem gS{f:aJ}{args:List aJ}{g:AFn}{a b vs us:List AV}{L' T':List Nat}{bs1 bs2:List (Nat×cQ)}{gs1 gs2:List (AV×Nat×List AV)}
(hg:wanted e gd=some true)(hS:St L T s0 s (bs1++bs2) (gs1++gs2))(hc:Kn s bs1 gs1→Fc P g us s (u4 s L' T' v))(hL:L'=eV bs1)(hT:T'=cL gs1)
(hf:target (evO P e f)=some (g,a,b))(ha:vF (args.map (evO P e)) vs)(hu:a++vs++b=us)
(k: ∀s',St L T s0 s' bs2 gs2→Q (.pan v ⟨e,ds⟩ s')):Wo P (⟨d',.call f args,gd,pre⟩::rest) pd ⟨e,ds⟩ s Q:=by
 have hK:Kn s bs1 gs1:=(hS.less (List.sublist_append_left _ _) (List.sublist_append_left _ _)).kn;refine zF (a:=a) (b:=b) hg hf (ha.vs s) ?_;rw [hu];refine(hc hK).ev.mono ?_
 rintro ⟨r,s'⟩ ⟨h1,h2,h3⟩
 simp only at h1;subst h1;exact k s' (hS.panicked hL hT h3 h2)
theorem aFF{x:aJ}{t:Nat}(hg:wanted e gd=some true)(h:evO P e x= .iface t v)(hq:Q (.pan (.iface t v) ⟨e,ds⟩ s)):Wo P (⟨d',.panic x,gd,pre⟩::rest) pd ⟨e,ds⟩ s Q:=
 ⟨.one (fun _=>by simp only [bG,hg,h]) hq⟩
end
inductive tX(P:aS)(e:Env)(s:ASt):List ARV→List AV→Prop
 |nil:tX P e s [] []
 |cons {r:ARV} {v:AV} {rs:List ARV} {vs:List AV} (h:aAZ P e s r=some v) (t:tX P e s rs vs):tX P e s (r::rs) (v::vs)
theorem tX.eq{P:aS}{e:Env}{s:ASt}{rs:List ARV}{vs:List AV}(h:tX P e s rs vs):jK P e s rs=some vs:=by
 induction h with
 |nil=>rfl
 |cons h _ ih=>simp only [jK,h,ih]
theorem lT{P:aS}{e:Env}{L T:List Nat}{s0 s:ASt}{bs:List (Nat×cQ)}{gs:List (AV×Nat×List AV)}{t sz l off:Nat}{cs:List AV}{w:Bool}{v:AV}(hS:St L T s0 s bs gs)(i:Nat)(hb:bs[i]?=some (l,.cells cs w))(ha:e t= .ptr l off)(hv:cs[off]?=some v):aAZ P e s (.cell t false sz)=some v:=by
 simp only [aAZ,fS,evO,ha,hS.get i hb,hv]
theorem wQ{P:aS}{e:Env}{L T:List Nat}{s0 s:ASt}{bs:List (Nat×cQ)}{gs:List (AV×Nat×List AV)}{t sz l off:Nat}{cs us ws:List AV}{w:Bool}(hS:St L T s0 s bs gs)(i:Nat)(hb:bs[i]?=some (l,.cells cs w))(ha:e t= .ptr l off)(hl:off+sz≤cs.length)(hu:(cs.drop off).take sz=us)(hf:Fx1 us ws):aAZ P e s (.cell t true sz)=some (.agg ws):=by
 simp only [aAZ,fS,evO,ha,hS.get i hb,partOf,hl,if_true,hu,hf.agg]
theorem aDb{bs:List (Nat×cQ)}:aOy bs []:=fun _ h=>by cases h
def rune(t:Str)(pos:Nat):Nat×Nat:=Utf8.decode ⟨t.toArray⟩ pos
theorem aA2{α:Type}{f:α→List AV}{k:Nat}(hf: ∀x,(f x).length=k): ∀{l:List α}{n:Nat}{y:α},l[n]?=some y→((l.flatMap f).drop (n*k)).take k=f y∧n*k+k≤(l.flatMap f).length
 | [],_,_,h=>by simp at h
 |a::l,0,y,h=>by
  simp at h;subst h;simp only [Nat.zero_mul,List.drop_zero,List.flatMap_cons];exact⟨by rw [←hf a,List.take_left],by simp [hf]⟩
 |a::l,n+1,y,h=>by
  simp only [List.getElem?_cons_succ] at h;obtain⟨h1,h2⟩:=aA2 hf h;simp only [List.flatMap_cons];refine⟨?_,by rw [List.length_append,hf,Nat.succ_mul];omega⟩;rw [List.drop_append];have:(f a).length≤(n+1)*k:=by rw [hf,Nat.succ_mul];omega
  rw [List.drop_eq_nil_of_le this,List.nil_append,hf,Nat.succ_mul,Nat.add_sub_cancel];exact h1
section
variable {P : aS} {e : Env} {ds : List hY} {s s1 : ASt} {Q : pM → Prop} {d : Nat} {d' : Option Nat} {rest : List AI} {pre : List Nat} {v : AV} {gd : Option (Nat × Bool)} {pd : List (Nat × Nat)}
 {L T : List Nat} {s0 : ASt} {bs : List (Nat × cQ)} {gs : List (AV × Nat × List AV)}
theorem aQ3{α:Type}{l:List α}{n esz:Nat}{x i:aJ}{ik:IntKind}{m:Int}{y:α}(hg:wanted e gd=some true)(hx:evO P e x= .aF v 0)(hi:evO P e i= .int ik m)(h:idx l m=some y)(hl:l.length=n)
(k:Wo P rest (aK (some d) pd) ⟨upd e d (.aF v (0+m.toNat*esz)),ds⟩ s Q):Wo P (⟨some d,.aAC n esz x i,gd,pre⟩::rest) pd ⟨e,ds⟩ s Q:=by
 refine wgp rfl hg (s1:=s) ?_ k;unfold idx at h;split at h
 ·rename_i hm;have:=(List.getElem?_eq_some_iff.1 h).1;simp [cX,bJ,hx,hi,g6,hm,←hl,this]
 ·cases h
theorem aQc{α:Type}{f:α→AV}{l:List α}{esz:Nat}{a:aJ}{m:Int}{y:α}(hg:wanted e gd=some true)(ha:evO P e a= .aF v (0+m.toNat*esz))(hv:cellsOf v=l.flatMap fun x=>cellsOf (f x))(hf: ∀x,(cellsOf (f x)).length=esz)(h:idx l m=some y)
(k:Wo P rest (aK (some d) pd) ⟨upd e d (.agg (cellsOf (f y))),ds⟩ s Q):Wo P (⟨some d,.load true esz a,gd,pre⟩::rest) pd ⟨e,ds⟩ s Q:=by
 refine wgp rfl hg (s1:=s) ?_ k;unfold idx at h;split at h
 ·obtain⟨h1,h2⟩:=aA2 (f:=fun x=>cellsOf (f x)) hf h;have h3:partOf true esz (cellsOf v) (0+m.toNat*esz)=some (.agg (cellsOf (f y))):=by
   rw [hv,Nat.zero_add];simp only [partOf,h1];rw [if_pos h2]
  have h4:fS P e s (.load true esz a)=some (.agg (cellsOf (f y))):=by
   simp only [fS,ha];split
   ·rename_i h0;split
    ·rename_i hl;rw [h0] at h3;simp only [partOf,List.drop_zero] at h3;rw [←hl,List.take_length] at h3;simpa using h3
    ·rw [←h0];exact h3
   ·exact h3
  simp only [cX,bJ,h4]
 ·cases h
theorem St.aO0{b:cQ}(h:St L T s0 s bs gs)(hb: ∀cs w,b≠ .cells cs w):St L T s0 {s with blks:=s.blks++ [b]} ((s.blks.length,b)::bs) gs:=by
 refine⟨⟨by simp;have:=h.ext.bl;omega,fun i hi hn=> ?_,h.ext.tl,h.ext.t⟩,?_,?_,?_,h.g,h.gT,h.gd,?_,?_⟩
 ·rw [←h.ext.b i hi hn];exact List.getElem?_append_left (by have:=h.ext.bl;omega)
 ·intro p hp;rcases List.mem_cons.1 hp with rfl|hp
  ·simp
  ·rw [←h.b p hp];exact List.getElem?_append_left (h.lt hp)
 ·intro p hp;rcases List.mem_cons.1 hp with rfl|hp
  ·exact .inr h.ext.bl
  ·exact h.bL p hp
 ·simp only [List.map_cons,List.nodup_cons];refine⟨fun hm=> ?_,h.nd⟩;obtain⟨p,hp,he⟩:=List.mem_map.1 hm;have:=h.lt hp;omega
 ·intro p hp hl cs' w' he;rcases List.mem_cons.1 hp with rfl|hp
  ·exact absurd he (hb cs' w')
  ·exact h.lk p hp hl cs' w' he
 ·intro p hp cs' w' he;rcases List.mem_cons.1 hp with rfl|hp
  ·exact absurd he (hb cs' w')
  ·exact h.tv p hp cs' w' he
theorem St.aKY{l:Nat}{b0 b:cQ}(h:St L T s0 s bs gs)(i:Nat)(h0:bs[i]?=some (l,b0))(hb: ∀cs w,b≠ .cells cs w):St L T s0 {s with blks:=s.blks.set l b} (bs.set i (l,b)) gs:=by
 have hm:(l,b0)∈bs:=List.mem_of_getElem? h0;have hi:i<bs.length:=(List.getElem?_eq_some_iff.1 h0).1;have hbi:bs[i]=(l,b0):=(List.getElem?_eq_some_iff.1 h0).2;have hkeys:(bs.set i (l,b)).map (·.1)=bs.map (·.1):=by
  rw [List.map_set];apply List.ext_getElem?;intro k;by_cases hk:i=k
  ·subst hk;simp [hi,hbi]
  ·rw [List.getElem?_set_ne hk]
 have hne: ∀p∈bs.set i (l,b),p=(l,b)∨(p∈bs∧p.1≠l):=by
  intro p hp;obtain⟨k,hk,rfl⟩:=List.mem_iff_getElem.1 hp;by_cases hik:i=k
  ·subst hik;simp
  ·refine .inr ⟨by rw [List.getElem_set_ne hik];exact List.getElem_mem _,fun he=>hik ?_⟩;rw [List.getElem_set_ne hik] at he;simp only [List.length_set] at hk;have h1:(bs.map (·.1))[i]'(by simpa using hi)=(bs.map (·.1))[k]'(by simpa using hk):=by simp [hbi,he]
   exact(List.getElem_inj h.nd).1 h1
 have hll:l<s.blks.length:=h.lt hm;refine⟨⟨by simp;exact h.ext.bl,fun j hj hn=> ?_,h.ext.tl,h.ext.t⟩,?_,?_,by rw [hkeys];exact h.nd,h.g,h.gT,h.gd,?_,?_⟩
 ·rw [←h.ext.b j hj hn];refine List.getElem?_set_ne ?_
  rintro rfl
  rcases h.bL (l,b0) hm with h1|h1
  ·exact hn h1
  ·simp only at h1;omega
 ·intro p hp;rcases hne p hp with rfl|⟨hp,hn⟩
  ·simp [hll]
  ·rw [←h.b p hp];exact List.getElem?_set_ne (Ne.symm hn)
 ·intro p hp;rcases hne p hp with rfl|⟨hp,hn⟩
  ·exact h.bL (l,b0) hm
  ·exact h.bL p hp
 ·intro p hp hl cs' w' he;rcases hne p hp with rfl|⟨hp,hn⟩
  ·exact absurd he (hb cs' w')
  ·exact h.lk p hp hl cs' w' he
 ·intro p hp cs' w' he;rcases hne p hp with rfl|⟨hp,hn⟩
  ·exact absurd he (hb cs' w')
  ·exact h.tv p hp cs' w' he
theorem St.low{l:Nat}{b1 b2:Bool}(h:St L T s0 s bs gs):St L T s0 {s with lowB:=low b1 l s.lowB,lowT:=low b2 l s.lowT} bs gs:=
 ⟨⟨h.ext.bl,h.ext.b,h.ext.tl,h.ext.t⟩,h.b,h.bL,h.nd,h.g,h.gT,h.gd,fun p hp hl cs w he v hv t ht=>(h.lk p hp hl cs w he v hv t ht).imp aB0 id,h.tv⟩
theorem qK{κ:IntKind}{x a:Int}{v:AV}{es:List (AV×AV)}(h:(x==a)=true):pI (.int κ x) ((.int κ a,v)::es)=some (some v):=by
 simp [pI,rD,h]
theorem cS{κ:IntKind}{x a:Int}{v:AV}{es:List (AV×AV)}{r:Option (Option AV)}(h:(x==a)=false)(hr:pI (.int κ x) es=r):pI (.int κ x) ((.int κ a,v)::es)=r:=by
 simp [pI,rD,h,hr]
theorem aLJ(hg:wanted e gd=some true)(hS:St L T s0 s bs gs)(k: ∀l s',St L T s0 s' ((l,.map [])::bs) gs→Wo P rest (aK (some d) pd) ⟨upd e d (.map l),ds⟩ s' Q):Wo P (⟨some d,.mkMap,gd,pre⟩::rest) pd ⟨e,ds⟩ s Q:=
 wgp rfl hg (v:= .map s.blks.length) (by simp only [cX,bJ,fS,eD]) (k _ _ (hS.aO0 (fun _ _ h=>by cases h)))
theorem qP{kk:KK}{m kx x:aJ}{l:Nat}{es es':List (AV×AV)}{u:AV}(i:Nat)(hg:wanted e gd=some true)(hS:St L T s0 s bs gs)(hb:bs[i]?=some (l,.map es))(hm:evO P e m= .map l)(hk:keyOf kk (evO P e kx)=true)(hv:gP (evO P e x)=some u)(hp:aCq (evO P e kx) u es=some es')
(k: ∀s',St L T s0 s' (bs.set i (l,.map es')) gs→Wo P rest (aK d' pd) ⟨eU e d' fA,ds⟩ s' Q):Wo P (⟨d',.kM kk m kx x,gd,pre⟩::rest) pd ⟨e,ds⟩ s Q:=by
 have hget:=hS.get i hb;refine aRa (d':=d') rfl hg (v:=fA) (s1:=lA s l [u] (s.blks.set l (.map es'))) ?_ (k _ (hS.aKY i hb (b:= .map es') (fun _ _ h=>by cases h)).low);simp only [cX,bJ,fS,eD,hm,hv,hget,hk,if_true,hp]
theorem wM{kk:KK}{z:AV}{m kx:aJ}{l:Nat}{es:List (AV×AV)}{r:AV}(i:Nat)(hg:wanted e gd=some true)(hS:St L T s0 s bs gs)(hb:bs[i]?=some (l,.map es))(hm:evO P e m= .map l)(hk:keyOf kk (evO P e kx)=true)(hp:pI (evO P e kx) es=some (some r))
(k:Wo P rest (aK (some d) pd) ⟨upd e d r,ds⟩ s Q):Wo P (⟨some d,.lookup false kk z m kx,gd,pre⟩::rest) pd ⟨e,ds⟩ s Q:=
 wgp rfl hg (by simp only [cX,bJ,fS,hm,hS.get i hb,hk,if_true,hp]) k
theorem aN7{kk:KK}{z:AV}{m kx:aJ}{l:Nat}{es:List (AV×AV)}(i:Nat)(hg:wanted e gd=some true)(hS:St L T s0 s bs gs)(hb:bs[i]?=some (l,.map es))(hm:evO P e m= .map l)(hk:keyOf kk (evO P e kx)=true)(hp:pI (evO P e kx) es=some none)
(k:Wo P rest (aK (some d) pd) ⟨upd e d z,ds⟩ s Q):Wo P (⟨some d,.lookup false kk z m kx,gd,pre⟩::rest) pd ⟨e,ds⟩ s Q:=
 wgp rfl hg (by simp only [cX,bJ,fS,hm,hS.get i hb,hk,if_true,hp]) k
theorem aKL{x:aJ}{t:Str}(hg:wanted e gd=some true)(hS:St L T s0 s bs gs)(hx:evO P e x= .str t)(k: ∀l s',St L T s0 s' ((l,.iter t 0)::bs) gs→Wo P rest (aK (some d) pd) ⟨upd e d (.iter l),ds⟩ s' Q):Wo P (⟨some d,.mA x,gd,pre⟩::rest) pd ⟨e,ds⟩ s Q:=
 wgp rfl hg (v:= .iter s.blks.length) (by simp only [cX,bJ,fS,eD,hx]) (k _ _ (hS.aO0 (fun _ _ h=>by cases h)))
theorem aMm{it:aJ}{l:Nat}{t:Str}{pos:Nat}(i:Nat)(hg:wanted e gd=some true)(hS:St L T s0 s bs gs)(hb:bs[i]?=some (l,.iter t pos))(hx:evO P e it= .iter l)
(kt:decide (pos<t.length)=true→ ∀s',St L T s0 s' (bs.set i (l,.iter t (pos+(rune t pos).2))) gs→Wo P rest (aK (some d) pd) ⟨upd e d (.tuple [.bool true,.int .i64 pos,.int .i32 (rune t pos).1]),ds⟩ s' Q)
(kf:decide (pos<t.length)=false→Wo P rest (aK (some d) pd) ⟨upd e d (.tuple [.bool false]),ds⟩ s Q):Wo P (⟨some d,.mH it,gd,pre⟩::rest) pd ⟨e,ds⟩ s Q:=by
 have hget:=hS.get i hb;by_cases hp:pos<t.length
 ·refine wgp rfl hg (v:= .tuple [.bool true,.int .i64 pos,.int .i32 (rune t pos).1]) (s1:={s with blks:=s.blks.set l (.iter t (pos+(rune t pos).2))}) ?_ (kt (decide_eq_true hp) _ (hS.aKY i hb (fun _ _ h=>by cases h)));simp only [cX,bJ,fS,eD,hx,hget,if_pos hp];rfl
 ·refine wgp rfl hg (v:= .tuple [.bool false]) (s1:=s) ?_ (kf (decide_eq_false hp));simp only [cX,bJ,fS,eD,hx,hget,if_neg hp]
theorem aEn{α:Type}{f:aJ}{args:List aJ}{g:Nat}{a b vs us:List AV}{vf:α→AV}{bs':α→List (Nat×cQ)}{gs':α→List (AV×Nat×List AV)}{fs':α→Prop}(hg:wanted e gd=some true)(hS:St L T s0 s bs gs)(hc:Fc P (.func g) us s (aOL s vf bs' gs' fs'))
(hf:evO P e f= .func g a b)(ha:vF (args.map (evO P e)) vs)(hu:a++vs++b=us)
(k: ∀s' x,fs' x→St L T s0 s' (bs' x++bs) (gs' x++gs)→Wo P rest (aK d' pd) ⟨eU e d' (vf x),ds⟩ s' Q):Wo P (⟨d',.call f args,gd,pre⟩::rest) pd ⟨e,ds⟩ s Q:=by
 refine zF (a:=a) (b:=b) hg (by rw [hf];rfl) (ha.vs s) ?_;rw [hu];refine hc.ev.mono ?_
 rintro ⟨r,s'⟩ ⟨x,h1,h2,h3,h4⟩
 simp only at h1;subst h1;exact k s' x h3 (hS.cH h4 h2)
end
def aPU:cY→Option DM
 | .normal| .ret=>some .ret
 | .panic v=>some (.pan v)
 | .exit _=>none
structure aMC(P:aS)(g:Nat)(us:List AV)(m:DM)(s:ASt)(Q:DM→ASt→Prop):Prop where
 ev:Ev (fun n=>(cH P n).dcall g us m s) (fun r=>Q r.1 r.2)
def aQK(P:aS)(af:AF)(Q:AV→ASt→Prop):cY→Fr→ASt→Prop:=fun ex fr s=>
 ∃m g us,aPU ex=some m∧fr.ds= [.call g us]∧aMC P g us m s (fun m' s'=>m'= .ret∧aGf P af Q fr.env s')
theorem aQf{P:aS}{g:Nat}{af:AF}{args:List AV}{s:ASt}{Q0:AV→ASt→Prop}{Q:jM→ASt→Prop}(h0:P.prim g=none)(h:P.fn g=some af)(hn:Nat.ble args.length af.nt=true)
(hQ: ∀v1 s3,Q0 v1 s3→Q (.ret (settle s v1 s3).1) (settle s v1 s3).2)(k:Wk P none af.body ⟨gI args,[]⟩ (aT s) (aQK P af Q0)):Fc P (.func g) args s Q:=by
 refine⟨Ev.succ ?_⟩;obtain⟨⟨ex,fr,s1⟩,N,⟨m,g',us,hm,hd,hf⟩,h3⟩:=k.ev.out;obtain⟨⟨m',s2⟩,M,⟨hm',vs,v1,s3,h4,h5,h6⟩,h7⟩:=hf.ev.out;simp only at hm hd hm' h4 h5 h7;subst hm';refine⟨((.ret (settle s v1 s3).1),(settle s v1 s3).2),max N M,hQ _ _ h6,fun n hn'=> ?_⟩;have e1:evC (cH P n) P none n af.body ⟨gI args,[]⟩ (aT s)=some ⟨ex,fr,s1⟩:=h3 n (by omega);have e2:g7 (cH P n) fr.ds m s1=some (.ret,s2):=by rw [hd];simp only [g7,h7 n (by omega)]
 simp only [cH,h0,h,yU,hn,e1];cases ex with
 |normal=>cases hm;simp only [e2,h4,h5]
 |ret=>cases hm;simp only [e2,h4,h5]
 |exit i=>cases hm
 |panic v=>cases hm;simp only [e2,h4,h5]
theorem aOD{α:Type}{s:ASt}{P:aS}{g:Nat}{af:AF}{args:List AV}{v:α→AV}{bs:α→List (Nat×cQ)}{gs:α→List (AV×Nat×List AV)}{fs:α→Prop}(hs: ∀a,sM (v a)=false)(hl: ∀a,m9 (v a)=true)(he: ∀a,bs a= []→gs a= [])(h0:P.prim g=none)(h:P.fn g=some af)(hn:Nat.ble args.length af.nt=true)
(k:Wk P none af.body ⟨gI args,[]⟩ (aT s) (aQK P af (NQ s v bs gs fs))):Fc P (.func g) args s (aOL s v bs gs fs):=
 aQf h0 h hn (fun _ _ hq=>hq.out hs hl he) k
def aOM{α:Type}(s:ASt)(L T:List Nat)(bs:α→List (Nat×cQ))(gs:α→List (AV×Nat×List AV))(fs:α→Prop):DM→ASt→Prop:=fun m' s'=>
 m'= .ret∧(∀n,n≤s.blks.length→cI n s.lowT=true→cI n s'.lowT=true)∧ ∃a,fs a∧St L T s s' (bs a) (gs a)
theorem aRI{α:Type}{P:aS}{af:AF}{Q0:AV→ASt→Prop}{ex:cY}{fr:Fr}{s0 s:ASt}{L T L' T':List Nat}{m:DM}{g:Nat}{us:List AV}{bs1 bs2:List (Nat×cQ)}{gs1 gs2:List (AV×Nat×List AV)}{bs':α→List (Nat×cQ)}{gs':α→List (AV×Nat×List AV)}{fs':α→Prop}
(hm:aPU ex=some m)(hd:fr.ds= [.call g us])(hS:St L T s0 s (bs1++bs2) (gs1++gs2))(hc:Kn s bs1 gs1→aMC P g us m s (aOM s L' T' bs' gs' fs'))(hL:L'=eV bs1)(hT:T'=cL gs1)(hk: ∀a,eV (bs' a)=eV bs1)
(k: ∀s' x,fs' x→St L T s0 s' (bs' x++bs2) (gs' x++gs2)→aGf P af Q0 fr.env s'):aQK P af Q0 ex fr s:=by
 have hK:Kn s bs1 gs1:=(hS.less (List.sublist_append_left _ _) (List.sublist_append_left _ _)).kn;refine⟨m,g,us,hm,hd,⟨(hc hK).ev.mono ?_⟩⟩
 rintro ⟨m',s'⟩ ⟨h1,h2,x,hF,h3⟩
 exact⟨h1,k s' x hF (hS.call hL hT h3 h2 (hk x))⟩
structure Wd(P:aS)(c:AC)(fr:Fr)(rc:RC)(s:ASt)(Q:cY→Fr→RC→ASt→Prop):Prop where
 ev:Ev (fun n=>evD (cH P n) P n c fr rc s) (fun r=>Q r.1 r.2.1 r.2.2.1 r.2.2.2)
def aRS(k:Fr→RC→ASt→Prop)(Q:cY→Fr→RC→ASt→Prop):cY→Fr→RC→ASt→Prop
 | .normal,fr,rc,s=>k fr rc s
 |e,fr,rc,s=>Q e fr rc s
section
variable {P : aS} {fr : Fr} {rc : RC} {s : ASt} {Q : cY → Fr → RC → ASt → Prop}
theorem aLB{a b:AC}(h:Wd P a fr rc s (aRS (fun fr rc s=>Wd P b fr rc s Q) Q)):Wd P (.seq a b) fr rc s Q:=by
 obtain⟨⟨ex,fr1,rc1,s1⟩,N,h1,h2⟩:=h.ev.out;cases ex with
 |normal=>
  obtain⟨r,M,h3,h4⟩:=(h1:Wd P b fr1 rc1 s1 Q).ev.out;exact⟨⟨r,max N M,h3,fun n hn=>by simp only [evD,h2 n (by omega)];exact h4 n (by omega)⟩⟩
 |exit id=>exact⟨⟨⟨.exit id,fr1,rc1,s1⟩,N,h1,fun n hn=>by simp only [evD,h2 n hn]⟩⟩
 |ret=>exact⟨⟨⟨.ret,fr1,rc1,s1⟩,N,h1,fun n hn=>by simp only [evD,h2 n hn]⟩⟩
 |panic v=>exact⟨⟨⟨.panic v,fr1,rc1,s1⟩,N,h1,fun n hn=>by simp only [evD,h2 n hn]⟩⟩
theorem aMX{ops:List AI}{fr':Fr}{rc':RC}{s':ASt}(h0:aFi ops=true)(h:qV P ops fr rc s=some (fr',rc',s'))(k:Q .normal fr' rc' s'):Wd P (.reg false ops) fr rc s Q:=
 ⟨.one (r:=(.normal,fr',rc',s')) (fun n=>by simp only [evD,h0,h]) k⟩
theorem aRH{c:AC}(h0: ∀H n,evD H P n c fr rc s=(match evC H P none n c fr s with|some r=>some (r.ex,r.fr,rc,r.s)|none=>none))(k:Wk P none c fr s (fun ex fr s=>Q ex fr rc s)):Wd P c fr rc s Q:=by
 obtain⟨⟨ex,fr1,s1⟩,N,h1,h2⟩:=k.ev.out;exact⟨⟨⟨ex,fr1,rc,s1⟩,N,h1,fun n hn=>by rw [h0,h2 n hn]⟩⟩
def isRec:RC→Bool
 | .pan _=>false
 |_=>true
def aSc(af:AF)(X:ASt→Prop):cY→Fr→RC→ASt→Prop:=fun ex fr rc s=>aJn ex=true∧fr.ds= []∧isRec rc=true∧af.res= []∧X s
theorem aKs{α:Type}{g:Nat}{af:AF}{us:List AV}{m:DM}{L T:List Nat}{bs0:List (Nat×cQ)}{gs0:List (AV×Nat×List AV)}{bs:α→List (Nat×cQ)}{gs:α→List (AV×Nat×List AV)}{fs:α→Prop}(hK:Kn s bs0 gs0)(hkeys: ∀a,eV (bs a)=eV bs0)(hin: ∀a,aOy (bs a) (gs a))(h:P.fn g=some af)(hn:Nat.ble us.length af.nt=true)
(k:Wd P af.body ⟨gI us,[]⟩ (aRe m) (aT s) (aSc af (RX s L T bs gs fs))):aMC P g us m s (aOM s L T bs gs fs):=by
 refine⟨Ev.succ ?_⟩;obtain⟨⟨ex,⟨e,ds⟩,rc,s1⟩,N,⟨h1,h2,h4,h5,a,hF,h6⟩,h3⟩:=k.ev.out;simp only at h1 h2 h4 h6;subst h2;have hsub: ∀p∈bs a,∃q∈bs0,q.1=p.1:=fun p hp=>List.mem_map.1 (hkeys a▸List.mem_map.2 ⟨p,hp,rfl⟩:p.1∈eV bs0);have hst:=h6.settle .dO (fun p hp=>by
   obtain⟨q,hq,he⟩:=hsub p hp;rw [←he];exact(List.getElem?_eq_some_iff.1 (hK.b q hq)).1) (fun p hp cs0 w0 hc v hv t ht=>by
   obtain⟨q,hq,he⟩:=hsub p hp;have:=hK.b q hq;rw [he,hc,Option.some.injEq] at this;exact hK.tv q hq cs0 w0 this.symm v hv t ht) (hin a)
 refine⟨(.ret,eQ s false (dE s false s1)),N,⟨rfl,fun n _ hl=>qO n hl,a,hF,hst⟩,fun n hn'=> ?_⟩;have e1:=h3 n hn';simp only [cH,h,aBf,hn,e1,h5];cases ex with
 |exit i=>cases h1
 |panic v=>cases h1
 |normal=>cases rc<;>first|rfl|cases h4
 |ret=>cases rc<;>first|rfl|cases h4
end
theorem aNK{P:aS}{e:Env}{ds:List hY}{s:ASt}{Q:pM→Prop}{d':Option Nat}{rest:List AI}{pre:List Nat}{pd:List (Nat×Nat)}{f:aJ}{args:List aJ}{g:Nat}{a b vs us:List AV}(hf:evO P e f= .func g a b)(ha:vF (args.map (evO P e)) vs)(hu:a++vs++b=us)(k:Wo P rest (aK d' pd) ⟨eU e d' fA,.call g us::ds⟩ s Q):
  Wo P (⟨d',.defer f args,none,pre⟩::rest) pd ⟨e,ds⟩ s Q:=by subst hu;exact aNa hf ha.eq k
section
variable {P : aS} {e : Env} {s : ASt}
theorem aMM{esz bytes:Nat}{z:List AV}{l c:aJ}{n m:Nat}(hl:g6 (evO P e l)=some n)(hc:g6 (evO P e c)=some m)(h1:n≤m)(h2:m*bytes≤big)(h3:m≤big):
  cX P e s (.mkSlice esz bytes z l c)=some (.cE s.blks.length 0 n m esz,{s with blks:=s.blks++ [.cells (aDm m z) true]}):=by
 simp [cX,bJ,fS,eD,hl,hc,h1,h2,h3]
theorem aK8{esz:Nat}{d x:aJ}{l off len cap:Nat}{cs ys:List AV}(hd:evO P e d= .cE l off len cap esz)(hy:elems s esz (evO P e x)=some ys)(hb:s.blks[l]?=some (.cells cs true))(h1:off+len*esz≤cs.length)(h2:(jY (ys.take len)).length=min ys.length len*esz):
  cX P e s (.copy esz d x)=some (.int .i64 (min ys.length len:Nat),lA s l (jY (ys.take len)) (s.blks.set l (.cells (fO cs off (jY (ys.take len))) true))):=by
 simp [cX,bJ,fS,eD,hd,hy,hb,h1,h2]
theorem aKD{tk:Bool}{esz bytes:Nat}{a x:aJ}{l off len cap:Nat}{cs ys:List AV}(ht:tk=false)(ha:evO P e a= .cE l off len cap esz)(hy:elems s esz (evO P e x)=some ys)(hn:ys≠ [])(h1:(len+ys.length)*bytes≤big)(h2:len+ys.length≤big)(h0:0<esz)(hc:len+ys.length≤cap)
(hb:s.blks[l]?=some (.cells cs true))(h3:off+(len+ys.length)*esz≤cs.length)(h4:(jY ys).length=ys.length*esz):
  cX P e s (.append tk esz bytes a x)=some (.cE l off (len+ys.length) cap esz,lA s l (jY ys) (s.blks.set l (.cells (fO cs (off+len*esz) (jY ys)) true))):=by
 subst ht;cases ys with
 |nil=>exact absurd rfl hn
 |cons y ys=>
  simp only [List.length_cons] at h1 h2 hc h3 h4;simp [cX,bJ,fS,eD,ha,hy,h0,h1,h2,hc,hb,h3,h4]
end
def eA:Option Nat→LSt
 |none=> .ready
 |some _=> .done
def bD:Option Nat→Option cY
 |none=>none
 |some 0=>some .ret
 |some (i+1)=>some (.exit i)
theorem aLm(o:Option Nat):eA o≠ .busy:=by cases o<;>simp [eA]
section
variable {P : aS} {s0 s : ASt} {L T : List Nat} {bs : List (Nat × cQ)} {gs : List (AV × Nat × List AV)}
theorem Kn.st(h:Kn s bs gs):St (eV bs) (cL gs) s s bs gs:=by
 refine⟨.refl _ _ _,h.b,fun p hp=> .inl (List.mem_map.2 ⟨p,hp,rfl⟩),h.nd,h.g,fun t ht=> .inl ht,h.gd,?_,h.tv⟩;intro p hp _ cs w he v hv t ht;exact .inr ⟨cs,w,by rw [←he];exact h.b p hp,hv⟩
def aQS(l:Nat)(Q:jM→ASt→Prop):cY→Fr→ASt→Prop:=fun ex fr s3=>fr.ds= []∧
 match ex with
 | .panic v=>Q (.panic v) s3
 | .normal=> ∃s4,dW s3 l (fun lp=>{lp with st:= .ready,pend:=none})=some s4∧Q (.ret (.bool true)) s4
 |ex=> ∃s4,dW s3 l (fun lp=>{lp with st:= .done,pend:=some ex})=some s4∧Q (.ret (.bool false)) s4
def aN5(P:aS)(l:Nat)(body:AC)(Q:jM→ASt→Prop):cY→Fr→ASt→Prop:=fun ex fr s1=>ex= .normal∧fr.ds= []∧ ∃s2,iS s1 l=some s2∧Wk P (some l) body fr s2 (aQS l Q)
theorem wB{l:Nat}{args:List AV}{lp:uT}{Q:jM→ASt→Prop}(hb:s.blks[l]?=some (.loop lp))(hr:lp.st= .ready)(hn:args.length=lp.params.length)
(k:Wk P (some l) lp.assign ⟨mX lp.env lp.params args,[]⟩ s (aN5 P l lp.body Q)):Fc P (.yield l) args s Q:=by
 refine⟨Ev.succ ?_⟩;obtain⟨⟨ex,⟨e1,ds1⟩,s1⟩,N,⟨h1,h2,s2,h3,h4⟩,h5⟩:=k.ev.out;simp only at h1 h2 h3 h5;subst h1 h2;obtain⟨⟨ex,⟨e3,ds3⟩,s3⟩,M,⟨h6,h7⟩,h8⟩:=h4.ev.out;simp only at h6 h7 h8;subst h6;cases ex with
 |panic v=>
  refine⟨(.panic v,s3),max N M,h7,fun n hn'=> ?_⟩;simp only [cH,nM,hb,hr,hn,decide_true,h5 n (by omega),h3,h8 n (by omega)]
 |normal=>
  obtain⟨s4,h9,h10⟩:=h7;refine⟨(.ret (.bool true),s4),max N M,h10,fun n hn'=> ?_⟩;simp only [cH,nM,hb,hr,hn,decide_true,h5 n (by omega),h3,h8 n (by omega),h9]
 |exit i=>
  obtain⟨s4,h9,h10⟩:=h7;refine⟨(.ret (.bool false),s4),max N M,h10,fun n hn'=> ?_⟩;simp only [cH,nM,hb,hr,hn,decide_true,h5 n (by omega),h3,h8 n (by omega),h9]
 |ret=>
  obtain⟨s4,h9,h10⟩:=h7;refine⟨(.ret (.bool false),s4),max N M,h10,fun n hn'=> ?_⟩;simp only [cH,nM,hb,hr,hn,decide_true,h5 n (by omega),h3,h8 n (by omega),h9]
theorem St.iS{l:Nat}{lp:uT}(h:St L T s0 s bs gs)(i:Nat)(hb:bs[i]?=some (l,.loop lp))(hr:lp.st= .ready): ∃s2,Fw.iS s l=some s2∧St L T s0 s2 (bs.set i (l,.loop {lp with st:= .busy})) gs:=
 ⟨_,by simp only [Fw.iS,h.get i hb,hr],h.aKY i hb (fun _ _ h=>by cases h)⟩
theorem St.dW{l:Nat}{lp:uT}(h:St L T s0 s bs gs)(i:Nat)(hb:bs[i]?=some (l,.loop lp))(f:uT→uT): ∃s2,Fw.dW s l f=some s2∧St L T s0 s2 (bs.set i (l,.loop (f lp))) gs:=
 ⟨_,by simp only [Fw.dW,h.get i hb],h.aKY i hb (fun _ _ h=>by cases h)⟩
theorem St.yZ{l:Nat}{b0 b1:cQ}(h:St L T s0 s bs gs)(i:Nat)(hb:bs[i]?=some (l,b0))(he:b0=b1):St L T s0 s (bs.set i (l,b1)) gs:=by
 subst he;have:bs.set i (l,b0)=bs:=by
  obtain⟨hi,he⟩:=List.getElem?_eq_some_iff.1 hb;rw [←he];exact List.set_getElem_self hi
 rw [this];exact h
theorem aQ9{n:Nat}{g:AFn}{args:List AV}{r:jM×ASt}(hp:P.prim=fun _=>none)(h:(cH P n).call g args s=some r): ∀m,m≤s.blks.length→cI m s.lowT=true→cI m r.2.lowT=true:=by
 intro m hm hl;have hlow:=(aAf (P:=P) (fun f p hf=>by rw [hp] at hf;cases hf) n).call g args s r.1 r.2 (by rw [h]);cases hq:cI m r.2.lowT with
 |true=>rfl
 |false=>have:=(hlow.T m hm hq).1;rw [hl] at this;cases this
theorem Fc.low{g:AFn}{args:List AV}{Q:jM→ASt→Prop}(hp:P.prim=fun _=>none)(h:Fc P g args s Q):Fc P g args s (fun o s'=>Q o s'∧ ∀m,m≤s.blks.length→cI m s.lowT=true→cI m s'.lowT=true):=by
 obtain⟨r,N,h1,h2⟩:=h.ev.out;exact⟨⟨r,N,⟨h1,aQ9 hp (h2 N (Nat.le_refl _))⟩,h2⟩⟩
def aLb{α:Type}(s:ASt)(L T:List Nat)(b:Bool)(bs:α→List (Nat×cQ))(gs:α→List (AV×Nat×List AV))(fs:α→Prop):jM→ASt→Prop:=fun o s'=>o= .ret (.bool b)∧ ∃a,fs a∧St L T s s' (bs a) (gs a)
theorem aLb.reg{α:Type}{g:AFn}{args:List AV}{b:Bool}{bs:α→List (Nat×cQ)}{gs:α→List (AV×Nat×List AV)}{fs:α→Prop}(hp:P.prim=fun _=>none)(h:Fc P g args s (aLb s L T b bs gs fs)):Fc P g args s (lV s L T (.bool b) bs gs fs):=
 (h.low hp).mono fun o s' hq=>by
  obtain⟨⟨h1,a,hF,h2⟩,h3⟩:=hq;exact⟨.bool b,h1,rfl,fun _=>rfl,h3,a,hF,h2⟩
def aOW(s:ASt)(L T:List Nat)(v:AV):jM→ASt→Prop:=fun o s'=>o= .panic v∧Ext L T s s'
theorem aOW.pan{g:AFn}{args:List AV}{v:AV}(hp:P.prim=fun _=>none)(h:Fc P g args s (aOW s L T v)):Fc P g args s (u4 s L T v):=
 (h.low hp).mono fun o s' hq=>⟨hq.1.1,hq.2,hq.1.2⟩
theorem aEP{α R Pn:Type}{g:AFn}{args:List AV}(r:Ctl R Pn){b:R→Bool}{pv:Pn→AV}{bs:R→α→List (Nat×cQ)}{gs:R→α→List (AV×Nat×List AV)}{fs:R→α→Prop}(hp:P.prim=fun _=>none)(h:Fc P g args s (wZ r (fun q=>aLb s L T (b q) (bs q) (gs q) (fs q)) (fun p=>aOW s L T (pv p)))):
  Fc P g args s (wZ r (fun q=>lV s L T (.bool (b q)) (bs q) (gs q) (fs q)) (fun p=>u4 s L T (pv p))):=by
 cases r with
 |ret q=>exact aLb.reg hp h
 |nx p=>exact aOW.pan hp h
theorem wC{rd:Option Nat}{f:aJ}{params:List Nat}{assign body:AC}{fr:Fr}{Q:cY→Fr→ASt→Prop}{g:Nat}{a b:List AV}{l:Nat}{mk:List hY}{s1:ASt}(hlay:qC rd params assign body fr s=some (l,mk,s1))(hf:evO P fr.env f= .func g a b)(hb:zD P g=true)
(hc:Fc P (.func g) (a++ .yield l::b) s1 (fun o s2=>match o with
   | .ret _=> ∃lp,s2.blks[l]?=some (.loop lp)∧lp.st≠ .busy∧Q (lp.pend.getD .normal) {fr with ds:=mk++fr.ds} {s2 with blks:=s2.blks.set l (.loop {lp with st:= .exhausted})}
   | .panic v=>Q (.panic v) {fr with ds:=mk++fr.ds} s2)):Wk P rd (.lY f params assign body) fr s Q:=by
 obtain⟨⟨r,s2⟩,N,h1,h2⟩:=hc.ev.out;cases r with
 |ret v=>
  obtain⟨lp,h3,h4,h5⟩:=h1;refine⟨⟨⟨lp.pend.getD .normal,{fr with ds:=mk++fr.ds},{s2 with blks:=s2.blks.set l (.loop {lp with st:= .exhausted})}⟩,N,h5,fun n hn=> ?_⟩⟩;simp only at h3;simp only [evC,hlay,hf,hb,h2 n hn,h3]
 |panic v=>exact⟨⟨⟨.panic v,_,s2⟩,N,h1,fun n hn=>by simp only [evC,hlay,hf,hb,h2 n hn]⟩⟩
theorem vN{params:List Nat}{assign body:AC}{fr:Fr}(h:St L T s0 s bs gs): ∃q l s1,qC none params assign body fr s=some (l,[.mark q],s1)∧St L T s0 s1 ((l,.loop ⟨.ready,none,fr.env,q,params,assign,body⟩)::(q,.qZ)::bs) gs:=by
 refine⟨s.blks.length,s.blks.length+1,_,rfl,?_⟩;have h1:=h.aO0 (b:= .qZ) (fun _ _ h=>by cases h);have h2:=h1.aO0 (b:= .loop ⟨.ready,none,fr.env,s.blks.length,params,assign,body⟩) (fun _ _ h=>by cases h);have he:(s.blks++ [cQ.qZ]).length=s.blks.length+1:=by simp
 simp only [he] at h2;have:s.blks++ [cQ.qZ]++ [cQ.loop ⟨.ready,none,fr.env,s.blks.length,params,assign,body⟩]=s.blks++ [cQ.qZ,cQ.loop {st:= .ready,pend:=none,env:=fr.env,dq:=s.blks.length,params:=params,assign:=assign,body:=body}]:=by simp
 rw [this] at h2;exact h2
theorem oO{α:Type}{v:AV}{L' T':List Nat}{l q:Nat}{e:Env}{params:List Nat}{assign body:AC}{pd:Option Nat}{Q:cY→Fr→ASt→Prop}{fr:Fr}{bs1 bs2:List (Nat×cQ)}{gs1 gs2:List (AV×Nat×List AV)}{bs':α→List (Nat×cQ)}{gs':α→List (AV×Nat×List AV)}{fs':α→Prop}{ex:cY}
(hS:St L T s0 s (bs1++bs2) (gs1++gs2)){g:AFn}{us:List AV}(hc:Kn s bs1 gs1→Fc P g us s (lV s L' T' v (fun a=>(l,.loop ⟨eA pd,bD pd,e,q,params,assign,body⟩)::bs' a) gs' fs'))(hL:L'=eV bs1)(hT:T'=cL gs1)(hk: ∀a,l::eV (bs' a)=eV bs1)(hx:(bD pd).getD .normal=ex)
(k: ∀s' x,fs' x→St L T s0 s' (bs' x++bs2) (gs' x++gs2)→Q ex fr s'):
  Fc P g us s (fun o s2=>match o with
   | .ret _=> ∃lp,s2.blks[l]?=some (.loop lp)∧lp.st≠ .busy∧Q (lp.pend.getD .normal) fr {s2 with blks:=s2.blks.set l (.loop {lp with st:= .exhausted})}
   | .panic v=>Q (.panic v) fr s2):=by
 have hK:Kn s bs1 gs1:=(hS.less (List.sublist_append_left _ _) (List.sublist_append_left _ _)).kn;refine(hc hK).mono ?_
 rintro r s' ⟨v0,h1,h2,h2',h3,x,hF,h4⟩
 subst h1;have h5:=hS.call hL hT h4 h3 (hk x);refine⟨_,h5.get 0 rfl,aLm pd,?_⟩;have h6:=h5.aKY 0 rfl (b:= .loop {st:= .exhausted,pend:=bD pd,env:=e,dq:=q,params:=params,assign:=assign,body:=body}) (fun _ _ h=>by cases h);have h7:St L T s0 _ (bs' x++bs2) (gs' x++gs2):=h6.less (List.sublist_cons_self _ _) (.refl _);show Q ((bD pd).getD .normal) fr _;rw [hx];exact k _ x hF h7
theorem aAb{v:AV}{L' T':List Nat}{l:Nat}{Q:cY→Fr→ASt→Prop}{fr:Fr}{bs1 bs2:List (Nat×cQ)}{gs1 gs2:List (AV×Nat×List AV)}
(hS:St L T s0 s (bs1++bs2) (gs1++gs2)){g:AFn}{us:List AV}(hc:Kn s bs1 gs1→Fc P g us s (u4 s L' T' v))(hL:L'=eV bs1)(hT:T'=cL gs1)
(k: ∀s',St L T s0 s' bs2 gs2→Q (.panic v) fr s'):
  Fc P g us s (fun o s2=>match o with
   | .ret _=> ∃lp,s2.blks[l]?=some (.loop lp)∧lp.st≠ .busy∧Q (lp.pend.getD .normal) fr {s2 with blks:=s2.blks.set l (.loop {lp with st:= .exhausted})}
   | .panic v=>Q (.panic v) fr s2):=by
 have hK:Kn s bs1 gs1:=(hS.less (List.sublist_append_left _ _) (List.sublist_append_left _ _)).kn;refine(hc hK).mono ?_
 rintro r s' ⟨h1,h2,h3⟩
 subst h1;exact k _ (hS.panicked hL hT h3 h2)
theorem St.mark{q:Nat}(h:St L T s0 s bs gs)(i:Nat)(hb:bs[i]?=some (q,.qZ)): ∃s1,St L T s0 s1 (bs.set i (q,.dead)) gs∧ ∀{ds:List hY}{m:DM}{s2:ASt},(∀H,g7 H ds m s1=some (m,s2))→ ∀H,g7 H (.mark q::ds) m s=some (m,s2):=
 ⟨_,h.aKY i hb (b:= .dead) (fun _ _ h=>by cases h),fun hd H=>by simp only [g7,h.get i hb];exact hd H⟩
end
theorem aCF{P:aS}{rd:Option Nat}{s:ASt}{ds:List hY}{c:AC}{S:List (Nat×AV)}{Q:cY→Fr→ASt→Prop}{e0:Env}(hh:xG e0 S)(h: ∀e,Wk P rd c ⟨bB e S,ds⟩ s Q):Wk P rd c ⟨e0,ds⟩ s Q:=by
 have:=h e0;rwa [hh.bB] at this
end Go.Fw
set_option maxRecDepth 100000
namespace Go.Proofs.YtelnnehpbkainaaGreatDoor
open Go Go.Fw
mutual
inductive Arm where
 |mk (op:Str) (names:(List Str)) (body:Expr)
inductive Expr where
 |mk (kind:Int) (n:Int) (s:Str) (t:Str) (names:(List Str)) (l:(List Expr)) (aO:(List Arm))
end
def Arm.op:Arm→Str| .mk x _ _=>x
def Arm.names:Arm→(List Str)| .mk _ x _=>x
def Arm.body:Arm→Expr| .mk _ _ x=>x
def Expr.kind:Expr→Int| .mk x _ _ _ _ _ _=>x
def Expr.n:Expr→Int| .mk _ x _ _ _ _ _=>x
def Expr.s:Expr→Str| .mk _ _ x _ _ _ _=>x
def Expr.t:Expr→Str| .mk _ _ _ x _ _ _=>x
def Expr.names:Expr→(List Str)| .mk _ _ _ _ x _ _=>x
def Expr.l:Expr→(List Expr)| .mk _ _ _ _ _ x _=>x
def Expr.aO:Expr→(List Arm)| .mk _ _ _ _ _ _ x=>x
mutual
def lP:Arm→List AV
 | .mk x0 x1 x2=>([(.str x0)])++([(slA 1 (x1.map AV.str))])++(iY x2)
def iY:Expr→List AV
 | .mk x0 x1 x2 x3 x4 x5 x6=>([(.int .i64 x0)])++([(.int .i64 x1)])++([(.str x2)])++([(.str x3)])++([(slA 1 (x4.map AV.str))])++([slA 7 (pF x5)])++([slA 9 (rZ x6)])
def rZ:List Arm→List AV
 | []=> []
 |x::r=> .agg (lP x)::rZ r
def pF:List Expr→List AV
 | []=> []
 |x::r=> .agg (iY x)::pF r
end
def aZ(x:Arm):AV:= .agg (lP x)
def aP(x:Expr):AV:= .agg (iY x)
theorem pJ: ∀l:List Arm,rZ l=l.map aZ
 | []=>by simp only [rZ,List.map_nil]
 |x::r=>by simp only [rZ,List.map_cons,pJ r];rfl
theorem nU: ∀l:List Expr,pF l=l.map aP
 | []=>by simp only [pF,List.map_nil]
 |x::r=>by simp only [pF,List.map_cons,nU r];rfl
abbrev nC(x:Arm):AV:= .agg [(.str x.op),(slA 1 (x.names.map AV.str)),(.int .i64 x.body.kind),(.int .i64 x.body.n),(.str x.body.s),(.str x.body.t),(slA 1 (x.body.names.map AV.str)),(slA 7 (x.body.l.map aP)),(slA 9 (x.body.aO.map aZ))]
abbrev aR(x:Expr):AV:= .agg [(.int .i64 x.kind),(.int .i64 x.n),(.str x.s),(.str x.t),(slA 1 (x.names.map AV.str)),(slA 7 (x.l.map aP)),(slA 9 (x.aO.map aZ))]
theorem sQ(x:Expr):iY x= [(.int .i64 x.kind),(.int .i64 x.n),(.str x.s),(.str x.t),(slA 1 (x.names.map AV.str)),(slA 7 (x.l.map aP)),(slA 9 (x.aO.map aZ))]:=by cases x;simp only [iY,pJ,nU];rfl
theorem iD(x:Expr):aP x=aR x:=congrArg AV.agg (sQ x)
theorem aEh(x:Arm):lP x= [(.str x.op),(slA 1 (x.names.map AV.str)),(.int .i64 x.body.kind),(.int .i64 x.body.n),(.str x.body.s),(.str x.body.t),(slA 1 (x.body.names.map AV.str)),(slA 7 (x.body.l.map aP)),(slA 9 (x.body.aO.map aZ))]:=by cases x;simp only [lP,pJ,nU,sQ];rfl
theorem nN(x:Arm):aZ x=nC x:=congrArg AV.agg (aEh x)
theorem aPl(x:Expr):(cellsOf (aP x)).length=7:=by rw [iD];rfl
theorem aMF(l:List Expr):l.map aR=l.map aP:=List.map_congr_left fun x _=>(iD x).symm
mutual
theorem aJd: ∀x:Arm,eM (lP x)=true
 | .mk x0 x1 x2=>by simp only [lP];exact lM (lM (uG (rfl)) (uG ((pS (fun _=>rfl) _)))) (aCS x2)
theorem aCS: ∀x:Expr,eM (iY x)=true
 | .mk x0 x1 x2 x3 x4 x5 x6=>by simp only [iY];exact lM (lM (lM (lM (lM (lM (uG (rfl)) (uG (rfl))) (uG (rfl))) (uG (rfl))) (uG ((pS (fun _=>rfl) _)))) (uG (aHS x5))) (uG (aJh x6))
theorem aJh: ∀l:List Arm,eM (rZ l)=true
 | []=>by simp only [rZ];rfl
 |x::r=>by simp only [rZ];exact PuL.eq (.cons (aJd x) (aIh (aJh r)))
theorem aHS: ∀l:List Expr,eM (pF l)=true
 | []=>by simp only [pF];rfl
 |x::r=>by simp only [pF];exact PuL.eq (.cons (aCS x) (aIh (aHS r)))
end
theorem aEr(x:Arm):cR (aZ x)=true:=aJd x
theorem aBE(x:Arm):Fw.Can (nC x):=⟨rfl,by rw [←nN];exact aEr x⟩
theorem aEM(x:Expr):cR (aP x)=true:=aCS x
theorem gQ(x:Expr):Fw.Can (aR x):=⟨rfl,by rw [←iD];exact aEM x⟩
structure aGN where
 e0:Int
 e1:Int
structure zU where
 e:Int
abbrev aBj(x:zU):AV:= .agg [(.int .i64 x.e)]
structure kJ where
 k:Str
 sites:(List (List Int))
 xB:aGN
structure j3 where
 path:(List Int)
abbrev qS(x:j3):AV:= .agg [(slA 1 (x.path.map (AV.int .i64)))]
structure aC where
 expr:Expr
 path:(List Int)
abbrev aA(x:aC):AV:= .agg [(.int .i64 x.expr.kind),(.int .i64 x.expr.n),(.str x.expr.s),(.str x.expr.t),(slA 1 (x.expr.names.map AV.str)),(slA 7 (x.expr.l.map aP)),(slA 9 (x.expr.aO.map aZ)),(slA 1 (x.path.map (AV.int .i64)))]
abbrev aCr(x:aC):AV:=aA x
theorem aCc(x:aC):cR (aCr x)=true:=aNp (.cons rfl (.cons rfl (.cons rfl (.cons rfl (.cons (pS (fun _=>rfl) _) (.cons (pS aEM _) (.cons (pS aEr _) (.cons (pS (fun _=>rfl) _) (.nil)))))))))
theorem eK(x:aC):Fw.Can (aA x):=⟨rfl,aCc x⟩
structure aV where
 s:Int
 t:Int
 names:Int
 l:Int
 aO:Bool
 low:Int
 high:Int
structure aG where
 left:Int
 deep:Int
abbrev iP(x:aG):AV:= .agg [(.int .i64 x.left),(.int .i64 x.deep)]
abbrev zA(x:aG):AV:=iP x
theorem zK(x:aG):cR (zA x)=true:=aNp (.cons rfl (.cons rfl (.nil)))
theorem yF(x:aG):Fw.Can (iP x):=⟨rfl,zK x⟩
structure a0 where
 s:Int
 t:Int
 names:Int
 more:Int
 parts:Int
 plus:Int
 aO:Bool
 low:Int
 high:Int
abbrev fK(x:a0):AV:= .agg [(.int .i64 x.s),(.int .i64 x.t),(.int .i64 x.names),(.int .i64 x.more),(.int .i64 x.parts),(.int .i64 x.plus),(.bool x.aO),(.int .i64 x.low),(.int .i64 x.high)]
abbrev uX(x:a0):AV:=fK x
inductive Pan where
 |wV (x:j3)
 |aR2 (x:zU)
def nX:Pan→AV
 | .wV x=> .iface 160 (qS x)
 | .aR2 x=> .iface 164 (aBj x)
theorem wrap64{x:Int}(h: -9223372036854775808≤x)(h':x<9223372036854775808):IntKind.wrap .i64 x=x:=by
 show(if decide (x%18446744073709551616≥9223372036854775808)=true then x%18446744073709551616-18446744073709551616 else x%18446744073709551616)=x;split<;>rename_i hd
 ·have:=of_decide_eq_true hd;omega
 ·have:=of_decide_eq_false (Bool.eq_false_iff.2 hd);omega
theorem aIp{α:Type}{b:Nat}{xs ys:List α}(h:(xs.length+ys.length)*b≤big)(h':xs.length+ys.length≤big):app b xs ys=some (xs++ys):=if_pos ⟨h,h'⟩
theorem aNm{α:Type}{l:List α}(hl:l.length<4611686018427387904){C:Nat→List α→Prop}
(h0: ∀hd:decide ((l.length:Int)<(l.length:Int))=false,C l.length [])
(h1: ∀(k:Nat)(y:α)(r:List α),l.drop k=y::r→k<l.length→y∈l→decide ((k:Int)<(l.length:Int))=true→idx l (k:Int)=some y→IntKind.wrap .i64 ((k:Int)+1)=((k+1:Nat):Int)→C (k+1) r→C k (y::r)):
  ∀(n k:Nat),k+n=l.length→C k (l.drop k):=by
 intro n
 induction n with
 |zero=>
  intro k hk;have:k=l.length:=by omega
  subst this;rw [List.drop_length];exact h0 (decide_eq_false (by omega))
 |succ n ih=>
  intro k hk;have hlt:k<l.length:=by omega
  have hd:l.drop k=l[k]::l.drop (k+1):=List.drop_eq_getElem_cons hlt;rw [hd];refine h1 k _ _ hd hlt (List.getElem_mem hlt) (decide_eq_true (by omega)) ?_ ?_ (ih (k+1) (by omega))
  ·unfold idx;rw [if_pos (by omega)];simp [hlt]
  ·rw [wrap64 (by omega) (by omega)];omega
theorem dT{α:Type}{l:List α}(hl:l.length<4611686018427387904){C:Nat→List α→Prop}
(h0: ∀hd:decide ((l.length:Int)<(l.length:Int))=false,C l.length [])
(h1: ∀(k:Nat)(y:α)(r:List α),l.drop k=y::r→k<l.length→y∈l→decide ((k:Int)<(l.length:Int))=true→idx l (k:Int)=some y→IntKind.wrap .i64 ((k:Int)+1)=((k+1:Nat):Int)→C (k+1) r→C k (y::r)):C 0 l:=by
 have:=aNm hl h0 h1 l.length 0 (by omega);rwa [List.drop_zero] at this
def fnd{α:Type}(p:α→Bool):List α→Nat→Ctl Int Unit
 | [],_=> .nx ()
 |y::r,k=>if p y=true then .ret (k:Int) else fnd p r (k+1)
def aC6{α:Type}(p:α→Bool)(l:List α)(k:Nat):Int:=match fnd p l k with| .ret i=>i| .nx _=> -1
theorem vR{α:Type}(p:α→Bool): ∀(l:List α)(k:Nat),decide (aC6 p l k≥0)=l.any p
 | [],k=>rfl
 |y::r,k=>by
  have ih:=vR p r (k+1);unfold aC6 at ih⊢;rw [fnd,List.any_cons];cases h:p y with
  |true=>simp
  |false=>simpa [h] using ih
theorem aBF{α:Type}(l:List α)(hl:l.length<4611686018427387904)(p:α→Bool)(g:Int→Option (Ctl Int Unit))
(hg: ∀i,g i=if decide (i<(l.length:Int))=true then(idx l i>>=fun y=>if p y=true then some (.ret i) else g (IntKind.wrap .i64 (i+1))) else some (.nx ())):g 0=some (fnd p l 0):=by
 refine dT (C:=fun k r=>g (k:Int)=some (fnd p r k)) hl (fun hd=> ?_) fun k y r _ _ _ hlt hi hw ih=> ?_
 ·rw [hg,hd];rfl
 ·rw [hg,if_pos hlt,hi,fnd];show(if p y=true then some (.ret (k:Int)) else g (IntKind.wrap .i64 ((k:Int)+1)))=_;cases p y with
  |true=>rfl
  |false=>rw [hw];exact ih
end Go.Proofs.YtelnnehpbkainaaGreatDoor
