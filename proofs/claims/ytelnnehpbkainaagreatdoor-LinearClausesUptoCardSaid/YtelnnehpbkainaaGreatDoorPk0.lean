/- Our own framework, the program's cooked code, and the proofs that a claim leans on: joined and shortened by a program of the prover's own. -/
import GoSem.Dispatch
import GoSem.Core.View
import Derived.Below
import Derived.RangeFuncLeaves
import Derived.RangeFuncRecord
import Derived.RangeFuncCalls
import Derived.RecoverIn
import Derived.Laws.AppendOwn
import Derived.Laws.Tables
import Derived.Laws.CopyRow
import Derived.Laws.Cells
import Derived.Laws.Entries
import Derived.Laws.Rows
import Derived.Laws.RangeAny
import Derived.KernelRfl
set_option linter.unusedVariables false
set_option linter.unusedSimpArgs false
namespace Go.Fw
open Go
inductive Own where
 |no
 |full
 |tok (t:Nat)
 deriving DecidableEq,Repr,Inhabited
inductive AV where
 |int (k:IntKind) (n:Int)
 |bool (b:Bool)
 |str (s:List UInt8)
 |slice (sz:Nat) (xs:List AV) (o:Own)
 |cQ (l off len cap sz:Nat)
 |agg (cs:List AV)
 |tuple (vs:List AV)
 |eH
 |ptr (l off:Nat)
 |aG (v:AV) (off:Nat)
 |func (f:Nat) (first captured:List AV)
 |dP
 |yield (l:Nat)
 |map (l:Nat)
 |eQ
 |iface (t:Nat) (v:AV)
 |cI
 |iter (l:Nat)
 |nX
 deriving Repr,Inhabited
inductive aQ where
 |t (i:Nat)
 |c (v:AV)
 |g (g:Nat)
 |f (f:Nat)
 deriving Repr,Inhabited
inductive KK where
 |int|str|bool
 deriving DecidableEq,Repr,Inhabited
inductive NK where
 |ptr|slice|map|func|iface
 deriving DecidableEq,Repr,Inhabited
inductive AOp where
 |mv (x:aQ)
 |pick (c a b:aQ)
 |eT (x:aQ)
 |box (x:aQ)
 |pend (z:List AV)
 |shut (d:Nat) (sz:Nat) (x:aQ)
 |alloc (z:List AV)
 |build (z:List AV) (parts:List (Nat×Nat×aQ))
 |iD (esz:Nat) (len:Nat) (z:List AV) (parts:List (Nat×aQ))
 |load (agg:Bool) (sz:Nat) (x:aQ)
 |store (sz:Nat) (a x:aQ)
 |fA (x:aQ)
 |bin (op:BinOp) (x y:aQ)
 |eq (neg:Bool) (x y:aQ)
 |eqF (neg:Bool) (ks:List KK) (x y:aQ)
 |aGu (neg:Bool) (k:NK) (x:aQ)
 |un (op:UnOp) (x:aQ)
 |toInt (k:IntKind) (x:aQ)
 |aBP (t:Nat) (x:aQ)
 |nT (f:Nat) (first captured:List aQ)
 |mkMap
 |mkSlice (esz bytes:Nat) (z:List AV) (len cap:aQ)
 |aAg (esz:Nat) (x:aQ) (lo hi mx:Option aQ)
 |aFp (x:aQ) (lo hi:Option aQ)
 |aQm (n esz:Nat) (x:aQ) (lo hi:Option aQ)
 |aI (off:Nat) (x:aQ)
 |field (agg:Bool) (off sz:Nat) (x:aQ)
 |cX (esz:Nat) (x i:aQ)
 |aCv (n esz:Nat) (x i:aQ)
 |wY (x i:aQ)
 |lookup (ok:Bool) (kk:KK) (z:AV) (m k:aQ)
 |mC (kk:KK) (m k v:aQ)
 |n4 (x:aQ)
 |oG (it:aQ)
 |assert (ok:Bool) (t:Nat) (z:AV) (x:aQ)
 |extract (x:aQ) (i:Nat)
 |call (f:aQ) (args:List aQ)
 |aN (st:Bool) (f:aQ) (args:List aQ)
 |eE (x:aQ)
 |aCG (x:aQ)
 |aUO (n:Nat)
 |append (tk:Bool) (esz bytes:Nat) (s x:aQ)
 |copy (esz:Nat) (d s:aQ)
 |aBh (mx:Bool) (xs:List aQ)
 |aCW
 |defer (f:aQ) (args:List aQ)
 |panic (x:aQ)
 |bad
 deriving Repr,Inhabited
structure AI where
 d:Option Nat
 op:AOp
 gd:Option (Nat×Bool)
 pre:List Nat:= []
 deriving Repr,Inhabited
inductive AC where
 |skip
 |reg (draw:Bool) (ops:List AI)
 |seq (a b:AC)
 |cond (c:aQ) (t e:AC)
 |block (id:Nat) (b:AC)
 |loop (b:AC)
 |nU (f:aQ) (params:List Nat) (assign body:AC)
 |exit (id:Nat)
 |ret
 |scope (b:AC)
 deriving Repr,Inhabited
inductive ARV where
 |tmp (t:Nat)
 |cell (t:Nat) (agg:Bool) (sz:Nat)
 deriving Repr,Inhabited
structure AF where
 np:Nat
 nt:Nat
 res:List ARV
 body:AC
 deriving Repr,Inhabited
inductive dO where
 |normal
 |exit (id:Nat)
 |ret
 |panic (v:AV)
 deriving Repr,Inhabited
inductive LSt where
 |ready|busy|done|exhausted
 deriving DecidableEq,Repr,Inhabited
structure xR where
 st:LSt
 pend:Option dO
 env:Nat→AV
 dq:Nat
 params:List Nat
 assign:AC
 body:AC
inductive dG where
 |cells (cs:List AV) (w:Bool)
 |map (es:List (AV×AV))
 |loop (l:xR)
 |iter (s:List UInt8) (pos:Nat)
 |tW
 |dead
instance:Inhabited dG:=⟨.dead⟩
structure ASt where
 blks:List dG
 toks:List Nat
 lowB:Option Nat:=none
 lowT:Option Nat:=none
inductive kO where
 |ret (v:AV)
 |panic (v:AV)
 deriving Repr,Inhabited
inductive AFn where
 |func (f:Nat)
 |yield (l:Nat)
 deriving Repr,Inhabited
inductive DM where
 |ret
 |pan (v:AV)
 deriving Repr,Inhabited
structure Handler where
 call:AFn→List AV→ASt→Option (kO×ASt)
 dcall:Nat→List AV→DM→ASt→Option (DM×ASt)
def fW:AV:= .tuple []
abbrev Env:=Nat→AV
def upd(e:Env)(i:Nat)(v:AV):Env:=fun j=>match Nat.beq j i with|true=>v|false=>e j
def fQ(e:Env)(d:Option Nat)(v:AV):Env:=match d with|some i=>upd e i v|none=>e
def cellsOf:AV→List AV
 | .agg cs=>cs
 |v=> [v]
mutual
def pA:AV→Bool
 | .int .. | .bool .. | .str .. | .eH| .dP| .eQ| .cI| .nX=>false
 | .slice _ xs _=>jX xs
 | .cQ .. | .ptr .. | .yield _| .map _| .iter _=>true
 | .agg cs=>jX cs
 | .tuple vs=>jX vs
 | .aG v _=>pA v
 | .func _ a b=>jX a||jX b
 | .iface _ v=>pA v
def jX:List AV→Bool
 | []=>false
 |x::xs=>pA x||jX xs
end
mutual
def toks:AV→Bool
 | .int .. | .bool .. | .str .. | .eH| .dP| .eQ| .cI| .nX| .cQ .. | .ptr .. | .yield _| .map _| .iter _=>false
 | .slice _ xs o=>(match o with| .tok _=>true|_=>lV xs)
 | .agg cs=>lV cs
 | .tuple vs=>lV vs
 | .aG v _=>toks v
 | .func _ a b=>lV a||lV b
 | .iface _ v=>toks v
def lV:List AV→Bool
 | []=>false
 |x::xs=>toks x||lV xs
end
mutual
def dC:AV→Bool
 | .int .. | .bool .. | .str .. | .eH| .dP| .eQ| .cI| .nX=>true
 | .slice _ xs o=>(match o with| .tok _=>false|_=>fH xs)
 | .cQ .. | .ptr .. | .yield _| .map _| .iter _=>false
 | .agg cs=>fH cs
 | .tuple vs=>fH vs
 | .aG v _=>dC v
 | .func _ a b=>fH a&&fH b
 | .iface _ v=>dC v
def fH:List AV→Bool
 | []=>true
 |x::xs=>dC x&&fH xs
end
def chunks(sz:Nat):Nat→List AV→List AV
 |0,_=> []
 |n+1,cs=>(match sz with|1=>cs.headD fW|_=> .agg (cs.take sz))::chunks sz n (cs.drop sz)
def szC(sz:Nat):List AV→Nat
 | []=>0
 |_::_=>sz
def j2:AV→Option AV
 | .slice sz xs o=>match o with| .no=>some (.slice sz xs .no)|_=>some (.slice (szC sz xs) xs .no)
 | .cQ .. | .tuple _| .nX| .agg _=>none
 |v=>some v
def aD3:List AV→Option (List AV)
 | []=>some []
 |x::xs=>match j2 x with|none=>none|some y=>match aD3 xs with|none=>none|some ys=>some (y::ys)
def iK:AV→Option AV
 | .agg cs=>match aD3 cs with|some ds=>some (.agg ds)|none=>none
 |v=>j2 v
def eD:List AV→Option (List AV)
 | []=>some []
 |x::xs=>match iK x with|none=>none|some y=>match eD xs with|none=>none|some ys=>some (y::ys)
def rowOf(s:ASt)(l off len sz:Nat):Option (List AV):=
 match s.blks[l]? with
 |some (.cells cs _)=>if off+len*sz≤cs.length then eD (chunks sz len (cs.drop off)) else none
 |_=>none
def aFO(s:ASt):AV→Option (AV×ASt)
 | .cQ l off len _ sz=>
  match rowOf s l off len sz,s.blks[l]? with
  |some xs,some (.cells cs _)=>some (.slice sz xs .no,{s with blks:=s.blks.set l (.cells cs false)})
  |_,_=>none
 |v=>match iK v with|some x=>some (x,s)|none=>none
def tH(s:ASt):List AV→Option (List AV×ASt)
 | []=>some ([],s)
 |x::xs=>match aFO s x with|none=>none|some (y,s1)=>match tH s1 xs with|none=>none|some (ys,s2)=>some (y::ys,s2)
structure bA where
 fn:Nat→Option AF
 gl:Nat→AV
 prim:Nat→Option (List AV→ASt→Option (kO×ASt))
def evO(P:bA)(e:Env):aQ→AV
 | .t i=>e i
 | .c v=>v
 | .g g=> .aG (P.gl g) 0
 | .f f=> .func f [] []
def big:Nat:=1099511627776
def kR(op:BinOp)(k:IntKind)(a b:Int):Option AV:=
 match op with
 | .add=>some (.int k (k.wrap (a+b)))
 | .sub=>some (.int k (k.wrap (a-b)))
 | .mul=>some (.int k (k.wrap (a*b)))
 | .quo=>if b=0 then none else some (.int k (k.wrap (a.tdiv b)))
 | .rem=>if b=0 then none else some (.int k (a.tmod b))
 | .and=>some (.int k (k.wrap (BitVec.ofInt k.bits a&&&BitVec.ofInt k.bits b).toNat))
 | .or=>some (.int k (k.wrap (BitVec.ofInt k.bits a|||BitVec.ofInt k.bits b).toNat))
 | .xor=>some (.int k (k.wrap (BitVec.ofInt k.bits a^^^BitVec.ofInt k.bits b).toNat))
 | .andNot=>some (.int k (k.wrap (BitVec.ofInt k.bits a&&& ~~~BitVec.ofInt k.bits b).toNat))
 | .eql=>some (.bool (a==b))
 | .neq=>some (.bool (a !=b))
 | .lss=>some (.bool (decide (a<b)))
 | .leq=>some (.bool (decide (a≤b)))
 | .gtr=>some (.bool (decide (a>b)))
 | .geq=>some (.bool (decide (a≥b)))
 |_=>none
def aON(op:BinOp)(a b:List UInt8):Option AV:=
 match op with
 | .add=>if a.length+b.length≤big then some (.str (a++b)) else none
 | .eql=>some (.bool (a==b))
 | .neq=>some (.bool (!(a==b)))
 | .lss=>some (.bool (Op.bytesLess a b))
 | .leq=>some (.bool (Op.bytesLess a b||a==b))
 | .gtr=>some (.bool (!(Op.bytesLess a b||a==b)))
 | .geq=>some (.bool (!Op.bytesLess a b))
 |_=>none
def aDz(op:BinOp):AV→AV→Option AV
 | .int k a,.int k' b=>
  match op with
  | .shl=>if b<0 then none else some (.int k (k.wrap (a*2^(min b.toNat k.bits))))
  | .shr=>if b<0 then none else some (.int k (k.wrap (a.fdiv (2^(min b.toNat k.bits)))))
  |_=>if k=k' then kR op k a b else none
 | .str a,.str b=>aON op a b
 |_,_=>none
def tI:AV→AV→Option Bool
 | .int k a,.int k' b=>if k=k' then some (a==b) else none
 | .bool a,.bool b=>some (a==b)
 | .str a,.str b=>some (a==b)
 |_,_=>none
def uN:List KK→List AV→List AV→Option Bool
 | [],[],[]=>some true
 | .int::ks,.int k a::xs,.int k' b::ys=>if k=k' then(match uN ks xs ys with|some r=>some ((a==b)&&r)|none=>none) else none
 | .bool::ks,.bool a::xs,.bool b::ys=>(match uN ks xs ys with|some r=>some ((a==b)&&r)|none=>none)
 | .str::ks,.str a::xs,.str b::ys=>(match uN ks xs ys with|some r=>some ((a==b)&&r)|none=>none)
 |_,_,_=>none
def eqA(x y:AV):Option Bool:=tI x y
def aFI:NK→AV→Option Bool
 | .ptr,.eH=>some true
 | .ptr,.ptr .. | .ptr,.aG .. =>some false
 | .iface,.cI=>some true
 | .iface,.iface .. =>some false
 | .func,.dP=>some true
 | .func,.func .. =>some false
 | .map,.eQ=>some true
 | .map,.map _=>some false
 | .slice,.slice _ (_::_) _=>some false
 |_,_=>none
def partOf(agg:Bool)(sz:Nat)(cs:List AV)(off:Nat):Option AV:=
 match agg with
 |true=>if off+sz≤cs.length then some (.agg ((cs.drop off).take sz)) else none
 |false=>cs[off]?
def gK(cs:List AV)(off:Nat)(ds:List AV):List AV:=cs.take off++ds++cs.drop (off+ds.length)
def aEP(z:List AV):List (Nat×Nat×AV)→Option (List AV)
 | []=>some z
 |(off,sz,v)::rest=>
  match iK v with
  |some v=>if(cellsOf v).length=sz&&off+sz≤z.length then aEP (gK z off (cellsOf v)) rest else none
  |none=>none
def aFz(n:Nat)(z:List AV):List AV:=match n with|0=> []|n+1=>z++aFz n z
def vS(xs:List AV):List (Nat×AV)→Option (List AV)
 | []=>some xs
 |(i,v)::rest=>if i<xs.length then vS (xs.set i v) rest else none
def elemOf(sz:Nat)(z:List AV):AV:=match sz with|1=>z.headD fW|_=> .agg z
def jD:AV→Option Nat
 | .int _ n=>if 0≤n then some n.toNat else none
 |_=>none
def cS(P:bA)(e:Env)(d:Nat):Option aQ→Option Nat
 |none=>some d
 |some x=>jD (evO P e x)
def bX(P:bA)(e:Env):AOp→Option AV
 | .mv x=>some (evO P e x)
 | .pick c a b=>match evO P e c with| .bool t=>some (match t with|true=>evO P e a|false=>evO P e b)|_=>none
 | .eT x=>match iK (evO P e x) with|some v=>some (.aG v 0)|none=>none
 | .build z parts=>match aEP z (parts.map fun p=>(p.1,p.2.1,evO P e p.2.2)) with|some cs=>some (.agg cs)|none=>none
 | .iD esz len z parts=>
  match eD (parts.map fun p=>evO P e p.2) with
  |some vs=>
   if vs.all (fun v=>(cellsOf v).length==esz)&&decide (len*esz≤16777216) then
    match vS (List.replicate len (elemOf esz z)) ((parts.map (·.1)).zip vs) with
    |some xs=>some (.slice esz xs .full)
    |none=>none
   else none
  |none=>none
 | .fA x=>match evO P e x with| .ptr l o=>some (.ptr l o)| .aG v o=>some (.aG v o)| .func f a b=>some (.func f a b)| .yield l=>some (.yield l)|_=>none
 | .bin op x y=>aDz op (evO P e x) (evO P e y)
 | .eq neg x y=>match eqA (evO P e x) (evO P e y) with|some b=>some (.bool (match neg with|true=> !b|false=>b))|none=>none
 | .eqF neg ks x y=>
  match evO P e x,evO P e y with
  | .agg xs,.agg ys=>match uN ks xs ys with|some b=>some (.bool (match neg with|true=> !b|false=>b))|none=>none
  |_,_=>none
 | .aGu neg k x=>match aFI k (evO P e x) with|some b=>some (.bool (match neg with|true=> !b|false=>b))|none=>none
 | .un .not x=>match evO P e x with| .bool b=>some (.bool (!b))|_=>none
 | .un .neg x=>match evO P e x with| .int k n=>some (.int k (k.wrap (0-n)))|_=>none
 | .un .xor x=>match evO P e x with| .int k n=>some (.int k (k.wrap (BitVec.ofInt k.bits (if k.signed then-1 else k.max)^^^BitVec.ofInt k.bits n).toNat))|_=>none
 | .toInt k x=>match evO P e x with| .int k' n=>some (.int k (if k=k' then n else k.wrap n))|_=>none
 | .aBP t x=>match iK (evO P e x) with|some v=>some (.iface t v)|none=>none
 | .nT f a b=>match eD (a.map (evO P e)),eD (b.map (evO P e)) with|some a,some b=>some (.func f a b)|_,_=>none
 | .aAg esz x lo hi mx=>
  match evO P e x with
  | .slice sz xs o=>
   match cS P e xs.length mx,cS P e xs.length hi,cS P e 0 lo with
   |some m,some h,some l=>
    if l≤h&&h≤m&&m≤xs.length&&(sz=esz||xs.isEmpty)&&(mx.isNone||hi.isSome) then
     some (match lo,hi,mx with
      |none,none,none=> .slice sz xs o
      |_,_,some _=> .slice (szC sz ((xs.take h).drop l)) ((xs.take h).drop l) (if h=m then .full else .no)
      |_,_,_=> .slice (szC sz ((xs.take h).drop l)) ((xs.take h).drop l) .no)
    else none
   |_,_,_=>none
  | .cQ l0 off len cap sz=>
   match mx,cS P e len hi,cS P e 0 lo with
   |none,some h,some l=>if l≤h&&h≤len&&sz=esz&&(l=0||l<cap) then some (.cQ l0 (off+l*sz) (h-l) (cap-l) sz) else none
   |_,_,_=>none
  |_=>none
 | .aFp x lo hi=>
  match evO P e x with
  | .str s=>
   match cS P e s.length hi,cS P e 0 lo with
   |some h,some l=>if l≤h&&h≤s.length then some (.str ((s.take h).drop l)) else none
   |_,_=>none
  |_=>none
 | .aQm n esz x lo hi=>
  match evO P e x,cS P e n hi,cS P e 0 lo with
  | .aG v off,some h,some l=>
   if l≤h&&h≤n&&off+n*esz≤(cellsOf v).length then some (.slice esz (chunks esz (h-l) ((cellsOf v).drop (off+l*esz))) .no) else none
  | .ptr b off,some h,some l=>if l≤h&&h≤n&&(l=0||l<n) then some (.cQ b (off+l*esz) (h-l) (n-l) esz) else none
  |_,_,_=>none
 | .aI off x=>match evO P e x with| .ptr l o=>some (.ptr l (o+off))| .aG v o=>some (.aG v (o+off))|_=>none
 | .field agg off sz x=>match evO P e x with| .agg cs=>partOf agg sz cs off|_=>none
 | .cX esz x i=>
  match evO P e x,jD (evO P e i) with
  | .slice sz xs _,some i=>if sz=esz then(match xs[i]? with|some x=>some (.aG x 0)|none=>none) else none
  | .cQ l off len _ sz,some i=>if sz=esz&&i<len then some (.ptr l (off+i*sz)) else none
  |_,_=>none
 | .aCv n esz x i=>
  match evO P e x,jD (evO P e i) with
  | .ptr l o,some i=>if i<n then some (.ptr l (o+i*esz)) else none
  | .aG v o,some i=>if i<n then some (.aG v (o+i*esz)) else none
  |_,_=>none
 | .wY x i=>
  match evO P e x,jD (evO P e i) with
  | .str s,some i=>match s[i]? with|some b=>some (.int .u8 b.toNat)|none=>none
  |_,_=>none
 | .assert ok t z x=>
  match evO P e x with
  | .iface t' v=>if t'=t then some (match ok with|true=> .tuple [v,.bool true]|false=>v) else(match ok with|true=>some (.tuple [z,.bool false])|false=>none)
  | .cI=>match ok with|true=>some (.tuple [z,.bool false])|false=>none
  |_=>none
 | .extract x i=>match evO P e x with| .tuple vs=>vs[i]?|_=>none
 | .eE x=>match evO P e x with| .slice _ xs _=>some (.int .i64 xs.length)| .cQ _ _ len _ _=>some (.int .i64 len)|_=>none
 | .aCG x=>match evO P e x with| .str s=>some (.int .i64 s.length)|_=>none
 | .aUO n=>some (.int .i64 n)
 | .aBh mx [x,y]=>
  match evO P e x,evO P e y with
  | .int k a,.int k' b=>if k=k' then some (.int k (match mx with|true=>max a b|false=>min a b)) else none
  |_,_=>none
 |_=>none
def keyOf:KK→AV→Bool
 | .int,.int .. | .str,.str _| .bool,.bool _=>true
 |_,_=>false
def rI(k:AV):List (AV×AV)→Option (Option AV)
 | []=>some none
 |(a,v)::rest=>match tI k a with|some true=>some (some v)|some false=>rI k rest|none=>none
def aEH(k v:AV):List (AV×AV)→Option (List (AV×AV))
 | []=>some [(k,v)]
 |(a,u)::rest=>match tI k a with|some true=>some ((k,v)::rest)|some false=>(match aEH k v rest with|some r=>some ((a,u)::r)|none=>none)|none=>none
def gO(P:bA)(e:Env)(s:ASt):AOp→Option AV
 | .load agg sz x=>
  match evO P e x with
  | .aG v off=>match agg with
   |true=>match off with
    |0=>if(cellsOf v).length=sz then some (.agg (cellsOf v)) else partOf true sz (cellsOf v) 0
    |off=>partOf true sz (cellsOf v) off
   |false=>(cellsOf v)[off]?
  | .ptr l off=>
   match s.blks[l]? with
   |some (.cells cs _)=>match agg with
    |true=>match partOf true sz cs off with|some v=>iK v|none=>none
    |false=>cs[off]?
   |_=>none
  |_=>none
 | .lookup ok kk z m k=>
  match evO P e m with
  | .map l=>
   match s.blks[l]? with
   |some (.map es)=>
    if keyOf kk (evO P e k) then
     match rI (evO P e k) es with
     |some (some v)=>some (match ok with|true=> .tuple [v,.bool true]|false=>v)
     |some none=>some (match ok with|true=> .tuple [z,.bool false]|false=>z)
     |none=>none
    else none
   |_=>none
  | .eQ=>some (match ok with|true=> .tuple [z,.bool false]|false=>z)
  |_=>none
 |_=>none
def low(b:Bool)(l:Nat):Option Nat→Option Nat
 |none=>match b with|true=>some l|false=>none
 |some m=>match b with|true=>some (min l m)|false=>some m
def mM(s:ASt)(l:Nat)(cs:List AV)(blks:List dG):ASt:=
 {s with blks,lowB:=low (jX cs) l s.lowB,lowT:=low (lV cs) l s.lowT}
def u9:AV→Bool
 | .slice .. =>true
 |_=>false
def elems(s:ASt)(esz:Nat):AV→Option (List AV)
 | .slice sz ys _=>if sz=esz||ys.isEmpty then some ys else none
 | .cQ l off len _ sz=>if sz=esz then rowOf s l off len sz else none
 |_=>none
def lG(xs:List AV):List AV:=xs.flatMap cellsOf
def xH:AV→Bool
 | .tuple _| .nX=>false
 |_=>true
def eX(P:bA)(e:Env)(s:ASt):AOp→Option (AV×ASt)
 | .box x=>match xH (evO P e x) with|true=>some (.ptr s.blks.length 0,{s with blks:=s.blks++ [.cells (cellsOf (evO P e x)) true]})|false=>none
 | .alloc z=>some (.ptr s.blks.length 0,{s with blks:=s.blks++ [.cells z true]})
 | .store sz a x=>
  match evO P e a with
  | .ptr l off=>
   match s.blks[l]? with
   |some (.cells cs true)=>
    if xH (evO P e x)&&(cellsOf (evO P e x)).length=sz&&off+sz≤cs.length then
     some (fW,mM s l (cellsOf (evO P e x)) (s.blks.set l (.cells (gK cs off (cellsOf (evO P e x))) true)))
    else none
   |_=>none
  |_=>none
 | .mkMap=>some (.map s.blks.length,{s with blks:=s.blks++ [.map []]})
 | .mkSlice esz bytes z l c=>
  match jD (evO P e l),jD (evO P e c) with
  |some l,some c=>
   if l≤c&&c*bytes≤big&&c≤big then some (.cQ s.blks.length 0 l c esz,{s with blks:=s.blks++ [.cells (aFz c z) true]}) else none
  |_,_=>none
 | .mC kk m k v=>
  match evO P e m,iK (evO P e v) with
  | .map l,some v=>
   match s.blks[l]? with
   |some (.map es)=>
    if keyOf kk (evO P e k) then
     match aEH (evO P e k) v es with
     |some es'=>some (fW,mM s l [v] (s.blks.set l (.map es')))
     |none=>none
    else none
   |_=>none
  |_,_=>none
 | .n4 x=>match evO P e x with| .str t=>some (.iter s.blks.length,{s with blks:=s.blks++ [.iter t 0]})|_=>none
 | .oG it=>
  match evO P e it with
  | .iter l=>
   match s.blks[l]? with
   |some (.iter t pos)=>
    if pos<t.length then
     match Utf8.decode ⟨t.toArray⟩ pos with
     |(c,width)=>some (.tuple [.bool true,.int .i64 pos,.int .i32 c],{s with blks:=s.blks.set l (.iter t (pos+width))})
    else some (.tuple [.bool false],s)
   |_=>none
  |_=>none
 | .append tk esz bytes a x=>
  match !tk||(u9 (evO P e a)&&u9 (evO P e x)) with
  |false=>none
  |true=>
  match elems s esz (evO P e x) with
  |some []=>match evO P e a with| .slice sz xs o=>some (.slice sz xs o,s)| .cQ l o n c sz=>some (.cQ l o n c sz,s)|_=>none
  |some (y::ys)=>
   match evO P e a with
   | .slice sz xs o=>
    if(sz=esz||xs.isEmpty)&&(xs.length+(ys.length+1))*bytes≤big&&xs.length+(ys.length+1)≤big&&0<esz then
     match o with
     | .full=>some (.slice esz (xs++y::ys) (.tok s.toks.length),{s with toks:=s.toks++ [xs.length+(ys.length+1)]})
     | .tok t=>
      match s.toks[t]? with
      |some n=>if sz=esz&&n=xs.length then some (.slice sz (xs++y::ys) (.tok t),{s with toks:=s.toks.set t (xs.length+(ys.length+1))}) else none
      |none=>none
     | .no=>none
    else none
   | .cQ l off len cap sz=>
    if sz=esz&&(len+(ys.length+1))*bytes≤big&&len+(ys.length+1)≤big&&0<esz then
     if len+(ys.length+1)≤cap then
      match s.blks[l]? with
      |some (.cells cs true)=>
       if off+(len+(ys.length+1))*sz≤cs.length&&(lG (y::ys)).length=(ys.length+1)*sz then
        some (.cQ l off (len+(ys.length+1)) cap sz,mM s l (lG (y::ys)) (s.blks.set l (.cells (gK cs (off+len*sz) (lG (y::ys))) true)))
       else none
      |_=>none
     else
      match rowOf s l off len sz with
      |some xs=>some (.slice sz (xs++y::ys) (.tok s.toks.length),{s with toks:=s.toks++ [len+(ys.length+1)]})
      |none=>none
    else none
   |_=>none
  |none=>none
 | .copy esz d x=>
  match evO P e d,elems s esz (evO P e x) with
  | .cQ l off len _ sz,some ys=>
   match s.blks[l]? with
   |some (.cells cs true)=>
    if sz=esz&&off+len*sz≤cs.length&&(lG (ys.take len)).length=(min ys.length len)*sz then
     some (.int .i64 (min ys.length len:Nat),mM s l (lG (ys.take len)) (s.blks.set l (.cells (gK cs off (lG (ys.take len))) true)))
    else none
   |_=>none
  |_,_=>none
 |_=>none
inductive jI where
 |mark (l:Nat)
 |call (f:Nat) (args:List AV)
structure Fr where
 env:Env
 ds:List jI
inductive rP where
 |norm (fr:Fr) (s:ASt)
 |pan (v:AV) (fr:Fr) (s:ASt)
def wanted(e:Env):Option (Nat×Bool)→Option Bool
 |none=>some true
 |some (t,b)=>match e t with| .bool c=>some (c==b)| .tuple []=>some false|_=>none
def eB:ASt:={blks:= [],toks:= []}
def isE(s:ASt):Bool:=match s.blks,s.toks with| [],[]=>true|_,_=>false
def oM:AV→Option AV
 | .tuple vs=>match eD vs with|some ws=>some (.tuple ws)|none=>none
 |v=>iK v
def aS(d:Option Nat)(pd:List (Nat×Nat)):List (Nat×Nat):=
 match d with|none=>pd|some d=>pd.filter fun x=> !(Nat.beq x.1 d)
def target:AV→Option (AFn×List AV×List AV)
 | .func f a b=>some (.func f,a,b)
 | .yield l=>some (.yield l,[],[])
 |_=>none
def bS(H:Handler)(P:bA):List AI→List (Nat×Nat)→Fr→ASt→Option rP
 | [],_,fr,s=>some (.norm fr s)
 |i::rest,pd,fr,s=>
  match wanted fr.env i.gd with
  |none=>none
  |some false=>bS H P rest (aS i.d pd) {fr with env:=fQ fr.env i.d fW} s
  |some true=>
   match i.op with
   | .pend z=>match i.d with|some d=>bS H P rest ((d,z.length)::aS i.d pd) {fr with env:=upd fr.env d .nX} s|none=>none
   | .shut d sz x=>
    match i.d,iK (evO P fr.env x) with
    |none,some v=>if(cellsOf v).length=sz&&pd.any (fun p=>Nat.beq p.1 d&&Nat.beq p.2 sz) then bS H P rest (aS (some d) pd) {fr with env:=upd fr.env d (.aG v 0)} s else none
    |_,_=>none
   | .defer f args=>
    match evO P fr.env f,eD (args.map (evO P fr.env)) with
    | .func g a b,some vs=>bS H P rest (aS i.d pd) {env:=fQ fr.env i.d fW,ds:= .call g (a++vs++b)::fr.ds} s
    |_,_=>none
   | .panic x=>match evO P fr.env x with| .iface t v=>some (.pan (.iface t v) fr s)|_=>none
   | .aN st f args=>
    match evO P fr.env f,eD (args.map (evO P fr.env)) with
    | .func g a b,some vs=>
     match(!st&&isE s)||fH (a++vs++b),H.call (.func g) (a++vs++b) eB with
     |true,some (.ret v,s2)=>
      match oM v with
      |some v=>match isE s2||dC v with|true=>bS H P rest (aS i.d pd) {fr with env:=fQ fr.env i.d v} s|false=>none
      |none=>none
     |_,_=>none
    |_,_=>none
   | .call f args=>
    match target (evO P fr.env f),tH s (args.map (evO P fr.env)) with
    |some (g,a,b),some (vs,s1)=>
     match H.call g (a++vs++b) s1 with
     |some (.ret v,s2)=>bS H P rest (aS i.d pd) {fr with env:=fQ fr.env i.d v} s2
     |some (.panic v,s2)=>some (.pan v fr s2)
     |none=>none
    |_,_=>none
   |op=>
    match bX P fr.env op with
    |some v=>bS H P rest (aS i.d pd) {fr with env:=fQ fr.env i.d v} s
    |none=>
     match gO P fr.env s op with
     |some v=>bS H P rest (aS i.d pd) {fr with env:=fQ fr.env i.d v} s
     |none=>
      match eX P fr.env s op with
      |some (v,s1)=>bS H P rest (aS i.d pd) {fr with env:=fQ fr.env i.d v} s1
      |none=>none
structure CR where
 ex:dO
 fr:Fr
 s:ASt
def oQ(step:Fr→ASt→Option CR):Nat→Fr→ASt→Option CR
 |0,_,_=>none
 |n+1,fr,s=>
  match step fr s with
  |some r=>match r.ex with| .normal=>oQ step n r.fr r.s|_=>some r
  |none=>none
def sL(rd:Option Nat)(params:List Nat)(assign body:AC)(fr:Fr)(s:ASt):Option (Nat×List jI×ASt):=
 match rd with
 |none=>some (s.blks.length+1,[.mark s.blks.length],{s with blks:=s.blks++ [.tW,.loop {st:= .ready,pend:=none,env:=fr.env,dq:=s.blks.length,params,assign,body}]})
 |some r=>
  match s.blks[r]? with
  |some (.loop lp)=>some (s.blks.length,[],{s with blks:=s.blks++ [.loop {st:= .ready,pend:=none,env:=fr.env,dq:=lp.dq,params,assign,body}]})
  |_=>none
def aBN(P:bA)(g:Nat):Bool:=(P.prim g).isNone&&(P.fn g).isSome
def evC(H:Handler)(P:bA)(rd:Option Nat)(lf:Nat):AC→Fr→ASt→Option CR
 | .skip,fr,s=>some ⟨.normal,fr,s⟩
 | .reg _ ops,fr,s=>
  match bS H P ops [] fr s with
  |some (.norm fr s)=>some ⟨.normal,fr,s⟩
  |some (.pan v fr s)=>some ⟨.panic v,fr,s⟩
  |none=>none
 | .seq a b,fr,s=>
  match evC H P rd lf a fr s with
  |some r=>match r.ex with| .normal=>evC H P rd lf b r.fr r.s|_=>some r
  |none=>none
 | .cond c t e,fr,s=>
  match evO P fr.env c with
  | .bool b=>match b with|true=>evC H P rd lf t fr s|false=>evC H P rd lf e fr s
  |_=>none
 | .block id b,fr,s=>
  match evC H P rd lf b fr s with
  |some r=>match r.ex with| .exit j=>(match Nat.beq j id with|true=>some ⟨.normal,r.fr,r.s⟩|false=>some r)|_=>some r
  |none=>none
 | .loop b,fr,s=>oQ (evC H P rd lf b) lf fr s
 | .exit id,fr,s=>some ⟨.exit id,fr,s⟩
 | .ret,fr,s=>some ⟨.ret,fr,s⟩
 | .scope b,fr,s=>evC H P rd lf b fr s
 | .nU f params assign body,fr,s=>
  match sL rd params assign body fr s,evO P fr.env f with
  |some (l,mark,s1),.func g a b=>
   match aBN P g,H.call (.func g) (a++ .yield l::b) s1 with
   |true,some (.ret _,s2)=>
    match s2.blks[l]? with
    |some (.loop lp)=>
     match lp.st with
     | .busy=>none
     |_=>some ⟨lp.pend.getD .normal,{fr with ds:=mark++fr.ds},{s2 with blks:=s2.blks.set l (.loop {lp with st:= .exhausted})}⟩
    |_=>none
   |true,some (.panic v,s2)=>some ⟨.panic v,{fr with ds:=mark++fr.ds},s2⟩
   |_,_=>none
  |_,_=>none
def eR(s:ASt)(l:Nat)(f:xR→xR):Option ASt:=
 match s.blks[l]? with
 |some (.loop lp)=>some {s with blks:=s.blks.set l (.loop (f lp))}
 |_=>none
def j6(s:ASt)(l:Nat):Option ASt:=
 match s.blks[l]? with
 |some (.loop lp)=>match lp.st with| .ready=>some {s with blks:=s.blks.set l (.loop {lp with st:= .busy})}|_=>none
 |_=>none
def oP(e:Env):List Nat→List AV→Env
 |p::ps,v::vs=>oP (upd e p v) ps vs
 |_,_=>e
def p7(H:Handler)(P:bA)(lf:Nat)(l:Nat)(args:List AV)(s:ASt):Option (kO×ASt):=
 match s.blks[l]? with
 |some (.loop lp)=>
  match decide (lp.st= .ready),decide (args.length=lp.params.length) with
  |true,true=>
   match evC H P (some l) lf lp.assign ⟨oP lp.env lp.params args,[]⟩ s with
   |some ⟨.normal,⟨e1,[]⟩,s1⟩=>
    match j6 s1 l with
    |some s2=>
     match evC H P (some l) lf lp.body ⟨e1,[]⟩ s2 with
     |some ⟨ex,⟨_,[]⟩,s3⟩=>
      match ex with
      | .panic v=>some (.panic v,s3)
      | .normal=>match eR s3 l fun lp=>{lp with st:= .ready,pend:=none} with|some s4=>some (.ret (.bool true),s4)|none=>none
      |ex=>match eR s3 l fun lp=>{lp with st:= .done,pend:=some ex} with|some s4=>some (.ret (.bool false),s4)|none=>none
     |_=>none
    |none=>none
   |_=>none
  |_,_=>none
 |_=>none
def iX(H:Handler):List jI→DM→ASt→Option (DM×ASt)
 | [],m,s=>some (m,s)
 | .mark l::ds,m,s=>match s.blks[l]? with|some .tW=>iX H ds m {s with blks:=s.blks.set l .dead}|_=>none
 | .call f args::ds,m,s=>match H.dcall f args m s with|some (m,s)=>iX H ds m s|none=>none
def aCS(P:bA)(e:Env)(s:ASt):ARV→Option AV
 | .tmp t=>some (e t)
 | .cell t agg sz=>gO P e s (.load agg sz (.t t))
def kQ(P:bA)(e:Env)(s:ASt):List ARV→Option (List AV)
 | []=>some []
 |x::xs=>match aCS P e s x,kQ P e s xs with|some v,some vs=>some (v::vs)|_,_=>none
def cW(base:Nat):Option Nat→Bool
 |none=>false
 |some l=>decide (l<base)
def aDY:Option Nat→Option Nat→Option Nat
 |none,b=>b
 |a,none=>a
 |some a,some b=>some (min a b)
def z1(base:Nat)(a b:Option Nat):Option Nat:=match cW base b with|true=>aDY a b|false=>a
def dS(s0:ASt)(d:Bool)(s:ASt):ASt:=
 match Nat.beq s.blks.length s0.blks.length with
 |true=>{s with lowB:=z1 s0.blks.length s0.lowB s.lowB}
 |false=>
  match cW s0.blks.length s.lowB||d with
  |true=>{s with lowB:=aDY s0.lowB s.lowB}
  |false=>{s with blks:=s.blks.take s0.blks.length,lowB:=s0.lowB}
def aDs(s0:ASt)(d:Bool)(s:ASt):Bool:=Nat.beq s.blks.length s0.blks.length&& !(cW s0.blks.length s.lowT||d)
def fL(s0:ASt)(d:Bool)(s:ASt):ASt:=
 match Nat.beq s.toks.length s0.toks.length with
 |true=>{s with lowT:=z1 s0.blks.length s0.lowT s.lowT}
 |false=>
  match aDs s0 d s with
  |true=>{s with toks:=s.toks.take s0.toks.length,lowT:=s0.lowT}
  |false=>{s with lowT:=aDY s0.lowT s.lowT}
def settle(s0:ASt)(v:AV)(s:ASt):AV×ASt:=
 match v with
 | .slice sz xs (.tok t)=>
  match decide (t<s0.toks.length) with
  |true=>(.slice sz xs (.tok t),fL s0 (lV xs) (dS s0 (jX xs) s))
  |false=>
   match aDs s0 (lV xs) (dS s0 (jX xs) s),s.toks[t]? with
   |true,some n=>
    match Nat.beq n xs.length with
    |true=>(.slice sz xs (.tok s0.toks.length),{dS s0 (jX xs) s with toks:=s.toks.take s0.toks.length++ [n],lowT:=s0.lowT})
    |false=>(.slice (szC sz xs) xs .no,fL s0 (lV xs) (dS s0 (jX xs) s))
   |_,_=>(.slice (szC sz xs) xs .no,fL s0 (lV xs) (dS s0 (jX xs) s))
 |v=>(v,fL s0 (toks v) (dS s0 (pA v) s))
def pT(s:ASt):List AV→Option (AV×ASt)
 | [.slice sz xs o]=>some (.slice sz xs o,s)
 | [v]=>aFO s v
 |vs=>match tH s vs with|some (ws,s)=>some (.tuple ws,s)|none=>none
def hJ(args:List AV):Env:=fun i=>args.getD i fW
def aU(s:ASt):ASt:={s with lowB:=none,lowT:=none}
def aBI(H:Handler)(P:bA)(lf:Nat)(f:AF)(args:List AV)(s:ASt):Option (kO×ASt):=
 match Nat.ble args.length f.nt with
 |false=>none
 |true=>
 match evC H P none lf f.body ⟨hJ args,[]⟩ (aU s) with
 |some ⟨ex,fr,s1⟩=>
  match(match ex with| .normal=>some DM.ret| .ret=>some DM.ret| .panic v=>some (DM.pan v)| .exit _=>none) with
  |some m=>
   match iX H fr.ds m s1 with
   |some (.pan v,s2)=>some (.panic v,fL s (toks v) (dS s (pA v) s2))
   |some (.ret,s2)=>
    match kQ P fr.env s2 f.res with
    |some vs=>
     match pT s2 vs with
     |some (v,s3)=>match settle s v s3 with|(v,s4)=>some (.ret v,s4)
     |none=>none
    |none=>none
   |none=>none
  |none=>none
 |none=>none
inductive RC where
 |ret
 |pan (v:AV)
 |aOa
def tJ(P:bA):List AI→Fr→RC→ASt→Option (Fr×RC×ASt)
 | [],fr,rc,s=>some (fr,rc,s)
 |i::rest,fr,rc,s=>
  match i.op,i.gd with
  | .aCW,none=>
   match rc with
   | .pan v=>tJ P rest {fr with env:=fQ fr.env i.d v} .aOa s
   |rc=>tJ P rest {fr with env:=fQ fr.env i.d .cI} rc s
  |op,gd=>
   match wanted fr.env gd,bX P fr.env op with
   |some true,some v=>tJ P rest {fr with env:=fQ fr.env i.d v} rc s
   |_,_=>none
def aIX(ops:List AI):Bool:=ops.any fun i=>match i.op with| .aCW=>true|_=>false
def evD(H:Handler)(P:bA)(lf:Nat):AC→Fr→RC→ASt→Option (dO×Fr×RC×ASt)
 | .reg draw ops,fr,rc,s=>
  match aIX ops with
  |true=>match draw,tJ P ops fr rc s with|false,some (fr,rc,s)=>some (.normal,fr,rc,s)|_,_=>none
  |false=>match evC H P none lf (.reg draw ops) fr s with|some r=>some (r.ex,r.fr,rc,r.s)|none=>none
 | .seq a b,fr,rc,s=>
  match evD H P lf a fr rc s with
  |some (.normal,fr,rc,s)=>evD H P lf b fr rc s
  |r=>r
 | .cond c t e,fr,rc,s=>
  match evO P fr.env c with
  | .bool b=>match b with|true=>evD H P lf t fr rc s|false=>evD H P lf e fr rc s
  |_=>none
 |c,fr,rc,s=>match evC H P none lf c fr s with|some r=>some (r.ex,r.fr,rc,r.s)|none=>none
def aTD:DM→RC
 | .ret=> .ret
 | .pan v=> .pan v
def aDD(H:Handler)(P:bA)(lf:Nat)(f:AF)(args:List AV)(m:DM)(s:ASt):Option (DM×ASt):=
 match Nat.ble args.length f.nt with
 |false=>none
 |true=>
 match evD H P lf f.body ⟨hJ args,[]⟩ (aTD m) (aU s) with
 |some (ex,⟨_,[]⟩,rc,s1)=>
  match(match ex with| .normal=>true| .ret=>true|_=>false) with
  |true=>
   match f.res with
   | []=>
    match rc with
    | .pan v=>some (.pan v,fL s (toks v) (dS s (pA v) s1))
    |_=>some (.ret,fL s false (dS s false s1))
   |_=>none
  |false=>none
 |_=>none
def cU(P:bA):Nat→Handler
 |0=>{call:=fun _ _ _=>none,dcall:=fun _ _ _ _=>none}
 |n+1=>
  {call:=fun g args s=>
    match g with
    | .func f=>
     match P.prim f with
     |some p=>p args s
     |none=>match P.fn f with|some af=>aBI (cU P n) P n af args s|none=>none
    | .yield l=>p7 (cU P n) P n l args s
   dcall:=fun f args m s=>match P.fn f with|some af=>aDD (cU P n) P n af args m s|none=>none}
structure Ev{α:Type}(F:Nat→Option α)(Q:α→Prop):Prop where
 out: ∃r N,Q r∧ ∀n,N≤n→F n=some r
section
variable {α β : Type} {F F' : Nat → Option α} {Q Q' : α → Prop}
theorem Ev.mono(h:Ev F Q)(k: ∀r,Q r→Q' r):Ev F Q':=by
 obtain⟨r,N,h1,h2⟩:=h.out;exact⟨r,N,k r h1,h2⟩
theorem Ev.congr(h:Ev F Q)(e: ∀n,F' n=F n):Ev F' Q:=by
 obtain⟨r,N,h1,h2⟩:=h.out;exact⟨r,N,h1,fun n hn=>(e n).trans (h2 n hn)⟩
theorem Ev.one{r:α}(h: ∀n,F n=some r)(hq:Q r):Ev F Q:=⟨r,0,hq,fun n _=>h n⟩
theorem Ev.bind{G:Nat→α→Option β}{K:Nat→Option β}{Q:β→Prop}(h:Ev F (fun r=>Ev (fun n=>G n r) Q))(e: ∀n r,F n=some r→K n=G n r):Ev K Q:=by
 obtain⟨r,N,h1,h2⟩:=h.out;obtain⟨x,M,h3,h4⟩:=h1.out;exact⟨x,max N M,h3,fun n hn=>(e n r (h2 n (by omega))).trans (h4 n (by omega))⟩
theorem Ev.succ(h:Ev (fun n=>F (n+1)) Q):Ev F Q:=by
 obtain⟨r,N,h1,h2⟩:=h.out;refine⟨r,N+1,h1,fun n hn=> ?_⟩;cases n with
 |zero=>omega
 |succ n=>exact h2 n (by omega)
end
def dM(P:bA)(e:Env)(s:ASt)(op:AOp):Option (AV×ASt):=
 match bX P e op with
 |some v=>some (v,s)
 |none=>match gO P e s op with
  |some v=>some (v,s)
  |none=>eX P e s op
def plainO:AOp→Bool
 | .pend _| .shut .. | .defer .. | .panic _| .aN .. | .call .. =>false
 |_=>true
structure Wo(P:bA)(is:List AI)(pd:List (Nat×Nat))(fr:Fr)(s:ASt)(Q:rP→Prop):Prop where
 ev:Ev (fun n=>bS (cU P n) P is pd fr s) Q
section
variable {H : Handler} {P : bA} {i : AI} {d : Nat} {d' : Option Nat} {op : AOp} {gd : Option (Nat × Bool)} {pre : List Nat} {rest : List AI} {pd : List (Nat × Nat)} {fr : Fr} {e : Env} {ds : List jI} {s s1 : ASt} {Q : rP → Prop} {v : AV}
theorem y0(hp:plainO op=true)(hg:wanted e gd=some true)(h:dM P e s op=some (v,s1)):
  bS H P (⟨d',op,gd,pre⟩::rest) pd ⟨e,ds⟩ s=bS H P rest (aS d' pd) ⟨fQ e d' v,ds⟩ s1:=by
 have key:(match bX P e op with
    |some v=>bS H P rest (aS d' pd) ⟨fQ e d' v,ds⟩ s
    |none=>
     match gO P e s op with
     |some v=>bS H P rest (aS d' pd) ⟨fQ e d' v,ds⟩ s
     |none=>
      match eX P e s op with
      |some (v,s1)=>bS H P rest (aS d' pd) ⟨fQ e d' v,ds⟩ s1
      |none=>none)=bS H P rest (aS d' pd) ⟨fQ e d' v,ds⟩ s1:=by
  unfold dM at h;cases h1:bX P e op with
  |some x=>simp [h1] at h;obtain⟨rfl,rfl⟩:=h;rfl
  |none=>
   cases h2:gO P e s op with
   |some x=>simp [h1,h2] at h;obtain⟨rfl,rfl⟩:=h;rfl
   |none=>simp [h1,h2] at h;simp [h]
 rw [←key];simp only [bS,hg];cases op<;>first|rfl|(simp [plainO] at hp)
theorem aA(h:Q (.norm fr s)):Wo P [] pd fr s Q:=⟨.one (fun _=>rfl) h⟩
theorem aV1(hp:plainO op=true)(hg:wanted e gd=some true)(h:dM P e s op=some (v,s1))(k:Wo P rest [] ⟨fQ e d' v,ds⟩ s1 Q):Wo P (⟨d',op,gd,pre⟩::rest) [] ⟨e,ds⟩ s Q:=
 ⟨k.ev.congr fun _=>by rw [y0 hp hg h];cases d'<;>rfl⟩
theorem aTu(hp:plainO op=true)(hg:wanted e gd=some true)(h:dM P e s op=some (v,s1))(k:Wo P rest (aS d' pd) ⟨fQ e d' v,ds⟩ s1 Q):Wo P (⟨d',op,gd,pre⟩::rest) pd ⟨e,ds⟩ s Q:=
 ⟨k.ev.congr fun _=>y0 hp hg h⟩
theorem aQy{f:aQ}{args:List aQ}{g:Nat}{a b vs:List AV}(hf:evO P e f= .func g a b)(ha:eD (args.map (evO P e))=some vs)(k:Wo P rest (aS d' pd) ⟨fQ e d' fW,.call g (a++vs++b)::ds⟩ s Q):
  Wo P (⟨d',.defer f args,none,pre⟩::rest) pd ⟨e,ds⟩ s Q:=
 ⟨k.ev.congr fun _=>by simp only [bS,wanted,hf,ha]⟩
def Can(v:AV):Prop:=iK v=some v∧dC v=true
inductive aEO:List AV→Prop
 |nil:aEO []
 |cons {v:AV} {vs:List AV} (h:Can v) (t:aEO vs):aEO (v::vs)
theorem aEO.pure{vs:List AV}(h:aEO vs):fH vs=true:=by
 induction h with
 |nil=>rfl
 |cons h _ ih=>simp only [fH,h.2,ih,Bool.and_self]
theorem aMr: ∀{vs:List AV},eD vs=some vs→fH vs=true→aEO vs
 | [],_,_=> .nil
 |v::vs,h,hp=>by
  simp only [fH,Bool.and_eq_true] at hp;simp only [eD] at h;split at h
  ·cases h
  ·rename_i y hy;split at h
   ·cases h
   ·rename_i ys hys;simp only [Option.some.injEq,List.cons.injEq] at h;exact .cons ⟨by rw [hy,h.1],hp.1⟩ (aMr (by rw [hys,h.2]) hp.2)
theorem aRo(k:IntKind)(n:Int):Can (.int k n):=⟨rfl,rfl⟩
theorem aRR(s:List UInt8):Can (.str s):=⟨rfl,rfl⟩
structure Pf(P:bA)(g:Nat)(args:List AV)(v:AV):Prop where
 ev:Ev (fun n=>(cU P n).call (.func g) args eB) (fun r=> ∃v0,r.1= .ret v0∧oM v0=some v)
 pure:dC v=true
 can:aEO args
theorem aKh{st:Bool}{f:aQ}{args:List aQ}{g:Nat}{a b vs:List AV}(hg:wanted e gd=some true)(hf:evO P e f= .func g a b)(ha:eD (args.map (evO P e))=some vs)(hc:Pf P g (a++vs++b) v)
(k:Wo P rest (aS d' pd) ⟨fQ e d' v,ds⟩ s Q):Wo P (⟨d',.aN st f args,gd,pre⟩::rest) pd ⟨e,ds⟩ s Q:=by
 obtain⟨⟨r,s2⟩,N,⟨v0,h1,h2⟩,h3⟩:=hc.ev.out;simp only at h1;subst h1;obtain⟨x,M,h4,h5⟩:=k.ev.out;refine⟨⟨x,max N M,h4,fun n hn=> ?_⟩⟩;simp only [bS,hg,hf,ha,hc.can.pure,Bool.or_true,h3 n (by omega),h2,hc.pure];exact h5 n (by omega)
theorem aBo{f:aQ}{args:List aQ}{g:AFn}{a b vs:List AV}(hg:wanted e gd=some true)(hf:target (evO P e f)=some (g,a,b))(ha:tH s (args.map (evO P e))=some (vs,s1))
(hc:Ev (fun n=>(cU P n).call g (a++vs++b) s1) (fun r=>match r.1 with| .ret v=>Wo P rest (aS d' pd) ⟨fQ e d' v,ds⟩ r.2 Q| .panic v=>Q (.pan v ⟨e,ds⟩ r.2))):
  Wo P (⟨d',.call f args,gd,pre⟩::rest) pd ⟨e,ds⟩ s Q:=by
 obtain⟨⟨r,s2⟩,N,h1,h2⟩:=hc.out;cases r with
 |ret v=>
  obtain⟨x,M,h4,h5⟩:=(h1:Wo ..).ev.out;refine⟨⟨x,max N M,h4,fun n hn=> ?_⟩⟩;simp only [bS,hg,hf,ha,h2 n (by omega)];exact h5 n (by omega)
 |panic v=>exact⟨⟨_,N,h1,fun n hn=>by simp only [bS,hg,hf,ha,h2 n hn]⟩⟩
end
structure Wk(P:bA)(rd:Option Nat)(c:AC)(fr:Fr)(s:ASt)(Q:dO→Fr→ASt→Prop):Prop where
 ev:Ev (fun n=>evC (cU P n) P rd n c fr s) (fun r=>Q r.ex r.fr r.s)
def aS5(k:Fr→ASt→Prop)(Q:dO→Fr→ASt→Prop):dO→Fr→ASt→Prop
 | .normal,fr,s=>k fr s
 |e,fr,s=>Q e fr s
def aU2(Q:dO→Fr→ASt→Prop):rP→Prop
 | .norm fr s=>Q .normal fr s
 | .pan v fr s=>Q (.panic v) fr s
def aVE(id:Nat)(Q:dO→Fr→ASt→Prop):dO→Fr→ASt→Prop
 | .exit j,fr,s=>match Nat.beq j id with|true=>Q .normal fr s|false=>Q (.exit j) fr s
 |e,fr,s=>Q e fr s
section
variable {P : bA} {rd : Option Nat} {fr : Fr} {s : ASt} {Q Q' : dO → Fr → ASt → Prop}
theorem Wk.mono{c:AC}(h:Wk P rd c fr s Q)(k: ∀ex fr s,Q ex fr s→Q' ex fr s):Wk P rd c fr s Q':=⟨h.ev.mono fun _ q=>k _ _ _ q⟩
theorem aJ(h:Q .normal fr s):Wk P rd .skip fr s Q:=⟨.one (fun _=>rfl) h⟩
theorem aK(h:Q .ret fr s):Wk P rd .ret fr s Q:=⟨.one (fun _=>rfl) h⟩
theorem bY{id:Nat}(h:Q (.exit id) fr s):Wk P rd (.exit id) fr s Q:=⟨.one (fun _=>rfl) h⟩
theorem zA{b:AC}(h:Wk P rd b fr s Q):Wk P rd (.scope b) fr s Q:=⟨h.ev.congr fun _=>by simp only [evC]⟩
theorem aB{a b:AC}(h:Wk P rd a fr s (aS5 (fun fr s=>Wk P rd b fr s Q) Q)):Wk P rd (.seq a b) fr s Q:=by
 obtain⟨⟨ex,fr1,s1⟩,N,h1,h2⟩:=h.ev.out;cases ex with
 |normal=>
  obtain⟨r,M,h3,h4⟩:=(h1:Wk P rd b fr1 s1 Q).ev.out;exact⟨⟨r,max N M,h3,fun n hn=>by simp only [evC,h2 n (by omega)];exact h4 n (by omega)⟩⟩
 |exit id=>exact⟨⟨⟨.exit id,fr1,s1⟩,N,h1,fun n hn=>by simp only [evC,h2 n hn]⟩⟩
 |ret=>exact⟨⟨⟨.ret,fr1,s1⟩,N,h1,fun n hn=>by simp only [evC,h2 n hn]⟩⟩
 |panic v=>exact⟨⟨⟨.panic v,fr1,s1⟩,N,h1,fun n hn=>by simp only [evC,h2 n hn]⟩⟩
theorem aSt{c:aQ}{t f:AC}{b:Bool}(hb:evO P fr.env c= .bool b)(ht:b=true→Wk P rd t fr s Q)(hf:b=false→Wk P rd f fr s Q):Wk P rd (.cond c t f) fr s Q:=by
 cases b with
 |true=>exact⟨(ht rfl).ev.congr fun _=>by simp only [evC,hb]⟩
 |false=>exact⟨(hf rfl).ev.congr fun _=>by simp only [evC,hb]⟩
theorem aFN{c:aQ}{t f:AC}(hb:evO P fr.env c= .bool true)(ht:Wk P rd t fr s Q):Wk P rd (.cond c t f) fr s Q:=⟨ht.ev.congr fun _=>by simp only [evC,hb]⟩
theorem aCt{c:aQ}{t f:AC}(hb:evO P fr.env c= .bool false)(hf:Wk P rd f fr s Q):Wk P rd (.cond c t f) fr s Q:=⟨hf.ev.congr fun _=>by simp only [evC,hb]⟩
theorem aC{dr:Bool}{ops:List AI}(h:Wo P ops [] fr s (aU2 Q)):Wk P rd (.reg dr ops) fr s Q:=by
 obtain⟨r,N,h1,h2⟩:=h.ev.out;cases r with
 |norm fr s=>exact⟨⟨⟨.normal,fr,s⟩,N,h1,fun n hn=>by simp only [evC,h2 n hn]⟩⟩
 |pan v fr s=>exact⟨⟨⟨.panic v,fr,s⟩,N,h1,fun n hn=>by simp only [evC,h2 n hn]⟩⟩
theorem aO{id:Nat}{b:AC}(h:Wk P rd b fr s (aVE id Q)):Wk P rd (.block id b) fr s Q:=by
 obtain⟨⟨ex,fr1,s1⟩,N,h1,h2⟩:=h.ev.out;cases ex with
 |normal=>exact⟨⟨⟨.normal,fr1,s1⟩,N,h1,fun n hn=>by simp only [evC,h2 n hn]⟩⟩
 |exit j=>
  simp only [aVE] at h1;cases hj:Nat.beq j id with
  |true=>rw [hj] at h1;exact⟨⟨⟨.normal,fr1,s1⟩,N,h1,fun n hn=>by simp only [evC,h2 n hn,hj]⟩⟩
  |false=>rw [hj] at h1;exact⟨⟨⟨.exit j,fr1,s1⟩,N,h1,fun n hn=>by simp only [evC,h2 n hn,hj]⟩⟩
 |ret=>exact⟨⟨⟨.ret,fr1,s1⟩,N,h1,fun n hn=>by simp only [evC,h2 n hn]⟩⟩
 |panic v=>exact⟨⟨⟨.panic v,fr1,s1⟩,N,h1,fun n hn=>by simp only [evC,h2 n hn]⟩⟩
def aNE:dO→Bool
 | .normal| .ret=>true
 |_=>false
theorem yZ{s0 s3:ASt}{v1 v:AV}(h:oM v1=some v):oM (settle s0 v1 s3).1=some v:=by
 unfold settle;split
 ·rename_i sz xs t;have h':some (AV.slice (szC sz xs) xs .no)=some v:=h;split
  ·exact h
  ·split
   ·split
    ·exact h'
    ·exact h'
   ·exact h'
 ·exact h
structure aVC(P:bA)(af:AF)(v:AV)(ex:dO)(fr:Fr)(s:ASt):Prop where
 ex:aNE ex=true
 ds:fr.ds= []
 res: ∃vs v1 s3,kQ P fr.env s af.res=some vs∧pT s vs=some (v1,s3)∧oM v1=some v
theorem aMS{g:Nat}{af:AF}{args:List AV}{v:AV}(h0:P.prim g=none)(h:P.fn g=some af)(hn:Nat.ble args.length af.nt=true)(hv:dC v=true)(hcan:aEO args)
(k:Wk P none af.body ⟨hJ args,[]⟩ eB (aVC P af v)):Pf P g args v:=by
 refine⟨Ev.succ ?_,hv,hcan⟩;obtain⟨⟨ex,⟨e,ds⟩,s1⟩,N,⟨h1,h2,vs,v1,s3,h4,h5,h6⟩,h3⟩:=k.ev.out;simp only at h1 h2 h4 h5;subst h2;refine⟨((.ret (settle eB v1 s3).1),(settle eB v1 s3).2),N,⟨_,rfl,yZ h6⟩,fun n hn'=> ?_⟩;have e1:evC (cU P n) P none n af.body ⟨hJ args,[]⟩ (aU eB)=some ⟨ex,⟨e,[]⟩,s1⟩:=h3 n hn';simp only [cU,h0,h,aBI,hn,e1];cases ex with
 |normal=>simp only [iX,h4,h5]
 |ret=>simp only [iX,h4,h5]
 |exit i=>cases h1
 |panic v=>cases h1
theorem aOb{f:Nat}{args:List AV}(h:Pf P f args (.bool true)): ∃n s',(cU P n).call (.func f) args eB=some (.ret (.bool true),s'):=by
 obtain⟨⟨r,s2⟩,N,⟨v0,h1,h2⟩,h3⟩:=h.ev.out;simp only at h1;subst h1;refine⟨N,s2,?_⟩;have:v0= .bool true:=by
  cases v0<;>simp [oM,iK,j2] at h2
  ·exact h2▸rfl
  ·rename_i sz xs o;cases o<;>simp at h2
  ·split at h2<;>simp at h2
  ·split at h2<;>simp at h2
 rw [h3 N (Nat.le_refl _),this]
end
structure Hint where
 cb:List Nat:= []
 ps:List Nat:= []
 cp:List Nat:= []
 ap:List Nat:= []
 cs:List Nat:= []
def aCH:Value→Option AV
 | .int k n=>if k.wrap n=n then some (.int k n) else none
 | .bool b=>some (.bool b)
 | .string s=>if s.size≤big then some (.str s.data.toList) else none
 | .slice none 0 0=>some (.slice 0 [] .full)
 | .pointer none=>some .eH
 | .map none=>some .eQ
 | .nilFunc=>some .dP
 | .nilIface=>some .cI
 |_=>none
def vA:List Value→Option (List AV)
 | []=>some []
 |v::vs=>match aCH v,vA vs with|some x,some xs=>some (x::xs)|_,_=>none
def aMw:Value→Option AV
 | .agg cs=>match vA cs.toList with|some xs=>some (.agg xs)|none=>none
 |v=>aCH v
def dH:Operand→Option aQ
 | .tmp t=>some (.t t)
 | .const v=>(aMw v).map .c
 | .global g=>some (.g g)
 | .func f=>some (.f f)
def aSo(P:Program):Operand→Bool
 | .func g=>(P.funcs[g]?).isSome
 |_=>true
def uL:List Operand→Option (List aQ)
 | []=>some []
 |x::xs=>match dH x,uL xs with|some y,some ys=>some (y::ys)|_,_=>none
def sB:Option Operand→Option (Option aQ)
 |none=>some none
 |some x=>(dH x).map some
def pC(P:Program)(t:TypeId):Option Bool:=
 match P.underlying t with
 |some (.struct _)|some (.array _ _)=>some true
 |some _=>some false
 |none=>none
def zeroOf(P:Program)(t:TypeId):Option (List AV):=
 match(P.info? t).bind (·.zero) with
 |some (.agg cs)=>vA cs.toList
 |some v=>(aCH v).map fun x=> [x]
 |none=>none
def zeroV(P:Program)(t:TypeId):Option AV:=
 match(P.info? t).bind (·.zero) with
 |some v=>aMw v
 |none=>none
def yR(P:Program):Nat→List Field→Option (List KK)
 |_,[]=>some []
 |i,f::fs=>
  match f.name != "_" &&f.offset==i,P.underlying f.type,yR P (i+1) fs with
  |true,some .bool,some r=>some (.bool::r)
  |true,some (.int _),some r=>some (.int::r)
  |true,some .string,some r=>some (.str::r)
  |_,_,_=>none
def aIp(P:Program)(t:TypeId):Option KK:=
 match P.underlying t with
 |some .bool=>some .bool
 |some (.int _)=>some .int
 |some .string=>some .str
 |_=>none
def aHb:NK→Operand→Bool
 | .ptr,.const (.pointer none)| .slice,.const (.slice none _ _)| .map,.const (.map none)| .func,.const .nilFunc| .iface,.const .nilIface=>true
 |_,_=>false
def lD(neg:Bool)(k:NK)(x y:Operand)(a b:aQ):Option AOp:=
 match aHb k x,aHb k y with
 |true,_=>some (.aGu neg k b)
 |false,true=>some (.aGu neg k a)
 |_,_=>none
def aCE(fs:Array Field)(P:Program):List (Nat×Operand)→Option (List (Nat×Nat×aQ))
 | []=>some []
 |(i,x)::rest=>
  match fs[i]?,dH x,aCE fs P rest with
  |some f,some y,some ys=>some ((f.offset,P.cellsOf f.type,y)::ys)
  |_,_,_=>none
def aB5(esz:Nat):List (Nat×Operand)→Option (List (Nat×Nat×aQ))
 | []=>some []
 |(i,x)::rest=>match dH x,aB5 esz rest with|some y,some ys=>some ((i*esz,esz,y)::ys)|_,_=>none
def aCl:List (Nat×Operand)→Option (List (Nat×aQ))
 | []=>some []
 |(i,x)::rest=>match dH x,aCl rest with|some y,some ys=>some ((i,y)::ys)|_,_=>none
def cO(P:Program)(tk:Bool)(b:Builtin)(ts:Array TypeId)(args:List Operand):Option AOp:=
 match b,args with
 | .recover,[]=>some .aCW
 | .len,[x]=>
  match(ts[0]?).bind P.underlying,dH x with
  |some .string,some x=>some (.aCG x)
  |some (.slice _),some x=>some (.eE x)
  |some (.array n _),some _=>if n≤big then some (.aUO n) else none
  |_,_=>none
 | .append,[s,x]=>
  match(ts[0]?).bind P.underlying,(ts[1]?).bind P.underlying,dH s,dH x with
  |some (.slice e),some (.slice _),some s,some x=>if(zeroOf P e).map List.length=some (P.cellsOf e) then some (.append tk (P.cellsOf e) (P.bytesOf e) s x) else none
  |_,_,_,_=>none
 | .copy,[d,s]=>
  match(ts[0]?).bind P.underlying,(ts[1]?).bind P.underlying,dH d,dH s with
  |some (.slice e),some (.slice _),some d,some s=>match P.info? e with|some _=>some (.copy (P.cellsOf e) d s)|none=>none
  |_,_,_,_=>none
 | .max,[x,y]=>match(ts[0]?).bind P.underlying,uL [x,y] with|some (.int _),some xs=>some (.aBh true xs)|_,_=>none
 | .min,[x,y]=>match(ts[0]?).bind P.underlying,uL [x,y] with|some (.int _),some xs=>some (.aBh false xs)|_,_=>none
 |_,_=>none
def cP(P:Program)(h:Hint)(d:Option Nat):Op→Option AOp
 | .move x| .assign x=>(dH x).map .mv
 | .pick c a b=>match dH c,dH a,dH b with|some c,some a,some b=>some (.pick c a b)|_,_,_=>none
 | .alloc t=>
  match zeroOf P t with
  |some z=>some (if d.any h.ps.contains then .pend z else if d.any h.cb.contains then .eT (.c (match z with| [x]=>(match pC P t with|some false=>x|_=> .agg z)|_=> .agg z)) else .alloc z)
  |none=>none
 | .box _ x=>match dH x with|some x=>some (if d.any h.cb.contains then .eT x else .box x)|none=>none
 | .build t parts=>
  match zeroOf P t,P.underlying t with
  |some z,some (.struct fs)=>if fs.toList.all fun f=>(P.info? f.type).isSome then(aCE fs P parts.toList).map (.build z) else none
  |some z,some (.array _ e)=>if(P.info? e).isSome then(aB5 (P.cellsOf e) parts.toList).map (.build z) else none
  |_,_=>none
 | .buildSlice t n parts=>
  match P.underlying t with
  |some (.slice e)=>match zeroOf P e,aCl parts.toList with|some z,some ps=>if z.length=P.cellsOf e∧0<z.length then some (.iD (P.cellsOf e) n z ps) else none|_,_=>none
  |_=>none
 | .load t a=>match pC P t,dH a with|some b,some a=>some (.load b (P.cellsOf t) a)|_,_=>none
 | .store t a v=>
  match P.info? t,dH a,dH v with
  |some _,some a,some v=>some (match a with| .t i=>if h.ps.contains i then .shut i (P.cellsOf t) v else .store (P.cellsOf t) a v|a=> .store (P.cellsOf t) a v)
  |_,_,_=>none
 | .nilCheck x=>(dH x).map .fA
 | .binOp op t x y _=>
  match dH x,dH y with
  |some a,some b=>
   match op with
   | .eql| .neq=>
    match P.underlying t with
    |some (.int _)|some .string=>some (.bin op a b)
    |some .bool=>some (.eq (op matches .neq) a b)
    |some (.pointer _)=>lD (op matches .neq) .ptr x y a b
    |some (.slice _)=>lD (op matches .neq) .slice x y a b
    |some (.map _ _)=>lD (op matches .neq) .map x y a b
    |some (.func ..)=>lD (op matches .neq) .func x y a b
    |some (.interface _)=>lD (op matches .neq) .iface x y a b
    |some (.struct fs)=>if P.stoodInHeld t||P.eqGuardType P.depth t then none else(yR P 0 fs.toList).map fun ks=> .eqF (op matches .neq) ks a b
    |_=>none
   |_=>some (.bin op a b)
  |_,_=>none
 | .unOp op _ x=>(dH x).map (.un op)
 | .convert s t x=>
  match P.underlying s,P.underlying t,dH x with
  |some (.int _),some (.int k),some x=>some (.toInt k x)
  |some .string,some .string,some x=>some (.aFp x none none)
  |_,_,_=>none
 | .makeInterface t x=>match P.underlying t,dH x with|some (.interface _),_=>none|some _,some x=>some (.aBP t x)|_,_=>none
 | .makeFunc (.func f) a b=>match uL a.toList,uL b.toList with|some a,some b=>some (.nT f a b)|_,_=>none
 | .makeMap _ none=>some .mkMap
 | .makeSlice t l c=>match P.underlying t,dH l,dH c with|some (.slice e),some l,some c=>(match zeroOf P e with|some z=>if z.length=P.cellsOf e then some (.mkSlice (P.cellsOf e) (P.bytesOf e) z l c) else none|none=>none)|_,_,_=>none
 | .slice t x l u m=>
  match P.underlying t,dH x,sB l,sB u,sB m with
  |some (.slice e),some x,some l,some u,some m=>if(P.underlying e).isSome then some (.aAg (P.cellsOf e) x l u m) else none
  |some .string,some x,some l,some u,some none=>some (.aFp x l u)
  |some (.array n e),some x,some l,some u,some none=>if(P.underlying e).isSome&&n≤big then some (.aQm n (P.cellsOf e) x l u) else none
  |_,_,_,_,_=>none
 | .fieldAddr s x f=>
  match P.underlying s,dH x with
  |some (.struct fs),some x=>match fs[f]? with|some f=>if P.cellsOf f.type=0 then none else some (.aI f.offset x)|none=>none
  |_,_=>none
 | .field s x f=>
  match P.underlying s,dH x with
  |some (.struct fs),some x=>match fs[f]? with|some f=>(pC P f.type).map fun b=> .field b f.offset (P.cellsOf f.type) x|none=>none
  |_,_=>none
 | .indexAddr t x i=>
  match P.underlying t,dH x,dH i with
  |some (.slice e),some x,some i=>if(P.underlying e).isSome then some (.cX (P.cellsOf e) x i) else none
  |some (.array n e),some x,some i=>if(P.underlying e).isSome then some (.aCv n (P.cellsOf e) x i) else none
  |_,_,_=>none
 | .index t x i=>match P.underlying t,dH x,dH i with|some .string,some x,some i=>some (.wY x i)|_,_,_=>none
 | .lookup t m k ok=>
  match P.underlying t,dH m,dH k with
  |some (.map kt e),some m,some k=>match aIp P kt,zeroV P e with|some kk,some z=>some (.lookup ok kk z m k)|_,_=>none
  |_,_,_=>none
 | .mapUpdate t m k v| .insert t m k v=>
  match P.underlying t,dH m,dH k,dH v with
  |some (.map kt _),some m,some k,some v=>(aIp P kt).map fun kk=> .mC kk m k v
  |_,_,_,_=>none
 | .range t x=>match P.underlying t,dH x with|some .string,some x=>some (.n4 x)|_,_=>none
 | .next x true=>(dH x).map .oG
 | .typeAssert x _ t ok=>
  match P.underlying t,dH x,zeroV P t with
  |some (.interface _),_,_=>none
  |some _,some x,some z=>some (.assert ok t z x)
  |_,_,_=>none
 | .extract x i=>(dH x).map fun x=> .extract x i
 | .call c=>
  match c.callee with
  | .builtin b=>cO P (d.any h.ap.contains) b c.argTypes c.args.toList
  | .value f=>match aSo P f,dH f,uL c.args.toList with|true,some f,some xs=>some (if d.any h.cs.contains then .aN true f xs else if d.any h.cp.contains then .aN false f xs else .call f xs)|_,_,_=>none
  | .invoke .. =>none
 | .defer c=>match c.callee with| .value f=>(match dH f,uL c.args.toList with|some f,some xs=>some (.defer f xs)|_,_=>none)|_=>none
 | .panic x=>(dH x).map .panic
 |_=>none
def aIB(ops:List Oper):List (List Nat):=
 ops.foldl (fun acc o=>acc++ [((o.after.toList.filter (Region.binds .any)).flatMap fun e=>e.on::acc.getD e.on []).eraseDups]) []
def aBD(P:Program)(h:Hint)(draw:Bool)(all:Array Oper)(pre:List (List Nat)):Nat→List Oper→Option (List AI)
 |_,[]=>some []
 |i,o::rest=>
  match aBD P h draw all pre (i+1) rest,(match o.guard with|none=>some none|some (j,b)=>match(all[j]?).bind (·.dst) with|some t=>some (some (t,b))|none=>none) with
  |some is,some g=>some ({d:=o.dst,op:=(cP P h o.dst o.op).getD .bad,gd:=g,pre:=if draw then(pre.getD i []).eraseDups else []}::is)
  |_,_=>none
def aDO:Nat→List Oper→Bool
 |_,[]=>true
 |i,o::rest=>o.after.all (fun e=> !Region.binds .any e||Nat.blt e.on i)&&aDO (i+1) rest
def eP(P:Program)(h:Hint):Code→Option AC
 | .skip=>some .skip
 | .region _ ops draw=>if draw&& !aDO 0 ops.toList then none else(aBD P h draw ops (if draw then aIB ops.toList else []) 0 ops.toList).map (.reg draw)
 | .seq a b=>match eP P h a,eP P h b with|some a,some b=>some (.seq a b)|_,_=>none
 | .cond c a b=>match dH c,eP P h a,eP P h b with|some c,some a,some b=>some (.cond c a b)|_,_,_=>none
 | .block id b=>(eP P h b).map (.block id)
 | .loop b=>(eP P h b).map .loop
 | .rangeFunc f ps a b=>match dH f,eP P h a,eP P h b with|some f,some a,some b=>some (.nU f ps.toList a b)|_,_,_=>none
 | .exit id=>some (.exit id)
 | .ret=>some .ret
 | .scope b=>(eP P h b).map .scope
 | .label _=>some .skip
 |_=>none
def uE(P:Program):List ResultVar→Option (List ARV)
 | []=>some []
 | .tmp t::rs=>(uE P rs).map (.tmp t:: ·)
 | .cell a t::rs=>match pC P t,uE P rs with|some b,some xs=>some (.cell a b (P.cellsOf t)::xs)|_,_=>none
def yJ(P:Program)(h:Hint)(f:Func):Option AF:=
 match f.body.bind (eP P h),uE P f.results.toList with
 |some b,some r=>some {np:=f.params.size+f.nfree,nt:=f.ntmps,res:=r,body:=b}
 |_,_=>none
structure Gh where
 M:Nat→Nat→Option Value
 L:Nat→Option Nat
 H:Nat→Nat→Option (Nat×Nat×Nat)
structure Gh.le(G G':Gh):Prop where
 M: ∀b o x,G.M b o=some x→G'.M b o=some x
 L: ∀l b,G.L l=some b→G'.L l=some b
 H: ∀t n x,G.H t n=some x→G'.H t n=some x
theorem Gh.le.refl(G:Gh):G.le G:=⟨fun _ _ _ h=>h,fun _ _ h=>h,fun _ _ _ h=>h⟩
theorem Gh.le.trans{A B C:Gh}(h:A.le B)(k:B.le C):A.le C:=⟨fun _ _ _ x=>k.M _ _ _ (h.M _ _ _ x),fun _ _ x=>k.L _ _ (h.L _ _ x),fun _ _ _ x=>k.H _ _ _ (h.H _ _ _ x)⟩
inductive Sh where
 |v (a:AV) (x:Value)
 |l (a_:List AV) (xs:List Value)
 |k (a_:List AV) (xs:List Value)
 |c (a:AV) (xs:List Value)
 |r (sz:Nat) (a_:List AV) (b o:Nat)
def tG:AV→Bool
 | .agg _=>true
 |_=>false
def qD(G:Gh)(o:Own)(A:Option Addr)(sz n c:Nat):Prop:=
 match o with
 | .no=>True
 | .full=>c=n
 | .tok t=> ∃b,A=some ⟨b,0,none⟩∧G.H t n=some (b,c,sz)
inductive R(G:Gh):Sh→Prop
 |int {k n} (h:k.wrap n=n):R G (.v (.int k n) (.int k n))
 |bool (b):R G (.v (.bool b) (.bool b))
 |str (s:ByteArray) (hs:s.size≤maxLen):R G (.v (.str s.data.toList) (.string s))
 |cZ {sz o A c} (hm:c≤maxLen) (ho:qD G o A sz 0 c):R G (.v (.slice sz [] o) (.slice A 0 c))
 |dQ {sz xs o b off c} (hc:xs.length≤c) (hm:c≤maxLen) (hr:R G (.r sz xs b off)) (ho:qD G o (some ⟨b,off,none⟩) sz xs.length c):
   R G (.v (.slice sz xs o) (.slice (some ⟨b,off,none⟩) xs.length c))
 |ms {l off len cap sz b} (hL:G.L l=some b) (hc:len≤cap) (hm:cap≤maxLen):R G (.v (.cQ l off len cap sz) (.slice (some ⟨b,off,none⟩) len cap))
 |agg {cs vs} (h:R G (.k cs vs)):R G (.v (.agg cs) (.agg vs.toArray))
 |tuple {cs vs} (h:R G (.l cs vs)):R G (.v (.tuple cs) (.tuple vs.toArray))
 |eH:R G (.v .eH (.pointer none))
 |ptr {l b} (off) (hL:G.L l=some b):R G (.v (.ptr l off) (.pointer (some ⟨b,off,none⟩)))
 |aG {v vs b o} (off) (hc:R G (.c v vs)) (hM: ∀j x,vs[j]?=some x→G.M b (o+j)=some x):R G (.v (.aG v off) (.pointer (some ⟨b,o+off,none⟩)))
 |func {f a b fa fb} (ha:R G (.l a fa)) (hb:R G (.l b fb)):R G (.v (.func f a b) (.func (.func f) fa.toArray fb.toArray))
 |dP:R G (.v .dP .nilFunc)
 |yield {l b} (hL:G.L l=some b):R G (.v (.yield l) (.func (.yield b) #[] #[]))
 |map {l b} (hL:G.L l=some b):R G (.v (.map l) (.map (some b)))
 |eQ:R G (.v .eQ (.map none))
 |iface {t v x} (h:R G (.v v x)):R G (.v (.iface t v) (.iface t x))
 |cI:R G (.v .cI .nilIface)
 |iter {l b} (hL:G.L l=some b):R G (.v (.iter l) (.pointer (some ⟨b,0,none⟩)))
 |nX (x):R G (.v .nX x)
 |tF:R G (.l [] [])
 |gN {a x a_ xs} (h:R G (.v a x)) (t:R G (.l a_ xs)):R G (.l (a::a_) (x::xs))
 |iI:R G (.k [] [])
 |cY {a x a_ xs} (h:R G (.v a x)) (h1:x.oneCell'=true) (t:R G (.k a_ xs)):R G (.k (a::a_) (x::xs))
 |wI {cs vs} (h:R G (.k cs vs)):R G (.c (.agg cs) vs)
 |yC {a x} (ha:tG a=false) (h1:x.oneCell'=true) (h:R G (.v a x)):R G (.c a [x])
 |aAj (sz b o):R G (.r sz [] b o)
 |n6 {sz x xs b o vs} (hc:R G (.c x vs)) (hl:vs.length=sz) (hM: ∀j y,vs[j]?=some y→G.M b (o+j)=some y) (t:R G (.r sz xs b (o+sz))):R G (.r sz (x::xs) b o)
theorem qD.mono{G G':Gh}(hG:G.le G'){o A sz n c}(h:qD G o A sz n c):qD G' o A sz n c:=by
 cases o with
 |no=>trivial
 |full=>exact h
 |tok t=>obtain⟨b,h1,h2⟩:=h;exact⟨b,h1,hG.H _ _ _ h2⟩
theorem R.mono{G G':Gh}(hG:G.le G'){s:Sh}(h:R G s):R G' s:=by
 induction h with
 |int h=>exact .int h
 |bool b=>exact .bool b
 |str s hs=>exact .str s hs
 |cZ hm ho=>exact .cZ hm (ho.mono hG)
 |dQ hc hm _ ho ih=>exact .dQ hc hm ih (ho.mono hG)
 |ms hL hc hm=>exact .ms (hG.L _ _ hL) hc hm
 |agg _ ih=>exact .agg ih
 |tuple _ ih=>exact .tuple ih
 |eH=>exact .eH
 |ptr off hL=>exact .ptr off (hG.L _ _ hL)
 |aG off _ hM ih=>exact .aG off ih fun j x hx=>hG.M _ _ _ (hM j x hx)
 |func _ _ ha hb=>exact .func ha hb
 |dP=>exact .dP
 |yield hL=>exact .yield (hG.L _ _ hL)
 |map hL=>exact .map (hG.L _ _ hL)
 |eQ=>exact .eQ
 |iface _ ih=>exact .iface ih
 |cI=>exact .cI
 |iter hL=>exact .iter (hG.L _ _ hL)
 |nX x=>exact .nX x
 |tF=>exact .tF
 |gN _ _ h t=>exact .gN h t
 |iI=>exact .iI
 |cY _ h1 _ h t=>exact .cY h h1 t
 |wI _ ih=>exact .wI ih
 |yC ha h1 _ ih=>exact .yC ha h1 ih
 |aAj sz b o=>exact .aAj sz b o
 |n6 _ hl hM _ hc t=>exact .n6 hc hl (fun j y hy=>hG.M _ _ _ (hM j y hy)) t
section
variable {G : Gh}
theorem R.aBG{a_ xs}(h:R G (.l a_ xs)):a_.length=xs.length:=by
 generalize hs:Sh.l a_ xs=s at h
 induction h generalizing a_ xs with
 |tF=>cases hs;rfl
 |gN _ _ _ ih=>cases hs;simp [ih rfl]
 |_=>cases hs
theorem R.kW{a_ xs}(h:R G (.k a_ xs)):a_.length=xs.length:=by
 generalize hs:Sh.k a_ xs=s at h
 induction h generalizing a_ xs with
 |iI=>cases hs;rfl
 |cY _ _ _ _ ih=>cases hs;simp [ih rfl]
 |_=>cases hs
theorem R.aTa{a_ xs}(h:R G (.l a_ xs)){i:Nat}{a:AV}(ha:a_[i]?=some a): ∃x,xs[i]?=some x∧R G (.v a x):=by
 induction a_ generalizing xs i with
 |nil=>simp at ha
 |cons b bs ih=>
  cases h with
  |gN h t=>
   cases i with
   |zero=>simp at ha;subst ha;exact⟨_,rfl,h⟩
   |succ i=>simpa using ih t (by simpa using ha)
theorem R.aQx{a_ xs}(h:R G (.k a_ xs)){i:Nat}{a:AV}(ha:a_[i]?=some a): ∃x,xs[i]?=some x∧R G (.v a x)∧x.oneCell'=true:=by
 induction a_ generalizing xs i with
 |nil=>simp at ha
 |cons b bs ih=>
  cases h with
  |cY h h1 t=>
   cases i with
   |zero=>simp at ha;subst ha;exact⟨_,rfl,h,h1⟩
   |succ i=>simpa using ih t (by simpa using ha)
theorem R.aOT{a_ xs}(h:R G (.k a_ xs)): ∀x∈xs,x.oneCell'=true:=by
 induction a_ generalizing xs with
 |nil=>cases h;simp
 |cons a a_ ih=>
  cases h with
  |cY h h1 t=>intro x hx;rcases List.mem_cons.1 hx with rfl|hx;exact h1;exact ih t x hx
theorem R.rM{a_ xs bs ys}(h:R G (.l a_ xs))(k:R G (.l bs ys)):R G (.l (a_++bs) (xs++ys)):=by
 induction a_ generalizing xs with
 |nil=>cases h;exact k
 |cons a a_ ih=>cases h with|gN h t=>exact .gN h (ih t)
theorem R.vH{a_ xs bs ys}(h:R G (.k a_ xs))(k:R G (.k bs ys)):R G (.k (a_++bs) (xs++ys)):=by
 induction a_ generalizing xs with
 |nil=>cases h;exact k
 |cons a a_ ih=>cases h with|cY h h1 t=>exact .cY h h1 (ih t)
theorem R.aBj{a_ xs}(h:R G (.k a_ xs))(n:Nat):R G (.k (a_.drop n) (xs.drop n)):=by
 induction n generalizing a_ xs with
 |zero=>simpa using h
 |succ n ih=>cases h with|iI=>simpa using R.iI|cY h h1 t=>simpa using ih t
theorem R.aEY{a_ xs}(h:R G (.k a_ xs))(n:Nat):R G (.k (a_.take n) (xs.take n)):=by
 induction n generalizing a_ xs with
 |zero=>simpa using R.iI
 |succ n ih=>cases h with|iI=>simpa using R.iI|cY h h1 t=>simpa using R.cY h h1 (ih t)
theorem R.aKd{cs vs ds us}(h:R G (.k cs vs))(k:R G (.k ds us))(off:Nat):R G (.k (gK cs off ds) (vs.take off++us++vs.drop (off+us.length))):=by
 unfold gK;rw [k.kW];exact R.vH (R.vH (h.aEY _) k) (h.aBj _)
theorem R.c_k{a vs}(h:R G (.c a vs)):R G (.k (cellsOf a) vs):=by
 cases h with
 |wI h=>exact h
 |yC ha h1 h=>
  cases a<;>first|exact .cY h h1 .iI|(simp [tG] at ha)
theorem R.aEm{a vs}(h:R G (.c a vs)):(cellsOf a).length=vs.length:=h.c_k.kW
theorem R.aVw{sz a_ b o}(h:R G (.r sz a_ b o)){i:Nat}{a:AV}(ha:a_[i]?=some a):
  ∃vs,R G (.c a vs)∧vs.length=sz∧ ∀j y,vs[j]?=some y→G.M b (o+i*sz+j)=some y:=by
 induction a_ generalizing o i with
 |nil=>simp at ha
 |cons x xs ih=>
  cases h with
  |n6 hc hl hM t=>
   cases i with
   |zero=>simp at ha;subst ha;exact⟨_,hc,hl,by simpa using hM⟩
   |succ i=>
    obtain⟨vs,h1,h2,h3⟩:=ih t (by simpa using ha);refine⟨vs,h1,h2,fun j y hy=> ?_⟩;have:=h3 j y hy;rw [show o+(i+1)*sz+j=o+sz+i*sz+j from by rw [Nat.add_mul];omega];exact this
theorem R.aT5{sz a_ b o}(h:R G (.r sz a_ b o))(n:Nat):n≤a_.length→R G (.r sz (a_.drop n) b (o+n*sz)):=by
 induction n generalizing a_ o with
 |zero=>intro _;simpa using h
 |succ n ih=>
  intro hn;cases h with
  |aAj=>simp at hn
  |n6 hc hl hM t=>
   have:=ih t (by simpa using hn);simp only [List.drop_succ_cons];rw [show o+(n+1)*sz=o+sz+n*sz from by rw [Nat.add_mul];omega];exact this
theorem R.aUy{sz a_ b o}(h:R G (.r sz a_ b o))(n:Nat):R G (.r sz (a_.take n) b o):=by
 induction n generalizing a_ o with
 |zero=>simpa using R.aAj sz b o
 |succ n ih=>
  cases h with
  |aAj=>simpa using R.aAj sz b o
  |n6 hc hl hM t=>simpa using R.n6 hc hl hM (ih t)
theorem R.aOU{sz a_ bs b o}(h:R G (.r sz a_ b o))(k:R G (.r sz bs b (o+a_.length*sz))):R G (.r sz (a_++bs) b o):=by
 induction a_ generalizing o with
 |nil=>simpa using k
 |cons x xs ih=>
  cases h with
  |n6 hc hl hM t=>
   refine R.n6 hc hl hM (ih t ?_);have e:o+sz+xs.length*sz=o+(x::xs).length*sz:=by simp only [List.length_cons,Nat.add_mul];omega
   rw [e];exact k
theorem R.aVx{sz b:Nat}: ∀{a_:List AV}{o:Nat}{cs:List (List Value)},(∀(i:Nat)(a:AV),a_[i]?=some a→ ∃vs,cs[i]?=some vs∧R G (.c a vs)∧vs.length=sz)→a_.length=cs.length→
  (∀(j:Nat)(y:Value),(cs.flatten)[j]?=some y→G.M b (o+j)=some y)→R G (.r sz a_ b o):=by
 intro a_
 induction a_ with
 |nil=>intro o cs _ _ _;exact .aAj sz b o
 |cons x xs ih=>
  intro o cs h hl hM;cases cs with
  |nil=>simp at hl
  |cons c cs=>
   obtain⟨vs,h1,h2,h3⟩:=h 0 x rfl;simp at h1;subst h1;refine .n6 h2 h3 (fun j y hy=>hM j y ?_) (ih (cs:=cs) (fun i a ha=>by simpa using h (i+1) a (by simpa using ha)) (by simpa using hl) fun j y hy=> ?_)
   ·have:j<c.length:=by
     rcases Nat.lt_or_ge j c.length with h|h
     ·exact h
     ·rw [List.getElem?_eq_none h] at hy;cases hy
    simp only [List.flatten_cons];rw [List.getElem?_append_left this];exact hy
   ·have:=hM (sz+j) y (by
     simp only [List.flatten_cons];rw [←h3,List.getElem?_append_right (by omega)];simpa using hy)
    rw [Nat.add_assoc];exact this
end
def eS:AOp→Nat
 | .load .. | .lookup .. =>1
 | .box _| .alloc _| .store .. | .mkMap| .mkSlice .. | .mC .. | .n4 _| .oG _| .copy .. | .defer .. | .aCW=>2
 | .aN st _ _=>match st with|true=>0|false=>5
 | .append tk _ _ _ _=>match tk with|true=>4|false=>2
 | .call .. | .panic _=>3
 |_=>0
def aCV(a b:Nat):Bool:=
 match a,b with
 |3,_|_,3=>true
 |0,_|_,0=>false
 |1,1|1,4|4,1|1,5|5,1|5,5=>false
 |_,_=>true
def kV:aQ→List Nat
 | .t i=> [i]
 |_=> []
def zU:Option aQ→List Nat
 |some x=>kV x
 |none=> []
def eV:AOp→List Nat
 | .aGu _ _ x| .mv x| .eT x| .box x| .fA x| .un _ x| .toInt _ x| .aBP _ x| .aI _ x| .field _ _ _ x| .n4 x| .oG x| .assert _ _ _ x| .extract x _| .eE x| .aCG x| .panic x| .load _ _ x=>kV x
 | .pick a b c| .mC _ a b c=>kV a++kV b++kV c
 | .pend _| .alloc _| .mkMap| .aUO _| .aCW| .bad=> []
 | .shut d _ x=>d::kV x
 | .build _ ps=>ps.flatMap fun p=>kV p.2.2
 | .iD _ _ _ ps=>ps.flatMap fun p=>kV p.2
 | .store _ a b| .bin _ a b| .eq _ a b| .eqF _ _ a b| .cX _ a b| .aCv _ _ a b| .wY a b| .lookup _ _ _ a b| .append _ _ _ a b| .copy _ a b| .mkSlice _ _ _ a b=>kV a++kV b
 | .nT _ a b=>a.flatMap kV++b.flatMap kV
 | .aAg _ x l h m=>kV x++zU l++zU h++zU m
 | .aFp x l h| .aQm _ _ x l h=>kV x++zU l++zU h
 | .call f xs| .aN _ f xs| .defer f xs=>kV f++xs.flatMap kV
 | .aBh _ xs=>xs.flatMap kV
def fK(i:AI):List Nat:=i.d.toList++(match i.op with| .shut d _ _=> [d]|_=> [])
def pR(i:AI):List Nat:=fK i++eV i.op++(match i.gd with|some (t,_)=> [t]|none=> [])
def aPW(ops:List AI):Bool:=
 (List.range ops.length).all fun j=>(List.range j).all fun i=>
  match ops[i]?,ops[j]? with
  |some a,some b=>
   b.pre.contains i||
    !(aCV (eS a.op) (eS b.op)||(fK a).any (fun t=>(pR b).contains t)||(fK b).any (fun t=>(pR a).contains t))
  |_,_=>false
def aBf:AOp→Bool
 | .call (.f _) _| .aN _ (.f _) _=>true
 | .call .. | .aN .. | .bad=>false
 |_=>true
def aGF(nt:Nat)(rd:Bool)(ops:List AI):Bool:=
 ops.all fun i=>(fK i).all (fun d=>Nat.blt d nt)&& !(rd&&(match i.op with| .defer .. =>true|_=>false))&&(match i.gd with|none=>true|some _=>aBf i.op)
def pL(nt:Nat):Bool→AC→Bool
 |rd,.reg draw ops=>aGF nt rd ops&&(!draw||aPW ops)
 |rd,.seq a b=>pL nt rd a&&pL nt rd b
 |rd,.cond _ a b=>pL nt rd a&&pL nt rd b
 |rd,.block _ b|rd,.loop b|rd,.scope b=>pL nt rd b
 |_,.nU _ ps a b=>ps.all (fun d=>Nat.blt d nt)&&pL nt true a&&pL nt true b
 |_,_=>true
def aVy:LSt→LoopState→Prop
 | .ready,.ready| .busy,.busy| .done,.done| .exhausted,.exhausted=>True
 |_,_=>False
def aU4:Option dO→Option Code→Prop
 |none,none=>True
 |some .ret,some .ret=>True
 |some (.exit i),some (.exit j)=>i=j
 |_,_=>False
structure aEB(P:Program)(G:Gh)(lp:xR)(L:Loop):Prop where
 st:aVy lp.st L.state
 pend:aU4 lp.pend L.pending
 env: ∀i,R G (.v (lp.env i) (L.tmps.getD i undef))
 params:L.params.toList=lp.params
 pok:lp.params.all (fun d=>Nat.blt d L.tmps.size)=true
 assign: ∃h,eP P h L.assign=some lp.assign∧pL L.tmps.size true lp.assign=true
 body: ∃h,eP P h L.body=some lp.body∧pL L.tmps.size true lp.body=true
 dq:G.L lp.dq=some L.defers
 aMn: ∃fn,P.funcs[L.fn]?=some fn
inductive vF(G:Gh):List (AV×AV)→List MapEntry→Prop
 |nil:vF G [] []
 |cons {a v e es ents} (hk:R G (.v a e.key)) (hv:R G (.v v e.val)) (t:vF G es ents):vF G ((a,v)::es) (e::ents)
theorem vF.mono{G G':Gh}(hG:G.le G'){es ents}(h:vF G es ents):vF G' es ents:=by
 induction h with
 |nil=>exact .nil
 |cons hk hv _ ih=>exact .cons (hk.mono hG) (hv.mono hG) ih
theorem aEB.mono{P:Program}{G G':Gh}(hG:G.le G'){lp L}(h:aEB P G lp L):aEB P G' lp L:=
 ⟨h.st,h.pend,fun i=>(h.env i).mono hG,h.params,h.pok,h.assign,h.body,hG.L _ _ h.dq,h.aMn⟩
def oO(P:Program)(G:Gh)(b:Nat)(o:Obj):dG→Prop
 | .cells cs wr=> ∃vs e,o= .cells (List.toArray vs) e (0,0)∧R G (.k cs vs)∧(wr=true→ ∀j,G.M b j=none)∧(wr=false→ ∀j x,vs[j]?=some x→G.M b j=some x)
 | .map es=> ∃ents clock,o= .map (List.toArray ents) clock∧vF G es ents
 | .iter t pos=> ∃st,o= .stringIter st pos∧st.data.toList=t∧st.size≤maxLen
 | .loop lp=> ∃L,o= .loop L∧aEB P G lp L
 | .tW=>o= .deferred (some [])
 | .dead=>True
structure Bs where
 Pr:Nat→Prop
 w0:World
 M0:Nat→Nat→Option Value
 lt: ∀b,Pr b→b<w0.heap.size
structure aTm(G:Gh)(Pr:Nat→Prop)(w:World)(t n b c sz:Nat):Prop where
 h:G.H t n=some (b,c,sz)
 np: ¬Pr b
 lt:b<w.heap.size
 blk: ∃e cur,w.heap[b]?=some (.cells cur e (0,0))∧cur.size=c*sz
 szp:0<sz
 nc:n≤c
 cm:c≤maxLen
 m: ∀j,n*sz≤j→G.M b j=none
 l: ∀ℓ,G.L ℓ≠some b
structure Inv(P:Program)(B:Bs)(G:Gh)(s:ASt)(w:World):Prop where
 os:w.os=B.w0.os
 tape:w.tape=B.w0.tape
 output:w.output=B.w0.output
 size:B.w0.heap.size≤w.heap.size
 pr: ∀b,B.Pr b→w.heap[b]?=B.w0.heap[b]?
 prM: ∀b,B.Pr b→ ∀o,G.M b o=B.M0 b o
 m: ∀b o x,G.M b o=some x→w.cell? ⟨b,o,none⟩=some x
 l: ∀ℓ b,G.L ℓ=some b→ℓ<s.blks.length∧b<w.heap.size∧ ¬B.Pr b
 inj: ∀ℓ ℓ' b,G.L ℓ=some b→G.L ℓ'=some b→ℓ=ℓ'
 blk: ∀ℓ b o k,G.L ℓ=some b→w.heap[b]?=some o→s.blks[ℓ]?=some k→oO P G b o k
 tok: ∀t n,s.toks[t]?=some n→ ∃b c sz,aTm G B.Pr w t n b c sz
 nP: ∀t t' n n' b c sz c' sz',s.toks[t]?=some n→s.toks[t']?=some n'→G.H t n=some (b,c,sz)→G.H t' n'=some (b,c',sz')→t=t'
 hh: ∀t n x,G.H t n=some x→ ∃n0,s.toks[t]?=some n0∧n≤n0
 tot: ∀ℓ,ℓ<s.blks.length→ ∃b,G.L ℓ=some b
theorem oO.mono{P:Program}{G G':Gh}(hG:G.le G'){b:Nat}{o:Obj}{k:dG}(hM: ∀cs,k= .cells cs true→ ∀j,G'.M b j=none)(h:oO P G b o k):oO P G' b o k:=by
 cases k with
 |cells cs wr=>
  obtain⟨vs,e,h1,h2,h3,h4⟩:=h;refine⟨vs,e,h1,h2.mono hG,fun hw=> ?_,fun hw j x hx=>hG.M _ _ _ (h4 hw j x hx)⟩;subst hw;exact hM cs rfl
 |map es=>obtain⟨ents,clock,h1,h2⟩:=h;exact⟨ents,clock,h1,h2.mono hG⟩
 |iter t pos=>exact h
 |loop lp=>obtain⟨L,h1,h2⟩:=h;exact⟨L,h1,h2.mono hG⟩
 |tW=>exact h
 |dead=>trivial
theorem uT{w:World}{o:Obj}{b:Nat}(h:b≠w.heap.size):(w.alloc o).heap[b]?=w.heap[b]?:=by
 simp only [World.alloc,Array.getElem?_push];rw [if_neg h]
theorem rC{w:World}{o:Obj}:(w.alloc o).heap[w.heap.size]?=some o:=by unfold World.alloc;simp
theorem aNA{w:World}{b:Nat}{o:Obj}(h:w.heap[b]?=some o):b<w.heap.size:=(Array.getElem?_eq_some_iff.1 h).1
theorem qO{w w':World}{a:Addr}(h:w'.heap[a.block]?=w.heap[a.block]?):w'.cell? a=w.cell? a:=by simp [World.cell?,h]
theorem aM4{w:World}{a:Addr}{x:Value}(h:w.cell? a=some x):a.block<w.heap.size:=by
 unfold World.cell? at h;split at h
 ·rename_i e;exact aNA e
 ·cases h
theorem w8{w:World}{b:Nat}{vs:List Value}{e:TypeId}{fr:Nat×Nat}(h:w.heap[b]?=some (.cells vs.toArray e fr))(j:Nat):w.cell? ⟨b,j,none⟩=vs[j]?:=by
 simp [World.cell?,h]
section
variable {P : Program} {B : Bs} {w : World} {G : Gh} {s : ASt}
theorem Inv.aFu{s':ASt}(h:Inv P B G s w)(hb:s'.blks=s.blks)(ht:s'.toks=s.toks):Inv P B G s' w:=
 ⟨h.os,h.tape,h.output,h.size,h.pr,h.prM,h.m,by rw [hb];exact h.l,h.inj,by rw [hb];exact h.blk,by rw [ht];exact h.tok,by rw [ht];exact h.nP,by rw [ht];exact h.hh,by rw [hb];exact h.tot⟩
theorem Inv.drawn(h:Inv P B G s w)(d:Nat):Inv P B G s {w with drawn:=d}:=
 ⟨h.os,h.tape,h.output,h.size,h.pr,h.prM,h.m,h.l,h.inj,h.blk,fun t n ht=>let ⟨b,c,sz,k⟩:=h.tok t n ht;⟨b,c,sz,k.h,k.np,k.lt,k.blk,k.szp,k.nc,k.cm,k.m,k.l⟩,h.nP,h.hh,h.tot⟩
theorem Inv.Mlt(h:Inv P B G s w){b o:Nat}{x:Value}(hx:G.M b o=some x):b<w.heap.size:=aM4 (a:=⟨b,o,none⟩) (h.m b o x hx)
theorem Inv.aO6(h:Inv P B G s w)(o:Nat):G.M w.heap.size o=none:=by
 cases hx:G.M w.heap.size o with
 |none=>rfl
 |some x=>exact absurd (h.Mlt hx) (Nat.lt_irrefl _)
theorem Inv.aSu(h:Inv P B G s w)(ℓ:Nat):G.L ℓ≠some w.heap.size:=fun e=>absurd (h.l _ _ e).2.1 (Nat.lt_irrefl _)
theorem Inv.aLV(h:Inv P B G s w):G.L s.blks.length=none:=by
 cases hx:G.L s.blks.length with
 |none=>rfl
 |some x=>exact absurd (h.l _ _ hx).1 (Nat.lt_irrefl _)
theorem Inv.grow(h:Inv P B G s w){w':World}(ho:w'.os=w.os)(ht:w'.tape=w.tape)(hu:w'.output=w.output)(hs:w.heap.size≤w'.heap.size)
(hk: ∀b,b<w.heap.size→w'.heap[b]?=w.heap[b]?):Inv P B G s w' where
 os:=ho.trans h.os
 tape:=ht.trans h.tape
 output:=hu.trans h.output
 size:=Nat.le_trans h.size hs
 pr:=fun b hb=>(hk b (Nat.lt_of_lt_of_le (B.lt b hb) h.size)).trans (h.pr b hb)
 prM:=h.prM
 m:=fun b o x hx=>(qO (hk b (h.Mlt hx))).trans (h.m b o x hx)
 l:=fun ℓ b hl=>⟨(h.l ℓ b hl).1,Nat.lt_of_lt_of_le (h.l ℓ b hl).2.1 hs,(h.l ℓ b hl).2.2⟩
 inj:=h.inj
 blk:=fun ℓ b o k hl ho hk'=>h.blk ℓ b o k hl (by rw [←hk b (h.l ℓ b hl).2.1];exact ho) hk'
 tok:=fun t n ht=>by
  obtain⟨b,c,sz,k⟩:=h.tok t n ht;exact⟨b,c,sz,k.h,k.np,Nat.lt_of_lt_of_le k.lt hs,by rw [hk b k.lt];exact k.blk,k.szp,k.nc,k.cm,k.m,k.l⟩
 nP:=h.nP
 hh:=h.hh
 tot:=h.tot
theorem Inv.alloc(h:Inv P B G s w)(o:Obj):Inv P B G s (w.alloc o):=
 h.grow rfl rfl rfl (by simp) fun _ hb=>uT (Nat.ne_of_lt hb)
def Gh.mB(G:Gh)(b lo hi:Nat)(vs:List Value):Gh:=
 {G with M:=fun b' o=>if b'=b∧lo≤o∧o<hi then vs[o]? else G.M b' o}
theorem Gh.aBl{b lo hi:Nat}{vs:List Value}(hn: ∀o,lo≤o→o<hi→ ∀x,G.M b o=some x→vs[o]?=some x):G.le (G.mB b lo hi vs) where
 M:=fun b' o x hx=>by
  simp only [Gh.mB];split
  ·rename_i hc;obtain⟨rfl,h1,h2⟩:=hc;exact hn o h1 h2 x hx
  ·exact hx
 L:=fun _ _ h=>h
 H:=fun _ _ _ h=>h
theorem p5{b lo hi:Nat}{vs:List Value}{o:Nat}(h1:lo≤o)(h2:o<hi):(G.mB b lo hi vs).M b o=vs[o]?:=by simp [Gh.mB,h1,h2]
theorem zX{b lo hi:Nat}{vs:List Value}{b' o:Nat}(h:b'≠b):(G.mB b lo hi vs).M b' o=G.M b' o:=by simp [Gh.mB,h]
theorem aB0{b lo hi:Nat}{vs:List Value}{b' o:Nat}(h: ¬(lo≤o∧o<hi)):(G.mB b lo hi vs).M b' o=G.M b' o:=by simp [Gh.mB,h]
theorem Inv.aF3(h:Inv P B G s w){b:Nat}{vs:List Value}{e:TypeId}{fr:Nat×Nat}(hb:w.heap[b]?=some (.cells vs.toArray e fr))(hn: ∀o,G.M b o=none)(hl: ∀ℓ,G.L ℓ≠some b)
(ht: ∀t n b' c sz,s.toks[t]?=some n→G.H t n=some (b',c,sz)→b'≠b)(hp: ¬B.Pr b)(lo hi:Nat):Inv P B (G.mB b lo hi vs) s w:=by
 have hle:G.le (G.mB b lo hi vs):=Gh.aBl fun o _ _ x hx=>by rw [hn o] at hx;cases hx
 exact{
  os:=h.os,tape:=h.tape,output:=h.output,size:=h.size,pr:=h.pr
  prM:=fun x hx o=>by
   have hne:x≠b:=fun e'=>hp (by rw [←e'];exact hx);rw [zX hne];exact h.prM x hx o
  m:=fun b' o x hx=>by
   by_cases hc:b'=b∧lo≤o∧o<hi
   ·obtain⟨rfl,h1,h2⟩:=hc;rw [p5 h1 h2] at hx;rw [w8 hb];exact hx
   ·have:G.M b' o=some x:=by simpa [Gh.mB,hc] using hx
    exact h.m b' o x this
  l:=h.l,inj:=h.inj
  blk:=fun ℓ b' o k hl' ho hk=>(h.blk ℓ b' o k hl' ho hk).mono hle fun cs hc j=>by
   have hne:b'≠b:=fun e=>hl ℓ (e▸hl');rw [zX hne];have:=h.blk ℓ b' o k hl' ho hk;subst hc;obtain⟨_,_,_,_,h3,_⟩:=this;exact h3 rfl j
  tok:=fun t n ht'=>by
   obtain⟨b',c,sz,k⟩:=h.tok t n ht';have hne:b'≠b:=ht t n b' c sz ht' k.h;exact⟨b',c,sz,k.h,k.np,k.lt,k.blk,k.szp,k.nc,k.cm,fun j hj=>by rw [zX hne];exact k.m j hj,k.l⟩
  nP:=h.nP,hh:=h.hh,tot:=h.tot}
theorem Inv.aQn(h:Inv P B G s w)(vs:List Value)(e:TypeId)(fr:Nat×Nat)(hi:Nat):
  Inv P B (G.mB w.heap.size 0 hi vs) s (w.alloc (.cells vs.toArray e fr)):=
 (h.alloc _).aF3 rC (fun o=>h.aO6 o) (fun ℓ=>h.aSu ℓ) (fun t n b' c sz ht hh=>by
  obtain⟨b,c',sz',k⟩:=h.tok t n ht;rw [k.h] at hh;cases hh;exact Nat.ne_of_lt k.lt) (fun hp=>absurd (Nat.lt_of_lt_of_le (B.lt _ hp) h.size) (Nat.lt_irrefl _)) 0 hi
theorem Inv.rQ(h:Inv P B G s w)(hi:Nat)(vs:List Value):G.le (G.mB w.heap.size 0 hi vs):=
 Gh.aBl fun o _ _ x hx=>by rw [h.aO6 o] at hx;cases hx
def Gh.yH(G:Gh)(l b:Nat):Gh:={G with L:=fun l'=>if l'=l then some b else G.L l'}
theorem qZ{l b:Nat}:(G.yH l b).L l=some b:=by simp [Gh.yH]
theorem aHr{l b l':Nat}(h:l'≠l):(G.yH l b).L l'=G.L l':=by simp [Gh.yH,h]
theorem Gh.wQ{l b:Nat}(h:G.L l=none):G.le (G.yH l b) where
 M:=fun _ _ _ h=>h
 L:=fun l' b' hb=>by
  by_cases e:l'=l
  ·subst e;rw [h] at hb;cases hb
  ·rw [aHr e];exact hb
 H:=fun _ _ _ h=>h
theorem Inv.aCo(h:Inv P B G s w)(o:Obj)(k:dG)(hk:oO P (G.yH s.blks.length w.heap.size) w.heap.size o k):
  Inv P B (G.yH s.blks.length w.heap.size) {s with blks:=s.blks++ [k]} (w.alloc o):=by
 have ha:=h.alloc o;have hle:G.le (G.yH s.blks.length w.heap.size):=Gh.wQ h.aLV;have hL: ∀{ℓ b},(G.yH s.blks.length w.heap.size).L ℓ=some b→(ℓ=s.blks.length∧b=w.heap.size)∨(ℓ≠s.blks.length∧G.L ℓ=some b):=by
  intro ℓ b hb;by_cases e:ℓ=s.blks.length
  ·subst e;rw [qZ] at hb;cases hb;exact .inl ⟨rfl,rfl⟩
  ·rw [aHr e] at hb;exact .inr ⟨e,hb⟩
 exact{
  os:=ha.os,tape:=ha.tape,output:=ha.output,size:=ha.size,pr:=ha.pr,prM:=ha.prM,m:=ha.m
  l:=fun ℓ b hb=>by
   rcases hL hb with ⟨rfl,rfl⟩|⟨_,hb⟩
   ·exact⟨by simp,by simp,fun hp=>absurd (Nat.lt_of_lt_of_le (B.lt _ hp) h.size) (Nat.lt_irrefl _)⟩
   ·exact⟨by have:=(h.l ℓ b hb).1;simp;omega,(ha.l ℓ b hb).2.1,(h.l ℓ b hb).2.2⟩
  inj:=fun ℓ ℓ' b hb hb'=>by
   rcases hL hb with ⟨rfl,rfl⟩|⟨_,hb⟩<;>rcases hL hb' with ⟨rfl,e⟩|⟨_,hb'⟩
   ·rfl
   ·exact absurd hb' (h.aSu _)
   ·subst e;exact absurd hb (h.aSu _)
   ·exact h.inj _ _ _ hb hb'
  blk:=fun ℓ b o' k' hb ho hk'=>by
   rcases hL hb with ⟨rfl,rfl⟩|⟨hne,hb⟩
   ·rw [rC] at ho;cases ho;simp at hk';subst hk';exact hk
   ·have hlt:=(h.l ℓ b hb).1;rw [List.getElem?_append_left hlt] at hk';exact(ha.blk ℓ b o' k' hb ho hk').mono hle fun cs hc j=>by
     have:=ha.blk ℓ b o' k' hb ho hk';subst hc;obtain⟨_,_,_,_,h3,_⟩:=this;exact h3 rfl j
  tok:=fun t n ht=>by
   obtain⟨b,c,sz,k⟩:=ha.tok t n ht;obtain⟨b',c',sz',k'⟩:=h.tok t n ht;have he:=k.h.symm.trans k'.h;cases he;exact⟨b,c,sz,k.h,k.np,k.lt,k.blk,k.szp,k.nc,k.cm,k.m,fun ℓ hb=>by
    rcases hL hb with ⟨rfl,rfl⟩|⟨_,hb⟩
    ·exact absurd k'.lt (Nat.lt_irrefl _)
    ·exact k.l ℓ hb⟩
  nP:=ha.nP,hh:=ha.hh
  tot:=fun ℓ hℓ=>by
   by_cases q:ℓ=s.blks.length
   ·subst q;exact⟨_,qZ⟩
   ·rw [aHr q];refine h.tot ℓ ?_;simp at hℓ;omega}
theorem Inv.put(h:Inv P B G s w){ℓ b:Nat}{o':Obj}{k':dG}(hl:G.L ℓ=some b)(hk:oO P G b o' k')(hM: ∀j x,G.M b j=some x→(w.putObj b o').cell? ⟨b,j,none⟩=some x):
  Inv P B G {s with blks:=s.blks.set ℓ k'} (w.putObj b o'):=by
 have hlt:=(h.l ℓ b hl).2.1;have hne: ∀{x},x≠b→(w.putObj b o').heap[x]?=w.heap[x]?:=fun hx=>World.putObj_heap_other hx;have hsz:(w.putObj b o').heap.size=w.heap.size:=by simp [World.putObj]
 exact{
  os:=h.os,tape:=h.tape,output:=h.output,size:=by rw [hsz];exact h.size
  pr:=fun x hx=>(hne (fun e=>(h.l ℓ b hl).2.2 (e▸hx))).trans (h.pr x hx)
  prM:=h.prM
  m:=fun x j v hv=>by
   by_cases e:x=b
   ·subst e;exact hM j v hv
   ·rw [qO (hne e)];exact h.m x j v hv
  l:=fun ℓ' x hx=>⟨by simpa using (h.l ℓ' x hx).1,by rw [hsz];exact(h.l ℓ' x hx).2.1,(h.l ℓ' x hx).2.2⟩
  inj:=h.inj
  blk:=fun ℓ' x o k hx ho hk'=>by
   by_cases e:ℓ'=ℓ
   ·subst e;rw [hl] at hx;cases hx;rw [World.putObj_heap_same hlt] at ho;cases ho;rw [List.getElem?_set_self (h.l _ _ hl).1] at hk';cases hk';exact hk
   ·have hxb:x≠b:=fun e'=>e (h.inj _ _ _ hx (e'▸hl));rw [hne hxb] at ho;rw [List.getElem?_set_ne (fun e'=>e e'.symm)] at hk';exact h.blk ℓ' x o k hx ho hk'
  tok:=fun t n ht=>by
   obtain⟨x,c,sz,k⟩:=h.tok t n ht;have hxb:x≠b:=fun e=>k.l ℓ (e▸hl);exact⟨x,c,sz,k.h,k.np,by rw [hsz];exact k.lt,by rw [hne hxb];exact k.blk,k.szp,k.nc,k.cm,k.m,k.l⟩
  nP:=h.nP,hh:=h.hh,tot:=fun ℓ hℓ=>h.tot ℓ (by simpa using hℓ)}
theorem Inv.aVh(h:Inv P B G s w){G':Gh}(hle:G.le G')(hLe: ∀ℓ,G'.L ℓ=G.L ℓ)(hHe: ∀t n,G'.H t n=G.H t n){ℓ b:Nat}{k':dG}(hl:G.L ℓ=some b)
(hM: ∀x j,x≠b→G'.M x j=G.M x j)(hMb: ∀j x,G'.M b j=some x→w.cell? ⟨b,j,none⟩=some x)
(hk: ∀o,w.heap[b]?=some o→oO P G' b o k'):Inv P B G' {s with blks:=s.blks.set ℓ k'} w:=by
 exact{
  os:=h.os,tape:=h.tape,output:=h.output,size:=h.size,pr:=h.pr
  prM:=fun x hx o=>by rw [hM x o (fun e=>(h.l ℓ b hl).2.2 (e▸hx))];exact h.prM x hx o
  m:=fun x j v hv=>by
   by_cases e:x=b
   ·subst e;exact hMb j v hv
   ·rw [hM x j e] at hv;exact h.m x j v hv
  l:=fun ℓ' x hx=>by rw [hLe] at hx;exact⟨by simpa using (h.l ℓ' x hx).1,(h.l ℓ' x hx).2⟩
  inj:=fun ℓ' ℓ'' x hx hx'=>by rw [hLe] at hx hx';exact h.inj _ _ _ hx hx'
  blk:=fun ℓ' x o k hx ho hk'=>by
   rw [hLe] at hx;by_cases e:ℓ'=ℓ
   ·subst e;rw [hl] at hx;cases hx;rw [List.getElem?_set_self (h.l _ _ hl).1] at hk';cases hk';exact hk o ho
   ·have hxb:x≠b:=fun e'=>e (h.inj _ _ _ hx (e'▸hl));rw [List.getElem?_set_ne (fun e'=>e e'.symm)] at hk';refine(h.blk ℓ' x o k hx ho hk').mono hle fun cs hc j=> ?_;rw [hM x j hxb];have:=h.blk ℓ' x o k hx ho hk';subst hc;obtain⟨_,_,_,_,h3,_⟩:=this;exact h3 rfl j
  tok:=fun t n ht=>by
   obtain⟨x,c,sz,k⟩:=h.tok t n ht;have hxb:x≠b:=fun e=>k.l ℓ (e▸hl);exact⟨x,c,sz,by rw [hHe];exact k.h,k.np,k.lt,k.blk,k.szp,k.nc,k.cm,fun j hj=>by rw [hM x j hxb];exact k.m j hj,fun ℓ'=>by rw [hLe];exact k.l ℓ'⟩
  nP:=fun t t' n n' b' c sz c' sz' h1 h2 h3 h4=>by rw [hHe] at h3 h4;exact h.nP t t' n n' b' c sz c' sz' h1 h2 h3 h4
  hh:=fun t n x hx=>by rw [hHe] at hx;exact h.hh t n x hx
  tot:=fun ℓ' hℓ=>by rw [hLe];exact h.tot ℓ' (by simpa using hℓ)}
structure xQ(G:Gh)(w:World)(G':Gh)(w':World):Prop where
 le:G.le G'
 L: ∀ℓ,G'.L ℓ=G.L ℓ
 H: ∀t n,G'.H t n=G.H t n
 os:w'.os=w.os
 tape:w'.tape=w.tape
 output:w'.output=w.output
 size:w.heap.size≤w'.heap.size
 aDI: ∀b,b<w.heap.size→w'.heap[b]?=w.heap[b]?
 old: ∀b,b<w.heap.size→ ∀o,G'.M b o=G.M b o
 new: ∀b o x,w.heap.size≤b→G'.M b o=some x→w'.cell? ⟨b,o,none⟩=some x
theorem xQ.refl(G:Gh)(w:World)(h: ∀b o x,w.heap.size≤b→G.M b o=some x→w.cell? ⟨b,o,none⟩=some x):xQ G w G w:=
 ⟨.refl _,fun _=>rfl,fun _ _=>rfl,rfl,rfl,rfl,Nat.le_refl _,fun _ _=>rfl,fun _ _ _=>rfl,h⟩
theorem Inv.quiet(h:Inv P B G s w):xQ G w G w:= .refl _ _ fun b o x _ hx=>h.m b o x hx
theorem xQ.inv{G':Gh}{w':World}(q:xQ G w G' w')(h:Inv P B G s w):Inv P B G' s w' where
 os:=q.os.trans h.os
 tape:=q.tape.trans h.tape
 output:=q.output.trans h.output
 size:=Nat.le_trans h.size q.size
 pr:=fun b hb=>(q.aDI b (Nat.lt_of_lt_of_le (B.lt b hb) h.size)).trans (h.pr b hb)
 prM:=fun b hb o=>(q.old b (Nat.lt_of_lt_of_le (B.lt b hb) h.size) o).trans (h.prM b hb o)
 m:=fun b o x hx=>by
  rcases Nat.lt_or_ge b w.heap.size with hb|hb
  ·rw [q.old b hb] at hx;exact(qO (q.aDI b hb)).trans (h.m b o x hx)
  ·exact q.new b o x hb hx
 l:=fun ℓ b hl=>by rw [q.L] at hl;exact⟨(h.l ℓ b hl).1,Nat.lt_of_lt_of_le (h.l ℓ b hl).2.1 q.size,(h.l ℓ b hl).2.2⟩
 inj:=fun ℓ ℓ' b hl hl'=>by rw [q.L] at hl hl';exact h.inj _ _ _ hl hl'
 blk:=fun ℓ b o k hl ho hk=>by
  rw [q.L] at hl;have hlt:=(h.l ℓ b hl).2.1;rw [q.aDI b hlt] at ho;refine(h.blk ℓ b o k hl ho hk).mono q.le fun cs hc j=> ?_;rw [q.old b hlt];have:=h.blk ℓ b o k hl ho hk;subst hc;obtain⟨_,_,_,_,h3,_⟩:=this;exact h3 rfl j
 tok:=fun t n ht=>by
  obtain⟨b,c,sz,k⟩:=h.tok t n ht;exact⟨b,c,sz,by rw [q.H];exact k.h,k.np,Nat.lt_of_lt_of_le k.lt q.size,by rw [q.aDI b k.lt];exact k.blk,k.szp,k.nc,k.cm,fun j hj=>by rw [q.old b k.lt];exact k.m j hj,fun ℓ=>by rw [q.L];exact k.l ℓ⟩
 nP:=fun t t' n n' b c sz c' sz' h1 h2 h3 h4=>by rw [q.H] at h3 h4;exact h.nP t t' n n' b c sz c' sz' h1 h2 h3 h4
 hh:=fun t n x hx=>by rw [q.H] at hx;exact h.hh t n x hx
 tot:=fun ℓ hℓ=>by rw [q.L];exact h.tot ℓ hℓ
theorem Inv.aMh(h:Inv P B G s w)(vs:List Value)(e:TypeId)(fr:Nat×Nat)(hi:Nat):xQ G w (G.mB w.heap.size 0 hi vs) (w.alloc (.cells vs.toArray e fr)) where
 le:=h.rQ hi vs
 L:=fun _=>rfl
 H:=fun _ _=>rfl
 os:=rfl
 tape:=rfl
 output:=rfl
 size:=by simp
 aDI:=fun b hb=>uT (Nat.ne_of_lt hb)
 old:=fun b hb o=>zX (Nat.ne_of_lt hb)
 new:=fun b o x hb hx=>(h.aQn vs e fr hi).m b o x hx
end
def aVF{α:Type}(v:AV)(k:AV→α):α:=
 match v with
 | .int a b=>k (.int a b)| .bool b=>k (.bool b)| .str s=>k (.str s)| .slice a b c=>k (.slice a b c)| .cQ a b c d e=>k (.cQ a b c d e)
 | .agg cs=>k (.agg cs)| .tuple vs=>k (.tuple vs)| .eH=>k .eH| .ptr a b=>k (.ptr a b)| .aG v o=>k (.aG v o)| .func a b c=>k (.func a b c)
 | .dP=>k .dP| .yield l=>k (.yield l)| .map l=>k (.map l)| .eQ=>k .eQ| .iface a b=>k (.iface a b)| .cI=>k .cI| .iter l=>k (.iter l)| .nX=>k .nX
theorem aRy{α:Type}(v:AV)(k:AV→α):aVF v k=k v:=by cases v<;>rfl
def aP9{α:Type}(e:Env)(d:Option Nat)(v:AV)(k:Env→α):α:=match d with|none=>k e|some i=>k (upd e i v)
theorem aG9{α:Type}(e:Env)(d:Option Nat)(v:AV)(k:Env→α):aP9 e d v k=k (fQ e d v):=by cases d<;>rfl
def aNx{α:Type}(d:Option Nat)(pd:List (Nat×Nat))(k:List (Nat×Nat)→α):α:=match pd with| []=>k []|x::xs=>k (aS d (x::xs))
theorem aKY{α:Type}(d:Option Nat)(pd:List (Nat×Nat))(k:List (Nat×Nat)→α):aNx d pd k=k (aS d pd):=by
 cases pd with
 |nil=>cases d<;>rfl
 |cons x xs=>rfl
def aVi{α:Type}(s:ASt)(k:ASt→α):α:=match s with|⟨b,t,lb,lt⟩=>k ⟨b,t,lb,lt⟩
structure Now where
 pd:List (Nat×Nat)
 e:Env
 ds:List jI
 s:ASt
def aHs(see:Bool)(d:Option Nat)(pd:List (Nat×Nat))(e:Env)(ds:List jI)(v:AV)(s:ASt):Option Now:=
 match see with
 |true=>aVF v fun v=>aNx d pd fun pd=>aP9 e d v fun e=>some ⟨pd,e,ds,s⟩
 |false=>aNx d pd fun pd=>aP9 e d v fun e=>some ⟨pd,e,ds,s⟩
theorem aSA(see:Bool)(d:Option Nat)(pd:List (Nat×Nat))(e:Env)(ds:List jI)(v:AV)(s:ASt):aHs see d pd e ds v s=some ⟨aS d pd,fQ e d v,ds,s⟩:=by
 cases see<;>simp only [aHs,aRy,aKY,aG9]
def stU(see:Bool)(P:bA)(i:AI)(pd:List (Nat×Nat))(e:Env)(ds:List jI)(s:ASt):Option Now:=
 match wanted e i.gd with
 |none=>none
 |some false=>aNx i.d pd fun pd=>aP9 e i.d fW fun e=>some ⟨pd,e,ds,s⟩
 |some true=>
  match i.op with
  | .pend z=>match i.d with|some d=>some ⟨(d,z.length)::aS (some d) pd,upd e d .nX,ds,s⟩|none=>none
  | .shut d sz x=>
   match i.d,iK (evO P e x) with
   |none,some v=>match decide ((cellsOf v).length=sz),pd.any (fun p=>Nat.beq p.1 d&&Nat.beq p.2 sz) with|true,true=>some ⟨aS (some d) pd,upd e d (.aG v 0),ds,s⟩|_,_=>none
   |_,_=>none
  | .defer f args=>
   match evO P e f,eD (args.map (evO P e)) with
   | .func g a b,some vs=>aP9 e i.d fW fun e=>some ⟨aS i.d pd,e,.call g (a++vs++b)::ds,s⟩
   |_,_=>none
  | .panic _=>none
  | .aN .. =>none
  | .call .. =>none
  | .mv x=>aHs see i.d pd e ds (evO P e x) s
  |op=>
   match bX P e op with
   |some v=>aHs see i.d pd e ds v s
   |none=>match gO P e s op with
    |some v=>aHs see i.d pd e ds v s
    |none=>match eX P e s op with
     |some (v,s1)=>aVi s1 fun s1=>aHs see i.d pd e ds v s1
     |none=>none
section
variable {H : Handler} {P : bA} {i : AI} {rest : List AI} {pd pd' : List (Nat × Nat)} {e e' : Env} {ds ds' : List jI} {s s' : ASt} {Q : rP → Prop}
theorem aQW{see:Bool}(h:stU see P i pd e ds s=some ⟨pd',e',ds',s'⟩):bS H P (i::rest) pd ⟨e,ds⟩ s=bS H P rest pd' ⟨e',ds'⟩ s':=by
 obtain⟨d,op,gd,pre⟩:=i;cases hw:wanted e gd with
 |none=>simp [stU,hw] at h
 |some b=>
  cases b with
  |false=>
   simp only [stU,hw,aKY,aG9,Option.some.injEq,Now.mk.injEq] at h;obtain⟨rfl,rfl,rfl,rfl⟩:=h;simp only [bS,hw]
  |true=>
   cases hp:plainO op with
   |true=>
    have key:stU see P ⟨d,op,gd,pre⟩ pd e ds s=(match dM P e s op with|some (v,s1)=>some ⟨aS d pd,fQ e d v,ds,s1⟩|none=>none):=by
     have gen:(match bX P e op with
      |some v=>aHs see d pd e ds v s
      |none=>match gO P e s op with
       |some v=>aHs see d pd e ds v s
       |none=>match eX P e s op with
        |some (v,s1)=>aVi s1 fun s1=>aHs see d pd e ds v s1
        |none=>none)=(match dM P e s op with|some (v,s1)=>some ⟨aS d pd,fQ e d v,ds,s1⟩|none=>none):=by
      unfold dM;simp only [aSA];cases bX P e op with
      |some v=>rfl
      |none=>cases gO P e s op with
       |some v=>rfl
       |none=>cases eX P e s op with
        |none=>rfl
        |some x=>rfl
     rw [←gen];simp only [stU,hw];cases op<;>first|rfl|(simp [plainO] at hp)
    rw [key] at h;cases hs:dM P e s op with
    |none=>rw [hs] at h;cases h
    |some x=>
     rw [hs] at h;cases h;exact y0 hp hw hs
   |false=>
    cases op<;>first|(simp [plainO] at hp;done)|skip
    case pend z=>
     cases d with
     |none=>simp [stU,hw] at h
     |some d=>
      simp only [stU,hw,Option.some.injEq,Now.mk.injEq] at h;obtain⟨rfl,rfl,rfl,rfl⟩:=h;simp only [bS,hw]
    case shut d0 sz x=>
     cases d with
     |some d=>simp [stU,hw] at h
     |none=>
      simp only [stU,hw] at h;cases hf:iK (evO P e x) with
      |none=>simp [hf] at h
      |some v=>
       simp only [hf] at h;split at h
       ·rename_i h1 h2;cases h;simp only [bS,hw,hf];rw [if_pos (by rw [h1,h2];rfl)]
       ·cases h
    case defer f args=>
     simp only [stU,hw] at h;split at h
     ·rename_i h1 h2;rw [aG9] at h;cases h;simp only [bS,hw,h1,h2]
     ·cases h
    case panic x=>simp [stU,hw] at h
    case aN st f args=>simp [stU,hw] at h
    case call f args=>simp [stU,hw] at h
theorem wu(h:stU true P i pd e ds s=some ⟨pd',e',ds',s'⟩)(k:Wo P rest pd' ⟨e',ds'⟩ s' Q):Wo P (i::rest) pd ⟨e,ds⟩ s Q:=
 ⟨k.ev.congr fun _=>aQW h⟩
theorem wv(h:stU false P i pd e ds s=some ⟨pd',e',ds',s'⟩)(k:Wo P rest pd' ⟨e',ds'⟩ s' Q):Wo P (i::rest) pd ⟨e,ds⟩ s Q:=
 ⟨k.ev.congr fun _=>aQW h⟩
end
section
variable {P : bA} {e : Env} {ds : List jI} {s s1 : ASt} {Q : rP → Prop} {d : Nat} {rest : List AI} {pre : List Nat} {v : AV}
theorem wg{op:AOp}{gd:Option (Nat×Bool)}(hp:plainO op=true)(hg:wanted e gd=some true)(h:dM P e s op=some (v,s1))(k:Wo P rest [] ⟨upd e d v,ds⟩ s1 Q):Wo P (⟨some d,op,gd,pre⟩::rest) [] ⟨e,ds⟩ s Q:=
 aV1 (d':=some d) hp hg h k
end
theorem aMq(t:List UInt8):(⟨t.toArray⟩:ByteArray).size=t.length:=by simp [ByteArray.size]
theorem aRV{t:List UInt8}{pos:Nat}{b:UInt8}(h:t[pos]?=some b)(hb:b.toNat<128):Utf8.decode ⟨t.toArray⟩ pos=(b.toNat,1):=by
 have hp:pos<t.length:=(List.getElem?_eq_some_iff.1 h).1;have hget:(⟨t.toArray⟩:ByteArray)[pos]'(by rw [aMq];exact hp)=b:=by
  have:=(List.getElem?_eq_some_iff.1 h).2;simpa [ByteArray.getElem_eq_getElem_data] using this
 have:=decode_ascii ⟨t.toArray⟩ pos (by rw [aMq];exact hp) (by rw [hget];exact hb);rw [this,hget]
theorem aO0{t:List UInt8}{pos:Nat}{b:UInt8}(h:t[pos]?=some b)(hb: ¬b.toNat<128):128≤(Utf8.decode ⟨t.toArray⟩ pos).1:=by
 have hp:pos<t.length:=(List.getElem?_eq_some_iff.1 h).1;have hget:(⟨t.toArray⟩:ByteArray)[pos]'(by rw [aMq];exact hp)=b:=by
  have:=(List.getElem?_eq_some_iff.1 h).2;simpa [ByteArray.getElem_eq_getElem_data] using this
 exact(decode_high ⟨t.toArray⟩ pos (by rw [aMq];exact hp) (by rw [hget];omega)).1
theorem wrap_i64{n:Int}(h1: -9223372036854775808≤n)(h2:n<9223372036854775808):IntKind.wrap .i64 n=n:=by
 unfold IntKind.wrap;simp [IntKind.signed,IntKind.bits];split<;>omega
theorem aED{e:Env}{i:Nat}{v:AV}(h:e i=v):upd e i v=e:=by
 funext j
 unfold upd;cases hb:Nat.beq j i with
 |true=>simp [Nat.eq_of_beq_eq_true hb,h]
 |false=>rfl
def bB(e:Env):List (Nat×AV)→Env
 | []=>e
 |(i,v)::r=>upd (bB e r) i v
inductive aAx(e:Env):List (Nat×AV)→Prop
 |nil:aAx e []
 |cons {i:Nat} {v:AV} {r:List (Nat×AV)} (h:e i=v) (t:aAx e r):aAx e ((i,v)::r)
theorem aAx.bB{e:Env}{l:List (Nat×AV)}(h:aAx e l):bB e l=e:=by
 induction h with
 |nil=>rfl
 |cons h _ ih=>simp only [Fw.bB,ih];exact aED h
def Kept(S:List (Nat×AV))(ds:List jI)(s':ASt):dO→Fr→ASt→Prop:=fun ex f s=>ex= .normal∧s=s'∧f.ds=ds∧aAx f.env S
theorem Kept.mk{S:List (Nat×AV)}{ds:List jI}{s:ASt}{f:Fr}(h1:f.ds=ds)(h2:aAx f.env S):Kept S ds s .normal f s:=⟨rfl,rfl,h1,h2⟩
structure Hle(H H':Handler):Prop where
 call: ∀g a s r,H.call g a s=some r→H'.call g a s=some r
 dcall: ∀f a m s r,H.dcall f a m s=some r→H'.dcall f a m s=some r
section
variable {H H' : Handler} {P : bA}
theorem aES{d':Option Nat}{op:AOp}{gd:Option (Nat×Bool)}{pre:List Nat}{rest:List AI}{pd:List (Nat×Nat)}{fr:Fr}{s:ASt}(hp:plainO op=true)(hg:wanted fr.env gd=some true):
  bS H P (⟨d',op,gd,pre⟩::rest) pd fr s=(match dM P fr.env s op with|some (v,s1)=>bS H P rest (aS d' pd) {fr with env:=fQ fr.env d' v} s1|none=>none):=by
 have key:(match bX P fr.env op with
    |some v=>bS H P rest (aS d' pd) {fr with env:=fQ fr.env d' v} s
    |none=>
     match gO P fr.env s op with
     |some v=>bS H P rest (aS d' pd) {fr with env:=fQ fr.env d' v} s
     |none=>
      match eX P fr.env s op with
      |some (v,s1)=>bS H P rest (aS d' pd) {fr with env:=fQ fr.env d' v} s1
      |none=>none)=(match dM P fr.env s op with|some (v,s1)=>bS H P rest (aS d' pd) {fr with env:=fQ fr.env d' v} s1|none=>none):=by
  unfold dM;cases bX P fr.env op with
  |some x=>rfl
  |none=>cases gO P fr.env s op with
   |some x=>rfl
   |none=>rfl
 rw [←key];simp only [bS,hg];cases op<;>first|rfl|(simp [plainO] at hp)
theorem m5(hH:Hle H H'): ∀{is:List AI}{pd:List (Nat×Nat)}{fr:Fr}{s:ASt}{r:rP},bS H P is pd fr s=some r→bS H' P is pd fr s=some r
 | [],_,_,_,_,h=>h
 |⟨d',op,gd,pre⟩::rest,pd,fr,s,r,h=>by
  cases hw:wanted fr.env gd with
  |none=>simp [bS,hw] at h
  |some b=>
   cases b with
   |false=>
    simp only [bS,hw] at h⊢;exact m5 hH h
   |true=>
    cases hp:plainO op with
    |true=>
     rw [aES hp hw] at h⊢;cases hs:dM P fr.env s op with
     |none=>rw [hs] at h;cases h
     |some x=>rw [hs] at h;exact m5 hH h
    |false=>
     cases op<;>first|(simp [plainO] at hp;done)|skip
     case pend z=>
      cases d' with
      |none=>simp [bS,hw] at h
      |some d=>simp only [bS,hw] at h⊢;exact m5 hH h
     case shut d sz x=>
      cases d' with
      |some d=>simp [bS,hw] at h
      |none=>
       cases hf:iK (evO P fr.env x) with
       |none=>simp [bS,hw,hf] at h
       |some v=>
        simp only [bS,hw,hf] at h⊢;split at h
        ·rename_i hc;rw [if_pos hc];exact m5 hH h
        ·cases h
     case defer f args=>
      simp only [bS,hw] at h⊢;split at h
      ·rename_i h1 h2;(try simp only [h1,h2]);exact m5 hH h
      ·cases h
     case panic x=>
      simp only [bS,hw] at h⊢;exact h
     case aN st f args=>
      simp only [bS,hw] at h⊢;split at h
      ·rename_i g a b vs h1 h2
       (try simp only [h1,h2])
       split at h
       ·rename_i v s2 h3 h4;simp only [hH.call _ _ _ _ h4]
        (try simp only [h3])
        split at h
        ·rename_i v' h5
         (try simp only [h5])
         split at h
         ·rename_i h6;(try simp only [h6]);exact m5 hH h
         ·cases h
        ·cases h
       ·cases h
      ·cases h
     case call f args=>
      simp only [bS,hw] at h⊢;split at h
      ·rename_i g a b vs s1 h1 h2
       (try simp only [h1,h2])
       split at h
       ·rename_i v s2 h3;simp only [hH.call _ _ _ _ h3];exact m5 hH h
       ·rename_i v s2 h3;simp only [hH.call _ _ _ _ h3];exact h
       ·cases h
      ·cases h
theorem wP{f f':Fr→ASt→Option CR}(hf: ∀fr s r,f fr s=some r→f' fr s=some r): ∀{k k':Nat}{fr:Fr}{s:ASt}{r:CR},k≤k'→oQ f k fr s=some r→oQ f' k' fr s=some r
 |0,_,_,_,_,_,h=>by simp [oQ] at h
 |k+1,0,_,_,_,hk,_=>by omega
 |k+1,k'+1,fr,s,r,hk,h=>by
  simp only [oQ] at h⊢;cases hs:f fr s with
  |none=>rw [hs] at h;cases h
  |some x=>
   rw [hs] at h;rw [hf _ _ _ hs];cases hx:x.ex with
   |normal=>simp only [hx] at h⊢;exact wP hf (by omega) h
   |exit i=>simp only [hx] at h⊢;exact h
   |ret=>simp only [hx] at h⊢;exact h
   |panic v=>simp only [hx] at h⊢;exact h
theorem fM(hH:Hle H H'){rd:Option Nat}{lf lf':Nat}(hl:lf≤lf'): ∀(c:AC){fr:Fr}{s:ASt}{r:CR},evC H P rd lf c fr s=some r→evC H' P rd lf' c fr s=some r
 | .skip,_,_,_,h=>h
 | .exit _,_,_,_,h=>h
 | .ret,_,_,_,h=>h
 | .scope b,fr,s,r,h=>by simp only [evC] at h⊢;exact fM hH hl b h
 | .reg _ ops,fr,s,r,h=>by
  simp only [evC] at h⊢;cases he:bS H P ops [] fr s with
  |none=>rw [he] at h;cases h
  |some x=>rw [he] at h;rw [m5 hH he];exact h
 | .seq a b,fr,s,r,h=>by
  simp only [evC] at h⊢;cases he:evC H P rd lf a fr s with
  |none=>rw [he] at h;cases h
  |some x=>
   rw [he] at h;rw [fM hH hl a he];cases hx:x.ex with
   |normal=>simp only [hx] at h⊢;exact fM hH hl b h
   |exit i=>simp only [hx] at h⊢;exact h
   |ret=>simp only [hx] at h⊢;exact h
   |panic v=>simp only [hx] at h⊢;exact h
 | .cond c t e,fr,s,r,h=>by
  simp only [evC] at h⊢;split at h
  ·rename_i b hb
   (try simp only [hb])
   cases b with
   |true=>exact fM hH hl t h
   |false=>exact fM hH hl e h
  ·cases h
 | .block id b,fr,s,r,h=>by
  simp only [evC] at h⊢;cases he:evC H P rd lf b fr s with
  |none=>rw [he] at h;cases h
  |some x=>rw [he] at h;rw [fM hH hl b he];exact h
 | .loop b,fr,s,r,h=>by
  simp only [evC] at h⊢;exact wP (fun _ _ _=>fM hH hl b) hl h
 | .nU f params assign body,fr,s,r,h=>by
  simp only [evC] at h⊢;split at h
  ·rename_i l mark s1 g a b h1 h2
   (try simp only [h1,h2])
   split at h
   ·rename_i v s2 h3 h4;simp only [hH.call _ _ _ _ h4];(try simp only [h3]);exact h
   ·rename_i v s2 h3 h4;simp only [hH.call _ _ _ _ h4];(try simp only [h3]);exact h
   ·cases h
  ·cases h
theorem aKX(hH:Hle H H'){lf lf':Nat}(hl:lf≤lf'){l:Nat}{args:List AV}{s:ASt}{r:kO×ASt}(h:p7 H P lf l args s=some r):p7 H' P lf' l args s=some r:=by
 unfold p7 at h⊢;split at h
 ·rename_i lp h1
  (try simp only [h1])
  split at h
  ·rename_i h2 h3
   (try simp only [h2,h3])
   split at h
   ·rename_i e1 s1 h4;simp only [fM hH hl _ h4];split at h
    ·rename_i s2 h5
     (try simp only [h5])
     split at h
     ·rename_i ex e2 s3 h6;simp only [fM hH hl _ h6];exact h
     ·cases h
    ·cases h
   ·cases h
  ·cases h
 ·cases h
theorem qH(hH:Hle H H'): ∀{ds:List jI}{m:DM}{s:ASt}{r:DM×ASt},iX H ds m s=some r→iX H' ds m s=some r
 | [],_,_,_,h=>h
 | .mark l::ds,m,s,r,h=>by
  simp only [iX] at h⊢;split at h
  ·rename_i h1;(try simp only [h1]);exact qH hH h
  ·cases h
 | .call f args::ds,m,s,r,h=>by
  simp only [iX] at h⊢;cases hd:H.dcall f args m s with
  |none=>rw [hd] at h;cases h
  |some x=>rw [hd] at h;rw [hH.dcall _ _ _ _ _ hd];exact qH hH h
theorem aOF(hH:Hle H H'){lf lf':Nat}(hl:lf≤lf'){f:AF}{args:List AV}{s:ASt}{r:kO×ASt}(h:aBI H P lf f args s=some r):aBI H' P lf' f args s=some r:=by
 unfold aBI at h⊢;split at h
 ·cases h
 ·rename_i h0;split at h
  ·rename_i ex fr s1 h1;simp only [fM hH hl _ h1];split at h
   ·rename_i m h2
    (try simp only [h2])
    split at h
    ·rename_i v s2 h3;simp only [qH hH h3];exact h
    ·rename_i s2 h3;simp only [qH hH h3];exact h
    ·cases h
   ·cases h
  ·cases h
theorem aPp(hH:Hle H H'){lf lf':Nat}(hl:lf≤lf'): ∀(c:AC){fr:Fr}{rc:RC}{s:ASt}{r:dO×Fr×RC×ASt},evD H P lf c fr rc s=some r→evD H' P lf' c fr rc s=some r:=by
 intro c
 induction c with
 |reg draw ops=>
  intro fr rc s r h;simp only [evD] at h⊢;split at h
  ·exact h
  ·split at h
   ·rename_i x he;rw [fM hH hl _ he];exact h
   ·cases h
 |seq a b iha ihb=>
  intro fr rc s r h;simp only [evD] at h⊢;split at h
  ·rename_i fr1 rc1 s1 h1;simp only [iha h1];exact ihb h
  ·rename_i hne;rw [iha h];split
   ·rename_i fr1 rc1 s1 h1;cases h1;exact absurd h (hne _ _ _)
   ·rfl
 |cond c t e iht ihe=>
  intro fr rc s r h;simp only [evD] at h⊢;split at h
  ·rename_i b hb
   (try simp only [hb])
   cases b with
   |true=>exact iht h
   |false=>exact ihe h
  ·cases h
 |skip=>
  intro fr rc s r h;simp only [evD] at h⊢;split at h
  ·rename_i x he;rw [fM hH hl _ he];exact h
  ·cases h
 |block id b _=>
  intro fr rc s r h;simp only [evD] at h⊢;split at h
  ·rename_i x he;rw [fM hH hl _ he];exact h
  ·cases h
 |loop b _=>
  intro fr rc s r h;simp only [evD] at h⊢;split at h
  ·rename_i x he;rw [fM hH hl _ he];exact h
  ·cases h
 |nU f p a b _ _=>
  intro fr rc s r h;simp only [evD] at h⊢;split at h
  ·rename_i x he;rw [fM hH hl _ he];exact h
  ·cases h
 |exit id=>
  intro fr rc s r h;simp only [evD] at h⊢;split at h
  ·rename_i x he;rw [fM hH hl _ he];exact h
  ·cases h
 |ret=>
  intro fr rc s r h;simp only [evD] at h⊢;split at h
  ·rename_i x he;rw [fM hH hl _ he];exact h
  ·cases h
 |scope b _=>
  intro fr rc s r h;simp only [evD] at h⊢;split at h
  ·rename_i x he;rw [fM hH hl _ he];exact h
  ·cases h
theorem aGn(hH:Hle H H'){lf lf':Nat}(hl:lf≤lf'){f:AF}{args:List AV}{m:DM}{s:ASt}{r:DM×ASt}(h:aDD H P lf f args m s=some r):aDD H' P lf' f args m s=some r:=by
 unfold aDD at h⊢;split at h
 ·cases h
 ·rename_i h0
  (try simp only [h0])
  split at h
  ·rename_i ex e rc s1 h1;simp only [aPp hH hl _ h1];exact h
  ·cases h
theorem aD9: ∀{n m:Nat},n≤m→Hle (cU P n) (cU P m)
 |0,_,_=>⟨fun _ _ _ _ h=>by simp [cU] at h,fun _ _ _ _ _ h=>by simp [cU] at h⟩
 |n+1,0,h=>by omega
 |n+1,m+1,h=>by
  have ih:=aD9 (show n≤m by omega);refine⟨fun g a s r hr=> ?_,fun f a d s r hr=> ?_⟩
  ·cases g with
   |func f=>
    simp only [cU] at hr⊢;cases hp:P.prim f with
    |some p=>simp only [hp] at hr⊢;exact hr
    |none=>
     simp only [hp] at hr⊢;cases hf:P.fn f with
     |none=>simp only [hf] at hr;cases hr
     |some af=>simp only [hf] at hr⊢;exact aOF ih (by omega) hr
   |yield l=>simp only [cU] at hr⊢;exact aKX ih (by omega) hr
  ·simp only [cU] at hr⊢;cases hf:P.fn f with
   |none=>simp only [hf] at hr;cases hr
   |some af=>simp only [hf] at hr⊢;exact aGn ih (by omega) hr
end
mutual
def jZ (n:Nat):AV→Bool
 | .int .. | .bool .. | .str .. | .eH| .dP| .eQ| .cI| .nX=>true
 | .slice _ xs _=>iH n xs
 | .cQ l .. =>Nat.blt l n
 | .ptr l _| .yield l| .map l| .iter l=>Nat.blt l n
 | .agg cs=>iH n cs
 | .tuple vs=>iH n vs
 | .aG v _=>jZ n v
 | .func _ a b=>iH n a&&iH n b
 | .iface _ v=>jZ n v
def iH (n:Nat):List AV→Bool
 | []=>true
 |x::xs=>jZ n x&&iH n xs
end
mutual
def kN (n:Nat):AV→Bool
 | .int .. | .bool .. | .str .. | .eH| .dP| .eQ| .cI| .nX| .cQ .. | .ptr .. | .yield _| .map _| .iter _=>true
 | .slice _ xs o=>(match o with| .tok t=>Nat.blt t n|_=>true)&&hZ n xs
 | .agg cs=>hZ n cs
 | .tuple vs=>hZ n vs
 | .aG v _=>kN n v
 | .func _ a b=>hZ n a&&hZ n b
 | .iface _ v=>kN n v
def hZ (n:Nat):List AV→Bool
 | []=>true
 |x::xs=>kN n x&&hZ n xs
end
mutual
theorem aDK (n:Nat): ∀v:AV,pA v=false→jZ n v=true
 | .int ..,_| .bool ..,_| .str ..,_| .eH,_| .dP,_| .eQ,_| .cI,_| .nX,_=>rfl
 | .slice _ xs _,h=>rF n xs (by simpa [pA] using h)
 | .cQ ..,h| .ptr ..,h| .yield _,h| .map _,h| .iter _,h=>by simp [pA] at h
 | .agg cs,h=>rF n cs (by simpa [pA] using h)
 | .tuple vs,h=>rF n vs (by simpa [pA] using h)
 | .aG v _,h=>aDK n v (by simpa [pA] using h)
 | .func _ a b,h=>by
  simp only [pA,Bool.or_eq_false_iff] at h;simp [jZ,rF n a h.1,rF n b h.2]
 | .iface _ v,h=>aDK n v (by simpa [pA] using h)
theorem rF (n:Nat): ∀xs:List AV,jX xs=false→iH n xs=true
 | [],_=>rfl
 |x::xs,h=>by
  simp only [jX,Bool.or_eq_false_iff] at h;simp [iH,aDK n x h.1,rF n xs h.2]
end
mutual
theorem aDU (n:Nat): ∀v:AV,toks v=false→kN n v=true
 | .int ..,_| .bool ..,_| .str ..,_| .eH,_| .dP,_| .eQ,_| .cI,_| .nX,_| .cQ ..,_| .ptr ..,_| .yield _,_| .map _,_| .iter _,_=>rfl
 | .slice _ xs o,h=>by
  cases o with
  |tok t=>simp [toks] at h
  |no=>simpa [kN] using mO n xs (by simpa [toks] using h)
  |full=>simpa [kN] using mO n xs (by simpa [toks] using h)
 | .agg cs,h=>mO n cs (by simpa [toks] using h)
 | .tuple vs,h=>mO n vs (by simpa [toks] using h)
 | .aG v _,h=>aDU n v (by simpa [toks] using h)
 | .func _ a b,h=>by
  simp only [toks,Bool.or_eq_false_iff] at h;simp [kN,mO n a h.1,mO n b h.2]
 | .iface _ v,h=>aDU n v (by simpa [toks] using h)
theorem mO (n:Nat): ∀xs:List AV,lV xs=false→hZ n xs=true
 | [],_=>rfl
 |x::xs,h=>by
  simp only [lV,Bool.or_eq_false_iff] at h;simp [hZ,aDU n x h.1,mO n xs h.2]
end
def aFM(n:Nat):dG→Prop
 | .cells cs _=>iH n cs=true
 | .map es=> ∀p∈es,jZ n p.1=true∧jZ n p.2=true
 | .loop lp=>(∀i,jZ n (lp.env i)=true)∧lp.dq<n
 |_=>True
def aFV(n:Nat):dG→Prop
 | .cells cs _=>hZ n cs=true
 | .map es=> ∀p∈es,kN n p.1=true∧kN n p.2=true
 | .loop lp=> ∀i,kN n (lp.env i)=true
 |_=>True
structure Low(s s':ASt):Prop where
 aDC:s.blks.length≤s'.blks.length
 aDq:s.toks.length≤s'.toks.length
 B: ∀n,n≤s.blks.length→cW n s'.lowB=false→cW n s.lowB=false∧ ∀l k',l<n→s'.blks[l]?=some k'→ ∀k,s.blks[l]?=some k→aFM n k→aFM n k'
 T: ∀n,n≤s.blks.length→cW n s'.lowT=false→cW n s.lowT=false∧ ∀m l k',l<n→s'.blks[l]?=some k'→ ∀k,s.blks[l]?=some k→aFV m k→aFV m k'
theorem Low.refl(s:ASt):Low s s:=⟨Nat.le_refl _,Nat.le_refl _,fun _ _ h=>⟨h,fun _ _ _ h1 _ h2 h=>by rw [h1] at h2;cases h2;exact h⟩,fun _ _ h=>⟨h,fun _ _ _ _ h1 _ h2 h=>by rw [h1] at h2;cases h2;exact h⟩⟩
theorem Low.trans{a b c:ASt}(h:Low a b)(k:Low b c):Low a c where
 aDC:=Nat.le_trans h.aDC k.aDC
 aDq:=Nat.le_trans h.aDq k.aDq
 B:=fun n hn hl=>by
  obtain⟨h1,h2⟩:=k.B n (Nat.le_trans hn h.aDC) hl;obtain⟨h3,h4⟩:=h.B n hn h1;refine⟨h3,fun l k' hl hk' k0 hk0 hb=> ?_⟩;have hlb:l<b.blks.length:=Nat.lt_of_lt_of_le (Nat.lt_of_lt_of_le hl hn) h.aDC;exact h2 l k' hl hk' _ (List.getElem?_eq_getElem hlb) (h4 l _ hl (List.getElem?_eq_getElem hlb) k0 hk0 hb)
 T:=fun n hn hl=>by
  obtain⟨h1,h2⟩:=k.T n (Nat.le_trans hn h.aDC) hl;obtain⟨h3,h4⟩:=h.T n hn h1;refine⟨h3,fun m l k' hl hk' k0 hk0 hb=> ?_⟩;have hlb:l<b.blks.length:=Nat.lt_of_lt_of_le (Nat.lt_of_lt_of_le hl hn) h.aDC;exact h2 m l k' hl hk' _ (List.getElem?_eq_getElem hlb) (h4 m l _ hl (List.getElem?_eq_getElem hlb) k0 hk0 hb)
theorem Low.append{s:ASt}(ks:List dG)(ts:List Nat):Low s {s with blks:=s.blks++ks,toks:=s.toks++ts} where
 aDC:=by simp
 aDq:=by simp
 B:=fun n hn hl=>⟨hl,fun l k' h1 h2 k h3 h=>by rw [List.getElem?_append_left (by omega),h3] at h2;cases h2;exact h⟩
 T:=fun n hn hl=>⟨hl,fun m l k' h1 h2 k h3 h=>by rw [List.getElem?_append_left (by omega),h3] at h2;cases h2;exact h⟩
theorem Low.set{s:ASt}{l:Nat}{k1 k2:dG}(h:s.blks[l]?=some k1)(hB: ∀n,aFM n k1→aFM n k2)(hT: ∀n,aFV n k1→aFV n k2):Low s {s with blks:=s.blks.set l k2} where
 aDC:=by simp
 aDq:=Nat.le_refl _
 B:=fun n hn hl=>⟨hl,fun j k' h1 h2 k h3 hb=>by
  by_cases q:l=j
  ·subst q;rw [h] at h3;cases h3;have hlt:l<s.blks.length:=(List.getElem?_eq_some_iff.1 h).1;rw [List.getElem?_set_self hlt] at h2;cases h2;exact hB _ hb
  ·rw [List.getElem?_set_ne q,h3] at h2;cases h2;exact hb⟩
 T:=fun n hn hl=>⟨hl,fun m j k' h1 h2 k h3 hb=>by
  by_cases q:l=j
  ·subst q;rw [h] at h3;cases h3;have hlt:l<s.blks.length:=(List.getElem?_eq_some_iff.1 h).1;rw [List.getElem?_set_self hlt] at h2;cases h2;exact hT _ hb
  ·rw [List.getElem?_set_ne q,h3] at h2;cases h2;exact hb⟩
theorem aKF{b:Bool}{l n:Nat}{o:Option Nat}(h:cW n (low b l o)=false):cW n o=false∧(l<n→b=false):=by
 unfold low at h;cases o with
 |none=>
  cases b with
  |true=>simp [cW] at h;exact⟨rfl,fun q=>by omega⟩
  |false=>exact⟨rfl,fun _=>rfl⟩
 |some m=>
  cases b with
  |true=>simp [cW] at h⊢;omega
  |false=>exact⟨h,fun _=>rfl⟩
theorem Low.mM{s:ASt}{l:Nat}{k1 k2:dG}{cs:List AV}(h:s.blks[l]?=some k1)(hB: ∀n,iH n cs=true→aFM n k1→aFM n k2)(hT: ∀n,hZ n cs=true→aFV n k1→aFV n k2):
  Low s (Fw.mM s l cs (s.blks.set l k2)) where
 aDC:=by simp [Fw.mM]
 aDq:=Nat.le_refl _
 B:=fun n hn hl=>by
  obtain⟨h1,h2⟩:=aKF hl;refine⟨h1,fun j k' hj hk' k hk hb=> ?_⟩;simp only [Fw.mM] at hk';by_cases q:l=j
  ·subst q;rw [h] at hk;cases hk;have hlt:l<s.blks.length:=(List.getElem?_eq_some_iff.1 h).1;rw [List.getElem?_set_self hlt] at hk';cases hk';exact hB _ (rF _ _ (h2 hj)) hb
  ·rw [List.getElem?_set_ne q,hk] at hk';cases hk';exact hb
 T:=fun n hn hl=>by
  obtain⟨h1,h2⟩:=aKF hl;refine⟨h1,fun m j k' hj hk' k hk hb=> ?_⟩;simp only [Fw.mM] at hk';by_cases q:l=j
  ·subst q;rw [h] at hk;cases hk;have hlt:l<s.blks.length:=(List.getElem?_eq_some_iff.1 h).1;rw [List.getElem?_set_self hlt] at hk';cases hk';exact hT _ (mO _ _ (h2 hj)) hb
  ·rw [List.getElem?_set_ne q,hk] at hk';cases hk';exact hb
theorem wL{n:Nat}: ∀{xs ys:List AV},iH n (xs++ys)=(iH n xs&&iH n ys)
 | [],ys=>by simp [iH]
 |x::xs,ys=>by simp [iH,wL (xs:=xs),Bool.and_assoc]
theorem xD{n:Nat}: ∀{xs ys:List AV},hZ n (xs++ys)=(hZ n xs&&hZ n ys)
 | [],ys=>by simp [hZ]
 |x::xs,ys=>by simp [hZ,xD (xs:=xs),Bool.and_assoc]
theorem aGt{n:Nat}{xs ys:List AV}(h: ∀x∈ys,x∈xs)(k:iH n xs=true):iH n ys=true:=by
 have h1: ∀{l:List AV},iH n l=true↔ ∀x∈l,jZ n x=true:=by
  intro l;induction l with
  |nil=>simp [iH]
  |cons a l ih=>simp [iH,ih]
 rw [h1] at*;exact fun x hx=>k x (h x hx)
theorem aGa{n:Nat}{xs ys:List AV}(h: ∀x∈ys,x∈xs)(k:hZ n xs=true):hZ n ys=true:=by
 have h1: ∀{l:List AV},hZ n l=true↔ ∀x∈l,kN n x=true:=by
  intro l;induction l with
  |nil=>simp [hZ]
  |cons a l ih=>simp [hZ,ih]
 rw [h1] at*;exact fun x hx=>k x (h x hx)
theorem wS{n:Nat}{cs ds:List AV}{off:Nat}(h:iH n cs=true)(k:iH n ds=true):iH n (gK cs off ds)=true:=by
 unfold gK;rw [wL,wL,Bool.and_eq_true,Bool.and_eq_true];exact⟨⟨aGt (fun x hx=>List.mem_of_mem_take hx) h,k⟩,aGt (fun x hx=>List.mem_of_mem_drop hx) h⟩
theorem wR{n:Nat}{cs ds:List AV}{off:Nat}(h:hZ n cs=true)(k:hZ n ds=true):hZ n (gK cs off ds)=true:=by
 unfold gK;rw [xD,xD,Bool.and_eq_true,Bool.and_eq_true];exact⟨⟨aGa (fun x hx=>List.mem_of_mem_take hx) h,k⟩,aGa (fun x hx=>List.mem_of_mem_drop hx) h⟩
theorem aEF{k v:AV}: ∀{es es':List (AV×AV)},aEH k v es=some es'→ ∀p∈es',p=(k,v)∨p∈es
 | [],es',h=>by simp [aEH] at h;subst h;simp
 |(a,u)::rest,es',h=>by
  simp only [aEH] at h;split at h
  ·cases h;intro p hp;rcases List.mem_cons.1 hp with rfl|hp
   ·exact .inl rfl
   ·exact .inr (by simp [hp])
  ·split at h
   ·rename_i r hr;cases h;intro p hp;rcases List.mem_cons.1 hp with rfl|hp
    ·exact .inr (by simp)
    ·rcases aEF hr p hp with q|q
     ·exact .inl q
     ·exact .inr (by simp [q])
   ·cases h
  ·cases h
theorem aGe{kk:KK}{k:AV}(h:keyOf kk k=true)(n:Nat):jZ n k=true∧kN n k=true:=by
 cases kk<;>cases k<;>simp [keyOf] at h<;>exact⟨rfl,rfl⟩
section
variable {P : bA} {e : Env} {s s1 : ASt} {v : AV}
theorem aPf{op:AOp}(h:eX P e s op=some (v,s1)):Low s s1:=by
 cases op with
 |box x=>
  simp only [eX] at h;split at h
  ·cases h;simpa using Low.append (s:=s) [_] []
  ·cases h
 |alloc z=>simp only [eX] at h;cases h;simpa using Low.append (s:=s) [_] []
 |store sz a x=>
  simp only [eX] at h;split at h
  ·split at h
   ·rename_i l off _ cs hb;split at h
    ·cases h;exact Low.mM hb (fun n h1 h2=>wS h2 h1) (fun n h1 h2=>wR h2 h1)
    ·cases h
   ·cases h
  ·cases h
 |mkMap=>simp only [eX] at h;cases h;simpa using Low.append (s:=s) [_] []
 |mkSlice esz bytes z l c=>
  simp only [eX] at h;split at h
  ·split at h
   ·cases h;simpa using Low.append (s:=s) [_] []
   ·cases h
  ·cases h
 |mC kk m k x=>
  simp only [eX] at h;split at h
  ·split at h
   ·rename_i l xv _ hx es hb;split at h
    ·rename_i hkey;split at h
     ·rename_i es' hp;cases h;refine Low.mM hb (fun n h1 h2=> ?_) (fun n h1 h2=> ?_)
      ·intro p hp';rcases aEF hp p hp' with q|q
       ·rw [q];exact⟨(aGe hkey n).1,by simpa [iH] using h1⟩
       ·exact h2 p q
      ·intro p hp';rcases aEF hp p hp' with q|q
       ·rw [q];exact⟨(aGe hkey n).2,by simpa [hZ] using h1⟩
       ·exact h2 p q
     ·cases h
    ·cases h
   ·cases h
  ·cases h
 |n4 x=>
  simp only [eX] at h;split at h
  ·cases h;simpa using Low.append (s:=s) [_] []
  ·cases h
 |oG it=>
  simp only [eX] at h;split at h
  ·split at h
   ·rename_i l _ t pos hb;split at h
    ·cases h;exact Low.set hb (fun _ _=>trivial) (fun _ _=>trivial)
    ·cases h;exact .refl _
   ·cases h
  ·cases h
 |append tk esz bytes a x=>
  simp only [eX] at h;split at h
  ·cases h
  split at h
  ·split at h
   ·cases h;exact .refl _
   ·cases h;exact .refl _
   ·cases h
  ·split at h
   ·split at h
    ·split at h
     ·cases h;simpa using Low.append (s:=s) [] [_]
     ·split at h
      ·split at h
       ·cases h;exact⟨Nat.le_refl _,by simp,(Low.refl s).B,(Low.refl s).T⟩
       ·cases h
      ·cases h
     ·cases h
    ·cases h
   ·split at h
    ·split at h
     ·split at h
      ·rename_i hb;split at h
       ·cases h;exact Low.mM hb (fun n h1 h2=>wS h2 h1) (fun n h1 h2=>wR h2 h1)
       ·cases h
      ·cases h
     ·split at h
      ·cases h;simpa using Low.append (s:=s) [] [_]
      ·cases h
    ·cases h
   ·cases h
  ·cases h
 |copy esz d x=>
  simp only [eX] at h;split at h
  ·split at h
   ·rename_i hb;split at h
    ·cases h;exact Low.mM hb (fun n h1 h2=>wS h2 h1) (fun n h1 h2=>wR h2 h1)
    ·cases h
   ·cases h
  ·cases h
 |_=>simp [eX] at h
theorem aIK{a a':AV}(h:aFO s a=some (a',s1)):Low s s1:=by
 unfold aFO at h;split at h
 ·split at h
  ·rename_i hb;cases h;exact Low.set hb (fun _ h=>h) (fun _ h=>h)
  ·cases h
 ·split at h
  ·cases h;exact .refl _
  ·cases h
theorem z6: ∀{a_ as':List AV}{s s1:ASt},tH s a_=some (as',s1)→Low s s1
 | [],as',s,s1,h=>by simp [tH] at h;rw [←h.2];exact .refl _
 |a::a_,as',s,s1,h=>by
  simp only [tH] at h;split at h
  ·cases h
  ·rename_i y s2 hy;split at h
   ·cases h
   ·rename_i ys s3 hys;cases h;exact(aIK hy).trans (z6 hys)
structure aRu(H:Handler):Prop where
 call: ∀g args s r s',H.call g args s=some (r,s')→Low s s'
 dcall: ∀f args m s m' s',H.dcall f args m s=some (m',s')→Low s s'
variable {H : Handler} (hH : aRu H)
def aWm:rP→ASt
 | .norm _ s=>s
 | .pan _ _ s=>s
include hH in
theorem kX: ∀{is:List AI}{pd:List (Nat×Nat)}{fr:Fr}{s:ASt}{r:rP},bS H P is pd fr s=some r→Low s (aWm r)
 | [],pd,fr,s,r,h=>by simp [bS] at h;subst h;exact .refl _
 |i::rest,pd,fr,s,r,h=>by
  obtain⟨d,op,gd,pre⟩:=i;simp only [bS] at h;split at h
  ·cases h
  ·exact kX h
  ·cases op with
   |pend z=>simp only at h;split at h<;>first|exact kX h|cases h
   |shut d' sz x=>
    simp only at h;split at h
    ·split at h
     ·exact kX h
     ·cases h
    ·cases h
   |defer f args=>simp only at h;split at h<;>first|exact kX h|cases h
   |panic x=>simp only at h;split at h<;>cases h;exact .refl _
   |aN st f args=>
    simp only at h;split at h
    ·split at h
     ·split at h
      ·split at h
       ·exact kX h
       ·cases h
      ·cases h
     ·cases h
    ·cases h
   |call f args=>
    simp only at h;split at h
    ·rename_i hvs;split at h
     ·rename_i hc;exact((z6 hvs).trans (hH.call _ _ _ _ _ hc)).trans (kX h)
     ·rename_i hc;cases h;exact(z6 hvs).trans (hH.call _ _ _ _ _ hc)
     ·cases h
    ·cases h
   |_=>
    simp only at h;split at h
    ·exact kX h
    ·split at h
     ·exact kX h
     ·split at h
      ·rename_i hw;exact(aPf hw).trans (kX h)
      ·cases h
theorem aCY{rd:Option Nat}{ps:List Nat}{a_ bd:AC}{fr:Fr}{l:Nat}{mk:List jI}(h:sL rd ps a_ bd fr s=some (l,mk,s1)):Low s s1:=by
 unfold sL at h;split at h
 ·cases h;simpa using Low.append (s:=s) [_,_] []
 ·split at h
  ·cases h;simpa using Low.append (s:=s) [_] []
  ·cases h
theorem aGo{step:Fr→ASt→Option CR}(hs: ∀fr s r,step fr s=some r→Low s r.s): ∀{n:Nat}{fr:Fr}{s:ASt}{r:CR},oQ step n fr s=some r→Low s r.s
 |0,_,_,_,h=>by simp [oQ] at h
 |n+1,fr,s,r,h=>by
  simp only [oQ] at h;split at h
  ·rename_i r1 h1;split at h
   ·exact(hs _ _ _ h1).trans (aGo hs h)
   ·cases h;exact hs _ _ _ h1
  ·cases h
include hH in
theorem zW{lf:Nat}{rd:Option Nat}: ∀(c:AC){fr:Fr}{s:ASt}{r:CR},evC H P rd lf c fr s=some r→Low s r.s:=by
 intro c
 induction c with
 |skip=>intro fr s r h;simp only [evC,Option.some.injEq] at h;subst h;exact .refl _
 |ret=>intro fr s r h;simp only [evC,Option.some.injEq] at h;subst h;exact .refl _
 |exit id=>intro fr s r h;simp only [evC,Option.some.injEq] at h;subst h;exact .refl _
 |scope b ih=>intro fr s r h;simp only [evC] at h;exact ih h
 |reg dr ops=>
  intro fr s r h;simp only [evC] at h;split at h
  ·rename_i ho;cases h;exact kX hH ho
  ·rename_i ho;cases h;exact kX hH ho
  ·cases h
 |seq a b iha ihb=>
  intro fr s r h;simp only [evC] at h;split at h
  ·rename_i r1 h1;split at h
   ·exact(iha h1).trans (ihb h)
   ·cases h;exact iha h1
  ·cases h
 |cond c t e iht ihe=>
  intro fr s r h;simp only [evC] at h;split at h
  ·split at h
   ·exact iht h
   ·exact ihe h
  ·cases h
 |block id b ih=>
  intro fr s r h;simp only [evC] at h;split at h
  ·rename_i r1 h1;split at h
   ·have hl:=ih h1;split at h<;>cases h<;>exact hl
   ·cases h;exact ih h1
  ·cases h
 |loop b ih=>intro fr s r h;simp only [evC] at h;exact aGo (fun _ _ _ h=>ih h) h
 |nU f ps a_ bd iha ihb=>
  intro fr s r h;simp only [evC] at h;split at h
  ·rename_i hl _;split at h
   ·rename_i hc;split at h
    ·rename_i lp hlp;split at h
     ·cases h
     ·cases h;exact((aCY hl).trans (hH.call _ _ _ _ _ hc)).trans (Low.set hlp (fun _ h=>h) (fun _ h=>h))
    ·cases h
   ·rename_i hc;cases h;exact(aCY hl).trans (hH.call _ _ _ _ _ hc)
   ·cases h
  ·cases h
theorem aC4{l:Nat}{f:xR→xR}(hf: ∀lp,(f lp).env=lp.env∧(f lp).dq=lp.dq)(h:eR s l f=some s1):Low s s1:=by
 unfold eR at h;split at h
 ·rename_i lp hlp;cases h;refine Low.set hlp (fun n h=> ?_) (fun n h=> ?_)
  ·simp only [aFM,(hf lp).1,(hf lp).2] at h⊢;exact h
  ·simp only [aFV,(hf lp).1] at h⊢;exact h
 ·cases h
theorem aHo{l:Nat}(h:j6 s l=some s1):Low s s1:=by
 unfold j6 at h;split at h
 ·rename_i lp hlp;split at h
  ·cases h;exact Low.set hlp (fun _ h=>h) (fun _ h=>h)
  ·cases h
 ·cases h
include hH in
theorem aLD{lf l:Nat}{args:List AV}{r:kO}{s':ASt}(h:p7 H P lf l args s=some (r,s')):Low s s':=by
 unfold p7 at h;split at h
 ·split at h
  ·split at h
   ·rename_i e1 s1 h1;split at h
    ·rename_i s2 h2;split at h
     ·rename_i ex _ s3 h3;have h12:=((zW hH _ h1).trans (aHo h2)).trans (zW hH _ h3);split at h
      ·cases h;exact h12
      ·split at h
       ·rename_i h4;cases h;exact h12.trans (aC4 (f:=fun lp=>{lp with st:= .ready,pend:=none}) (fun _=>⟨rfl,rfl⟩) h4)
       ·cases h
      ·split at h
       ·rename_i h4;cases h;exact h12.trans (aC4 (f:=fun lp=>{lp with st:= .done,pend:=some ex}) (fun _=>⟨rfl,rfl⟩) h4)
       ·cases h
     ·cases h
    ·cases h
   ·cases h
  ·cases h
 ·cases h
include hH in
theorem sW: ∀{ds:List jI}{m m':DM}{s s':ASt},iX H ds m s=some (m',s')→Low s s'
 | [],m,m',s,s',h=>by simp [iX] at h;rw [←h.2];exact .refl _
 | .mark l::ds,m,m',s,s',h=>by
  simp only [iX] at h;split at h
  ·rename_i hl;exact(Low.set (s:=s) (k2:= .dead) hl (fun _ _=>trivial) (fun _ _=>trivial)).trans (sW h)
  ·cases h
 | .call f args::ds,m,m',s,s',h=>by
  simp only [iX] at h;split at h
  ·rename_i hc;exact(hH.dcall _ _ _ _ _ _ hc).trans (sW h)
  ·cases h
theorem aD6{vs:List AV}(h:pT s vs=some (v,s1)):Low s s1:=by
 unfold pT at h;split at h
 ·cases h;exact .refl _
 ·exact aIK h
 ·split at h
  ·rename_i hf;cases h;exact z6 hf
  ·cases h
theorem aCI{n:Nat}{a b:Option Nat}(h:cW n (aDY a b)=false):cW n a=false∧cW n b=false:=by
 cases a<;>cases b<;>simp [aDY,cW] at h⊢ <;>omega
theorem aDP{n m:Nat}{a:Option Nat}(hn:n≤m)(h:cW m a=false):cW n a=false:=by
 cases a<;>simp [cW] at h⊢;omega
theorem aBT{n m:Nat}{a b:Option Nat}(hn:n≤m)(h:cW n (z1 m a b)=false):cW n a=false∧cW n b=false:=by
 unfold z1 at h;split at h
 ·exact aCI h
 ·rename_i hb;exact⟨h,aDP hn hb⟩
theorem Low.dS{s s':ASt}{d:Bool}(h:Low (aU s) s'):s.blks.length≤(dS s d s').blks.length∧(dS s d s').toks=s'.toks∧(dS s d s').lowT=s'.lowT∧
  (∀l,l<s.blks.length→(dS s d s').blks[l]?=s'.blks[l]?)∧ ∀n,n≤s.blks.length→cW n (dS s d s').lowB=false→cW n s.lowB=false∧cW n s'.lowB=false:=by
 have hlen:s.blks.length≤s'.blks.length:=h.aDC;unfold Fw.dS;split
 ·exact⟨hlen,rfl,rfl,fun _ _=>rfl,fun n hn hl=>aBT hn hl⟩
 ·split
  ·exact⟨hlen,rfl,rfl,fun _ _=>rfl,fun n hn hl=>aCI hl⟩
  ·rename_i hd;simp only [Bool.or_eq_false_iff] at hd;refine⟨by simp [hlen],rfl,rfl,fun l hl=> ?_,fun n hn hl=>⟨hl,aDP hn hd.1⟩⟩;simp only;rw [List.getElem?_take_of_lt hl]
theorem aOe{s s':ASt}{d:Bool}(hlen:s.toks.length≤s'.toks.length):s.toks.length≤(fL s d s').toks.length∧(fL s d s').blks=s'.blks∧(fL s d s').lowB=s'.lowB∧
  ∀n,n≤s.blks.length→cW n (fL s d s').lowT=false→cW n s.lowT=false∧cW n s'.lowT=false:=by
 unfold Fw.fL;split
 ·exact⟨hlen,rfl,rfl,fun n hn hl=>aBT hn hl⟩
 ·split
  ·rename_i hc;simp only [aDs,Bool.and_eq_true,Bool.not_eq_true',Bool.or_eq_false_iff] at hc;exact⟨by simp [hlen],rfl,rfl,fun n hn hl=>⟨hl,aDP hn hc.2.1⟩⟩
  ·exact⟨hlen,rfl,rfl,fun n hn hl=>aCI hl⟩
theorem Low.aNr{s s' s'':ASt}(h:Low (aU s) s')(h1:s.blks.length≤s''.blks.length)(h2:s.toks.length≤s''.toks.length)(h3: ∀l,l<s.blks.length→s''.blks[l]?=s'.blks[l]?)
(hB: ∀n,n≤s.blks.length→cW n s''.lowB=false→cW n s.lowB=false∧cW n s'.lowB=false)(hT: ∀n,n≤s.blks.length→cW n s''.lowT=false→cW n s.lowT=false∧cW n s'.lowT=false):Low s s'' where
 aDC:=h1
 aDq:=h2
 B:=fun n hn hl=>by
  obtain⟨k1,k2⟩:=hB n hn hl;exact⟨k1,fun l k' hl' hk' k hk hb=>(h.B n hn k2).2 l k' hl' (by rw [←h3 l (by omega)];exact hk') k hk hb⟩
 T:=fun n hn hl=>by
  obtain⟨k1,k2⟩:=hT n hn hl;exact⟨k1,fun m l k' hl' hk' k hk hb=>(h.T n hn k2).2 m l k' hl' (by rw [←h3 l (by omega)];exact hk') k hk hb⟩
theorem Low.aAO{s s':ASt}{d d':Bool}(h:Low (aU s) s'):Low s (fL s d' (Fw.dS s d s')):=by
 obtain⟨a1,a2,a3,a4,a5⟩:=Low.dS (d:=d) h;have hlen:s.toks.length≤(Fw.dS s d s').toks.length:=by rw [a2];exact h.aDq
 obtain⟨b1,b2,b3,b4⟩:=aOe (d:=d') hlen;refine h.aNr (by rw [b2];exact a1) b1 (fun l hl=>by rw [b2];exact a4 l hl) (fun n hn hl=> ?_) (fun n hn hl=> ?_)
 ·rw [b3] at hl;exact a5 n hn hl
 ·obtain⟨k1,k2⟩:=b4 n hn hl;rw [a3] at k2;exact⟨k1,k2⟩
theorem aLZ{s s' s'':ASt}{v v':AV}(h:Low (aU s) s')(hs:settle s v s'=(v',s'')):Low s s'':=by
 unfold settle at hs;split at hs
 ·rename_i sz xs t;split at hs
  ·cases hs;exact h.aAO
  ·split at hs
   ·rename_i n hc hn;split at hs
    ·cases hs;obtain⟨a1,a2,a3,a4,a5⟩:=Low.dS (d:=jX xs) h;simp only [aDs,Bool.and_eq_true,Bool.not_eq_true',Bool.or_eq_false_iff] at hc;refine h.aNr a1 (by have:=h.aDq;simp [aU] at this;simp;omega) a4 a5 fun n hn hl=>⟨hl,?_⟩
     rw [←a3];exact aDP hn hc.2.1
    ·cases hs;exact h.aAO
   ·cases hs;exact h.aAO
 ·cases hs;exact h.aAO
include hH in
theorem aPK{lf:Nat}{f:AF}{args:List AV}{r:kO}{s':ASt}(h:aBI H P lf f args s=some (r,s')):Low s s':=by
 unfold aBI at h;split at h
 ·cases h
 split at h
 ·rename_i ex fr s1 he;have h1:=zW hH _ he;split at h
  ·split at h
   ·rename_i hd;cases h;exact(h1.trans (sW hH hd)).aAO
   ·rename_i s2 hd;split at h
    ·split at h
     ·rename_i v s3 hv;split at h;rename_i v' s4 hs;cases h;exact aLZ ((h1.trans (sW hH hd)).trans (aD6 hv)) hs
     ·cases h
    ·cases h
   ·cases h
  ·cases h
 ·cases h
theorem wW: ∀{ops:List AI}{fr fr':Fr}{rc rc':RC}{s s':ASt},tJ P ops fr rc s=some (fr',rc',s')→s'=s
 | [],fr,fr',rc,rc',s,s',h=>by simp [tJ] at h;exact h.2.2.symm
 |i::rest,fr,fr',rc,rc',s,s',h=>by
  simp only [tJ] at h;split at h
  ·split at h
   ·exact wW h
   ·exact wW h
  ·split at h
   ·exact wW h
   ·cases h
include hH in
theorem aNm{lf:Nat}: ∀(c:AC){fr:Fr}{rc:RC}{s:ASt}{r:dO×Fr×RC×ASt},evD H P lf c fr rc s=some r→Low s r.2.2.2:=by
 intro c
 induction c with
 |reg dr ops=>
  intro fr rc s r h;simp only [evD] at h;split at h
  ·split at h
   ·rename_i ho;cases h;rw [wW ho];exact .refl _
   ·cases h
  ·split at h
   ·rename_i r1 h1;cases h;exact zW hH _ h1
   ·cases h
 |seq a b iha ihb=>
  intro fr rc s r h;simp only [evD] at h;split at h
  ·rename_i h1;exact(iha h1).trans (ihb h)
  ·exact iha h
 |cond c t e iht ihe=>
  intro fr rc s r h;simp only [evD] at h;split at h
  ·split at h
   ·exact iht h
   ·exact ihe h
  ·cases h
 |_=>
  intro fr rc s r h;simp only [evD] at h;split at h
  ·rename_i r1 h1;cases h;exact zW hH _ h1
  ·cases h
include hH in
theorem aP7{lf:Nat}{f:AF}{args:List AV}{m m':DM}{s':ASt}(h:aDD H P lf f args m s=some (m',s')):Low s s':=by
 unfold aDD at h;split at h
 ·cases h
 split at h
 ·rename_i he;have h1:=aNm hH _ he;split at h
  ·split at h
   ·split at h
    ·cases h;exact h1.aAO
    ·cases h;exact h1.aAO
   ·cases h
  ·cases h
 ·cases h
theorem aCn(hp: ∀f p,P.prim f=some p→ ∀args s r s',p args s=some (r,s')→Low s s'): ∀n,aRu (cU P n)
 |0=>⟨fun _ _ _ _ _ h=>by simp [cU] at h,fun _ _ _ _ _ _ h=>by simp [cU] at h⟩
 |n+1=>by
  have ih:=aCn hp n;refine⟨fun g args s r s' h=> ?_,fun f args m s m' s' h=> ?_⟩
  ·simp only [cU] at h;split at h
   ·split at h
    ·rename_i hq;exact hp _ _ hq _ _ _ _ h
    ·split at h
     ·exact aPK ih h
     ·cases h
   ·exact aLD ih h
  ·simp only [cU] at h;split at h
   ·exact aP7 ih h
   ·cases h
end
abbrev Str:=List UInt8
def slA(sz:Nat)(xs:List AV):AV:= .slice (szC sz xs) xs .no
theorem aTA(sz:Nat)(xs:List AV):szC sz xs=sz∨xs= []:=by cases xs with|nil=>exact .inr rfl|cons=>exact .inl rfl
structure Ext(L T:List Nat)(s0 s:ASt):Prop where
 bl:s0.blks.length≤s.blks.length
 b: ∀i,i<s0.blks.length→i∉L→s.blks[i]?=s0.blks[i]?
 tl:s0.toks.length≤s.toks.length
 t: ∀i,i<s0.toks.length→i∉T→s.toks[i]?=s0.toks[i]?
theorem Ext.refl(L T:List Nat)(s:ASt):Ext L T s s:=⟨Nat.le_refl _,fun _ _ _=>rfl,Nat.le_refl _,fun _ _ _=>rfl⟩
theorem Ext.clean(L T:List Nat)(s:ASt):Ext L T s (aU s):=⟨Nat.le_refl _,fun _ _ _=>rfl,Nat.le_refl _,fun _ _ _=>rfl⟩
theorem qS{s0 s:ASt}{d:Bool}(i:Nat)(hi:i<s0.blks.length):(dS s0 d s).blks[i]?=s.blks[i]?:=by
 unfold dS;split
 ·rfl
 ·split
  ·rfl
  ·simp [List.getElem?_take,hi]
theorem aCc{s0 s:ASt}{d:Bool}(h:s0.blks.length≤s.blks.length):s0.blks.length≤(dS s0 d s).blks.length:=by
 unfold dS;split
 ·exact h
 ·split
  ·exact h
  ·simp [List.length_take];omega
theorem xE{s0 s:ASt}{d:Bool}:(dS s0 d s).toks=s.toks:=by
 unfold dS;split
 ·rfl
 ·split<;>rfl
theorem oL{s0 s:ASt}{d:Bool}:(fL s0 d s).blks=s.blks:=by
 unfold fL;split
 ·rfl
 ·split<;>rfl
theorem aGx{s0 s:ASt}{d:Bool}(i:Nat)(hi:i<s0.toks.length):(fL s0 d s).toks[i]?=s.toks[i]?:=by
 unfold fL;split
 ·rfl
 ·split
  ·simp [List.getElem?_take,hi]
  ·rfl
theorem aOq{s0 s:ASt}{d:Bool}(h:s0.toks.length≤s.toks.length):s0.toks.length≤(fL s0 d s).toks.length:=by
 unfold fL;split
 ·exact h
 ·split
  ·simp [List.length_take];omega
  ·exact h
theorem Ext.aJH{L T:List Nat}{s0 s:ASt}(h:Ext L T s0 s)(d1 d2:Bool):Ext L T s0 (fL s0 d1 (dS s0 d2 s)):=by
 refine⟨?_,fun i hi hn=> ?_,aOq (by rw [xE];exact h.tl),fun i hi hn=> ?_⟩
 ·rw [oL];exact aCc h.bl
 ·rw [oL,qS i hi];exact h.b i hi hn
 ·rw [aGx i hi,xE];exact h.t i hi hn
theorem aL0{s0 s:ASt}(v:AV)(i:Nat)(hi:i<s0.blks.length):(settle s0 v s).2.blks[i]?=s.blks[i]?:=by
 unfold settle;split
 ·split
  ·rw [oL,qS i hi]
  ·split
   ·split
    ·exact qS i hi
    ·rw [oL,qS i hi]
   ·rw [oL,qS i hi]
 ·rw [oL,qS i hi]
theorem Ext.settle{L T:List Nat}{s0 s:ASt}(h:Ext L T s0 s)(v:AV):Ext L T s0 (settle s0 v s).2:=by
 unfold Fw.settle;split
 ·split
  ·exact h.aJH _ _
  ·split
   ·split
    ·refine⟨aCc h.bl,fun i hi hn=>(qS i hi).trans (h.b i hi hn),?_,fun i hi hn=> ?_⟩
     ·simp only [List.length_append,List.length_take];have:=h.tl;omega
     ·rw [List.getElem?_append_left (by simp only [List.length_take];have:=h.tl;omega)];simp only [List.getElem?_take,hi,if_true];exact h.t i hi hn
    ·exact h.aJH _ _
   ·exact h.aJH _ _
 ·exact h.aJH _ _
structure Fc(P:bA)(g:AFn)(args:List AV)(s:ASt)(Q:kO→ASt→Prop):Prop where
 ev:Ev (fun n=>(cU P n).call g args s) (fun r=>Q r.1 r.2)
theorem Fc.mono{P:bA}{g:AFn}{args:List AV}{s:ASt}{Q Q':kO→ASt→Prop}(h:Fc P g args s Q)(k: ∀r s,Q r s→Q' r s):Fc P g args s Q':=⟨h.ev.mono fun _ q=>k _ _ q⟩
def aK8(P:bA)(af:AF)(Q:AV→ASt→Prop)(e:Env)(s:ASt):Prop:= ∃vs v1 s3,kQ P e s af.res=some vs∧pT s vs=some (v1,s3)∧Q v1 s3
structure nQ(P:bA)(af:AF)(Q:AV→ASt→Prop)(ex:dO)(fr:Fr)(s:ASt):Prop where
 ex:aNE ex=true
 res: ∃s1,(∀H,iX H fr.ds .ret s=some (.ret,s1))∧aK8 P af Q fr.env s1
def VQ(v:AV)(X:ASt→Prop):AV→ASt→Prop:=fun v1 s3=>oM v1=some v∧(u9 v1=false→v1=v)∧X s3
abbrev PQ(s:ASt)(v:AV):AV→ASt→Prop:=VQ v (Ext [] [] s)
def bW(s:ASt)(v:AV):kO→ASt→Prop:=fun o s'=> ∃v0,o= .ret v0∧oM v0=some v∧(u9 v=false→v0=v)∧(∀n,n≤s.blks.length→cW n s.lowT=true→cW n s'.lowT=true)∧Ext [] [] s s'
theorem aNk{P:bA}{g:Nat}{af:AF}{args:List AV}{s:ASt}{Q0:AV→ASt→Prop}{Q:kO→ASt→Prop}(h0:P.prim g=none)(h:P.fn g=some af)(hn:Nat.ble args.length af.nt=true)
(hQ: ∀v1 s3,Q0 v1 s3→Q (.ret (settle s v1 s3).1) (settle s v1 s3).2)(k:Wk P none af.body ⟨hJ args,[]⟩ (aU s) (nQ P af Q0)):Fc P (.func g) args s Q:=by
 refine⟨Ev.succ ?_⟩;obtain⟨⟨ex,fr,s1⟩,N,⟨h1,s2,hd,vs,v1,s3,h4,h5,h6⟩,h3⟩:=k.ev.out;simp only at h1 h4 h5 hd;refine⟨((.ret (settle s v1 s3).1),(settle s v1 s3).2),N,hQ _ _ h6,fun n hn'=> ?_⟩;have e1:evC (cU P n) P none n af.body ⟨hJ args,[]⟩ (aU s)=some ⟨ex,fr,s1⟩:=h3 n hn';simp only [cU,h0,h,aBI,hn,e1];cases ex with
 |normal=>simp only [hd,h4,h5]
 |ret=>simp only [hd,h4,h5]
 |exit i=>cases h1
 |panic v=>cases h1
def aOE(v:AV)(X:ASt→Prop):dO→Fr→ASt→Prop:=fun ex fr s=>ex= .panic v∧ ∃s1,(∀H,iX H fr.ds (.pan v) s=some (.pan v,s1))∧X s1
theorem aPY{P:bA}{g:Nat}{af:AF}{args:List AV}{s:ASt}{v:AV}{X:ASt→Prop}{Q:kO→ASt→Prop}(h0:P.prim g=none)(h:P.fn g=some af)(hn:Nat.ble args.length af.nt=true)
(hQ: ∀s3,X s3→Q (.panic v) (fL s (toks v) (dS s (pA v) s3)))(k:Wk P none af.body ⟨hJ args,[]⟩ (aU s) (aOE v X)):Fc P (.func g) args s Q:=by
 refine⟨Ev.succ ?_⟩;obtain⟨⟨ex,fr,s1⟩,N,⟨h1,s2,hd,h6⟩,h3⟩:=k.ev.out;simp only at h1 hd;subst h1;refine⟨(.panic v,fL s (toks v) (dS s (pA v) s2)),N,hQ _ h6,fun n hn'=> ?_⟩;have e1:evC (cU P n) P none n af.body ⟨hJ args,[]⟩ (aU s)=some ⟨.panic v,fr,s1⟩:=h3 n hn';simp only [cU,h0,h,aBI,hn,e1,hd]
theorem Pf.cB{P:bA}{g:Nat}{args:List AV}{v:AV}(h:Fc P (.func g) args eB (bW eB v))(hp:dC v=true)(hc:aEO args):Pf P g args v:=
 ⟨h.ev.mono fun _ q=>by obtain⟨v0,h1,h2,_⟩:=q;exact⟨v0,h1,h2⟩,hp,hc⟩
inductive Sl(sz:Nat):AV→List AV→Prop
 |no (xs:List AV):Sl sz (slA sz xs) xs
 |own {z:Nat} {xs:List AV} {o:Own} (h:z=sz∨xs= []) (ho:o≠ .no):Sl sz (.slice z xs o) xs
theorem aQR{z sz:Nat}{xs:List AV}(h:z=sz∨xs= []):szC z xs=szC sz xs:=by
 rcases h with rfl|rfl<;>rfl
theorem Sl.j2{sz:Nat}{w:AV}{xs:List AV}(h:Sl sz w xs):j2 w=some (slA sz xs):=by
 cases h with
 |no=>rfl
 | @own z xs o h ho=>
  cases o with
  |no=>exact absurd rfl ho
  |full=>simp only [Fw.j2,aQR h];rfl
  |tok t=>simp only [Fw.j2,aQR h];rfl
theorem Sl.fix{sz:Nat}{w:AV}{xs:List AV}(h:Sl sz w xs):iK w=some (slA sz xs):=by
 have:=h.j2;cases h<;>exact this
theorem Sl.oM{sz:Nat}{w:AV}{xs:List AV}(h:Sl sz w xs):oM w=some (slA sz xs):=by
 have:=h.fix;cases h<;>exact this
theorem Sl.is{sz:Nat}{w:AV}{xs:List AV}(h:Sl sz w xs): ∃z o,w= .slice z xs o∧(z=sz∨xs= []):=by
 cases h with
 |no=>exact⟨_,_,rfl,aTA sz xs⟩
 |own h=>exact⟨_,_,rfl,h⟩
theorem Sl.elems{sz:Nat}{w:AV}{xs:List AV}(s:ASt)(h:Sl sz w xs):elems s sz w=some xs:=by
 obtain⟨z,o,rfl,rfl|rfl⟩:=h.is<;>simp [Fw.elems]
theorem Sl.iD{sz:Nat}{xs:List AV}{o:Own}(ho:o≠ .no):Sl sz (.slice sz xs o) xs:= .own (.inl rfl) ho
inductive Gr(tk:List Nat)(sz:Nat):AV→List AV→Prop
 |nil (z:Nat):Gr tk sz (.slice z [] .full) []
 |full (xs:List AV):Gr tk sz (.slice sz xs .full) xs
 |tok (xs:List AV) (t:Nat) (h:tk[t]?=some xs.length):Gr tk sz (.slice sz xs (.tok t)) xs
theorem Gr.sl{tk:List Nat}{sz:Nat}{w:AV}{xs:List AV}(h:Gr tk sz w xs):Sl sz w xs:=by
 cases h with
 |nil=>exact .own (.inr rfl) (by simp)
 |full=>exact .own (.inl rfl) (by simp)
 |tok=>exact .own (.inl rfl) (by simp)
def gG:AV→Option Nat
 | .slice _ _ (.tok t)=>some t
 |_=>none
structure St(L T:List Nat)(s0 s:ASt)(bs:List (Nat×dG))(gs:List (AV×Nat×List AV)):Prop where
 ext:Ext L T s0 s
 b: ∀p∈bs,s.blks[p.1]?=some p.2
 bL: ∀p∈bs,p.1∈L∨s0.blks.length≤p.1
 nd:(bs.map (·.1)).Nodup
 g: ∀p∈gs,Gr s.toks p.2.1 p.1 p.2.2
 gT: ∀t∈gs.filterMap (gG ·.1),t∈T∨s0.toks.length≤t
 gd:(gs.filterMap (gG ·.1)).Nodup
 lk: ∀p∈bs,p.1<s0.blks.length→ ∀cs w,p.2= .cells cs w→ ∀v∈cs,∀t,gG v=some t→cW (p.1+1) s.lowT=true∨ ∃cs0 w0,s0.blks[p.1]?=some (.cells cs0 w0)∧v∈cs0
 tv: ∀p∈bs,∀cs w,p.2= .cells cs w→ ∀v∈cs,∀t,gG v=some t→t<s.toks.length
section
variable {L T : List Nat} {s0 s s' : ASt} {bs bs' : List (Nat × dG)} {gs gs' : List (AV × Nat × List AV)}
theorem St.clean(s:ASt):St [] [] s (aU s) [] []:=⟨.clean _ _ _,by simp,by simp,by simp,by simp,by simp,by simp,by simp,by simp⟩
theorem St.less(h:St L T s0 s bs gs)(hb:bs'.Sublist bs)(hg:gs'.Sublist gs):St L T s0 s bs' gs':=
 ⟨h.ext,fun p hp=>h.b p (hb.subset hp),fun p hp=>h.bL p (hb.subset hp),h.nd.sublist (hb.map _),fun p hp=>h.g p (hg.subset hp),fun t ht=>h.gT t ((hg.filterMap _).subset ht),h.gd.sublist (hg.filterMap _),fun p hp=>h.lk p (hb.subset hp),fun p hp=>h.tv p (hb.subset hp)⟩
theorem St.perm(h:St L T s0 s bs gs)(hb:bs'.Perm bs)(hg:gs'.Perm gs):St L T s0 s bs' gs':=
 ⟨h.ext,fun p hp=>h.b p (hb.subset hp),fun p hp=>h.bL p (hb.subset hp),(hb.map _).nodup_iff.2 h.nd,fun p hp=>h.g p (hg.subset hp),fun t ht=>h.gT t ((hg.filterMap _).subset ht),(hg.filterMap _).nodup_iff.2 h.gd,fun p hp=>h.lk p (hb.subset hp),fun p hp=>h.tv p (hb.subset hp)⟩
theorem St.aUY{sz:Nat}{w:AV}{xs:List AV}(h:St L T s0 s bs gs)(hw:Gr s.toks sz w xs)(ht:gG w=none):St L T s0 s bs ((w,sz,xs)::gs):=
 ⟨h.ext,h.b,h.bL,h.nd,fun p hp=>by rcases List.mem_cons.1 hp with rfl|hp;exact hw;exact h.g p hp,by simp [List.filterMap_cons,ht];simpa using h.gT,by simp only [List.filterMap_cons,ht];exact h.gd,h.lk,h.tv⟩
theorem St.full{sz:Nat}(xs:List AV)(h:St L T s0 s bs gs):St L T s0 s bs ((.slice sz xs .full,sz,xs)::gs):=h.aUY (.full xs) rfl
theorem St.nil(z sz:Nat)(h:St L T s0 s bs gs):St L T s0 s bs ((.slice z [] .full,sz,[])::gs):=h.aUY (.nil z) rfl
end
theorem aAw{gs:List (AV×Nat×List AV)}{t:Nat}:t∈gs.filterMap (gG ·.1)↔ ∃p∈gs,gG p.1=some t:=by simp [List.mem_filterMap]
theorem Gr.aDI{tk tk':List Nat}{sz:Nat}{w:AV}{xs:List AV}(h:Gr tk sz w xs)(k: ∀t,gG w=some t→tk'[t]?=tk[t]?):Gr tk' sz w xs:=by
 cases h with
 |nil z=>exact .nil z
 |full xs=>exact .full xs
 |tok xs t h=>exact .tok xs t (by rw [k t rfl];exact h)
theorem Gr.tlt{tk:List Nat}{sz:Nat}{w:AV}{xs:List AV}{t:Nat}(h:Gr tk sz w xs)(ht:gG w=some t):t<tk.length:=by
 cases h with
 |nil z=>cases ht
 |full xs=>cases ht
 |tok xs t' h=>
  simp only [gG,Option.some.injEq] at ht;subst ht;exact(List.getElem?_eq_some_iff.1 h).1
theorem aIw{P:bA}{e:Env}{L T:List Nat}{s0 s:ASt}{bs:List (Nat×dG)}{gs:List (AV×Nat×List AV)}{esz bytes:Nat}{a x:aQ}{w:AV}{xs ys:List AV}(tk:Bool)
(hS:St L T s0 s bs ((w,esz,xs)::gs))(ha:evO P e a=w)(hw:Sl esz (evO P e x) ys)(h1:(xs.length+ys.length)*bytes≤big)(h2:xs.length+ys.length≤big)(h0:0<esz):
  ∃w' s',dM P e s (.append tk esz bytes a x)=some (w',s')∧St L T s0 s' bs ((w',esz,xs++ys)::gs):=by
 have hG:=hS.g _ (List.mem_cons_self ..);simp only at hG;have hel:=hw.elems s;have hsl:u9 (evO P e x)=true:=by obtain⟨z,o,hq,_⟩:=hw.is;rw [hq];rfl
 have hwl:u9 w=true:=by obtain⟨z,o,hq,_⟩:=hG.sl.is;rw [hq];rfl
 have htk:(!tk||(u9 w&&u9 (evO P e x)))=true:=by rw [hsl,hwl];simp
 cases ys with
 |nil=>
  refine⟨w,s,?_,by rw [List.append_nil];exact hS⟩;obtain⟨z,o,hq,_⟩:=hG.sl.is;simp only [dM,bX,gO,eX,ha,hel,htk];rw [hq]
 |cons y ys=>
  simp only [List.length_cons] at h1 h2;have keepall: ∀p∈gs,∀t n,(∃u,gG w=some u∧t=u)∨s.toks.length≤t→Gr (s.toks.set t n) p.2.1 p.1 p.2.2:=by
   intro p hp t n ht;refine(hS.g p (List.mem_cons_of_mem _ hp)).aDI fun u hu=> ?_;rw [List.getElem?_set_ne]
   rintro rfl
   rcases ht with ⟨u',h3,rfl⟩|ht
   ·have hd:=hS.gd;rw [List.filterMap_cons,h3] at hd;simp only [List.nodup_cons] at hd;exact hd.1 (aAw.2 ⟨p,hp,hu⟩)
   ·have:=(hS.g p (List.mem_cons_of_mem _ hp)).tlt hu;omega
  have grow: ∀z,(decide (z=esz)||xs.isEmpty)=true→gG w=none→w= .slice z xs .full→
    ∃w' s',dM P e s (.append tk esz bytes a x)=some (w',s')∧St L T s0 s' bs ((w',esz,xs++y::ys)::gs):=by
   intro z hz htw hwe;refine⟨.slice esz (xs++y::ys) (.tok s.toks.length),{s with toks:=s.toks++ [xs.length+(ys.length+1)]},?_,?_⟩
   ·have hc:((decide (z=esz)||xs.isEmpty)&&decide ((xs.length+(ys.length+1))*bytes≤big)&&decide (xs.length+(ys.length+1)≤big)&&decide (0<esz))=true:=by
     rw [hz];simp [h0,h1,h2]
    simp only [dM,bX,gO,eX,ha,hel,htk,hwe];rw [hwe] at htk;simp only [htk,hc,if_true]
   ·have hd:=hS.gd;rw [List.filterMap_cons,htw] at hd;have hT:=hS.gT;rw [List.filterMap_cons,htw] at hT;refine⟨⟨hS.ext.bl,hS.ext.b,by simp;have:=hS.ext.tl;omega,fun i hi hn=> ?_⟩,hS.b,hS.bL,hS.nd,?_,?_,?_,hS.lk,fun p hp cs w he v hv t ht=>by have:=hS.tv p hp cs w he v hv t ht;simp;omega⟩
    ·rw [←hS.ext.t i hi hn];exact List.getElem?_append_left (by have:=hS.ext.tl;omega)
    ·intro p hp;rcases List.mem_cons.1 hp with rfl|hp
     ·exact .tok _ _ (by simp)
     ·refine(hS.g p (List.mem_cons_of_mem _ hp)).aDI fun u hu=> ?_;have:=(hS.g p (List.mem_cons_of_mem _ hp)).tlt hu;exact List.getElem?_append_left this
    ·intro t ht;simp only [List.filterMap_cons,gG,List.mem_cons] at ht;rcases ht with rfl|ht
     ·exact .inr hS.ext.tl
     ·exact hT t ht
    ·simp only [List.filterMap_cons,gG,List.nodup_cons];refine⟨fun hm=> ?_,hd⟩;obtain⟨p,hp,hu⟩:=aAw.1 hm;have:=(hS.g p (List.mem_cons_of_mem _ hp)).tlt hu;omega
  generalize hwq:w=w0 at hG;cases hG with
  |nil z=>exact grow z (by simp) (by rw [hwq];rfl) hwq
  |full xs=>exact grow esz (by simp) (by rw [hwq];rfl) hwq
  |tok xs t ht=>
   have htw:gG w=some t:=by rw [hwq];rfl
   have htl:t<s.toks.length:=(List.getElem?_eq_some_iff.1 ht).1;refine⟨.slice esz (xs++y::ys) (.tok t),{s with toks:=s.toks.set t (xs.length+(ys.length+1))},?_,?_⟩
   ·have hc:((decide (esz=esz)||xs.isEmpty)&&decide ((xs.length+(ys.length+1))*bytes≤big)&&decide (xs.length+(ys.length+1)≤big)&&decide (0<esz))=true:=by
     simp [h0,h1,h2]
    simp only [dM,bX,gO,eX,ha,hel,htk,hwq];rw [hwq] at htk;simp [htk,hc,ht,h0,h1,h2]
   ·have hd:=hS.gd;rw [List.filterMap_cons,htw] at hd;have hT:=hS.gT;rw [List.filterMap_cons,htw] at hT;refine⟨⟨hS.ext.bl,hS.ext.b,by simp;exact hS.ext.tl,fun i hi hn=> ?_⟩,hS.b,hS.bL,hS.nd,?_,?_,?_,hS.lk,fun p hp cs w he v hv t ht=>by have:=hS.tv p hp cs w he v hv t ht;simpa using this⟩
    ·rw [←hS.ext.t i hi hn];refine List.getElem?_set_ne ?_
     rintro rfl
     rcases hT t (List.mem_cons_self ..) with h|h
     ·exact hn h
     ·omega
    ·intro p hp;rcases List.mem_cons.1 hp with rfl|hp
     ·exact .tok _ _ (by simp [htl])
     ·exact keepall p hp t _ (.inl ⟨t,htw,rfl⟩)
    ·intro u hu;simp only [List.filterMap_cons,gG] at hu;exact hT u hu
    ·simp only [List.filterMap_cons,gG];exact hd
section
variable {L T : List Nat} {s0 s : ASt} {bs : List (Nat × dG)} {gs : List (AV × Nat × List AV)}
theorem aAJ{α:Type}: ∀{l:List α}{i:Nat}{p:α},l[i]?=some p→(p::l.eraseIdx i).Perm l
 | [],_,_,h=>by simp at h
 |a::l,0,p,h=>by simp at h;subst h;exact .refl _
 |a::l,i+1,p,h=>by
  simp only [List.getElem?_cons_succ] at h;simp only [List.eraseIdx_cons_succ];exact(List.Perm.swap a p _).trans ((aAJ h).cons a)
theorem St.aSZ(h:St L T s0 s bs gs)(n:Nat):St L T s0 s bs (gs.take n):=h.less (List.Sublist.refl _) (List.take_sublist _ _)
theorem St.slG{w:AV}{sz:Nat}{xs:List AV}(h:St L T s0 s bs gs)(i:Nat)(hp:gs[i]?=some (w,sz,xs)):Sl sz w xs:=
 (h.g _ (List.mem_of_getElem? hp)).sl
end
theorem Sl.full{z sz:Nat}{xs:List AV}(h:z=sz∨xs= []):Sl sz (.slice z xs .full) xs:= .own h (by simp)
def idx{α:Type}(l:List α)(i:Int):Option α:=if 0≤i then l[i.toNat]? else none
def cut{α:Type}(l:List α)(lo hi:Int):Option (List α):=if 0≤lo∧lo≤hi∧hi≤l.length then some ((l.take hi.toNat).drop lo.toNat) else none
def app{α:Type}(b:Nat)(xs ys:List α):Option (List α):=if(xs.length+ys.length)*b≤big∧xs.length+ys.length≤big then some (xs++ys) else none
def nf{α:Type}(x:α):α:=x
inductive Ctl(R S:Type) where
 |ret (r:R)
 |nx (s:S)
theorem bs{α β:Type}{o:Option α}{f:α→Option β}{r:β}(h:(o>>=f)=some r): ∃x,o=some x∧f x=some r:=Option.bind_eq_some_iff.1 h
theorem bE{α:Type}{b:Bool}{a c:Option α}{r:α}(h:b=true)(k:(if b=true then a else c)=some r):a=some r:=by rwa [if_pos h] at k
theorem bC{α:Type}{b:Bool}{a c:Option α}{r:α}(h:b=false)(k:(if b=true then a else c)=some r):c=some r:=by rwa [if_neg (by rw [h];decide)] at k
theorem aF{P:bA}{rd:Option Nat}{c:aQ}{t f:AC}{b:Bool}{fr:Fr}{s:ASt}{Q:dO→Fr→ASt→Prop}{α:Type}{x y:Option α}{r:α}(hyp:(if b=true then x else y)=some r)(hb:evO P fr.env c= .bool b)
(ht:b=true→x=some r→Wk P rd t fr s Q)(hf:b=false→y=some r→Wk P rd f fr s Q):Wk P rd (.cond c t f) fr s Q:=
 aSt hb (fun hc=>ht hc (bE hc hyp)) (fun hc=>hf hc (bC hc hyp))
abbrev AV.i(n:Int):AV:= .int .i64 n
def a0(sz:Nat){α:Type}(f:α→AV)(l:List α):AV:=slA sz (l.map f)
theorem cV{α:Type}{f:α→AV}(h: ∀x,dC (f x)=true): ∀l:List α,fH (l.map f)=true
 | []=>rfl
 |x::r=>by simp only [List.map_cons,fH,h x,cV h r,Bool.and_self]
inductive PuL:List AV→Prop
 |nil:PuL []
 |cons {v:AV} {vs:List AV} (h:dC v=true) (t:PuL vs):PuL (v::vs)
theorem PuL.eq{vs:List AV}(h:PuL vs):fH vs=true:=by
 induction h with
 |nil=>rfl
 |cons h _ ih=>simp only [fH,h,ih,Bool.and_self]
theorem aLQ{vs:List AV}(h:PuL vs):dC (.agg vs)=true:=h.eq
theorem aLx: ∀{vs:List AV},fH vs=true→PuL vs
 | [],_=> .nil
 |v::vs,h=>by simp only [fH,Bool.and_eq_true] at h;exact .cons h.1 (aLx h.2)
theorem m9: ∀{a b:List AV},fH a=true→fH b=true→fH (a++b)=true
 | [],_,_,h=>h
 |v::vs,b,h,k=>by simp only [fH,Bool.and_eq_true] at h;simp only [List.cons_append,fH,h.1,m9 h.2 k,Bool.and_self]
theorem wE{v:AV}(h:dC v=true):fH [v]=true:=by simp only [fH,h,Bool.and_self]
theorem rW{vs:List AV}(h:PuL vs):dC (.tuple vs)=true:=h.eq
theorem j9{sz:Nat}{xs:List AV}(h:fH xs=true):Can (slA sz xs):=⟨rfl,h⟩
theorem aBH{sz:Nat}{α:Type}{f:α→AV}(h: ∀x,dC (f x)=true)(l:List α):dC (a0 sz f l)=true:=cV h l
theorem iC{sz:Nat}{α:Type}{f:α→AV}(h: ∀x,dC (f x)=true)(l:List α):dC (slA sz (l.map f))=true:=cV h l
inductive Fx1:List AV→List AV→Prop
 |nil:Fx1 [] []
 |cons {v w:AV} {vs ws:List AV} (h:j2 v=some w) (t:Fx1 vs ws):Fx1 (v::vs) (w::ws)
theorem Fx1.eq{vs ws:List AV}(h:Fx1 vs ws):aD3 vs=some ws:=by
 induction h with
 |nil=>rfl
 |cons h _ ih=>simp only [aD3,h,ih]
theorem Fx1.agg{vs ws:List AV}(h:Fx1 vs ws):iK (.agg vs)=some (.agg ws):=by simp only [iK,h.eq]
theorem aBO{v:AV}{o:Nat}(h:Can v):Can (.aG v o):=⟨rfl,h.2⟩
theorem aLq{g:Nat}{a b:List AV}(h:aEO a)(k:aEO b):Can (.func g a b):=⟨rfl,by simp only [dC,h.pure,k.pure,Bool.and_self]⟩
inductive zM:List AV→List AV→Prop
 |nil:zM [] []
 |cons {v w:AV} {vs ws:List AV} (h:iK v=some w) (t:zM vs ws):zM (v::vs) (w::ws)
theorem zM.eq{vs ws:List AV}(h:zM vs ws):eD vs=some ws:=by
 induction h with
 |nil=>rfl
 |cons h _ ih=>simp only [eD,h,ih]
theorem aRk{v w:AV}(s:ASt)(h:iK v=some w):aFO s v=some (w,s):=by
 cases v<;>first|(simp only [aFO,h];done)|(simp [iK,j2] at h)
theorem zM.vs{vs ws:List AV}(s:ASt)(h:zM vs ws):tH s vs=some (ws,s):=by
 induction h with
 |nil=>rfl
 |cons h _ ih=>simp only [tH,aRk s h,ih]
theorem aBa{s0 s3:ASt}{v:AV}(h:u9 v=false):(settle s0 v s3).1=v:=by
 cases v<;>first|rfl|(simp [u9] at h)
theorem aY{P:bA}{af:AF}{e:Env}{X:ASt→Prop}{s s3:ASt}{vs:List AV}{v1 v:AV}(h3:kQ P e s af.res=some vs)(h4:pT s vs=some (v1,s3))(he:v1=v)(h5:oM v=some v)(hx:X s3):aK8 P af (VQ v X) e s:=
 ⟨vs,v1,s3,h3,h4,he▸h5,fun _=>he,hx⟩
theorem eJ{P:bA}{af:AF}{e:Env}{X:ASt→Prop}{s:ASt}{sz:Nat}{w:AV}{xs:List AV}(h3:kQ P e s af.res=some [w])(h:Sl sz w xs)(hx:X s):aK8 P af (VQ (slA sz xs) X) e s:=by
 refine⟨[w],w,s,h3,?_,h.oM,fun hn=> ?_,hx⟩
 ·obtain⟨z,o,rfl,_⟩:=h.is
  rfl
 ·obtain⟨z,o,rfl,_⟩:=h.is;cases hn
theorem aQN{vs ws:List AV}(h:eD vs=some ws):oM (.tuple vs)=some (.tuple ws):=by simp only [oM,h]
theorem aOt{v w:AV}(h:j2 v=some w):j2 w=some w:=by
 cases v<;>simp [j2] at h<;>(try subst h)<;>(try rfl);rename_i sz xs o;cases o<;>simp at h<;>subst h<;>rfl
theorem aGG: ∀{vs ws:List AV},aD3 vs=some ws→aD3 ws=some ws
 | [],_,h=>by cases h;rfl
 |v::vs,ws,h=>by
  simp only [aD3] at h;split at h
  ·cases h
  ·rename_i y hy;split at h
   ·cases h
   ·rename_i ys hys;cases h;simp only [aD3,aOt hy,aGG hys]
theorem aOc{v w:AV}(h:iK v=some w):iK w=some w:=by
 cases v
 case agg cs=>
  simp only [iK] at h;split at h
  ·rename_i ds hd;cases h;simp only [iK,aGG hd]
  ·cases h
 case slice sz xs o=>cases o<;>(simp [iK,j2] at h;subst h;rfl)
 all_goals first
  |(simp [iK,j2] at h;done)
  |(simp [iK,j2] at h;subst h;rfl)
theorem aEd: ∀{vs ws:List AV},eD vs=some ws→eD ws=some ws
 | [],_,h=>by cases h;rfl
 |v::vs,ws,h=>by
  simp only [eD] at h;split at h
  ·cases h
  ·rename_i y hy;split at h
   ·cases h
   ·rename_i ys hys;cases h;simp only [eD,aOc hy,aEd hys]
theorem iF{P:bA}{af:AF}{e:Env}{X:ASt→Prop}{s:ASt}(h3:kQ P e s af.res=some [])(hx:X s):aK8 P af (VQ (.tuple []) X) e s:=
 ⟨[],.tuple [],s,h3,rfl,rfl,fun _=>rfl,hx⟩
theorem dN{P:bA}{af:AF}{e:Env}{X:ASt→Prop}{s:ASt}{u v:AV}{vs ws:List AV}(h3:kQ P e s af.res=some (u::v::vs))(h:zM (u::v::vs) ws)(hx:X s):aK8 P af (VQ (.tuple ws) X) e s:=by
 refine⟨_,.tuple ws,s,h3,?_,aQN (aEd h.eq),fun _=>rfl,hx⟩;have:=h.vs s;simp only [pT,this]
theorem frE{e:Env}{S:List (Nat×AV)}{ds:List jI}(h:aAx e S):(⟨e,ds⟩:Fr)=⟨bB e S,ds⟩:=by rw [h.bB]
section
variable {P : bA} {rd : Option Nat} {s s' : ASt} {ds : List jI}
theorem bV{c:AC}{S:List (Nat×AV)}{Q' Q:dO→Fr→ASt→Prop}{e0:Env}(h: ∀e,Wk P rd c ⟨bB e S,ds⟩ s Q')(hh:aAx e0 S)(k: ∀ex fr s,Q' ex fr s→Q ex fr s):Wk P rd c ⟨e0,ds⟩ s Q:=by
 have:=h e0;rw [hh.bB] at this;exact this.mono k
theorem bM{b:AC}{fr:Fr}{Q:dO→Fr→ASt→Prop}(h:Wk P rd b fr s (aS5 (fun fr s=>Wk P rd (.loop b) fr s Q) Q)):Wk P rd (.loop b) fr s Q:=by
 obtain⟨⟨ex,fr1,s1⟩,N,h1,h2⟩:=h.ev.out;have fin: ∀(r:CR),Q r.ex r.fr r.s→oQ (evC (cU P N) P rd N b) (N+1) fr s=some r→(match ex with| .normal=>False|_=>True)→Wk P rd (.loop b) fr s Q:=by
  intro r hq hr hne;refine⟨⟨r,N+1,hq,fun n hn=> ?_⟩⟩;simp only [evC];exact wP (fun fr s r h=>fM (aD9 (by omega)) (by omega) b h) hn hr
 cases ex with
 |normal=>
  obtain⟨r,M,h3,h4⟩:=(h1:Wk P rd (.loop b) fr1 s1 Q).ev.out;refine⟨⟨r,max N M+1,h3,fun n hn=> ?_⟩⟩;have e1:=h4 M (Nat.le_refl _);simp only [evC] at e1⊢;obtain⟨m,rfl⟩: ∃m,n=m+1:=⟨n-1,by omega⟩
  have e2:oQ (evC (cU P (m+1)) P rd (m+1) b) m fr1 s1=some r:=wP (fun fr s r h=>fM (aD9 (by omega)) (by omega) b h) (by omega) e1;simp only [oQ,h2 (m+1) (by omega)];exact e2
 |exit i=>exact fin ⟨.exit i,fr1,s1⟩ h1 (by simp only [oQ,h2 N (Nat.le_refl _)]) trivial
 |ret=>exact fin ⟨.ret,fr1,s1⟩ h1 (by simp only [oQ,h2 N (Nat.le_refl _)]) trivial
 |panic v=>exact fin ⟨.panic v,fr1,s1⟩ h1 (by simp only [oQ,h2 N (Nat.le_refl _)]) trivial
end
def aLS(i:AI):Bool:=match i.op with| .pend _=>false|_=>true
theorem pW(d:Option Nat):aS d []= []:=by cases d<;>rfl
theorem aGp{H:Handler}{P:bA}: ∀{a b:List AI}{fr fr1:Fr}{s s1:ASt},a.all aLS=true→bS H P a [] fr s=some (.norm fr1 s1)→bS H P (a++b) [] fr s=bS H P b [] fr1 s1
 | [],b,fr,fr1,s,s1,_,h=>by simp only [bS,Option.some.injEq,rP.norm.injEq] at h;obtain⟨rfl,rfl⟩:=h;rfl
 |i::a,b,⟨e,ds⟩,fr1,s,s1,hp,h=>by
  simp only [List.all_cons,Bool.and_eq_true] at hp;obtain⟨d,op,gd,pre⟩:=i;have ih:=fun{fr:Fr}{s:ASt}(h:bS H P a [] fr s=some (.norm fr1 s1))=>aGp (b:=b) hp.2 h;simp only [List.cons_append];cases hw:wanted e gd with
  |none=>simp [bS,hw] at h
  |some w=>
   cases w with
   |false=>
    simp only [bS,hw,pW] at h⊢;exact ih h
   |true=>
    cases hpl:plainO op with
    |true=>
     rw [aES (d':=d) hpl hw] at h⊢
     revert h
     cases dM P e s op with
     |none=>intro h;cases h
     |some x=>intro h;simp only [pW] at h⊢;exact ih h
    |false=>
     cases op<;>first|(simp [plainO] at hpl;done)|skip
     case pend z=>simp [aLS] at hp
     case shut d0 sz x=>
      simp only [bS,hw] at h;split at h
      ·simp at h
      ·cases h
     case defer f args=>
      simp only [bS,hw] at h⊢;split at h
      ·rename_i h1 h2;simp only [h1,h2,pW] at h⊢;exact ih h
      ·cases h
     case panic x=>
      simp only [bS,hw] at h;split at h<;>cases h
     case aN st f args=>
      simp only [bS,hw] at h⊢;split at h
      ·rename_i h1 h2;split at h
       ·rename_i h3 h4;split at h
        ·rename_i h5;split at h
         ·rename_i h6;simp only [h1,h2,h3,h4,h5,h6,pW] at h⊢;exact ih h
         ·cases h
        ·cases h
       ·cases h
      ·cases h
     case call f args=>
      simp only [bS,hw] at h⊢;split at h
      ·rename_i h1 h2;split at h
       ·rename_i h3;simp only [h1,h2,h3,pW] at h⊢;exact ih h
       ·cases h
       ·cases h
      ·cases h
theorem aW{P:bA}{ops:List AI}{e0:Env}{ds:List jI}{s:ASt}{Q:rP→Prop}(n:Nat)(S:List (Nat×AV))(s':ASt)(h:Wo P (ops.take n) [] ⟨e0,ds⟩ s (aU2 (Kept S ds s')))(k: ∀e,Wo P (ops.drop n) [] ⟨bB e S,ds⟩ s' Q)(hp:(ops.take n).all aLS=true:=by rfl):Wo P ops [] ⟨e0,ds⟩ s Q:=by
 obtain⟨r,N,h1,h2⟩:=h.ev.out;cases r with
 |pan v f s1=>exact absurd h1.1 (by simp)
 |norm f s1=>
  obtain⟨_,rfl,h3,h4⟩:=h1;have k1:=k f.env;rw [h4.bB] at k1;obtain⟨r2,M,h5,h6⟩:=k1.ev.out;refine⟨⟨r2,max N M,h5,fun n' hn=> ?_⟩⟩;have e1:=aGp (b:=ops.drop n) hp (h2 n' (by omega));rw [List.take_append_drop] at e1;rw [e1];obtain⟨fe,fd⟩:=f;simp only at h3;subst h3;exact h6 n' (by omega)
theorem aX{P:bA}{l:List AI}{pd:List (Nat×Nat)}{e:Env}{ds:List jI}{s:ASt}{Q:rP→Prop}{t:Nat}{c:Bool}(h:e t= .bool c)
(kt:c=true→Wo P l pd ⟨upd e t (.bool true),ds⟩ s Q)(kf:c=false→Wo P l pd ⟨upd e t (.bool false),ds⟩ s Q):Wo P l pd ⟨e,ds⟩ s Q:=by
 cases c with
 |true=>have:=kt rfl;rwa [aED h] at this
 |false=>have:=kf rfl;rwa [aED h] at this
section
variable {P : bA} {e : Env} {ds : List jI} {s s1 : ASt} {Q : rP → Prop} {d : Nat} {d' : Option Nat} {rest : List AI} {pre : List Nat} {v : AV} {gd : Option (Nat × Bool)} {pd : List (Nat × Nat)}
theorem wgp{op:AOp}(hp:plainO op=true)(hg:wanted e gd=some true)(h:dM P e s op=some (v,s1))(k:Wo P rest (aS (some d) pd) ⟨upd e d v,ds⟩ s1 Q):Wo P (⟨some d,op,gd,pre⟩::rest) pd ⟨e,ds⟩ s Q:=
 aTu (d':=some d) hp hg h k
theorem wgv{op:AOp}(v:AV)(hp:plainO op=true)(hg:wanted e gd=some true)(h:dM P e s op=some (v,s))(k:Wo P rest (aS (some d) pd) ⟨upd e d v,ds⟩ s Q):Wo P (⟨some d,op,gd,pre⟩::rest) pd ⟨e,ds⟩ s Q:=wgp hp hg h k
theorem bI{α:Type}{f:α→AV}{l:List α}{esz:Nat}{x:aQ}(hg:wanted e gd=some true)(hx:Sl esz (evO P e x) (l.map f))(k:Wo P rest (aS (some d) pd) ⟨upd e d (.int .i64 (l.length:Int)),ds⟩ s Q):Wo P (⟨some d,.eE x,gd,pre⟩::rest) pd ⟨e,ds⟩ s Q:=by
 refine wgp rfl hg (s1:=s) ?_ k;obtain⟨z,o,h,_⟩:=hx.is;simp [dM,bX,h]
theorem bT{α:Type}{f:α→AV}{l:List α}{esz:Nat}{x i:aQ}{ik:IntKind}{n:Int}{y:α}(hg:wanted e gd=some true)(hx:Sl esz (evO P e x) (l.map f))(hi:evO P e i= .int ik n)(h:idx l n=some y)(hv:f y=v)
(k:Wo P rest (aS (some d) pd) ⟨upd e d (.aG v 0),ds⟩ s Q):Wo P (⟨some d,.cX esz x i,gd,pre⟩::rest) pd ⟨e,ds⟩ s Q:=by
 refine wgp rfl hg (v:= .aG v 0) (s1:=s) ?_ k;unfold idx at h;split at h
 ·rename_i hn;obtain⟨z,o,hxe,hz⟩:=hx.is;have hsz:z=esz:=by
   rcases hz with rfl|hz
   ·rfl
   ·rw [List.map_eq_nil_iff.1 hz] at h;simp at h
  simp [dM,bX,hxe,hi,jD,hn,hsz,h,hv]
 ·cases h
theorem aKn{x i:aQ}{t:Str}{ik:IntKind}{n:Int}{b:UInt8}(hg:wanted e gd=some true)(hx:evO P e x= .str t)(hi:evO P e i= .int ik n)(h:idx t n=some b)
(k:Wo P rest (aS (some d) pd) ⟨upd e d (.int .u8 b.toNat),ds⟩ s Q):Wo P (⟨some d,.wY x i,gd,pre⟩::rest) pd ⟨e,ds⟩ s Q:=by
 refine wgp rfl hg (v:= .int .u8 b.toNat) (s1:=s) ?_ k;unfold idx at h;split at h
 ·rename_i hn;simp [dM,bX,hx,hi,jD,hn,h]
 ·cases h
theorem aGc{dflt:Nat}{lo:Option aQ}{n:Int}(h:(lo=none∧n=dflt)∨ ∃ik,lo.map (evO P e)=some (.int ik n))(hn:0≤n):cS P e dflt lo=some n.toNat:=by
 rcases h with ⟨rfl,rfl⟩|⟨ik,h⟩
 ·simp [cS]
 ·cases lo with
  |none=>cases h
  |some x=>
   simp only [Option.map_some,Option.some.injEq] at h;simp [cS,h,jD,hn]
theorem rA{α:Type}{f:α→AV}{l l':List α}{esz:Nat}{x:aQ}{lo hi:Option aQ}{lo' hi':Int}(hg:wanted e gd=some true)(hx:Sl esz (evO P e x) (l.map f))
(hlo:(lo=none∧lo'=0)∨ ∃ik,lo.map (evO P e)=some (.int ik lo'))(hhi:(hi=none∧hi'=(l.length:Int))∨ ∃ik,hi.map (evO P e)=some (.int ik hi'))(hn:(lo.isSome||hi.isSome)=true)(h:cut l lo' hi'=some l')
(k:Wo P rest (aS (some d) pd) ⟨upd e d (slA esz (l'.map f)),ds⟩ s Q):Wo P (⟨some d,.aAg esz x lo hi none,gd,pre⟩::rest) pd ⟨e,ds⟩ s Q:=by
 refine wgp rfl hg (v:=slA esz (l'.map f)) (s1:=s) ?_ k;unfold cut at h;split at h
 ·rename_i hc;cases h;obtain⟨z,o,hxe,hz⟩:=hx.is;have h1:cS P e 0 lo=some lo'.toNat:=aGc (by rcases hlo with ⟨a,b⟩|h;exact .inl ⟨a,by simpa using b⟩;exact .inr h) hc.1;have h2:cS P e (l.map f).length hi=some hi'.toNat:=aGc (by rcases hhi with ⟨a,b⟩|h;exact .inl ⟨a,by simpa using b⟩;exact .inr h) (by omega);have h3:cS P e (l.map f).length none=some (l.map f).length:=rfl;have hzz:szC z (((l.map f).take hi'.toNat).drop lo'.toNat)=szC esz (((l.map f).take hi'.toNat).drop lo'.toNat):=by
   rcases hz with rfl|hz
   ·rfl
   ·rw [hz];simp [szC]
  have hze:(decide (z=esz)||(l.map f).isEmpty)=true:=by rcases hz with rfl|hz<;>simp [*]
  have hcc:(decide (lo'.toNat≤hi'.toNat)&&decide (hi'.toNat≤(l.map f).length)&&decide ((l.map f).length≤(l.map f).length)&&(decide (z=esz)||(l.map f).isEmpty)&&((none:Option aQ).isNone||hi.isSome))=true:=by
   rw [hze];simp;omega
  have:bX P e (.aAg esz x lo hi none)=some (slA esz ((((l.take hi'.toNat).drop lo'.toNat)).map f)):=by
   simp only [bX,hxe,h1,h2,h3];rw [if_pos hcc];cases lo with
   |some y=>cases hi<;>(simp only [hzz,slA,List.map_drop,List.map_take])
   |none=>
    cases hi with
    |some z=>simp only [hzz,slA,List.map_drop,List.map_take]
    |none=>cases hn
  simp only [dM,this]
 ·cases h
theorem aUs{w:AV}{esz len:Nat}{z:List AV}{parts:List (Nat×aQ)}{sz:Nat}{xs:List AV}(hg:wanted e gd=some true)(h:dM P e s (.iD esz len z parts)=some (.slice sz xs .full,s))(hw: .slice sz xs .full=w)
(k:Wo P rest (aS (some d) pd) ⟨upd e d w,ds⟩ s Q):Wo P (⟨some d,.iD esz len z parts,gd,pre⟩::rest) pd ⟨e,ds⟩ s Q:=by
 subst hw;exact wgp rfl hg h k
theorem aGj{z:AV}: ∀(vs:List AV)(pre post:List AV)(k:Nat),k=pre.length→post.length=vs.length→vS (pre++post) ((List.range' k vs.length).zip vs)=some (pre++vs)
 | [],pre,post,k,_,h=>by
  have:post= []:=List.length_eq_zero_iff.1 h;subst this;simp [vS]
 |v::vs,pre,post,k,hk,h=>by
  cases post with
  |nil=>simp at h
  |cons p post=>
   subst hk;simp only [List.length_cons,List.range'_succ,List.zip_cons_cons,vS];rw [if_pos (by simp),List.set_append_right _ _ (Nat.le_refl _),Nat.sub_self,List.set_cons_zero];have:=aGj (z:=z) vs (pre++ [v]) post (pre.length+1) (by simp) (by simpa using h);simpa using this
theorem mJ{α:Type}{f:α→AV}{l:List α}{vs:List AV}{esz len:Nat}{z:List AV}{parts:List (Nat×aQ)}(hg:wanted e gd=some true)(hf:zM (parts.map fun p=>evO P e p.2) vs)(hv:vs=l.map f)
(hc: ∀x,(cellsOf (f x)).length=esz)(hi:parts.map (·.1)=List.range' 0 l.length)(hl:len=l.length)(h16:len*esz≤16777216)
(k:Wo P rest (aS (some d) pd) ⟨upd e d (.slice esz (l.map f) .full),ds⟩ s Q):Wo P (⟨some d,.iD esz len z parts,gd,pre⟩::rest) pd ⟨e,ds⟩ s Q:=by
 refine wgp rfl hg (v:= .slice esz (l.map f) .full) (s1:=s) ?_ k;have h1:eD (parts.map fun p=>evO P e p.2)=some (l.map f):=by rw [hf.eq,hv]
 have h2:((l.map f).all (fun v=>(cellsOf v).length==esz)&&decide (len*esz≤16777216))=true:=by simp [hc,h16]
 have h3:=aGj (z:=elemOf esz z) (l.map f) [] (List.replicate len (elemOf esz z)) 0 rfl (by simp [hl]);simp only [List.nil_append,List.length_map] at h3;simp only [dM,bX,h1];rw [if_pos h2,hi,h3]
theorem wF{L T:List Nat}{s0:ASt}{bs:List (Nat×dG)}{gs:List (AV×Nat×List AV)}{α:Type}{f:α→AV}{xs ys l:List α}{tk:Bool}{esz bytes:Nat}{a x:aQ}{w:AV}(hg:wanted e gd=some true)
(hS:St L T s0 s bs ((w,esz,xs.map f)::gs))(ha:evO P e a=w)(hw:Sl esz (evO P e x) (ys.map f))(h:app bytes xs ys=some l)(h0:0<esz)
(k: ∀w' s',St L T s0 s' bs ((w',esz,l.map f)::gs)→Wo P rest (aS (some d) pd) ⟨upd e d w',ds⟩ s' Q):Wo P (⟨some d,.append tk esz bytes a x,gd,pre⟩::rest) pd ⟨e,ds⟩ s Q:=by
 unfold app at h;split at h
 ·rename_i hc;cases h;obtain⟨w',s',h1,h2⟩:=aIw tk hS ha hw (by simpa using hc.1) (by simpa using hc.2) h0;exact wgp rfl hg h1 (k w' s' (by rw [List.map_append];exact h2))
 ·cases h
theorem wcD{st:Bool}{f:aQ}{args:List aQ}{g:Nat}{vs:List AV}(hc:Pf P g vs v)(hg:wanted e gd=some true)(hf:evO P e f= .func g [] [])(ha:zM (args.map (evO P e)) vs)
(k:Wo P rest (aS d' pd) ⟨fQ e d' v,ds⟩ s Q):Wo P (⟨d',.aN st f args,gd,pre⟩::rest) pd ⟨e,ds⟩ s Q:=
 aKh (a:= []) (b:= []) hg hf ha.eq (by simpa using hc) k
theorem wcC{st:Bool}{f:aQ}{args:List aQ}{g:Nat}{vs us a b:List AV}(hc:Pf P g us v)(hg:wanted e gd=some true)(hf:evO P e f= .func g a b)(ha:zM (args.map (evO P e)) vs)(hu:a++vs++b=us)
(k:Wo P rest (aS d' pd) ⟨fQ e d' v,ds⟩ s Q):Wo P (⟨d',.aN st f args,gd,pre⟩::rest) pd ⟨e,ds⟩ s Q:=
 aKh hg hf ha.eq (by rw [hu];exact hc) k
end
section
variable {L T : List Nat} {s0 s s' : ASt} {bs bs' : List (Nat × dG)} {gs gs' : List (AV × Nat × List AV)}
theorem St.lt(h:St L T s0 s bs gs){p:Nat×dG}(hp:p∈bs):p.1<s.blks.length:=(List.getElem?_eq_some_iff.1 (h.b p hp)).1
theorem St.get{l:Nat}{b:dG}(h:St L T s0 s bs gs)(i:Nat)(hb:bs[i]?=some (l,b)):s.blks[l]?=some b:=h.b (l,b) (List.mem_of_getElem? hb)
def aOR(v:AV):Bool:=(gG v).isNone
theorem St.alloc{cs:List AV}(h:St L T s0 s bs gs)(ht: ∀v∈cs,∀t,gG v=some t→t<s.toks.length)(w:Bool):St L T s0 {s with blks:=s.blks++ [.cells cs w]} ((s.blks.length,.cells cs w)::bs) gs:=by
 refine⟨⟨by simp;have:=h.ext.bl;omega,fun i hi hn=> ?_,h.ext.tl,h.ext.t⟩,?_,?_,?_,h.g,h.gT,h.gd,?_,?_⟩
 ·rw [←h.ext.b i hi hn];exact List.getElem?_append_left (by have:=h.ext.bl;omega)
 ·intro p hp;rcases List.mem_cons.1 hp with rfl|hp
  ·simp
  ·rw [←h.b p hp];exact List.getElem?_append_left (h.lt hp)
 ·intro p hp;rcases List.mem_cons.1 hp with rfl|hp
  ·exact .inr h.ext.bl
  ·exact h.bL p hp
 ·simp only [List.map_cons,List.nodup_cons];refine⟨fun hm=> ?_,h.nd⟩;obtain⟨p,hp,he⟩:=List.mem_map.1 hm;have:=h.lt hp;omega
 ·intro p hp hl cs' w' he;rcases List.mem_cons.1 hp with rfl|hp
  ·have:=h.ext.bl;simp only at hl;omega
  ·exact h.lk p hp hl cs' w' he
 ·intro p hp cs' w' he;rcases List.mem_cons.1 hp with rfl|hp
  ·simp only [dG.cells.injEq] at he;obtain⟨rfl,rfl⟩:=he;exact ht
  ·exact h.tv p hp cs' w' he
theorem aEa{b:Bool}{l n:Nat}{o:Option Nat}(h:cW n o=true):cW n (low b l o)=true:=by
 cases o with
 |none=>simp [cW] at h
 |some m=>cases b<;>simp [low,cW] at h⊢ <;>omega
theorem aSS{l:Nat}{o:Option Nat}:cW (l+1) (low true l o)=true:=by
 cases o with
 |none=>simp [low,cW]
 |some m=>simp [low,cW];omega
theorem aL7{v:AV}{t:Nat}(h:gG v=some t):toks v=true:=by
 cases v with
 |slice sz xs o=>cases o<;>simp [gG] at h;simp [toks]
 |_=>simp [gG] at h
theorem aOC{vs:List AV}{v:AV}(h:v∈vs)(ht:toks v=true):lV vs=true:=by
 induction vs with
 |nil=>cases h
 |cons x xs ih=>
  rcases List.mem_cons.1 h with rfl|h
  ·simp [lV,ht]
  ·simp [lV,ih h]
theorem aFl{cs ds:List AV}{off:Nat}{v:AV}(h:v∈gK cs off ds):v∈cs∨v∈ds:=by
 unfold gK at h;rcases List.mem_append.1 h with h|h
 ·rcases List.mem_append.1 h with h|h
  ·exact .inl (List.mem_of_mem_take h)
  ·exact .inr h
 ·exact .inl (List.mem_of_mem_drop h)
theorem St.set{l:Nat}{cs ds cs':List AV}{w:Bool}{off:Nat}(h:St L T s0 s bs gs)(i:Nat)(hb:bs[i]?=some (l,.cells cs w))(hc:gK cs off ds=cs')(ht: ∀v∈ds,∀t,gG v=some t→t<s.toks.length):
  St L T s0 (mM s l ds (s.blks.set l (.cells cs' true))) (bs.set i (l,.cells cs' true)) gs:=by
 subst hc;have hm:(l,dG.cells cs w)∈bs:=List.mem_of_getElem? hb;have hi:i<bs.length:=(List.getElem?_eq_some_iff.1 hb).1;have hbi:bs[i]=(l,.cells cs w):=(List.getElem?_eq_some_iff.1 hb).2;have hkeys:(bs.set i (l,dG.cells (gK cs off ds) true)).map (·.1)=bs.map (·.1):=by
  rw [List.map_set];apply List.ext_getElem?;intro k;by_cases hk:i=k
  ·subst hk;simp [hi,hbi]
  ·rw [List.getElem?_set_ne hk]
 have hne: ∀p∈bs.set i (l,dG.cells (gK cs off ds) true),p=(l,dG.cells (gK cs off ds) true)∨(p∈bs∧p.1≠l):=by
  intro p hp;obtain⟨k,hk,rfl⟩:=List.mem_iff_getElem.1 hp;by_cases hik:i=k
  ·subst hik;simp
  ·refine .inr ⟨by rw [List.getElem_set_ne hik];exact List.getElem_mem _,fun he=>hik ?_⟩;rw [List.getElem_set_ne hik] at he;simp only [List.length_set] at hk;have h1:(bs.map (·.1))[i]'(by simpa using hi)=(bs.map (·.1))[k]'(by simpa using hk):=by simp [hbi,he]
   exact(List.getElem_inj h.nd).1 h1
 have hll:l<s.blks.length:=h.lt hm;refine⟨⟨by simp [mM];exact h.ext.bl,fun j hj hn=> ?_,h.ext.tl,h.ext.t⟩,?_,?_,by rw [hkeys];exact h.nd,h.g,h.gT,h.gd,?_,?_⟩
 ·rw [←h.ext.b j hj hn];refine List.getElem?_set_ne ?_
  rintro rfl
  rcases h.bL _ hm with h1|h1
  ·exact hn h1
  ·simp only at h1;omega
 ·intro p hp;rcases hne p hp with rfl|⟨hp,hn⟩
  ·simp [mM,hll]
  ·rw [←h.b p hp];exact List.getElem?_set_ne (Ne.symm hn)
 ·intro p hp;rcases hne p hp with rfl|⟨hp,hn⟩
  ·exact h.bL (l,.cells cs w) hm
  ·exact h.bL p hp
 ·intro p hp hl cs' w' he v hv t htk;rcases hne p hp with rfl|⟨hp,hn⟩
  ·simp only [dG.cells.injEq] at he;obtain⟨rfl,rfl⟩:=he;rcases aFl hv with hv|hv
   ·exact(h.lk (l,.cells cs w) hm hl cs w rfl v hv t htk).imp aEa id
   ·left;simp only [mM,aOC hv (aL7 htk)];exact aSS
  ·exact(h.lk p hp hl cs' w' he v hv t htk).imp aEa id
 ·intro p hp cs' w' he v hv t htk;rcases hne p hp with rfl|⟨hp,hn⟩
  ·simp only [dG.cells.injEq] at he;obtain⟨rfl,rfl⟩:=he;rcases aFl hv with hv|hv
   ·exact h.tv (l,.cells cs w) hm cs w rfl v hv t htk
   ·exact ht v hv t htk
  ·exact h.tv p hp cs' w' he v hv t htk
theorem St.aV{p:Nat×dG}(h:St L T s0 s bs gs)(i:Nat)(hp:bs[i]?=some p):St L T s0 s (p::bs.eraseIdx i) gs:=h.perm (aAJ hp) (.refl _)
theorem St.vC(h:St L T s0 s bs gs)(n:Nat):St L T s0 s (bs.take n) gs:=h.less (List.take_sublist _ _) (List.Sublist.refl _)
structure Kn(s:ASt)(bs:List (Nat×dG))(gs:List (AV×Nat×List AV)):Prop where
 b: ∀p∈bs,s.blks[p.1]?=some p.2
 nd:(bs.map (·.1)).Nodup
 g: ∀p∈gs,Gr s.toks p.2.1 p.1 p.2.2
 gd:(gs.filterMap (gG ·.1)).Nodup
 tv: ∀p∈bs,∀cs w,p.2= .cells cs w→ ∀v∈cs,∀t,gG v=some t→t<s.toks.length
def fR(bs:List (Nat×dG)):List Nat:=bs.map (·.1)
def dA(gs:List (AV×Nat×List AV)):List Nat:=gs.filterMap (gG ·.1)
theorem Kn.start(h:Kn s bs gs):St (fR bs) (dA gs) s (aU s) bs gs:=by
 refine⟨.clean _ _ _,h.b,fun p hp=> .inl (List.mem_map.2 ⟨p,hp,rfl⟩),h.nd,h.g,fun t ht=> .inl ht,h.gd,?_,h.tv⟩;intro p hp _ cs w he v hv t ht;exact .inr ⟨cs,w,by rw [←he];exact h.b p hp,hv⟩
theorem St.kn(h:St L T s0 s bs gs):Kn s bs gs:=⟨h.b,h.nd,h.g,h.gd,h.tv⟩
theorem aGH{n m:Nat}{o:Option Nat}(h:cW n o=true)(hn:n≤m):cW m o=true:=by
 cases o with
 |none=>simp [cW] at h
 |some k=>simp [cW] at h⊢;omega
theorem aGz{n:Nat}{a b:Option Nat}(h:cW n a=true):cW n (aDY a b)=true:=by
 cases a with
 |none=>simp [cW] at h
 |some x=>cases b<;>simp [aDY,cW] at h⊢ <;>omega
theorem aGB{n:Nat}{a b:Option Nat}(h:cW n b=true):cW n (aDY a b)=true:=by
 cases b with
 |none=>simp [cW] at h
 |some x=>cases a<;>simp [aDY,cW] at h⊢ <;>omega
theorem sV{d:Bool}(n:Nat)(h:cW n s0.lowT=true):cW n (fL s0 d s).lowT=true:=by
 unfold fL;split
 ·unfold z1;split
  ·exact aGz h
  ·exact h
 ·split
  ·exact h
  ·exact aGz h
theorem yL(v:AV)(n:Nat)(h:cW n s0.lowT=true):cW n (settle s0 v s).2.lowT=true:=by
 unfold settle;split
 ·split
  ·exact sV n h
  ·split
   ·split
    ·exact h
    ·exact sV n h
   ·exact sV n h
 ·exact sV n h
theorem aEs{d:Bool}:(dS s0 d s).lowT=s.lowT:=by
 unfold dS;split
 ·rfl
 ·split<;>rfl
theorem aLM{d:Bool}(hb:s0.blks.length≤s.blks.length):((fL s0 d s).toks=s.toks∧(cW s0.blks.length s.lowT=true→ ∀n,cW n s.lowT=true→cW n (fL s0 d s).lowT=true))∨cW s0.blks.length s.lowT=false:=by
 unfold fL;split
 ·refine .inl ⟨rfl,fun hl n hn=> ?_⟩;simp only [z1,hl];exact aGB hn
 ·split
  ·rename_i hc;simp only [aDs,Bool.and_eq_true,Bool.not_eq_true',Bool.or_eq_false_iff] at hc;exact .inr hc.2.1
  ·exact .inl ⟨rfl,fun _ n hn=>aGB hn⟩
theorem zG(v:AV)(hb:s0.blks.length≤s.blks.length):((settle s0 v s).2.toks=s.toks∧(cW s0.blks.length s.lowT=true→ ∀n,cW n s.lowT=true→cW n (settle s0 v s).2.lowT=true))∨cW s0.blks.length s.lowT=false:=by
 have key: ∀d1 d2,((fL s0 d1 (dS s0 d2 s)).toks=s.toks∧(cW s0.blks.length s.lowT=true→ ∀n,cW n s.lowT=true→cW n (fL s0 d1 (dS s0 d2 s)).lowT=true))∨cW s0.blks.length s.lowT=false:=by
  intro d1 d2;have:=aLM (s0:=s0) (s:=dS s0 d2 s) (d:=d1) (aCc hb);rwa [aEs,xE] at this
 unfold settle;split
 ·split
  ·exact key _ _
  ·split
   ·rename_i hc _;split
    ·simp only [aDs,Bool.and_eq_true,Bool.not_eq_true',Bool.or_eq_false_iff,aEs] at hc;exact .inr hc.2.1
    ·exact key _ _
   ·exact key _ _
 ·exact key _ _
theorem St.settle(h:St L T s0 s bs gs)(v:AV)(hk: ∀p∈bs,p.1<s0.blks.length)(hk0: ∀p∈bs,∀cs0 w0,s0.blks[p.1]?=some (.cells cs0 w0)→ ∀v∈cs0,∀t,gG v=some t→t<s0.toks.length)(hg: ∀q∈gs,∃p∈bs,∃cs w,p.2= .cells cs w∧q.1∈cs):St L T s0 (settle s0 v s).2 bs gs:=by
 have hx:=h.ext.settle v;have htok: ∀t,(∃p∈bs,∃cs w,p.2= .cells cs w∧ ∃v∈cs,gG v=some t)→(Fw.settle s0 v s).2.toks[t]?=s.toks[t]?∧t<(Fw.settle s0 v s).2.toks.length∧(s0.toks.length≤t→ ∀n,cW n s.lowT=true→cW n (Fw.settle s0 v s).2.lowT=true):=by
  rintro t ⟨p,hp,cs,w,he,u,hu,ht⟩
  have hts:=h.tv p hp cs w he u hu t ht;by_cases h0:s0.toks.length≤t
  ·have hl:cW (p.1+1) s.lowT=true:=by
    rcases h.lk p hp (hk p hp) cs w he u hu t ht with hl|⟨cs0,w0,h1,h2⟩
    ·exact hl
    ·have:=hk0 p hp cs0 w0 h1 u h2 t ht;omega
   have hl2:=aGH hl (show p.1+1≤s0.blks.length from hk p hp);rcases zG v h.ext.bl with ⟨h1,h2⟩|h1
   ·exact⟨by rw [h1],by rw [h1];exact hts,fun _=>h2 hl2⟩
   ·rw [hl2] at h1;cases h1
  ·refine⟨?_,Nat.lt_of_lt_of_le (by omega) hx.tl,fun hh=>absurd hh h0⟩;rcases zG v h.ext.bl with ⟨h1,_⟩|h1
   ·rw [h1]
   ·unfold Fw.settle;have key: ∀d1 d2,(fL s0 d1 (dS s0 d2 s)).toks[t]?=s.toks[t]?:=fun d1 d2=>by rw [aGx t (by omega),xE]
    split
    ·split
     ·exact key _ _
     ·split
      ·split
       ·simp only [];rw [List.getElem?_append_left (by simp only [List.length_take];have:=h.ext.tl;omega)];simp [List.getElem?_take,show t<s0.toks.length by omega]
       ·exact key _ _
      ·exact key _ _
    ·exact key _ _
 have htg: ∀q∈gs,∀t,gG q.1=some t→ ∃p∈bs,∃cs w,p.2= .cells cs w∧ ∃v∈cs,gG v=some t:=by
  intro q hq t ht;obtain⟨p,hp,cs,w,he,hm⟩:=hg q hq;exact⟨p,hp,cs,w,he,q.1,hm,ht⟩
 refine⟨hx,fun p hp=> ?_,h.bL,h.nd,fun q hq=> ?_,h.gT,h.gd,?_,?_⟩
 ·rw [aL0 v p.1 (hk p hp)];exact h.b p hp
 ·exact(h.g q hq).aDI fun t ht=>(htok t (htg q hq t ht)).1
 ·intro p hp hl cs w he u hu t ht;rcases h.lk p hp hl cs w he u hu t ht with h1|h1
  ·have hl2:=aGH h1 (show p.1+1≤s0.blks.length from hl);rcases zG v h.ext.bl with ⟨_,h2⟩|h2
   ·exact .inl (h2 hl2 _ h1)
   ·rw [hl2] at h2;cases h2
  ·exact .inr h1
 ·intro p hp cs w he u hu t ht;exact(htok t ⟨p,hp,cs,w,he,u,hu,ht⟩).2.1
theorem aPy{v1 v:AV}(h1:oM v1=some v)(hn:u9 v=false):u9 v1=false:=by
 cases v1<;>first|rfl|skip
 rename_i sz xs o;cases o<;>(simp [oM,iK,j2] at h1;subst h1;cases hn)
theorem bD{P:bA}{g:Nat}{af:AF}{args:List AV}{s:ASt}{v:AV}(h0:P.prim g=none)(h:P.fn g=some af)(hn:Nat.ble args.length af.nt=true)
(k:Wk P none af.body ⟨hJ args,[]⟩ (aU s) (nQ P af (PQ s v))):Fc P (.func g) args s (bW s v):=
 aNk h0 h hn (fun v1 s3 hq=>⟨_,rfl,yZ hq.1,fun hn=>(aBa (aPy hq.1 hn)).trans (hq.2.1 (aPy hq.1 hn)),fun n _ hl=>yL v1 n hl,hq.2.2.settle v1⟩) k
def nV{α:Type}(s:ASt)(L T:List Nat)(v:AV)(bs:α→List (Nat×dG))(gs:α→List (AV×Nat×List AV))(fs:α→Prop):kO→ASt→Prop:=fun o s'=>
 ∃v0,o= .ret v0∧oM v0=some v∧(u9 v=false→v0=v)∧(∀n,n≤s.blks.length→cW n s.lowT=true→cW n s'.lowT=true)∧ ∃a,fs a∧St L T s s' (bs a) (gs a)
abbrev aRN(bs:List (Nat×dG))(gs:List (AV×Nat×List AV)):Prop:= ∀q∈gs,∃p∈bs,∃cs w,p.2= .cells cs w∧q.1∈cs
def RX{α:Type}(s:ASt)(L T:List Nat)(bs:α→List (Nat×dG))(gs:α→List (AV×Nat×List AV))(fs:α→Prop):ASt→Prop:=fun s3=> ∃a,fs a∧St L T s s3 (bs a) (gs a)
theorem rV{α:Type}{P:bA}{g:Nat}{af:AF}{args:List AV}{v:AV}{bs0:List (Nat×dG)}{gs0:List (AV×Nat×List AV)}{bs:α→List (Nat×dG)}{gs:α→List (AV×Nat×List AV)}{fs:α→Prop}(hK:Kn s bs0 gs0)(hkeys: ∀a,fR (bs a)=fR bs0)(hin: ∀a,aRN (bs a) (gs a))(h0:P.prim g=none)(h:P.fn g=some af)(hn:Nat.ble args.length af.nt=true)
(k:Wk P none af.body ⟨hJ args,[]⟩ (aU s) (nQ P af (VQ v (RX s L T bs gs fs)))):Fc P (.func g) args s (nV s L T v bs gs fs):=
 aNk h0 h hn (fun v1 s3 hq=>by
  obtain⟨h1,h1',a,hF,h2⟩:=hq;refine⟨_,rfl,yZ h1,fun hn=> ?_,fun n _ hl=>yL v1 n hl,a,hF,h2.settle v1 (fun p hp=> ?_) (fun p hp cs0 w0 hc v hv t ht=> ?_) (hin a)⟩
  ·have hv1:u9 v1=false:=by
    cases v1<;>first|rfl|skip
    rename_i sz xs o;cases o<;>(simp [oM,iK,j2] at h1;subst h1;cases hn)
   rw [aBa hv1,h1' hv1]
  ·have hm:p.1∈fR bs0:=hkeys a▸List.mem_map.2 ⟨p,hp,rfl⟩;obtain⟨q,hq,he⟩:=List.mem_map.1 hm;rw [←he];exact(List.getElem?_eq_some_iff.1 (hK.b q hq)).1
  ·have hm:p.1∈fR bs0:=hkeys a▸List.mem_map.2 ⟨p,hp,rfl⟩;obtain⟨q,hq,he⟩:=List.mem_map.1 hm;have:=hK.b q hq;rw [he,hc,Option.some.injEq] at this;exact hK.tv q hq cs0 w0 this.symm v hv t ht) k
def xW(s:ASt)(L T:List Nat)(v:AV):kO→ASt→Prop:=fun o s'=>o= .panic v∧(∀n,n≤s.blks.length→cW n s.lowT=true→cW n s'.lowT=true)∧Ext L T s s'
def aAb{R Pn:Type}(r:Ctl R Pn)(A:R→kO→ASt→Prop)(B:Pn→kO→ASt→Prop):kO→ASt→Prop:=match r with| .ret q=>A q| .nx p=>B p
def aWH{R Pn:Type}(r:Ctl R Pn)(A:R→dO→Fr→ASt→Prop)(B:Pn→dO→Fr→ASt→Prop):dO→Fr→ASt→Prop:=match r with| .ret q=>A q| .nx p=>B p
theorem uY{α R Pn:Type}{P:bA}{g:Nat}{af:AF}{args:List AV}{bs0:List (Nat×dG)}{gs0:List (AV×Nat×List AV)}(r:Ctl R Pn){v:R→AV}{pv:Pn→AV}{bs:R→α→List (Nat×dG)}{gs:R→α→List (AV×Nat×List AV)}{fs:R→α→Prop}(hK:Kn s bs0 gs0)(hkeys: ∀q a,fR (bs q a)=fR bs0)(hin: ∀q a,aRN (bs q a) (gs q a))(h0:P.prim g=none)(h:P.fn g=some af)(hn:Nat.ble args.length af.nt=true)
(k:Wk P none af.body ⟨hJ args,[]⟩ (aU s) (aWH r (fun q=>nQ P af (VQ (v q) (RX s L T (bs q) (gs q) (fs q)))) (fun p=>aOE (pv p) (Ext L T s)))):Fc P (.func g) args s (aAb r (fun q=>nV s L T (v q) (bs q) (gs q) (fs q)) (fun p=>xW s L T (pv p))):=by
 cases r with
 |ret q=>exact rV hK (hkeys q) (hin q) h0 h hn k
 |nx p=>exact aPY h0 h hn (fun s3 hx=>⟨rfl,fun n _ hl=>sV n hl,hx.aJH _ _⟩) k
theorem St.panicked{L' T':List Nat}{bs1 bs2:List (Nat×dG)}{gs1 gs2:List (AV×Nat×List AV)}(h:St L T s0 s (bs1++bs2) (gs1++gs2))(hL:L'=fR bs1)(hT:T'=dA gs1)(k:Ext L' T' s s')(hlow: ∀n,n≤s.blks.length→cW n s.lowT=true→cW n s'.lowT=true):St L T s0 s' bs2 gs2:=by
 subst hL hT;have hnd:(fR bs1++fR bs2).Nodup:=by have:=h.nd;rwa [List.map_append] at this
 have hgd:(dA gs1++dA gs2).Nodup:=by have:=h.gd;rwa [List.filterMap_append] at this
 have hnot: ∀p∈bs2,p.1∉fR bs1:=fun p hp hm=>(List.nodup_append.1 hnd).2.2 _ hm _ (List.mem_map.2 ⟨p,hp,rfl⟩) rfl;have hm2: ∀p∈bs2,p∈bs1++bs2:=fun p hp=>List.mem_append_right _ hp;have hin: ∀x∈fR bs1,x∈L∨s0.blks.length≤x:=by
  intro x hx;obtain⟨p,hp,rfl⟩:=List.mem_map.1 hx;exact h.bL p (List.mem_append_left _ hp)
 have hint: ∀t∈dA gs1,t∈T∨s0.toks.length≤t:=fun t ht=>h.gT t (by rw [List.filterMap_append];exact List.mem_append_left _ ht);have tk2: ∀q∈gs2,∀t,gG q.1=some t→s'.toks[t]?=s.toks[t]?:=by
  intro q hq t ht;have hq2:t∈dA gs2:=List.mem_filterMap.2 ⟨q,hq,ht⟩;refine k.t t ((h.g q (List.mem_append_right _ hq)).tlt ht) fun hm=>(List.nodup_append.1 hgd).2.2 _ hm _ hq2 rfl
 refine⟨⟨Nat.le_trans h.ext.bl k.bl,fun i hi hn=> ?_,Nat.le_trans h.ext.tl k.tl,fun i hi hn=> ?_⟩,fun p hp=> ?_,fun p hp=>h.bL p (hm2 p hp),(List.nodup_append.1 hnd).2.1,fun q hq=>(h.g q (List.mem_append_right _ hq)).aDI (tk2 q hq),fun t ht=>h.gT t (by rw [List.filterMap_append];exact List.mem_append_right _ ht),(List.nodup_append.1 hgd).2.1,fun p hp hl cs w he v hv t ht=> ?_,fun p hp cs w he v hv t ht=> ?_⟩
 ·rw [k.b i (Nat.lt_of_lt_of_le hi h.ext.bl) (fun hm=>by rcases hin i hm with h1|h1;exact hn h1;omega)];exact h.ext.b i hi hn
 ·rw [k.t i (Nat.lt_of_lt_of_le hi h.ext.tl) (fun hm=>by rcases hint i hm with h1|h1;exact hn h1;omega)];exact h.ext.t i hi hn
 ·rw [k.b p.1 (h.lt (hm2 p hp)) (hnot p hp)];exact h.b p (hm2 p hp)
 ·exact(h.lk p (hm2 p hp) hl cs w he v hv t ht).imp (hlow _ (h.lt (hm2 p hp))) id
 ·exact Nat.lt_of_lt_of_le (h.tv p (hm2 p hp) cs w he v hv t ht) k.tl
theorem St.call{L' T':List Nat}{bs1 bs2 bs1':List (Nat×dG)}{gs1 gs2 gs1':List (AV×Nat×List AV)}(h:St L T s0 s (bs1++bs2) (gs1++gs2))(hL:L'=fR bs1)(hT:T'=dA gs1)(k:St L' T' s s' bs1' gs1')(hlow: ∀n,n≤s.blks.length→cW n s.lowT=true→cW n s'.lowT=true)(hk:fR bs1'=fR bs1):
  St L T s0 s' (bs1'++bs2) (gs1'++gs2):=by
 subst hL hT;have hnd:(fR bs1++fR bs2).Nodup:=by have:=h.nd;rwa [List.map_append] at this
 have hgd:(dA gs1++dA gs2).Nodup:=by have:=h.gd;rwa [List.filterMap_append] at this
 have hnot: ∀p∈bs2,p.1∉fR bs1:=fun p hp hm=>(List.nodup_append.1 hnd).2.2 _ hm _ (List.mem_map.2 ⟨p,hp,rfl⟩) rfl;have hm2: ∀p∈bs2,p∈bs1++bs2:=fun p hp=>List.mem_append_right _ hp;have hin: ∀x∈fR bs1,x∈L∨s0.blks.length≤x:=by
  intro x hx;obtain⟨p,hp,rfl⟩:=List.mem_map.1 hx;exact h.bL p (List.mem_append_left _ hp)
 have hint: ∀t∈dA gs1,t∈T∨s0.toks.length≤t:=fun t ht=>h.gT t (by rw [List.filterMap_append];exact List.mem_append_left _ ht);have b1': ∀p∈bs1',p.1∈fR bs1:=fun p hp=>hk▸List.mem_map.2 ⟨p,hp,rfl⟩;have tk2: ∀q∈gs2,∀t,gG q.1=some t→s'.toks[t]?=s.toks[t]?:=by
  intro q hq t ht;have hq2:t∈dA gs2:=List.mem_filterMap.2 ⟨q,hq,ht⟩;refine k.ext.t t ((h.g q (List.mem_append_right _ hq)).tlt ht) fun hm=>(List.nodup_append.1 hgd).2.2 _ hm _ hq2 rfl
 refine⟨⟨Nat.le_trans h.ext.bl k.ext.bl,fun i hi hn=> ?_,Nat.le_trans h.ext.tl k.ext.tl,fun i hi hn=> ?_⟩,?_,?_,?_,?_,?_,?_,?_,?_⟩
 ·rw [k.ext.b i (Nat.lt_of_lt_of_le hi h.ext.bl) (fun hm=>by rcases hin i hm with h1|h1;exact hn h1;omega)];exact h.ext.b i hi hn
 ·rw [k.ext.t i (Nat.lt_of_lt_of_le hi h.ext.tl) (fun hm=>by rcases hint i hm with h1|h1;exact hn h1;omega)];exact h.ext.t i hi hn
 ·intro p hp;rcases List.mem_append.1 hp with hp|hp
  ·exact k.b p hp
  ·rw [k.ext.b p.1 (h.lt (hm2 p hp)) (hnot p hp)];exact h.b p (hm2 p hp)
 ·intro p hp;rcases List.mem_append.1 hp with hp|hp
  ·exact hin _ (b1' p hp)
  ·exact h.bL p (hm2 p hp)
 ·rw [List.map_append];show(fR bs1'++fR bs2).Nodup;rw [hk];exact hnd
 ·intro q hq;rcases List.mem_append.1 hq with hq|hq
  ·exact k.g q hq
  ·exact(h.g q (List.mem_append_right _ hq)).aDI (tk2 q hq)
 ·intro t ht;rw [List.filterMap_append] at ht;rcases List.mem_append.1 ht with ht|ht
  ·rcases k.gT t ht with h1|h1
   ·exact hint t h1
   ·exact .inr (Nat.le_trans h.ext.tl h1)
  ·exact h.gT t (by rw [List.filterMap_append];exact List.mem_append_right _ ht)
 ·rw [List.filterMap_append];refine List.nodup_append.2 ⟨k.gd,(List.nodup_append.1 hgd).2.1,?_⟩
  rintro a ha b hb rfl
  rcases k.gT a ha with h1|h1
  ·exact(List.nodup_append.1 hgd).2.2 _ h1 _ hb rfl
  ·obtain⟨q,hq,ht⟩:=List.mem_filterMap.1 hb;have:=(h.g q (List.mem_append_right _ hq)).tlt ht;omega
 ·intro p hp hl cs w he v hv t ht;rcases List.mem_append.1 hp with hp|hp
  ·obtain⟨p0,hp0,he0⟩:=List.mem_map.1 (b1' p hp);have hpl:p.1<s.blks.length:=by rw [←he0];exact h.lt (List.mem_append_left _ hp0)
   rcases k.lk p hp hpl cs w he v hv t ht with h1|⟨cs0,w0,h1,h2⟩
   ·exact .inl h1
   ·have hb0:=h.b p0 (List.mem_append_left _ hp0);rw [he0,h1,Option.some.injEq] at hb0;rcases h.lk p0 (List.mem_append_left _ hp0) (by rw [he0];exact hl) cs0 w0 hb0.symm v h2 t ht with h3|h3
    ·rw [he0] at h3;exact .inl (hlow _ hpl h3)
    ·rw [he0] at h3;exact .inr h3
  ·exact(h.lk p (hm2 p hp) hl cs w he v hv t ht).imp (hlow _ (h.lt (hm2 p hp))) id
 ·intro p hp cs w he v hv t ht;rcases List.mem_append.1 hp with hp|hp
  ·exact k.tv p hp cs w he v hv t ht
  ·exact Nat.lt_of_lt_of_le (h.tv p (hm2 p hp) cs w he v hv t ht) k.ext.tl
end
inductive TkL(n:Nat):List AV→Prop
 |nil:TkL n []
 |cons {v:AV} {vs:List AV} (h: ∀t,gG v=some t→t<n) (r:TkL n vs):TkL n (v::vs)
theorem TkL.all{n:Nat}{vs:List AV}(h:TkL n vs): ∀v∈vs,∀t,gG v=some t→t<n:=by
 induction h with
 |nil=>intro v hv;cases hv
 |cons h _ ih=>intro v hv;rcases List.mem_cons.1 hv with rfl|hv;exact h;exact ih v hv
theorem tkN{n:Nat}{v:AV}(h:gG v=none): ∀t,gG v=some t→t<n:=fun t ht=>by rw [h] at ht;cases ht
theorem aTn{n:Nat}: ∀{vs:List AV},vs.all aOR=true→TkL n vs
 | [],_=> .nil
 |v::vs,h=>by
  simp only [List.all_cons,Bool.and_eq_true] at h;exact .cons (tkN (by simpa [aOR] using h.1)) (aTn h.2)
theorem Sl.cells{sz:Nat}{w:AV}{xs:List AV}(h:Sl sz w xs):cellsOf w= [w]:=by obtain⟨z,o,rfl,_⟩:=h.is;rfl
theorem Sl.box{sz:Nat}{w:AV}{xs:List AV}(h:Sl sz w xs):xH w=true:=by obtain⟨z,o,rfl,_⟩:=h.is;rfl
theorem St.tkG{L T:List Nat}{s0 s:ASt}{bs:List (Nat×dG)}{gs:List (AV×Nat×List AV)}{w:AV}{sz:Nat}{xs:List AV}(h:St L T s0 s bs gs)(i:Nat)(hp:gs[i]?=some (w,sz,xs)): ∀t,gG w=some t→t<s.toks.length:=
 fun _ ht=>(h.g _ (List.mem_of_getElem? hp)).tlt ht
@[reducible] def nwB{X:Type}(l:Nat)(o:Option X)(f:X→List AV):List (Nat×dG):=match o with|some c=> [(l,.cells (f c) true)]|none=> []
@[reducible] def nwG {X Y:Type} (o:Option X) (f:X→List Y):List Y:=match o with|some c=>f c|none=> []
@[reducible] def nwF {X:Type} (o:Option X) (f:X→Prop):Prop:=match o with|some c=>f c|none=>True
theorem aVq{X Y:Type}{l:Nat}{o:Option X}{f:X→List AV}{g:X→List Y}(h:nwB l o f= []):nwG o g= []:=by
 cases o with
 |none=>rfl
 |some c=>cases h
section
variable {L T : List Nat} {s0 s s' : ASt} {bs bs' : List (Nat × dG)} {gs gs' : List (AV × Nat × List AV)}
def aRg{α:Type}(s:ASt)(v:α→AV)(bs:α→List (Nat×dG))(gs:α→List (AV×Nat×List AV))(fs:α→Prop):kO→ASt→Prop:=fun o s'=>
 ∃a,o= .ret (v a)∧(∀n,n≤s.blks.length→cW n s.lowT=true→cW n s'.lowT=true)∧fs a∧St [] [] s s' (bs a) (gs a)
def NQ{α:Type}(s:ASt)(v:α→AV)(bs:α→List (Nat×dG))(gs:α→List (AV×Nat×List AV))(fs:α→Prop):AV→ASt→Prop:=fun v1 s3=> ∃a,v1=v a∧fs a∧St [] [] s s3 (bs a) (gs a)
theorem aLL{v:AV}(hs:u9 v=false)(hl:pA v=true)(hn:s.blks.length≠s0.blks.length):(Fw.settle s0 v s).1=v∧(Fw.settle s0 v s).2.blks=s.blks∧(Fw.settle s0 v s).2.toks=s.toks:=by
 have h1:Nat.beq s.blks.length s0.blks.length=false:=by
  cases h:Nat.beq s.blks.length s0.blks.length with
  |false=>rfl
  |true=>exact absurd (Nat.eq_of_beq_eq_true h) hn
 have h2:dS s0 true s={s with lowB:=aDY s0.lowB s.lowB}:=by
  unfold dS;rw [h1];simp
 have h3:Fw.settle s0 v s=(v,fL s0 (toks v) (dS s0 (pA v) s)):=by
  cases v<;>first|rfl|(cases hs)
 rw [h3,hl,h2];refine⟨rfl,oL,?_⟩;unfold fL;split
 ·rfl
 ·have:aDs s0 (toks v) {s with lowB:=aDY s0.lowB s.lowB}=false:=by
   unfold aDs;simp only [h1,Bool.false_and]
  rw [this]
theorem St.aSz{v:AV}(h:St L T s0 s bs gs)(hs:u9 v=false)(hl:pA v=true)(hn:s.blks.length≠s0.blks.length)(hL: ∀p∈bs,s0.blks.length≤p.1):St L T s0 (Fw.settle s0 v s).2 bs gs:=by
 obtain⟨_,h1,h2⟩:=aLL (s:=s) (s0:=s0) hs hl hn;refine⟨h.ext.settle v,fun p hp=>by rw [h1];exact h.b p hp,h.bL,h.nd,fun p hp=>by rw [h2];exact h.g p hp,h.gT,h.gd,fun p hp hq=>absurd (hL p hp) (by omega),fun p hp cs w he v hv t ht=>by rw [h2];exact h.tv p hp cs w he v hv t ht⟩
theorem NQ.out{α:Type}{v:α→AV}{bs:α→List (Nat×dG)}{gs:α→List (AV×Nat×List AV)}{fs:α→Prop}(hs: ∀a,u9 (v a)=false)(hl: ∀a,pA (v a)=true)(he: ∀a,bs a= []→gs a= []){v1:AV}{s3:ASt}(h:NQ s v bs gs fs v1 s3):aRg s v bs gs fs (.ret (Fw.settle s v1 s3).1) (Fw.settle s v1 s3).2:=by
 obtain⟨a,rfl,hF,hS⟩:=h;have h0:(Fw.settle s (v a) s3).1=v a:=aBa (hs a);refine⟨a,by rw [h0],fun n _ hl=>yL _ n hl,hF,?_⟩;have hL: ∀p∈bs a,s.blks.length≤p.1:=fun p hp=>(hS.bL p hp).resolve_left (by simp);cases hb:bs a with
 |nil=>
  rw [he a hb];exact⟨hS.ext.settle _,by simp,by simp,by simp,by simp,by simp,by simp,by simp,by simp⟩
 |cons p r=>
  have hp:p∈bs a:=hb▸List.mem_cons_self;have h1:=hS.lt hp;have h2:=hL p hp;rw [←hb];exact hS.aSz (hs a) (hl a) (by omega) hL
theorem St.cU{fb:List (Nat×dG)}{fg:List (AV×Nat×List AV)}(h:St L T s0 s bs gs)(k:St [] [] s s' fb fg)(hlow: ∀n,n≤s.blks.length→cW n s.lowT=true→cW n s'.lowT=true):St L T s0 s' (fb++bs) (fg++gs):=by
 have h1:St L T s0 s' bs gs:=St.call (L':= []) (T':= []) (bs1:= []) (gs1:= []) (bs1':= []) (gs1':= []) h rfl rfl (k.less (List.nil_sublist _) (List.nil_sublist _)) hlow rfl;have hL: ∀p∈fb,s.blks.length≤p.1:=fun p hp=>(k.bL p hp).resolve_left (by simp);have hT: ∀t∈fg.filterMap (gG ·.1),s.toks.length≤t:=fun t ht=>(k.gT t ht).resolve_left (by simp);refine⟨h1.ext,?_,?_,?_,?_,?_,?_,?_,?_⟩
 ·intro p hp;exact(List.mem_append.1 hp).elim (k.b p) (h1.b p)
 ·intro p hp;exact(List.mem_append.1 hp).elim (fun hp=> .inr (Nat.le_trans h.ext.bl (hL p hp))) (h1.bL p)
 ·rw [List.map_append];refine List.nodup_append.2 ⟨k.nd,h1.nd,?_⟩;intro x hx y hy hxy;obtain⟨p,hp,rfl⟩:=List.mem_map.1 hx;obtain⟨q,hq,rfl⟩:=List.mem_map.1 hy;have:=hL p hp;have:=h.lt hq;omega
 ·intro p hp;exact(List.mem_append.1 hp).elim (k.g p) (h1.g p)
 ·intro t ht;rw [List.filterMap_append] at ht;exact(List.mem_append.1 ht).elim (fun ht=> .inr (Nat.le_trans h.ext.tl (hT t ht))) (h1.gT t)
 ·rw [List.filterMap_append];refine List.nodup_append.2 ⟨k.gd,h1.gd,?_⟩;intro x hx y hy hxy;obtain⟨q,hq,hy'⟩:=List.mem_filterMap.1 hy;have:=hT x hx;have:=(h.g q hq).tlt hy';omega
 ·intro p hp hl;rcases List.mem_append.1 hp with hp|hp
  ·have:=hL p hp;have:=h.ext.bl;omega
  ·exact h1.lk p hp hl
 ·intro p hp;exact(List.mem_append.1 hp).elim (k.tv p) (h1.tv p)
theorem aS1{α:Type}{P:bA}{af:AF}{e:Env}{s:ASt}{u v:AV}{vs ws:List AV}{vf:α→AV}{bs:α→List (Nat×dG)}{gs:α→List (AV×Nat×List AV)}{fs:α→Prop}(h3:kQ P e s af.res=some (u::v::vs))(h:zM (u::v::vs) ws)(hx: ∃a,.tuple ws=vf a∧fs a∧St [] [] s0 s (bs a) (gs a)):aK8 P af (NQ s0 vf bs gs fs) e s:=by
 refine⟨_,.tuple ws,s,h3,?_,hx⟩;have:=h.vs s;simp only [pT,this]
end
section
variable {P : bA} {e : Env} {ds : List jI} {s s1 : ASt} {Q : rP → Prop} {d : Nat} {d' : Option Nat} {rest : List AI} {pre : List Nat} {v : AV} {gd : Option (Nat × Bool)} {pd : List (Nat × Nat)}
 {L T : List Nat} {s0 : ASt} {bs : List (Nat × dG)} {gs : List (AV × Nat × List AV)}
theorem lU{z:List AV}(hg:wanted e gd=some true)(hS:St L T s0 s bs gs)(hz:z.all aOR=true)(k: ∀l s',St L T s0 s' ((l,.cells z true)::bs) gs→Wo P rest (aS (some d) pd) ⟨upd e d (.ptr l 0),ds⟩ s' Q):Wo P (⟨some d,.alloc z,gd,pre⟩::rest) pd ⟨e,ds⟩ s Q:=
 wgp rfl hg (v:= .ptr s.blks.length 0) (by simp only [dM,bX,gO,eX]) (k _ _ (hS.alloc (aTn hz).all true))
theorem aQv{x:aQ}{cs:List AV}(hg:wanted e gd=some true)(hS:St L T s0 s bs gs)(hx:cellsOf (evO P e x)=cs)(hb:xH (evO P e x)=true)(ht:TkL s.toks.length cs)(k: ∀l s',St L T s0 s' ((l,.cells cs true)::bs) gs→Wo P rest (aS (some d) pd) ⟨upd e d (.ptr l 0),ds⟩ s' Q):Wo P (⟨some d,.box x,gd,pre⟩::rest) pd ⟨e,ds⟩ s Q:=
 wgp rfl hg (v:= .ptr s.blks.length 0) (s1:={s with blks:=s.blks++ [.cells cs true]}) (by simp only [dM,bX,gO,eX,hb,hx]) (k _ _ (hS.alloc ht.all true))
theorem cJ{l off sz:Nat}{a x:aQ}{cs ds' cs':List AV}(i:Nat)(hg:wanted e gd=some true)(hS:St L T s0 s bs gs)(hb:bs[i]?=some (l,.cells cs true))(ha:evO P e a= .ptr l off)(hx:cellsOf (evO P e x)=ds')(hbx:xH (evO P e x)=true)(hl:ds'.length=sz)(hf:off+sz≤cs.length)
(ht:TkL s.toks.length ds')(hc:gK cs off ds'=cs')(k: ∀s',St L T s0 s' (bs.set i (l,.cells cs' true)) gs→Wo P rest (aS d' pd) ⟨fQ e d' fW,ds⟩ s' Q):Wo P (⟨d',.store sz a x,gd,pre⟩::rest) pd ⟨e,ds⟩ s Q:=by
 have hget:=hS.get i hb;refine aTu (d':=d') rfl hg (v:=fW) (s1:=mM s l ds' (s.blks.set l (.cells cs' true))) ?_ (k _ (hS.set i hb hc ht.all));have hcc:(xH (evO P e x)&&decide ((cellsOf (evO P e x)).length=sz)&&decide (off+sz≤cs.length))=true:=by rw [hbx,hx,hl];simp [hf]
 simp only [dM,bX,gO,eX,ha,hget];rw [if_pos hcc,hx,hc]
theorem lA{l off sz:Nat}{a:aQ}{cs:List AV}{w:Bool}(i:Nat)(hg:wanted e gd=some true)(hS:St L T s0 s bs gs)(hb:bs[i]?=some (l,.cells cs w))(ha:evO P e a= .ptr l off)(hv:cs[off]?=some v)
(k:Wo P rest (aS (some d) pd) ⟨upd e d v,ds⟩ s Q):Wo P (⟨some d,.load false sz a,gd,pre⟩::rest) pd ⟨e,ds⟩ s Q:=
 wgp rfl hg (by simp only [dM,bX,gO,ha,hS.get i hb,hv]) k
theorem aCF{l off sz:Nat}{a:aQ}{cs us ws:List AV}{w:Bool}(i:Nat)(hg:wanted e gd=some true)(hS:St L T s0 s bs gs)(hb:bs[i]?=some (l,.cells cs w))(ha:evO P e a= .ptr l off)(hl:off+sz≤cs.length)(hu:(cs.drop off).take sz=us)(hf:Fx1 us ws)
(k:Wo P rest (aS (some d) pd) ⟨upd e d (.agg ws),ds⟩ s Q):Wo P (⟨some d,.load true sz a,gd,pre⟩::rest) pd ⟨e,ds⟩ s Q:=by
 refine wgp rfl hg (v:= .agg ws) (s1:=s) ?_ k;simp only [dM,bX,gO,ha,hS.get i hb,partOf,hl,if_true,hu,hf.agg]
theorem aUU{α:Type}{f:aQ}{args:List aQ}{g:AFn}{a b vs us:List AV}{L' T':List Nat}{bs1 bs2:List (Nat×dG)}{gs1 gs2:List (AV×Nat×List AV)}{bs':α→List (Nat×dG)}{gs':α→List (AV×Nat×List AV)}{fs':α→Prop}
(hg:wanted e gd=some true)(hS:St L T s0 s (bs1++bs2) (gs1++gs2))(hc:Kn s bs1 gs1→Fc P g us s (nV s L' T' v bs' gs' fs'))(hL:L'=fR bs1)(hT:T'=dA gs1)(hk: ∀a,fR (bs' a)=fR bs1)
(hf:target (evO P e f)=some (g,a,b))(ha:zM (args.map (evO P e)) vs)(hu:a++vs++b=us)
(k: ∀v0 s' x,oM v0=some v→(u9 v=false→v0=v)→fs' x→St L T s0 s' (bs' x++bs2) (gs' x++gs2)→Wo P rest (aS d' pd) ⟨fQ e d' v0,ds⟩ s' Q):Wo P (⟨d',.call f args,gd,pre⟩::rest) pd ⟨e,ds⟩ s Q:=by
 have hK:Kn s bs1 gs1:=(hS.less (List.sublist_append_left _ _) (List.sublist_append_left _ _)).kn;refine aBo (a:=a) (b:=b) hg hf (ha.vs s) ?_;rw [hu];refine(hc hK).ev.mono ?_
 rintro ⟨r,s'⟩ ⟨v0,h1,h2,h2',h3,x,hF,h4⟩
 simp only at h1;subst h1;exact k v0 s' x h2 h2' hF (hS.call hL hT h4 h3 (hk x))
theorem cN{α:Type}{f:aQ}{args:List aQ}{g:AFn}{a b vs us:List AV}{L' T':List Nat}{bs1 bs2:List (Nat×dG)}{gs1 gs2:List (AV×Nat×List AV)}{bs':α→List (Nat×dG)}{gs':α→List (AV×Nat×List AV)}{fs':α→Prop}
(hv:u9 v=false)(hg:wanted e gd=some true)(hS:St L T s0 s (bs1++bs2) (gs1++gs2))(hc:Kn s bs1 gs1→Fc P g us s (nV s L' T' v bs' gs' fs'))(hL:L'=fR bs1)(hT:T'=dA gs1)(hk: ∀a,fR (bs' a)=fR bs1)
(hf:target (evO P e f)=some (g,a,b))(ha:zM (args.map (evO P e)) vs)(hu:a++vs++b=us)
(k: ∀s' x,fs' x→St L T s0 s' (bs' x++bs2) (gs' x++gs2)→Wo P rest (aS d' pd) ⟨fQ e d' v,ds⟩ s' Q):Wo P (⟨d',.call f args,gd,pre⟩::rest) pd ⟨e,ds⟩ s Q:=
 aUU hg hS hc hL hT hk hf ha hu fun v0 s' x _ h2 hF h3=>by rw [h2 hv];exact k s' x hF h3
theorem iR{f:aQ}{args:List aQ}{g:AFn}{a b vs us:List AV}{L' T':List Nat}{bs1 bs2:List (Nat×dG)}{gs1 gs2:List (AV×Nat×List AV)}
(hg:wanted e gd=some true)(hS:St L T s0 s (bs1++bs2) (gs1++gs2))(hc:Kn s bs1 gs1→Fc P g us s (xW s L' T' v))(hL:L'=fR bs1)(hT:T'=dA gs1)
(hf:target (evO P e f)=some (g,a,b))(ha:zM (args.map (evO P e)) vs)(hu:a++vs++b=us)
(k: ∀s',St L T s0 s' bs2 gs2→Q (.pan v ⟨e,ds⟩ s')):Wo P (⟨d',.call f args,gd,pre⟩::rest) pd ⟨e,ds⟩ s Q:=by
 have hK:Kn s bs1 gs1:=(hS.less (List.sublist_append_left _ _) (List.sublist_append_left _ _)).kn;refine aBo (a:=a) (b:=b) hg hf (ha.vs s) ?_;rw [hu];refine(hc hK).ev.mono ?_
 rintro ⟨r,s'⟩ ⟨h1,h2,h3⟩
 simp only at h1;subst h1;exact k s' (hS.panicked hL hT h3 h2)
theorem aIQ{x:aQ}{t:Nat}(hg:wanted e gd=some true)(h:evO P e x= .iface t v)(hq:Q (.pan (.iface t v) ⟨e,ds⟩ s)):Wo P (⟨d',.panic x,gd,pre⟩::rest) pd ⟨e,ds⟩ s Q:=
 ⟨.one (fun _=>by simp only [bS,hg,h]) hq⟩
end
inductive xC(P:bA)(e:Env)(s:ASt):List ARV→List AV→Prop
 |nil:xC P e s [] []
 |cons {r:ARV} {v:AV} {rs:List ARV} {vs:List AV} (h:aCS P e s r=some v) (t:xC P e s rs vs):xC P e s (r::rs) (v::vs)
theorem xC.eq{P:bA}{e:Env}{s:ASt}{rs:List ARV}{vs:List AV}(h:xC P e s rs vs):kQ P e s rs=some vs:=by
 induction h with
 |nil=>rfl
 |cons h _ ih=>simp only [kQ,h,ih]
theorem nS{P:bA}{e:Env}{L T:List Nat}{s0 s:ASt}{bs:List (Nat×dG)}{gs:List (AV×Nat×List AV)}{t sz l off:Nat}{cs:List AV}{w:Bool}{v:AV}(hS:St L T s0 s bs gs)(i:Nat)(hb:bs[i]?=some (l,.cells cs w))(ha:e t= .ptr l off)(hv:cs[off]?=some v):aCS P e s (.cell t false sz)=some v:=by
 simp only [aCS,gO,evO,ha,hS.get i hb,hv]
theorem z5{P:bA}{e:Env}{L T:List Nat}{s0 s:ASt}{bs:List (Nat×dG)}{gs:List (AV×Nat×List AV)}{t sz l off:Nat}{cs us ws:List AV}{w:Bool}(hS:St L T s0 s bs gs)(i:Nat)(hb:bs[i]?=some (l,.cells cs w))(ha:e t= .ptr l off)(hl:off+sz≤cs.length)(hu:(cs.drop off).take sz=us)(hf:Fx1 us ws):aCS P e s (.cell t true sz)=some (.agg ws):=by
 simp only [aCS,gO,evO,ha,hS.get i hb,partOf,hl,if_true,hu,hf.agg]
theorem aFC{bs:List (Nat×dG)}:aRN bs []:=fun _ h=>by cases h
def rune(t:Str)(pos:Nat):Nat×Nat:=Utf8.decode ⟨t.toArray⟩ pos
theorem aDa{α:Type}{f:α→List AV}{k:Nat}(hf: ∀x,(f x).length=k): ∀{l:List α}{n:Nat}{y:α},l[n]?=some y→((l.flatMap f).drop (n*k)).take k=f y∧n*k+k≤(l.flatMap f).length
 | [],_,_,h=>by simp at h
 |a::l,0,y,h=>by
  simp at h;subst h;simp only [Nat.zero_mul,List.drop_zero,List.flatMap_cons];exact⟨by rw [←hf a,List.take_left],by simp [hf]⟩
 |a::l,n+1,y,h=>by
  simp only [List.getElem?_cons_succ] at h;obtain⟨h1,h2⟩:=aDa hf h;simp only [List.flatMap_cons];refine⟨?_,by rw [List.length_append,hf,Nat.succ_mul];omega⟩;rw [List.drop_append];have:(f a).length≤(n+1)*k:=by rw [hf,Nat.succ_mul];omega
  rw [List.drop_eq_nil_of_le this,List.nil_append,hf,Nat.succ_mul,Nat.add_sub_cancel];exact h1
section
variable {P : bA} {e : Env} {ds : List jI} {s s1 : ASt} {Q : rP → Prop} {d : Nat} {d' : Option Nat} {rest : List AI} {pre : List Nat} {v : AV} {gd : Option (Nat × Bool)} {pd : List (Nat × Nat)}
 {L T : List Nat} {s0 : ASt} {bs : List (Nat × dG)} {gs : List (AV × Nat × List AV)}
theorem aUz{α:Type}{l:List α}{n esz:Nat}{x i:aQ}{ik:IntKind}{m:Int}{y:α}(hg:wanted e gd=some true)(hx:evO P e x= .aG v 0)(hi:evO P e i= .int ik m)(h:idx l m=some y)(hl:l.length=n)
(k:Wo P rest (aS (some d) pd) ⟨upd e d (.aG v (0+m.toNat*esz)),ds⟩ s Q):Wo P (⟨some d,.aCv n esz x i,gd,pre⟩::rest) pd ⟨e,ds⟩ s Q:=by
 refine wgp rfl hg (s1:=s) ?_ k;unfold idx at h;split at h
 ·rename_i hm;have:=(List.getElem?_eq_some_iff.1 h).1;simp [dM,bX,hx,hi,jD,hm,←hl,this]
 ·cases h
theorem aTV{α:Type}{f:α→AV}{l:List α}{esz:Nat}{a:aQ}{m:Int}{y:α}(hg:wanted e gd=some true)(ha:evO P e a= .aG v (0+m.toNat*esz))(hv:cellsOf v=l.flatMap fun x=>cellsOf (f x))(hf: ∀x,(cellsOf (f x)).length=esz)(h:idx l m=some y)
(k:Wo P rest (aS (some d) pd) ⟨upd e d (.agg (cellsOf (f y))),ds⟩ s Q):Wo P (⟨some d,.load true esz a,gd,pre⟩::rest) pd ⟨e,ds⟩ s Q:=by
 refine wgp rfl hg (s1:=s) ?_ k;unfold idx at h;split at h
 ·obtain⟨h1,h2⟩:=aDa (f:=fun x=>cellsOf (f x)) hf h;have h3:partOf true esz (cellsOf v) (0+m.toNat*esz)=some (.agg (cellsOf (f y))):=by
   rw [hv,Nat.zero_add];simp only [partOf,h1];rw [if_pos h2]
  have h4:gO P e s (.load true esz a)=some (.agg (cellsOf (f y))):=by
   simp only [gO,ha];split
   ·rename_i h0;split
    ·rename_i hl;rw [h0] at h3;simp only [partOf,List.drop_zero] at h3;rw [←hl,List.take_length] at h3;simpa using h3
    ·rw [←h0];exact h3
   ·exact h3
  simp only [dM,bX,h4]
 ·cases h
theorem St.aSp{b:dG}(h:St L T s0 s bs gs)(hb: ∀cs w,b≠ .cells cs w):St L T s0 {s with blks:=s.blks++ [b]} ((s.blks.length,b)::bs) gs:=by
 refine⟨⟨by simp;have:=h.ext.bl;omega,fun i hi hn=> ?_,h.ext.tl,h.ext.t⟩,?_,?_,?_,h.g,h.gT,h.gd,?_,?_⟩
 ·rw [←h.ext.b i hi hn];exact List.getElem?_append_left (by have:=h.ext.bl;omega)
 ·intro p hp;rcases List.mem_cons.1 hp with rfl|hp
  ·simp
  ·rw [←h.b p hp];exact List.getElem?_append_left (h.lt hp)
 ·intro p hp;rcases List.mem_cons.1 hp with rfl|hp
  ·exact .inr h.ext.bl
  ·exact h.bL p hp
 ·simp only [List.map_cons,List.nodup_cons];refine⟨fun hm=> ?_,h.nd⟩;obtain⟨p,hp,he⟩:=List.mem_map.1 hm;have:=h.lt hp;omega
 ·intro p hp hl cs' w' he;rcases List.mem_cons.1 hp with rfl|hp
  ·exact absurd he (hb cs' w')
  ·exact h.lk p hp hl cs' w' he
 ·intro p hp cs' w' he;rcases List.mem_cons.1 hp with rfl|hp
  ·exact absurd he (hb cs' w')
  ·exact h.tv p hp cs' w' he
theorem St.aNS{l:Nat}{b0 b:dG}(h:St L T s0 s bs gs)(i:Nat)(h0:bs[i]?=some (l,b0))(hb: ∀cs w,b≠ .cells cs w):St L T s0 {s with blks:=s.blks.set l b} (bs.set i (l,b)) gs:=by
 have hm:(l,b0)∈bs:=List.mem_of_getElem? h0;have hi:i<bs.length:=(List.getElem?_eq_some_iff.1 h0).1;have hbi:bs[i]=(l,b0):=(List.getElem?_eq_some_iff.1 h0).2;have hkeys:(bs.set i (l,b)).map (·.1)=bs.map (·.1):=by
  rw [List.map_set];apply List.ext_getElem?;intro k;by_cases hk:i=k
  ·subst hk;simp [hi,hbi]
  ·rw [List.getElem?_set_ne hk]
 have hne: ∀p∈bs.set i (l,b),p=(l,b)∨(p∈bs∧p.1≠l):=by
  intro p hp;obtain⟨k,hk,rfl⟩:=List.mem_iff_getElem.1 hp;by_cases hik:i=k
  ·subst hik;simp
  ·refine .inr ⟨by rw [List.getElem_set_ne hik];exact List.getElem_mem _,fun he=>hik ?_⟩;rw [List.getElem_set_ne hik] at he;simp only [List.length_set] at hk;have h1:(bs.map (·.1))[i]'(by simpa using hi)=(bs.map (·.1))[k]'(by simpa using hk):=by simp [hbi,he]
   exact(List.getElem_inj h.nd).1 h1
 have hll:l<s.blks.length:=h.lt hm;refine⟨⟨by simp;exact h.ext.bl,fun j hj hn=> ?_,h.ext.tl,h.ext.t⟩,?_,?_,by rw [hkeys];exact h.nd,h.g,h.gT,h.gd,?_,?_⟩
 ·rw [←h.ext.b j hj hn];refine List.getElem?_set_ne ?_
  rintro rfl
  rcases h.bL (l,b0) hm with h1|h1
  ·exact hn h1
  ·simp only at h1;omega
 ·intro p hp;rcases hne p hp with rfl|⟨hp,hn⟩
  ·simp [hll]
  ·rw [←h.b p hp];exact List.getElem?_set_ne (Ne.symm hn)
 ·intro p hp;rcases hne p hp with rfl|⟨hp,hn⟩
  ·exact h.bL (l,b0) hm
  ·exact h.bL p hp
 ·intro p hp hl cs' w' he;rcases hne p hp with rfl|⟨hp,hn⟩
  ·exact absurd he (hb cs' w')
  ·exact h.lk p hp hl cs' w' he
 ·intro p hp cs' w' he;rcases hne p hp with rfl|⟨hp,hn⟩
  ·exact absurd he (hb cs' w')
  ·exact h.tv p hp cs' w' he
theorem St.low{l:Nat}{b1 b2:Bool}(h:St L T s0 s bs gs):St L T s0 {s with lowB:=low b1 l s.lowB,lowT:=low b2 l s.lowT} bs gs:=
 ⟨⟨h.ext.bl,h.ext.b,h.ext.tl,h.ext.t⟩,h.b,h.bL,h.nd,h.g,h.gT,h.gd,fun p hp hl cs w he v hv t ht=>(h.lk p hp hl cs w he v hv t ht).imp aEa id,h.tv⟩
theorem s8{κ:IntKind}{x a:Int}{v:AV}{es:List (AV×AV)}(h:(x==a)=true):rI (.int κ x) ((.int κ a,v)::es)=some (some v):=by
 simp [rI,tI,h]
theorem dJ{κ:IntKind}{x a:Int}{v:AV}{es:List (AV×AV)}{r:Option (Option AV)}(h:(x==a)=false)(hr:rI (.int κ x) es=r):rI (.int κ x) ((.int κ a,v)::es)=r:=by
 simp [rI,tI,h,hr]
theorem aOL(hg:wanted e gd=some true)(hS:St L T s0 s bs gs)(k: ∀l s',St L T s0 s' ((l,.map [])::bs) gs→Wo P rest (aS (some d) pd) ⟨upd e d (.map l),ds⟩ s' Q):Wo P (⟨some d,.mkMap,gd,pre⟩::rest) pd ⟨e,ds⟩ s Q:=
 wgp rfl hg (v:= .map s.blks.length) (by simp only [dM,bX,gO,eX]) (k _ _ (hS.aSp (fun _ _ h=>by cases h)))
theorem sY{kk:KK}{m kx x:aQ}{l:Nat}{es es':List (AV×AV)}{u:AV}(i:Nat)(hg:wanted e gd=some true)(hS:St L T s0 s bs gs)(hb:bs[i]?=some (l,.map es))(hm:evO P e m= .map l)(hk:keyOf kk (evO P e kx)=true)(hv:iK (evO P e x)=some u)(hp:aEH (evO P e kx) u es=some es')
(k: ∀s',St L T s0 s' (bs.set i (l,.map es')) gs→Wo P rest (aS d' pd) ⟨fQ e d' fW,ds⟩ s' Q):Wo P (⟨d',.mC kk m kx x,gd,pre⟩::rest) pd ⟨e,ds⟩ s Q:=by
 have hget:=hS.get i hb;refine aTu (d':=d') rfl hg (v:=fW) (s1:=mM s l [u] (s.blks.set l (.map es'))) ?_ (k _ (hS.aNS i hb (b:= .map es') (fun _ _ h=>by cases h)).low);simp only [dM,bX,gO,eX,hm,hv,hget,hk,if_true,hp]
theorem z8{kk:KK}{z:AV}{m kx:aQ}{l:Nat}{es:List (AV×AV)}{r:AV}(i:Nat)(hg:wanted e gd=some true)(hS:St L T s0 s bs gs)(hb:bs[i]?=some (l,.map es))(hm:evO P e m= .map l)(hk:keyOf kk (evO P e kx)=true)(hp:rI (evO P e kx) es=some (some r))
(k:Wo P rest (aS (some d) pd) ⟨upd e d r,ds⟩ s Q):Wo P (⟨some d,.lookup false kk z m kx,gd,pre⟩::rest) pd ⟨e,ds⟩ s Q:=
 wgp rfl hg (by simp only [dM,bX,gO,hm,hS.get i hb,hk,if_true,hp]) k
theorem aRj{kk:KK}{z:AV}{m kx:aQ}{l:Nat}{es:List (AV×AV)}(i:Nat)(hg:wanted e gd=some true)(hS:St L T s0 s bs gs)(hb:bs[i]?=some (l,.map es))(hm:evO P e m= .map l)(hk:keyOf kk (evO P e kx)=true)(hp:rI (evO P e kx) es=some none)
(k:Wo P rest (aS (some d) pd) ⟨upd e d z,ds⟩ s Q):Wo P (⟨some d,.lookup false kk z m kx,gd,pre⟩::rest) pd ⟨e,ds⟩ s Q:=
 wgp rfl hg (by simp only [dM,bX,gO,hm,hS.get i hb,hk,if_true,hp]) k
theorem aN3{x:aQ}{t:Str}(hg:wanted e gd=some true)(hS:St L T s0 s bs gs)(hx:evO P e x= .str t)(k: ∀l s',St L T s0 s' ((l,.iter t 0)::bs) gs→Wo P rest (aS (some d) pd) ⟨upd e d (.iter l),ds⟩ s' Q):Wo P (⟨some d,.n4 x,gd,pre⟩::rest) pd ⟨e,ds⟩ s Q:=
 wgp rfl hg (v:= .iter s.blks.length) (by simp only [dM,bX,gO,eX,hx]) (k _ _ (hS.aSp (fun _ _ h=>by cases h)))
theorem aPJ{it:aQ}{l:Nat}{t:Str}{pos:Nat}(i:Nat)(hg:wanted e gd=some true)(hS:St L T s0 s bs gs)(hb:bs[i]?=some (l,.iter t pos))(hx:evO P e it= .iter l)
(kt:decide (pos<t.length)=true→ ∀s',St L T s0 s' (bs.set i (l,.iter t (pos+(rune t pos).2))) gs→Wo P rest (aS (some d) pd) ⟨upd e d (.tuple [.bool true,.int .i64 pos,.int .i32 (rune t pos).1]),ds⟩ s' Q)
(kf:decide (pos<t.length)=false→Wo P rest (aS (some d) pd) ⟨upd e d (.tuple [.bool false]),ds⟩ s Q):Wo P (⟨some d,.oG it,gd,pre⟩::rest) pd ⟨e,ds⟩ s Q:=by
 have hget:=hS.get i hb;by_cases hp:pos<t.length
 ·refine wgp rfl hg (v:= .tuple [.bool true,.int .i64 pos,.int .i32 (rune t pos).1]) (s1:={s with blks:=s.blks.set l (.iter t (pos+(rune t pos).2))}) ?_ (kt (decide_eq_true hp) _ (hS.aNS i hb (fun _ _ h=>by cases h)));simp only [dM,bX,gO,eX,hx,hget,if_pos hp];rfl
 ·refine wgp rfl hg (v:= .tuple [.bool false]) (s1:=s) ?_ (kf (decide_eq_false hp));simp only [dM,bX,gO,eX,hx,hget,if_neg hp]
theorem aG2{α:Type}{f:aQ}{args:List aQ}{g:Nat}{a b vs us:List AV}{vf:α→AV}{bs':α→List (Nat×dG)}{gs':α→List (AV×Nat×List AV)}{fs':α→Prop}(hg:wanted e gd=some true)(hS:St L T s0 s bs gs)(hc:Fc P (.func g) us s (aRg s vf bs' gs' fs'))
(hf:evO P e f= .func g a b)(ha:zM (args.map (evO P e)) vs)(hu:a++vs++b=us)
(k: ∀s' x,fs' x→St L T s0 s' (bs' x++bs) (gs' x++gs)→Wo P rest (aS d' pd) ⟨fQ e d' (vf x),ds⟩ s' Q):Wo P (⟨d',.call f args,gd,pre⟩::rest) pd ⟨e,ds⟩ s Q:=by
 refine aBo (a:=a) (b:=b) hg (by rw [hf];rfl) (ha.vs s) ?_;rw [hu];refine hc.ev.mono ?_
 rintro ⟨r,s'⟩ ⟨x,h1,h2,h3,h4⟩
 simp only at h1;subst h1;exact k s' x h3 (hS.cU h4 h2)
end
def aTb:dO→Option DM
 | .normal| .ret=>some .ret
 | .panic v=>some (.pan v)
 | .exit _=>none
structure aQE(P:bA)(g:Nat)(us:List AV)(m:DM)(s:ASt)(Q:DM→ASt→Prop):Prop where
 ev:Ev (fun n=>(cU P n).dcall g us m s) (fun r=>Q r.1 r.2)
def aTx(P:bA)(af:AF)(Q:AV→ASt→Prop):dO→Fr→ASt→Prop:=fun ex fr s=>
 ∃m g us,aTb ex=some m∧fr.ds= [.call g us]∧aQE P g us m s (fun m' s'=>m'= .ret∧aK8 P af Q fr.env s')
theorem aUM{P:bA}{g:Nat}{af:AF}{args:List AV}{s:ASt}{Q0:AV→ASt→Prop}{Q:kO→ASt→Prop}(h0:P.prim g=none)(h:P.fn g=some af)(hn:Nat.ble args.length af.nt=true)
(hQ: ∀v1 s3,Q0 v1 s3→Q (.ret (settle s v1 s3).1) (settle s v1 s3).2)(k:Wk P none af.body ⟨hJ args,[]⟩ (aU s) (aTx P af Q0)):Fc P (.func g) args s Q:=by
 refine⟨Ev.succ ?_⟩;obtain⟨⟨ex,fr,s1⟩,N,⟨m,g',us,hm,hd,hf⟩,h3⟩:=k.ev.out;obtain⟨⟨m',s2⟩,M,⟨hm',vs,v1,s3,h4,h5,h6⟩,h7⟩:=hf.ev.out;simp only at hm hd hm' h4 h5 h7;subst hm';refine⟨((.ret (settle s v1 s3).1),(settle s v1 s3).2),max N M,hQ _ _ h6,fun n hn'=> ?_⟩;have e1:evC (cU P n) P none n af.body ⟨hJ args,[]⟩ (aU s)=some ⟨ex,fr,s1⟩:=h3 n (by omega);have e2:iX (cU P n) fr.ds m s1=some (.ret,s2):=by rw [hd];simp only [iX,h7 n (by omega)]
 simp only [cU,h0,h,aBI,hn,e1];cases ex with
 |normal=>cases hm;simp only [e2,h4,h5]
 |ret=>cases hm;simp only [e2,h4,h5]
 |exit i=>cases hm
 |panic v=>cases hm;simp only [e2,h4,h5]
theorem aR3{α:Type}{s:ASt}{P:bA}{g:Nat}{af:AF}{args:List AV}{v:α→AV}{bs:α→List (Nat×dG)}{gs:α→List (AV×Nat×List AV)}{fs:α→Prop}(hs: ∀a,u9 (v a)=false)(hl: ∀a,pA (v a)=true)(he: ∀a,bs a= []→gs a= [])(h0:P.prim g=none)(h:P.fn g=some af)(hn:Nat.ble args.length af.nt=true)
(k:Wk P none af.body ⟨hJ args,[]⟩ (aU s) (aTx P af (NQ s v bs gs fs))):Fc P (.func g) args s (aRg s v bs gs fs):=
 aUM h0 h hn (fun _ _ hq=>hq.out hs hl he) k
def aSd{α:Type}(s:ASt)(L T:List Nat)(bs:α→List (Nat×dG))(gs:α→List (AV×Nat×List AV))(fs:α→Prop):DM→ASt→Prop:=fun m' s'=>
 m'= .ret∧(∀n,n≤s.blks.length→cW n s.lowT=true→cW n s'.lowT=true)∧ ∃a,fs a∧St L T s s' (bs a) (gs a)
theorem aVk{α:Type}{P:bA}{af:AF}{Q0:AV→ASt→Prop}{ex:dO}{fr:Fr}{s0 s:ASt}{L T L' T':List Nat}{m:DM}{g:Nat}{us:List AV}{bs1 bs2:List (Nat×dG)}{gs1 gs2:List (AV×Nat×List AV)}{bs':α→List (Nat×dG)}{gs':α→List (AV×Nat×List AV)}{fs':α→Prop}
(hm:aTb ex=some m)(hd:fr.ds= [.call g us])(hS:St L T s0 s (bs1++bs2) (gs1++gs2))(hc:Kn s bs1 gs1→aQE P g us m s (aSd s L' T' bs' gs' fs'))(hL:L'=fR bs1)(hT:T'=dA gs1)(hk: ∀a,fR (bs' a)=fR bs1)
(k: ∀s' x,fs' x→St L T s0 s' (bs' x++bs2) (gs' x++gs2)→aK8 P af Q0 fr.env s'):aTx P af Q0 ex fr s:=by
 have hK:Kn s bs1 gs1:=(hS.less (List.sublist_append_left _ _) (List.sublist_append_left _ _)).kn;refine⟨m,g,us,hm,hd,⟨(hc hK).ev.mono ?_⟩⟩
 rintro ⟨m',s'⟩ ⟨h1,h2,x,hF,h3⟩
 exact⟨h1,k s' x hF (hS.call hL hT h3 h2 (hk x))⟩
structure Wd(P:bA)(c:AC)(fr:Fr)(rc:RC)(s:ASt)(Q:dO→Fr→RC→ASt→Prop):Prop where
 ev:Ev (fun n=>evD (cU P n) P n c fr rc s) (fun r=>Q r.1 r.2.1 r.2.2.1 r.2.2.2)
def aUZ(k:Fr→RC→ASt→Prop)(Q:dO→Fr→RC→ASt→Prop):dO→Fr→RC→ASt→Prop
 | .normal,fr,rc,s=>k fr rc s
 |e,fr,rc,s=>Q e fr rc s
section
variable {P : bA} {fr : Fr} {rc : RC} {s : ASt} {Q : dO → Fr → RC → ASt → Prop}
theorem aPh{a b:AC}(h:Wd P a fr rc s (aUZ (fun fr rc s=>Wd P b fr rc s Q) Q)):Wd P (.seq a b) fr rc s Q:=by
 obtain⟨⟨ex,fr1,rc1,s1⟩,N,h1,h2⟩:=h.ev.out;cases ex with
 |normal=>
  obtain⟨r,M,h3,h4⟩:=(h1:Wd P b fr1 rc1 s1 Q).ev.out;exact⟨⟨r,max N M,h3,fun n hn=>by simp only [evD,h2 n (by omega)];exact h4 n (by omega)⟩⟩
 |exit id=>exact⟨⟨⟨.exit id,fr1,rc1,s1⟩,N,h1,fun n hn=>by simp only [evD,h2 n hn]⟩⟩
 |ret=>exact⟨⟨⟨.ret,fr1,rc1,s1⟩,N,h1,fun n hn=>by simp only [evD,h2 n hn]⟩⟩
 |panic v=>exact⟨⟨⟨.panic v,fr1,rc1,s1⟩,N,h1,fun n hn=>by simp only [evD,h2 n hn]⟩⟩
theorem aP3{ops:List AI}{fr':Fr}{rc':RC}{s':ASt}(h0:aIX ops=true)(h:tJ P ops fr rc s=some (fr',rc',s'))(k:Q .normal fr' rc' s'):Wd P (.reg false ops) fr rc s Q:=
 ⟨.one (r:=(.normal,fr',rc',s')) (fun n=>by simp only [evD,h0,h]) k⟩
theorem aVd{c:AC}(h0: ∀H n,evD H P n c fr rc s=(match evC H P none n c fr s with|some r=>some (r.ex,r.fr,rc,r.s)|none=>none))(k:Wk P none c fr s (fun ex fr s=>Q ex fr rc s)):Wd P c fr rc s Q:=by
 obtain⟨⟨ex,fr1,s1⟩,N,h1,h2⟩:=k.ev.out;exact⟨⟨⟨ex,fr1,rc,s1⟩,N,h1,fun n hn=>by rw [h0,h2 n hn]⟩⟩
def isRec:RC→Bool
 | .pan _=>false
 |_=>true
def aVU(af:AF)(X:ASt→Prop):dO→Fr→RC→ASt→Prop:=fun ex fr rc s=>aNE ex=true∧fr.ds= []∧isRec rc=true∧af.res= []∧X s
theorem aMX{α:Type}{g:Nat}{af:AF}{us:List AV}{m:DM}{L T:List Nat}{bs0:List (Nat×dG)}{gs0:List (AV×Nat×List AV)}{bs:α→List (Nat×dG)}{gs:α→List (AV×Nat×List AV)}{fs:α→Prop}(hK:Kn s bs0 gs0)(hkeys: ∀a,fR (bs a)=fR bs0)(hin: ∀a,aRN (bs a) (gs a))(h:P.fn g=some af)(hn:Nat.ble us.length af.nt=true)
(k:Wd P af.body ⟨hJ us,[]⟩ (aTD m) (aU s) (aVU af (RX s L T bs gs fs))):aQE P g us m s (aSd s L T bs gs fs):=by
 refine⟨Ev.succ ?_⟩;obtain⟨⟨ex,⟨e,ds⟩,rc,s1⟩,N,⟨h1,h2,h4,h5,a,hF,h6⟩,h3⟩:=k.ev.out;simp only at h1 h2 h4 h6;subst h2;have hsub: ∀p∈bs a,∃q∈bs0,q.1=p.1:=fun p hp=>List.mem_map.1 (hkeys a▸List.mem_map.2 ⟨p,hp,rfl⟩:p.1∈fR bs0);have hst:=h6.settle .eH (fun p hp=>by
   obtain⟨q,hq,he⟩:=hsub p hp;rw [←he];exact(List.getElem?_eq_some_iff.1 (hK.b q hq)).1) (fun p hp cs0 w0 hc v hv t ht=>by
   obtain⟨q,hq,he⟩:=hsub p hp;have:=hK.b q hq;rw [he,hc,Option.some.injEq] at this;exact hK.tv q hq cs0 w0 this.symm v hv t ht) (hin a)
 refine⟨(.ret,fL s false (dS s false s1)),N,⟨rfl,fun n _ hl=>sV n hl,a,hF,hst⟩,fun n hn'=> ?_⟩;have e1:=h3 n hn';simp only [cU,h,aDD,hn,e1,h5];cases ex with
 |exit i=>cases h1
 |panic v=>cases h1
 |normal=>cases rc<;>first|rfl|cases h4
 |ret=>cases rc<;>first|rfl|cases h4
end
theorem aQq{P:bA}{e:Env}{ds:List jI}{s:ASt}{Q:rP→Prop}{d':Option Nat}{rest:List AI}{pre:List Nat}{pd:List (Nat×Nat)}{f:aQ}{args:List aQ}{g:Nat}{a b vs us:List AV}(hf:evO P e f= .func g a b)(ha:zM (args.map (evO P e)) vs)(hu:a++vs++b=us)(k:Wo P rest (aS d' pd) ⟨fQ e d' fW,.call g us::ds⟩ s Q):
  Wo P (⟨d',.defer f args,none,pre⟩::rest) pd ⟨e,ds⟩ s Q:=by subst hu;exact aQy hf ha.eq k
section
variable {P : bA} {e : Env} {s : ASt}
theorem aQO{esz bytes:Nat}{z:List AV}{l c:aQ}{n m:Nat}(hl:jD (evO P e l)=some n)(hc:jD (evO P e c)=some m)(h1:n≤m)(h2:m*bytes≤big)(h3:m≤big):
  dM P e s (.mkSlice esz bytes z l c)=some (.cQ s.blks.length 0 n m esz,{s with blks:=s.blks++ [.cells (aFz m z) true]}):=by
 simp [dM,bX,gO,eX,hl,hc,h1,h2,h3]
theorem aNL{esz:Nat}{d x:aQ}{l off len cap:Nat}{cs ys:List AV}(hd:evO P e d= .cQ l off len cap esz)(hy:elems s esz (evO P e x)=some ys)(hb:s.blks[l]?=some (.cells cs true))(h1:off+len*esz≤cs.length)(h2:(lG (ys.take len)).length=min ys.length len*esz):
  dM P e s (.copy esz d x)=some (.int .i64 (min ys.length len:Nat),mM s l (lG (ys.take len)) (s.blks.set l (.cells (gK cs off (lG (ys.take len))) true))):=by
 simp [dM,bX,gO,eX,hd,hy,hb,h1,h2]
theorem aOl{tk:Bool}{esz bytes:Nat}{a x:aQ}{l off len cap:Nat}{cs ys:List AV}(ht:tk=false)(ha:evO P e a= .cQ l off len cap esz)(hy:elems s esz (evO P e x)=some ys)(hn:ys≠ [])(h1:(len+ys.length)*bytes≤big)(h2:len+ys.length≤big)(h0:0<esz)(hc:len+ys.length≤cap)
(hb:s.blks[l]?=some (.cells cs true))(h3:off+(len+ys.length)*esz≤cs.length)(h4:(lG ys).length=ys.length*esz):
  dM P e s (.append tk esz bytes a x)=some (.cQ l off (len+ys.length) cap esz,mM s l (lG ys) (s.blks.set l (.cells (gK cs (off+len*esz) (lG ys)) true))):=by
 subst ht;cases ys with
 |nil=>exact absurd rfl hn
 |cons y ys=>
  simp only [List.length_cons] at h1 h2 hc h3 h4;simp [dM,bX,gO,eX,ha,hy,h0,h1,h2,hc,hb,h3,h4]
end
def eU:Option Nat→LSt
 |none=> .ready
 |some _=> .done
def bR:Option Nat→Option dO
 |none=>none
 |some 0=>some .ret
 |some (i+1)=>some (.exit i)
theorem aN2(o:Option Nat):eU o≠ .busy:=by cases o<;>simp [eU]
section
variable {P : bA} {s0 s : ASt} {L T : List Nat} {bs : List (Nat × dG)} {gs : List (AV × Nat × List AV)}
theorem Kn.st(h:Kn s bs gs):St (fR bs) (dA gs) s s bs gs:=by
 refine⟨.refl _ _ _,h.b,fun p hp=> .inl (List.mem_map.2 ⟨p,hp,rfl⟩),h.nd,h.g,fun t ht=> .inl ht,h.gd,?_,h.tv⟩;intro p hp _ cs w he v hv t ht;exact .inr ⟨cs,w,by rw [←he];exact h.b p hp,hv⟩
def aT6(l:Nat)(Q:kO→ASt→Prop):dO→Fr→ASt→Prop:=fun ex fr s3=>fr.ds= []∧
 match ex with
 | .panic v=>Q (.panic v) s3
 | .normal=> ∃s4,eR s3 l (fun lp=>{lp with st:= .ready,pend:=none})=some s4∧Q (.ret (.bool true)) s4
 |ex=> ∃s4,eR s3 l (fun lp=>{lp with st:= .done,pend:=some ex})=some s4∧Q (.ret (.bool false)) s4
def aRw(P:bA)(l:Nat)(body:AC)(Q:kO→ASt→Prop):dO→Fr→ASt→Prop:=fun ex fr s1=>ex= .normal∧fr.ds= []∧ ∃s2,j6 s1 l=some s2∧Wk P (some l) body fr s2 (aT6 l Q)
theorem yX{l:Nat}{args:List AV}{lp:xR}{Q:kO→ASt→Prop}(hb:s.blks[l]?=some (.loop lp))(hr:lp.st= .ready)(hn:args.length=lp.params.length)
(k:Wk P (some l) lp.assign ⟨oP lp.env lp.params args,[]⟩ s (aRw P l lp.body Q)):Fc P (.yield l) args s Q:=by
 refine⟨Ev.succ ?_⟩;obtain⟨⟨ex,⟨e1,ds1⟩,s1⟩,N,⟨h1,h2,s2,h3,h4⟩,h5⟩:=k.ev.out;simp only at h1 h2 h3 h5;subst h1 h2;obtain⟨⟨ex,⟨e3,ds3⟩,s3⟩,M,⟨h6,h7⟩,h8⟩:=h4.ev.out;simp only at h6 h7 h8;subst h6;cases ex with
 |panic v=>
  refine⟨(.panic v,s3),max N M,h7,fun n hn'=> ?_⟩;simp only [cU,p7,hb,hr,hn,decide_true,h5 n (by omega),h3,h8 n (by omega)]
 |normal=>
  obtain⟨s4,h9,h10⟩:=h7;refine⟨(.ret (.bool true),s4),max N M,h10,fun n hn'=> ?_⟩;simp only [cU,p7,hb,hr,hn,decide_true,h5 n (by omega),h3,h8 n (by omega),h9]
 |exit i=>
  obtain⟨s4,h9,h10⟩:=h7;refine⟨(.ret (.bool false),s4),max N M,h10,fun n hn'=> ?_⟩;simp only [cU,p7,hb,hr,hn,decide_true,h5 n (by omega),h3,h8 n (by omega),h9]
 |ret=>
  obtain⟨s4,h9,h10⟩:=h7;refine⟨(.ret (.bool false),s4),max N M,h10,fun n hn'=> ?_⟩;simp only [cU,p7,hb,hr,hn,decide_true,h5 n (by omega),h3,h8 n (by omega),h9]
theorem St.j6{l:Nat}{lp:xR}(h:St L T s0 s bs gs)(i:Nat)(hb:bs[i]?=some (l,.loop lp))(hr:lp.st= .ready): ∃s2,Fw.j6 s l=some s2∧St L T s0 s2 (bs.set i (l,.loop {lp with st:= .busy})) gs:=
 ⟨_,by simp only [Fw.j6,h.get i hb,hr],h.aNS i hb (fun _ _ h=>by cases h)⟩
theorem St.eR{l:Nat}{lp:xR}(h:St L T s0 s bs gs)(i:Nat)(hb:bs[i]?=some (l,.loop lp))(f:xR→xR): ∃s2,Fw.eR s l f=some s2∧St L T s0 s2 (bs.set i (l,.loop (f lp))) gs:=
 ⟨_,by simp only [Fw.eR,h.get i hb],h.aNS i hb (fun _ _ h=>by cases h)⟩
theorem St.aBq{l:Nat}{b0 b1:dG}(h:St L T s0 s bs gs)(i:Nat)(hb:bs[i]?=some (l,b0))(he:b0=b1):St L T s0 s (bs.set i (l,b1)) gs:=by
 subst he;have:bs.set i (l,b0)=bs:=by
  obtain⟨hi,he⟩:=List.getElem?_eq_some_iff.1 hb;rw [←he];exact List.set_getElem_self hi
 rw [this];exact h
theorem aTz{n:Nat}{g:AFn}{args:List AV}{r:kO×ASt}(hp:P.prim=fun _=>none)(h:(cU P n).call g args s=some r): ∀m,m≤s.blks.length→cW m s.lowT=true→cW m r.2.lowT=true:=by
 intro m hm hl;have hlow:=(aCn (P:=P) (fun f p hf=>by rw [hp] at hf;cases hf) n).call g args s r.1 r.2 (by rw [h]);cases hq:cW m r.2.lowT with
 |true=>rfl
 |false=>have:=(hlow.T m hm hq).1;rw [hl] at this;cases this
theorem Fc.low{g:AFn}{args:List AV}{Q:kO→ASt→Prop}(hp:P.prim=fun _=>none)(h:Fc P g args s Q):Fc P g args s (fun o s'=>Q o s'∧ ∀m,m≤s.blks.length→cW m s.lowT=true→cW m s'.lowT=true):=by
 obtain⟨r,N,h1,h2⟩:=h.ev.out;exact⟨⟨r,N,⟨h1,aTz hp (h2 N (Nat.le_refl _))⟩,h2⟩⟩
def aOs{α:Type}(s:ASt)(L T:List Nat)(b:Bool)(bs:α→List (Nat×dG))(gs:α→List (AV×Nat×List AV))(fs:α→Prop):kO→ASt→Prop:=fun o s'=>o= .ret (.bool b)∧ ∃a,fs a∧St L T s s' (bs a) (gs a)
theorem aOs.reg{α:Type}{g:AFn}{args:List AV}{b:Bool}{bs:α→List (Nat×dG)}{gs:α→List (AV×Nat×List AV)}{fs:α→Prop}(hp:P.prim=fun _=>none)(h:Fc P g args s (aOs s L T b bs gs fs)):Fc P g args s (nV s L T (.bool b) bs gs fs):=
 (h.low hp).mono fun o s' hq=>by
  obtain⟨⟨h1,a,hF,h2⟩,h3⟩:=hq;exact⟨.bool b,h1,rfl,fun _=>rfl,h3,a,hF,h2⟩
def aR4(s:ASt)(L T:List Nat)(v:AV):kO→ASt→Prop:=fun o s'=>o= .panic v∧Ext L T s s'
theorem aR4.pan{g:AFn}{args:List AV}{v:AV}(hp:P.prim=fun _=>none)(h:Fc P g args s (aR4 s L T v)):Fc P g args s (xW s L T v):=
 (h.low hp).mono fun o s' hq=>⟨hq.1.1,hq.2,hq.1.2⟩
theorem aGN{α R Pn:Type}{g:AFn}{args:List AV}(r:Ctl R Pn){b:R→Bool}{pv:Pn→AV}{bs:R→α→List (Nat×dG)}{gs:R→α→List (AV×Nat×List AV)}{fs:R→α→Prop}(hp:P.prim=fun _=>none)(h:Fc P g args s (aAb r (fun q=>aOs s L T (b q) (bs q) (gs q) (fs q)) (fun p=>aR4 s L T (pv p)))):
  Fc P g args s (aAb r (fun q=>nV s L T (.bool (b q)) (bs q) (gs q) (fs q)) (fun p=>xW s L T (pv p))):=by
 cases r with
 |ret q=>exact aOs.reg hp h
 |nx p=>exact aR4.pan hp h
theorem yP{rd:Option Nat}{f:aQ}{params:List Nat}{assign body:AC}{fr:Fr}{Q:dO→Fr→ASt→Prop}{g:Nat}{a b:List AV}{l:Nat}{mk:List jI}{s1:ASt}(hlay:sL rd params assign body fr s=some (l,mk,s1))(hf:evO P fr.env f= .func g a b)(hb:aBN P g=true)
(hc:Fc P (.func g) (a++ .yield l::b) s1 (fun o s2=>match o with
   | .ret _=> ∃lp,s2.blks[l]?=some (.loop lp)∧lp.st≠ .busy∧Q (lp.pend.getD .normal) {fr with ds:=mk++fr.ds} {s2 with blks:=s2.blks.set l (.loop {lp with st:= .exhausted})}
   | .panic v=>Q (.panic v) {fr with ds:=mk++fr.ds} s2)):Wk P rd (.nU f params assign body) fr s Q:=by
 obtain⟨⟨r,s2⟩,N,h1,h2⟩:=hc.ev.out;cases r with
 |ret v=>
  obtain⟨lp,h3,h4,h5⟩:=h1;refine⟨⟨⟨lp.pend.getD .normal,{fr with ds:=mk++fr.ds},{s2 with blks:=s2.blks.set l (.loop {lp with st:= .exhausted})}⟩,N,h5,fun n hn=> ?_⟩⟩;simp only at h3;simp only [evC,hlay,hf,hb,h2 n hn,h3]
 |panic v=>exact⟨⟨⟨.panic v,_,s2⟩,N,h1,fun n hn=>by simp only [evC,hlay,hf,hb,h2 n hn]⟩⟩
theorem yY{params:List Nat}{assign body:AC}{fr:Fr}(h:St L T s0 s bs gs): ∃q l s1,sL none params assign body fr s=some (l,[.mark q],s1)∧St L T s0 s1 ((l,.loop ⟨.ready,none,fr.env,q,params,assign,body⟩)::(q,.tW)::bs) gs:=by
 refine⟨s.blks.length,s.blks.length+1,_,rfl,?_⟩;have h1:=h.aSp (b:= .tW) (fun _ _ h=>by cases h);have h2:=h1.aSp (b:= .loop ⟨.ready,none,fr.env,s.blks.length,params,assign,body⟩) (fun _ _ h=>by cases h);have he:(s.blks++ [dG.tW]).length=s.blks.length+1:=by simp
 simp only [he] at h2;have:s.blks++ [dG.tW]++ [dG.loop ⟨.ready,none,fr.env,s.blks.length,params,assign,body⟩]=s.blks++ [dG.tW,dG.loop {st:= .ready,pend:=none,env:=fr.env,dq:=s.blks.length,params:=params,assign:=assign,body:=body}]:=by simp
 rw [this] at h2;exact h2
theorem qQ{α:Type}{v:AV}{L' T':List Nat}{l q:Nat}{e:Env}{params:List Nat}{assign body:AC}{pd:Option Nat}{Q:dO→Fr→ASt→Prop}{fr:Fr}{bs1 bs2:List (Nat×dG)}{gs1 gs2:List (AV×Nat×List AV)}{bs':α→List (Nat×dG)}{gs':α→List (AV×Nat×List AV)}{fs':α→Prop}{ex:dO}
(hS:St L T s0 s (bs1++bs2) (gs1++gs2)){g:AFn}{us:List AV}(hc:Kn s bs1 gs1→Fc P g us s (nV s L' T' v (fun a=>(l,.loop ⟨eU pd,bR pd,e,q,params,assign,body⟩)::bs' a) gs' fs'))(hL:L'=fR bs1)(hT:T'=dA gs1)(hk: ∀a,l::fR (bs' a)=fR bs1)(hx:(bR pd).getD .normal=ex)
(k: ∀s' x,fs' x→St L T s0 s' (bs' x++bs2) (gs' x++gs2)→Q ex fr s'):
  Fc P g us s (fun o s2=>match o with
   | .ret _=> ∃lp,s2.blks[l]?=some (.loop lp)∧lp.st≠ .busy∧Q (lp.pend.getD .normal) fr {s2 with blks:=s2.blks.set l (.loop {lp with st:= .exhausted})}
   | .panic v=>Q (.panic v) fr s2):=by
 have hK:Kn s bs1 gs1:=(hS.less (List.sublist_append_left _ _) (List.sublist_append_left _ _)).kn;refine(hc hK).mono ?_
 rintro r s' ⟨v0,h1,h2,h2',h3,x,hF,h4⟩
 subst h1;have h5:=hS.call hL hT h4 h3 (hk x);refine⟨_,h5.get 0 rfl,aN2 pd,?_⟩;have h6:=h5.aNS 0 rfl (b:= .loop {st:= .exhausted,pend:=bR pd,env:=e,dq:=q,params:=params,assign:=assign,body:=body}) (fun _ _ h=>by cases h);have h7:St L T s0 _ (bs' x++bs2) (gs' x++gs2):=h6.less (List.sublist_cons_self _ _) (.refl _);show Q ((bR pd).getD .normal) fr _;rw [hx];exact k _ x hF h7
theorem aCz{v:AV}{L' T':List Nat}{l:Nat}{Q:dO→Fr→ASt→Prop}{fr:Fr}{bs1 bs2:List (Nat×dG)}{gs1 gs2:List (AV×Nat×List AV)}
(hS:St L T s0 s (bs1++bs2) (gs1++gs2)){g:AFn}{us:List AV}(hc:Kn s bs1 gs1→Fc P g us s (xW s L' T' v))(hL:L'=fR bs1)(hT:T'=dA gs1)
(k: ∀s',St L T s0 s' bs2 gs2→Q (.panic v) fr s'):
  Fc P g us s (fun o s2=>match o with
   | .ret _=> ∃lp,s2.blks[l]?=some (.loop lp)∧lp.st≠ .busy∧Q (lp.pend.getD .normal) fr {s2 with blks:=s2.blks.set l (.loop {lp with st:= .exhausted})}
   | .panic v=>Q (.panic v) fr s2):=by
 have hK:Kn s bs1 gs1:=(hS.less (List.sublist_append_left _ _) (List.sublist_append_left _ _)).kn;refine(hc hK).mono ?_
 rintro r s' ⟨h1,h2,h3⟩
 subst h1;exact k _ (hS.panicked hL hT h3 h2)
theorem St.mark{q:Nat}(h:St L T s0 s bs gs)(i:Nat)(hb:bs[i]?=some (q,.tW)): ∃s1,St L T s0 s1 (bs.set i (q,.dead)) gs∧ ∀{ds:List jI}{m:DM}{s2:ASt},(∀H,iX H ds m s1=some (m,s2))→ ∀H,iX H (.mark q::ds) m s=some (m,s2):=
 ⟨_,h.aNS i hb (b:= .dead) (fun _ _ h=>by cases h),fun hd H=>by simp only [iX,h.get i hb];exact hd H⟩
end
theorem aFd{P:bA}{rd:Option Nat}{s:ASt}{ds:List jI}{c:AC}{S:List (Nat×AV)}{Q:dO→Fr→ASt→Prop}{e0:Env}(hh:aAx e0 S)(h: ∀e,Wk P rd c ⟨bB e S,ds⟩ s Q):Wk P rd c ⟨e0,ds⟩ s Q:=by
 have:=h e0;rwa [hh.bB] at this
end Go.Fw
set_option maxRecDepth 100000
namespace Go.Proofs.YtelnnehpbkainaaGreatDoor
open Go Go.Fw
mutual
inductive Arm where
 |mk (op:Str) (names:(List Str)) (body:Expr)
inductive Expr where
 |mk (kind:Int) (n:Int) (s:Str) (t:Str) (names:(List Str)) (l:(List Expr)) (aT:(List Arm))
end
def Arm.op:Arm→Str| .mk x _ _=>x
def Arm.names:Arm→(List Str)| .mk _ x _=>x
def Arm.body:Arm→Expr| .mk _ _ x=>x
def Expr.kind:Expr→Int| .mk x _ _ _ _ _ _=>x
def Expr.n:Expr→Int| .mk _ x _ _ _ _ _=>x
def Expr.s:Expr→Str| .mk _ _ x _ _ _ _=>x
def Expr.t:Expr→Str| .mk _ _ _ x _ _ _=>x
def Expr.names:Expr→(List Str)| .mk _ _ _ _ x _ _=>x
def Expr.l:Expr→(List Expr)| .mk _ _ _ _ _ x _=>x
def Expr.aT:Expr→(List Arm)| .mk _ _ _ _ _ _ x=>x
mutual
def nL:Arm→List AV
 | .mk x0 x1 x2=>([(.str x0)])++([(slA 1 (x1.map AV.str))])++(kF x2)
def kF:Expr→List AV
 | .mk x0 x1 x2 x3 x4 x5 x6=>([(.int .i64 x0)])++([(.int .i64 x1)])++([(.str x2)])++([(.str x3)])++([(slA 1 (x4.map AV.str))])++([slA 7 (rJ x5)])++([slA 9 (uR x6)])
def uR:List Arm→List AV
 | []=> []
 |x::r=> .agg (nL x)::uR r
def rJ:List Expr→List AV
 | []=> []
 |x::r=> .agg (kF x)::rJ r
end
def aZ(x:Arm):AV:= .agg (nL x)
def aP(x:Expr):AV:= .agg (kF x)
theorem rL: ∀l:List Arm,uR l=l.map aZ
 | []=>by simp only [uR,List.map_nil]
 |x::r=>by simp only [uR,List.map_cons,rL r];rfl
theorem pP: ∀l:List Expr,rJ l=l.map aP
 | []=>by simp only [rJ,List.map_nil]
 |x::r=>by simp only [rJ,List.map_cons,pP r];rfl
abbrev gJ(x:Arm):AV:= .agg [(.str x.op),(slA 1 (x.names.map AV.str)),(.int .i64 x.body.kind),(.int .i64 x.body.n),(.str x.body.s),(.str x.body.t),(slA 1 (x.body.names.map AV.str)),(slA 7 (x.body.l.map aP)),(slA 9 (x.body.aT.map aZ))]
abbrev aM(x:Expr):AV:= .agg [(.int .i64 x.kind),(.int .i64 x.n),(.str x.s),(.str x.t),(slA 1 (x.names.map AV.str)),(slA 7 (x.l.map aP)),(slA 9 (x.aT.map aZ))]
theorem uS(x:Expr):kF x= [(.int .i64 x.kind),(.int .i64 x.n),(.str x.s),(.str x.t),(slA 1 (x.names.map AV.str)),(slA 7 (x.l.map aP)),(slA 9 (x.aT.map aZ))]:=by cases x;simp only [kF,rL,pP];rfl
theorem bN(x:Expr):aP x=aM x:=congrArg AV.agg (uS x)
theorem aG6(x:Arm):nL x= [(.str x.op),(slA 1 (x.names.map AV.str)),(.int .i64 x.body.kind),(.int .i64 x.body.n),(.str x.body.s),(.str x.body.t),(slA 1 (x.body.names.map AV.str)),(slA 7 (x.body.l.map aP)),(slA 9 (x.body.aT.map aZ))]:=by cases x;simp only [nL,rL,pP,uS];rfl
theorem fD(x:Arm):aZ x=gJ x:=congrArg AV.agg (aG6 x)
theorem aSI(x:Expr):(cellsOf (aP x)).length=7:=by rw [bN];rfl
theorem aQ5(l:List Expr):l.map aM=l.map aP:=List.map_congr_left fun x _=>(bN x).symm
mutual
theorem aNh: ∀x:Arm,fH (nL x)=true
 | .mk x0 x1 x2=>by simp only [nL];exact m9 (m9 (wE (rfl)) (wE ((iC (fun _=>rfl) _)))) (aFo x2)
theorem aFo: ∀x:Expr,fH (kF x)=true
 | .mk x0 x1 x2 x3 x4 x5 x6=>by simp only [kF];exact m9 (m9 (m9 (m9 (m9 (m9 (wE (rfl)) (wE (rfl))) (wE (rfl))) (wE (rfl))) (wE ((iC (fun _=>rfl) _)))) (wE (aHK x5))) (wE (aMN x6))
theorem aMN: ∀l:List Arm,fH (uR l)=true
 | []=>by simp only [uR];rfl
 |x::r=>by simp only [uR];exact PuL.eq (.cons (aNh x) (aLx (aMN r)))
theorem aHK: ∀l:List Expr,fH (rJ l)=true
 | []=>by simp only [rJ];rfl
 |x::r=>by simp only [rJ];exact PuL.eq (.cons (aFo x) (aLx (aHK r)))
end
theorem aHt(x:Arm):dC (aZ x)=true:=aNh x
theorem aDV(x:Arm):Fw.Can (gJ x):=⟨rfl,by rw [←fD];exact aHt x⟩
theorem aHf(x:Expr):dC (aP x)=true:=aFo x
theorem cC(x:Expr):Fw.Can (aM x):=⟨rfl,by rw [←bN];exact aHf x⟩
structure aH3 where
 e0:Int
 e1:Int
structure aBZ where
 e:Int
abbrev aDh(x:aBZ):AV:= .agg [(.int .i64 x.e)]
structure mA where
 k:Str
 sites:(List (List Int))
 aAr:aH3
structure lB where
 path:(List Int)
abbrev tV(x:lB):AV:= .agg [(slA 1 (x.path.map (AV.int .i64)))]
structure aE where
 expr:Expr
 path:(List Int)
abbrev aD(x:aE):AV:= .agg [(.int .i64 x.expr.kind),(.int .i64 x.expr.n),(.str x.expr.s),(.str x.expr.t),(slA 1 (x.expr.names.map AV.str)),(slA 7 (x.expr.l.map aP)),(slA 9 (x.expr.aT.map aZ)),(slA 1 (x.path.map (AV.int .i64)))]
abbrev aDZ(x:aE):AV:=aD x
theorem aD8(x:aE):dC (aDZ x)=true:=aLQ (.cons rfl (.cons rfl (.cons rfl (.cons rfl (.cons (iC (fun _=>rfl) _) (.cons (iC aHf _) (.cons (iC aHt _) (.cons (iC (fun _=>rfl) _) (.nil)))))))))
theorem fG(x:aE):Fw.Can (aD x):=⟨rfl,aD8 x⟩
structure aH where
 s:Int
 t:Int
 names:Int
 l:Int
 aT:Bool
 low:Int
 high:Int
abbrev aR(x:aH):AV:= .agg [(.int .i64 x.s),(.int .i64 x.t),(.int .i64 x.names),(.int .i64 x.l),(.bool x.aT),(.int .i64 x.low),(.int .i64 x.high)]
abbrev eG(x:aH):AV:=aR x
theorem xU(x:aH):dC (eG x)=true:=aLQ (.cons rfl (.cons rfl (.cons rfl (.cons rfl (.cons rfl (.cons rfl (.cons rfl (.nil))))))))
theorem xV(x:aH):(cellsOf (eG x)).length=7:=rfl
structure aL where
 left:Int
 deep:Int
abbrev j1(x:aL):AV:= .agg [(.int .i64 x.left),(.int .i64 x.deep)]
abbrev aBC(x:aL):AV:=j1 x
theorem aBm(x:aL):dC (aBC x)=true:=aLQ (.cons rfl (.cons rfl (.nil)))
theorem aA8(x:aL):Fw.Can (j1 x):=⟨rfl,aBm x⟩
structure bO where
 s:Int
 t:Int
 names:Int
 more:Int
 parts:Int
 plus:Int
 aT:Bool
 low:Int
 high:Int
abbrev gI(x:bO):AV:= .agg [(.int .i64 x.s),(.int .i64 x.t),(.int .i64 x.names),(.int .i64 x.more),(.int .i64 x.parts),(.int .i64 x.plus),(.bool x.aT),(.int .i64 x.low),(.int .i64 x.high)]
abbrev xM(x:bO):AV:=gI x
inductive Pan where
 |aAi (x:lB)
 |aVn (x:aBZ)
def pG:Pan→AV
 | .aAi x=> .iface 160 (tV x)
 | .aVn x=> .iface 164 (aDh x)
theorem wrap64{x:Int}(h: -9223372036854775808≤x)(h':x<9223372036854775808):IntKind.wrap .i64 x=x:=by
 show(if decide (x%18446744073709551616≥9223372036854775808)=true then x%18446744073709551616-18446744073709551616 else x%18446744073709551616)=x;split<;>rename_i hd
 ·have:=of_decide_eq_true hd;omega
 ·have:=of_decide_eq_false (Bool.eq_false_iff.2 hd);omega
theorem aCf{α:Type}{b:Nat}{xs ys:List α}(h:(xs.length+ys.length)*b≤big)(h':xs.length+ys.length≤big):app b xs ys=some (xs++ys):=if_pos ⟨h,h'⟩
theorem aJu{α:Type}{l:List α}(hl:l.length<4611686018427387904){C:Nat→List α→Prop}
(h0: ∀hd:decide ((l.length:Int)<(l.length:Int))=false,C l.length [])
(h1: ∀(k:Nat)(y:α)(r:List α),l.drop k=y::r→k<l.length→y∈l→decide ((k:Int)<(l.length:Int))=true→idx l (k:Int)=some y→IntKind.wrap .i64 ((k:Int)+1)=((k+1:Nat):Int)→C (k+1) r→C k (y::r)):
  ∀(n k:Nat),k+n=l.length→C k (l.drop k):=by
 intro n
 induction n with
 |zero=>
  intro k hk;have:k=l.length:=by omega
  subst this;rw [List.drop_length];exact h0 (decide_eq_false (by omega))
 |succ n ih=>
  intro k hk;have hlt:k<l.length:=by omega
  have hd:l.drop k=l[k]::l.drop (k+1):=List.drop_eq_getElem_cons hlt;rw [hd];refine h1 k _ _ hd hlt (List.getElem_mem hlt) (decide_eq_true (by omega)) ?_ ?_ (ih (k+1) (by omega))
  ·unfold idx;rw [if_pos (by omega)];simp [hlt]
  ·rw [wrap64 (by omega) (by omega)];omega
theorem cH{α:Type}{l:List α}(hl:l.length<4611686018427387904){C:Nat→List α→Prop}
(h0: ∀hd:decide ((l.length:Int)<(l.length:Int))=false,C l.length [])
(h1: ∀(k:Nat)(y:α)(r:List α),l.drop k=y::r→k<l.length→y∈l→decide ((k:Int)<(l.length:Int))=true→idx l (k:Int)=some y→IntKind.wrap .i64 ((k:Int)+1)=((k+1:Nat):Int)→C (k+1) r→C k (y::r)):C 0 l:=by
 have:=aJu hl h0 h1 l.length 0 (by omega);rwa [List.drop_zero] at this
def fnd{α:Type}(p:α→Bool):List α→Nat→Ctl Int Unit
 | [],_=> .nx ()
 |y::r,k=>if p y=true then .ret (k:Int) else fnd p r (k+1)
def aFQ{α:Type}(p:α→Bool)(l:List α)(k:Nat):Int:=match fnd p l k with| .ret i=>i| .nx _=> -1
theorem xY{α:Type}(p:α→Bool): ∀(l:List α)(k:Nat),decide (aFQ p l k≥0)=l.any p
 | [],k=>rfl
 |y::r,k=>by
  have ih:=xY p r (k+1);unfold aFQ at ih⊢;rw [fnd,List.any_cons];cases h:p y with
  |true=>simp
  |false=>simpa [h] using ih
theorem aDN{α:Type}(l:List α)(hl:l.length<4611686018427387904)(p:α→Bool)(g:Int→Option (Ctl Int Unit))
(hg: ∀i,g i=if decide (i<(l.length:Int))=true then(idx l i>>=fun y=>if p y=true then some (.ret i) else g (IntKind.wrap .i64 (i+1))) else some (.nx ())):g 0=some (fnd p l 0):=by
 refine cH (C:=fun k r=>g (k:Int)=some (fnd p r k)) hl (fun hd=> ?_) fun k y r _ _ _ hlt hi hw ih=> ?_
 ·rw [hg,hd];rfl
 ·rw [hg,if_pos hlt,hi,fnd];show(if p y=true then some (.ret (k:Int)) else g (IntKind.wrap .i64 ((k:Int)+1)))=_;cases p y with
  |true=>rfl
  |false=>rw [hw];exact ih
end Go.Proofs.YtelnnehpbkainaaGreatDoor
