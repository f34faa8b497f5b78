/- Our own framework, the program's cooked code, and the proofs that a claim leans on: joined and shortened by a program of the prover's own. -/
import Derived.Test.YtelnnehpbkainaaGreatDoorProg
import Derived.KernelRfl
import Derived.Test.YtelnnehpbkainaaGreatDoorRows
import Derived.Test.YtelnnehpbkainaaGreatDoorTie
import Derived.Test.YtelnnehpbkainaaGreatDoorCards
import Derived.ProofKit
import Derived.OpenShut
import Derived.LaidMore
import Derived.Lay
import Derived.SevenTiedAt
import Derived.Stop.Joined
import Derived.Deep.DeepHandedRow
import Derived.JoinedCond
import Derived.WideShapes
import Derived.Carry
import Derived.RowKit
import Derived.LaidLaws
import Derived.Test.YtelnnehpbkainaaGreatDoorPk3
set_option linter.unusedVariables false
set_option linter.unusedSimpArgs false
set_option maxRecDepth 100000
namespace Go.Proofs.YtelnnehpbkainaaGreatDoor
open Go Go.Fw
abbrev has(l:List Str)(x:Str):Bool:=l.any (· ==x)
theorem vT(l:List Str)(x:Str)(hl:l.length<4611686018427387904):gG l x=some (aC6 (· ==x) l 0):=by
 have h:=aBF l hl (x== ·) (fun i=>eT l x i) (fun i=>by rw [eT];rfl);have hp:(fun y:Str=>x==y)=(· ==x):=funext fun y=>Bool.beq_comm;rw [hp] at h;rw [gG,h];unfold aC6;show(match fnd (· ==x) l 0 with| .ret q6=>some q6| .nx q7=>some (-1))=_;cases fnd (· ==x) l 0<;>rfl
theorem vS(l:List Str)(x:Str)(hl:l.length<4611686018427387904):cN l x=some (has l x):=by
 rw [cN,vT l x hl];exact congrArg some (vR _ l 0)
theorem aEu(l:List Str)(x:Str)(hl:l.length<4611686018427387904):qQ l x=some (aC6 (· ==x) l 0):=by
 have h:=aBF l hl (· ==x) (fun i=>lH l x i) (fun i=>by rw [lH];rfl);rw [qQ,h];unfold aC6;show(match fnd (· ==x) l 0 with| .ret q6=>some q6| .nx q7=>some (-1))=_;cases fnd (· ==x) l 0<;>rfl
theorem qU(l:List Str)(x:Str)(hl:l.length<4611686018427387904):oY l x=some (has l x):=by
 rw [oY,aEu l x hl];exact congrArg some (vR _ l 0)
theorem xD(n:Nat):mK (n:Int)=some (uU n):=by
 have e1: ∀k:Nat,((n:Int)==(k:Int))=decide (n=k):=fun k=>by
  by_cases h:n=k
  ·subst h;simp
  ·rw [decide_eq_false h];simp;omega
 have e2: ∀k:Nat,decide ((k:Int)≤(n:Int))=decide (k≤n):=fun k=>by simp
 have e3: ∀k:Nat,decide ((n:Int)≤(k:Int))=decide (n≤k):=fun k=>by simp
 have h32:((n:Int)==32)=decide (n=32):=e1 32;have h9:((n:Int)==9)=decide (n=9):=e1 9;have h10:((n:Int)==10)=decide (n=10):=e1 10;have h95:((n:Int)==95)=decide (n=95):=e1 95;have l97:decide ((97:Int)≤(n:Int))=decide (97≤n):=e2 97;have l65:decide ((65:Int)≤(n:Int))=decide (65≤n):=e2 65;have l48:decide ((48:Int)≤(n:Int))=decide (48≤n):=e2 48;have l122:decide ((n:Int)≤(122:Int))=decide (n≤122):=e3 122;have l90:decide ((n:Int)≤(90:Int))=decide (n≤90):=e3 90;have l57:decide ((n:Int)≤(57:Int))=decide (n≤57):=e3 57;unfold mK uU;rw [h32,h9,h10,h95,l97,l122,l65,l90,l48,l57];by_cases a1:n=32
 ·simp [a1]
 by_cases a2:n=9
 ·simp [a2]
 by_cases a3:n=10
 ·simp [a3]
 by_cases a4:n=95
 ·simp [a4]
 by_cases b1:97≤n<;>by_cases b2:n≤122<;>by_cases c1:65≤n<;>by_cases c2:n≤90<;>by_cases d1:48≤n<;>by_cases d2:n≤57<;>simp [a1,a2,a3,a4,b1,b2,c1,c2,d1,d2]
theorem aMP{t:Str}{pos:Nat}{b:UInt8}(h:t[pos]?=some b)(hb:b.toNat<128):rune t pos=(b.toNat,1):=aOi h hb
theorem aK1{t:Str}{pos:Nat}{b:UInt8}(h:t[pos]?=some b)(hb: ¬b.toNat<128):128≤(rune t pos).1:=aMV h hb
theorem aOX(b:UInt8):IntKind.wrap .u8 (b.toNat:Int)=(b.toNat:Int):=by
 have:=b.toNat_lt;show(if(false&&decide ((b.toNat:Int)%256≥128))=true then(b.toNat:Int)%256-256 else(b.toNat:Int)%256)=(b.toNat:Int)
 rw [Bool.false_and,if_neg (by decide)];omega
theorem tL(s:Str): ∀(n k:Nat),k+n=s.length→iX s k=some (if(s.drop k).all nD=true then .nx () else .ret false)
 |0,k,h=>by
  have:k=s.length:=by omega
  subst this;rw [iX,List.drop_length,if_neg (by simp)]
  rfl
 |n+1,k,h=>by
  have hk:k<s.length:=by omega
  have ih:=tL s n (k+1) (by omega);have hg:s[k]?=some s[k]:=List.getElem?_eq_getElem hk;rw [List.drop_eq_getElem_cons hk,List.all_cons,aF2,iX,if_pos (decide_eq_true hk)];by_cases hb:(s[k]).toNat<128
  ·have e1:decide ((((s[k]).toNat:Nat):Int)>127)=false:=decide_eq_false (by omega);have e2:decide ((s[k]).toNat≤127)=true:=decide_eq_true (by omega);rw [aMP hg hb];simp only [e1,e2,Bool.false_eq_true,if_false,aOX,xD,Option.bind_eq_bind,Option.bind_some,Bool.true_and];by_cases h2:uU (s[k]).toNat<2
   ·rw [decide_eq_true h2,decide_eq_false (p:=2≤uU (s[k]).toNat) (by omega)];simp
   ·rw [decide_eq_false h2,decide_eq_true (p:=2≤uU (s[k]).toNat) (by omega)];simpa [nf] using ih
  ·have hh:=aK1 hg hb;have e1:decide ((((rune s k).1:Nat):Int)>127)=true:=decide_eq_true (by omega);have e2:decide ((s[k]).toNat≤127)=false:=decide_eq_false (by omega);simp [e1,e2]
theorem aDw{α:Type}(c:α)(r:List α):idx (c::r) 0=some c:=rfl
theorem xE(s:Str)(first:Int):mP s first=some (isWord s first):=by
 rw [mP];cases s with
 |nil=>rfl
 |cons c r=>
  have e0:((c::r:Str)==([]:Str))=false:=rfl;have hw:=tL (c::r) (c::r).length 0 (by omega);rw [List.drop_zero] at hw;rw [e0,aDw];by_cases hl:(c::r).length≤12
  ·have e1:decide ((((c::r).length:Nat):Int)>12)=false:=decide_eq_false (by omega);simp only [e1,Bool.false_eq_true,if_false,xD,Option.bind_eq_bind,Option.bind_some,isWord,decide_eq_true hl,Bool.true_and,hw];by_cases hf:uU c.toNat=first
   ·rw [hf];cases hA:(c::r).all nD<;>simp
   ·simp [hf]
  ·have e1:decide ((((c::r).length:Nat):Int)>12)=true:=decide_eq_true (by omega);simp only [e1,Bool.false_eq_true,if_false,if_true,Option.bind_eq_bind,Option.bind_some,isWord,decide_eq_false hl,Bool.false_and]
theorem aAD(s:Str):kK s=some (sY s):=by rw [kK,xE];rfl
theorem vH(s:Str):kX s=some (nP s):=by
 rw [kX,xE];unfold nP;show(if isWord s 2=true then(sP s>>=fun r4=>some (!r4)) else some false:Option Bool).bind _=_;cases isWord s 2<;>rfl
theorem aKF(a b:Nat):decide ((a:Int)≤(b:Int))=decide (a≤b):=by simp
theorem aOu(a b:Nat):decide ((a:Int)≥(b:Int))=decide (b≤a):=by simp
theorem aCu(s:Str)(hl:s.length<4611686018427387904):mZ s 0=some (if s.all nD=true then .nx () else .ret false):=by
 refine dT (C:=fun k r=>mZ s (k:Int)=some (if r.all nD=true then .nx () else .ret false)) hl (fun hd=> ?_) fun k y r _ _ _ hlt hi hw ih=> ?_
 ·rw [mZ,hd];rfl
 ·rw [mZ,if_pos hlt,hi,hw,List.all_cons];have a1:decide (((y.toNat:Nat):Int)≥97)=decide (97≤y.toNat):=aOu _ 97;have a2:decide (((y.toNat:Nat):Int)≤122)=decide (y.toNat≤122):=aKF _ 122;have a3:decide (((y.toNat:Nat):Int)≥65)=decide (65≤y.toNat):=aOu _ 65;have a4:decide (((y.toNat:Nat):Int)≤90)=decide (y.toNat≤90):=aKF _ 90;have a5:decide (((y.toNat:Nat):Int)≥48)=decide (48≤y.toNat):=aOu _ 48;have a6:decide (((y.toNat:Nat):Int)≤57)=decide (y.toNat≤57):=aKF _ 57;have a7:(((y.toNat:Nat):Int)==95)=(y.toNat==95):=by
   by_cases h:y.toNat=95
   ·rw [h];rfl
   ·rw [beq_eq_false_iff_ne.2 h];simp;omega
  simp only [a1,a2,a3,a4,a5,a6,a7,Option.bind_eq_bind,Option.bind_some];have hn:nD y=(((decide (97≤y.toNat)&&decide (y.toNat≤122))||(decide (65≤y.toNat)&&decide (y.toNat≤90)))||(decide (48≤y.toNat)&&decide (y.toNat≤57))||(y.toNat==95)):=rfl;rw [hn];generalize decide (97≤y.toNat)=b1;generalize decide (y.toNat≤122)=b2;generalize decide (65≤y.toNat)=b3;generalize decide (y.toNat≤90)=b4;generalize decide (48≤y.toNat)=b5;generalize decide (y.toNat≤57)=b6;generalize (y.toNat==95)=b7;cases b1<;>cases b2<;>cases b3<;>cases b4<;>cases b5<;>cases b6<;>cases b7<;>first|exact ih|rfl
def wH(c:UInt8)(lo hi:Nat)(under:Bool):Bool:=(decide (lo≤c.toNat)&&decide (c.toNat≤hi))||(under&&c.toNat==95)
def aRM(s:Str)(lo hi:Nat)(under:Bool):Bool:=match s with| []=>false|c::_=>decide (s.length≤12)&&wH c lo hi under&&s.all nD
theorem aA9(s:Str)(lo hi:Nat)(under:Bool)(hl:s.length<4611686018427387904):tG s (lo:Int) (hi:Int) under=some (aRM s lo hi under):=by
 rw [tG,sG];cases s with
 |nil=>rfl
 |cons c r=>
  have e1:decide ((1:Int)≤(((c::r).length:Nat):Int))=true:=decide_eq_true (by simp;omega);have e2:decide ((((c::r).length:Nat):Int)≤12)=decide ((c::r).length≤12):=aKF _ 12;have a3:decide (((c.toNat:Nat):Int)≥(lo:Int))=decide (lo≤c.toNat):=aOu _ _;have a4:decide (((c.toNat:Nat):Int)≤(hi:Int))=decide (c.toNat≤hi):=aKF _ _;have a7:(((c.toNat:Nat):Int)==95)=(c.toNat==95):=by
   by_cases h:c.toNat=95
   ·rw [h];rfl
   ·rw [beq_eq_false_iff_ne.2 h];simp;omega
  have hw:=aCu (c::r) hl;rw [aDw];simp only [e1,e2,a3,a4,a7,if_true,hw,Option.bind_eq_bind,Option.bind_some,aRM,wH];generalize decide ((c::r).length≤12)=b1;generalize decide (lo≤c.toNat)=b2;generalize decide (c.toNat≤hi)=b3;generalize (c.toNat==95)=b4;generalize (c::r).all nD=b5;cases under<;>cases b1<;>cases b2<;>cases b3<;>cases b4<;>cases b5<;>rfl
set_option maxRecDepth 100000 in
theorem aGE: ∀n<256,((decide (97≤n)&&decide (n≤122))||(true&&n==95))=decide (uU n=2):=by decide
set_option maxRecDepth 100000 in
theorem aFe: ∀n<256,((decide (65≤n)&&decide (n≤90))||(false&&n==95))=decide (uU n=3):=by decide
theorem vL(s:Str)(hl:s.length<4611686018427387904):rW s=some (sY s):=by
 have h:=aA9 s 65 90 false hl;rw [rW];show(tG s ((65:Nat):Int) ((90:Nat):Int) false).bind (fun r2=>some r2)=_;rw [h];unfold sY isWord;cases s with
 |nil=>rfl
 |cons c r=>
  show some (decide ((c::r).length≤12)&&wH c 65 90 false&&(c::r).all nD)=some (decide ((c::r).length≤12)&&decide (uU c.toNat=3)&&(c::r).all nD);rw [←aFe _ c.toNat_lt];rfl
theorem aQ8:tU=some kws:=by rw [tU];rfl
theorem aOr(s:Str):has kws s=kws.contains s:=by
 unfold has;rw [List.contains_eq_any_beq];exact congrArg (kws.any ·) (funext fun y=>Bool.beq_comm)
theorem zR(s:Str)(hl:s.length<4611686018427387904):wO s=some (nP s):=by
 have h:=aA9 s 97 122 true hl;rw [wO];show(tG s ((97:Nat):Int) ((122:Nat):Int) true).bind _=_;rw [h,aQ8];have hk:=qU kws s (by decide);unfold nP isWord;cases s with
 |nil=>rfl
 |cons c r=>
  simp only [Option.bind_eq_bind,Option.bind_some,hk,aOr];rw [←aGE _ c.toNat_lt];show(if(decide ((c::r).length≤12)&&wH c 97 122 true&&(c::r).all nD)=true then some (!kws.contains (c::r)) else some false:Option Bool).bind _=some ((decide ((c::r).length≤12)&&wH c 97 122 true&&(c::r).all nD)&& !kws.contains (c::r));cases (decide ((c::r).length≤12)&&wH c 97 122 true&&(c::r).all nD)<;>rfl
def s5:List Str→Nat
 | []=>0
 |x::r=>1+x.length+s5 r
mutual
def bC:Expr→Nat
 | .mk _ _ s t names l aO=>1+s.length+t.length+s5 names+fW l+s9 aO
def aC1:Arm→Nat
 | .mk op names body=>op.length+s5 names+bC body
def fW:List Expr→Nat
 | []=>0
 |x::r=>bC x+fW r
def s9:List Arm→Nat
 | []=>0
 |x::r=>aC1 x+s9 r
end
theorem pL(e:Expr):bC e=1+e.s.length+e.t.length+s5 e.names+fW e.l+s9 e.aO:=by cases e;simp only [bC];rfl
theorem z4(a:Arm):aC1 a=a.op.length+s5 a.names+bC a.body:=by cases a;simp only [aC1];rfl
theorem bH(e:Expr):1≤bC e:=by rw [pL];omega
theorem aAp: ∀l:List Str,l.length≤s5 l
 | []=>by simp [s5]
 |x::r=>by have:=aAp r;simp only [s5,List.length_cons];omega
theorem aAn: ∀{l:List Str}{x:Str},x∈l→x.length+1≤s5 l
 |y::r,x,h=>by
  simp only [s5];rcases List.mem_cons.1 h with rfl|h
  ·omega
  ·have:=aAn h;omega
theorem aEe: ∀l:List Expr,l.length≤fW l
 | []=>by simp
 |x::r=>by have:=aEe r;have:=bH x;simp only [fW,List.length_cons];omega
theorem aDV: ∀{l:List Expr}{x:Expr},x∈l→bC x≤fW l
 |y::r,x,h=>by
  simp only [fW];rcases List.mem_cons.1 h with rfl|h
  ·omega
  ·have:=aDV h;omega
theorem aDr: ∀l:List Arm,l.length≤s9 l
 | []=>by simp
 |x::r=>by have:=aDr r;have:=bH x.body;simp only [s9,List.length_cons,z4];omega
theorem z8: ∀{l:List Arm}{x:Arm},x∈l→aC1 x≤s9 l
 |y::r,x,h=>by
  simp only [s9];rcases List.mem_cons.1 h with rfl|h
  ·omega
  ·have:=z8 h;omega
abbrev Fit(e:Expr):Prop:=bC e≤1048576
def parts(e:Expr):List Expr:=e.l++e.aO.map Arm.body
theorem iC(e:Expr):(parts e).length=e.l.length+e.aO.length:=by simp [parts]
theorem bN{e x:Expr}(h:x∈parts e):bC x<bC e:=by
 rw [pL e];rcases List.mem_append.1 h with h|h
 ·have:=aDV h;omega
 ·obtain⟨a,ha,rfl⟩:=List.mem_map.1 h;have:=z8 ha;rw [z4] at this;omega
theorem aMN(e:Expr):e.names.length+e.l.length+e.aO.length<bC e:=by
 have h1:=aAp e.names;have h2:=aEe e.l;have h3:=aDr e.aO;rw [pL];omega
theorem Fit.lens{e:Expr}(h:Fit e):e.names.length+e.l.length+e.aO.length<1048576:=Nat.lt_of_lt_of_le (aMN e) h
theorem Fit.part{e x:Expr}(h:Fit e)(hx:x∈parts e):Fit x:=Nat.le_of_lt (Nat.lt_of_lt_of_le (bN hx) h)
theorem oC{e x:Expr}(h:x∈e.l):x∈parts e:=List.mem_append_left _ h
theorem aBA{e:Expr}{a:Arm}(h:a∈e.aO):a.body∈parts e:=List.mem_append_right _ (List.mem_map.2 ⟨a,h,rfl⟩)
theorem Fit.sum{e:Expr}(h:Fit e):IntKind.wrap .i64 ((e.l.length:Int)+(e.aO.length:Int))=((parts e).length:Int):=by
 have:=h.lens;rw [wrap64 (by omega) (by omega),iC];omega
theorem aGP{e:Expr}(hf:Fit e){k:Nat}{y:Expr}{r:List Expr}(h:(parts e).drop k=y::r):
  (decide ((k:Int)<(e.l.length:Int))=true∧idx e.l (k:Int)=some y)∨
  (decide ((k:Int)<(e.l.length:Int))=false∧e.l.length≤k∧ ∃a,a∈e.aO∧e.aO[k-e.l.length]?=some a∧idx e.aO (IntKind.wrap .i64 ((k:Int)-(e.l.length:Int)))=some a∧a.body=y):=by
 have hk:(parts e)[k]?=some y:=by
  have:=congrArg (fun l=>l[0]?) h;simpa using this
 have hlen:=hf.lens;have hkl:k<(parts e).length:=(List.getElem?_eq_some_iff.1 hk).1;rw [iC] at hkl;unfold parts at hk;by_cases hlt:k<e.l.length
 ·left
  rw [List.getElem?_append_left hlt] at hk;refine⟨decide_eq_true (by omega),?_⟩;unfold idx;rw [if_pos (by omega)];simpa using hk
 ·right
  rw [List.getElem?_append_right (by omega),List.getElem?_map] at hk;obtain⟨a,ha,hb⟩:=Option.map_eq_some_iff.1 hk;refine⟨decide_eq_false (by omega),by omega,a,List.mem_of_getElem? ha,ha,?_,hb⟩;rw [wrap64 (by omega) (by omega)];unfold idx;rw [if_pos (by omega),←ha]
  congr 1
  omega
def jC(f:Expr→Int→Option Int):List Expr→Int→Option Int
 | [],x=>some x
 |e::r,x=>(f e x).bind (jC f r)
theorem zP(f:Expr→Int→Option Int): ∀(a b:List Expr)(x:Int),jC f (a++b) x=(jC f a x).bind (jC f b)
 | [],b,x=>rfl
 |e::r,b,x=>by
  simp only [List.cons_append,jC,Option.bind_assoc];exact congrArg _ (funext fun y=>zP f r b y)
theorem v7{f g:Expr→Int→Option Int}: ∀{l:List Expr}(_: ∀e∈l,∀x,f e x=g e x)(x:Int),jC f l x=jC g l x
 | [],_,_=>rfl
 |e::r,h,x=>by
  simp only [jC];rw [h e (.head _) x];exact congrArg _ (funext fun y=>v7 (fun e he=>h e (.tail _ he)) y)
def aAW:Nat→Expr→Int→Int→Option Int
 |0,_,_,_=>none
 |n+1,e,d,x=>if x-1<0∨d>200 then none else jC (fun y x=>aAW n y (d+1) x) (parts e) (x-1)
theorem aCb: ∀(n:Nat)(e:Expr)(d x:Int),bC e≤n→aAW (n+1) e d x=aAW n e d x
 |0,e,d,x,h=>by have:=bH e;omega
 |n+1,e,d,x,h=>by
  rw [aAW,aAW];split
  ·rfl
  ·exact v7 (fun y hy x=>aCb n y (d+1) x (by have:=bN hy;omega)) _
def nL(e:Expr)(d x:Int):Option Int:=aAW (bC e) e d x
theorem aGX: ∀(n:Nat)(e:Expr)(d x:Int),bC e≤n→aAW n e d x=nL e d x
 |0,e,d,x,h=>by have:=bH e;omega
 |n+1,e,d,x,h=>by
  by_cases h':bC e=n+1
  ·rw [nL,h']
  ·rw [aCb n e d x (by omega)];exact aGX n e d x (by omega)
theorem z3(e:Expr)(d x:Int):nL e d x=if x-1<0∨d>200 then none else jC (fun y x=>nL y (d+1) x) (parts e) (x-1):=by
 obtain⟨n,hn⟩: ∃n,bC e=n+1:=⟨bC e-1,by have:=bH e;omega⟩
 rw [nL,hn,aAW];split
 ·rfl
 ·exact v7 (fun y hy x=>aGX n y (d+1) x (by have:=bN hy;omega)) _
theorem aC2{f:Expr→Int→Option Int}: ∀{l:List Expr}(_: ∀e∈l,∀x y,f e x=some y→0≤y∧y≤x){x y:Int},0≤x→jC f l x=some y→0≤y∧y≤x
 | [],_,x,y,h0,h=>by simp [jC] at h;omega
 |e::r,hf,x,y,h0,h=>by
  obtain⟨z,h1,h2⟩:=Option.bind_eq_some_iff.1 h;have a1:=hf e (.head _) x z h1;have a2:=aC2 (fun e he=>hf e (.tail _ he)) a1.1 h2;omega
theorem tV: ∀(n:Nat)(e:Expr),bC e≤n→ ∀(d x y:Int),nL e d x=some y→0≤y∧y≤x
 |0,e,h=>by have:=bH e;omega
 |n+1,e,h=>by
  intro d x y hm;rw [z3] at hm;split at hm
  ·cases hm
  ·have:=aC2 (fun e he x y h=>tV n e (by have:=bN he;omega) (d+1) x y h) (x:=x-1) (by omega) hm;omega
def aLF(o:Option Int)(v:Int):Prop:=match o with|some x=>v=x|none=>v= -1
theorem rY: ∀(n:Nat)(e:Expr),bC e≤n→Fit e→ ∀(x d:Int),0≤x→x≤3000→ -1000≤d→d≤200→ ∃v,vG e x d=some v∧aLF (nL e (201-d) x) v
 |0,e,h=>by have:=bH e;omega
 |n+1,e,h=>by
  intro hf x d hx hx' hd hd';rw [z3,vG];by_cases h1:d<1
  ·rw [if_pos (decide_eq_true h1),if_pos (.inr (by omega))];exact⟨_,rfl,rfl⟩
  rw [decide_eq_false h1];have hw:IntKind.wrap .i64 (x-1)=x-1:=wrap64 (by omega) (by omega);have hwd:IntKind.wrap .i64 (d-1)=d-1:=wrap64 (by omega) (by omega);rw [hw];have hlens:=hf.lens;have key: ∀(m:Int),-1≤m→m≤3000→ ∃v,fJ e d m ((0:Nat):Int)=some v∧aLF (if m<0 then none else jC (fun y x=>nL y (201-d+1) x) (parts e) m) v:=by
   refine dT (l:=parts e) (C:=fun k r=> ∀(m:Int),-1≤m→m≤3000→ ∃v,fJ e d m (k:Int)=some v∧aLF (if m<0 then none else jC (fun y x=>nL y (201-d+1) x) r m) v) (by rw [iC];omega) (fun hl=> ?_) fun k y r hdr hk hy hlt _ hws ih=> ?_
   ·intro m h1 h2;rw [fJ,hf.sum,hl];refine⟨m,rfl,?_⟩;split
    ·show m= -1;omega
    ·rfl
   ·intro m hm hm';rw [fJ,hf.sum,hlt];by_cases h0:m<0
    ·refine⟨m,?_,?_⟩
     ·have:decide (m≥0)=false:=decide_eq_false (by omega);simp only [this];rfl
     ·rw [if_pos h0];show m= -1;omega
    ·have h0':decide (m≥0)=true:=decide_eq_true (by omega);obtain⟨v,hv,hv2⟩:=rY n y (by have:=bN hy;omega) (hf.part hy) m (d-1) (by omega) hm' (by omega) (by omega);have e1:(201-(d-1):Int)=201-d+1:=by omega
     rw [e1] at hv2;have hstep:fJ e d m (k:Int)=fJ e d v ((k+1:Nat):Int):=by
      conv=>lhs;rw [fJ,hf.sum,hlt]
      rw [h0'];rcases aGP hf hdr with ⟨p1,p2⟩|⟨p1,_,a,_,_,p2,p3⟩
      ·simp only [p1,p2,if_true,Option.bind_eq_bind,Option.bind_some,nf,hwd,hv,hws]
      ·simp only [p1,p2,p3,Bool.false_eq_true,if_true,if_false,Option.bind_eq_bind,Option.bind_some,nf,hwd,hv,hws]
     have hvb: -1≤v∧v≤3000:=by
      cases hm2:nL y (201-d+1) m with
      |none=>rw [hm2] at hv2;have hv3:v= -1:=hv2;omega
      |some z=>
       rw [hm2] at hv2;have:=tV _ y (Nat.le_refl _) _ _ _ hm2;have hv3:v=z:=hv2;omega
     obtain⟨w,hw1,hw2⟩:=ih v hvb.1 hvb.2;refine⟨w,?_,?_⟩
     ·have:=hstep.trans hw1;rwa [fJ,hf.sum,hlt] at this
     ·rw [if_neg h0,jC];cases hm2:nL y (201-d+1) m with
      |none=>rw [hm2] at hv2;have hv3:v= -1:=hv2;subst hv3;exact hw2
      |some z=>
       rw [hm2] at hv2;have hv3:v=z:=hv2;subst hv3;have:=tV _ y (Nat.le_refl _) _ _ _ hm2;rwa [if_neg (by omega)] at hw2
  obtain⟨v,hv1,hv2⟩:=key (x-1) (by omega) (by omega);refine⟨v,?_,?_⟩
  ·show(fJ e d (x-1) 0).bind _=some v;rw [show(0:Int)=((0:Nat):Int) from rfl,hv1]
   rfl
  ·by_cases h0:x-1<0
   ·rw [if_pos h0] at hv2;rwa [if_pos (.inl h0)]
   ·rw [if_neg h0] at hv2;rwa [if_neg (by omega)]
def aB8(o:Option Int)(r:Option (Bool×aG)):Prop:=match o with
 |some x=> ∃m,r=some (true,m)∧m.left=x
 |none=> ∃m,r=some (false,m)
def aJf(o:Option Int)(r:Option (Ctl (Bool×aG) (Int×Int))):Prop:=match o with
 |some x=> ∃c,r=some (.nx (x,c))
 |none=> ∃m,r=some (.ret (false,m))
theorem aMa(m:aG):aG.mk m.left m.deep=m:=by cases m;rfl
theorem aJF: ∀(n:Nat)(e:Expr),bC e≤n→Fit e→ ∀(d:Int)(m:aG),0≤m.left→m.left≤3000→1≤d→d≤201→aB8 (nL e d m.left) (cO e d m)
 |0,e,h=>by have:=bH e;omega
 |n+1,e,h=>by
  intro hf d m hx hx' hd hd';rw [z3,cO];have hw:IntKind.wrap .i64 (m.left-1)=m.left-1:=wrap64 (by omega) (by omega);rw [hw];by_cases h1:m.left-1<0
  ·rw [if_pos (.inl h1),decide_eq_true h1];exact⟨_,rfl⟩
  by_cases h2:d>200
  ·rw [if_pos (.inr h2),decide_eq_false h1,decide_eq_true h2];exact⟨_,rfl⟩
  rw [if_neg (by omega),decide_eq_false h1,decide_eq_false h2];have hwd:IntKind.wrap .i64 (d+1)=d+1:=wrap64 (by omega) (by omega);have hlens:=hf.lens;have one: ∀y∈parts e,∀m:aG,0≤m.left→m.left≤3000→aB8 (nL y (d+1) m.left) (bS y d m):=by
   intro y hy m h3 h4;have:=aJF n y (by have:=bN hy;omega) (hf.part hy) (d+1) m h3 h4 (by omega) (by omega);rw [bS,hwd];cases hm:nL y (d+1) m.left with
   |none=>
    rw [hm] at this;obtain⟨m',hm'⟩:=this;exact⟨m',by simp only [nf,hm',Option.bind_eq_bind,Option.bind_some,aMa]⟩
   |some z=>
    rw [hm] at this;obtain⟨m',hm',hz⟩:=this;exact⟨m',by simp only [nf,hm',Option.bind_eq_bind,Option.bind_some,aMa],hz⟩
  have hfl: ∀y∈parts e,∀x z,nL y (d+1) x=some z→0≤z∧z≤x:=fun y _ x z hz=>tV _ y (Nat.le_refl _) _ _ _ hz;have loop0: ∀(a b:Int),0≤a→a≤3000→aJf (jC (fun y x=>nL y (d+1) x) e.l a) (fD e d ((0:Nat):Int) a b):=by
   refine dT (l:=e.l) (C:=fun k r=> ∀(a b:Int),0≤a→a≤3000→aJf (jC (fun y x=>nL y (d+1) x) r a) (fD e d (k:Int) a b)) (by omega) (fun hl=> ?_) fun k y r _ _ hy hlt hi hws ih=> ?_
   ·intro a b _ _;rw [fD,hl];exact⟨b,rfl⟩
   ·intro a b h3 h4;have h5:=one y (oC hy) ⟨a,b⟩ h3 h4;rw [fD,if_pos hlt,hi,jC];simp only [nf,Option.bind_eq_bind,Option.bind_some,hws];cases hm:nL y (d+1) a with
    |none=>
     have h6:aB8 none (bS y d ⟨a,b⟩):=hm▸h5;obtain⟨m',hm'⟩:=h6;rw [hm'];exact⟨_,rfl⟩
    |some z=>
     have h6:aB8 (some z) (bS y d ⟨a,b⟩):=hm▸h5;obtain⟨m',hm',rfl⟩:=h6;rw [hm'];have:=hfl y (oC hy) _ _ hm;exact ih m'.left m'.deep this.1 (by omega)
  have loop1: ∀(a b:Int),0≤a→a≤3000→aJf (jC (fun y x=>nL y (d+1) x) (e.aO.map Arm.body) a) (fH e d ((0:Nat):Int) a b):=by
   refine dT (l:=e.aO) (C:=fun k r=> ∀(a b:Int),0≤a→a≤3000→aJf (jC (fun y x=>nL y (d+1) x) (r.map Arm.body) a) (fH e d (k:Int) a b)) (by omega) (fun hl=> ?_) fun k y r _ _ hy hlt hi hws ih=> ?_
   ·intro a b _ _;rw [fH,hl];exact⟨b,rfl⟩
   ·intro a b h3 h4;have h5:=one y.body (aBA hy) ⟨a,b⟩ h3 h4;rw [fH,if_pos hlt,hi,List.map_cons,jC];simp only [nf,Option.bind_eq_bind,Option.bind_some,hws];cases hm:nL y.body (d+1) a with
    |none=>
     have h6:aB8 none (bS y.body d ⟨a,b⟩):=hm▸h5;obtain⟨m',hm'⟩:=h6;rw [hm'];exact⟨_,rfl⟩
    |some z=>
     have h6:aB8 (some z) (bS y.body d ⟨a,b⟩):=hm▸h5;obtain⟨m',hm',rfl⟩:=h6;rw [hm'];have:=hfl y.body (aBA hy) _ _ hm;exact ih m'.left m'.deep this.1 (by omega)
  have hA:=loop0 (m.left-1) (max m.deep d) (by omega) (by omega);simp only [Bool.false_eq_true,if_false,Option.bind_eq_bind,Option.bind_some,nf];rw [nJ,parts,zP];simp only [nf,Option.bind_eq_bind,Option.bind_some];cases hm:jC (fun y x=>nL y (d+1) x) e.l (m.left-1) with
  |none=>
   rw [hm] at hA;obtain⟨m',hm'⟩:=hA;rw [show((0:Nat):Int)=0 from rfl] at hm';rw [hm'];exact⟨_,rfl⟩
  |some z=>
   rw [hm] at hA;obtain⟨c,hm'⟩:=hA;rw [show((0:Nat):Int)=0 from rfl] at hm';rw [hm'];have hz:=aC2 (fun y hy x z hz=>hfl y (oC hy) x z hz) (by omega) hm;have hB:=loop1 z c hz.1 (by omega);rw [show((0:Nat):Int)=0 from rfl] at hB;simp only [Option.bind_some];cases hm2:jC (fun y x=>nL y (d+1) x) (e.aO.map Arm.body) z with
   |none=>
    rw [hm2] at hB;obtain⟨m',hm3⟩:=hB;rw [hm3];exact⟨_,rfl⟩
   |some w=>
    rw [hm2] at hB;obtain⟨c',hm3⟩:=hB;rw [hm3];exact⟨_,rfl,rfl⟩
theorem aAq:big=1099511627776:=by unfold big;rfl
theorem uO{e:Expr}(hf:Fit e):m6 e=some (parts e):=by
 have hl:=hf.lens;have loop: ∀out:List Expr,out.length+e.aO.length≤1048576→iM e out ((0:Nat):Int)=some (out++e.aO.map Arm.body):=by
  refine dT (l:=e.aO) (C:=fun k r=> ∀out:List Expr,out.length+r.length≤1048576→iM e out (k:Int)=some (out++r.map Arm.body)) (by omega) (fun hl=> ?_) fun k y r _ _ hy hlt hi hws ih=> ?_
  ·intro out _;rw [iM,hl];simp
  ·intro out ho;simp only [List.length_cons] at ho;rw [iM,if_pos hlt,hi];have ha:app 120 out [y.body]=some (out++ [y.body]):=aIp (by rw [aAq];simp only [List.length_singleton];omega) (by rw [aAq];simp only [List.length_singleton];omega);simp only [nf,Option.bind_eq_bind,Option.bind_some,ha,hws];rw [ih (out++ [y.body]) (by simp only [List.length_append,List.length_singleton];omega)];simp
 rw [m6];have ha:app 120 ([]:List Expr) e.l=some e.l:=by rw [aIp (by rw [aAq];simp only [List.length_nil];omega) (by rw [aAq];simp only [List.length_nil];omega)];rfl
 have:=loop e.l (by omega);rw [show((0:Nat):Int)=0 from rfl] at this;simp only [Option.bind_eq_bind,Option.bind_some,ha,this]
 rfl
def lS(f:Expr→Int):List Expr→Int
 | []=>0
 |y::r=>if f y=0 then lS f r else f y
theorem aAN(f:Expr→Int): ∀a b:List Expr,lS f (a++b)=if lS f a=0 then lS f b else lS f a
 | [],b=>by simp [lS]
 |y::r,b=>by
  simp only [List.cons_append,lS];split
  ·exact aAN f r b
  ·rfl
noncomputable def chk(e:Expr):Int:=(k9 e).getD 0
theorem mR(H: ∀e,Fit e→ ∃v,eB e=some v∧vQ e=some v): ∀(n:Nat)(e:Expr),bC e≤n→Fit e→k9 e=some (chk e)∧iV e=some (chk e)∧ ∃v,eB e=some v∧chk e=if v=0 then lS chk (parts e) else v
 |0,e,h=>by have:=bH e;omega
 |n+1,e,h=>by
  intro hf;obtain⟨v,h1,h2⟩:=H e hf;have hl:=hf.lens;have IH: ∀y∈parts e,k9 y=some (chk y)∧iV y=some (chk y):=fun y hy=>have h:=mR H n y (by have:=bN hy;omega) (hf.part hy);⟨h.1,h.2.1⟩;have A:k9 e=some (if v=0 then lS chk (parts e) else v):=by
   rw [k9,h2,uO hf];have loop:jS (parts e) ((0:Nat):Int)=some (if lS chk (parts e)=0 then .nx () else .ret (lS chk (parts e))):=by
    refine dT (l:=parts e) (C:=fun k r=>jS (parts e) (k:Int)=some (if lS chk r=0 then .nx () else .ret (lS chk r))) (by rw [iC];omega) (fun hl=> ?_) fun k y r _ _ hy hlt hi hws ih=> ?_
    ·rw [jS,hl];rfl
    ·rw [jS,if_pos hlt,hi,lS];simp only [nf,Option.bind_eq_bind,Option.bind_some,(IH y hy).1,hws];by_cases h0:chk y=0
     ·simpa [h0] using ih
     ·simp [h0]
   rw [show((0:Nat):Int)=0 from rfl] at loop;by_cases h0:v=0
   ·simp only [h0,Option.bind_eq_bind,Option.bind_some,loop];by_cases h3:lS chk (parts e)=0<;>simp [h3]
   ·simp [h0]
  have hc:chk e=if v=0 then lS chk (parts e) else v:=by rw [chk,A];rfl
  refine⟨by rw [hc];exact A,?_,v,h1,hc⟩;rw [hc,iV,h1];by_cases h0:v=0
  ·subst h0;have one: ∀y∈parts e,∀c,iN y c=some ((chk y==0),chk y):=fun y hy c=>by
    rw [iN];simp only [nf,(IH y hy).2,Option.bind_eq_bind,Option.bind_some]
   have loop0: ∀c:Int,c=0→fE e ((0:Nat):Int) c=some (if lS chk e.l=0 then .nx 0 else .ret (false,lS chk e.l)):=by
    refine dT (l:=e.l) (C:=fun k r=> ∀c:Int,c=0→fE e (k:Int) c=some (if lS chk r=0 then .nx 0 else .ret (false,lS chk r))) (by omega) (fun hl=> ?_) fun k y r _ _ hy hlt hi hws ih=> ?_
    ·intro c hc;subst hc;rw [fE,hl];rfl
    ·intro c hc;rw [fE,if_pos hlt,hi,lS];simp only [nf,Option.bind_eq_bind,Option.bind_some,one y (oC hy),hws];by_cases h0:chk y=0
     ·rw [h0];exact ih 0 rfl
     ·simp [h0]
   have loop1: ∀c:Int,c=0→eZ e ((0:Nat):Int) c=some (if lS chk (e.aO.map Arm.body)=0 then .nx 0 else .ret (false,lS chk (e.aO.map Arm.body))):=by
    refine dT (l:=e.aO) (C:=fun k r=> ∀c:Int,c=0→eZ e (k:Int) c=some (if lS chk (r.map Arm.body)=0 then .nx 0 else .ret (false,lS chk (r.map Arm.body)))) (by omega) (fun hl=> ?_) fun k y r _ _ hy hlt hi hws ih=> ?_
    ·intro c hc;subst hc;rw [eZ,hl];rfl
    ·intro c hc;rw [eZ,if_pos hlt,hi,List.map_cons,lS];simp only [nf,Option.bind_eq_bind,Option.bind_some,one y.body (aBA hy),hws];by_cases h0:chk y.body=0
     ·rw [h0];exact ih 0 rfl
     ·simp [h0]
   have hA:=loop0 0 rfl;have hB:=loop1 0 rfl;rw [show((0:Nat):Int)=0 from rfl] at hA hB;simp only [nf,Option.bind_eq_bind,Option.bind_some,beq_self_eq_true,if_true];rw [nY,parts,aAN];simp only [nf,hA,Option.bind_eq_bind,Option.bind_some];by_cases h3:lS chk e.l=0
   ·simp only [h3,if_true,hB];by_cases h4:lS chk (e.aO.map Arm.body)=0<;>simp [h4]
   ·simp [h3]
  ·simp [h0]
theorem aM3(H: ∀e,Fit e→ ∃v,eB e=some v∧vQ e=some v){e:Expr}(hf:Fit e): ∃v,j9 e=some v∧iF e=some v:=by
 obtain⟨h1,h2,_⟩:=mR H _ e (Nat.le_refl _) hf;obtain⟨v,h3,h4⟩:=rY _ e (Nat.le_refl _) hf 3000 200 (by omega) (by omega) (by omega) (by omega);have h5:=aJF _ e (Nat.le_refl _) hf 1 ⟨3000,0⟩ (by show(0:Int)≤3000;omega) (by show(3000:Int)≤3000;omega) (by omega) (by omega);have e1:(201-200:Int)=1:=rfl;rw [e1] at h4;rw [j9,kE,iF,h3];simp only [Option.bind_eq_bind,Option.bind_some,h1,h2];change aB8 (nL e 1 3000) _ at h5;cases hm:nL e 1 3000 with
 |none=>
  rw [hm] at h4 h5;have h6:v= -1:=h4;obtain⟨m,hm'⟩:=h5;refine⟨3,?_,?_⟩
  ·change ((cO e 1 ⟨3000,0⟩).bind _).bind _=_;rw [hm'];rfl
  ·subst h6;rfl
 |some z=>
  rw [hm] at h4 h5;have h6:v=z:=h4;have hb:=tV _ e (Nat.le_refl _) _ _ _ hm;obtain⟨m,hm',_⟩:=h5;refine⟨chk e,?_,?_⟩
  ·change ((cO e 1 ⟨3000,0⟩).bind _).bind _=_;rw [hm'];rfl
  ·rw [decide_eq_false (by omega)];rfl
def aO6:List Str:= [([43]:Str),([45]:Str),([42]:Str),([60]:Str),([61,61]:Str)]
def iZ(s:Str)(c:Int):Bool:=if c=1 then nP s else if c=2 then sY s else if c=3 then has aO6 s else s==([]:Str)
theorem qG(s:Str)(c:Int):lK s c=some (iZ s c):=by
 rw [lK,iZ,vH,aAD];by_cases h1:c=1
 ·subst h1;rfl
 by_cases h2:c=2
 ·subst h2;rfl
 by_cases h3:c=3
 ·subst h3;unfold has aO6;simp only [List.any_cons,List.any_nil,Bool.or_false];have sw: ∀a:Str,(a==s)=(s==a):=fun a=>Bool.beq_comm;rw [sw,sw,sw,sw,sw];show(if((3:Int)==1)=true then _ else _)=_;generalize (s==([43]:Str))=b1;generalize (s==([45]:Str))=b2;generalize (s==([42]:Str))=b3;generalize (s==([60]:Str))=b4;generalize (s==([61,61]:Str))=b5;cases b1<;>cases b2<;>cases b3<;>cases b4<;>cases b5<;>rfl
 ·rw [if_neg h1,if_neg h2,if_neg h3,if_neg (by simp [h1]),if_neg (by simp [h2]),if_neg (by simp [h3])]
theorem uC(s:Str)(c:Int)(hl:s.length<4611686018427387904):qL s c=some (iZ s c):=by
 rw [qL,iZ,zR s hl,vL s hl];by_cases h1:c=1
 ·subst h1;rfl
 by_cases h2:c=2
 ·subst h2;rfl
 by_cases h3:c=3
 ·subst h3;have:=qU aO6 s (by decide);unfold aO6 at this;rw [this]
  rfl
 ·rw [if_neg h1,if_neg h2,if_neg h3,if_neg (by simp [h1]),if_neg (by simp [h2]),if_neg (by simp [h3])]
def pE(v:Int):Ctl Int Unit:=if v=0 then .nx () else .ret v
def gZ(p:Str→Bool):List Str→List Str→Int
 |_,[]=>0
 |pre,y::r=>if p y=true then(if has pre y=true then 5 else gZ p (pre++ [y]) r) else 4
theorem nV{α:Type}{l:List α}{k:Nat}(h:k≤l.length):cut l 0 (k:Int)=some (l.take k):=by
 unfold cut;rw [if_pos ⟨by omega,by omega,by omega⟩];simp
theorem nO{α:Type}{l:List α}{k:Nat}{y:α}{r:List α}(h:l.drop k=y::r):l.take (k+1)=l.take k++ [y]:=by
 have hk:l[k]?=some y:=by
  have:=congrArg (fun l=>l[0]?) h;simpa using this
 rw [List.take_add_one,hk]
 rfl
theorem eN(l:List Str)(c:Int)(hl:l.length≤1048576):dU l c=some (gZ (iZ · c) [] l):=by
 have loop:dS l c ((0:Nat):Int)=some (pE (gZ (iZ · c) (l.take 0) l)):=by
  refine dT (C:=fun k r=>dS l c (k:Int)=some (pE (gZ (iZ · c) (l.take k) r))) (by omega) (fun hd=> ?_) fun k y r hdr hk _ hlt hi hw ih=> ?_
  ·rw [dS,hd];rfl
  ·rw [dS,if_pos hlt,hi,gZ];rw [nO hdr] at ih;simp only [nf,Option.bind_eq_bind,Option.bind_some,qG,nV (Nat.le_of_lt hk),vS (l.take k) y (by simp;omega),hw];cases iZ y c with
   |false=>rfl
   |true=>
    cases has (l.take k) y with
    |true=>rfl
    |false=>exact ih
 rw [show((0:Nat):Int)=0 from rfl,List.take_zero] at loop;rw [dU,loop];unfold pE;by_cases h:gZ (iZ · c) [] l=0
 ·simp [h]
 ·simp [h]
theorem pR(l:List Str)(hl:l.length≤1048576)(hs: ∀x∈l,x.length<4611686018427387904):nT l=some (gZ (iZ · 1) [] l):=by
 have loop:iG l ((0:Nat):Int)=some (pE (gZ (iZ · 1) (l.take 0) l)):=by
  refine dT (C:=fun k r=>iG l (k:Int)=some (pE (gZ (iZ · 1) (l.take k) r))) (by omega) (fun hd=> ?_) fun k y r hdr hk hy hlt hi hw ih=> ?_
  ·rw [iG,hd];rfl
  ·rw [iG,if_pos hlt,hi,gZ];rw [nO hdr] at ih;simp only [nf,Option.bind_eq_bind,Option.bind_some,zR y (hs y hy),nV (Nat.le_of_lt hk),qU (l.take k) y (by simp;omega),hw,hi];have e:iZ y 1=nP y:=rfl;rw [e];cases nP y with
   |false=>rfl
   |true=>
    cases has (l.take k) y with
    |true=>rfl
    |false=>exact ih
 rw [show((0:Nat):Int)=0 from rfl,List.take_zero] at loop;rw [nT,loop];unfold pE;by_cases h:gZ (iZ · 1) [] l=0
 ·simp [h]
 ·simp [h]
theorem aE4{α:Type}(l:List α)(k:Nat):idx l ((k+1:Nat):Int)=idx (l.drop 1) (k:Int):=by
 unfold idx;rw [if_pos (by omega),if_pos (by omega)];simp [Nat.add_comm]
theorem aPp{α:Type}{l:List α}{k:Nat}(h:k+1≤l.length):cut l 1 ((k+1:Nat):Int)=some ((l.drop 1).take k):=by
 unfold cut;rw [if_pos ⟨by omega,by omega,by omega⟩];simp [List.drop_take]
theorem aBk(e:Expr)(hf:Fit e)(hn:1≤e.names.length)(hs: ∀x∈e.names,x.length<4611686018427387904):kA e 1=some (pE (gZ (iZ · 2) [] (e.names.drop 1))):=by
 have hlen:=hf.lens;have loop:kA e ((0+1:Nat):Int)=some (pE (gZ (iZ · 2) ((e.names.drop 1).take 0) (e.names.drop 1))):=by
  refine dT (l:=e.names.drop 1) (C:=fun k r=>kA e ((k+1:Nat):Int)=some (pE (gZ (iZ · 2) ((e.names.drop 1).take k) r))) (by simp;omega) (fun hd=> ?_) fun k y r hdr hk hy hlt hi hw ih=> ?_
  ·have:decide ((((e.names.drop 1).length+1:Nat):Int)<(e.names.length:Int))=false:=decide_eq_false (by simp;omega);rw [kA,this];rfl
  ·have hlt':decide (((k+1:Nat):Int)<(e.names.length:Int))=true:=decide_eq_true (by simp at hk;omega);have hw':IntKind.wrap .i64 (((k+1:Nat):Int)+1)=((k+1+1:Nat):Int):=by rw [wrap64 (by omega) (by simp at hk;omega)];omega
   rw [kA,if_pos hlt',aE4,hi,gZ];rw [nO hdr] at ih;simp only [nf,Option.bind_eq_bind,Option.bind_some,vL y (hs y (List.mem_of_mem_drop hy)),aPp (l:=e.names) (k:=k) (by simp at hk;omega),qU ((e.names.drop 1).take k) y (by simp;omega),hw',aE4,hi];have e:iZ y 2=sY y:=rfl;rw [e];cases sY y with
   |false=>rfl
   |true=>
    cases has ((_:List Str).take k) y with
    |true=>rfl
    |false=>exact ih
 rw [List.take_zero] at loop;exact loop
theorem aBy{e:Expr}(hf:Fit e){a:Arm}(ha:a∈e.aO):a.op.length<1048576∧a.names.length<1048576∧ ∀x∈a.names,x.length<4611686018427387904:=by
 have h1:=z8 ha;have h2:bC e≤1048576:=hf;have h3:=aAp a.names;have h4:=bH a.body;rw [pL] at h2;rw [z4] at h1;refine⟨by omega,by omega,fun x hx=> ?_⟩;have:=aAn hx;omega
theorem aFH{e:Expr}(hf:Fit e):e.s.length<1048576∧e.t.length<1048576∧ ∀x∈e.names,x.length<4611686018427387904:=by
 have h2:bC e≤1048576:=hf;rw [pL] at h2;refine⟨by omega,by omega,fun x hx=> ?_⟩;have:=aAn hx;omega
def aLx:Str:= [114,101,116,117,114,110]
def aIk(kd:Int)(pre:List Arm)(i:Nat)(a:Arm):Int:=
 if(if kd=11 then decide (a.names.length≤4) else if i=0 then decide (a.names.length=1)&&a.op==aLx else decide (a.names.length=2))=true then
  if(if kd=11 then iZ a.op 2 else if i=0 then true else iZ a.op 1)=true then
   if gZ (iZ · 1) [] a.names=0 then(if pre.any (·.op==a.op)=true then 5 else 0) else gZ (iZ · 1) [] a.names
  else 4
 else 7
theorem aPb(l:List Arm)(a:Arm)(hl:l.length≤1048576):cW l a=some (l.any (·.op==a.op)):=by
 have h:=aBF l (by omega) (fun y=>y.op==a.op) (fun i=>cV l a i) (fun i=>by rw [cV];rfl);have h2:dN l a=some (aC6 (fun y=>y.op==a.op) l 0):=by
  rw [dN,h];unfold aC6;cases fnd (fun y:Arm=>y.op==a.op) l 0<;>rfl
 rw [cW,h2];exact congrArg some (vR _ l 0)
theorem zE(a b:Nat):((a:Int)==(b:Int))=decide (a=b):=by
 by_cases h:a=b
 ·subst h;simp
 ·rw [decide_eq_false h];simp;omega
theorem aDd(e:Expr)(hf:Fit e){k:Nat}{a:Arm}{r:List Arm}(hk:k≤e.aO.length)(ha:a∈e.aO)(hi:idx e.aO (k:Int)=some a):oJ e (k:Int)=some (aIk e.kind (e.aO.take k) k a):=by
 obtain⟨h1,h2,h3⟩:=aBy hf ha;have hlen:=hf.lens;rw [oJ,hi,aIk];have a1:decide (((a.names.length:Nat):Int)≤4)=decide (a.names.length≤4):=aKF _ 4;have a2:(((a.names.length:Nat):Int)==1)=decide (a.names.length=1):=zE _ 1;have a3:(((a.names.length:Nat):Int)==2)=decide (a.names.length=2):=zE _ 2;have a4:((k:Int)==0)=decide (k=0):=zE _ 0;have d1:=eN a.names 1 (by omega);have d2:=aPb (e.aO.take k) a (by simp;omega);simp only [a1,a2,a3,a4,Option.bind_eq_bind,Option.bind_some,qG,d1,nV hk,d2];generalize hD:gZ (iZ · 1) [] a.names=dv;have hr:([114,101,116,117,114,110]:Str)=aLx:=rfl;rw [hr];by_cases hk11:e.kind=11
 ·have hb:(e.kind==11)=true:=by simp [hk11]
  rw [hb,if_pos hk11,if_pos hk11];by_cases h4:a.names.length≤4
  ·rw [decide_eq_true h4];cases hc:iZ a.op 2<;>by_cases h0:dv=0<;>cases (e.aO.take k).any (·.op==a.op)<;>simp [h0,hc]
  ·rw [decide_eq_false h4];rfl
 ·have hb:(e.kind==11)=false:=by simp [hk11]
  rw [hb,if_neg hk11,if_neg hk11];by_cases hk0:k=0
  ·rw [decide_eq_true hk0,if_pos hk0,if_pos hk0];by_cases h4:a.names.length=1
   ·rw [decide_eq_true h4];cases a.op==aLx<;>by_cases h0:dv=0<;>cases (e.aO.take k).any (·.op==a.op)<;>simp [h0]
   ·rw [decide_eq_false h4];rfl
  ·rw [decide_eq_false hk0,if_neg hk0,if_neg hk0];by_cases h4:a.names.length=2
   ·rw [decide_eq_true h4];cases hc:iZ a.op 1<;>by_cases h0:dv=0<;>cases (e.aO.take k).any (·.op==a.op)<;>simp [h0,hc]
   ·rw [decide_eq_false h4];rfl
def mC(kd:Int):List Arm→List Arm→Int
 |_,[]=>0
 |pre,a::r=>if aIk kd pre pre.length a=0 then mC kd (pre++ [a]) r else aIk kd pre pre.length a
theorem nB(e:Expr)(y:a0)(hf:Fit e):eI e y 0=some (pE (mC e.kind [] e.aO)):=by
 have hlen:=hf.lens;have loop:eI e y ((0:Nat):Int)=some (pE (mC e.kind (e.aO.take 0) e.aO)):=by
  refine dT (C:=fun k r=>eI e y (k:Int)=some (pE (mC e.kind (e.aO.take k) r))) (by omega) (fun hd=> ?_) fun k a r hdr hk ha hlt hi hw ih=> ?_
  ·rw [eI,hd];rfl
  ·rw [eI,if_pos hlt,aDd e hf (r:=r) (Nat.le_of_lt hk) ha hi,mC];rw [nO hdr] at ih;have hkl:(e.aO.take k).length=k:=by simp;omega
   simp only [nf,Option.bind_eq_bind,Option.bind_some,hw,hkl];by_cases h0:aIk e.kind (e.aO.take k) k a=0
   ·simpa [h0] using ih
   ·simp [h0,pE]
 rw [List.take_zero] at loop;exact loop
theorem aB4(e:Expr)(hf:Fit e){k:Nat}(hk:k≤e.aO.length)(a:Arm):mT e (k:Int) a 0=some (if(e.aO.take k).any (·.op==a.op)=true then .ret 5 else .nx ()):=by
 have hlen:=hf.lens;have hkl:(e.aO.take k).length=k:=by simp;omega
 refine dT (l:=e.aO.take k) (C:=fun j r=>mT e (k:Int) a (j:Int)=some (if r.any (·.op==a.op)=true then .ret 5 else .nx ())) (by omega) (fun hd=> ?_) fun j y r hdr hj hy hlt hi hw ih=> ?_
 ·rw [hkl] at hd⊢;rw [mT,hd];rfl
 ·rw [hkl] at hlt hj;have hi':idx e.aO (j:Int)=some y:=by
   unfold idx at hi⊢;rw [if_pos (by omega)] at hi⊢;rw [Int.toNat_natCast] at hi⊢;rwa [List.getElem?_take_of_lt hj] at hi
  rw [mT,if_pos hlt,hi',List.any_cons];simp only [nf,Option.bind_eq_bind,Option.bind_some,hw];cases y.op==a.op with
  |true=>rfl
  |false=>simpa using ih
theorem aCm(e:Expr)(hf:Fit e):kW e 0=some (pE (mC e.kind [] e.aO)):=by
 have hlen:=hf.lens;have loop:kW e ((0:Nat):Int)=some (pE (mC e.kind (e.aO.take 0) e.aO)):=by
  refine dT (C:=fun k r=>kW e (k:Int)=some (pE (mC e.kind (e.aO.take k) r))) (by omega) (fun hd=> ?_) fun k a r hdr hk ha hlt hi hw ih=> ?_
  ·rw [kW,hd];rfl
  ·obtain⟨h1,h2,h3⟩:=aBy hf ha;rw [nO hdr] at ih;have hkl:(e.aO.take k).length=k:=by simp;omega
   rw [kW,if_pos hlt,hi,mC,hkl,aIk];have a1:decide (((a.names.length:Nat):Int)>4)= !decide (a.names.length≤4):=by
    by_cases h:a.names.length≤4
    ·rw [decide_eq_true h,decide_eq_false (by omega)];rfl
    ·rw [decide_eq_false h,decide_eq_true (by omega)];rfl
   have a2:(((a.names.length:Nat):Int) !=1)= !decide (a.names.length=1):=congrArg (!·) (zE _ 1);have a3:(((a.names.length:Nat):Int) !=2)= !decide (a.names.length=2):=congrArg (!·) (zE _ 2);have a4:((k:Int)==0)=decide (k=0):=zE _ 0;have d1:=pR a.names (by omega) h3;have d2:=aB4 e hf (Nat.le_of_lt hk) a;simp only [nf,a1,a2,a3,a4,Option.bind_eq_bind,Option.bind_some,uC a.op _ (Nat.lt_of_lt_of_le h1 (by omega)),d1,d2,hw];generalize hD:gZ (iZ · 1) [] a.names=dv;have hr:([114,101,116,117,114,110]:Str)=aLx:=rfl;rw [hr];by_cases hk11:e.kind=11
   ·have hb:(e.kind !=11)=false:=by simp [hk11]
    rw [hb,if_pos hk11,if_pos hk11];by_cases h4:a.names.length≤4
    ·rw [decide_eq_true h4];cases iZ a.op 2<;>by_cases h0:dv=0<;>cases (e.aO.take k).any (·.op==a.op)<;>simp [h0,pE]<;>exact ih
    ·rw [decide_eq_false h4];rfl
   ·have hb:(e.kind !=11)=true:=by simp [hk11]
    rw [hb,if_neg hk11,if_neg hk11];by_cases hk0:k=0
    ·rw [decide_eq_true hk0,if_pos hk0,if_pos hk0];by_cases h4:a.names.length=1
     ·rw [decide_eq_true h4];cases a.op==aLx<;>by_cases h0:dv=0<;>cases (e.aO.take k).any (·.op==a.op)<;>simp [h0,pE]<;>exact ih
     ·rw [decide_eq_false h4];cases a.op==aLx<;>rfl
    ·rw [decide_eq_false hk0,if_neg hk0,if_neg hk0];by_cases h4:a.names.length=2
     ·rw [decide_eq_true h4];cases iZ a.op 1<;>by_cases h0:dv=0<;>cases (e.aO.take k).any (·.op==a.op)<;>simp [h0,pE]<;>exact ih
     ·rw [decide_eq_false h4];rfl
 rw [List.take_zero] at loop;exact loop
noncomputable def qH:List aV:=lD.getD []
theorem aEU:lD=some qH:=by rw [qH,lD];rfl
theorem aGU(k:Int)(h0:0≤k)(h1:k≤19): ∃a b,idx jI k=some a∧idx qH k=some b∧b.s=a.s∧b.t=a.t∧b.names=a.names∧b.l=a.parts∧b.aO=a.aO∧b.low=a.low∧b.high=a.high∧a.more=(if k=17 then 12 else 0)∧a.plus=(if k=10 then 4 else 0)∧0≤a.names∧a.names≤10∧0≤a.parts∧a.parts≤10∧(k=17→a.names=1)∧(k=10→a.parts=0)∧(k=11→a.aO=true):=by
 have hr:qH=(lD).getD []:=rfl;rw [lD,Option.getD_some] at hr;rw [hr];have hk:k=0∨k=1∨k=2∨k=3∨k=4∨k=5∨k=6∨k=7∨k=8∨k=9∨k=10∨k=11∨k=12∨k=13∨k=14∨k=15∨k=16∨k=17∨k=18∨k=19:=by omega
 rcases hk with rfl|rfl|rfl|rfl|rfl|rfl|rfl|rfl|rfl|rfl|rfl|rfl|rfl|rfl|rfl|rfl|rfl|rfl|rfl|rfl<;>
  exact⟨_,_,rfl,rfl,rfl,rfl,rfl,rfl,rfl,rfl,rfl,rfl,rfl,by decide,by decide,by decide,by decide,by decide,by decide,by decide⟩
theorem aHb(n a b:Int):gU n a b=some (decide (a≤n)&&decide (n≤b)):=by
 rw [gU];cases decide (a≤n)<;>rfl
theorem aPG(n a b:Int):sG n a b=some (decide (a≤n)&&decide (n≤b)):=by
 rw [sG];cases decide (a≤n)<;>rfl
def uA(e:Expr):Int:=if e.kind=17 then(if gZ (iZ · 1) [] (e.names.take 1)=0 then gZ (iZ · 2) [] (e.names.drop 1) else gZ (iZ · 1) [] (e.names.take 1)) else gZ (iZ · 1) [] e.names
theorem aEv(e:Expr)(hf:Fit e)(hn:e.kind=17→1≤e.names.length):aAA e=some (uA e):=by
 have hlen:=hf.lens;obtain⟨_,_,hs⟩:=aFH hf;rw [aAA,uA];by_cases hk:e.kind=17
 ·have hb:(e.kind !=17)=false:=by simp [hk]
  have hc:cut e.names 0 1=some (e.names.take 1):=nV (l:=e.names) (k:=1) (hn hk);rw [hb,hc,if_pos hk];simp only [Option.bind_eq_bind,Option.bind_some,pR (e.names.take 1) (by simp;omega) (fun x hx=>hs x (List.mem_of_mem_take hx)),aBk e hf (hn hk) hs];generalize gZ (iZ · 2) [] (e.names.drop 1)=dv;by_cases h0:gZ (iZ · 1) [] (e.names.take 1)=0
  ·by_cases h2:dv=0<;>simp [h0,h2,pE]
  ·simp [h0]
 ·have hb:(e.kind !=17)=true:=by simp [hk]
  rw [hb,if_neg hk,pR e.names (by omega) hs]
  rfl
theorem aJy{α:Type}{l:List α}{k:Nat}(h:k≤l.length):cut l (k:Int) (l.length:Int)=some (l.drop k):=by
 unfold cut;rw [if_pos ⟨by omega,by omega,by omega⟩];simp
theorem wP(e:Expr)(hf:Fit e): ∃v,eB e=some v∧vQ e=some v:=by
 have hlen:=hf.lens;obtain⟨hs1,hs2,hs3⟩:=aFH hf;rw [eB,vQ,aEU];have hrl:IntKind.wrap .i64 ((qH.length:Int)-1)=19:=by
  have hr:qH=(lD).getD []:=rfl;rw [lD,Option.getD_some] at hr;rw [hr];exact wrap64 (by decide) (by decide)
 simp only [aHb,aPG,Option.bind_eq_bind,Option.bind_some,hrl];by_cases hk:0≤e.kind∧e.kind≤19
 rotate_left
 ·have:(decide (0≤e.kind)&&decide (e.kind≤19))=false:=by
   rw [Bool.and_eq_false_iff];by_cases h:0≤e.kind
   ·exact .inr (decide_eq_false (fun h'=>hk ⟨h,h'⟩))
   ·exact .inl (decide_eq_false h)
  rw [this];exact⟨1,rfl,rfl⟩
 rw [decide_eq_true hk.1,decide_eq_true hk.2];obtain⟨a,b,ha,hb,b1,b2,b3,b4,b5,b6,b7,b8,b9,c1,c2,c3,c4,c5,c6,c7⟩:=aGU e.kind hk.1 hk.2;rw [ha,hb];simp only [Option.bind_eq_bind,Option.bind_some,b1,b2,b3,b4,b5,b6,b7,Bool.and_self,Bool.not_true,Bool.false_eq_true,if_false];by_cases hn:(decide (a.low≤e.n)&&decide (e.n≤a.high))=true
 rotate_left
 ·rw [Bool.eq_false_iff.2 hn];exact⟨1,rfl,rfl⟩
 rw [hn];simp only [Bool.not_true,Bool.false_eq_true,if_false,qG,uC e.s _ (Nat.lt_of_lt_of_le hs1 (by omega)),uC e.t _ (Nat.lt_of_lt_of_le hs2 (by omega)),Option.bind_some];by_cases hc1:iZ e.s a.s=true
 rotate_left
 ·rw [Bool.eq_false_iff.2 hc1];exact⟨4,rfl,rfl⟩
 by_cases hc2:iZ e.t a.t=true
 rotate_left
 ·rw [hc1,Bool.eq_false_iff.2 hc2];exact⟨4,rfl,rfl⟩
 rw [hc1,hc2];have w1:IntKind.wrap .i64 (a.names+a.more)=a.names+a.more:=wrap64 (by rw [b8];split<;>omega) (by rw [b8];split<;>omega);have w2:IntKind.wrap .i64 (a.parts+a.plus)=a.parts+a.plus:=wrap64 (by rw [b9];split<;>omega) (by rw [b9];split<;>omega);rw [w1,w2,b8,b9];have hN:(if((e.names.length:Int)==a.names)=true then some true else(if(e.kind==17)=true then some (decide ((e.names.length:Int)≥1)) else some false:Option Bool).bind fun c10=>(if c10=true then some (decide ((e.names.length:Int)≤13)) else some false:Option Bool).bind fun c11=>some c11)=some (decide (a.names≤(e.names.length:Int))&&decide ((e.names.length:Int)≤a.names+(if e.kind=17 then 12 else 0))):=by
  by_cases h17:e.kind=17
  ·have e1:(e.kind==17)=true:=by simp [h17]
   have e2:=c5 h17;rw [e1,if_pos h17,e2];by_cases q:(e.names.length:Int)=1
   ·rw [q];rfl
   ·rw [if_neg (by simpa using q)];by_cases q2:(e.names.length:Int)≥1
    ·rw [decide_eq_true q2]
     rfl
    ·rw [decide_eq_false q2]
     rfl
  ·have e1:(e.kind==17)=false:=by simp [h17]
   rw [e1,if_neg h17];by_cases q:(e.names.length:Int)=a.names
   ·rw [q,if_pos (by simp),decide_eq_true (by omega),decide_eq_true (by omega)];rfl
   ·rw [if_neg (by simpa using q)];have:(decide (a.names≤(e.names.length:Int))&&decide ((e.names.length:Int)≤a.names+0))=false:=by
     rw [Bool.and_eq_false_iff];by_cases q2:a.names≤(e.names.length:Int)
     ·exact .inr (decide_eq_false (by omega))
     ·exact .inl (decide_eq_false q2)
    rw [this];rfl
 have hP:(if((e.l.length:Int)==a.parts)=true then some true else(if(e.kind==10)=true then some (decide ((e.l.length:Int)≤4)) else some false:Option Bool).bind fun c13=>some c13)=some (decide (a.parts≤(e.l.length:Int))&&decide ((e.l.length:Int)≤a.parts+(if e.kind=10 then 4 else 0))):=by
  by_cases h10:e.kind=10
  ·have e1:(e.kind==10)=true:=by simp [h10]
   have e2:=c6 h10;rw [e1,if_pos h10,e2,decide_eq_true (p:=(0:Int)≤(e.l.length:Int)) (by omega)];by_cases q:(e.l.length:Int)=0
   ·rw [q];rfl
   ·rw [if_neg (by simpa using q)];simp
  ·have e1:(e.kind==10)=false:=by simp [h10]
   rw [e1,if_neg h10];by_cases q:(e.l.length:Int)=a.parts
   ·rw [q,if_pos (by simp),decide_eq_true (by omega),decide_eq_true (by omega)];rfl
   ·rw [if_neg (by simpa using q)];have:(decide (a.parts≤(e.l.length:Int))&&decide ((e.l.length:Int)≤a.parts+0))=false:=by
     rw [Bool.and_eq_false_iff];by_cases q2:a.parts≤(e.l.length:Int)
     ·exact .inr (decide_eq_false (by omega))
     ·exact .inl (decide_eq_false q2)
    rw [this];rfl
 simp only [Bool.not_true,Bool.false_eq_true,if_false,Option.bind_some,hN,hP];by_cases h1:(decide (a.names≤(e.names.length:Int))&&decide ((e.names.length:Int)≤a.names+(if e.kind=17 then 12 else 0)))=true
 rotate_left
 ·rw [Bool.eq_false_iff.2 h1];exact⟨7,rfl,rfl⟩
 by_cases h2:(decide (a.parts≤(e.l.length:Int))&&decide ((e.l.length:Int)≤a.parts+(if e.kind=10 then 4 else 0)))=true
 rotate_left
 ·rw [h1,Bool.eq_false_iff.2 h2];exact⟨7,rfl,rfl⟩
 rw [h1,h2];have hnm:e.kind=17→1≤e.names.length:=by
  intro h17;have:=c5 h17;rw [Bool.and_eq_true] at h1;have:=of_decide_eq_true h1.1;omega
 have hA:eI e a 0=some (pE (mC e.kind [] e.aO)):=nB e a hf;have hR:=aEv e hf hnm;have hRa:aCW e=some (if mC e.kind [] e.aO=0 then(if e.kind≠11∧e.aO.length=0 then 7 else 0) else mC e.kind [] e.aO):=by
  rw [aCW,aCm e hf];have q:((e.aO.length:Int)==0)=decide (e.aO.length=0):=zE _ 0;simp only [q,Option.bind_eq_bind,Option.bind_some,pE];generalize mC e.kind [] e.aO=av;by_cases z:av=0
  ·by_cases k11:e.kind=11
   ·simp [z,k11]
   ·have:(e.kind !=11)=true:=by simp [k11]
    by_cases q2:e.aO.length=0<;>simp [z,k11,q2]
  ·simp [z]
 have hS: ∀K:Option Int,((if(e.kind==17)=true then some 1 else some (e.names.length:Int):Option Int).bind fun o13=>(cut e.names 0 o13).bind fun l16=>(dU l16 1).bind fun r17=>if(r17 !=0)=true then some r17 else(cut e.names o13 (e.names.length:Int)).bind fun l18=>(dU l18 2).bind fun r19=>if(r19 !=0)=true then some r19 else K)=if uA e=0 then K else some (uA e):=by
  intro K;rw [uA];by_cases h17:e.kind=17
  ·have e1:(e.kind==17)=true:=by simp [h17]
   have hc:cut e.names 0 1=some (e.names.take 1):=nV (l:=e.names) (k:=1) (hnm h17);have hd:cut e.names 1 (e.names.length:Int)=some (e.names.drop 1):=aJy (l:=e.names) (k:=1) (hnm h17);rw [e1,if_pos h17];simp only [if_true,Option.bind_some,hc,hd,eN (e.names.take 1) 1 (by simp;omega),eN (e.names.drop 1) 2 (by simp;omega)];generalize gZ (iZ · 1) [] (e.names.take 1)=d1;generalize gZ (iZ · 2) [] (e.names.drop 1)=d2;by_cases z:d1=0
   ·by_cases z2:d2=0<;>simp [z,z2]
   ·simp [z]
  ·have e1:(e.kind==17)=false:=by simp [h17]
   have hc:cut e.names 0 (e.names.length:Int)=some (e.names.take e.names.length):=nV (Nat.le_refl _);have hd:cut e.names (e.names.length:Int) (e.names.length:Int)=some (e.names.drop e.names.length):=aJy (Nat.le_refl _);rw [List.take_length] at hc;rw [List.drop_length] at hd;rw [e1,if_neg h17];simp only [Bool.false_eq_true,if_false,Option.bind_some,hc,hd,eN e.names 1 (by omega),eN [] 2 (by simp)];generalize gZ (iZ · 1) [] e.names=d1;by_cases z:d1=0<;>simp [z,gZ]
 have q0:((e.aO.length:Int)==0)=decide (e.aO.length=0):=zE _ 0;have q1:decide ((e.aO.length:Int)>0)=decide (0<e.aO.length):=by simp
 have q9:decide ((e.aO.length:Int)>9)=decide (9<e.aO.length):=by simp;omega
 simp only [Bool.not_true,Bool.false_eq_true,if_false,Option.bind_some,q0,q1,q9,hS,hA,hR,hRa];by_cases hl9:9<e.aO.length
 ·rw [decide_eq_true hl9];cases a.aO<;>cases decide (0<e.aO.length)<;>exact⟨7,rfl,rfl⟩
 rw [decide_eq_false hl9];by_cases ha2:a.aO=true
 ·rw [ha2];by_cases z:uA e=0
  ·simp only [z,if_true,pE];generalize mC e.kind [] e.aO=av;by_cases z2:av=0
   ·by_cases k11:e.kind=11
    ·exact⟨0,by simp [z2,k11],by simp [z2,k11]⟩
    ·have hb2:(e.kind !=11)=true:=by simp [k11]
     by_cases q2:e.aO.length=0
     ·exact⟨7,by simp [z2,hb2,q2],by simp [z2,k11,q2]⟩
     ·exact⟨0,by simp [z2,hb2,q2],by simp [z2,k11,q2]⟩
   ·exact⟨av,by simp [z2],by simp [z2]⟩
  ·exact⟨uA e,by simp [z],by simp [z]⟩
 ·have ha3:a.aO=false:=Bool.eq_false_iff.2 ha2;rw [ha3];by_cases hl0:0<e.aO.length
  ·rw [decide_eq_true hl0];exact⟨7,rfl,rfl⟩
  ·rw [decide_eq_false hl0];have hnil:e.aO= []:=List.length_eq_zero_iff.1 (by omega);by_cases z:uA e=0
   ·exact⟨0,by simp [z,hnil,mC,pE],by simp [z]⟩
   ·exact⟨uA e,by simp [z],by simp [z]⟩
theorem aMH{e:Expr}(hf:Fit e): ∃v,j9 e=some v∧iF e=some v:=aM3 wP hf
theorem aCD{e:Expr}(hf:Fit e)(h:iF e=some 0):chk e=0:=by
 obtain⟨h1,_,_⟩:=mR wP _ e (Nat.le_refl _) hf;rw [iF] at h;obtain⟨v,_,h⟩:=bs h;by_cases hv:v<0
 ·rw [decide_eq_true hv] at h;cases h
 ·rw [decide_eq_false hv,h1] at h;exact Option.some.inj h
theorem aDM{f:Expr→Int}: ∀{l:List Expr},lS f l=0→ ∀y∈l,f y=0
 |y::r,h,z,hz=>by
  rw [lS] at h;by_cases h0:f y=0
  ·rw [if_pos h0] at h;rcases List.mem_cons.1 hz with rfl|hz
   ·exact h0
   ·exact aDM h z hz
  ·rw [if_neg h0] at h;exact absurd h h0
theorem aGI{e:Expr}(hf:Fit e)(h:chk e=0):eB e=some 0∧ ∀y∈parts e,chk y=0:=by
 obtain⟨_,_,v,h1,h2⟩:=mR wP _ e (Nat.le_refl _) hf;rw [h] at h2;by_cases h0:v=0
 ·rw [if_pos h0] at h2;exact⟨h0▸h1,aDM h2.symm⟩
 ·rw [if_neg h0] at h2;exact absurd h2.symm h0
theorem aLj{e:Expr}(hf:Fit e)(h:eB e=some 0):0≤e.kind∧e.kind≤19∧ ∃a,idx jI e.kind=some a∧a.names≤(e.names.length:Int)∧(e.names.length:Int)≤a.names+(if e.kind=17 then 12 else 0)∧a.parts≤(e.l.length:Int)∧(e.l.length:Int)≤a.parts+(if e.kind=10 then 4 else 0)∧(a.aO=false→e.aO= [])∧mC e.kind [] e.aO=0∧iZ e.s a.s=true:=by
 rw [eB] at h;simp only [aHb,Option.bind_eq_bind,Option.bind_some] at h;by_cases hk:0≤e.kind∧e.kind≤19
 rotate_left
 ·have:(decide (0≤e.kind)&&decide (e.kind≤19))=false:=by
   rw [Bool.and_eq_false_iff];by_cases h:0≤e.kind
   ·exact .inr (decide_eq_false (fun h'=>hk ⟨h,h'⟩))
   ·exact .inl (decide_eq_false h)
  rw [this] at h;cases h
 rw [decide_eq_true hk.1,decide_eq_true hk.2] at h;obtain⟨a,b,ha,hb,b1,b2,b3,b4,b5,b6,b7,b8,b9,c1,c2,c3,c4,c5,c6,c7⟩:=aGU e.kind hk.1 hk.2;have w1:IntKind.wrap .i64 (a.names+a.more)=a.names+a.more:=wrap64 (by rw [b8];split<;>omega) (by rw [b8];split<;>omega);have w2:IntKind.wrap .i64 (a.parts+a.plus)=a.parts+a.plus:=wrap64 (by rw [b9];split<;>omega) (by rw [b9];split<;>omega);rw [b8] at w1;rw [b9] at w2;rw [ha] at h;simp only [Option.bind_some,Bool.and_self,Bool.not_true,Bool.false_eq_true,if_false,qG,w1,w2,b8,b9] at h;refine⟨hk.1,hk.2,a,ha,?_⟩;cases q1:(decide (a.low≤e.n)&&decide (e.n≤a.high)) with
 |false=>rw [q1] at h;cases h
 |true=>
 rw [q1] at h;cases q2:iZ e.s a.s with
 |false=>rw [q2] at h;cases h
 |true=>
 rw [q2] at h;cases q3:iZ e.t a.t with
 |false=>rw [q3] at h;cases h
 |true=>
 rw [q3] at h;cases q4:(decide (a.names≤(e.names.length:Int))&&decide ((e.names.length:Int)≤a.names+(if e.kind=17 then 12 else 0))) with
 |false=>rw [q4] at h;cases h
 |true=>
 rw [q4] at h;cases q5:(decide (a.parts≤(e.l.length:Int))&&decide ((e.l.length:Int)≤a.parts+(if e.kind=10 then 4 else 0))) with
 |false=>rw [q5] at h;cases h
 |true=>
 rw [q5] at h;simp only [Bool.not_true,Bool.false_eq_true,if_false,Option.bind_some] at h;rw [Bool.and_eq_true] at q4 q5;have t1:=of_decide_eq_true q4.1;have t2:=of_decide_eq_true q4.2;have t3:=of_decide_eq_true q5.1;have t4:=of_decide_eq_true q5.2;refine⟨t1,t2,t3,t4,?_⟩;have hA:a.aO=false→e.aO= []:=by
  intro haf;rw [haf] at h;cases q6:decide ((e.aO.length:Int)>0) with
  |true=>rw [q6] at h;cases h
  |false=>exact List.length_eq_zero_iff.1 (by have:=of_decide_eq_false q6;omega)
 refine⟨hA,?_,rfl⟩;obtain⟨c11,_,h⟩:=bs h;obtain⟨c12,_,h⟩:=bs h;cases c12 with
 |true=>cases h
 |false=>
 obtain⟨o13,_,h⟩:=bs (bO rfl h);obtain⟨l16,_,h⟩:=bs h;obtain⟨r17,_,h⟩:=bs h;cases q7:(r17 !=0) with
 |true=>rw [q7] at h;have:=Option.some.inj h;subst this;cases q7
 |false=>
 rw [q7] at h;obtain⟨l18,_,h⟩:=bs (bO rfl h);obtain⟨r19,_,h⟩:=bs h;cases q8:(r19 !=0) with
 |true=>rw [q8] at h;have:=Option.some.inj h;subst this;cases q8
 |false=>
 rw [q8] at h;obtain⟨o22,h22,h⟩:=bs (bO rfl h);rw [nB e a hf] at h22;cases h22;unfold pE at h;by_cases z:mC e.kind [] e.aO=0
 ·exact z
 ·rw [if_neg z] at h;exact Option.some.inj h
def WF(e:Expr):Prop:=Fit e∧chk e=0
theorem WF.part{e y:Expr}(h:WF e)(hy:y∈parts e):WF y:=⟨h.1.part hy,(aGI h.1 h.2).2 y hy⟩
theorem WF.shape{e:Expr}(h:WF e){k:Int}(hk:e.kind=k){a:a0}(ha:idx jI k=some a):a.names≤(e.names.length:Int)∧(e.names.length:Int)≤a.names+(if k=17 then 12 else 0)∧a.parts≤(e.l.length:Int)∧(e.l.length:Int)≤a.parts+(if k=10 then 4 else 0)∧(a.aO=false→e.aO= [])∧iZ e.s a.s=true:=by
 obtain⟨_,_,b,hb,h1,h2,h3,h4,h5,_,h7⟩:=aLj h.1 (aGI h.1 h.2).1;subst hk;rw [ha] at hb;cases hb;exact⟨h1,h2,h3,h4,h5,h7⟩
theorem WF.aSu{e:Expr}(h:WF e)(hk:e.kind=4):e.names.length=1∧e.l.length=1∧e.aO= []:=by
 obtain⟨h1,h2,h3,h4,h5,_⟩:=h.shape hk (a:=⟨0,0,1,0,1,0,false,0,0⟩) rfl;simp at h1 h2 h3 h4;exact⟨by omega,by omega,h5 rfl⟩
theorem WF.aQO{e:Expr}(h:WF e)(hk:e.kind=6):e.names.length=1∧e.l.length=2∧e.aO= []:=by
 obtain⟨h1,h2,h3,h4,h5,_⟩:=h.shape hk (a:=⟨0,0,1,0,2,0,false,0,0⟩) rfl;simp at h1 h2 h3 h4;exact⟨by omega,by omega,h5 rfl⟩
theorem WF.aRW{e:Expr}(h:WF e)(hk:e.kind=7):e.names.length=2∧e.l.length=2∧e.aO= []:=by
 obtain⟨h1,h2,h3,h4,h5,_⟩:=h.shape hk (a:=⟨0,0,2,0,2,0,false,0,0⟩) rfl;simp at h1 h2 h3 h4;exact⟨by omega,by omega,h5 rfl⟩
theorem WF.using_{e:Expr}(h:WF e)(hk:e.kind=17):1≤e.names.length∧e.l.length=3∧e.aO= []:=by
 obtain⟨h1,h2,h3,h4,h5,_⟩:=h.shape hk (a:=⟨0,0,1,12,3,0,false,0,0⟩) rfl;simp at h1 h2 h3 h4;exact⟨by omega,by omega,h5 rfl⟩
theorem WF.if_{e:Expr}(h:WF e)(hk:e.kind=8):e.l.length=3∧e.aO= []:=by
 obtain⟨h1,h2,h3,h4,h5,_⟩:=h.shape hk (a:=⟨0,0,0,0,3,0,false,0,0⟩) rfl;simp at h1 h2 h3 h4;exact⟨by omega,h5 rfl⟩
theorem WF.aQB{e:Expr}(h:WF e)(hk:e.kind=11):e.l.length=1:=by
 obtain⟨h1,h2,h3,h4,h5,_⟩:=h.shape hk (a:=⟨0,0,0,0,1,0,true,0,0⟩) rfl;simp at h1 h2 h3 h4;omega
theorem WF.aN3{e:Expr}(h:WF e)(hk:e.kind=14∨e.kind=15∨e.kind=16):e.l.length=1:=by
 rcases hk with hk|hk|hk
 ·obtain⟨h1,h2,h3,h4,h5,_⟩:=h.shape hk (a:=⟨2,0,0,0,1,0,true,0,1⟩) rfl;simp at h1 h2 h3 h4;omega
 ·obtain⟨h1,h2,h3,h4,h5,_⟩:=h.shape hk (a:=⟨2,0,1,0,1,0,true,0,0⟩) rfl;simp at h1 h2 h3 h4;omega
 ·obtain⟨h1,h2,h3,h4,h5,_⟩:=h.shape hk (a:=⟨2,0,0,0,1,0,false,0,0⟩) rfl;simp at h1 h2 h3 h4;omega
theorem WF.aPn{e:Expr}(h:WF e)(hk:e.kind=18):e.l.length=1∧e.aO= []:=by
 obtain⟨h1,h2,h3,h4,h5,_⟩:=h.shape hk (a:=⟨1,0,0,0,1,0,false,0,0⟩) rfl;simp at h1 h2 h3 h4;exact⟨by omega,h5 rfl⟩
def bM(e:Expr)(i:Nat):List Str:=
 if e.l.length≤i then(match e.aO[i-e.l.length]? with|some a=>a.names|none=> [])
 else if e.kind=4 then e.names else if e.kind=6 then(if i=1 then e.names else []) else if e.kind=7 then e.names.take (2-i) else if e.kind=17 then(if i=2 then e.names.take 1 else []) else []
theorem aKJ{α:Type}{l:List α}(h:l.length=1): ∃x,l= [x]:=by
 match l,h with
 | [x],_=>exact⟨x,rfl⟩
theorem aMu{e:Expr}(hf:Fit e){i:Nat}(hl:e.l.length≤i)(hi:i<(parts e).length): ∃a,e.aO[i-e.l.length]?=some a∧idx e.aO (IntKind.wrap .i64 ((i:Int)-(e.l.length:Int)))=some a∧a∈e.aO:=by
 have hlen:=hf.lens;rw [iC] at hi;have hx:i-e.l.length<e.aO.length:=by omega
 refine⟨e.aO[i-e.l.length],List.getElem?_eq_getElem hx,?_,List.getElem_mem hx⟩;rw [wrap64 (by omega) (by omega)];unfold idx;rw [if_pos (by omega)];have:((i:Int)-(e.l.length:Int)).toNat=i-e.l.length:=by omega
 rw [this];exact List.getElem?_eq_getElem hx
theorem aLZ{e:Expr}(h:WF e){i:Nat}(hi:i<(parts e).length):qJ e (i:Int)=some (bM e i):=by
 have hlen:=h.1.lens;rw [qJ,bM];by_cases hl:e.l.length≤i
 ·obtain⟨a,h1,h2,_⟩:=aMu h.1 hl hi;rw [if_pos (decide_eq_true (by omega)),if_pos hl,h2,h1]
  rfl
 rw [if_neg (by simp;omega),if_neg hl];have e1:((i:Int)==1)=decide (i=1):=zE _ 1;have e2:((i:Int)==2)=decide (i=2):=zE _ 2;by_cases k4:e.kind=4
 ·simp [k4]
 by_cases k6:e.kind=6
 ·simp only [k6,e1];by_cases i1:i=1<;>simp [i1]
 by_cases k7:e.kind=7
 ·obtain⟨n1,n2,n3⟩:=h.aRW k7;have hc:cut e.names 0 (IntKind.wrap .i64 (2-(i:Int)))=some (e.names.take (2-i)):=by
   rw [wrap64 (by omega) (by omega),show(2-(i:Int))=((2-i:Nat):Int) by omega];exact nV (by omega)
  simp [k7,hc]
 by_cases k17:e.kind=17
 ·obtain⟨n1,n2,n3⟩:=h.using_ k17;have hc:cut e.names 0 1=some (e.names.take 1):=nV (k:=1) n1;have hn:decide ((e.names.length:Int)>0)=true:=decide_eq_true (by omega);simp only [k17,e2];by_cases i2:i=2
  ·simp [i2,hn,hc]
  ·simp [i2]
 ·simp [k4,k6,k7,k17]
theorem yW{e:Expr}(h:WF e)(path:List Int)(k:Str){i:Nat}(hi:i<(parts e).length):dP ⟨e,path⟩ (i:Int) k=some (has (bM e i) k):=by
 have hlen:=h.1.lens;rw [dP,bM];by_cases hl:e.l.length≤i
 ·obtain⟨a,h1,h2,ha⟩:=aMu h.1 hl hi;obtain⟨_,a2,_⟩:=aBy h.1 ha;rw [if_pos (decide_eq_true (by show(i:Int)≥(e.l.length:Int);omega)),if_pos hl,h1];show(idx e.aO (IntKind.wrap .i64 ((i:Int)-(e.l.length:Int)))).bind _=_;rw [h2];show(cN a.names k).bind _=_;rw [vS a.names k (by omega)]
  rfl
 rw [if_neg (by simp;omega),if_neg hl];have e1:((i:Int)==1)=decide (i=1):=zE _ 1;have e2:((i:Int)==2)=decide (i=2):=zE _ 2;by_cases k4:e.kind=4
 ·obtain⟨n1,_,_⟩:=h.aSu k4;obtain⟨x,hx⟩:=aKJ n1;simp [k4,hx,idx,has]
 by_cases k6:e.kind=6
 ·obtain⟨n1,_,_⟩:=h.aQO k6;obtain⟨x,hx⟩:=aKJ n1;simp only [k6,e1];by_cases i1:i=1<;>simp [i1,hx,idx,has]
 by_cases k7:e.kind=7
 ·obtain⟨n1,n2,n3⟩:=h.aRW k7;have hc:cut e.names 0 (IntKind.wrap .i64 (2-(i:Int)))=some (e.names.take (2-i)):=by
   rw [wrap64 (by omega) (by omega),show(2-(i:Int))=((2-i:Nat):Int) by omega];exact nV (by omega)
  have hh:=vS (e.names.take (2-i)) k (by simp;omega);simp [k7,hc,hh]
 by_cases k17:e.kind=17
 ·obtain⟨n1,n2,n3⟩:=h.using_ k17;obtain⟨x,r,hx⟩: ∃x r,e.names=x::r:=by
   cases hn:e.names with
   |nil=>rw [hn] at n1;simp at n1
   |cons x r=>exact⟨x,r,rfl⟩
  simp only [k17,e2];by_cases i2:i=2
  ·simp [i2,hx,idx,has]
  ·simp [i2,has]
 ·simp [k4,k6,k7,k17,has]
def isV(e:Expr)(k:Str):Bool:=e.s==k&&(e.kind==0||e.kind==18||e.kind==19)
def aDC(k:Int):Bool:=fC.any (· ==k)
theorem aPv(k:Int):iB fC k=some (aDC k):=by
 have h:=aBF fC (by decide) (k== ·) (fun i=>iE fC k i) (fun i=>by rw [iE];rfl);have hp:(fun y:Int=>k==y)=(· ==k):=funext fun y=>Bool.beq_comm;rw [hp] at h;have h2:lJ fC k=some (aC6 (· ==k) fC 0):=by
  rw [lJ,h];unfold aC6;cases fnd (· ==k) fC 0<;>rfl
 rw [iB,h2];exact congrArg some (vR _ _ 0)
theorem aPP(e:Expr)(path:List Int)(k:Str):g9 ⟨e,path⟩ k=some (isV e k):=by
 rw [g9,isV];show(if(e.s==k)=true then(if(e.kind==0)=true then some true else some (e.kind==18):Option Bool).bind _ else some false:Option Bool).bind _=_;cases (e.s==k)<;>cases (e.kind==0)<;>cases (e.kind==18)<;>cases (e.kind==19)<;>rfl
theorem aK5(e:Expr):oM e=some (if(e.kind==0||e.kind==18||e.kind==19)=true then e.s else []):=by
 rw [oM];cases (e.kind==0)<;>cases (e.kind==18)<;>cases (e.kind==19)<;>rfl
theorem aNd(e:Expr){k:Str}(hk:k≠ []):((if(e.kind==0||e.kind==18||e.kind==19)=true then e.s else [])==k)=isV e k:=by
 unfold isV;cases (e.kind==0||e.kind==18||e.kind==19) with
 |true=>simp
 |false=>
  simp only [Bool.false_eq_true,if_false,Bool.and_false];cases k with
  |nil=>exact absurd rfl hk
  |cons=>rfl
def dI(f:Nat→Expr→Option (List Int)):Nat→List Expr→Option (List Int)
 |_,[]=>none
 |i,y::r=>match f i y with
  |some p=>some ((i:Int)::p)
  |none=>dI f (i+1) r
theorem p6{f g:Nat→Expr→Option (List Int)}: ∀{l:List Expr}{i:Nat}(_: ∀y∈l,∀j,f j y=g j y),dI f i l=dI g i l
 | [],_,_=>rfl
 |y::r,i,h=>by
  simp only [dI];rw [h y (.head _) i,p6 (l:=r) (i:=i+1) fun z hz=>h z (.tail _ hz)]
def aA6:Nat→Str→Bool→Bool→Expr→Option (List Int)
 |0,_,_,_,_=>none
 |n+1,k,hd,wi,e=>if((!hd&&isV e k)||(!wi&& !aDC e.kind))=true then some [] else dI (fun i y=>aA6 n k (hd||has (bM e i) k) (wi||e.kind==4) y) 0 (parts e)
theorem aCL: ∀(n:Nat)(k:Str)(hd wi:Bool)(e:Expr),bC e≤n→aA6 (n+1) k hd wi e=aA6 n k hd wi e
 |0,k,hd,wi,e,h=>by have:=bH e;omega
 |n+1,k,hd,wi,e,h=>by
  rw [aA6,aA6];split
  ·rfl
  ·exact p6 fun y hy j=>aCL n k _ _ y (by have:=bN hy;omega)
def iR(k:Str)(hd wi:Bool)(e:Expr):Option (List Int):=aA6 (bC e) k hd wi e
theorem aHQ: ∀(n:Nat)(k:Str)(hd wi:Bool)(e:Expr),bC e≤n→aA6 n k hd wi e=iR k hd wi e
 |0,k,hd,wi,e,h=>by have:=bH e;omega
 |n+1,k,hd,wi,e,h=>by
  by_cases h':bC e=n+1
  ·rw [iR,h']
  ·rw [aCL n k hd wi e (by omega)];exact aHQ n k hd wi e (by omega)
theorem aBC(k:Str)(hd wi:Bool)(e:Expr):iR k hd wi e=if((!hd&&isV e k)||(!wi&& !aDC e.kind))=true then some [] else dI (fun i y=>iR k (hd||has (bM e i) k) (wi||e.kind==4) y) 0 (parts e):=by
 obtain⟨n,hn⟩: ∃n,bC e=n+1:=⟨bC e-1,by have:=bH e;omega⟩
 rw [iR,hn,aA6];split
 ·rfl
 ·exact p6 fun y hy j=>aHQ n k _ _ y (by have:=bN hy;omega)
theorem aAX{f:Nat→Expr→Option (List Int)}: ∀{l:List Expr}{i:Nat}(_: ∀y∈l,∀j,f j y=none),dI f i l=none
 | [],_,_=>rfl
 |y::r,i,h=>by
  simp only [dI];rw [h y (.head _) i];exact aAX fun z hz=>h z (.tail _ hz)
theorem aA8: ∀(n:Nat)(k:Str)(e:Expr),bC e≤n→iR k true true e=none
 |0,k,e,h=>by have:=bH e;omega
 |n+1,k,e,h=>by
  rw [aBC];simp only [Bool.not_true,Bool.false_and,Bool.or_self,Bool.false_eq_true,if_false,Bool.true_or];exact aAX fun y hy j=>aA8 n k y (by have:=bN hy;omega)
abbrev Deep(e:Expr)(path:List Int):Prop:=path.length+bC e≤2000000
theorem mG{e:Expr}(hf:Fit e){path:List Int}(hp:Deep e path){k:Nat}{y:Expr}{r:List Expr}(h:(parts e).drop k=y::r):aX ⟨e,path⟩ (k:Int)=some ⟨y,path++ [(k:Int)]⟩:=by
 have hd:gY path (k:Int)=some (path++ [(k:Int)]):=by
  unfold gY;rw [if_pos (by unfold aNn;have:=bH e;omega)]
 have eta: ∀y:Expr,Expr.mk y.kind y.n y.s y.t y.names y.l y.aO=y:=fun y=>by cases y;rfl
 rw [aX];rcases aGP hf h with ⟨p1,p2⟩|⟨p1,_,a,_,_,p2,p3⟩
 ·rw [if_pos p1];show(idx e.l (k:Int)).bind _=_;rw [p2];show(gY path (k:Int)).bind _=_;rw [hd];exact congrArg (fun z=>some (aC.mk z (path++ [(k:Int)]))) (eta y)
 ·rw [if_neg (by rw [p1];simp)];show(idx e.aO (IntKind.wrap .i64 ((k:Int)-(e.l.length:Int)))).bind _=_;rw [p2];show(gY path (k:Int)).bind _=_;rw [hd];subst p3;exact congrArg (fun z=>some (aC.mk z (path++ [(k:Int)]))) (eta a.body)
def pN(path:List Int)(o:Option (List Int)):List Int×Bool:=match o with
 |some p=>(path++p,true)
 |none=>([],false)
def pT(path:List Int)(a:Bool)(b:List Int)(o:Option (List Int)):Option Nat×Bool×List Int:=match o with
 |some p=>(some 0,true,path++p)
 |none=>(none,a,b)
theorem vP(path:List Int)(j:Int)(p:List Int):(path++ [j])++p=path++(j::p):=by simp
theorem aBK{α:Type}{l:List α}{k:Nat}{y:α}{r:List α}(h:l.drop k=y::r):k<l.length:=by
 have:=congrArg List.length h;simp at this;omega
theorem sZ{α:Type}{l:List α}{k:Nat}{y:α}{r:List α}(h:l.drop k=y::r):y∈l:=List.mem_of_mem_drop (h▸List.mem_cons_self)
theorem gE{e y:Expr}{path:List Int}(hp:Deep e path)(hy:y∈parts e)(j:Int):Deep y (path++ [j]):=by
 have:=bN hy;show(path++ [j]).length+bC y≤2000000;have hp':path.length+bC e≤2000000:=hp;simp only [List.length_append,List.length_singleton];omega
theorem lG: ∀(n:Nat)(e:Expr),bC e≤n→WF e→ ∀(k:Str)(hd wi:Bool)(path:List Int),Deep e path→cM ⟨e,path⟩ k hd wi=some (pN path (iR k hd wi e))
 |0,e,h=>by have:=bH e;omega
 |n+1,e,h=>by
  intro hw k hd wi path hp;have hlen:=hw.1.lens;rw [cM,aBC];simp only [aPP,aPv,Option.bind_eq_bind,Option.bind_some];have hround: ∀(j:Nat)(y:Expr)(r:List Expr)(a:Bool)(b:List Int),(parts e).drop j=y::r→jG ⟨e,path⟩ k hd wi ⟨e,path⟩ (j:Int) ⟨y,path++ [(j:Int)]⟩ a b=some (pT path a b ((iR k (hd||has (bM e j) k) (wi||e.kind==4) y).map ((j:Int):: ·))):=by
   intro j y r a b hdr;have hy:=sZ hdr;have hb:=yW hw path k (aBK hdr);have ih:=lG n y (by have:=bN hy;omega) (hw.part hy) k (hd||has (bM e j) k) (wi||e.kind==4) (path++ [(j:Int)]) (gE hp hy _);rw [jG];simp only [nf,hb,Option.bind_eq_bind,Option.bind_some];have e1:(if hd=true then some true else some (has (bM e j) k):Option Bool)=some (hd||has (bM e j) k):=by cases hd<;>rfl
   have e2:(if wi=true then some true else some (e.kind==4):Option Bool)=some (wi||e.kind==4):=by cases wi<;>rfl
   rw [e1,e2];simp only [Option.bind_some,ih];cases iR k (hd||has (bM e j) k) (wi||e.kind==4) y with
   |none=>rfl
   |some p=>exact congrArg (fun z=>some (some 0,true,z)) (vP path j p)
  have hsum:IntKind.wrap .i64 (((aC.mk e path).expr.l.length:Int)+((aC.mk e path).expr.aO.length:Int))=((parts e).length:Int):=hw.1.sum;have loop: ∀(a:Bool)(b:List Int),dJ ⟨e,path⟩ k hd wi ⟨e,path⟩ ((0:Nat):Int) none a b=some (match dI (fun i y=>iR k (hd||has (bM e i) k) (wi||e.kind==4) y) 0 (parts e) with|some p=> .ret (some 0,true,path++p)|none=> .nx (none,a,b)):=by
   intro a b;refine dT (l:=parts e) (C:=fun j r=>dJ ⟨e,path⟩ k hd wi ⟨e,path⟩ (j:Int) none a b=some (match dI (fun i y=>iR k (hd||has (bM e i) k) (wi||e.kind==4) y) j r with|some p=> .ret (some 0,true,path++p)|none=> .nx (none,a,b))) (by rw [iC];omega) (fun hl=> ?_) fun j y r hdr hk hy hlt _ hws ih=> ?_
   ·rw [dJ,hsum,hl];rfl
   ·rw [dJ,hsum,if_pos hlt,mG hw.1 hp hdr];simp only [nf,Option.bind_eq_bind,Option.bind_some,hround j y r a b hdr,hws];simp only [dI];cases iR k (hd||has (bM e j) k) (wi||e.kind==4) y with
    |none=>exact ih
    |some p=>rfl
  have hl:=loop false [];rw [show((0:Nat):Int)=0 from rfl] at hl;cases hcc:((!hd&&isV e k)||(!wi&& !aDC e.kind)) with
  |true=>
   cases hd<;>cases wi<;>cases h1:isV e k<;>cases h2:aDC e.kind<;>simp [h1,h2] at hcc<;>simp [pN]
  |false=>
   have h3:jH ⟨e,path⟩ k hd wi ⟨e,path⟩ false []=some (pT path false [] (dI (fun i y=>iR k (hd||has (bM e i) k) (wi||e.kind==4) y) 0 (parts e))):=by
    rw [jH,hl];cases dI (fun i y=>iR k (hd||has (bM e i) k) (wi||e.kind==4) y) 0 (parts e)<;>rfl
   have h4:(bA ⟨e,path⟩)=some ⟨e,path⟩:=by rw [bA]
   have fin: ∀o:Option (List Int),(if((pT path false [] o).1==(none:Option Nat))=true then some (([]:List Int),false) else if((pT path false [] o).1==some 0)=true then some ((pT path false [] o).2.2,(pT path false [] o).2.1) else none)=some (pN path o):=fun o=>by cases o<;>rfl
   cases hd<;>cases wi<;>cases h1:isV e k<;>cases h2:aDC e.kind<;>simp [h1,h2] at hcc<;>simp only [nf,Bool.not_true,Bool.not_false,Bool.false_eq_true,if_true,if_false,Option.bind_some,h4,h3,fin]
def n6(k:Str)(e:Expr):Option (List Int):=iR k false true e
theorem aNw(k:Str)(e:Expr):n6 k e=if isV e k=true then some [] else dI (fun i y=>if has (bM e i) k=true then none else n6 k y) 0 (parts e):=by
 rw [n6,aBC];simp only [Bool.not_false,Bool.true_and,Bool.not_true,Bool.false_and,Bool.or_false,Bool.false_or,Bool.true_or];split
 ·rfl
 ·refine p6 fun y hy j=> ?_;cases has (bM e j) k with
  |true=>exact aA8 _ k y (Nat.le_refl _)
  |false=>rfl
theorem rC: ∀(n:Nat)(e:Expr),bC e≤n→WF e→ ∀(k:Str)(path:List Int),Deep e path→dG ⟨e,path⟩ k=some (pN path (n6 k e))
 |0,e,h=>by have:=bH e;omega
 |n+1,e,h=>by
  intro hw k path hp;have hlen:=hw.1.lens;rw [dG,aNw];simp only [aPP,Option.bind_eq_bind,Option.bind_some];have hround: ∀(j:Nat)(y:Expr)(r:List Expr)(a:Bool)(b:List Int),(parts e).drop j=y::r→hJ ⟨e,path⟩ k ⟨e,path⟩ (j:Int) ⟨y,path++ [(j:Int)]⟩ a b=some (pT path a b ((if has (bM e j) k=true then none else n6 k y).map ((j:Int):: ·))):=by
   intro j y r a b hdr;have hy:=sZ hdr;have hb:=yW hw path k (aBK hdr);have ih:=rC n y (by have:=bN hy;omega) (hw.part hy) k (path++ [(j:Int)]) (gE hp hy _);rw [hJ];simp only [nf,hb,ih,Option.bind_eq_bind,Option.bind_some];cases has (bM e j) k with
   |true=>rfl
   |false=>
    simp only [Bool.false_eq_true,if_false];cases n6 k y with
    |none=>rfl
    |some p=>exact congrArg (fun z=>some (some 0,true,z)) (vP path j p)
  have hsum:IntKind.wrap .i64 (((aC.mk e path).expr.l.length:Int)+((aC.mk e path).expr.aO.length:Int))=((parts e).length:Int):=hw.1.sum;have loop: ∀(a:Bool)(b:List Int),cU ⟨e,path⟩ k ⟨e,path⟩ ((0:Nat):Int) none a b=some (match dI (fun i y=>if has (bM e i) k=true then none else n6 k y) 0 (parts e) with|some p=> .ret (some 0,true,path++p)|none=> .nx (none,a,b)):=by
   intro a b;refine dT (l:=parts e) (C:=fun j r=>cU ⟨e,path⟩ k ⟨e,path⟩ (j:Int) none a b=some (match dI (fun i y=>if has (bM e i) k=true then none else n6 k y) j r with|some p=> .ret (some 0,true,path++p)|none=> .nx (none,a,b))) (by rw [iC];omega) (fun hl=> ?_) fun j y r hdr hk hy hlt _ hws ih=> ?_
   ·rw [cU,hsum,hl];rfl
   ·rw [cU,hsum,if_pos hlt,mG hw.1 hp hdr];simp only [nf,Option.bind_eq_bind,Option.bind_some,hround j y r a b hdr,hws];simp only [dI];cases (if has (bM e j) k=true then none else n6 k y) with
    |none=>exact ih
    |some p=>rfl
  have hl:=loop false [];rw [show((0:Nat):Int)=0 from rfl] at hl;cases h1:isV e k with
  |true=>simp [pN]
  |false=>
   have h3:hU ⟨e,path⟩ k ⟨e,path⟩ false []=some (pT path false [] (dI (fun i y=>if has (bM e i) k=true then none else n6 k y) 0 (parts e))):=by
    rw [hU,hl];cases dI (fun i y=>if has (bM e i) k=true then none else n6 k y) 0 (parts e)<;>rfl
   have h4:(bA ⟨e,path⟩)=some ⟨e,path⟩:=by rw [bA]
   have fin: ∀o:Option (List Int),(if((pT path false [] o).1==(none:Option Nat))=true then some (([]:List Int),false) else if((pT path false [] o).1==some 0)=true then some ((pT path false [] o).2.2,(pT path false [] o).2.1) else none)=some (pN path o):=fun o=>by cases o<;>rfl
   simp only [nf,Bool.false_eq_true,if_false,Option.bind_some,h4,h3,fin]
theorem aLe{e:Expr}(h:WF e)(j:Nat):(bM e j).length<4611686018427387904:=by
 have hlen:=h.1.lens;unfold bM;split
 ·split
  ·rename_i a ha;have:=(aBy h.1 (List.mem_of_getElem? ha)).2.1;omega
  ·simp
 ·repeat' split
  all_goals (first|(simp;done)|(simp only [List.length_take];omega)|omega)
theorem uP: ∀a b:List Expr,fW (a++b)=fW a+fW b
 | [],b=>by simp [fW]
 |y::r,b=>by simp only [List.cons_append,fW,uP r b];omega
theorem aBV: ∀a:List Arm,fW (a.map Arm.body)≤s9 a
 | []=>by simp [fW,s9]
 |y::r=>by have:=aBV r;simp only [List.map_cons,fW,s9,z4];omega
theorem rJ(e:Expr):fW (parts e)<bC e:=by
 have:=aBV e.aO;rw [parts,uP,pL e];omega
abbrev mW:=List (List Int×Bool)
abbrev LR:=Ctl mW (List Int)
def pW(e:Expr)(k:Str):Bool:=(e.kind==18||e.kind==19)&&e.s==k
def rG(k:Str)(e:Expr):LR:=match dI (fun _ y=>iR k false false y) 0 (parts e) with
 |some p=> .nx p
 |none=> .ret [([],e.kind==18)]
def qE(i:Int):LR→LR
 | .ret s=> .ret (s.map fun q=>(i::q.1,q.2))
 | .nx p=> .nx (i::p)
def zC(a b:LR):LR:=match a with
 | .nx p=> .nx p
 | .ret s=>match b with| .nx p=> .nx p| .ret t=> .ret (s++t)
def oP(f:Nat→Expr→LR):Nat→List Expr→LR
 |_,[]=> .ret []
 |i,y::r=>zC (f i y) (oP f (i+1) r)
def rA(k:Str)(e:Expr)(f:Expr→LR):LR:=
 if pW e k=true then rG k e
 else if e.kind=6 then(match e.l with
  | [d,b]=>
   if pW d k=true then(match rG k d with
    | .nx p=> .nx (0::p)
    | .ret s=>match(if has e.names k=true then none else n6 k b) with
     |some p=> .nx (1::p)
     |none=>qE 0 (.ret s))
   else(match iR k false false d with
    |some p=> .nx (0::p)
    |none=>if has e.names k=true then .nx [] else qE 1 (f b))
  |_=> .nx [])
 else if e.kind=8 then(match e.l with
  | [c,a,b]=>(match iR k false false c with
   |some p=> .nx (0::p)
   |none=>zC (qE 1 (f a)) (qE 2 (f b)))
  |_=> .nx [])
 else if e.kind=11 then(match e.l with
  | [m]=>(match iR k false false m with
   |some p=> .nx (0::p)
   |none=>oP (fun i y=>if has (bM e i) k=true then .nx [(i:Int)] else qE i (f y)) 1 (e.aO.map Arm.body))
  |_=> .nx [])
 else if e.kind=14∨e.kind=15∨e.kind=16 then(match e.l with
  | [b]=>(match qE 0 (f b) with
   | .nx p=> .nx p
   | .ret s=>match dI (fun i y=>if has (bM e i) k=true then none else n6 k y) 1 (e.aO.map Arm.body) with
    |some p=> .nx p
    |none=> .ret s)
  |_=> .nx [])
 else .nx []
theorem aCU{f g:Nat→Expr→LR}: ∀{l:List Expr}{i:Nat}(_: ∀y∈l,∀j,f j y=g j y),oP f i l=oP g i l
 | [],_,_=>rfl
 |y::r,i,h=>by
  simp only [oP];rw [h y (.head _) i,aCU (l:=r) (i:=i+1) fun z hz=>h z (.tail _ hz)]
theorem aAY{k:Str}{e:Expr}{f g:Expr→LR}(h: ∀y∈parts e,f y=g y):rA k e f=rA k e g:=by
 have hl: ∀y∈e.l,f y=g y:=fun y hy=>h y (oC hy);have ha: ∀y∈e.aO.map Arm.body,f y=g y:=fun y hy=>h y (List.mem_append_right _ hy);unfold rA;split
 ·rfl
 split
 ·split
  ·rename_i d b he;rw [hl b (by rw [he];simp)]
  ·rfl
 split
 ·split
  ·rename_i c a b he;rw [hl a (by rw [he];simp),hl b (by rw [he];simp)]
  ·rfl
 split
 ·split
  ·rw [aCU fun y hy j=>by rw [ha y hy]]
  ·rfl
 split
 ·split
  ·rename_i b he;rw [hl b (by rw [he];simp)]
  ·rfl
 rfl
def aAL:Nat→Str→Expr→LR
 |0,_,_=> .nx []
 |n+1,k,e=>rA k e (aAL n k)
theorem aBU: ∀(n:Nat)(k:Str)(e:Expr),bC e≤n→aAL (n+1) k e=aAL n k e
 |0,k,e,h=>by have:=bH e;omega
 |n+1,k,e,h=>by
  rw [aAL,aAL];exact aAY fun y hy=>aBU n k y (by have:=bN hy;omega)
def fL(k:Str)(e:Expr):LR:=aAL (bC e) k e
theorem aFu: ∀(n:Nat)(k:Str)(e:Expr),bC e≤n→aAL n k e=fL k e
 |0,k,e,h=>by have:=bH e;omega
 |n+1,k,e,h=>by
  by_cases h':bC e=n+1
  ·rw [fL,h']
  ·rw [aBU n k e (by omega)];exact aFu n k e (by omega)
theorem look_eq(k:Str)(e:Expr):fL k e=rA k e (fL k):=by
 obtain⟨n,hn⟩: ∃n,bC e=n+1:=⟨bC e-1,by have:=bH e;omega⟩
 rw [fL,hn,aAL];exact aAY fun y hy=>aFu n k y (by have:=bN hy;omega)
def oN(path:List Int)(c3:List (List Int))(c4 c5:Int):LR→Ctl (List (List Int)×Int×Int) Pan
 | .ret s=> .ret (c3++s.map (fun q=>path++q.1),c4+(s.countP (·.2):Nat),c5+(s.countP (!·.2):Nat))
 | .nx p=> .nx (.wV ⟨path++p⟩)
theorem aDI(e:Expr)(path:List Int)(k:Str)(c3:List (List Int))(c4 c5:Int):dQ ⟨e,path⟩ k c3 c4 c5=some (pW e k):=by
 rw [dQ,pW];show(if(e.kind==18)=true then some true else some (e.kind==19):Option Bool).bind (fun c6=>(if c6=true then some (e.s==k) else some false:Option Bool).bind fun c7=>some c7)=_;cases (e.kind==18)<;>cases (e.kind==19)<;>cases (e.s==k)<;>rfl
theorem qA(p:List Int)(b:Bool):gC p b=some (if b=true then .nx (.wV ⟨p⟩) else .ret ()):=by
 rw [gC];cases b<;>rfl
theorem aJK{e:Expr}(hw:WF e)(k:Str)(path:List Int)(hp:Deep e path)(c3:List (List Int))(c4 c5:Int)(h3:c3.length≤3000000)(h4:0≤c4∧c4≤3000000)(h5:0≤c5∧c5≤3000000):eE ⟨e,path⟩ k c3 c4 c5=some (oN path c3 c4 c5 (rG k e)):=by
 have hlen:=hw.1.lens;have hsum:IntKind.wrap .i64 (((aC.mk e path).expr.l.length:Int)+((aC.mk e path).expr.aO.length:Int))=((parts e).length:Int):=hw.1.sum;have loop: ∀c:List (List Int),bQ ⟨e,path⟩ k c4 c5 ⟨e,path⟩ c ((0:Nat):Int) none c=some (match dI (fun _ y=>iR k false false y) 0 (parts e) with|some p=> .nx (.ret (.wV ⟨path++p⟩))|none=> .nx (.nx (none,c))):=by
  intro c;refine dT (l:=parts e) (C:=fun j r=>bQ ⟨e,path⟩ k c4 c5 ⟨e,path⟩ c (j:Int) none c=some (match dI (fun _ y=>iR k false false y) j r with|some p=> .nx (.ret (.wV ⟨path++p⟩))|none=> .nx (.nx (none,c)))) (by rw [iC];omega) (fun hl=> ?_) fun j y r hdr hk hy hlt _ hws ih=> ?_
  ·rw [bQ,hsum,hl];rfl
  ·have hy':=sZ hdr;have hl:=lG _ y (Nat.le_refl _) (hw.part hy') k false false (path++ [(j:Int)]) (gE hp hy' _);rw [bQ,hsum,if_pos hlt,mG hw.1 hp hdr];simp only [nf,fX,hl,qA,Option.bind_eq_bind,Option.bind_some,hws,dI];cases iR k false false y with
   |none=>exact ih
   |some p=>exact congrArg (fun z=>some (Ctl.nx (Ctl.ret (Pan.wV ⟨z⟩)))) (vP path j p)
 have h4':(bA ⟨e,path⟩)=some ⟨e,path⟩:=by rw [bA]
 have hl:=loop c3;rw [show((0:Nat):Int)=0 from rfl] at hl;rw [eE,h4'];simp only [Option.bind_eq_bind,Option.bind_some,fY,hl,rG];cases dI (fun _ y=>iR k false false y) 0 (parts e) with
 |some p=>rfl
 |none=>
  have ha:app 24 c3 [path]=some (c3++ [path]):=aIp (by rw [aAq];simp only [List.length_singleton];omega) (by rw [aAq];simp only [List.length_singleton];omega);have w4:IntKind.wrap .i64 (c4+1)=c4+1:=wrap64 (by omega) (by omega);have w5:IntKind.wrap .i64 (c5+1)=c5+1:=wrap64 (by omega) (by omega);show(app 24 c3 [path]).bind _=_;rw [ha,w4,w5];show(if(e.kind==18)=true then some (Ctl.ret (c3++ [path],c4+1,c5)) else some (Ctl.ret (c3++ [path],c4,c5+1)))=_;cases (e.kind==18)<;>simp [oN]
theorem tI(path:List Int)(c3:List (List Int))(c4 c5:Int)(i:Int)(r:LR):oN path c3 c4 c5 (qE i r)=oN (path++ [i]) c3 c4 c5 r:=by
 cases r with
 |nx p=>simp [oN,qE]
 |ret s=>
  simp only [oN,qE,List.map_map,List.countP_map]
  congr 2
  congr 1
  refine List.map_congr_left fun q _=> ?_;simp
theorem aDt(path:List Int)(c3:List (List Int))(c4 c5:Int)(s:mW)(b:LR):oN path c3 c4 c5 (zC (.ret s) b)=oN path (c3++s.map (fun q=>path++q.1)) (c4+(s.countP (·.2):Nat)) (c5+(s.countP (!·.2):Nat)) b:=by
 cases b with
 |nx p=>rfl
 |ret t=>
  simp only [oN,zC,List.map_append,List.countP_append,List.append_assoc]
  congr 2
  congr 1
  ·omega
  ·omega
def kF:LR→Nat
 | .ret s=>s.length
 | .nx _=>0
theorem qR(i:Int)(r:LR):kF (qE i r)=kF r:=by cases r<;>simp [kF,qE]
theorem aDE(a b:LR):kF (zC a b)≤kF a+kF b:=by
 cases a with
 |nx p=>simp [kF,zC]
 |ret s=>cases b<;>simp [kF,zC]
theorem aEc(k:Str)(e:Expr):kF (rG k e)≤1:=by
 unfold rG;split<;>simp [kF]
theorem aEZ{f:Nat→Expr→LR}: ∀{l:List Expr}{i:Nat}(_: ∀y∈l,∀j,kF (f j y)≤bC y),kF (oP f i l)≤fW l
 | [],i,_=>by simp [oP,kF]
 |y::r,i,h=>by
  have h1:=h y (.head _) i;have h2:=aEZ (l:=r) (i:=i+1) fun z hz=>h z (.tail _ hz);have:=aDE (f i y) (oP f (i+1) r);simp only [oP,fW];omega
theorem y1: ∀(n:Nat)(k:Str)(e:Expr),bC e≤n→kF (fL k e)≤bC e
 |0,k,e,h=>by have:=bH e;omega
 |n+1,k,e,h=>by
  have hpos:=bH e;have hbp:=rJ e;have IH: ∀y∈parts e,kF (fL k y)≤bC y:=fun y hy=>y1 n k y (by have:=bN hy;omega);have hsub: ∀y∈e.l,bC y<bC e:=fun y hy=>bN (oC hy);rw [look_eq,rA];split
  ·have:=aEc k e;omega
  split
  ·split
   ·rename_i d b he;split
    ·have h1:=aEc k d;cases hs:rG k d with
     |nx p=>simp [kF]
     |ret s=>
      rw [hs] at h1;simp only [kF] at h1;simp only [];split
      ·simp [kF]
      ·simp [kF,qE];omega
    ·split
     ·simp [kF]
     ·split
      ·simp [kF]
      ·rw [qR];have:=IH b (oC (by rw [he];simp));have:=hsub b (by rw [he];simp);omega
   ·simp [kF]
  split
  ·split
   ·rename_i c a b he;split
    ·simp [kF]
    ·have h1:=IH a (oC (by rw [he];simp));have h2:=IH b (oC (by rw [he];simp));have h3:=aDE (qE 1 (fL k a)) (qE 2 (fL k b));rw [qR,qR] at h3;have h4:fW e.l<bC e:=by rw [pL];omega
     rw [he] at h4;simp only [fW] at h4;omega
   ·simp [kF]
  split
  ·split
   ·split
    ·simp [kF]
    ·have h5:=aEZ (f:=fun i y=>if has (bM e i) k=true then .nx [(i:Int)] else qE i (fL k y)) (l:=e.aO.map Arm.body) (i:=1) (fun y hy j=>by
      split
      ·simp [kF]
      ·rw [qR];exact IH y (List.mem_append_right _ hy))
     have h6:fW (e.aO.map Arm.body)≤fW (parts e):=by rw [parts,uP];omega
     omega
   ·simp [kF]
  split
  ·split
   ·rename_i b he;have h1:=IH b (oC (by rw [he];simp));have h2:=hsub b (by rw [he];simp);rw [←qR 0] at h1;cases hq:qE 0 (fL k b) with
    |nx p=>simp [kF]
    |ret s=>
     rw [hq] at h1;simp only [];split
     ·simp [kF]
     ·simp only [kF] at h1⊢;omega
   ·simp [kF]
  simp [kF]
theorem count_le(s:mW):s.countP (·.2)≤s.length∧s.countP (!·.2)≤s.length:=⟨List.countP_le_length,List.countP_le_length⟩
structure Small(c3:List (List Int))(c4 c5:Int)(n:Nat):Prop where
 a:c3.length+n≤2000000
 b0:0≤c4
 b:c4+n≤2000000
 c0:0≤c5
 c:c5+n≤2000000
theorem Small.less{c3:List (List Int)}{c4 c5:Int}{n m:Nat}(h:Small c3 c4 c5 n)(hm:m≤n):Small c3 c4 c5 m:=⟨by have:=h.a;omega,h.b0,by have:=h.b;omega,h.c0,by have:=h.c;omega⟩
theorem Small.step{c3:List (List Int)}{c4 c5:Int}{n m:Nat}{path:List Int}{s:mW}(h:Small c3 c4 c5 n)(hm:s.length+m≤n):Small (c3++s.map (fun q=>path++q.1)) (c4+(s.countP (·.2):Nat)) (c5+(s.countP (!·.2):Nat)) m:=by
 obtain⟨h1,h2⟩:=count_le s;exact⟨by have:=h.a;simp;omega,by have:=h.b0;omega,by have:=h.b;omega,by have:=h.c0;omega,by have:=h.c;omega⟩
theorem Small.site{c3:List (List Int)}{c4 c5:Int}{n:Nat}(h:Small c3 c4 c5 n):c3.length≤3000000∧(0≤c4∧c4≤3000000)∧(0≤c5∧c5≤3000000):=⟨by have:=h.a;omega,⟨h.b0,by have:=h.b;omega⟩,⟨h.c0,by have:=h.c;omega⟩⟩
abbrev R3:=List (List Int)×Int×Int
theorem aEG(X:Ctl R3 Pan):(match X with| .ret r=>some (Ctl.ret (r.1,r.2.1,r.2.2))| .nx p=>some (.nx p))=some X:=by cases X<;>rfl
def aAs(k:Str)(y:Expr):Prop:= ∀(path:List Int)(c3:List (List Int))(c4 c5:Int),Deep y path→Small c3 c4 c5 (bC y)→bW ⟨y,path⟩ k c3 c4 c5=some (oN path c3 c4 c5 (fL k y))
theorem aDD{e:Expr}(h:e.aO= []):parts e=e.l:=by rw [parts,h];simp
theorem aSX{α:Type}{l:List α}(h:l.length=2): ∃x y,l= [x,y]:=by
 match l,h with
 | [x,y],_=>exact⟨x,y,rfl⟩
theorem aSp{α:Type}{l:List α}(h:l.length=3): ∃x y z,l= [x,y,z]:=by
 match l,h with
 | [x,y,z],_=>exact⟨x,y,z,rfl⟩
theorem aHZ(path:List Int)(c3:List (List Int))(c4 c5:Int)(i:Int)(p:List Int):(Ctl.nx (Pan.wV ⟨(path++ [i])++p⟩):Ctl R3 Pan)=oN path c3 c4 c5 (.nx (i::p)):=by rw [vP];rfl
theorem aFl(path:List Int)(c3:List (List Int))(c4 c5:Int)(s:mW):oN path c3 c4 c5 (.ret s)= .ret (c3++s.map (fun q=>path++q.1),c4+(s.countP (·.2):Nat),c5+(s.countP (!·.2):Nat)):=rfl
theorem aQe{e:Expr}(hw:WF e)(h6:e.kind=6)(k:Str)(IH: ∀y∈parts e,aAs k y)(path:List Int)(c3:List (List Int))(c4 c5:Int)(hp:Deep e path)(hs:Small c3 c4 c5 (bC e))(he:pW e k=false):
  iQ ⟨e,path⟩ k c3 c4 c5=some (oN path c3 c4 c5 (fL k e)):=by
 obtain⟨n1,n2,n3⟩:=hw.aQO h6;obtain⟨x,hx⟩:=aKJ n1;obtain⟨d,b,hl⟩:=aSX n2;have hpt:parts e= [d,b]:=(aDD n3).trans hl;have hd:d∈parts e:=by rw [hpt];simp
 have hb:b∈parts e:=by rw [hpt];simp
 have p0:aX ⟨e,path⟩ 0=some ⟨d,path++ [0]⟩:=mG hw.1 hp (k:=0) (r:= [b]) (by rw [hpt];rfl);have p1:aX ⟨e,path⟩ 1=some ⟨b,path++ [1]⟩:=mG hw.1 hp (k:=1) (r:= []) (by rw [hpt];rfl);have hxn:idx (aC.mk e path).expr.names 0=some x:=by show idx e.names 0=some x;rw [hx];rfl
 have hh:has e.names k=(x==k):=by rw [hx];simp [has]
 obtain⟨s1,s2,s3⟩:=hs.site;rw [look_eq,rA,he,if_neg (by simp),if_pos h6,hl];rw [iQ];simp only [p0,p1,aDI,Option.bind_eq_bind,Option.bind_some];cases hed:pW d k with
 |true=>
  simp only [if_true,aJK (hw.part hd) k (path++ [0]) (gE hp hd 0) c3 c4 c5 s1 s2 s3,Option.bind_some,hh];cases hsv:rG k d with
  |nx p=>exact congrArg some (aHZ path c3 c4 c5 0 p)
  |ret s=>
   simp only [oN];show(idx (aC.mk e path).expr.names 0).bind _=_;rw [hxn];simp only [Option.bind_some,rC _ b (Nat.le_refl _) (hw.part hb) k (path++ [1]) (gE hp hb 1),qA];have hret:(some (Ctl.ret (c3++List.map (fun q=>(path++ [0])++q.1) s,c4+(s.countP (·.2):Nat),c5+(s.countP (!·.2):Nat))):Option (Ctl R3 Pan))=some (oN path c3 c4 c5 (qE 0 (.ret s))):=by rw [tI];rfl
   cases (x==k) with
   |true=>exact hret
   |false=>
    cases n6 k b with
    |none=>exact hret
    |some p=>exact congrArg some (aHZ path c3 c4 c5 1 p)
 |false=>
  simp only [Bool.false_eq_true,if_false,mF,gX,gW,lG _ d (Nat.le_refl _) (hw.part hd) k false false (path++ [0]) (gE hp hd 0),hxn,Option.bind_eq_bind,Option.bind_some,hh];cases iR k false false d with
  |some p=>
   simp only [pN,if_true,Option.bind_some,qA];exact congrArg some (aHZ path c3 c4 c5 0 p)
  |none=>
   simp only [pN,Bool.false_eq_true,if_false,Option.bind_some];cases (x==k) with
   |true=>
    simp only [if_true,Option.bind_some,qA,oN,List.append_nil]
   |false=>
    have hbb:=bN hb;simp only [Bool.false_eq_true,if_false,Option.bind_some,qA,nf,IH b hb (path++ [1]) c3 c4 c5 (gE hp hb 1) (hs.less (by omega)),tI];exact aEG _
theorem aLg{e:Expr}(hw:WF e)(h8:e.kind=8)(k:Str)(IH: ∀y∈parts e,aAs k y)(path:List Int)(c3:List (List Int))(c4 c5:Int)(hp:Deep e path)(hs:Small c3 c4 c5 (bC e))(he:pW e k=false):
  gF ⟨e,path⟩ k c3 c4 c5=some (oN path c3 c4 c5 (fL k e)):=by
 obtain⟨n2,n3⟩:=hw.if_ h8;obtain⟨c,a,b,hl⟩:=aSp n2;have hpt:parts e= [c,a,b]:=(aDD n3).trans hl;have hc:c∈parts e:=by rw [hpt];simp
 have ha:a∈parts e:=by rw [hpt];simp
 have hb:b∈parts e:=by rw [hpt];simp
 have p0:aX ⟨e,path⟩ 0=some ⟨c,path++ [0]⟩:=mG hw.1 hp (k:=0) (r:= [a,b]) (by rw [hpt];rfl);have p1:aX ⟨e,path⟩ 1=some ⟨a,path++ [1]⟩:=mG hw.1 hp (k:=1) (r:= [b]) (by rw [hpt];rfl);have p2:aX ⟨e,path⟩ 2=some ⟨b,path++ [2]⟩:=mG hw.1 hp (k:=2) (r:= []) (by rw [hpt];rfl);have hbp:=rJ e;rw [hpt] at hbp;simp only [fW] at hbp;rw [look_eq,rA,he,if_neg (by simp),if_neg (by omega),if_pos h8,hl];rw [gF];simp only [p0,p1,p2,lG _ c (Nat.le_refl _) (hw.part hc) k false false (path++ [0]) (gE hp hc 0),Option.bind_eq_bind,Option.bind_some,qA];cases iR k false false c with
 |some p=>
  simp only [pN,if_true];exact congrArg some (aHZ path c3 c4 c5 0 p)
 |none=>
  simp only [pN,Bool.false_eq_true,if_false,nf,IH a ha (path++ [1]) c3 c4 c5 (gE hp ha 1) (hs.less (by omega)),Option.bind_some];rw [←tI];have hlen:=y1 _ k a (Nat.le_refl _);rw [←qR 1] at hlen;cases hq:qE 1 (fL k a) with
  |nx p=>rfl
  |ret s=>
   rw [hq] at hlen;simp only [kF] at hlen;rw [aDt,tI];simp only [aFl,IH b hb (path++ [2]) _ _ _ (gE hp hb 2) (hs.step (path:=path) (s:=s) (m:=bC b) (by omega)),Option.bind_some];exact aEG _
def z6(f:Nat→Expr→LR)(i:Nat)(y:Expr):LR:=if i=0 then .ret [] else f i y
theorem aDY(f:Nat→Expr→LR): ∀(l:List Expr)(i:Nat),oP (z6 f) (i+1) l=oP f (i+1) l
 | [],_=>rfl
 |y::r,i=>by
  simp only [oP];rw [aDY f r (i+1)]
  rfl
theorem aK0(r:LR):zC (.ret []) r=r:=by cases r<;>rfl
theorem aKK(f:Nat→Expr→LR)(m:Expr)(l:List Expr):oP (z6 f) 0 (m::l)=oP f 1 l:=by
 simp only [oP];rw [aDY f l 0];exact aK0 _
theorem aM7{e:Expr}(hw:WF e)(h11:e.kind=11)(k:Str)(IH: ∀y∈parts e,aAs k y)(path:List Int)(c3:List (List Int))(c4 c5:Int)(hp:Deep e path)(hs:Small c3 c4 c5 (bC e))(he:pW e k=false):
  gV ⟨e,path⟩ k c3 c4 c5=some (oN path c3 c4 c5 (fL k e)):=by
 have hlens:=hw.1.lens;obtain⟨m,hl⟩:=aKJ (hw.aQB h11);have hpt:parts e=m::e.aO.map Arm.body:=by rw [parts,hl];rfl
 have hm:m∈parts e:=by rw [hpt];simp
 have p0:aX ⟨e,path⟩ 0=some ⟨m,path++ [0]⟩:=mG hw.1 hp (k:=0) (r:=e.aO.map Arm.body) (by rw [hpt];rfl);have hbp:=rJ e;have hsum:IntKind.wrap .i64 (((aC.mk e path).expr.l.length:Int)+((aC.mk e path).expr.aO.length:Int))=((parts e).length:Int):=hw.1.sum;rw [look_eq,rA,he,if_neg (by simp),if_neg (by omega),if_neg (by omega),if_pos h11,hl];generalize hF:(fun(i:Nat)(y:Expr)=>if has (bM e i) k=true then(Ctl.nx [(i:Int)]:LR) else qE i (fL k y))=F;have hFlen: ∀y∈parts e,∀j,kF (z6 F j y)≤bC y:=by
  intro y hy j;unfold z6;split
  ·simp [kF]
  ·rw [←hF];simp only [];split
   ·simp [kF]
   ·rw [qR];exact y1 _ k y (Nat.le_refl _)
 have hround: ∀(j:Nat)(y:Expr)(r:List Expr)(c:List (List Int))(a b:Int),(parts e).drop j=y::r→Small c a b (bC y)→fQ ⟨e,path⟩ k ⟨e,path⟩ (j:Int) ⟨y,path++ [(j:Int)]⟩ c a b=some (match oN path c a b (z6 F j y) with| .ret q=> .ret (none,q.1,q.2.1,q.2.2)| .nx p=> .nx p):=by
  intro j y r c a b hdr hsm;have hy:=sZ hdr;rw [fQ];have q0:((j:Int)==0)=decide (j=0):=zE _ 0;rw [q0];unfold z6;by_cases hj:j=0
  ·rw [decide_eq_true hj,if_pos hj];simp [oN]
  ·rw [decide_eq_false hj,if_neg hj,←hF];simp only [Bool.false_eq_true,if_false,yW hw path k (aBK hdr),Option.bind_eq_bind,Option.bind_some,qA,nf,IH y hy (path++ [(j:Int)]) c a b (gE hp hy _) hsm];cases has (bM e j) k with
   |true=>rfl
   |false=>
    simp only [Bool.false_eq_true,if_false,tI];cases oN (path++ [(j:Int)]) c a b (fL k y)<;>rfl
 have loop: ∀(c:List (List Int))(a b:Int),Small c a b (fW (parts e))→bX ⟨e,path⟩ k ⟨e,path⟩ c3 ((0:Nat):Int) none c a b=some (match oN path c a b (oP (z6 F) 0 (parts e)) with| .ret q=> .nx (.nx (none,q.1,q.2.1,q.2.2))| .nx p=> .nx (.ret p)):=by
  refine dT (l:=parts e) (C:=fun j r=> ∀(c:List (List Int))(a b:Int),Small c a b (fW r)→bX ⟨e,path⟩ k ⟨e,path⟩ c3 (j:Int) none c a b=some (match oN path c a b (oP (z6 F) j r) with| .ret q=> .nx (.nx (none,q.1,q.2.1,q.2.2))| .nx p=> .nx (.ret p))) (by rw [iC];omega) (fun hl=> ?_) fun j y r hdr hk hy hlt _ hws ih=> ?_
  ·intro c a b _;rw [bX,hsum,hl];simp [oP,oN]
  ·intro c a b hsm;have hy':=sZ hdr;simp only [fW] at hsm;rw [bX,hsum,if_pos hlt,mG hw.1 hp hdr];simp only [nf,hround j y r c a b hdr (hsm.less (by omega)),Option.bind_eq_bind,Option.bind_some,hws,oP];have hlen:=hFlen y hy' j;cases hq:z6 F j y with
   |nx p=>rfl
   |ret s=>
    rw [hq] at hlen;simp only [kF] at hlen;rw [aDt];exact ih _ _ _ (hsm.step (path:=path) (s:=s) (m:=fW r) (by omega))
 have hl0:=loop c3 c4 c5 (hs.less (by omega));rw [hpt,aKK,show((0:Nat):Int)=0 from rfl] at hl0;have h4':(bA ⟨e,path⟩)=some ⟨e,path⟩:=by rw [bA]
 rw [gV];simp only [p0,lG _ m (Nat.le_refl _) (hw.part hm) k false false (path++ [0]) (gE hp hm 0),Option.bind_eq_bind,Option.bind_some,qA];cases iR k false false m with
 |some p=>
  simp only [pN,if_true];exact congrArg some (aHZ path c3 c4 c5 0 p)
 |none=>
  simp only [pN,Bool.false_eq_true,if_false,nf,h4',Option.bind_some,iA,hl0,Option.bind_eq_bind];cases oN path c3 c4 c5 (oP F 1 (e.aO.map Arm.body))<;>rfl
theorem z9{e:Expr}(hw:WF e)(hk:e.kind=14∨e.kind=15∨e.kind=16)(k:Str)(IH: ∀y∈parts e,aAs k y)(path:List Int)(c3:List (List Int))(c4 c5:Int)(hp:Deep e path)(hs:Small c3 c4 c5 (bC e))(he:pW e k=false):
  dB ⟨e,path⟩ k c3 c4 c5=some (oN path c3 c4 c5 (fL k e)):=by
 have hlens:=hw.1.lens;obtain⟨b,hl⟩:=aKJ (hw.aN3 hk);have hpt:parts e=b::e.aO.map Arm.body:=by rw [parts,hl];rfl
 have hb:b∈parts e:=by rw [hpt];simp
 have p0:aX ⟨e,path⟩ 0=some ⟨b,path++ [0]⟩:=mG hw.1 hp (k:=0) (r:=e.aO.map Arm.body) (by rw [hpt];rfl);have hbb:=bN hb;have hsum:IntKind.wrap .i64 (((aC.mk e path).expr.l.length:Int)+((aC.mk e path).expr.aO.length:Int))=((parts e).length:Int):=hw.1.sum;rw [look_eq,rA,he,if_neg (by simp),if_neg (by omega),if_neg (by omega),if_neg (by omega),if_pos hk,hl];have sk: ∀(l:List Expr)(i:Nat),dI (fun i y=>if(i=0∨has (bM e i) k=true) then none else n6 k y) (i+1) l=dI (fun i y=>if has (bM e i) k=true then none else n6 k y) (i+1) l:=by
  intro l
  induction l with
  |nil=>intro i;rfl
  |cons y r ih=>
   intro i;simp only [dI];rw [ih (i+1)];simp
 have loop: ∀(r7:R3)(c:List (List Int)),bI ⟨e,path⟩ k r7 ⟨e,path⟩ c ((0:Nat):Int) none c=some (match dI (fun i y=>if(i=0∨has (bM e i) k=true) then none else n6 k y) 0 (parts e) with|some p=> .nx (.ret (.wV ⟨path++p⟩))|none=> .nx (.nx (none,c))):=by
  intro r7 c;refine dT (l:=parts e) (C:=fun j r=>bI ⟨e,path⟩ k r7 ⟨e,path⟩ c (j:Int) none c=some (match dI (fun i y=>if(i=0∨has (bM e i) k=true) then none else n6 k y) j r with|some p=> .nx (.ret (.wV ⟨path++p⟩))|none=> .nx (.nx (none,c)))) (by rw [iC];omega) (fun hl=> ?_) fun j y r hdr hj hy hlt _ hws ih=> ?_
  ·rw [bI,hsum,hl];rfl
  ·have hy':=sZ hdr;have q0:((j:Int)==0)=decide (j=0):=zE _ 0;rw [bI,hsum,if_pos hlt,mG hw.1 hp hdr];simp only [nf,fB,q0,yW hw path k (aBK hdr),rC _ y (Nat.le_refl _) (hw.part hy') k (path++ [(j:Int)]) (gE hp hy' _),qA,Option.bind_eq_bind,Option.bind_some,hws,dI];by_cases hj0:j=0
   ·have e1:(if(j=0∨has (bM e j) k=true) then none else n6 k y)=none:=if_pos (.inl hj0);rw [decide_eq_true hj0,e1];exact ih
   ·rw [decide_eq_false hj0];cases hh:has (bM e j) k with
    |true=>
     have e1:(if(j=0∨true=true) then none else n6 k y)=none:=if_pos (.inr rfl);rw [e1];exact ih
    |false=>
     have e1:(if(j=0∨false=true) then none else n6 k y)=n6 k y:=if_neg (by simp [hj0]);rw [e1];cases n6 k y with
     |none=>exact ih
     |some p=>exact congrArg (fun z=>some (Ctl.nx (Ctl.ret (Pan.wV ⟨z⟩)))) (vP path j p)
 have hl0: ∀(r7:R3)(c:List (List Int)),bI ⟨e,path⟩ k r7 ⟨e,path⟩ c 0 none c=some (match dI (fun i y=>if has (bM e i) k=true then none else n6 k y) 1 (e.aO.map Arm.body) with|some p=> .nx (.ret (.wV ⟨path++p⟩))|none=> .nx (.nx (none,c))):=by
  intro r7 c;have:=loop r7 c;rw [hpt,show((0:Nat):Int)=0 from rfl] at this;have e0:dI (fun i y=>if(i=0∨has (bM e i) k=true) then none else n6 k y) 0 (b::e.aO.map Arm.body)=dI (fun i y=>if has (bM e i) k=true then none else n6 k y) 1 (e.aO.map Arm.body):=by
   rw [←sk _ 0]
   rfl
  rw [e0] at this;exact this
 have h4':(bA ⟨e,path⟩)=some ⟨e,path⟩:=by rw [bA]
 rw [dB];simp only [p0,nf,IH b hb (path++ [0]) c3 c4 c5 (gE hp hb 0) (hs.less (by omega)),Option.bind_eq_bind,Option.bind_some];rw [←tI];cases qE 0 (fL k b) with
 |nx p=>rfl
 |ret s=>
  simp only [aFl,h4',Option.bind_some,eY,hl0,Option.bind_eq_bind];cases dI (fun i y=>if has (bM e i) k=true then none else n6 k y) 1 (e.aO.map Arm.body)<;>rfl
theorem aJO: ∀(n:Nat)(e:Expr),bC e≤n→WF e→ ∀k,aAs k e
 |0,e,h=>by have:=bH e;omega
 |n+1,e,h=>by
  intro hw k path c3 c4 c5 hp hs;have IH: ∀y∈parts e,aAs k y:=fun y hy=>aJO n y (by have:=bN hy;omega) (hw.part hy) k;rw [bW];simp only [aDI,Option.bind_eq_bind,Option.bind_some];obtain⟨s1,s2,s3⟩:=hs.site;cases he:pW e k with
  |true=>
   have:fL k e=rG k e:=by rw [look_eq,rA,he,if_pos rfl]
   rw [this];simp only [if_true,aJK hw k path hp c3 c4 c5 s1 s2 s3,Option.bind_some];exact aEG _
  |false=>
   by_cases k6:e.kind=6
   ·simp only [nf,Bool.false_eq_true,if_false,k6,aQe hw k6 k IH path c3 c4 c5 hp hs he];exact aEG _
   by_cases k8:e.kind=8
   ·simp only [nf,Bool.false_eq_true,if_false,k8,aLg hw k8 k IH path c3 c4 c5 hp hs he];exact aEG _
   by_cases k11:e.kind=11
   ·simp only [nf,Bool.false_eq_true,if_false,k11,aM7 hw k11 k IH path c3 c4 c5 hp hs he];exact aEG _
   by_cases k14:e.kind=14
   ·simp only [nf,Bool.false_eq_true,if_false,k14,z9 hw (.inl k14) k IH path c3 c4 c5 hp hs he];exact aEG _
   by_cases k15:e.kind=15
   ·simp only [nf,Bool.false_eq_true,if_false,k15,z9 hw (.inr (.inl k15)) k IH path c3 c4 c5 hp hs he];exact aEG _
   by_cases k16:e.kind=16
   ·simp only [nf,Bool.false_eq_true,if_false,k16,z9 hw (.inr (.inr k16)) k IH path c3 c4 c5 hp hs he];exact aEG _
   have:fL k e= .nx []:=by
    rw [look_eq,rA,he,if_neg (by simp),if_neg k6,if_neg k8,if_neg k11,if_neg (by omega)]
   rw [this];simp [k6,k8,k11,k14,k15,k16,oN]
theorem qX{i:Int}{r:LR}{s:mW}(h:qE i r= .ret s): ∃t,r= .ret t∧s=t.map fun q=>(i::q.1,q.2):=by
 cases r with
 |ret t=>cases h;exact⟨t,rfl,rfl⟩
 |nx q=>cases h
theorem qI{a b:LR}{s:mW}(h:zC a b= .ret s): ∃t u,a= .ret t∧b= .ret u∧s=t++u:=by
 cases a with
 |nx q=>cases h
 |ret t=>
  cases b with
  |nx q=>cases h
  |ret u=>cases h;exact⟨t,u,rfl,rfl,rfl⟩
def xV(k:Str)(e:Expr)(i:Nat)(y:Expr):LR:=if has (bM e i) k=true then .nx [(i:Int)] else qE i (fL k y)
theorem aDJ: ∀(n:Nat)(e:Expr),bC e≤n→ ∀(k:Str)(s:mW),fL k e= .ret s→ ∀q∈s,q.1.length<bC e
 |0,e,h=>by have:=bH e;omega
 |n+1,e,h=>by
  intro k s hs q hq;have hpos:=bH e;have IH: ∀y∈parts e,∀s,fL k y= .ret s→ ∀q∈s,q.1.length+1<bC e:=fun y hy s hs q hq=>by
   have h1:=bN hy;have:=aDJ n y (by omega) k s hs q hq;omega
  have hsite: ∀(x:Expr)(s:mW),rG k x= .ret s→ ∀q∈s,q.1.length=0:=fun x s hs q hq=>by
   unfold rG at hs;split at hs
   ·cases hs
   ·cases hs;simp at hq;subst hq
    rfl
  have hpre: ∀y∈parts e,∀i s,qE i (fL k y)= .ret s→ ∀q∈s,q.1.length<bC e:=fun y hy i s hs q hq=>by
   obtain⟨t,t1,rfl⟩:=qX hs;obtain⟨q',hq',rfl⟩:=List.mem_map.1 hq;have:=IH y hy t t1 q' hq';simp only [List.length_cons];omega
  rw [look_eq,rA] at hs;split at hs
  ·have:=hsite e s hs q hq;omega
  split at hs
  ·split at hs
   ·rename_i d b he;have hb:b∈parts e:=oC (by rw [he];simp);have hd:d∈parts e:=oC (by rw [he];simp);have hdb:=bN hd;have:=bH d;split at hs
    ·split at hs
     ·cases hs
     ·rename_i t ht;split at hs
      ·cases hs
      ·cases hs;obtain⟨q',hq',rfl⟩:=List.mem_map.1 hq;have:=hsite d t ht q' hq';simp only [List.length_cons];omega
    ·split at hs
     ·cases hs
     ·split at hs
      ·cases hs
      ·exact hpre b hb 1 s hs q hq
   ·cases hs
  split at hs
  ·split at hs
   ·rename_i c a b he;have hb:b∈parts e:=oC (by rw [he];simp);have ha:a∈parts e:=oC (by rw [he];simp);split at hs
    ·cases hs
    ·obtain⟨t,u,t1,u1,rfl⟩:=qI hs;rcases List.mem_append.1 hq with hq|hq
     ·exact hpre a ha 1 t t1 q hq
     ·exact hpre b hb 2 u u1 q hq
   ·cases hs
  split at hs
  ·split at hs
   ·split at hs
    ·cases hs
    ·have key: ∀(l:List Expr)(i:Nat)(s:mW),(∀y∈l,y∈parts e)→oP (xV k e) i l= .ret s→ ∀q∈s,q.1.length<bC e:=by
      intro l
      induction l with
      |nil=>intro i s _ hs q hq;cases hs;cases hq
      |cons y r ih=>
       intro i s hy hs q hq;rw [oP] at hs;obtain⟨t,u,t1,u1,rfl⟩:=qI hs;rcases List.mem_append.1 hq with hq|hq
       ·unfold xV at t1;split at t1
        ·cases t1
        ·exact hpre y (hy y (.head _)) _ t t1 q hq
       ·exact ih (i+1) u (fun z hz=>hy z (.tail _ hz)) u1 q hq
     exact key _ 1 s (fun y hy=>List.mem_append_right _ hy) hs q hq
   ·cases hs
  split at hs
  ·split at hs
   ·rename_i b he;have hb:b∈parts e:=oC (by rw [he];simp);split at hs
    ·cases hs
    ·rename_i t ht;split at hs
     ·cases hs
     ·cases hs;exact hpre b hb 0 s ht q hq
   ·cases hs
  cases hs
def Reach:Expr→List Int→Expr→Prop
 |e,[],x=>x=e
 |e,i::p,x=> ∃(j:Nat)(y:Expr),i=(j:Int)∧(parts e)[j]?=some y∧Reach y p x
theorem aLz{path:List Int}(hpl:path.length≤2000000): ∀e x,WF e→Reach e path x→m7 path 0 e=some (.nx x):=by
 refine dT (l:=path) (C:=fun j r=> ∀e x,WF e→Reach e r x→m7 path (j:Int) e=some (.nx x)) (by omega) (fun hd=> ?_) fun j i r _ _ _ hlt hi hw ih=> ?_
 ·intro e x _ hr;have:x=e:=hr;subst this;rw [m7,hd]
  rfl
 ·intro e x hwf hr;obtain⟨m,y,rfl,hy,hr2⟩:=hr;have hlen:=hwf.1.lens;have hpt:=iC e;have hm:m<(parts e).length:=(List.getElem?_eq_some_iff.1 hy).1;have w:IntKind.wrap .i64 (((parts e).length:Int)-1)=((parts e).length:Int)-1:=wrap64 (by omega) (by omega);have hix:idx (parts e) (m:Int)=some y:=by
   unfold idx;rw [if_pos (by omega)];simpa using hy
  rw [m7,if_pos hlt];simp only [nf,uO hwf.1,hi,aPG,w,Option.bind_eq_bind,Option.bind_some,hix,hw];rw [decide_eq_true (p:=(0:Int)≤(m:Int)) (by omega),decide_eq_true (p:=(m:Int)≤((parts e).length:Int)-1) (by omega)];exact ih y x (hwf.part (List.mem_of_getElem? hy)) hr2
theorem aR1{e x:Expr}{path:List Int}(hw:WF e)(hpl:path.length≤2000000)(hr:Reach e path x):aAy e path=some (x,true):=by
 rw [aAy,aLz hpl e x hw hr]
 rfl
theorem get_mem{l:List Expr}{y:Expr}{j:Nat}(h:l[j]?=some y):y∈l:=List.mem_of_getElem? h
theorem aMR{k:Str}(h:nP k=true):k≠ []:=by
 rintro rfl
 cases h
theorem xS{e:Expr}{k:Str}(hf:Fit e): ∃v,iF e=some v∧gB e k=some (if v=0 then(if nP k=true then 0 else 4) else v):=by
 obtain⟨v,h1,h2⟩:=aMH hf;refine⟨v,h2,?_⟩;rw [gB,h1];simp only [vH,Option.bind_eq_bind,Option.bind_some];by_cases h0:v=0
 ·subst h0;cases nP k<;>rfl
 ·simp [h0]
theorem aLu{e:Expr}{k:Str}(hw:WF e): ∃c,kI ⟨e,[]⟩ k=some c∧(match fL k e with
  | .ret s=>c=(some ⟨k,s.map (·.1),⟨(s.countP (·.2):Nat),(s.countP (!·.2):Nat)⟩⟩,[],0)
  | .nx p=>c=(none,p,10)):=by
 have hfit:bC e≤1048576:=hw.1;have h:=aJO _ e (Nat.le_refl _) hw k [] [] 0 0 (by show 0+bC e≤2000000;omega) ⟨by simp;omega,by omega,by omega,by omega,by omega⟩;rw [kI,h];cases fL k e with
 |ret s=>
  refine⟨_,rfl,?_⟩;simp
 |nx p=>exact⟨_,rfl,rfl⟩
theorem zT(p:Str→Bool): ∀l pre:List Str,gZ p pre l≠10
 | [],pre=>by simp [gZ]
 |y::r,pre=>by
  rw [gZ];split
  ·split
   ·decide
   ·exact zT p r _
  ·decide
theorem aOI(c1 c2 c3:Bool)(d:Int)(hd:d≠10):(if c1=true then(if c2=true then(if d=0 then(if c3=true then(5:Int) else 0) else d) else 4) else 7)≠10:=by
 by_cases h:d=0<;>cases c1<;>cases c2<;>cases c3<;>simp [h,hd]
theorem aOQ(kd:Int)(pre:List Arm)(i:Nat)(a:Arm):aIk kd pre i a≠10:=aOI _ _ _ _ (zT _ _ _)
theorem aGe(kd:Int): ∀l pre:List Arm,mC kd pre l≠10
 | [],pre=>by simp [mC]
 |a::r,pre=>by
  rw [mC];split
  ·exact aGe kd r _
  ·exact aOQ _ _ _ _
theorem aJH{α:Type}{l x:List α}{lo hi:Int}(h:cut l lo hi=some x):x.length≤l.length:=by
 unfold cut at h;split at h
 ·cases h;simp;omega
 ·cases h
theorem aPD{e:Expr}(hf:Fit e){v:Int}(h:eB e=some v):v≠10:=by
 have hlen:=hf.lens;rw [eB] at h;obtain⟨r2,_,h⟩:=bs h;split at h
 ·cases h;decide
 obtain⟨y3,_,h⟩:=bs h;obtain⟨r4,_,h⟩:=bs h;split at h
 ·cases h;decide
 obtain⟨r5,_,h⟩:=bs h;obtain⟨c6,_,h⟩:=bs h;split at h
 ·cases h;decide
 obtain⟨r8,_,h⟩:=bs h;obtain⟨c9,_,h⟩:=bs h;split at h
 ·cases h;decide
 obtain⟨c11,_,h⟩:=bs h;obtain⟨c12,_,h⟩:=bs h;split at h
 ·cases h;decide
 obtain⟨o13,_,h⟩:=bs h;obtain⟨l16,h16,h⟩:=bs h;obtain⟨r17,h17,h⟩:=bs h;have g16:=aJH h16;rw [eN l16 1 (by omega)] at h17;split at h
 ·cases h;cases h17;exact zT _ _ _
 obtain⟨l18,h18,h⟩:=bs h;obtain⟨r19,h19,h⟩:=bs h;have g18:=aJH h18;rw [eN l18 2 (by omega)] at h19;split at h
 ·cases h;cases h19;exact zT _ _ _
 obtain⟨o22,h22,h⟩:=bs h;rw [nB e y3 hf] at h22;cases h22;unfold pE at h;by_cases z:mC e.kind [] e.aO=0
 ·simp only [z,if_true] at h;obtain⟨c27,_,h⟩:=bs h;obtain⟨c28,_,h⟩:=bs h;split at h
  ·cases h;decide
  ·cases h;decide
 ·simp only [z,if_false] at h;cases h;exact aGe _ _ _
theorem aJR{f:Expr→Int}: ∀{l:List Expr}(_: ∀y∈l,f y≠10),lS f l≠10
 | [],_=>by simp [lS]
 |y::r,h=>by
  rw [lS];split
  ·exact aJR fun z hz=>h z (.tail _ hz)
  ·exact h y (.head _)
theorem aNI: ∀(n:Nat)(e:Expr),bC e≤n→Fit e→chk e≠10
 |0,e,h=>by have:=bH e;omega
 |n+1,e,h=>by
  intro hf;obtain⟨_,_,v,h1,h2⟩:=mR wP _ e (Nat.le_refl _) hf;rw [h2];split
  ·exact aJR fun y hy=>aNI n y (by have:=bN hy;omega) (hf.part hy)
  ·exact aPD hf h1
theorem aMS{e:Expr}(hf:Fit e): ∀v,iF e=some v→v≠10:=by
 intro v h;obtain⟨h1,_,_⟩:=mR wP _ e (Nat.le_refl _) hf;rw [iF] at h;obtain⟨x,_,h⟩:=bs h;split at h
 ·cases h;decide
 ·rw [h1] at h;cases h;exact aNI _ e (Nat.le_refl _) hf
def aJM(k:Str)(x:Expr):Prop:=pW x k=true∧dI (fun _ y=>iR k false false y) 0 (parts x)=none
theorem aAP{k:Str}{e:Expr}{s:mW}(hE:pW e k=true)(h:rG k e= .ret s): ∀q∈s,∃x,Reach e q.1 x∧(x.kind==18)=q.2∧aJM k x:=by
 intro q hq;unfold rG at h;split at h
 ·cases h
 ·rename_i hx;cases h;simp at hq;subst hq;exact⟨e,rfl,rfl,hE,hx⟩
theorem zL: ∀(n:Nat)(e:Expr),bC e≤n→WF e→ ∀(k:Str)(s:mW),fL k e= .ret s→ ∀q∈s,∃x,Reach e q.1 x∧(x.kind==18)=q.2∧aJM k x
 |0,e,h=>by have:=bH e;omega
 |n+1,e,h=>by
  intro hw k s hs q hq;have hpre: ∀(j:Nat)(y:Expr),(parts e)[j]?=some y→ ∀s,qE (j:Int) (fL k y)= .ret s→ ∀q∈s,∃x,Reach e q.1 x∧(x.kind==18)=q.2∧aJM k x:=fun j y hj s hs q hq=>by
   obtain⟨t,t1,rfl⟩:=qX hs;obtain⟨q',hq',rfl⟩:=List.mem_map.1 hq;have hy:=get_mem hj;obtain⟨x,x1,x2⟩:=zL n y (by have:=bN hy;omega) (hw.part hy) k t t1 q' hq';exact⟨x,⟨j,y,rfl,hj,x1⟩,x2⟩
  have h0: ∀(j:Nat)(y:Expr),e.l[j]?=some y→(parts e)[j]?=some y:=fun j y hj=>by
   rw [parts,List.getElem?_append_left (List.getElem?_eq_some_iff.1 hj).1];exact hj
  rw [look_eq,rA] at hs;split at hs
  ·rename_i hE;exact aAP hE hs q hq
  split at hs
  ·split at hs
   ·rename_i d b he;split at hs
    ·rename_i hE;split at hs
     ·cases hs
     ·rename_i t ht;split at hs
      ·cases hs
      ·cases hs;obtain⟨q',hq',rfl⟩:=List.mem_map.1 hq;obtain⟨x,x1,x2⟩:=aAP hE ht q' hq';exact⟨x,⟨0,d,rfl,h0 0 d (by rw [he];rfl),x1⟩,x2⟩
    ·split at hs
     ·cases hs
     ·split at hs
      ·cases hs
      ·exact hpre 1 b (h0 1 b (by rw [he];rfl)) s hs q hq
   ·cases hs
  split at hs
  ·split at hs
   ·rename_i c a b he;split at hs
    ·cases hs
    ·obtain⟨t,u,t1,u1,rfl⟩:=qI hs;rcases List.mem_append.1 hq with hq|hq
     ·exact hpre 1 a (h0 1 a (by rw [he];rfl)) t t1 q hq
     ·exact hpre 2 b (h0 2 b (by rw [he];rfl)) u u1 q hq
   ·cases hs
  split at hs
  ·split at hs
   ·rename_i m he;split at hs
    ·cases hs
    ·have key: ∀(l:List Expr)(i:Nat)(s:mW),(∀j y,l[j]?=some y→(parts e)[i+j]?=some y)→oP (xV k e) i l= .ret s→ ∀q∈s,∃x,Reach e q.1 x∧(x.kind==18)=q.2∧aJM k x:=by
      intro l
      induction l with
      |nil=>intro i s _ hs q hq;cases hs;cases hq
      |cons y r ih=>
       intro i s hy hs q hq;rw [oP] at hs;obtain⟨t,u,t1,u1,rfl⟩:=qI hs;rcases List.mem_append.1 hq with hq|hq
       ·unfold xV at t1;split at t1
        ·cases t1
        ·exact hpre i y (hy 0 y rfl) t t1 q hq
       ·exact ih (i+1) u (fun j z hz=>by
         have:=hy (j+1) z (by simpa using hz);rwa [show i+(j+1)=i+1+j by omega] at this) u1 q hq
     refine key _ 1 s (fun j y hj=> ?_) hs q hq;rw [parts,he];rw [show 1+j=j+1 by omega];simpa using hj
   ·cases hs
  split at hs
  ·split at hs
   ·rename_i b he;split at hs
    ·cases hs
    ·rename_i t ht;split at hs
     ·cases hs
     ·cases hs;exact hpre 0 b (h0 0 b (by rw [he];rfl)) s ht q hq
   ·cases hs
  cases hs
def rO(f:Nat→Expr→Nat):Nat→List Expr→Nat
 |_,[]=>0
 |i,y::r=>f i y+rO f (i+1) r
theorem xP{f g:Nat→Expr→Nat}: ∀{l:List Expr}{i:Nat}(_: ∀y∈l,∀j,f j y=g j y),rO f i l=rO g i l
 | [],_,_=>rfl
 |y::r,i,h=>by
  simp only [rO];rw [h y (.head _) i,xP (l:=r) (i:=i+1) fun z hz=>h z (.tail _ hz)]
theorem s7{f:Nat→Expr→Nat}: ∀{l:List Expr}{i:Nat}(_: ∀j y,l[j]?=some y→f (i+j) y=0),rO f i l=0
 | [],_,_=>rfl
 |y::r,i,h=>by
  simp only [rO];rw [show f i y=0 from h 0 y rfl,s7 (l:=r) (i:=i+1) fun j z hz=>by
   have:=h (j+1) z (by simpa using hz);rwa [show i+(j+1)=i+1+j by omega] at this]
theorem aJm{f:Nat→Expr→Nat}{g:Expr→Nat}: ∀{l:List Expr}{i:Nat}(_: ∀y∈l,∀j,f j y≤bC y),rO f i l≤fW l
 | [],_,_=>by simp [rO]
 |y::r,i,h=>by
  have h1:=h y (.head _) i;have h2:=aJm (g:=g) (l:=r) (i:=i+1) fun z hz=>h z (.tail _ hz);simp only [rO,fW];omega
def aAT:Nat→Str→Expr→Nat
 |0,_,_=>0
 |n+1,k,e=>(if isV e k=true then 1 else 0)+rO (fun i y=>if has (bM e i) k=true then 0 else aAT n k y) 0 (parts e)
theorem aCO: ∀(n:Nat)(k:Str)(e:Expr),bC e≤n→aAT (n+1) k e=aAT n k e
 |0,k,e,h=>by have:=bH e;omega
 |n+1,k,e,h=>by
  rw [aAT,aAT]
  congr 1
  refine xP fun y hy j=> ?_;rw [aCO n k y (by have:=bN hy;omega)]
def iT(k:Str)(e:Expr):Nat:=aAT (bC e) k e
theorem aId: ∀(n:Nat)(k:Str)(e:Expr),bC e≤n→aAT n k e=iT k e
 |0,k,e,h=>by have:=bH e;omega
 |n+1,k,e,h=>by
  by_cases h':bC e=n+1
  ·rw [iT,h']
  ·rw [aCO n k e (by omega)];exact aId n k e (by omega)
theorem p7(k:Str)(e:Expr):iT k e=(if isV e k=true then 1 else 0)+rO (fun i y=>if has (bM e i) k=true then 0 else iT k y) 0 (parts e):=by
 obtain⟨n,hn⟩: ∃n,bC e=n+1:=⟨bC e-1,by have:=bH e;omega⟩
 rw [iT,hn,aAT]
 congr 1
 refine xP fun y hy j=> ?_;rw [aId n k y (by have:=bN hy;omega)]
theorem aKr: ∀(n:Nat)(k:Str)(e:Expr),bC e≤n→iT k e≤bC e
 |0,k,e,h=>by have:=bH e;omega
 |n+1,k,e,h=>by
  rw [p7];have h1:rO (fun i y=>if has (bM e i) k=true then 0 else iT k y) 0 (parts e)≤fW (parts e):=aJm (g:=fun _=>0) fun y hy j=>by
   have:=aKr n k y (by have:=bN hy;omega)
   try dsimp only
   split<;>omega
  have h2:=rJ e;split<;>omega
theorem jO{f:Nat→Expr→Option (List Int)}: ∀{l:List Expr}{i:Nat},dI f i l=none→ ∀j y,l[j]?=some y→f (i+j) y=none
 | [],i,_,j,y,h=>by simp at h
 |z::r,i,h,j,y,hy=>by
  rw [dI] at h;split at h
  ·cases h
  ·rename_i h1;cases j with
   |zero=>simp at hy;subst hy;exact h1
   |succ j=>
    have:=jO (l:=r) (i:=i+1) h j y (by simpa using hy);rwa [show i+1+j=i+(j+1) by omega] at this
theorem rH: ∀(n:Nat)(e:Expr),bC e≤n→ ∀(k:Str)(wi:Bool),iR k false wi e=none→iT k e=0
 |0,e,h=>by have:=bH e;omega
 |n+1,e,h=>by
  intro k wi hl;rw [aBC] at hl;split at hl
  ·cases hl
  ·rename_i hc;have hi:isV e k=false:=by
    cases hv:isV e k with
    |false=>rfl
    |true=>rw [hv] at hc;simp at hc
   rw [p7,hi];rw [s7 fun j y hy=> ?_]
   ·simp
   ·have h1:=jO hl j y hy;have hy':=get_mem hy
    try dsimp only at h1⊢
    cases hb:has (bM e (0+j)) k with
    |true=>simp
    |false=>
     rw [hb] at h1;simp only [Bool.or_false] at h1;simpa using rH n y (by have:=bN hy';omega) k _ h1
theorem aCd: ∀(n:Nat)(e:Expr),bC e≤n→ ∀(k:Str),n6 k e=none→iT k e=0
 |0,e,h=>by have:=bH e;omega
 |n+1,e,h=>by
  intro k hl;rw [aNw] at hl;split at hl
  ·cases hl
  ·rename_i hi;rw [p7,if_neg hi];rw [s7 fun j y hy=> ?_];have h1:=jO hl j y hy;have hy':=get_mem hy
   try dsimp only at h1⊢
   cases hb:has (bM e (0+j)) k with
   |true=>simp
   |false=>
    rw [hb] at h1;simp only [Bool.false_eq_true,if_false] at h1;simpa using aCd n y (by have:=bN hy';omega) k h1
theorem zW{e:Expr}{k:Str}(h0:e.kind≠0)(h1:e.kind≠18)(h2:e.kind≠19):isV e k=false:=by
 simp [isV,h0,h1,h2]
theorem aAi{e:Expr}{i:Nat}(hi:i<e.l.length)(h4:e.kind≠4)(h6:e.kind≠6)(h7:e.kind≠7)(h17:e.kind≠17):bM e i= []:=by
 simp [bM,Nat.not_le.2 hi,h4,h6,h7,h17]
theorem aBG(k:Str):has [] k=false:=rfl
theorem aDB{k:Str}{e:Expr}{s:mW}(hE:pW e k=true)(h:rG k e= .ret s):iT k e=1∧s.length=1:=by
 have hv:isV e k=true:=by
  unfold pW at hE;unfold isV;simp only [Bool.and_eq_true,Bool.or_eq_true] at hE⊢;exact⟨hE.2,hE.1.elim (fun h=> .inl (.inr h)) .inr⟩
 unfold rG at h;split at h
 ·cases h
 ·rename_i hf;cases h;refine⟨?_,rfl⟩;rw [p7,if_pos hv,s7 fun j y hy=> ?_]
  try dsimp only
  split
  ·rfl
  ·exact rH _ y (Nat.le_refl _) k false (jO hf j y hy)
theorem aHm{k:Str}{e:Expr}(IH: ∀y∈parts e,∀s,fL k y= .ret s→iT k y=s.length): ∀(l:List Expr)(i:Nat)(s:mW),(∀y∈l,y∈parts e)→oP (xV k e) i l= .ret s→rO (fun i y=>if has (bM e i) k=true then 0 else iT k y) i l=s.length
 | [],i,s,_,h=>by cases h;rfl
 |y::r,i,s,hm,h=>by
  rw [oP] at h;obtain⟨t,u,t1,u1,rfl⟩:=qI h;have g1:=aHm IH r (i+1) u (fun z hz=>hm z (.tail _ hz)) u1;unfold xV at t1;split at t1
  ·cases t1
  ·rename_i hb;obtain⟨v,v1,rfl⟩:=qX t1;simp only [rO,g1,if_neg hb,IH y (hm y (.head _)) v v1,List.length_append,List.length_map]
theorem aDT: ∀(n:Nat)(e:Expr),bC e≤n→WF e→ ∀(k:Str)(s:mW),fL k e= .ret s→iT k e=s.length
 |0,e,h=>by have:=bH e;omega
 |n+1,e,h=>by
  intro hw k s hs;have IH: ∀y∈parts e,∀s,fL k y= .ret s→iT k y=s.length:=fun y hy=>aDT n y (by have:=bN hy;omega) (hw.part hy) k;have hl0: ∀y∈e.l,y∈parts e:=fun y hy=>oC hy;rw [look_eq,rA] at hs;split at hs
  ·rename_i hE;obtain⟨h1,h2⟩:=aDB hE hs;rw [h1,h2]
  split at hs
  ·rename_i hk;obtain⟨w1,w2,w3⟩:=hw.aQO hk;split at hs
   ·rename_i d b he;have hp:parts e= [d,b]:=by rw [parts,he,w3];rfl
    have b0:bM e 0= []:=by simp [bM,hk,he]
    have b1:bM e 1=e.names:=by simp [bM,hk,he]
    have hu:iT k e=iT k d+(if has e.names k=true then 0 else iT k b):=by
     rw [p7,hp,zW (by rw [hk];decide) (by rw [hk];decide) (by rw [hk];decide)];simp only [rO,b0,b1,aBG];simp
    rw [hu];split at hs
    ·rename_i hE;split at hs
     ·cases hs
     ·rename_i t ht;obtain⟨g1,g2⟩:=aDB hE ht;split at hs
      ·cases hs
      ·rename_i ho;cases hs;rw [g1,List.length_map,g2];split
       ·rfl
       ·rename_i hn;rw [if_neg hn] at ho;rw [aCd _ b (Nat.le_refl _) k ho]
    ·split at hs
     ·cases hs
     ·rename_i hq;rw [rH _ d (Nat.le_refl _) k false hq];split at hs
      ·cases hs
      ·rename_i hn;obtain⟨t,t1,rfl⟩:=qX hs;rw [if_neg hn,List.length_map,IH b (hl0 b (by rw [he];simp)) t t1];simp
   ·cases hs
  split at hs
  ·rename_i hk;obtain⟨w2,w3⟩:=hw.if_ hk;split at hs
   ·rename_i c a b he;have hp:parts e= [c,a,b]:=by rw [parts,he,w3];rfl
    have hu:iT k e=iT k c+(iT k a+iT k b):=by
     rw [p7,hp,zW (by rw [hk];decide) (by rw [hk];decide) (by rw [hk];decide)];have bl: ∀i,i<3→bM e i= []:=fun i hi=>aAi (by rw [he];exact hi) (by rw [hk];decide) (by rw [hk];decide) (by rw [hk];decide) (by rw [hk];decide);simp only [rO,bl 0 (by omega),bl (0+1) (by omega),bl (0+1+1) (by omega),aBG];simp
    rw [hu];split at hs
    ·cases hs
    ·rename_i hq;obtain⟨t,u,t1,u1,rfl⟩:=qI hs;obtain⟨t',t2,rfl⟩:=qX t1;obtain⟨u',u2,rfl⟩:=qX u1;rw [rH _ c (Nat.le_refl _) k false hq,IH a (hl0 a (by rw [he];simp)) t' t2,IH b (hl0 b (by rw [he];simp)) u' u2];simp
   ·cases hs
  split at hs
  ·rename_i hk;split at hs
   ·rename_i m he;have hp:parts e=m::e.aO.map Arm.body:=by rw [parts,he];rfl
    have b0:bM e 0= []:=aAi (by rw [he];simp) (by rw [hk];decide) (by rw [hk];decide) (by rw [hk];decide) (by rw [hk];decide);split at hs
    ·cases hs
    ·rename_i hq;have hs':oP (xV k e) 1 (e.aO.map Arm.body)= .ret s:=hs;have g:=aHm IH _ 1 s (fun y hy=>by rw [hp];exact .tail _ hy) hs';rw [p7,hp,zW (by rw [hk];decide) (by rw [hk];decide) (by rw [hk];decide),rO,b0,aBG,rH _ m (Nat.le_refl _) k false hq];simpa using g
   ·cases hs
  split at hs
  ·rename_i hk;split at hs
   ·rename_i b he;have hp:parts e=b::e.aO.map Arm.body:=by rw [parts,he];rfl
    have b0:bM e 0= []:=aAi (by rw [he];simp) (by omega) (by omega) (by omega) (by omega);split at hs
    ·cases hs
    ·rename_i t ht;split at hs
     ·cases hs
     ·rename_i hq;cases hs;obtain⟨t',t2,rfl⟩:=qX ht;rw [p7,hp,zW (by omega) (by omega) (by omega),rO,b0,aBG,IH b (hl0 b (by rw [he];simp)) t' t2];rw [s7 fun j y hy=> ?_]
      ·simp
      ·have h1:=jO hq j y hy
       try dsimp only at h1⊢
       rw [Nat.zero_add];split
       ·rfl
       ·rename_i hn;rw [if_neg hn] at h1;exact aCd _ y (Nat.le_refl _) k h1
   ·cases hs
  cases hs
def aOS(s:mW):Int:=if(0:Int)<(s.countP (·.2):Nat) then(if(0:Int)<(s.countP (!·.2):Nat) then 2 else 0) else(if(0:Int)<(s.countP (!·.2):Nat) then 1 else 3)
theorem aMI{e:Expr}{k:Str}(hf:Fit e):(∃v,v≠0∧v≠10∧fZ e k=some (0,[],v)∧iJ e k=some ([],v))∨
  (WF e∧nP k=true∧((∃s,fL k e= .ret s∧fZ e k=some (aOS s,[],0)∧iJ e k=some (s.map (·.1),0))∨
   (∃p,fL k e= .nx p∧fZ e k=some (0,p,10)∧iJ e k=some ([],10)))):=by
 obtain⟨v,h1,h2⟩:=xS (k:=k) hf;have hv10:=aMS hf v h1;rw [fZ,iJ,h2];simp only [Option.bind_eq_bind,Option.bind_some];by_cases h0:v=0
 rotate_left
 ·left
  refine⟨v,h0,hv10,?_,?_⟩<;>simp [h0]
 subst h0;cases hv:nP k with
 |false=>exact .inl ⟨4,by decide,by decide,rfl,rfl⟩
 |true=>
  right
  have hw:WF e:=⟨hf,aCD hf h1⟩
  refine⟨hw,rfl,?_⟩;obtain⟨c,c1,c2⟩:=aLu (k:=k) hw;simp only [c1,Option.bind_some];cases hL:fL k e with
  |nx p=>
   rw [hL] at c2;subst c2;exact .inr ⟨p,rfl,rfl,rfl⟩
  |ret s=>
   rw [hL] at c2;subst c2;refine .inl ⟨s,rfl,?_,rfl⟩;unfold aOS;generalize ((s.countP (·.2):Nat):Int)=A;generalize ((s.countP (!·.2):Nat):Int)=B;by_cases a:0<A<;>by_cases b:0<B<;>simp [a,b]
theorem aCa:wG=some true:=rfl
theorem aNX{k:Str}{e:Expr}{s:mW}(hf:Fit e)(h:fL k e= .ret s):(s.map (·.1)).length≤1048576∧ ∀p∈s.map (·.1),p.length≤1048576:=by
 have hfit:bC e≤1048576:=hf;have g3:=y1 _ k e (Nat.le_refl _);rw [h] at g3;simp only [kF] at g3;refine⟨by simp;omega,fun p hp=> ?_⟩;obtain⟨q,hq,rfl⟩:=List.mem_map.1 hp;have:=aDJ _ e (Nat.le_refl _) k s h q hq;omega
theorem aEg{e:Expr}(hw:WF e){k:Str}(IH: ∀y∈parts e,jB y k=some (iT k y:Int)): ∀n:Nat,n+fW (parts e)≤4194304→eW e k (parts e) (n:Int) 0=some (((n+rO (fun i y=>if has (bM e i) k=true then 0 else iT k y) 0 (parts e):Nat)):Int):=by
 have hlen:=hw.1.lens;have hpl:=iC e;refine dT (l:=parts e) (C:=fun j r=> ∀n:Nat,n+fW r≤4194304→eW e k (parts e) (n:Int) (j:Int)=some (((n+rO (fun i y=>if has (bM e i) k=true then 0 else iT k y) j r:Nat)):Int)) (by omega) (fun hd=> ?_) fun j y r hdr hj hy hlt hi hws ih=> ?_
 ·intro n _;rw [eW,hd];simp [rO]
 ·intro n hn;simp only [fW] at hn;have hu:=aKr _ k y (Nat.le_refl _);have hb:=aLe hw j;rw [eW,if_pos hlt,aLZ hw hj];simp only [Option.bind_eq_bind,Option.bind_some,qU _ _ hb,hi,nf,IH y hy,hws,rO];cases has (bM e j) k with
  |true=>
   simp only [Bool.not_true,Bool.false_eq_true,if_false,if_true];rw [ih n (by omega)];simp
  |false=>
   simp only [Bool.not_false,Bool.false_eq_true,if_false,if_true];rw [wrap64 (by omega) (by omega),show(n:Int)+(iT k y:Int)=((n+iT k y:Nat):Int) by simp,ih (n+iT k y) (by omega)];simp [Nat.add_assoc]
theorem aDx: ∀(n:Nat)(e:Expr),bC e≤n→WF e→ ∀k:Str,k≠ []→jB e k=some (iT k e:Int)
 |0,e,h=>by have:=bH e;omega
 |n+1,e,h=>by
  intro hw k hk;have hfit:bC e≤1048576:=hw.1;have hbp:=rJ e;have IH: ∀y∈parts e,jB y k=some (iT k y:Int):=fun y hy=>aDx n y (by have:=bN hy;omega) (hw.part hy) k hk;rw [jB,aK5,uO hw.1];simp only [Option.bind_eq_bind,Option.bind_some,aNd e hk];have l:=aEg hw IH;rw [p7];cases isV e k with
  |true=>
   simp only [if_true,Option.bind_some];have l1:eW e k (parts e) 1 0=_:=l 1 (by omega);rw [l1]
   rfl
  |false=>
   simp only [Bool.false_eq_true,if_false,Option.bind_some];have l0:eW e k (parts e) 0 0=_:=l 0 (by omega);rw [l0]
   rfl
theorem aGn{f:Expr→Option (List Int)}{l:List Expr}{i:Nat}(h:dI (fun _ y=>f y) i l=none): ∀y∈l,f y=none:=fun y hy=>by
 obtain⟨j,hj,rfl⟩:=List.getElem_of_mem hy;exact jO h j _ (List.getElem?_eq_getElem hj)
theorem aCE{f g:Expr→Int→Option Int}: ∀{l:List Expr}(_: ∀e∈l,∀x y,f e x=some y→ ∀x',x≤x'→g e x'=some (y+(x'-x))){x y:Int},jC f l x=some y→ ∀x',x≤x'→jC g l x'=some (y+(x'-x))
 | [],_,x,y,h,x',hx=>by
  simp only [jC,Option.some.injEq] at h⊢;omega
 |e::r,hf,x,y,h,x',hx=>by
  obtain⟨z,h1,h2⟩:=Option.bind_eq_some_iff.1 h;have a1:=hf e (.head _) x z h1 x' hx;have a2:=aCE (fun e he=>hf e (.tail _ he)) h2 (z+(x'-x)) (by omega);rw [jC,a1,Option.bind_some,a2]
  congr 1
  omega
theorem aD7: ∀(n:Nat)(e:Expr),bC e≤n→ ∀(d x y:Int),nL e d x=some y→ ∀(d' x':Int),d'≤d→x≤x'→nL e d' x'=some (y+(x'-x))
 |0,e,h=>by have:=bH e;omega
 |n+1,e,h=>by
  intro d x y hm d' x' hd hx;rw [z3] at hm⊢;split at hm
  ·cases hm
  ·rename_i hc;rw [if_neg (by omega)];have:=aCE (fun y hy x z hz x' hx'=>aD7 n y (by have:=bN hy;omega) (d+1) x z hz (d'+1) x' (by omega) hx') hm (x'-1) (by omega);rw [this]
   congr 1
   omega
theorem aCK{f:Expr→Int→Option Int}: ∀{l:List Expr}(_: ∀e∈l,∀x y,f e x=some y→0≤y∧y≤x){x y:Int},0≤x→jC f l x=some y→ ∀e∈l,∃x' z,x'≤x∧f e x'=some z
 | [],_,x,y,h0,h,e,he=>by cases he
 |a::r,hf,x,y,h0,h,e,he=>by
  obtain⟨z,h1,h2⟩:=Option.bind_eq_some_iff.1 h;have a1:=hf a (.head _) x z h1;rcases List.mem_cons.1 he with rfl|he
  ·exact⟨x,z,Int.le_refl _,h1⟩
  ·obtain⟨x',w,g1,g2⟩:=aCK (fun e he=>hf e (.tail _ he)) a1.1 h2 e he;exact⟨x',w,by omega,g2⟩
def OKE(e:Expr):Prop:=WF e∧ ∃y,nL e 1 3000=some y
theorem OKE.part{e y:Expr}(h:OKE e)(hy:y∈parts e):OKE y:=by
 obtain⟨hw,z,hz⟩:=h;refine⟨hw.part hy,?_⟩;rw [z3] at hz;split at hz
 ·cases hz
 ·rename_i hc;obtain⟨x',w,g1,g2⟩:=aCK (fun e _ x y h=>tV _ e (Nat.le_refl _) _ x y h) (by omega) hz y hy;exact⟨_,aD7 _ y (Nat.le_refl _) _ _ _ g2 1 3000 (by omega) (by omega)⟩
theorem OKE.reach: ∀{path:List Int}{e x:Expr},OKE e→Reach e path x→OKE x
 | [],e,x,h,hr=>by
  have:x=e:=hr;exact this▸h
 |i::p,e,x,h,hr=>by
  obtain⟨j,y,_,hj,hr⟩:=hr;exact(h.part (get_mem hj)).reach hr
theorem OKE.of{e:Expr}(hf:Fit e)(h:iF e=some 0):OKE e:=by
 refine⟨⟨hf,aCD hf h⟩,?_⟩;obtain⟨v,h3,h4⟩:=rY _ e (Nat.le_refl _) hf 3000 200 (by omega) (by omega) (by omega) (by omega);have e1:(201-200:Int)=1:=rfl;rw [e1] at h4;rw [iF,h3] at h;cases hm:nL e 1 3000 with
 |none=>
  rw [hm] at h4;have h6:v= -1:=h4;subst h6;cases h
 |some z=>exact⟨z,rfl⟩
theorem OKE.check{e:Expr}(h:OKE e):iF e=some 0:=by
 obtain⟨hw,z,hm⟩:=h;obtain⟨v,h3,h4⟩:=rY _ e (Nat.le_refl _) hw.1 3000 200 (by omega) (by omega) (by omega) (by omega);have e1:(201-200:Int)=1:=rfl;rw [e1,hm] at h4;have h6:v=z:=h4;have hb:=tV _ e (Nat.le_refl _) _ _ _ hm;obtain⟨g1,_,_⟩:=mR wP _ e (Nat.le_refl _) hw.1;rw [iF,h3];simp only [Option.bind_eq_bind,Option.bind_some,g1,hw.2];rw [decide_eq_false (by omega)]
 rfl
theorem aNY{y:Expr}(hw:OKE y){k:Str}(hv:nP k=true)(h:iR k false false y=none):lL y k=some (true,0):=by
 have hfit:bC y≤1048576:=hw.1.1;obtain⟨v,h1,h2⟩:=xS (k:=k) hw.1.1;have hl:=lG _ y (Nat.le_refl _) hw.1 k false false [] (by show 0+bC y≤2000000;omega);rw [hw.check] at h1;cases h1;rw [lL,h2,hv];simp only [Option.bind_eq_bind,Option.bind_some,if_true,iH,hl,h]
 rfl
theorem aKH{k:Str}{x:Expr}(h:pW x k=true):(x.kind=18∨x.kind=19)∧x.s=k:=by
 unfold pW at h;simp only [Bool.and_eq_true,Bool.or_eq_true,beq_iff_eq] at h;exact h
theorem zS{e:Expr}(ho:OKE e){k:Str}(hv:nP k=true){s:mW}(hL:fL k e= .ret s)(r3:Int×List Int×Int)(n:Int):
  dH e k r3 (s.map (·.1),n) 0 0 0=some (.nx (((s.countP (·.2):Nat):Int),((s.countP (!·.2):Nat):Int))):=by
 have hfit:bC e≤1048576:=ho.1.1;obtain⟨g1,g2⟩:=aNX ho.1.1 hL;have hx:=zL _ e (Nat.le_refl _) ho.1 k s hL;have key: ∀(l:List (List Int))(r0:mW)(hl:l=r0.map (·.1))(_: ∀q∈r0,q∈s)(a b:Nat),True:=fun _ _ _ _ _ _=>trivial;clear key;have hlen:s.length≤1048576:=by simpa using g1
 refine dT (l:=s) (C:=fun j r=>True) (by omega) (fun _=>trivial) (fun _ _ _ _ _ _ _ _ _ _=>trivial)|>fun _=> ?_
 have main: ∀(d:Nat)(j:Nat)(a b:Nat),j+d=s.length→a+b=j→dH e k r3 (s.map (·.1),n) (a:Int) (b:Int) (j:Int)=some (.nx (((a+(s.drop j).countP (·.2):Nat):Int),((b+(s.drop j).countP (!·.2):Nat):Int))):=by
  intro d
  induction d with
  |zero=>
   intro j a b hj hab;rw [dH];have:decide ((j:Int)<(((s.map (·.1),n):List (List Int)×Int).1.length:Int))=false:=decide_eq_false (by simp;omega);rw [this,show s.drop j= [] from List.drop_eq_nil_of_le (by omega)];simp
  |succ d ih=>
   intro j a b hj hab;have hlt:j<s.length:=by omega
   have hd:s.drop j=s[j]::s.drop (j+1):=List.drop_eq_getElem_cons hlt;obtain⟨x,x1,x2,x3,x4⟩:=hx s[j] (List.getElem_mem hlt);have hox:=ho.reach x1;obtain⟨hk,hs⟩:=aKH x3;have hAt:=aR1 ho.1 (by have:=g2 s[j].1 (List.mem_map.2 ⟨_,List.getElem_mem hlt,rfl⟩);omega) x1;have hi:idx (s.map (·.1)) (j:Int)=some s[j].1:=by
    unfold idx;rw [if_pos (by omega)];simp [hlt]
   have w1:IntKind.wrap .i64 ((j:Int)+1)=((j+1:Nat):Int):=by rw [wrap64 (by omega) (by omega)];omega
   have w2:IntKind.wrap .i64 ((a:Int)+1)=((a+1:Nat):Int):=by rw [wrap64 (by omega) (by omega)];omega
   have w3:IntKind.wrap .i64 ((b:Int)+1)=((b+1:Nat):Int):=by rw [wrap64 (by omega) (by omega)];omega
   rw [dH];rw [show decide ((j:Int)<(((s.map (·.1),n):List (List Int)×Int).1.length:Int))=true from decide_eq_true (by simp;omega)];simp only [if_true,hi,Option.bind_eq_bind,Option.bind_some,hAt,hs,w1,w2,w3,nf];rcases hk with hk|hk
   ·obtain⟨h18,_⟩:=hox.1.aPn hk;obtain⟨y,hy⟩:=aKJ h18;have hyp:y∈parts x:=oC (by rw [hy];simp);have hq:=aNY (hox.part hyp) hv (aGn x4 y hyp);have h2:s[j].2=true:=by rw [←x2,hk];rfl
    have hi0:idx x.l 0=some y:=by rw [hy];rfl
    have c1:(s.drop j).countP (·.2)=(s.drop (j+1)).countP (·.2)+1:=by rw [hd,List.countP_cons_of_pos (by simpa using h2)]
    have c2:(s.drop j).countP (!·.2)=(s.drop (j+1)).countP (!·.2):=by rw [hd,List.countP_cons_of_neg (by simp [h2])]
    have:=ih (j+1) (a+1) b (by omega) (by omega);simp only [hk,hi0,hq,Option.bind_some];simp only [bne_self_eq_false,Bool.not_true,Bool.false_eq_true,if_false,Option.bind_some,beq_self_eq_true,if_true];rw [this,c1,c2]
    congr 3
    omega
   ·have h2:s[j].2=false:=by rw [←x2,hk];rfl
    have c1:(s.drop j).countP (·.2)=(s.drop (j+1)).countP (·.2):=by rw [hd,List.countP_cons_of_neg (by simp [h2])]
    have c2:(s.drop j).countP (!·.2)=(s.drop (j+1)).countP (!·.2)+1:=by rw [hd,List.countP_cons_of_pos (by simp [h2])]
    have:=ih (j+1) a (b+1) (by omega) (by omega);have k1:(((19:Int) !=18)=true):=by decide
    have k2:(((19:Int)==18)=false):=by decide
    simp only [hk];simp only [bne_self_eq_false,Bool.not_true,Bool.false_eq_true,if_false,Option.bind_some,if_true,k1,k2];rw [this,c1,c2];rw [show(!k==k)=false by simp];simp only [Bool.false_eq_true,if_false,Option.bind_some];refine congrArg some (congrArg Ctl.nx (Prod.ext rfl ?_));show(((b+1+_:Nat)):Int)=((b+(_+1):Nat):Int)
    omega
 have:=main s.length 0 0 0 (by omega) (by omega);simpa using this
theorem aIO{e:Expr}{k:Str}(hf:Fit e):gK e k=some true:=by
 have hfit:bC e≤1048576:=hf;rcases aMI (k:=k) hf with ⟨v,v0,v10,h1,h2⟩|⟨hw,hv,⟨s,hL,h1,h2⟩|⟨p,hL,h1,h2⟩⟩
 ·rw [gK,h1,h2];simp only [Option.bind_eq_bind,Option.bind_some,aCa];simp [v0,v10]
 ·have ho:OKE e:=by
   obtain⟨v,c1,c2⟩:=xS (k:=k) hf;rw [fZ,c2] at h1;by_cases h0:v=0
   ·subst h0;exact OKE.of hf c1
   ·simp [h0] at h1
  have g:=zS ho hv hL (aOS s,[],0) 0;have hu:=aDx _ e (Nat.le_refl _) hw k (aMR hv);have hul:=aDT _ e (Nat.le_refl _) hw k s hL;rw [gK,h1,h2];simp only [Option.bind_eq_bind,Option.bind_some,aCa,g,hu,hul];unfold aOS;generalize ((s.countP (·.2):Nat):Int)=A;generalize ((s.countP (!·.2):Nat):Int)=B;by_cases a:0<A<;>by_cases b:0<B<;>simp [a,b]
 ·rw [gK,h1,h2];simp only [Option.bind_eq_bind,Option.bind_some,aCa];simp
end Go.Proofs.YtelnnehpbkainaaGreatDoor
namespace Go.Fw
open Go
section
variable {P : Program}
inductive aDq(P:Program):List TypeId→List (List AV)→Prop
 |nil:aDq P [] []
 |cons {t:TypeId} {ts:List TypeId} {c:List AV} {cs:List (List AV)} (h:TyC P t c) (r:aDq P ts cs):aDq P (t::ts) (c::cs)
theorem aFc: ∀{fs:List Field}{css:List (List AV)},css.length=fs.length→(∀(i:Nat)(f:Field)(cs:List AV),fs[i]?=some f→css[i]?=some cs→TyC P f.type cs)→aDq P (fs.map (·.type)) css
 | [],css,hl,_=>by
  have:css= []:=List.length_eq_zero_iff.1 hl;subst this;exact .nil
 |f::fs,[],hl,_=>by simp at hl
 |f::fs,c::css,hl,h=> .cons (h 0 f c rfl rfl) (aFc (by simpa using hl) fun i g cs hg hc=>h (i+1) g cs (by simpa using hg) (by simpa using hc))
theorem TyC.aIm{t:TypeId}{fs:Array Field}{cs:List AV}(hu:P.underlying t=some (.struct fs))(h:TyC P t cs): ∃css,cs=css.flatten∧aDq P (fs.toList.map (·.type)) css:=by
 cases h with
 |struct h hl hc=>
  rw [hu] at h;cases h;exact⟨_,rfl,aFc (by simpa using hl) fun i f cs hf hcs=>hc i f cs (by simpa using hf) hcs⟩
 |bool b h=>rw [hu] at h;cases h
 |int h hn=>rw [hu] at h;cases h
 |str s h hs=>rw [hu] at h;cases h
 |aLc h=>rw [hu] at h;cases h
 |ptr h hc=>rw [hu] at h;cases h
 |slice h hl hc=>rw [hu] at h;cases h
 |array h hl hc=>rw [hu] at h;cases h
theorem TyC.aOB{t:TypeId}{k:IntKind}{cs:List AV}(hu:P.underlying t=some (.int k))(h:TyC P t cs): ∃n,cs= [.int k n]∧k.wrap n=n:=by
 cases h with
 |int h hn=>rw [hu] at h;cases h;exact⟨_,rfl,hn⟩
 |bool b h=>rw [hu] at h;cases h
 |str s h hs=>rw [hu] at h;cases h
 |aLc h=>rw [hu] at h;cases h
 |ptr h hc=>rw [hu] at h;cases h
 |slice h hl hc=>rw [hu] at h;cases h
 |struct h hl hc=>rw [hu] at h;cases h
 |array h hl hc=>rw [hu] at h;cases h
theorem TyC.aOY{t:TypeId}{cs:List AV}(hu:P.underlying t=some .string)(h:TyC P t cs): ∃s,cs= [.str s]∧s.length≤maxLen:=by
 cases h with
 |str s h hs=>exact⟨_,rfl,hs⟩
 |bool b h=>rw [hu] at h;cases h
 |int h hn=>rw [hu] at h;cases h
 |aLc h=>rw [hu] at h;cases h
 |ptr h hc=>rw [hu] at h;cases h
 |slice h hl hc=>rw [hu] at h;cases h
 |struct h hl hc=>rw [hu] at h;cases h
 |array h hl hc=>rw [hu] at h;cases h
theorem TyC.aKZ{t e:TypeId}{cs:List AV}(hu:P.underlying t=some (.slice e))(h:TyC P t cs): ∃css:List (List AV),cs= [slA (P.cellsOf e) (css.map (mkV P e))]∧css.length≤maxLen∧ ∀c∈css,TyC P e c:=by
 cases h with
 |slice h hl hc=>rw [hu] at h;cases h;exact⟨_,rfl,hl,hc⟩
 |bool b h=>rw [hu] at h;cases h
 |int h hn=>rw [hu] at h;cases h
 |str s h hs=>rw [hu] at h;cases h
 |aLc h=>rw [hu] at h;cases h
 |ptr h hc=>rw [hu] at h;cases h
 |struct h hl hc=>rw [hu] at h;cases h
 |array h hl hc=>rw [hu] at h;cases h
theorem aOh{e:TypeId}{fs:Array Field}(he:P.underlying e=some (.struct fs))(c:List AV):mkV P e c= .agg c:=by simp [mkV,nR,he]
end
mutual
def mB:AV→Nat
 | .str s=>s.length+1
 | .int _ _=>1
 | .bool _=>1
 | .dO=>1
 | .slice _ xs _=>dF xs+1
 | .agg cs=>dF cs
 | .aF v _=>mB v+1
 |_=>0
def dF:List AV→Nat
 | []=>0
 |v::r=>mB v+dF r
end
theorem tR: ∀a b:List AV,dF (a++b)=dF a+dF b
 | [],b=>by simp [dF]
 |x::a,b=>by simp only [List.cons_append,dF,tR a b];omega
theorem aC0(P:Program)(e:TypeId)(cs:List AV):mB (mkV P e cs)≤dF cs:=by
 unfold mkV;split
 ·cases cs with
  |nil=>simp [fA,mB]
  |cons c r=>simp [dF]
 ·simp [mB]
theorem aCo(sz:Nat)(xs:List AV):mB (slA sz xs)=dF xs+1:=by simp only [slA,mB]
inductive KT where
 |bool
 |int (k:IntKind)
 |str
 |slice (e:TypeId)
 |ptr (e:TypeId)
 |struct (us:List TypeId)
 |array (n:Nat) (e:TypeId)
def kTy(P:Program)(t:TypeId):Option KT:=
 match P.underlying t with
 |some .bool=>some .bool
 |some (.int k)=>some (.int k)
 |some .string=>some .str
 |some (.slice e)=>some (.slice e)
 |some (.pointer e)=>some (.ptr e)
 |some (.struct fs)=>some (.struct (fs.toList.map (·.type)))
 |some (.array n e)=>some (.array n e)
 |_=>none
section
variable {P : Program} {t : TypeId}
theorem aOE{k:IntKind}(h:kTy P t=some (.int k)):P.underlying t=some (.int k):=by
 unfold kTy at h;split at h<;>cases h;assumption
theorem aOm(h:kTy P t=some .str):P.underlying t=some .string:=by
 unfold kTy at h;split at h<;>cases h;assumption
theorem aKS{e:TypeId}(h:kTy P t=some (.slice e)):P.underlying t=some (.slice e):=by
 unfold kTy at h;split at h<;>cases h;assumption
theorem aBX{us:List TypeId}(h:kTy P t=some (.struct us)): ∃fs,P.underlying t=some (.struct fs)∧fs.toList.map (·.type)=us:=by
 unfold kTy at h;split at h<;>cases h;exact⟨_,by assumption,rfl⟩
mutual
def msr:AV→Nat
 | .slice _ xs _=>w8 xs+1
 | .agg cs=>w8 cs+1
 | .aF v _=>msr v+1
 |_=>1
def w8:List AV→Nat
 | []=>0
 |v::r=>msr v+w8 r
end
theorem aCH: ∀a b:List AV,w8 (a++b)=w8 a+w8 b
 | [],b=>by simp [w8]
 |x::a,b=>by simp only [List.cons_append,w8,aCH a b];omega
theorem aGQ: ∀{l:List AV}{v:AV},v∈l→msr v≤w8 l
 |x::r,v,h=>by
  simp only [w8];rcases List.mem_cons.1 h with rfl|h
  ·omega
  ·have:=aGQ h;omega
def RdM{α:Type}(m:Nat)(P:Program)(t:TypeId)(g:α→List AV):Prop:= ∀cs,TyC P t cs→w8 cs<m→ ∃x,cs=g x
theorem aNO{k:IntKind}(h:kTy P t=some (.int k))(m:Nat):RdM m P t fun n=> [.int k n]:=fun cs hc _=>by
 obtain⟨n,rfl,_⟩:=hc.aOB (aOE h);exact⟨n,rfl⟩
theorem aQD(h:kTy P t=some .str)(m:Nat):RdM m P t fun s=> [.str s]:=fun cs hc _=>by
 obtain⟨n,rfl,_⟩:=hc.aOY (aOm h);exact⟨n,rfl⟩
theorem aO4{e:TypeId}{cs:List AV}(h:TyC P e cs):w8 cs≤msr (mkV P e cs):=by
 unfold mkV;split
 ·rename_i ha;obtain⟨a,rfl,_⟩:=h.lone ha;simp [w8]
 ·simp only [msr];omega
theorem aL6{α:Type}{g:α→List AV}{f:α→AV}{e:TypeId}{sz:Nat}(h:kTy P t=some (.slice e))(hs:P.cellsOf e=sz)(hf: ∀x,mkV P e (g x)=f x){m:Nat}(hg:RdM m P e g):RdM (m+1) P t fun l:List α=> [slA sz (l.map f)]:=fun cs hc hm=>by
 obtain⟨css,rfl,_,hall⟩:=hc.aKZ (aKS h);simp only [slA,w8,msr] at hm;have: ∀c∈css,∃x:α,mkV P e c=f x:=fun c hc=>by
  have h1:=aO4 (hall c hc);have h2:=aGQ (List.mem_map.2 ⟨c,hc,rfl⟩:mkV P e c∈css.map (mkV P e));obtain⟨x,rfl⟩:=hg c (hall c hc) (by omega);exact⟨x,hf x⟩
 have key: ∀{css:List (List AV)},(∀c∈css,∃x:α,mkV P e c=f x)→ ∃l:List α,css.map (mkV P e)=l.map f:=by
  intro css
  induction css with
  |nil=>intro _;exact⟨[],rfl⟩
  |cons c css ih=>
   intro h;obtain⟨x,hx⟩:=h c (List.mem_cons_self ..);obtain⟨l,h1⟩:=ih fun c hc=>h c (List.mem_cons_of_mem _ hc);exact⟨x::l,by simp [hx,h1]⟩
 obtain⟨l,hl⟩:=key this;exact⟨l,by rw [hl,hs]⟩
theorem aDF{us:List TypeId}(h:kTy P t=some (.struct us)){cs:List AV}(hc:TyC P t cs): ∃css,cs=css.flatten∧aDq P us css:=by
 obtain⟨fs,h1,rfl⟩:=aBX h;exact hc.aIm h1
theorem aHN{k:KT}(h:kTy P t=some k)(hk:match k with| .struct _=>False| .array _ _=>False|_=>True)(a:AV):mkV P t [a]=a:=by
 unfold kTy at h;unfold mkV nR;split at h<;>cases h<;>first|(simp_all;done)|cases hk
theorem aI5{us:List TypeId}(h:kTy P t=some (.struct us))(cs:List AV):mkV P t cs= .agg cs:=by
 obtain⟨fs,h1,rfl⟩:=aBX h;exact aOh h1 cs
theorem RdM.val{α:Type}{g:α→List AV}{f:α→AV}(hg: ∀m,RdM m P t g)(hf: ∀x,mkV P t (g x)=f x){cs:List AV}(h:TyC P t cs): ∃x,mkV P t cs=f x:=by
 obtain⟨x,rfl⟩:=hg _ cs h (Nat.lt_succ_self _);exact⟨x,hf x⟩
end
end Go.Fw
set_option maxRecDepth 100000
namespace Go.Proofs.YtelnnehpbkainaaGreatDoor
open Go Go.Fw
theorem aSM(m:Nat):RdM m Tryz.prog 22 (fun x:Int=> [(.int .i64 x)]):=aNO (by kernel_rfl) m
theorem rd3(m:Nat):RdM m Tryz.prog 3 (fun x:Int=> [(.int .i64 x)]):=aNO (by kernel_rfl) m
theorem rd9(m:Nat):RdM m Tryz.prog 9 (fun x:Str=> [(.str x)]):=aQD (by kernel_rfl) m
theorem aRT(m:Nat):RdM m Tryz.prog 23 (fun x:(List Str)=> [(slA 1 (x.map AV.str))]):=fun cs hc hm=>aL6 (by kernel_rfl) (by kernel_rfl) (fun x=>aHN (k:= .str) (by kernel_rfl) trivial _) (rd9 m) cs hc (Nat.lt_succ_of_lt hm)
theorem aRD: ∀m:Nat,RdM m Tryz.prog 27 iY∧RdM m Tryz.prog 66 lP:=by
 intro m
 induction m with
 |zero=>exact⟨fun _ _ hm=>absurd hm (Nat.not_lt_zero _),fun _ _ hm=>absurd hm (Nat.not_lt_zero _)⟩
 |succ m ih=>
  obtain⟨ih27,ih66⟩:=ih;refine⟨?_,?_⟩
  ·intro cs hc hm;obtain⟨css,rfl,h⟩:=aDF (us:= [22,3,9,9,23,24,25]) (by kernel_rfl) hc;cases h with|cons h0 h=>
   cases h with|cons h1 h=>
   cases h with|cons h2 h=>
   cases h with|cons h3 h=>
   cases h with|cons h4 h=>
   cases h with|cons h5 h=>
   cases h with|cons h6 h=>
   cases h;obtain⟨x0,rfl⟩:=aSM _ _ h0 (Nat.lt_succ_self _);obtain⟨x1,rfl⟩:=rd3 _ _ h1 (Nat.lt_succ_self _);obtain⟨x2,rfl⟩:=rd9 _ _ h2 (Nat.lt_succ_self _);obtain⟨x3,rfl⟩:=rd9 _ _ h3 (Nat.lt_succ_self _);obtain⟨x4,rfl⟩:=aRT _ _ h4 (Nat.lt_succ_self _);simp only [List.flatten_cons,List.flatten_nil,aCH,w8,msr] at hm;obtain⟨x5,rfl⟩:=aL6 (sz:=7) (f:=aP) (by kernel_rfl) (by kernel_rfl) (fun x=>aI5 (us:= [22,3,9,9,23,24,25]) (by kernel_rfl) _) ih27 _ h5 (by omega);obtain⟨x6,rfl⟩:=aL6 (sz:=9) (f:=aZ) (by kernel_rfl) (by kernel_rfl) (fun x=>aI5 (us:= [9,23,27]) (by kernel_rfl) _) ih66 _ h6 (by omega);exact⟨.mk x0 x1 x2 x3 x4 x5 x6,by simp only [iY,pJ,nU,List.flatten_cons,List.flatten_nil,List.append_nil,List.append_assoc];try rfl⟩
  ·intro cs hc hm;obtain⟨css,rfl,h⟩:=aDF (us:= [9,23,27]) (by kernel_rfl) hc;cases h with|cons h0 h=>
   cases h with|cons h1 h=>
   cases h with|cons h2 h=>
   cases h;obtain⟨x0,rfl⟩:=rd9 _ _ h0 (Nat.lt_succ_self _);obtain⟨x1,rfl⟩:=aRT _ _ h1 (Nat.lt_succ_self _);simp only [List.flatten_cons,List.flatten_nil,aCH,w8,msr] at hm;obtain⟨x2,rfl⟩:=ih27 _ h2 (by omega);exact⟨.mk x0 x1 x2,by simp only [lP,pJ,nU,List.flatten_cons,List.flatten_nil,List.append_nil,List.append_assoc];try rfl⟩
theorem aSk(m:Nat):RdM m Tryz.prog 27 iY:=(aRD m).1
theorem aSE{cs:List AV}(h:TyC Tryz.prog 27 cs): ∃x:Expr,mkV Tryz.prog 27 cs=aP x:=RdM.val aSk (fun x=>aI5 (us:= [22,3,9,9,23,24,25]) (by kernel_rfl) _) h
theorem rv9{cs:List AV}(h:TyC Tryz.prog 9 cs): ∃x:Str,mkV Tryz.prog 9 cs=AV.str x:=RdM.val rd9 (fun x=>aHN (k:= .str) (by kernel_rfl) trivial _) h
theorem aCk: ∀l:List Str,s5 l≤dF (l.map AV.str)
 | []=>by simp [s5,dF]
 |x::r=>by
  have:=aCk r;simp only [s5,List.map_cons,dF,mB];omega
theorem aHy: ∀{l:List Expr}(_: ∀y∈l,bC y≤mB (aP y)),fW l≤dF (l.map aP)
 | [],_=>by simp [fW,dF]
 |x::r,h=>by
  have h1:=h x (.head _);have h2:=aHy (l:=r) fun y hy=>h y (.tail _ hy);simp only [fW,List.map_cons,dF];omega
theorem aFg: ∀{l:List Arm}(_: ∀y∈l,aC1 y≤mB (aZ y)),s9 l≤dF (l.map aZ)
 | [],_=>by simp [s9,dF]
 |x::r,h=>by
  have h1:=h x (.head _);have h2:=aFg (l:=r) fun y hy=>h y (.tail _ hy);simp only [s9,List.map_cons,dF];omega
theorem aBP: ∀(n:Nat)(e:Expr),bC e≤n→bC e≤mB (aP e)
 |0,e,h=>by have:=bH e;omega
 |n+1,e,h=>by
  have hl: ∀y∈e.l,bC y≤mB (aP y):=fun y hy=>aBP n y (by have:=bN (oC hy);omega);have ha: ∀a∈e.aO,aC1 a≤mB (aZ a):=fun a ha=>by
   have h1:=aBP n a.body (by have:=bN (aBA ha);omega);have h2:=aCk a.names;cases a with
   |mk op names body=>
    rw [iD] at h1;simp only [aZ,mB,lP,tR,dF,aCo,aC1,sQ];simp only [mB,dF,aCo,Arm.body,Arm.names] at h1 h2;omega
  have h1:=aHy hl;have h2:=aFg ha;have h3:=aCk e.names;rw [iD,pL];simp only [mB,dF,aCo];omega
theorem aBt: ∀avs,Typed Tryz.prog [27,9] avs→dF avs≤1048576→ ∃n s',(cH (yA Code.tab gl0) n).call (.func 7) avs dK=some (.ret (.bool true),s'):=by
 intro avs h hb;cases h with|cons h1 h=>
 cases h with|cons h2 h=>
 cases h;obtain⟨e,he⟩:=aSE h1;obtain⟨k,hk⟩:=rv9 h2;rw [he,hk] at hb⊢;have h3:=aBP _ e (Nat.le_refl _);simp only [dF,mB] at hb;have hf:Fit e:=by show bC e≤_;omega
 rw [iD];exact aKV (xW (aIO hf))
end Go.Proofs.YtelnnehpbkainaaGreatDoor
set_option maxRecDepth 100000
namespace Go.Proofs.YtelnnehpbkainaaGreatDoor.Code
open Go Go.Fw
theorem fk{P:Program}{k:Nat}{fn:Func}{a:AF}(h:Hint)(h1:P.funcs[k]?=some fn)(h2:vI P h fn=some a)(h3:(nQ fn.ntmps false a.body&& !(fn.name== "runtime.NumGoroutine"))=true):eO P k a:=by
 simp only [Bool.and_eq_true,Bool.not_eq_true'] at h3;exact⟨fn,h,h1,h2,h3.1,h3.2⟩
theorem fd{k:Nat}{h:Hint}(h2:(match Tryz.prog.funcs[k]? with|some fn=>(vI Tryz.prog h fn).isSome&&nQ fn.ntmps false (ck h fn).body&& !(fn.name== "runtime.NumGoroutine")|none=>false)=true):eO Tryz.prog k (cD k h):=by
 unfold cD;cases hf:Tryz.prog.funcs[k]? with
 |none=>rw [hf] at h2;cases h2
 |some fn=>
  rw [hf] at h2;simp only [Bool.and_eq_true,Bool.not_eq_true'] at h2;refine⟨fn,h,hf,?_,h2.1.2,h2.2⟩;show vI Tryz.prog h fn=some (ck h fn);unfold ck;cases hc:vI Tryz.prog h fn with
  |none=>rw [hc] at h2;exact absurd h2.1.1 (by decide)
  |some a=>rfl
theorem q7:eO Tryz.prog 7 c7:=fk ⟨[2],[13],[137,126,99,53,28,21],[],[67]⟩ Tryz.func7 (by kernel_rfl) (by kernel_rfl)
theorem q13:eO Tryz.prog 13 c13:=fk ⟨[2],[],[16,9],[],[]⟩ Tryz.func13 (by kernel_rfl) (by kernel_rfl)
theorem q15:eO Tryz.prog 15 c15:=fk ⟨[2],[],[13],[],[]⟩ Tryz.func15 (by kernel_rfl) (by kernel_rfl)
theorem q18:eO Tryz.prog 18 c18:=fk ⟨[2],[],[12],[],[]⟩ Tryz.func18 (by kernel_rfl) (by kernel_rfl)
theorem q32:eO Tryz.prog 32 c32:=fk ⟨[],[],[23,15],[],[]⟩ Tryz.func32 (by kernel_rfl) (by kernel_rfl)
theorem q33:eO Tryz.prog 33 c33:=fk ⟨[2],[],[32,24,22,13,9],[],[]⟩ Tryz.func33 (by kernel_rfl) (by kernel_rfl)
theorem q35:eO Tryz.prog 35 c35:=fk ⟨[1],[],[],[],[]⟩ Tryz.func35 (by kernel_rfl) (by kernel_rfl)
theorem q46:eO Tryz.prog 46 c46:=fk ⟨[2],[],[12,7],[],[]⟩ Tryz.func46 (by kernel_rfl) (by kernel_rfl)
theorem q47:eO Tryz.prog 47 c47:=fk ⟨[2],[],[10],[],[]⟩ Tryz.func47 (by kernel_rfl) (by kernel_rfl)
theorem q48:eO Tryz.prog 48 c48:=fk ⟨[2],[],[],[],[]⟩ Tryz.func48 (by kernel_rfl) (by kernel_rfl)
theorem q61:eO Tryz.prog 61 c61:=fk hz Tryz.func61 (by kernel_rfl) (by kernel_rfl)
theorem q62:eO Tryz.prog 62 c62:=fk ⟨[1],[],[],[],[]⟩ Tryz.func62 (by kernel_rfl) (by kernel_rfl)
theorem q63:eO Tryz.prog 63 c63:=fk ⟨[],[],[7],[],[]⟩ Tryz.func63 (by kernel_rfl) (by kernel_rfl)
theorem q64:eO Tryz.prog 64 c64:=fk ⟨[2],[],[],[],[]⟩ Tryz.func64 (by kernel_rfl) (by kernel_rfl)
theorem q77:eO Tryz.prog 77 c77:=fk ⟨[],[],[7,4],[],[]⟩ Tryz.func77 (by kernel_rfl) (by kernel_rfl)
theorem q81:eO Tryz.prog 81 c81:=fk ⟨[1],[3],[7],[],[]⟩ Tryz.func81 (by kernel_rfl) (by kernel_rfl)
theorem q82:eO Tryz.prog 82 c82:=fk ⟨[7,6,5,4],[11],[56,29,19,36],[],[47]⟩ Tryz.func82 (by kernel_rfl) (by kernel_rfl)
theorem q83:eO Tryz.prog 83 c83:=fk ⟨[],[5],[],[],[]⟩ Tryz.func83 (by kernel_rfl) (by kernel_rfl)
theorem q84:eO Tryz.prog 84 c84:=fk ⟨[3],[],[],[],[]⟩ Tryz.func84 (by kernel_rfl) (by kernel_rfl)
theorem q98:eO Tryz.prog 98 c98:=fk hz Tryz.func98 (by kernel_rfl) (by kernel_rfl)
theorem aSj:eO Tryz.prog 109 aPh:=fk ⟨[],[],[31,17],[],[]⟩ Tryz.func109 (by kernel_rfl) (by kernel_rfl)
theorem aSG:eO Tryz.prog 110 aRi:=fk hz Tryz.func110 (by kernel_rfl) (by kernel_rfl)
theorem aSz:eO Tryz.prog 113 aP6:=fk ⟨[1],[],[],[],[12]⟩ Tryz.func113 (by kernel_rfl) (by kernel_rfl)
theorem aSN:eO Tryz.prog 114 aQP:=fk ⟨[2],[],[],[],[]⟩ Tryz.func114 (by kernel_rfl) (by kernel_rfl)
theorem aSy:eO Tryz.prog 115 aQr:=fk ⟨[],[],[7],[],[]⟩ Tryz.func115 (by kernel_rfl) (by kernel_rfl)
theorem aSZ:eO Tryz.prog 116 aRk:=fk ⟨[1],[],[],[],[]⟩ Tryz.func116 (by kernel_rfl) (by kernel_rfl)
theorem aSO:eO Tryz.prog 117 aQJ:=fk ⟨[3],[],[74,26],[],[]⟩ Tryz.func117 (by kernel_rfl) (by kernel_rfl)
theorem aSK:eO Tryz.prog 118 aPX:=fk ⟨[3],[],[],[],[]⟩ Tryz.func118 (by kernel_rfl) (by kernel_rfl)
theorem aR9:eO Tryz.prog 119 aQN:=fk ⟨[3,2],[5],[15,7],[27],[]⟩ Tryz.func119 (by kernel_rfl) (by kernel_rfl)
theorem aSf:eO Tryz.prog 120 aQx:=fk ⟨[3,2],[5,4],[33],[],[11,9]⟩ Tryz.func120 (by kernel_rfl) (by kernel_rfl)
theorem aR5:eO Tryz.prog 121 aQq:=fk ⟨[3],[],[20,16,10],[],[5]⟩ Tryz.func121 (by kernel_rfl) (by kernel_rfl)
theorem aSV:eO Tryz.prog 122 aQk:=fk ⟨[3,2],[5],[12,17],[],[30,7]⟩ Tryz.func122 (by kernel_rfl) (by kernel_rfl)
theorem aSW:eO Tryz.prog 123 aQd:=fk ⟨[3,2],[5],[30,23,11],[],[8]⟩ Tryz.func123 (by kernel_rfl) (by kernel_rfl)
theorem aSl:eO Tryz.prog 127 aPY:=fk ⟨[],[],[7],[],[]⟩ Tryz.func127 (by kernel_rfl) (by kernel_rfl)
theorem aSY:eO Tryz.prog 137 aQs:=fk hz Tryz.func137 (by kernel_rfl) (by kernel_rfl)
theorem aSn:eO Tryz.prog 147 aQG:=fk ⟨[5,4,3],[],[],[],[]⟩ Tryz.func147 (by kernel_rfl) (by kernel_rfl)
theorem aSh:eO Tryz.prog 149 aQY:=fk ⟨[],[],[13,9],[],[]⟩ Tryz.func149 (by kernel_rfl) (by kernel_rfl)
theorem aSm:eO Tryz.prog 150 aQb:=fk ⟨[1],[],[5],[],[]⟩ Tryz.func150 (by kernel_rfl) (by kernel_rfl)
theorem aSo:eO Tryz.prog 164 aRf:=fk hz Tryz.func164 (by kernel_rfl) (by kernel_rfl)
theorem aSw:eO Tryz.prog 167 aN9:=fk hz Tryz.func167 (by kernel_rfl) (by kernel_rfl)
theorem aSe:eO Tryz.prog 168 aFN:=fk ⟨[],[],[20],[],[]⟩ Tryz.func168 (by kernel_rfl) (by kernel_rfl)
theorem aSI:eO Tryz.prog 169 aRj:=fk ⟨[2],[],[],[],[35]⟩ Tryz.func169 (by kernel_rfl) (by kernel_rfl)
theorem aSs:eO Tryz.prog 170 aQw:=fk ⟨[3,2],[7],[26,22,12,16],[],[]⟩ Tryz.func170 (by kernel_rfl) (by kernel_rfl)
theorem aSH:eO Tryz.prog 171 aQu:=fk hz Tryz.func171 (by kernel_rfl) (by kernel_rfl)
theorem aSq:eO Tryz.prog 172 aQ7:=fk ⟨[],[],[9],[],[]⟩ Tryz.func172 (by kernel_rfl) (by kernel_rfl)
theorem aST:eO Tryz.prog 173 aP9:=fk hz Tryz.func173 (by kernel_rfl) (by kernel_rfl)
theorem aSt:eO Tryz.prog 175 aN8:=fk hz Tryz.func175 (by kernel_rfl) (by kernel_rfl)
theorem aSA:eO Tryz.prog 190 aO3:=fk ⟨[],[],[24,17],[],[]⟩ Tryz.func190 (by kernel_rfl) (by kernel_rfl)
theorem aSU:eO Tryz.prog 192 aIn:=fk ⟨[2],[8,6],[],[],[]⟩ Tryz.func192 (by kernel_rfl) (by kernel_rfl)
theorem aSg:eO Tryz.prog 193 aQR:=fk ⟨[3],[],[],[],[]⟩ Tryz.func193 (by kernel_rfl) (by kernel_rfl)
theorem aSJ:eO Tryz.prog 194 aQM:=fk ⟨[],[],[4],[],[]⟩ Tryz.func194 (by kernel_rfl) (by kernel_rfl)
theorem aR8:eO Tryz.prog 195 aOP:=fk ⟨[1],[3],[114,102,94,65,52,38,31,24,11],[],[]⟩ Tryz.func195 (by kernel_rfl) (by kernel_rfl)
theorem aSD:eO Tryz.prog 196 aQ1:=fk ⟨[2],[],[5],[],[]⟩ Tryz.func196 (by kernel_rfl) (by kernel_rfl)
theorem aSb:eO Tryz.prog 202 aP4:=fk hz Tryz.func202 (by kernel_rfl) (by kernel_rfl)
theorem aSF:eO Tryz.prog 212 aQQ:=fk hz Tryz.func212 (by kernel_rfl) (by kernel_rfl)
theorem aSL:eO Tryz.prog 213 aQI:=fk ⟨[2],[5],[51,46,60],[],[]⟩ Tryz.func213 (by kernel_rfl) (by kernel_rfl)
theorem aSv:eO Tryz.prog 230 aRl:=fk ⟨[],[],[7],[],[]⟩ Tryz.func230 (by kernel_rfl) (by kernel_rfl)
theorem aSP:eO Tryz.prog 231 aQ0:=fk ⟨[2],[],[],[],[]⟩ Tryz.func231 (by kernel_rfl) (by kernel_rfl)
theorem aSi:eO Tryz.prog 244 aO7:=fk ⟨[],[],[16],[],[]⟩ Tryz.func244 (by kernel_rfl) (by kernel_rfl)
theorem aNt:tab.list= [(7,c7),(13,c13),(15,c15),(17,cD 17 hz),(18,c18),(20,cD 20 ⟨[],[],[25],[],[]⟩),(21,cD 21 ⟨[],[1],[183,178,173,166,107,106,102,101,99,98,94,93,91,90,86,85,84,83,82,78,77,76,75,74,73,69,68,67,66,65,64,60,54,53,52,51,46,41,40,36,35,34,33,31,30,29,28,27,26],[],[]⟩),(22,cD 22 ⟨[3,2],[],[17,9],[],[]⟩),(24,cD 24 ⟨[1],[],[41,10],[],[]⟩),(26,cD 26 hz),(27,cD 27 hz),(28,cD 28 ⟨[],[],[4],[],[]⟩),(29,cD 29 hz),(30,cD 30 ⟨[5,4],[],[],[],[]⟩),(31,cD 31 ⟨[1],[4,3],[],[],[]⟩),(32,c32),(33,c33),(35,c35),(44,cD 44 ⟨[5,4,3],[],[],[],[]⟩),(46,c46),(47,c47),(48,c48),(53,cD 53 ⟨[3,2],[],[],[],[10,5]⟩),(54,cD 54 ⟨[],[],[1],[],[]⟩),(55,cD 55 ⟨[],[],[11,6],[],[]⟩),(56,cD 56 ⟨[3,2],[],[],[],[]⟩),(57,cD 57 ⟨[3,2],[],[],[],[]⟩),(58,cD 58 ⟨[1],[],[],[],[]⟩),(61,c61),(62,c62),(63,c63),(64,c64),(77,c77),(81,c81),(82,c82),(83,c83),(84,c84),(89,cD 89 hz),(90,cD 90 ⟨[],[],[8],[],[]⟩),(91,cD 91 ⟨[13,1],[8,7,5],[],[],[]⟩),(92,cD 92 ⟨[],[16,14,10,8,6],[29],[],[]⟩),(93,cD 93 hz),(94,cD 94 ⟨[3],[5,4],[],[],[]⟩),(95,cD 95 ⟨[100,60,5,4,3],[7],[81,51],[],[42,24]⟩),(96,cD 96 ⟨[],[3],[5],[],[]⟩),(97,cD 97 ⟨[1],[11,7,4],[80,73,69,57,50,37],[],[]⟩),(98,c98),(109,aPh),(110,aRi),(113,aP6),(114,aQP),(115,aQr),(116,aRk),(117,aQJ),(118,aPX),(119,aQN),(120,aQx),(121,aQq),(122,aQk),(123,aQd),(125,cD 125 ⟨[],[2],[],[],[]⟩),(126,cD 126 ⟨[],[],[8],[],[]⟩),(127,aPY),(128,cD 128 hz),(129,cD 129 ⟨[4],[12,8],[64,20],[],[]⟩),(130,cD 130 ⟨[3],[4],[],[],[]⟩),(131,cD 131 ⟨[3],[4],[],[],[]⟩),(132,cD 132 ⟨[3],[],[21],[],[]⟩),(133,cD 133 ⟨[3],[],[13],[],[23]⟩),(134,cD 134 ⟨[3],[],[13],[],[]⟩),(135,cD 135 ⟨[3],[],[25],[],[]⟩),(136,cD 136 ⟨[1],[],[],[],[]⟩),(137,aQs),(138,cD 138 hz),(139,cD 139 ⟨[3,2],[6],[14],[],[44]⟩),(140,cD 140 hz),(141,cD 141 ⟨[],[],[6],[],[]⟩),(142,cD 142 ⟨[2],[],[7],[],[]⟩),(143,cD 143 ⟨[2],[],[],[],[]⟩),(144,cD 144 ⟨[2],[],[11],[],[]⟩),(145,cD 145 ⟨[1],[5],[48,44,25,21],[],[]⟩),(146,cD 146 ⟨[1],[4],[32,25,14],[],[]⟩),(147,aQG),(148,cD 148 ⟨[1],[5],[],[],[]⟩),(149,aQY),(150,aQb),(164,aRf),(165,cD 165 ⟨[],[],[5],[],[]⟩),(167,aN9),(168,aFN),(169,aRj),(170,aQw),(171,aQu),(172,aQ7),(173,aP9),(175,aN8),(176,cD 176 ⟨[3],[],[],[],[]⟩),(177,cD 177 ⟨[3,2],[],[],[],[]⟩),(178,cD 178 ⟨[],[9,8],[],[],[]⟩),(179,cD 179 ⟨[3,2],[],[],[],[]⟩),(180,cD 180 ⟨[3,2],[],[],[],[]⟩),(181,cD 181 ⟨[2],[],[29,27,20,18],[],[]⟩),(182,cD 182 ⟨[],[9],[],[],[]⟩),(183,cD 183 ⟨[2],[7],[],[],[]⟩),(184,cD 184 ⟨[3],[],[],[],[]⟩),(185,cD 185 ⟨[2],[],[],[],[]⟩),(186,cD 186 ⟨[3],[8,6],[],[],[]⟩),(187,cD 187 hz),(188,cD 188 hz),(189,cD 189 ⟨[1],[],[],[],[]⟩),(190,aO3),(191,cD 191 ⟨[],[4],[18,13],[],[]⟩),(192,aIn),(193,aQR),(194,aQM),(195,aOP),(196,aQ1),(200,cD 200 hz),(202,aP4),(205,cD 205 hz),(206,cD 206 ⟨[2],[],[],[],[]⟩),(207,cD 207 hz),(208,cD 208 ⟨[2],[],[],[],[]⟩),(209,cD 209 hz),(210,cD 210 ⟨[1],[],[9],[],[]⟩),(211,cD 211 ⟨[1],[],[],[],[]⟩),(212,aQQ),(213,aQI),(216,cD 216 ⟨[],[11],[],[],[]⟩),(217,cD 217 hz),(222,cD 222 hz),(223,cD 223 hz),(224,cD 224 ⟨[5,4,3],[],[],[],[]⟩),(225,cD 225 ⟨[1],[],[23,6],[],[]⟩),(226,cD 226 hz),(227,cD 227 ⟨[1],[],[],[],[]⟩),(228,cD 228 hz),(229,cD 229 ⟨[1],[],[4],[],[]⟩),(230,aRl),(231,aQ0),(234,cD 234 ⟨[],[],[58,38],[],[]⟩),(240,cD 240 ⟨[3],[],[],[],[]⟩),(241,cD 241 ⟨[1],[],[65,57,46,39,15,10],[],[]⟩),(242,cD 242 hz),(243,cD 243 hz),(244,aO7),(245,cD 245 hz),(246,cD 246 ⟨[],[10],[],[],[]⟩),(249,cD 249 hz),(250,cD 250 ⟨[1],[4],[25,20,15],[],[]⟩)]:=by kernel_rfl
theorem aQV: ∀p∈tab.list,eO Tryz.prog p.1 p.2:=by
 rw [aNt]
 exact aQE<|.cons q7<|.cons q13<|.cons q15<|.cons (fd<|by kernel_rfl)<|.cons q18<|.cons (fd<|by kernel_rfl)<|.cons (fd<|by kernel_rfl)<|.cons (fd<|by kernel_rfl)<|.cons (fd<|by kernel_rfl)<|.cons (fd<|by kernel_rfl)<|.cons (fd<|by kernel_rfl)<|.cons (fd<|by kernel_rfl)<|.cons (fd<|by kernel_rfl)<|.cons (fd<|by kernel_rfl)<|.cons (fd<|by kernel_rfl)<|.cons q32<|.cons q33<|.cons q35<|.cons (fd<|by kernel_rfl)<|.cons q46<|.cons q47<|.cons q48<|.cons (fd<|by kernel_rfl)<|.cons (fd<|by kernel_rfl)<|.cons (fd<|by kernel_rfl)<|.cons (fd<|by kernel_rfl)<|.cons (fd<|by kernel_rfl)<|.cons (fd<|by kernel_rfl)<|.cons q61<|.cons q62<|.cons q63<|.cons q64<|.cons q77<|.cons q81<|.cons q82<|.cons q83<|.cons q84<|.cons (fd<|by kernel_rfl)<|.cons (fd<|by kernel_rfl)<|.cons (fd<|by kernel_rfl)<|.cons (fd<|by kernel_rfl)<|.cons (fd<|by kernel_rfl)<|.cons (fd<|by kernel_rfl)<|.cons (fd<|by kernel_rfl)<|.cons (fd<|by kernel_rfl)<|.cons (fd<|by kernel_rfl)<|.cons q98<|.cons aSj<|.cons aSG<|.cons aSz<|.cons aSN<|.cons aSy<|.cons aSZ<|.cons aSO<|.cons aSK<|.cons aR9<|.cons aSf<|.cons aR5<|.cons aSV<|.cons aSW<|.cons (fd<|by kernel_rfl)<|.cons (fd<|by kernel_rfl)<|.cons aSl<|.cons (fd<|by kernel_rfl)<|.cons (fd<|by kernel_rfl)<|.cons (fd<|by kernel_rfl)<|.cons (fd<|by kernel_rfl)<|.cons (fd<|by kernel_rfl)<|.cons (fd<|by kernel_rfl)<|.cons (fd<|by kernel_rfl)<|.cons (fd<|by kernel_rfl)<|.cons (fd<|by kernel_rfl)<|.cons aSY<|.cons (fd<|by kernel_rfl)<|.cons (fd<|by kernel_rfl)<|.cons (fd<|by kernel_rfl)<|.cons (fd<|by kernel_rfl)<|.cons (fd<|by kernel_rfl)<|.cons (fd<|by kernel_rfl)<|.cons (fd<|by kernel_rfl)<|.cons (fd<|by kernel_rfl)<|.cons (fd<|by kernel_rfl)<|.cons aSn<|.cons (fd<|by kernel_rfl)<|.cons aSh<|.cons aSm<|.cons aSo<|.cons (fd<|by kernel_rfl)<|.cons aSw<|.cons aSe<|.cons aSI<|.cons aSs<|.cons aSH<|.cons aSq<|.cons aST<|.cons aSt<|.cons (fd<|by kernel_rfl)<|.cons (fd<|by kernel_rfl)<|.cons (fd<|by kernel_rfl)<|.cons (fd<|by kernel_rfl)<|.cons (fd<|by kernel_rfl)<|.cons (fd<|by kernel_rfl)<|.cons (fd<|by kernel_rfl)<|.cons (fd<|by kernel_rfl)<|.cons (fd<|by kernel_rfl)<|.cons (fd<|by kernel_rfl)<|.cons (fd<|by kernel_rfl)<|.cons (fd<|by kernel_rfl)<|.cons (fd<|by kernel_rfl)<|.cons (fd<|by kernel_rfl)<|.cons aSA<|.cons (fd<|by kernel_rfl)<|.cons aSU<|.cons aSg<|.cons aSJ<|.cons aR8<|.cons aSD<|.cons (fd<|by kernel_rfl)<|.cons aSb<|.cons (fd<|by kernel_rfl)<|.cons (fd<|by kernel_rfl)<|.cons (fd<|by kernel_rfl)<|.cons (fd<|by kernel_rfl)<|.cons (fd<|by kernel_rfl)<|.cons (fd<|by kernel_rfl)<|.cons (fd<|by kernel_rfl)<|.cons aSF<|.cons aSL<|.cons (fd<|by kernel_rfl)<|.cons (fd<|by kernel_rfl)<|.cons (fd<|by kernel_rfl)<|.cons (fd<|by kernel_rfl)<|.cons (fd<|by kernel_rfl)<|.cons (fd<|by kernel_rfl)<|.cons (fd<|by kernel_rfl)<|.cons (fd<|by kernel_rfl)<|.cons (fd<|by kernel_rfl)<|.cons (fd<|by kernel_rfl)<|.cons aSv<|.cons aSP<|.cons (fd<|by kernel_rfl)<|.cons (fd<|by kernel_rfl)<|.cons (fd<|by kernel_rfl)<|.cons (fd<|by kernel_rfl)<|.cons (fd<|by kernel_rfl)<|.cons aSi<|.cons (fd<|by kernel_rfl)<|.cons (fd<|by kernel_rfl)<|.cons (fd<|by kernel_rfl)<|.cons (fd<|by kernel_rfl)<|.nil
end Go.Proofs.YtelnnehpbkainaaGreatDoor.Code
namespace Go.Fw
open Go Go.WideShapes
inductive Reads{H:Type}(P:Program):List TypeId→List (DataW H)→List AV→Prop
 |nil:Reads P [] [] []
 |cons {t:TypeId} {ts:List TypeId} {d:DataW H} {ds:List (DataW H)} {cs:List AV} {avs:List AV} (h:gL P t d=some cs) (k:Reads P ts ds avs):Reads P (t::ts) (d::ds) (mkV P t cs::avs)
section
variable {P : Program} {P' : aS} {H : Type} {enc : TypeId × Value → H} {W : World} {ts : List TypeId}
theorem aPk(hts:ts.all (aHu P ts)=true){t:TypeId}(ht:t∈ts){base:Nat}{v:Value}(hval:Value.okWide P W .any base t v){d:DataW H}{ps:List MemPlace}{sp:Nat→Bool}{held:Bool}
(h:DataW.Trod enc P W 0 sp held t v d ps): ∃a_,TyC P t a_∧R (G0 W) (.v (mkV P t a_) v)∧gL P t d=some a_:=by
 obtain⟨fuel,hf⟩:=h;obtain⟨a_,h1,h2,h3⟩:=aJj hts fuel ht hf;refine⟨a_,h2,?_,h1⟩;have one:v.oneCell'=true→nR P t=some false→R (G0 W) (.v (mkV P t a_) v):=fun hv ha=>by
  obtain⟨a,rfl,_⟩:=h2.lone ha;unfold mkV;rw [ha];rw [aEb hv] at h3;cases h3 with
  |cJ r1 _ _=>exact r1
 have agg: ∀cs,v= .agg cs→nR P t=some true→R (G0 W) (.v (mkV P t a_) v):=fun cs hv ha=>by
  subst hv;unfold mkV;rw [ha];have:R (G0 W) (.k a_ cs.toList):=h3;simpa using R.agg this
 have hok:=List.all_eq_true.1 hts t ht;unfold aHu at hok;cases hu:P.underlying t with
 |none=>rw [hu] at hok;cases hok
 |some u=>
  rw [hu] at hok;cases u with
  |bool=>obtain⟨b,rfl⟩:=okWide_bool hu hval;exact one rfl (by rw [nR,hu])
  |int k=>obtain⟨b,rfl⟩:=okWide_int hu hval;exact one rfl (by rw [nR,hu])
  |string=>obtain⟨b,rfl⟩:=okWide_string hu hval;exact one rfl (by rw [nR,hu])
  |pointer e=>obtain⟨b,rfl⟩:=okWide_pointer hu hval;exact one rfl (by rw [nR,hu])
  |slice e=>obtain⟨a,l,c,rfl⟩:=okWide_slice hu hval;exact one rfl (by rw [nR,hu])
  |struct fs=>
   have h0:=hval;unfold Value.okWide at h0;rw [hu] at h0;obtain⟨cs,hv,_⟩:=h0;exact agg cs hv (by rw [nR,hu])
  |array n e=>
   have h0:=hval;unfold Value.okWide at h0;rw [hu] at h0;obtain⟨cs,hv,_⟩:=h0;exact agg cs hv (by rw [nR,hu])
  |_=>cases hok
theorem aGa(hts:ts.all (aHu P ts)=true){base:Nat}{sp:Nat→Bool}{held:Bool}: ∀{us:List TypeId}{vs:List Value}{ds:List (DataW H)}{ps:List MemPlace},(us.all ts.contains)=true→
  (∀(j:Nat)(t:TypeId)(v:Value),us[j]?=some t→vs[j]?=some v→Value.okWide P W .any base t v)→DataW.TrodAll enc P W 0 sp held us vs ds ps→ ∃avs,Typed P us avs∧R (G0 W) (.l avs vs)∧ds.length=us.length∧Reads P us ds avs
 | [],[],[],ps,_,_,_=>⟨[],.nil,.rE,rfl,.nil⟩
 |t::us,v::vs,d::ds,ps,hc,hv,h=>by
  obtain⟨p,q,h1,h2,_⟩:=h;simp only [List.all_cons,Bool.and_eq_true] at hc;obtain⟨a_,k1,k2,k6⟩:=aPk hts (contains_of hc.1) (hv 0 t v rfl rfl) h1;obtain⟨avs,k3,k4,k5,k7⟩:=aGa hts hc.2 (fun j t v ht hv'=>hv (j+1) t v (by simpa using ht) (by simpa using hv')) h2;exact⟨_,.cons k1 k3,.fR k2 k4,by simp [k5],.cons k6 k7⟩
 | [],[],_::_,_,_,_,h=>h.elim
 | [],_::_,_,_,_,_,h=>h.elim
 |_::_,[],_,_,_,_,h=>h.elim
 |_::_,_::_,[],_,_,_,h=>h.elim
theorem aDg(hP:POk P P')(hp:aEl P P'){f:Nat}{fn:Func}{af:AF}(haf:P'.fn f=some af)(hts:ts.all (aHu P ts)=true)(hpar:(fn.params.toList.all ts.contains)=true)(hl:laidOutB P=true)
(hrd:(fn.params.toList.all fun t=>P.readableRec t&&decide (t<P.types.size))=true){tb:TypeId}(hres:fn.resultTypes= #[tb])(hb:P.underlying tb=some .bool){s:ChangeSpec}(hvars:s.vars= [])
(hspec: ∀ds:List (DataW H),ds.length=fn.params.toList.length→s.fn H (ds++ [])={results:= [.lit (.bool true)],args:=ds})
{K:List (DataW H)→Prop}
(law: ∀avs ds,Typed P fn.params.toList avs→Reads P fn.params.toList ds avs→K ds→ ∃n s',(cH P' n).call (.func f) avs dK=some (.ret (.bool true),s')){apart:Bool}{base:Nat}{args:Array Value}{ds gs:List (DataW H)}{before:List MemPlace}
(hval: ∀(j:Nat)(t:TypeId)(v:Value),fn.params[j]?=some t→args[j]?=some v→Value.okWide P W .any base t v)(hW:DataW.Whole enc P fn.params.toList s.vars apart W args.toList ds gs before)(hK:K (ds++gs))(hg:g8 P' (G0 W)):
  Calls P f args W fun e W'=> ∃v,e= .returned v∧s.post enc P fn apart true false false W args v W':=by
 have hW':=hW;obtain⟨p,q,hA,hV,rfl,hfz,hnd⟩:=hW;rw [hvars] at hV;obtain⟨rfl,rfl⟩:gs= []∧q= []:=by
  cases gs with
  |nil=>exact⟨rfl,hV⟩
  |cons g r=>exact absurd hV (by intro h;cases h)
 rw [List.append_nil] at hK;obtain⟨avs,h1,h2,h3,h4⟩:=aGa (base:=base) hts hpar (fun j t v ht hv=>hval j t v (by simpa using ht) (by simpa using hv)) hA;obtain⟨n,s',hcall⟩:=law avs ds h1 h4 hK;have hc:=aNL hP hp haf hcall W h2 hg;rw [Array.toArray_toList] at hc;refine hc.mono fun e W' hq=> ?_;obtain⟨x,G',rfl,hx,hbel⟩:=hq;cases hx;refine⟨_,rfl,ds,[],p++ [],[],p,[],hW',?_,?_,?_,hbel.frame _,fun h=>by cases h⟩
 ·rw [hspec ds h3,hres];refine⟨[],[],?_,rfl,rfl⟩;exact⟨1,by simp [DataW.trod,Value.cells,hb]⟩
 ·rw [hspec ds h3];exact xI hl hbel hrd hA
 ·rw [hspec ds h3,hvars]
  rfl
theorem aI9{C:Checked}{os:Os}{f:FuncId}{fn:Func}{s:OpenSpec}{conds:List PathCond}{apart:Bool}{laid:List (String×DataW Unit)}(w0:World)(args:Array Value)(hos:w0.os=os)
(hsh:(w0.forCall (fun _ _=>0) ⟨#[],args,[]⟩).Shaped C.prog)
(hok:Input.okWideB C.prog (w0.forCall (fun _ _=>0) ⟨#[],args,[]⟩) f ⟨#[],args,[]⟩=true)
(hpre:s.pre enc C.prog fn conds apart (w0.forCall (fun _ _=>0) ⟨#[],args,[]⟩).memory args)
(hx:laidMetH C.prog laid (w0.forCall (fun _ _=>0) ⟨#[],args,[]⟩).memory)
(hsz:sizedMet enc C.prog fn s apart (w0.forCall (fun _ _=>0) ⟨#[],args,[]⟩).memory args):
  ∃(w:World)(tape:Tape)(i:Input),w.os=os∧(w.forCall tape i).Shaped C.prog∧i.vars= []∧Input.okWide C.prog (w.forCall tape i) .any w.heap.size f i∧
   s.preRow enc C.prog fn conds apart laid (w.forCall tape i).memory i.args∧({}:Assume).holds C.prog (lone (Frame.enter C.prog f i.args .normal) [] (w.forCall tape i)):=
 ⟨w0,fun _ _=>0,⟨#[],args,[]⟩,hos,hsh,(Input.okWide_of_okWideB (base:=0) hok).1,(Input.okWide_of_okWideB hok).2,⟨⟨hpre,hx⟩,hsz⟩,by
  simp only [Assume.holds];exact⟨by simp,by simp,fun _=>Modest.zero,by simp,by simp⟩⟩
end
end Go.Fw
namespace Go.Proofs.YtelnnehpbkainaaGreatDoor
open Go Go.Fw
section
variable {P : Program} {H : Type}
mutual
theorem sF: ∀(d:DataW H)(t:TypeId)(cs:List AV),gL P t d=some cs→dF cs≤Rows.uptoBulk d
 | .lit l,t,cs,h=>by
  unfold gL at h;cases l<;>first|(cases h;simp [dF,mB,Rows.uptoBulk])|cases h
 | .nil,t,cs,h=>by
  unfold gL at h;split at h<;>first|(cases h;simp [dF,mB,Rows.uptoBulk])|cases h
 | .ptr d,t,cs,h=>by
  unfold gL at h;split at h
  ·rename_i e he;split at h
   ·rename_i c hc;cases h;have h1:=sF d _ _ hc;have h2:=aC0 P e c;simp only [dF,mB,Rows.uptoBulk];omega
   ·cases h
  ·cases h
 | .slice elems spare,t,cs,h=>by
  unfold gL at h;split at h
  ·rename_i e he;split at h
   ·rename_i c hc;cases h;have h1:=(sN elems _ _ hc).1;simp only [dF,mB,Rows.uptoBulk];omega
   ·cases h
  ·cases h
 | .agg parts,t,cs,h=>by
  unfold gL at h;split at h
  ·split at h
   ·rename_i c hc;cases h;have h1:=vZ parts _ _ hc;simp only [Rows.uptoBulk];omega
   ·cases h
  ·split at h
   ·rename_i c hc;cases h;have h1:=(sN parts _ _ hc).2;simp only [Rows.uptoBulk];omega
   ·cases h
  ·cases h
 | .iface _ _,t,cs,h=>by cases h
 | .map _,t,cs,h=>by cases h
 | .held _,t,cs,h=>by cases h
theorem sN: ∀(ds:List (DataW H))(e:TypeId)(css:List (List AV)),pH P e ds=some css→dF (css.map (mkV P e))≤Rows.uptoBulkAll ds∧dF css.flatten≤Rows.uptoBulkAll ds
 | [],e,css,h=>by
  unfold pH at h;cases h;simp [dF]
 |d::r,e,css,h=>by
  unfold pH at h;split at h
  ·rename_i x xs h1 h2;cases h;have g1:=sF d _ _ h1;obtain⟨g2,g3⟩:=sN r _ _ h2;have g4:=aC0 P e x;simp only [List.map_cons,List.flatten_cons,dF,tR,Rows.uptoBulkAll];omega
  ·cases h
theorem vZ: ∀(ds:List (DataW H))(us:List TypeId)(css:List (List AV)),mS P us ds=some css→dF css.flatten≤Rows.uptoBulkAll ds
 | [],us,css,h=>by
  cases us<;>unfold mS at h<;>cases h;simp [dF]
 |d::r,us,css,h=>by
  cases us with
  |nil=>unfold mS at h;cases h
  |cons t us=>
   unfold mS at h;split at h
   ·rename_i x xs h1 h2;cases h;have g1:=sF d _ _ h1;have g3:=vZ r _ _ h2;simp only [List.flatten_cons,tR,Rows.uptoBulkAll];omega
   ·cases h
end
theorem aCY: ∀{us:List TypeId}{ds:List (DataW H)}{avs:List AV},Reads P us ds avs→dF avs≤Rows.uptoBulkAll ds
 |_,_,_,.nil=>by simp [dF]
 |_,_,_,.cons (t:=t) (d:=d) (cs:=cs) h k=>by
  have g1:=sF d _ _ h;have g2:=aCY k;have g3:=aC0 P t cs;simp only [dF,Rows.uptoBulkAll];omega
end
end Go.Proofs.YtelnnehpbkainaaGreatDoor
namespace Go.Proofs.YtelnnehpbkainaaGreatDoor
open Go Go.Fw Go.ChangeShapes Go.WideShapes Go.ChangeAt Go.RowKit
set_option maxRecDepth 100000
theorem aBo:ownKnob Tryz.prog.godebug=none:=by kernel_rfl
def pP:List TypeId:= [266,280,277,283,281,278,286,264,3,244,5,241,240,4,154,22,27,9,23,24,25,66]
theorem yM(os:Os)(started:os.Started)(H:Type)(enc:TypeId×Value→H)(F:Stop.Interp):
  ReturnsInHanded {} Tryz.checked os 7 .any ((Rows.OpenSpec.upto Rows.linearSitesSpec).preRow enc Tryz.prog Tryz.f7 Rows.linearSitesUptoRow.domain false Rows.linearSitesUptoRow.laid)
   (((Rows.OpenSpec.upto Rows.linearSitesSpec).at F).post enc Tryz.prog Tryz.f7 false true false false):=by
 refine returnsInHanded_of_row (C:=Tryz.checked) (s:=(Rows.OpenSpec.upto Rows.linearSitesSpec)) aBo started (by kernel_rfl) Tryz.func7
  (aI9 (C:=Tryz.checked) (fn:=Tryz.f7) (World.laidAll Tryz.prog os Rows.linearSitesUptoRow.laid) #[.agg #[.int .i64 0,.int .i64 0,.string ⟨#[]⟩,.string ⟨#[]⟩,.slice none 0 0,.slice none 0 0,.slice none 0 0],.string ⟨#[]⟩] (World.laidAll_os _ _ _) (World.shaped_of_ZipB (by kernel_rfl) (by kernel_rfl)) (by kernel_rfl)
   ((OpenSpec.pre_some (s:=(Rows.OpenSpec.upto Rows.linearSitesSpec)) (k:=Rows.uptoSmall) rfl _ _ _ _).2 ⟨[.agg [.lit (.int .i64 0),.lit (.int .i64 0),.lit (.string []),.lit (.string []),.nil,.nil,.nil],.lit (.string [])],[],[],DataW.Whole_of_whole (fuel:=8) (x:=([.agg [.lit (.int .i64 0),.lit (.int .i64 0),.lit (.string []),.lit (.string []),.nil,.nil,.nil],.lit (.string [])],[],[])) (by kernel_rfl),by kernel_rfl,by kernel_rfl⟩)
   (by rw [MakeChecks.laidMetH_plain _ _ _ (by kernel_rfl)];exact laidMet_laidAll _ (by kernel_rfl) (by kernel_rfl))
   (show sizedMet enc Tryz.prog Tryz.f7 (OpenSpec.ofChange Rows.linearSitesSpec) _ _ _ from sizedMet_of_sizedB (fuel:=8) (by kernel_rfl))) ?_
 intro W base args ds gs before hval0 hW hc hk _ hL _ _;have hval: ∀(j:Nat) t v,Tryz.f7.params[j]?=some t→args[j]?=some v→Value.okWide Tryz.prog W .any base t v:=hval0;have hL2:laidMetH Tryz.prog Rows.linearSitesUptoRow.laid W:=hL;rw [MakeChecks.laidMetH_plain _ _ _ (by kernel_rfl)] at hL2;obtain⟨lps,hLV,_⟩:=hL2;have hts:pP.all (aHu Tryz.prog pP)=true:=by kernel_rfl
 have hg:g8 (yA Code.tab gl0) (G0 W):=fun g=>aKb hts (by kernel_rfl) (by kernel_rfl) hLV g;exact aDg (P:=Tryz.prog) (P':=yA Code.tab gl0) (ts:=pP) (aKB Code.aQV (by kernel_rfl) (by kernel_rfl)) aFL (f:=7) (fn:=Tryz.f7) (af:=Code.c7) (by kernel_rfl) hts (by kernel_rfl) (by kernel_rfl) (by kernel_rfl) (tb:=4) (by kernel_rfl) (by kernel_rfl) (s:=(Rows.OpenSpec.upto Rows.linearSitesSpec).at F) rfl
  (fun ds hl=>by
   have hl':ds.length=2:=hl
   match ds,hl' with
   | [d0,d1],_=>
    show Rows.linearSitesSpec.fn H ([d0,d1]++ [])=_;simp [Rows.linearSitesSpec])
  (K:=fun ds=>Rows.uptoBulkAll ds≤1048576) (fun avs ds h hr hK=>aBt avs h (Nat.le_trans (aCY hr) hK)) hval hW (of_decide_eq_true (hk _ rfl)) hg
theorem zG:joinedFacts Tryz.prog 7 Tryz.f7 (Rows.OpenSpec.upto Rows.linearSitesSpec).bare Rows.linearSitesUptoRow=true:=by kernel_rfl
theorem u6:Rows.LinearSitesUptoSaid:=
 OpenClaim.holds_of_cond 7 Tryz.f7 rfl rfl rfl rfl rfl rfl rfl ⟨rfl,rfl,rfl,rfl,rfl⟩ rfl rfl rfl rfl rfl (by kernel_rfl) Tryz.func7 zG
  (of_decide_eq_true (by kernel_rfl)) (by unfold Func.isWrapper;first|(rw [if_pos (by decide+kernel)];kernel_rfl)|(rw [if_neg (by decide+kernel)];exact⟨rfl,rfl⟩))
  (fun os started H enc _ F=>by rw [OpenClaim.pre_eq_preRow];exact yM os started H enc F)
theorem linearSitesUpto_card:Rows.LinearSitesUptoCardSaid:=
 Claim7.holds_tied_plain_at .later [] [.listed,.data,.data,.widerDeep] true (true, "798fd9b8000fda1d5b00c7d7626b4820eb45570a61c66c9fe5fb42989f4f2cbb") true u6 (fun _ h=>by cases h) (by kernel_rfl) (fun _ h=>by cases h) linearSitesUpto_row_tie rfl ⟨rfl,rfl⟩ (by kernel_rfl) rfl
  (fun f fn hf hfn=>by
   obtain rfl:f=7:=Option.some.inj ((show Tryz.prog.funcNamed "reprise/repriselaw10.LinearSites" =some 7 by kernel_rfl).symm.trans hf)|>.symm;obtain rfl:fn=Tryz.f7:=(Option.some.inj (Tryz.func7.symm.trans hfn)).symm;exact⟨by kernel_rfl,fun j t ht=>by
    have hm:t∈ [27,9]:=by
     have hq:Tryz.f7.params.toList= [27,9]:=by kernel_rfl
     rw [←hq];exact Array.mem_toList_iff.2 (Array.mem_of_getElem? ht)
    have hall:(([27,9]:List TypeId).all fun u=> !Tryz.prog.wantsStandIn u)=true:=by kernel_rfl
    exact(show Tryz.prog.wantsStandIn t=false by simpa using List.all_eq_true.1 hall t hm)⟩)
  (by kernel_rfl)
end Go.Proofs.YtelnnehpbkainaaGreatDoor
