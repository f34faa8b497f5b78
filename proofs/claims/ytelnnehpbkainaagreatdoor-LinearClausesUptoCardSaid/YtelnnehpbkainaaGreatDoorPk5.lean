/- Our own framework, the program's cooked code, and the proofs that a claim leans on: joined and shortened by a program of the prover's own. -/
import Derived.Test.YtelnnehpbkainaaGreatDoorProg
import Derived.KernelRfl
import Derived.Test.YtelnnehpbkainaaGreatDoorRows
import Derived.Test.YtelnnehpbkainaaGreatDoorTie
import Derived.Test.YtelnnehpbkainaaGreatDoorCards
import Derived.ProofKit
import Derived.OpenShut
import Derived.LaidMore
import Derived.Lay
import Derived.SevenTiedAt
import Derived.Stop.Joined
import Derived.Deep.DeepHandedRow
import Derived.JoinedCond
import Derived.WideShapes
import Derived.Carry
import Derived.RowKit
import Derived.LaidLaws
import Derived.Test.YtelnnehpbkainaaGreatDoorPk4
set_option linter.unusedVariables false
set_option linter.unusedSimpArgs false
set_option maxRecDepth 100000
namespace Go.Proofs.YtelnnehpbkainaaGreatDoor
open Go Go.Fw
def sA(path:List Int)(o:Option (List Int)):List Int×Bool:=match o with
 |some p=>(path++p,true)
 |none=>([],false)
def rX(path:List Int)(a:Bool)(b:List Int)(o:Option (List Int)):Option Nat×Bool×List Int:=match o with
 |some p=>(some 0,true,path++p)
 |none=>(none,a,b)
theorem zF(path:List Int)(j:Int)(p:List Int):(path++ [j])++p=path++(j::p):=by simp
theorem aDQ{α:Type}{l:List α}{k:Nat}{y:α}{r:List α}(h:l.drop k=y::r):k<l.length:=by
 have:=congrArg List.length h;simp at this;omega
theorem wD{α:Type}{l:List α}{k:Nat}{y:α}{r:List α}(h:l.drop k=y::r):y∈l:=List.mem_of_mem_drop (h▸List.mem_cons_self)
theorem g9{e y:Expr}{path:List Int}(hp:Deep e path)(hy:y∈parts e)(j:Int):Deep y (path++ [j]):=by
 have:=bK hy;show(path++ [j]).length+bH y≤2000000;have hp':path.length+bH e≤2000000:=hp;simp only [List.length_append,List.length_singleton];omega
theorem m8: ∀(n:Nat)(e:Expr),bH e≤n→WF e→ ∀(k:Str)(hd wi:Bool)(path:List Int),Deep e path→dB ⟨e,path⟩ k hd wi=some (sA path (dZ k hd wi e))
 |0,e,h=>by have:=bQ e;omega
 |n+1,e,h=>by
  intro hw k hd wi path hp;have hlen:=hw.1.lens;rw [dB,zV];simp only [aTc,aRz,Option.bind_eq_bind,Option.bind_some];have hround: ∀(j:Nat)(y:Expr)(r:List Expr)(a:Bool)(b:List Int),(parts e).drop j=y::r→kK ⟨e,path⟩ k hd wi ⟨e,path⟩ (j:Int) ⟨y,path++ [(j:Int)]⟩ a b=some (rX path a b ((dZ k (hd||has (bJ e j) k) (wi||e.kind==4) y).map ((j:Int):: ·))):=by
   intro j y r a b hdr;have hy:=wD hdr;have hb:=aBv hw path k (aDQ hdr);have ih:=m8 n y (by have:=bK hy;omega) (hw.part hy) k (hd||has (bJ e j) k) (wi||e.kind==4) (path++ [(j:Int)]) (g9 hp hy _);rw [kK];simp only [nf,hb,Option.bind_eq_bind,Option.bind_some];have e1:(if hd=true then some true else some (has (bJ e j) k):Option Bool)=some (hd||has (bJ e j) k):=by cases hd<;>rfl
   have e2:(if wi=true then some true else some (e.kind==4):Option Bool)=some (wi||e.kind==4):=by cases wi<;>rfl
   rw [e1,e2];simp only [Option.bind_some,ih];cases dZ k (hd||has (bJ e j) k) (wi||e.kind==4) y with
   |none=>rfl
   |some p=>exact congrArg (fun z=>some (some 0,true,z)) (zF path j p)
  have hsum:IntKind.wrap .i64 (((aE.mk e path).expr.l.length:Int)+((aE.mk e path).expr.aT.length:Int))=((parts e).length:Int):=hw.1.sum;have loop: ∀(a:Bool)(b:List Int),dY ⟨e,path⟩ k hd wi ⟨e,path⟩ ((0:Nat):Int) none a b=some (match bZ (fun i y=>dZ k (hd||has (bJ e i) k) (wi||e.kind==4) y) 0 (parts e) with|some p=> .ret (some 0,true,path++p)|none=> .nx (none,a,b)):=by
   intro a b;refine cH (l:=parts e) (C:=fun j r=>dY ⟨e,path⟩ k hd wi ⟨e,path⟩ (j:Int) none a b=some (match bZ (fun i y=>dZ k (hd||has (bJ e i) k) (wi||e.kind==4) y) j r with|some p=> .ret (some 0,true,path++p)|none=> .nx (none,a,b))) (by rw [gQ];omega) (fun hl=> ?_) fun j y r hdr hk hy hlt _ hws ih=> ?_
   ·rw [dY,hsum,hl];rfl
   ·rw [dY,hsum,if_pos hlt,oE hw.1 hp hdr];simp only [nf,Option.bind_eq_bind,Option.bind_some,hround j y r a b hdr,hws];simp only [bZ];cases dZ k (hd||has (bJ e j) k) (wi||e.kind==4) y with
    |none=>exact ih
    |some p=>rfl
  have hl:=loop false [];rw [show((0:Nat):Int)=0 from rfl] at hl;cases hcc:((!hd&&isV e k)||(!wi&& !uG e.kind)) with
  |true=>
   cases hd<;>cases wi<;>cases h1:isV e k<;>cases h2:uG e.kind<;>simp [h1,h2] at hcc<;>simp [sA]
  |false=>
   have h3:kJ ⟨e,path⟩ k hd wi ⟨e,path⟩ false []=some (rX path false [] (bZ (fun i y=>dZ k (hd||has (bJ e i) k) (wi||e.kind==4) y) 0 (parts e))):=by
    rw [kJ,hl];cases bZ (fun i y=>dZ k (hd||has (bJ e i) k) (wi||e.kind==4) y) 0 (parts e)<;>rfl
   have h4:(bP ⟨e,path⟩)=some ⟨e,path⟩:=by rw [bP]
   have fin: ∀o:Option (List Int),(if((rX path false [] o).1==(none:Option Nat))=true then some (([]:List Int),false) else if((rX path false [] o).1==some 0)=true then some ((rX path false [] o).2.2,(rX path false [] o).2.1) else none)=some (sA path o):=fun o=>by cases o<;>rfl
   cases hd<;>cases wi<;>cases h1:isV e k<;>cases h2:uG e.kind<;>simp [h1,h2] at hcc<;>simp only [nf,Bool.not_true,Bool.not_false,Bool.false_eq_true,if_true,if_false,Option.bind_some,h4,h3,fin]
def iG(k:Str)(e:Expr):Option (List Int):=dZ k false true e
theorem aL5(k:Str)(e:Expr):iG k e=if isV e k=true then some [] else bZ (fun i y=>if has (bJ e i) k=true then none else iG k y) 0 (parts e):=by
 rw [iG,zV];simp only [Bool.not_false,Bool.true_and,Bool.not_true,Bool.false_and,Bool.or_false,Bool.false_or,Bool.true_or];split
 ·rfl
 ·refine sT fun y hy j=> ?_;cases has (bJ e j) k with
  |true=>exact yS _ k y (Nat.le_refl _)
  |false=>rfl
theorem tL: ∀(n:Nat)(e:Expr),bH e≤n→WF e→ ∀(k:Str)(path:List Int),Deep e path→dV ⟨e,path⟩ k=some (sA path (iG k e))
 |0,e,h=>by have:=bQ e;omega
 |n+1,e,h=>by
  intro hw k path hp;have hlen:=hw.1.lens;rw [dV,aL5];simp only [aTc,Option.bind_eq_bind,Option.bind_some];have hround: ∀(j:Nat)(y:Expr)(r:List Expr)(a:Bool)(b:List Int),(parts e).drop j=y::r→jH ⟨e,path⟩ k ⟨e,path⟩ (j:Int) ⟨y,path++ [(j:Int)]⟩ a b=some (rX path a b ((if has (bJ e j) k=true then none else iG k y).map ((j:Int):: ·))):=by
   intro j y r a b hdr;have hy:=wD hdr;have hb:=aBv hw path k (aDQ hdr);have ih:=tL n y (by have:=bK hy;omega) (hw.part hy) k (path++ [(j:Int)]) (g9 hp hy _);rw [jH];simp only [nf,hb,ih,Option.bind_eq_bind,Option.bind_some];cases has (bJ e j) k with
   |true=>rfl
   |false=>
    simp only [Bool.false_eq_true,if_false];cases iG k y with
    |none=>rfl
    |some p=>exact congrArg (fun z=>some (some 0,true,z)) (zF path j p)
  have hsum:IntKind.wrap .i64 (((aE.mk e path).expr.l.length:Int)+((aE.mk e path).expr.aT.length:Int))=((parts e).length:Int):=hw.1.sum;have loop: ∀(a:Bool)(b:List Int),dI ⟨e,path⟩ k ⟨e,path⟩ ((0:Nat):Int) none a b=some (match bZ (fun i y=>if has (bJ e i) k=true then none else iG k y) 0 (parts e) with|some p=> .ret (some 0,true,path++p)|none=> .nx (none,a,b)):=by
   intro a b;refine cH (l:=parts e) (C:=fun j r=>dI ⟨e,path⟩ k ⟨e,path⟩ (j:Int) none a b=some (match bZ (fun i y=>if has (bJ e i) k=true then none else iG k y) j r with|some p=> .ret (some 0,true,path++p)|none=> .nx (none,a,b))) (by rw [gQ];omega) (fun hl=> ?_) fun j y r hdr hk hy hlt _ hws ih=> ?_
   ·rw [dI,hsum,hl];rfl
   ·rw [dI,hsum,if_pos hlt,oE hw.1 hp hdr];simp only [nf,Option.bind_eq_bind,Option.bind_some,hround j y r a b hdr,hws];simp only [bZ];cases (if has (bJ e j) k=true then none else iG k y) with
    |none=>exact ih
    |some p=>rfl
  have hl:=loop false [];rw [show((0:Nat):Int)=0 from rfl] at hl;cases h1:isV e k with
  |true=>simp [sA]
  |false=>
   have h3:jG ⟨e,path⟩ k ⟨e,path⟩ false []=some (rX path false [] (bZ (fun i y=>if has (bJ e i) k=true then none else iG k y) 0 (parts e))):=by
    rw [jG,hl];cases bZ (fun i y=>if has (bJ e i) k=true then none else iG k y) 0 (parts e)<;>rfl
   have h4:(bP ⟨e,path⟩)=some ⟨e,path⟩:=by rw [bP]
   have fin: ∀o:Option (List Int),(if((rX path false [] o).1==(none:Option Nat))=true then some (([]:List Int),false) else if((rX path false [] o).1==some 0)=true then some ((rX path false [] o).2.2,(rX path false [] o).2.1) else none)=some (sA path o):=fun o=>by cases o<;>rfl
   simp only [nf,Bool.false_eq_true,if_false,Option.bind_some,h4,h3,fin]
def pH(o:Option (List Int)):List Int×Bool:=match o with
 |some p=>(p,true)
 |none=>([],false)
theorem aET{f:Nat→Expr→Option (List Int)}{N:Nat}: ∀{l:List Expr}{i:Nat}(_: ∀y∈l,∀j p,f j y=some p→p.length+1≤N){p:List Int},bZ f i l=some p→p.length≤N
 |y::r,i,h,p,hp=>by
  simp only [bZ] at hp;cases hf:f i y with
  |none=>rw [hf] at hp;exact aET (fun z hz=>h z (.tail _ hz)) hp
  |some q=>
   rw [hf] at hp;cases hp;have:=h y (.head _) i q hf;simpa using this
theorem pV: ∀(n:Nat)(e:Expr),bH e≤n→ ∀(k:Str)(hd wi:Bool)(p:List Int),dZ k hd wi e=some p→p.length<bH e
 |0,e,h=>by have:=bQ e;omega
 |n+1,e,h=>by
  intro k hd wi p hp;have h0:=bQ e;rw [zV] at hp;split at hp
  ·cases hp;exact h0
  ·have:=aET (N:=bH e-1) (fun y hy j q hq=>by
    have h1:=bK hy;have:=pV n y (by omega) k _ _ q hq;omega) hp
   omega
theorem jF(i:Int)(p:List Int)(hp:p.length≤1048576):dU i p=some (i::p):=by
 have ha:app 8 [i] p=some ([i]++p):=aCf (by rw [rZ];simp only [List.length_singleton];omega) (by rw [rZ];simp only [List.length_singleton];omega);rw [dU,ha]
 rfl
theorem sM: ∀(n:Nat)(e:Expr),bH e≤n→WF e→ ∀(k:Str),k≠ []→kP e k=some (pH (iG k e))
 |0,e,h=>by have:=bQ e;omega
 |n+1,e,h=>by
  intro hw k hk;have hlen:=hw.1.lens;rw [kP,aL5];simp only [aCM,Option.bind_eq_bind,Option.bind_some,aFh e hk,nK hw.1];have loop:jO e k (parts e) ((0:Nat):Int)=some (match bZ (fun i y=>if has (bJ e i) k=true then none else iG k y) 0 (parts e) with|some p=> .ret (p,true)|none=> .nx ()):=by
   refine cH (l:=parts e) (C:=fun j r=>jO e k (parts e) (j:Int)=some (match bZ (fun i y=>if has (bJ e i) k=true then none else iG k y) j r with|some p=> .ret (p,true)|none=> .nx ())) (by rw [gQ];omega) (fun hl=> ?_) fun j y r hdr hj hy hlt hi hws ih=> ?_
   ·rw [jO,hl];rfl
   ·have ihy:=sM n y (by have:=bK hy;omega) (hw.part hy) k hk;have hbl:(bJ e j).length<4611686018427387904:=by
     have hb:=aBz hw hj;unfold bJ;split
     ·split
      ·rename_i a ha;have:=(qW hw.1 (List.mem_of_getElem? ha)).2.1;omega
      ·simp
     ·repeat' split
      all_goals (first|(simp;done)|(simp only [List.length_take];omega)|omega)
    rw [jO,if_pos hlt,aBz hw hj];simp only [nf,Option.bind_eq_bind,Option.bind_some,iB _ k hbl,hi,ihy,hws,bZ];cases has (bJ e j) k with
    |true=>exact ih
    |false=>
     simp only [Bool.false_eq_true,if_false];cases ho:iG k y with
     |none=>exact ih
     |some p=>
      have h1:=pV _ y (Nat.le_refl _) k false true p ho;have h2:bH y≤1048576:=(hw.1.part hy)
      show(dU (j:Int) p).bind _=_;rw [jF (j:Int) p (by omega)]
      rfl
  rw [show((0:Nat):Int)=0 from rfl] at loop;cases h1:isV e k with
  |true=>rfl
  |false=>
   simp only [Bool.false_eq_true,if_false,loop,Option.bind_some];cases bZ (fun i y=>if has (bJ e i) k=true then none else iG k y) 0 (parts e)<;>rfl
theorem aF8{e:Expr}(h:WF e)(j:Nat):(bJ e j).length<4611686018427387904:=by
 have hlen:=h.1.lens;unfold bJ;split
 ·split
  ·rename_i a ha;have:=(qW h.1 (List.mem_of_getElem? ha)).2.1;omega
  ·simp
 ·repeat' split
  all_goals (first|(simp;done)|(simp only [List.length_take];omega)|omega)
theorem zT: ∀(n:Nat)(e:Expr),bH e≤n→WF e→ ∀(k:Str)(hd:Bool),k≠ []→jT e (if hd=true then [] else k)=some (pH (dZ k hd false e))
 |0,e,h=>by have:=bQ e;omega
 |n+1,e,h=>by
  intro hw k hd hk;have hlen:=hw.1.lens;have hk0:(k==([]:Str))=false:=by cases k with|nil=>exact absurd rfl hk|cons=>rfl
  rw [jT,zV];simp only [aCM,aKC,Option.bind_eq_bind,Option.bind_some,nK hw.1];have loop:mL e (if hd=true then [] else k) (parts e) ((0:Nat):Int)=some (match bZ (fun i y=>dZ k (hd||has (bJ e i) k) (false||e.kind==4) y) 0 (parts e) with|some p=> .ret (p,true)|none=> .nx ()):=by
   refine cH (l:=parts e) (C:=fun j r=>mL e (if hd=true then [] else k) (parts e) (j:Int)=some (match bZ (fun i y=>dZ k (hd||has (bJ e i) k) (false||e.kind==4) y) j r with|some p=> .ret (p,true)|none=> .nx ())) (by rw [gQ];omega) (fun hl=> ?_) fun j y r hdr hj hy hlt hi hws ih=> ?_
   ·rw [mL,hl];rfl
   ·have hx:(if has (bJ e j) (if hd=true then [] else k)=true then([]:Str) else(if hd=true then [] else k))=if(hd||has (bJ e j) k)=true then [] else k:=by
     cases hd with
     |true=>simp
     |false=>simp
    have hx2:(if has (bJ e j) (if hd=true then [] else k)=true then some ([]:Str) else some (if hd=true then [] else k))=some (if(hd||has (bJ e j) k)=true then [] else k):=by
     rw [←hx];generalize has (bJ e j) (if hd=true then [] else k)=b;cases b<;>rfl
    rw [mL,if_pos hlt,aBz hw hj];simp only [nf,Option.bind_eq_bind,Option.bind_some,iB _ _ (aF8 hw j),hx2,hi,hws,bZ];have ihy:=zT n y (by have:=bK hy;omega) (hw.part hy) k (hd||has (bJ e j) k) hk;have ihf:=sM _ y (Nat.le_refl _) (hw.part hy) k hk;have key:((if(e.kind !=4)=true then(jT y (if(hd||has (bJ e j) k)=true then [] else k)).bind fun r16=>some (r16.1,r16.2) else if(!((if(hd||has (bJ e j) k)=true then [] else k)==([]:Str)))=true then(kP y (if(hd||has (bJ e j) k)=true then [] else k)).bind fun r18=>some (r18.1,r18.2) else some (([]:List Int),false)):Option (List Int×Bool))=some (pH (dZ k (hd||has (bJ e j) k) (false||e.kind==4) y)):=by
     by_cases h4:e.kind=4
     ·have e1:(e.kind !=4)=false:=by simp [h4]
      have e2:(e.kind==4)=true:=by simp [h4]
      rw [e1,e2];cases hb:(hd||has (bJ e j) k) with
      |true=>
       rw [show(false||true)=true from rfl,yS _ k y (Nat.le_refl _)]
       rfl
      |false=>
       simp only [Bool.false_eq_true,if_false,hk0,Bool.not_false,if_true,ihf,Option.bind_some]
       rfl
     ·have e1:(e.kind !=4)=true:=by simp [h4]
      have e2:(e.kind==4)=false:=by simp [h4]
      rw [e1,e2,ihy]
      rfl
    rw [key];cases ho:dZ k (hd||has (bJ e j) k) (false||e.kind==4) y with
    |none=>exact ih
    |some p=>
     have h1:=pV _ y (Nat.le_refl _) _ _ _ p ho;have h2:bH y≤1048576:=(hw.1.part hy)
     show(dU (j:Int) p).bind _=_;rw [jF (j:Int) p (by omega)]
     rfl
  rw [show((0:Nat):Int)=0 from rfl] at loop;have cond:(if(!uG e.kind)=true then some true else(if(!((if hd=true then [] else k)==([]:Str)))=true then some ((if(e.kind==0||e.kind==18||e.kind==19)=true then e.s else [])==(if hd=true then [] else k)) else some false:Option Bool).bind fun c5=>some c5:Option Bool)=some ((!hd&&isV e k)||(!false&& !uG e.kind)):=by
   cases hd with
   |true=>cases uG e.kind<;>rfl
   |false=>
    simp only [Bool.false_eq_true,if_false,hk0,Bool.not_false,if_true,aFh e hk];cases uG e.kind<;>cases isV e k<;>rfl
  rw [cond];cases hc:((!hd&&isV e k)||(!false&& !uG e.kind)) with
  |true=>rfl
  |false=>
   simp only [Bool.false_eq_true,if_false,loop,Option.bind_some];cases bZ (fun i y=>dZ k (hd||has (bJ e i) k) (false||e.kind==4) y) 0 (parts e)<;>rfl
def u5(k:Str)(e:Expr):Bool:=(dZ k false false e).isNone
theorem tQ{e:Expr}(h:WF e){k:Str}(hk:k≠ []):iU e k=some (u5 k e):=by
 have:=zT _ e (Nat.le_refl _) h k false hk;simp only [Bool.false_eq_true,if_false] at this;rw [iU,this,u5];cases dZ k false false e<;>rfl
theorem aBQ{e:Expr}(h:WF e){k:Str}(hk:k≠ []):jT e k=some (pH (dZ k false false e)):=by
 have:=zT _ e (Nat.le_refl _) h k false hk;simpa only [Bool.false_eq_true,if_false] using this
theorem wH(a b:List Str)(x:Str):has (a++b) x=(has a x||has b x):=by simp [has,List.any_append]
theorem aJ2{a b:List Str}(h:a.length+b.length≤4194304):app 16 a b=some (a++b):=aCf (by rw [rZ];omega) (by rw [rZ];omega)
theorem aMm(l:List Str)(s:Str)(hl:l.length≤2097152):oR l s=some (l.filter (fun y=> !(y==s))):=by
 have loop: ∀out:List Str,out.length+l.length≤2097152→gB l s out ((0:Nat):Int)=some (out++l.filter (fun y=> !(y==s))):=by
  refine cH (C:=fun k r=> ∀out:List Str,out.length+r.length≤2097152→gB l s out (k:Int)=some (out++r.filter (fun y=> !(y==s)))) (by omega) (fun hd=> ?_) fun k y r _ _ _ hlt hi hw ih=> ?_
  ·intro out _;rw [gB,hd];simp
  ·intro out ho;simp only [List.length_cons] at ho;rw [gB,if_pos hlt,hi];simp only [nf,Option.bind_eq_bind,Option.bind_some,hi,hw,List.filter_cons];cases (!(y==s)) with
   |false=>exact ih out (by omega)
   |true=>
    simp only [if_true,aJ2 (a:=out) (b:= [y]) (by simp;omega),Option.bind_some];rw [ih (out++ [y]) (by simp;omega)];simp
 rw [oR];have:=loop [] (by simpa using hl);rw [show((0:Nat):Int)=0 from rfl] at this;rw [this]
 rfl
theorem aLO(l:List Str)(s x:Str):has (l.filter (fun y=> !(y==s))) x=(has l x&& !(s==x)):=by
 induction l with
 |nil=>rfl
 |cons y r ih=>
  rw [List.filter_cons];have hc:has (y::r) x=((y==x)||has r x):=rfl;rw [hc];by_cases h:y=s
  ·subst h;simp only [beq_self_eq_true,Bool.not_true,Bool.false_eq_true,if_false,ih];cases (y==x)<;>cases has r x<;>rfl
  ·have hb:(y==s)=false:=by simpa using h
   rw [hb];have hc2:has (y::r.filter (fun y=> !(y==s))) x=((y==x)||has (r.filter (fun y=> !(y==s))) x):=rfl;simp only [Bool.not_false,if_true,hc2,ih];by_cases hy:y=x
   ·subst hy;have:(s==y)=false:=by simpa using Ne.symm h
    simp [this]
   ·have:(y==x)=false:=by simpa using hy
    simp [this]
theorem aPx(l less:List Str)(hl:l.length≤2097152)(hs:less.length≤2097152): ∃o,tB l less=some o∧o.length≤l.length∧ ∀x,has o x=(has l x&& !has less x):=by
 have loop: ∀l:List Str,l.length≤2097152→ ∃o,jY less l ((0:Nat):Int)=some o∧o.length≤l.length∧ ∀x,has o x=(has l x&& !has less x):=by
  refine cH (l:=less) (C:=fun k r=> ∀l:List Str,l.length≤2097152→ ∃o,jY less l (k:Int)=some o∧o.length≤l.length∧ ∀x,has o x=(has l x&& !has r x)) (by omega) (fun hd=> ?_) fun k y r _ _ _ hlt hi hw ih=> ?_
  ·intro l _;rw [jY,hd];exact⟨l,rfl,Nat.le_refl _,fun x=>by simp [has]⟩
  ·intro l hl;have hf:(l.filter (fun z=> !(z==y))).length≤l.length:=List.length_filter_le _ _;obtain⟨o,h1,h2,h3⟩:=ih (l.filter (fun z=> !(z==y))) (by omega);refine⟨o,?_,by omega,fun x=> ?_⟩
   ·rw [jY,if_pos hlt,hi];simp only [nf,Option.bind_eq_bind,Option.bind_some,aMm l y hl,hw];exact h1
   ·rw [h3,aLO];have hc:has (y::r) x=((y==x)||has r x):=rfl;rw [hc];cases has l x<;>cases (y==x)<;>cases has r x<;>rfl
 obtain⟨o,h1,h2,h3⟩:=loop l hl;refine⟨o,?_,h2,h3⟩;rw [tB,show(0:Int)=((0:Nat):Int) from rfl,h1]
 rfl
theorem aNT(more l:List Str)(i:Int)(m:Str)(hm:idx more i=some m)(hl:l.length≤1048576): ∀(out:List Str)(dn:Bool),out.length+l.length+(if dn=true then 0 else 1)≤2097152→ ∃o d,mR more l i out dn 0=some (o,d)∧o.length≤out.length+l.length+(if(d&& !dn)=true then 1 else 0)∧(dn=true→d=true)∧ ∀x,has o x=(has out x||has l x||((d&& !dn)&&(m==x))):=by
 refine cH (l:=l) (C:=fun k r=> ∀(out:List Str)(dn:Bool),out.length+r.length+(if dn=true then 0 else 1)≤2097152→ ∃o d,mR more l i out dn (k:Int)=some (o,d)∧o.length≤out.length+r.length+(if(d&& !dn)=true then 1 else 0)∧(dn=true→d=true)∧ ∀x,has o x=(has out x||has r x||((d&& !dn)&&(m==x)))) (by omega) (fun hd=> ?_) fun k y r _ _ _ hlt hi hw ih=> ?_
 ·intro out dn _;rw [mR,hd];refine⟨out,dn,rfl,by simp,id,fun x=> ?_⟩;cases dn<;>simp [has]
 ·intro out dn ho;simp only [List.length_cons] at ho;have ho':out.length+(r.length+1)≤2097152:=by omega
  rw [mR,if_pos hlt];simp only [nf,Option.bind_eq_bind,Option.bind_some,hi,hm,hw];have hc: ∀x,has (y::r) x=((y==x)||has r x):=fun x=>rfl;have h1: ∀(a:Str) x,has [a] x=(a==x):=fun a x=>by simp [has]
  by_cases hb:(!dn&&Op.bytesLess m y)=true
  ·rw [Bool.and_eq_true] at hb;obtain⟨hb1,hb2⟩:=hb;have hdn:dn=false:=by simpa using hb1
   subst hdn;obtain⟨o,d,g1,g2,g3,g4⟩:=ih ((out++ [m])++ [y]) true (by simp at ho⊢;omega);have hd1:=g3 rfl;subst hd1;refine⟨o,true,?_,?_,fun _=>rfl,fun x=> ?_⟩
   ·rw [←g1];simp only [Bool.not_false,if_true,hb2,Option.bind_some,aJ2 (a:=out) (b:= [m]) (by simp;omega),aJ2 (a:=out++ [m]) (b:= [y]) (by simp;omega)]
   ·simp at g2⊢;omega
   ·rw [g4,wH,wH,h1,h1,hc];cases has out x<;>cases has r x<;>cases (y==x)<;>cases (m==x)<;>rfl
  ·have hb':(if(!dn)=true then some (Op.bytesLess m y) else some false:Option Bool)=some false:=by
    cases dn with
    |true=>rfl
    |false=>cases hq:Op.bytesLess m y with
     |true=>rw [hq] at hb;exact absurd rfl hb
     |false=>rfl
   obtain⟨o,d,g1,g2,g3,g4⟩:=ih (out++ [y]) dn (by simp only [List.length_append,List.length_singleton];omega);refine⟨o,d,?_,?_,g3,fun x=> ?_⟩
   ·rw [←g1,hb'];simp only [Bool.false_eq_true,if_false,Option.bind_some,aJ2 (a:=out) (b:= [y]) (by simp;omega)]
   ·simp at g2⊢;omega
   ·rw [g4,wH,h1,hc];cases has out x<;>cases has r x<;>cases (y==x)<;>cases (m==x)<;>cases d<;>cases dn<;>rfl
theorem aTv(l more:List Str)(hl:l.length+more.length≤1048576): ∃o,zZ l more=some o∧o.length≤l.length+more.length∧ ∀x,has o x=(has l x||has more x):=by
 have loop: ∀l:List Str,l.length+more.length≤1048576→ ∃o,kE more l ((0:Nat):Int)=some o∧o.length≤l.length+more.length∧ ∀x,has o x=(has l x||has more x):=by
  refine cH (l:=more) (C:=fun k r=> ∀l:List Str,l.length+r.length≤1048576→ ∃o,kE more l (k:Int)=some o∧o.length≤l.length+r.length∧ ∀x,has o x=(has l x||has r x)) (by omega) (fun hd=> ?_) fun k y r _ _ _ hlt hi hw ih=> ?_
  ·intro l _;rw [kE,hd];exact⟨l,rfl,by simp,fun x=>by simp [has]⟩
  ·intro l hl;simp only [List.length_cons] at hl;have hc: ∀x,has (y::r) x=((y==x)||has r x):=fun x=>rfl;have h1: ∀(a:Str) x,has [a] x=(a==x):=fun a x=>by simp [has]
   rw [kE,if_pos hlt,hi];simp only [nf,Option.bind_eq_bind,Option.bind_some,iB l y (by omega),hw,hi];cases hh:has l y with
   |true=>
    obtain⟨o,g1,g2,g3⟩:=ih l (by omega);refine⟨o,g1,by simp;omega,fun x=> ?_⟩;rw [g3,hc];by_cases hx:y=x
    ·subst hx;rw [hh];simp
    ·have:(y==x)=false:=by simpa using hx
     rw [this,Bool.false_or]
   |false=>
    obtain⟨o,d,g1,g2,_,g4⟩:=aNT more l (k:Int) y hi (by omega) [] false (by simp;omega);simp only [Bool.false_eq_true,if_false,g1,Option.bind_some];cases d with
    |true=>
     simp at g2;obtain⟨o2,f1,f2,f3⟩:=ih o (by omega);refine⟨o2,by simpa using f1,by simp;omega,fun x=> ?_⟩;rw [f3,g4,hc];have:has [] x=false:=rfl;rw [this];cases has l x<;>cases (y==x)<;>cases has r x<;>rfl
    |false=>
     simp at g2;obtain⟨o2,f1,f2,f3⟩:=ih (o++ [y]) (by simp;omega);refine⟨o2,?_,by simp at f2⊢;omega,fun x=> ?_⟩
     ·simp only [Bool.not_false,if_true,aJ2 (a:=o) (b:= [y]) (by simp;omega),Option.bind_some];exact f1
     ·rw [f3,wH,g4,h1,hc];have:has [] x=false:=rfl;rw [this];cases has l x<;>cases (y==x)<;>cases has r x<;>rfl
 obtain⟨o,h1,h2,h3⟩:=loop l hl;refine⟨o,?_,h2,h3⟩;rw [zZ,show(0:Int)=((0:Nat):Int) from rfl,h1]
 rfl
theorem wT: ∀a b:List Expr,eA (a++b)=eA a+eA b
 | [],b=>by simp [eA]
 |y::r,b=>by simp only [List.cons_append,eA,wT r b];omega
theorem aEn: ∀a:List Arm,eA (a.map Arm.body)≤vK a
 | []=>by simp [eA,vK]
 |y::r=>by have:=aEn r;simp only [List.map_cons,eA,vK,aBk];omega
theorem tN(e:Expr):eA (parts e)<bH e:=by
 have:=aEn e.aT;rw [parts,wT,rO e];omega
theorem aFY: ∀(n:Nat)(e:Expr),bH e≤n→WF e→ ∃o,mQ e=some o∧o.length≤bH e∧ ∀k,k≠ []→has o k=(iG k e).isSome
 |0,e,h=>by have:=bQ e;omega
 |n+1,e,h=>by
  intro hw;have hlen:=hw.1.lens;have hfit:bH e≤1048576:=hw.1;have hbp:=tN e;have loop: ∀out:List Str,out.length+eA (parts e)≤1048576→ ∃o,iS e (parts e) out ((0:Nat):Int)=some o∧o.length≤out.length+eA (parts e)∧ ∀k,k≠ []→has o k=(has out k||(bZ (fun i y=>if has (bJ e i) k=true then none else iG k y) 0 (parts e)).isSome):=by
   refine cH (l:=parts e) (C:=fun j r=> ∀out:List Str,out.length+eA r≤1048576→ ∃o,iS e (parts e) out (j:Int)=some o∧o.length≤out.length+eA r∧ ∀k,k≠ []→has o k=(has out k||(bZ (fun i y=>if has (bJ e i) k=true then none else iG k y) j r).isSome)) (by rw [gQ];omega) (fun hl=> ?_) fun j y r hdr hj hy hlt hi hws ih=> ?_
   ·intro out _;rw [iS,hl];exact⟨out,rfl,by simp,fun k _=>by simp [bZ]⟩
   ·intro out ho;simp only [eA] at ho;obtain⟨f,f1,f2,f3⟩:=aFY n y (by have:=bK hy;omega) (hw.part hy);have hbl:=aF8 hw j;have hbl2:(bJ e j).length≤2097152:=by
     unfold bJ;split
     ·split
      ·rename_i a ha;have:=(qW hw.1 (List.mem_of_getElem? ha)).2.1;omega
      ·simp
     ·repeat' split
      all_goals (first|(simp;done)|(simp only [List.length_take];omega)|omega)
    have hyb:=bK hy;obtain⟨m,m1,m2,m3⟩:=aPx f (bJ e j) (by omega) hbl2;obtain⟨a,a1,a2,a3⟩:=aTv out m (by omega);obtain⟨o,o1,o2,o3⟩:=ih a (by omega);refine⟨o,?_,by simp only [eA];omega,fun k hk=> ?_⟩
    ·rw [iS,if_pos hlt,hi];simp only [nf,Option.bind_eq_bind,Option.bind_some,f1,aBz hw hj,m1,a1,hws];exact o1
    ·rw [o3 k hk,a3,m3,f3 k hk];simp only [bZ];cases has (bJ e j) k with
     |true=>simp
     |false=>
      cases iG k y with
      |none=>simp
      |some p=>simp
  rw [mQ];simp only [aCM,Option.bind_eq_bind,Option.bind_some,nK hw.1];generalize hS:(if(e.kind==0||e.kind==18||e.kind==19)=true then e.s else [])=S;have hSk: ∀k,k≠ []→(S==k)=isV e k:=fun k hk=>by rw [←hS];exact aFh e hk
  have fin: ∀out:List Str,out.length≤1→(∀k,k≠ []→has out k=isV e k)→ ∃o,((iS e (parts e) out 0).bind fun o14=>some o14)=some o∧o.length≤bH e∧ ∀k,k≠ []→has o k=(iG k e).isSome:=by
   intro out h1 h2;obtain⟨o,o1,o2,o3⟩:=loop out (by omega);rw [show((0:Nat):Int)=0 from rfl] at o1;refine⟨o,by rw [o1];rfl,by omega,fun k hk=> ?_⟩;rw [o3 k hk,h2 k hk,aL5];cases isV e k<;>simp
  cases hS2:(S==([]:Str)) with
  |true=>
   simp only [Bool.not_true,Bool.false_eq_true,if_false,Option.bind_some];refine fin [] (by simp) fun k hk=> ?_;rw [←hSk k hk];have:S= []:=by simpa using hS2
   subst this;cases k with
   |nil=>exact absurd rfl hk
   |cons=>rfl
  |false=>
   simp only [Bool.not_false,if_true,Option.bind_some];refine fin [S] (by simp) fun k hk=> ?_;rw [←hSk k hk];simp [has]
theorem aNa{e:Expr}(h:WF e){k:Str}(hk:k≠ []):tS e k=some (iG k e).isSome:=by
 obtain⟨o,h1,h2,h3⟩:=aFY _ e (Nat.le_refl _) h;have hfit:bH e≤1048576:=h.1;rw [tS,h1];simp only [Option.bind_eq_bind,Option.bind_some,iB o k (by omega),h3 k hk]
abbrev qB:=List (List Int×Bool)
abbrev LR:=Ctl qB (List Int)
def jB(e:Expr)(k:Str):Bool:=(e.kind==18||e.kind==19)&&e.s==k
def kI(k:Str)(e:Expr):LR:=match bZ (fun _ y=>dZ k false false y) 0 (parts e) with
 |some p=> .nx p
 |none=> .ret [([],e.kind==18)]
def nR(i:Int):LR→LR
 | .ret s=> .ret (s.map fun q=>(i::q.1,q.2))
 | .nx p=> .nx (i::p)
def zL(a b:LR):LR:=match a with
 | .nx p=> .nx p
 | .ret s=>match b with| .nx p=> .nx p| .ret t=> .ret (s++t)
def oB(f:Nat→Expr→LR):Nat→List Expr→LR
 |_,[]=> .ret []
 |i,y::r=>zL (f i y) (oB f (i+1) r)
def nM(k:Str)(e:Expr)(f:Expr→LR):LR:=
 if jB e k=true then kI k e
 else if e.kind=6 then(match e.l with
  | [d,b]=>
   if jB d k=true then(match kI k d with
    | .nx p=> .nx (0::p)
    | .ret s=>match(if has e.names k=true then none else iG k b) with
     |some p=> .nx (1::p)
     |none=>nR 0 (.ret s))
   else(match dZ k false false d with
    |some p=> .nx (0::p)
    |none=>if has e.names k=true then .nx [] else nR 1 (f b))
  |_=> .nx [])
 else if e.kind=8 then(match e.l with
  | [c,a,b]=>(match dZ k false false c with
   |some p=> .nx (0::p)
   |none=>zL (nR 1 (f a)) (nR 2 (f b)))
  |_=> .nx [])
 else if e.kind=11 then(match e.l with
  | [m]=>(match dZ k false false m with
   |some p=> .nx (0::p)
   |none=>oB (fun i y=>if has (bJ e i) k=true then .nx [(i:Int)] else nR i (f y)) 1 (e.aT.map Arm.body))
  |_=> .nx [])
 else if e.kind=14∨e.kind=15∨e.kind=16 then(match e.l with
  | [b]=>(match nR 0 (f b) with
   | .nx p=> .nx p
   | .ret s=>match bZ (fun i y=>if has (bJ e i) k=true then none else iG k y) 1 (e.aT.map Arm.body) with
    |some p=> .nx p
    |none=> .ret s)
  |_=> .nx [])
 else .nx []
theorem aFn{f g:Nat→Expr→LR}: ∀{l:List Expr}{i:Nat}(_: ∀y∈l,∀j,f j y=g j y),oB f i l=oB g i l
 | [],_,_=>rfl
 |y::r,i,h=>by
  simp only [oB];rw [h y (.head _) i,aFn (l:=r) (i:=i+1) fun z hz=>h z (.tail _ hz)]
theorem aC3{k:Str}{e:Expr}{f g:Expr→LR}(h: ∀y∈parts e,f y=g y):nM k e f=nM k e g:=by
 have hl: ∀y∈e.l,f y=g y:=fun y hy=>h y (o0 hy);have ha: ∀y∈e.aT.map Arm.body,f y=g y:=fun y hy=>h y (List.mem_append_right _ hy);unfold nM;split
 ·rfl
 split
 ·split
  ·rename_i d b he;rw [hl b (by rw [he];simp)]
  ·rfl
 split
 ·split
  ·rename_i c a b he;rw [hl a (by rw [he];simp),hl b (by rw [he];simp)]
  ·rfl
 split
 ·split
  ·rw [aFn fun y hy j=>by rw [ha y hy]]
  ·rfl
 split
 ·split
  ·rename_i b he;rw [hl b (by rw [he];simp)]
  ·rfl
 rfl
def aCT:Nat→Str→Expr→LR
 |0,_,_=> .nx []
 |n+1,k,e=>nM k e (aCT n k)
theorem aEp: ∀(n:Nat)(k:Str)(e:Expr),bH e≤n→aCT (n+1) k e=aCT n k e
 |0,k,e,h=>by have:=bQ e;omega
 |n+1,k,e,h=>by
  rw [aCT,aCT];exact aC3 fun y hy=>aEp n k y (by have:=bK hy;omega)
def cT(k:Str)(e:Expr):LR:=aCT (bH e) k e
theorem aKy: ∀(n:Nat)(k:Str)(e:Expr),bH e≤n→aCT n k e=cT k e
 |0,k,e,h=>by have:=bQ e;omega
 |n+1,k,e,h=>by
  by_cases h':bH e=n+1
  ·rw [cT,h']
  ·rw [aEp n k e (by omega)];exact aKy n k e (by omega)
theorem look_eq(k:Str)(e:Expr):cT k e=nM k e (cT k):=by
 obtain⟨n,hn⟩: ∃n,bH e=n+1:=⟨bH e-1,by have:=bQ e;omega⟩
 rw [cT,hn,aCT];exact aC3 fun y hy=>aKy n k y (by have:=bK hy;omega)
def qK(path:List Int)(c3:List (List Int))(c4 c5:Int):LR→Ctl (List (List Int)×Int×Int) Pan
 | .ret s=> .ret (c3++s.map (fun q=>path++q.1),c4+(s.countP (·.2):Nat),c5+(s.countP (!·.2):Nat))
 | .nx p=> .nx (.aAi ⟨path++p⟩)
theorem aGA(e:Expr)(path:List Int)(k:Str)(c3:List (List Int))(c4 c5:Int):eK ⟨e,path⟩ k c3 c4 c5=some (jB e k):=by
 rw [eK,jB];show(if(e.kind==18)=true then some true else some (e.kind==19):Option Bool).bind (fun c6=>(if c6=true then some (e.s==k) else some false:Option Bool).bind fun c7=>some c7)=_;cases (e.kind==18)<;>cases (e.kind==19)<;>cases (e.s==k)<;>rfl
theorem sN(p:List Int)(b:Bool):g6 p b=some (if b=true then .nx (.aAi ⟨p⟩) else .ret ()):=by
 rw [g6];cases b<;>rfl
theorem aNH{e:Expr}(hw:WF e)(k:Str)(path:List Int)(hp:Deep e path)(c3:List (List Int))(c4 c5:Int)(h3:c3.length≤3000000)(h4:0≤c4∧c4≤3000000)(h5:0≤c5∧c5≤3000000):eY ⟨e,path⟩ k c3 c4 c5=some (qK path c3 c4 c5 (kI k e)):=by
 have hlen:=hw.1.lens;have hsum:IntKind.wrap .i64 (((aE.mk e path).expr.l.length:Int)+((aE.mk e path).expr.aT.length:Int))=((parts e).length:Int):=hw.1.sum;have loop: ∀c:List (List Int),cA ⟨e,path⟩ k c4 c5 ⟨e,path⟩ c ((0:Nat):Int) none c=some (match bZ (fun _ y=>dZ k false false y) 0 (parts e) with|some p=> .nx (.ret (.aAi ⟨path++p⟩))|none=> .nx (.nx (none,c))):=by
  intro c;refine cH (l:=parts e) (C:=fun j r=>cA ⟨e,path⟩ k c4 c5 ⟨e,path⟩ c (j:Int) none c=some (match bZ (fun _ y=>dZ k false false y) j r with|some p=> .nx (.ret (.aAi ⟨path++p⟩))|none=> .nx (.nx (none,c)))) (by rw [gQ];omega) (fun hl=> ?_) fun j y r hdr hk hy hlt _ hws ih=> ?_
  ·rw [cA,hsum,hl];rfl
  ·have hy':=wD hdr;have hl:=m8 _ y (Nat.le_refl _) (hw.part hy') k false false (path++ [(j:Int)]) (g9 hp hy' _);rw [cA,hsum,if_pos hlt,oE hw.1 hp hdr];simp only [nf,gW,hl,sN,Option.bind_eq_bind,Option.bind_some,hws,bZ];cases dZ k false false y with
   |none=>exact ih
   |some p=>exact congrArg (fun z=>some (Ctl.nx (Ctl.ret (Pan.aAi ⟨z⟩)))) (zF path j p)
 have h4':(bP ⟨e,path⟩)=some ⟨e,path⟩:=by rw [bP]
 have hl:=loop c3;rw [show((0:Nat):Int)=0 from rfl] at hl;rw [eY,h4'];simp only [Option.bind_eq_bind,Option.bind_some,gV,hl,kI];cases bZ (fun _ y=>dZ k false false y) 0 (parts e) with
 |some p=>rfl
 |none=>
  have ha:app 24 c3 [path]=some (c3++ [path]):=aCf (by rw [rZ];simp only [List.length_singleton];omega) (by rw [rZ];simp only [List.length_singleton];omega);have w4:IntKind.wrap .i64 (c4+1)=c4+1:=wrap64 (by omega) (by omega);have w5:IntKind.wrap .i64 (c5+1)=c5+1:=wrap64 (by omega) (by omega);show(app 24 c3 [path]).bind _=_;rw [ha,w4,w5];show(if(e.kind==18)=true then some (Ctl.ret (c3++ [path],c4+1,c5)) else some (Ctl.ret (c3++ [path],c4,c5+1)))=_;cases (e.kind==18)<;>simp [qK]
theorem vY(path:List Int)(c3:List (List Int))(c4 c5:Int)(i:Int)(r:LR):qK path c3 c4 c5 (nR i r)=qK (path++ [i]) c3 c4 c5 r:=by
 cases r with
 |nx p=>simp [qK,nR]
 |ret s=>
  simp only [qK,nR,List.map_map,List.countP_map]
  congr 2
  congr 1
  refine List.map_congr_left fun q _=> ?_;simp
theorem aGd(path:List Int)(c3:List (List Int))(c4 c5:Int)(s:qB)(b:LR):qK path c3 c4 c5 (zL (.ret s) b)=qK path (c3++s.map (fun q=>path++q.1)) (c4+(s.countP (·.2):Nat)) (c5+(s.countP (!·.2):Nat)) b:=by
 cases b with
 |nx p=>rfl
 |ret t=>
  simp only [qK,zL,List.map_append,List.countP_append,List.append_assoc]
  congr 2
  congr 1
  ·omega
  ·omega
def kZ:LR→Nat
 | .ret s=>s.length
 | .nx _=>0
theorem tE(i:Int)(r:LR):kZ (nR i r)=kZ r:=by cases r<;>simp [kZ,nR]
theorem aGl(a b:LR):kZ (zL a b)≤kZ a+kZ b:=by
 cases a with
 |nx p=>simp [kZ,zL]
 |ret s=>cases b<;>simp [kZ,zL]
theorem aGy(k:Str)(e:Expr):kZ (kI k e)≤1:=by
 unfold kI;split<;>simp [kZ]
theorem aIR{f:Nat→Expr→LR}: ∀{l:List Expr}{i:Nat}(_: ∀y∈l,∀j,kZ (f j y)≤bH y),kZ (oB f i l)≤eA l
 | [],i,_=>by simp [oB,kZ]
 |y::r,i,h=>by
  have h1:=h y (.head _) i;have h2:=aIR (l:=r) (i:=i+1) fun z hz=>h z (.tail _ hz);have:=aGl (f i y) (oB f (i+1) r);simp only [oB,eA];omega
theorem vR: ∀(n:Nat)(k:Str)(e:Expr),bH e≤n→kZ (cT k e)≤bH e
 |0,k,e,h=>by have:=bQ e;omega
 |n+1,k,e,h=>by
  have hpos:=bQ e;have hbp:=tN e;have IH: ∀y∈parts e,kZ (cT k y)≤bH y:=fun y hy=>vR n k y (by have:=bK hy;omega);have hsub: ∀y∈e.l,bH y<bH e:=fun y hy=>bK (o0 hy);rw [look_eq,nM];split
  ·have:=aGy k e;omega
  split
  ·split
   ·rename_i d b he;split
    ·have h1:=aGy k d;cases hs:kI k d with
     |nx p=>simp [kZ]
     |ret s=>
      rw [hs] at h1;simp only [kZ] at h1;simp only [];split
      ·simp [kZ]
      ·simp [kZ,nR];omega
    ·split
     ·simp [kZ]
     ·split
      ·simp [kZ]
      ·rw [tE];have:=IH b (o0 (by rw [he];simp));have:=hsub b (by rw [he];simp);omega
   ·simp [kZ]
  split
  ·split
   ·rename_i c a b he;split
    ·simp [kZ]
    ·have h1:=IH a (o0 (by rw [he];simp));have h2:=IH b (o0 (by rw [he];simp));have h3:=aGl (nR 1 (cT k a)) (nR 2 (cT k b));rw [tE,tE] at h3;have h4:eA e.l<bH e:=by rw [rO];omega
     rw [he] at h4;simp only [eA] at h4;omega
   ·simp [kZ]
  split
  ·split
   ·split
    ·simp [kZ]
    ·have h5:=aIR (f:=fun i y=>if has (bJ e i) k=true then .nx [(i:Int)] else nR i (cT k y)) (l:=e.aT.map Arm.body) (i:=1) (fun y hy j=>by
      split
      ·simp [kZ]
      ·rw [tE];exact IH y (List.mem_append_right _ hy))
     have h6:eA (e.aT.map Arm.body)≤eA (parts e):=by rw [parts,wT];omega
     omega
   ·simp [kZ]
  split
  ·split
   ·rename_i b he;have h1:=IH b (o0 (by rw [he];simp));have h2:=hsub b (by rw [he];simp);rw [←tE 0] at h1;cases hq:nR 0 (cT k b) with
    |nx p=>simp [kZ]
    |ret s=>
     rw [hq] at h1;simp only [];split
     ·simp [kZ]
     ·simp only [kZ] at h1⊢;omega
   ·simp [kZ]
  simp [kZ]
theorem count_le(s:qB):s.countP (·.2)≤s.length∧s.countP (!·.2)≤s.length:=⟨List.countP_le_length,List.countP_le_length⟩
structure Small(c3:List (List Int))(c4 c5:Int)(n:Nat):Prop where
 a:c3.length+n≤2000000
 b0:0≤c4
 b:c4+n≤2000000
 c0:0≤c5
 c:c5+n≤2000000
theorem Small.less{c3:List (List Int)}{c4 c5:Int}{n m:Nat}(h:Small c3 c4 c5 n)(hm:m≤n):Small c3 c4 c5 m:=⟨by have:=h.a;omega,h.b0,by have:=h.b;omega,h.c0,by have:=h.c;omega⟩
theorem Small.step{c3:List (List Int)}{c4 c5:Int}{n m:Nat}{path:List Int}{s:qB}(h:Small c3 c4 c5 n)(hm:s.length+m≤n):Small (c3++s.map (fun q=>path++q.1)) (c4+(s.countP (·.2):Nat)) (c5+(s.countP (!·.2):Nat)) m:=by
 obtain⟨h1,h2⟩:=count_le s;exact⟨by have:=h.a;simp;omega,by have:=h.b0;omega,by have:=h.b;omega,by have:=h.c0;omega,by have:=h.c;omega⟩
theorem Small.site{c3:List (List Int)}{c4 c5:Int}{n:Nat}(h:Small c3 c4 c5 n):c3.length≤3000000∧(0≤c4∧c4≤3000000)∧(0≤c5∧c5≤3000000):=⟨by have:=h.a;omega,⟨h.b0,by have:=h.b;omega⟩,⟨h.c0,by have:=h.c;omega⟩⟩
abbrev R3:=List (List Int)×Int×Int
theorem aGW(X:Ctl R3 Pan):(match X with| .ret r=>some (Ctl.ret (r.1,r.2.1,r.2.2))| .nx p=>some (.nx p))=some X:=by cases X<;>rfl
def aCx(k:Str)(y:Expr):Prop:= ∀(path:List Int)(c3:List (List Int))(c4 c5:Int),Deep y path→Small c3 c4 c5 (bH y)→cK ⟨y,path⟩ k c3 c4 c5=some (qK path c3 c4 c5 (cT k y))
theorem lW{e:Expr}(h:e.aT= []):parts e=e.l:=by rw [parts,h];simp
theorem aRF{α:Type}{l:List α}(h:l.length=2): ∃x y,l= [x,y]:=by
 match l,h with
 | [x,y],_=>exact⟨x,y,rfl⟩
theorem aRm{α:Type}{l:List α}(h:l.length=3): ∃x y z,l= [x,y,z]:=by
 match l,h with
 | [x,y,z],_=>exact⟨x,y,z,rfl⟩
theorem aJX(path:List Int)(c3:List (List Int))(c4 c5:Int)(i:Int)(p:List Int):(Ctl.nx (Pan.aAi ⟨(path++ [i])++p⟩):Ctl R3 Pan)=qK path c3 c4 c5 (.nx (i::p)):=by rw [zF];rfl
theorem aIV(path:List Int)(c3:List (List Int))(c4 c5:Int)(s:qB):qK path c3 c4 c5 (.ret s)= .ret (c3++s.map (fun q=>path++q.1),c4+(s.countP (·.2):Nat),c5+(s.countP (!·.2):Nat)):=rfl
theorem aUd{e:Expr}(hw:WF e)(h6:e.kind=6)(k:Str)(IH: ∀y∈parts e,aCx k y)(path:List Int)(c3:List (List Int))(c4 c5:Int)(hp:Deep e path)(hs:Small c3 c4 c5 (bH e))(he:jB e k=false):
  jV ⟨e,path⟩ k c3 c4 c5=some (qK path c3 c4 c5 (cT k e)):=by
 obtain⟨n1,n2,n3⟩:=hw.aPq h6;obtain⟨x,hx⟩:=aBy n1;obtain⟨d,b,hl⟩:=aRF n2;have hpt:parts e= [d,b]:=(lW n3).trans hl;have hd:d∈parts e:=by rw [hpt];simp
 have hb:b∈parts e:=by rw [hpt];simp
 have p0:bF ⟨e,path⟩ 0=some ⟨d,path++ [0]⟩:=oE hw.1 hp (k:=0) (r:= [b]) (by rw [hpt];rfl);have p1:bF ⟨e,path⟩ 1=some ⟨b,path++ [1]⟩:=oE hw.1 hp (k:=1) (r:= []) (by rw [hpt];rfl);have hxn:idx (aE.mk e path).expr.names 0=some x:=by show idx e.names 0=some x;rw [hx];rfl
 have hh:has e.names k=(x==k):=by rw [hx];simp [has]
 obtain⟨s1,s2,s3⟩:=hs.site;rw [look_eq,nM,he,if_neg (by simp),if_pos h6,hl];rw [jV];simp only [p0,p1,aGA,Option.bind_eq_bind,Option.bind_some];cases hed:jB d k with
 |true=>
  simp only [if_true,aNH (hw.part hd) k (path++ [0]) (g9 hp hd 0) c3 c4 c5 s1 s2 s3,Option.bind_some,hh];cases hsv:kI k d with
  |nx p=>exact congrArg some (aJX path c3 c4 c5 0 p)
  |ret s=>
   simp only [qK];show(idx (aE.mk e path).expr.names 0).bind _=_;rw [hxn];simp only [Option.bind_some,tL _ b (Nat.le_refl _) (hw.part hb) k (path++ [1]) (g9 hp hb 1),sN];have hret:(some (Ctl.ret (c3++List.map (fun q=>(path++ [0])++q.1) s,c4+(s.countP (·.2):Nat),c5+(s.countP (!·.2):Nat))):Option (Ctl R3 Pan))=some (qK path c3 c4 c5 (nR 0 (.ret s))):=by rw [vY];rfl
   cases (x==k) with
   |true=>exact hret
   |false=>
    cases iG k b with
    |none=>exact hret
    |some p=>exact congrArg some (aJX path c3 c4 c5 1 p)
 |false=>
  simp only [Bool.false_eq_true,if_false,oF,iQ,iN,m8 _ d (Nat.le_refl _) (hw.part hd) k false false (path++ [0]) (g9 hp hd 0),hxn,Option.bind_eq_bind,Option.bind_some,hh];cases dZ k false false d with
  |some p=>
   simp only [sA,if_true,Option.bind_some,sN];exact congrArg some (aJX path c3 c4 c5 0 p)
  |none=>
   simp only [sA,Bool.false_eq_true,if_false,Option.bind_some];cases (x==k) with
   |true=>
    simp only [if_true,Option.bind_some,sN,qK,List.append_nil]
   |false=>
    have hbb:=bK hb;simp only [Bool.false_eq_true,if_false,Option.bind_some,sN,nf,IH b hb (path++ [1]) c3 c4 c5 (g9 hp hb 1) (hs.less (by omega)),vY];exact aGW _
theorem aNW{e:Expr}(hw:WF e)(h8:e.kind=8)(k:Str)(IH: ∀y∈parts e,aCx k y)(path:List Int)(c3:List (List Int))(c4 c5:Int)(hp:Deep e path)(hs:Small c3 c4 c5 (bH e))(he:jB e k=false):
  hY ⟨e,path⟩ k c3 c4 c5=some (qK path c3 c4 c5 (cT k e)):=by
 obtain⟨n2,n3⟩:=hw.if_ h8;obtain⟨c,a,b,hl⟩:=aRm n2;have hpt:parts e= [c,a,b]:=(lW n3).trans hl;have hc:c∈parts e:=by rw [hpt];simp
 have ha:a∈parts e:=by rw [hpt];simp
 have hb:b∈parts e:=by rw [hpt];simp
 have p0:bF ⟨e,path⟩ 0=some ⟨c,path++ [0]⟩:=oE hw.1 hp (k:=0) (r:= [a,b]) (by rw [hpt];rfl);have p1:bF ⟨e,path⟩ 1=some ⟨a,path++ [1]⟩:=oE hw.1 hp (k:=1) (r:= [b]) (by rw [hpt];rfl);have p2:bF ⟨e,path⟩ 2=some ⟨b,path++ [2]⟩:=oE hw.1 hp (k:=2) (r:= []) (by rw [hpt];rfl);have hbp:=tN e;rw [hpt] at hbp;simp only [eA] at hbp;rw [look_eq,nM,he,if_neg (by simp),if_neg (by omega),if_pos h8,hl];rw [hY];simp only [p0,p1,p2,m8 _ c (Nat.le_refl _) (hw.part hc) k false false (path++ [0]) (g9 hp hc 0),Option.bind_eq_bind,Option.bind_some,sN];cases dZ k false false c with
 |some p=>
  simp only [sA,if_true];exact congrArg some (aJX path c3 c4 c5 0 p)
 |none=>
  simp only [sA,Bool.false_eq_true,if_false,nf,IH a ha (path++ [1]) c3 c4 c5 (g9 hp ha 1) (hs.less (by omega)),Option.bind_some];rw [←vY];have hlen:=vR _ k a (Nat.le_refl _);rw [←tE 1] at hlen;cases hq:nR 1 (cT k a) with
  |nx p=>rfl
  |ret s=>
   rw [hq] at hlen;simp only [kZ] at hlen;rw [aGd,vY];simp only [aIV,IH b hb (path++ [2]) _ _ _ (g9 hp hb 2) (hs.step (path:=path) (s:=s) (m:=bH b) (by omega)),Option.bind_some];exact aGW _
def aBU(f:Nat→Expr→LR)(i:Nat)(y:Expr):LR:=if i=0 then .ret [] else f i y
theorem aGf(f:Nat→Expr→LR): ∀(l:List Expr)(i:Nat),oB (aBU f) (i+1) l=oB f (i+1) l
 | [],_=>rfl
 |y::r,i=>by
  simp only [oB];rw [aGf f r (i+1)]
  rfl
theorem aOd(r:LR):zL (.ret []) r=r:=by cases r<;>rfl
theorem aOz(f:Nat→Expr→LR)(m:Expr)(l:List Expr):oB (aBU f) 0 (m::l)=oB f 1 l:=by
 simp only [oB];rw [aGf f l 0];exact aOd _
theorem aQL{e:Expr}(hw:WF e)(h11:e.kind=11)(k:Str)(IH: ∀y∈parts e,aCx k y)(path:List Int)(c3:List (List Int))(c4 c5:Int)(hp:Deep e path)(hs:Small c3 c4 c5 (bH e))(he:jB e k=false):
  iP ⟨e,path⟩ k c3 c4 c5=some (qK path c3 c4 c5 (cT k e)):=by
 have hlens:=hw.1.lens;obtain⟨m,hl⟩:=aBy (hw.aG7 h11);have hpt:parts e=m::e.aT.map Arm.body:=by rw [parts,hl];rfl
 have hm:m∈parts e:=by rw [hpt];simp
 have p0:bF ⟨e,path⟩ 0=some ⟨m,path++ [0]⟩:=oE hw.1 hp (k:=0) (r:=e.aT.map Arm.body) (by rw [hpt];rfl);have hbp:=tN e;have hsum:IntKind.wrap .i64 (((aE.mk e path).expr.l.length:Int)+((aE.mk e path).expr.aT.length:Int))=((parts e).length:Int):=hw.1.sum;rw [look_eq,nM,he,if_neg (by simp),if_neg (by omega),if_neg (by omega),if_pos h11,hl];generalize hF:(fun(i:Nat)(y:Expr)=>if has (bJ e i) k=true then(Ctl.nx [(i:Int)]:LR) else nR i (cT k y))=F;have hFlen: ∀y∈parts e,∀j,kZ (aBU F j y)≤bH y:=by
  intro y hy j;unfold aBU;split
  ·simp [kZ]
  ·rw [←hF];simp only [];split
   ·simp [kZ]
   ·rw [tE];exact vR _ k y (Nat.le_refl _)
 have hround: ∀(j:Nat)(y:Expr)(r:List Expr)(c:List (List Int))(a b:Int),(parts e).drop j=y::r→Small c a b (bH y)→gM ⟨e,path⟩ k ⟨e,path⟩ (j:Int) ⟨y,path++ [(j:Int)]⟩ c a b=some (match qK path c a b (aBU F j y) with| .ret q=> .ret (none,q.1,q.2.1,q.2.2)| .nx p=> .nx p):=by
  intro j y r c a b hdr hsm;have hy:=wD hdr;rw [gM];have q0:((j:Int)==0)=decide (j=0):=aBS _ 0;rw [q0];unfold aBU;by_cases hj:j=0
  ·rw [decide_eq_true hj,if_pos hj];simp [qK]
  ·rw [decide_eq_false hj,if_neg hj,←hF];simp only [Bool.false_eq_true,if_false,aBv hw path k (aDQ hdr),Option.bind_eq_bind,Option.bind_some,sN,nf,IH y hy (path++ [(j:Int)]) c a b (g9 hp hy _) hsm];cases has (bJ e j) k with
   |true=>rfl
   |false=>
    simp only [Bool.false_eq_true,if_false,vY];cases qK (path++ [(j:Int)]) c a b (cT k y)<;>rfl
 have loop: ∀(c:List (List Int))(a b:Int),Small c a b (eA (parts e))→cL ⟨e,path⟩ k ⟨e,path⟩ c3 ((0:Nat):Int) none c a b=some (match qK path c a b (oB (aBU F) 0 (parts e)) with| .ret q=> .nx (.nx (none,q.1,q.2.1,q.2.2))| .nx p=> .nx (.ret p)):=by
  refine cH (l:=parts e) (C:=fun j r=> ∀(c:List (List Int))(a b:Int),Small c a b (eA r)→cL ⟨e,path⟩ k ⟨e,path⟩ c3 (j:Int) none c a b=some (match qK path c a b (oB (aBU F) j r) with| .ret q=> .nx (.nx (none,q.1,q.2.1,q.2.2))| .nx p=> .nx (.ret p))) (by rw [gQ];omega) (fun hl=> ?_) fun j y r hdr hk hy hlt _ hws ih=> ?_
  ·intro c a b _;rw [cL,hsum,hl];simp [oB,qK]
  ·intro c a b hsm;have hy':=wD hdr;simp only [eA] at hsm;rw [cL,hsum,if_pos hlt,oE hw.1 hp hdr];simp only [nf,hround j y r c a b hdr (hsm.less (by omega)),Option.bind_eq_bind,Option.bind_some,hws,oB];have hlen:=hFlen y hy' j;cases hq:aBU F j y with
   |nx p=>rfl
   |ret s=>
    rw [hq] at hlen;simp only [kZ] at hlen;rw [aGd];exact ih _ _ _ (hsm.step (path:=path) (s:=s) (m:=eA r) (by omega))
 have hl0:=loop c3 c4 c5 (hs.less (by omega));rw [hpt,aOz,show((0:Nat):Int)=0 from rfl] at hl0;have h4':(bP ⟨e,path⟩)=some ⟨e,path⟩:=by rw [bP]
 rw [iP];simp only [p0,m8 _ m (Nat.le_refl _) (hw.part hm) k false false (path++ [0]) (g9 hp hm 0),Option.bind_eq_bind,Option.bind_some,sN];cases dZ k false false m with
 |some p=>
  simp only [sA,if_true];exact congrArg some (aJX path c3 c4 c5 0 p)
 |none=>
  simp only [sA,Bool.false_eq_true,if_false,nf,h4',Option.bind_some,jK,hl0,Option.bind_eq_bind];cases qK path c3 c4 c5 (oB F 1 (e.aT.map Arm.body))<;>rfl
theorem aCh{e:Expr}(hw:WF e)(hk:e.kind=14∨e.kind=15∨e.kind=16)(k:Str)(IH: ∀y∈parts e,aCx k y)(path:List Int)(c3:List (List Int))(c4 c5:Int)(hp:Deep e path)(hs:Small c3 c4 c5 (bH e))(he:jB e k=false):
  dR ⟨e,path⟩ k c3 c4 c5=some (qK path c3 c4 c5 (cT k e)):=by
 have hlens:=hw.1.lens;obtain⟨b,hl⟩:=aBy (hw.aDR hk);have hpt:parts e=b::e.aT.map Arm.body:=by rw [parts,hl];rfl
 have hb:b∈parts e:=by rw [hpt];simp
 have p0:bF ⟨e,path⟩ 0=some ⟨b,path++ [0]⟩:=oE hw.1 hp (k:=0) (r:=e.aT.map Arm.body) (by rw [hpt];rfl);have hbb:=bK hb;have hsum:IntKind.wrap .i64 (((aE.mk e path).expr.l.length:Int)+((aE.mk e path).expr.aT.length:Int))=((parts e).length:Int):=hw.1.sum;rw [look_eq,nM,he,if_neg (by simp),if_neg (by omega),if_neg (by omega),if_neg (by omega),if_pos hk,hl];have sk: ∀(l:List Expr)(i:Nat),bZ (fun i y=>if(i=0∨has (bJ e i) k=true) then none else iG k y) (i+1) l=bZ (fun i y=>if has (bJ e i) k=true then none else iG k y) (i+1) l:=by
  intro l
  induction l with
  |nil=>intro i;rfl
  |cons y r ih=>
   intro i;simp only [bZ];rw [ih (i+1)];simp
 have loop: ∀(r7:R3)(c:List (List Int)),bU ⟨e,path⟩ k r7 ⟨e,path⟩ c ((0:Nat):Int) none c=some (match bZ (fun i y=>if(i=0∨has (bJ e i) k=true) then none else iG k y) 0 (parts e) with|some p=> .nx (.ret (.aAi ⟨path++p⟩))|none=> .nx (.nx (none,c))):=by
  intro r7 c;refine cH (l:=parts e) (C:=fun j r=>bU ⟨e,path⟩ k r7 ⟨e,path⟩ c (j:Int) none c=some (match bZ (fun i y=>if(i=0∨has (bJ e i) k=true) then none else iG k y) j r with|some p=> .nx (.ret (.aAi ⟨path++p⟩))|none=> .nx (.nx (none,c)))) (by rw [gQ];omega) (fun hl=> ?_) fun j y r hdr hj hy hlt _ hws ih=> ?_
  ·rw [bU,hsum,hl];rfl
  ·have hy':=wD hdr;have q0:((j:Int)==0)=decide (j=0):=aBS _ 0;rw [bU,hsum,if_pos hlt,oE hw.1 hp hdr];simp only [nf,gD,q0,aBv hw path k (aDQ hdr),tL _ y (Nat.le_refl _) (hw.part hy') k (path++ [(j:Int)]) (g9 hp hy' _),sN,Option.bind_eq_bind,Option.bind_some,hws,bZ];by_cases hj0:j=0
   ·have e1:(if(j=0∨has (bJ e j) k=true) then none else iG k y)=none:=if_pos (.inl hj0);rw [decide_eq_true hj0,e1];exact ih
   ·rw [decide_eq_false hj0];cases hh:has (bJ e j) k with
    |true=>
     have e1:(if(j=0∨true=true) then none else iG k y)=none:=if_pos (.inr rfl);rw [e1];exact ih
    |false=>
     have e1:(if(j=0∨false=true) then none else iG k y)=iG k y:=if_neg (by simp [hj0]);rw [e1];cases iG k y with
     |none=>exact ih
     |some p=>exact congrArg (fun z=>some (Ctl.nx (Ctl.ret (Pan.aAi ⟨z⟩)))) (zF path j p)
 have hl0: ∀(r7:R3)(c:List (List Int)),bU ⟨e,path⟩ k r7 ⟨e,path⟩ c 0 none c=some (match bZ (fun i y=>if has (bJ e i) k=true then none else iG k y) 1 (e.aT.map Arm.body) with|some p=> .nx (.ret (.aAi ⟨path++p⟩))|none=> .nx (.nx (none,c))):=by
  intro r7 c;have:=loop r7 c;rw [hpt,show((0:Nat):Int)=0 from rfl] at this;have e0:bZ (fun i y=>if(i=0∨has (bJ e i) k=true) then none else iG k y) 0 (b::e.aT.map Arm.body)=bZ (fun i y=>if has (bJ e i) k=true then none else iG k y) 1 (e.aT.map Arm.body):=by
   rw [←sk _ 0]
   rfl
  rw [e0] at this;exact this
 have h4':(bP ⟨e,path⟩)=some ⟨e,path⟩:=by rw [bP]
 rw [dR];simp only [p0,nf,IH b hb (path++ [0]) c3 c4 c5 (g9 hp hb 0) (hs.less (by omega)),Option.bind_eq_bind,Option.bind_some];rw [←vY];cases nR 0 (cT k b) with
 |nx p=>rfl
 |ret s=>
  simp only [aIV,h4',Option.bind_some,fT,hl0,Option.bind_eq_bind];cases bZ (fun i y=>if has (bJ e i) k=true then none else iG k y) 1 (e.aT.map Arm.body)<;>rfl
theorem aNo: ∀(n:Nat)(e:Expr),bH e≤n→WF e→ ∀k,aCx k e
 |0,e,h=>by have:=bQ e;omega
 |n+1,e,h=>by
  intro hw k path c3 c4 c5 hp hs;have IH: ∀y∈parts e,aCx k y:=fun y hy=>aNo n y (by have:=bK hy;omega) (hw.part hy) k;rw [cK];simp only [aGA,Option.bind_eq_bind,Option.bind_some];obtain⟨s1,s2,s3⟩:=hs.site;cases he:jB e k with
  |true=>
   have:cT k e=kI k e:=by rw [look_eq,nM,he,if_pos rfl]
   rw [this];simp only [if_true,aNH hw k path hp c3 c4 c5 s1 s2 s3,Option.bind_some];exact aGW _
  |false=>
   by_cases k6:e.kind=6
   ·simp only [nf,Bool.false_eq_true,if_false,k6,aUd hw k6 k IH path c3 c4 c5 hp hs he];exact aGW _
   by_cases k8:e.kind=8
   ·simp only [nf,Bool.false_eq_true,if_false,k8,aNW hw k8 k IH path c3 c4 c5 hp hs he];exact aGW _
   by_cases k11:e.kind=11
   ·simp only [nf,Bool.false_eq_true,if_false,k11,aQL hw k11 k IH path c3 c4 c5 hp hs he];exact aGW _
   by_cases k14:e.kind=14
   ·simp only [nf,Bool.false_eq_true,if_false,k14,aCh hw (.inl k14) k IH path c3 c4 c5 hp hs he];exact aGW _
   by_cases k15:e.kind=15
   ·simp only [nf,Bool.false_eq_true,if_false,k15,aCh hw (.inr (.inl k15)) k IH path c3 c4 c5 hp hs he];exact aGW _
   by_cases k16:e.kind=16
   ·simp only [nf,Bool.false_eq_true,if_false,k16,aCh hw (.inr (.inr k16)) k IH path c3 c4 c5 hp hs he];exact aGW _
   have:cT k e= .nx []:=by
    rw [look_eq,nM,he,if_neg (by simp),if_neg k6,if_neg k8,if_neg k11,if_neg (by omega)]
   rw [this];simp [k6,k8,k11,k14,k15,k16,qK]
def okV:LR→Bool
 | .ret _=>true
 | .nx _=>false
theorem aDS(i:Int)(r:LR):okV (nR i r)=okV r:=by cases r<;>rfl
theorem aIW(a b:LR):okV (zL a b)=(okV a&&okV b):=by
 cases a with
 |nx p=>rfl
 |ret s=>cases b<;>rfl
theorem aDL(e:Expr)(k:Str):pD e k=some (jB e k):=by
 rw [pD,jB];cases (e.kind==18)<;>cases (e.kind==19)<;>cases (e.s==k)<;>rfl
theorem wU{e:Expr}{k:Str}(h:jB e k=true):e.kind=18∨e.kind=19:=by
 unfold jB at h;rw [Bool.and_eq_true,Bool.or_eq_true] at h;rcases h.1 with h|h
 ·exact .inl (by simpa using h)
 ·exact .inr (by simpa using h)
theorem aBK{e:Expr}(hw:WF e)(h:e.kind=18)(k:Str): ∃a,e.l= [a]∧a∈parts e∧kI k e=match dZ k false false a with|some p=> .nx (0::p)|none=> .ret [([],true)]:=by
 obtain⟨n1,n2⟩:=hw.aRr h;obtain⟨a,ha⟩:=aBy n1;have hpt:parts e= [a]:=(lW n2).trans ha;refine⟨a,ha,by rw [hpt];simp,?_⟩;rw [kI,hpt];simp only [bZ];cases dZ k false false a with
 |none=>simp [h]
 |some p=>rfl
theorem aER{e:Expr}(hw:WF e)(h:e.kind=19)(k:Str):kI k e= .ret [([],false)]:=by
 obtain⟨n1,n2⟩:=hw.aU5 h;have hl:e.l= []:=List.length_eq_zero_iff.1 n1;have hpt:parts e= []:=(lW n2).trans hl;rw [kI,hpt];simp [bZ,h]
theorem y2{e:Expr}(hw:WF e){k:Str}(hk:k≠ []):rE e k=some (jB e k&&okV (kI k e)):=by
 rw [rE,aDL];cases he:jB e k with
 |false=>rfl
 |true=>
  rcases wU he with h|h
  ·obtain⟨a,ha,hm,hs⟩:=aBK hw h k;have e1:(e.kind==19)=false:=by simp [h]
   have e2:idx e.l 0=some a:=by rw [ha];rfl
   rw [hs];simp only [Option.bind_eq_bind,Option.bind_some,if_true,e1,e2,tQ (hw.part hm) hk,u5];cases dZ k false false a<;>rfl
  ·have e1:(e.kind==19)=true:=by simp [h]
   rw [aER hw h];simp only [Option.bind_eq_bind,Option.bind_some,if_true,e1]
   rfl
theorem aOv{e:Expr}{k:Str}(h:jB e k=true):dZ k false false e=some []:=by
 have hc:uG e.kind=false:=by
  rcases wU h with h|h<;>rw [h]<;>decide
 rw [zV,hc];cases isV e k<;>rfl
def tO(f:Arm→Bool):List Arm→Bool
 | []=>true
 |a::r=>f a&&tO f r
theorem aF0{f:Nat→Expr→LR}{g:Arm→Bool}: ∀(l:List Arm)(i:Nat)(_: ∀j a,l[j]?=some a→okV (f (i+j) a.body)=g a),okV (oB f i (l.map Arm.body))=tO g l
 | [],i,_=>rfl
 |a::r,i,h=>by
  have h0:okV (f i a.body)=g a:=h 0 a rfl;rw [List.map_cons,oB,aIW,tO,h0,aF0 r (i+1) fun j b hb=>by
   have:=h (j+1) b (by simpa using hb);rwa [show i+(j+1)=i+1+j by omega] at this]
theorem z9{e:Expr}{m:Expr}(hl:e.l= [m]){j:Nat}{a:Arm}(ha:e.aT[j]?=some a):bJ e (1+j)=a.names:=by
 unfold bJ;rw [hl,if_pos (by simp)];have:1+j- [m].length=j:=by simp
 rw [this,ha]
theorem aC9{f:Nat→Expr→Option (List Int)}{g:Arm→Bool}: ∀(l:List Arm)(i:Nat)(_: ∀j a,l[j]?=some a→(f (i+j) a.body).isNone=g a),(bZ f i (l.map Arm.body)).isNone=tO g l
 | [],i,_=>rfl
 |a::r,i,h=>by
  have h0:=h 0 a rfl;have ih:=aC9 r (i+1) fun j b hb=>by
   have:=h (j+1) b (by simpa using hb);rwa [show i+(j+1)=i+1+j by omega] at this
  rw [Nat.add_zero] at h0;simp only [List.map_cons,bZ,tO];cases hf:f i a.body with
  |some p=>rw [hf] at h0;rw [←h0];rfl
  |none=>rw [hf] at h0;rw [←h0,←ih];rfl
theorem aGU{e:Expr}(hf:Fit e)(k:Str)(g:Arm→Bool)(hg: ∀a∈e.aT,(has a.names k=false→eN a.body k=some (g a))∧(has a.names k=true→g a=false)): ∀b:Bool,j8 e k b 0=some (b&&tO g e.aT):=by
 have hlen:=hf.lens;refine cH (l:=e.aT) (C:=fun j r=> ∀b:Bool,j8 e k b (j:Int)=some (b&&tO g r)) (by omega) (fun hd=> ?_) fun j a r _ _ ha hlt hi hw ih=> ?_
 ·intro b;rw [j8,hd];simp [tO]
 ·intro b;obtain⟨_,h2,_⟩:=qW hf ha;obtain⟨g1,g2⟩:=hg a ha;rw [j8,if_pos hlt];simp only [nf,hi,Option.bind_eq_bind,Option.bind_some,iB a.names k (by omega),hw,tO];cases b with
  |false=>exact ih false
  |true=>
   cases hh:has a.names k with
   |true=>
    rw [g2 hh];exact ih false
   |false=>
    simp only [if_true,Bool.not_false,g1 hh,Option.bind_some,Bool.true_and];exact ih (g a)
theorem aHw{e:Expr}(hw:WF e)(k:Str)(hk:k≠ []): ∀b:Bool,iT e k b 0=some (b&&tO (fun a=>has a.names k||(iG k a.body).isNone) e.aT):=by
 have hlen:=hw.1.lens;refine cH (l:=e.aT) (C:=fun j r=> ∀b:Bool,iT e k b (j:Int)=some (b&&tO (fun a=>has a.names k||(iG k a.body).isNone) r)) (by omega) (fun hd=> ?_) fun j a r _ _ ha hlt hi hws ih=> ?_
 ·intro b;rw [iT,hd];simp [tO]
 ·intro b;obtain⟨_,h2,_⟩:=qW hw.1 ha;rw [iT,if_pos hlt];simp only [nf,hi,Option.bind_eq_bind,Option.bind_some,iB a.names k (by omega),hws,tO,aNa (hw.part (uP ha)) hk];cases b with
  |false=>exact ih false
  |true=>
   cases has a.names k with
   |true=>exact ih true
   |false=>
    simp only [if_true,Bool.false_eq_true,if_false,Option.bind_some,Bool.true_and,Bool.false_or];cases iG k a.body with
    |none=>exact ih true
    |some p=>exact ih false
theorem vQ: ∀(n:Nat)(e:Expr),bH e≤n→WF e→ ∀k,k≠ []→eN e k=some (okV (cT k e))
 |0,e,h=>by have:=bQ e;omega
 |n+1,e,h=>by
  intro hw k hk;have hlen:=hw.1.lens;have IH: ∀y∈parts e,eN y k=some (okV (cT k y)):=fun y hy=>vQ n y (by have:=bK hy;omega) (hw.part hy) k hk;rw [eN];by_cases k18:e.kind=18∨e.kind=19
  ·have hs:=y2 hw hk;have hL:cT k e=if jB e k=true then kI k e else .nx []:=by
    rw [look_eq,nM,if_neg (c:=e.kind=6) (by omega),if_neg (c:=e.kind=8) (by omega),if_neg (c:=e.kind=11) (by omega),if_neg (c:=e.kind=14∨e.kind=15∨e.kind=16) (by omega)]
   have hc:(if(e.kind==18)=true then some (e.kind==18) else some (e.kind==19):Option Bool)=some true:=by
    rcases k18 with h|h<;>simp [h]
   simp only [hc,Option.bind_eq_bind,Option.bind_some,if_true,hs,hL];cases jB e k<;>rfl
  have he:jB e k=false:=by
   cases h:jB e k with
   |false=>rfl
   |true=>exact absurd (wU h) k18
  have hc:(if(e.kind==18)=true then some (e.kind==18) else some (e.kind==19):Option Bool)=some false:=by
   have h1:(e.kind==18)=false:=by simp;omega
   have h2:(e.kind==19)=false:=by simp;omega
   rw [h1,h2];rfl
  simp only [hc,Option.bind_eq_bind,Option.bind_some,Bool.false_eq_true,if_false];rw [look_eq,nM,he,if_neg (c:=false=true) (by simp)];by_cases k6:e.kind=6
  ·obtain⟨n1,n2,n3⟩:=hw.aPq k6;obtain⟨x,hx⟩:=aBy n1;obtain⟨d,b,hl⟩:=aRF n2;have hpt:parts e= [d,b]:=(lW n3).trans hl;have hd:d∈parts e:=by rw [hpt];simp
   have hb:b∈parts e:=by rw [hpt];simp
   have i0:idx [d,b] 0=some d:=rfl;have i1:idx [d,b] 1=some b:=rfl;have ix:idx e.names 0=some x:=by rw [hx];rfl
   have hh:has e.names k=(x==k):=by rw [hx];simp [has]
   have e6:(e.kind==6)=true:=by simp [k6]
   rw [if_pos k6,hl,e6];simp only [if_true,i0,i1,ix,Option.bind_some,y2 (hw.part hd) hk,aNa (hw.part hb) hk,tQ (hw.part hd) hk,IH b hb,nf,hh];cases hed:jB d k with
   |true=>
    simp only [Bool.true_and,if_true];cases hsv:kI k d with
    |nx p=>
     have:u5 k d=false:=by rw [u5,aOv hed];rfl
     simp only [okV,Bool.false_eq_true,if_false,this,Option.bind_some]
    |ret s=>
     simp only [okV,if_true];cases (x==k) with
     |true=>rfl
     |false=>cases iG k b<;>rfl
   |false=>
    simp only [Bool.false_and,Bool.false_eq_true,if_false,u5];rcases Option.eq_none_or_eq_some (dZ k false false d) with hq|⟨p,hq⟩
    ·simp only [hq];cases (x==k) with
     |true=>rfl
     |false=>
      simp only [Option.isNone_none,if_true,Bool.not_false,Option.bind_some,Bool.false_eq_true,if_false,aDS]
    ·simp only [hq]
     rfl
  have e6:(e.kind==6)=false:=by simp [k6]
  rw [if_neg k6,e6];simp only [Bool.false_eq_true,if_false];by_cases k8:e.kind=8
  ·obtain⟨n2,n3⟩:=hw.if_ k8;obtain⟨c,a,b,hl⟩:=aRm n2;have hpt:parts e= [c,a,b]:=(lW n3).trans hl;have hcm:c∈parts e:=by rw [hpt];simp
   have ha:a∈parts e:=by rw [hpt];simp
   have hb:b∈parts e:=by rw [hpt];simp
   have i0:idx [c,a,b] 0=some c:=rfl;have i1:idx [c,a,b] 1=some a:=rfl;have i2:idx [c,a,b] 2=some b:=rfl;have e8:(e.kind==8)=true:=by simp [k8]
   rw [if_pos k8,hl,e8];simp only [if_true,i0,i1,i2,Option.bind_some,tQ (hw.part hcm) hk,IH a ha,IH b hb,nf,u5];rcases Option.eq_none_or_eq_some (dZ k false false c) with hq|⟨p,hq⟩
   ·simp only [hq,Option.isNone_none,if_true,Option.bind_some,aIW,aDS];cases okV (cT k a)<;>cases okV (cT k b)<;>rfl
   ·simp only [hq]
    rfl
  have e8:(e.kind==8)=false:=by simp [k8]
  rw [if_neg k8,e8];simp only [Bool.false_eq_true,if_false];by_cases k11:e.kind=11
  ·obtain⟨m,hl⟩:=aBy (hw.aG7 k11);have hm:m∈parts e:=o0 (by rw [hl];simp);have i0:idx e.l 0=some m:=by rw [hl];rfl
   have e11:(e.kind==11)=true:=by simp [k11]
   have hlp:=aGU hw.1 k (fun a=> !has a.names k&&okV (cT k a.body)) fun a ha=>⟨fun h=>by rw [IH _ (uP ha),h];rfl,fun h=>by simp [h]⟩
   have hA:okV (oB (fun i y=>if has (bJ e i) k=true then(.nx [(i:Int)]:LR) else nR i (cT k y)) 1 (e.aT.map Arm.body))=tO (fun a=> !has a.names k&&okV (cT k a.body)) e.aT:=by
    refine aF0 e.aT 1 fun j a ha=> ?_;simp only [z9 hl ha];cases has a.names k with
    |true=>rfl
    |false=>simp only [Bool.false_eq_true,if_false,aDS];rfl
   rw [if_pos k11,e11];simp only [if_true,i0,Option.bind_some,tQ (hw.part hm) hk,hlp,u5];rw [hl];rcases Option.eq_none_or_eq_some (dZ k false false m) with hq|⟨p,hq⟩
   ·simp only [hq,Option.isNone_none,Bool.true_and];rw [←hA]
   ·simp only [hq]
    rfl
  have e11:(e.kind==11)=false:=by simp [k11]
  rw [if_neg k11,e11];simp only [Bool.false_eq_true,if_false];by_cases k14:e.kind=14∨e.kind=15∨e.kind=16
  ·obtain⟨b,hl⟩:=aBy (hw.aDR k14);have hb:b∈parts e:=o0 (by rw [hl];simp);have i0:idx e.l 0=some b:=by rw [hl];rfl
   have hc:(if(e.kind==14)=true then some (e.kind==14) else if(e.kind==15)=true then some (e.kind==15) else some (e.kind==16):Option Bool)=some true:=by
    rcases k14 with h|h|h<;>simp [h]
   have hA:(bZ (fun i y=>if has (bJ e i) k=true then none else iG k y) 1 (e.aT.map Arm.body)).isNone=tO (fun a=>has a.names k||(iG k a.body).isNone) e.aT:=by
    refine aC9 e.aT 1 fun j a ha=> ?_;simp only [z9 hl ha];cases has a.names k<;>rfl
   rw [if_pos k14,hc];simp only [if_true,i0,Option.bind_some,IH b hb,nf,aHw hw k hk];rw [←hA,hl,←aDS 0 (cT k b)];cases hq:nR 0 (cT k b) with
   |nx p=>
    simp only [hq]
    rfl
   |ret s=>
    simp only [hq,okV,Bool.true_and];rcases Option.eq_none_or_eq_some (bZ (fun i y=>if has (bJ e i) k=true then none else iG k y) 1 (e.aT.map Arm.body)) with hz|⟨p,hz⟩
    ·simp only [hz]
     rfl
    ·simp only [hz]
     rfl
  have hc2:(if(e.kind==14)=true then some (e.kind==14) else if(e.kind==15)=true then some (e.kind==15) else some (e.kind==16):Option Bool)=some false:=by
   have h1:(e.kind==14)=false:=by simp;omega
   have h2:(e.kind==15)=false:=by simp;omega
   have h3:(e.kind==16)=false:=by simp;omega
   rw [h1,h2,h3];rfl
  rw [if_neg k14,hc2]
  rfl
theorem aBR{i:Int}{r:LR}{p:List Int}(h:nR i r= .nx p): ∃q,r= .nx q∧p=i::q:=by
 cases r with
 |ret s=>cases h
 |nx q=>cases h;exact⟨q,rfl,rfl⟩
theorem nZ{i:Int}{r:LR}{s:qB}(h:nR i r= .ret s): ∃t,r= .ret t∧s=t.map fun q=>(i::q.1,q.2):=by
 cases r with
 |ret t=>cases h;exact⟨t,rfl,rfl⟩
 |nx q=>cases h
theorem aKa{a b:LR}{p:List Int}(h:zL a b= .nx p):a= .nx p∨ ∃s,a= .ret s∧b= .nx p:=by
 cases a with
 |nx q=>cases h;exact .inl rfl
 |ret s=>
  cases b with
  |nx q=>cases h;exact .inr ⟨s,rfl,rfl⟩
  |ret t=>cases h
theorem sX{a b:LR}{s:qB}(h:zL a b= .ret s): ∃t u,a= .ret t∧b= .ret u∧s=t++u:=by
 cases a with
 |nx q=>cases h
 |ret t=>
  cases b with
  |nx q=>cases h
  |ret u=>cases h;exact⟨t,u,rfl,rfl,rfl⟩
def uV(k:Str)(e:Expr)(i:Nat)(y:Expr):LR:=if has (bJ e i) k=true then .nx [(i:Int)] else nR i (cT k y)
theorem aLR{e:Expr}(hw:WF e){m:Expr}(hl:e.l= [m])(k:Str)(hk:k≠ [])(IH: ∀y∈parts e,∀p,cT k y= .nx p→jE y k=some p∧p.length<bH y): ∀p,oB (uV k e) (1+0) (e.aT.map Arm.body)= .nx p→oV e k 0=some (.ret p)∧p.length<bH e:=by
 have hlen:=hw.1.lens;have hfit:bH e≤1048576:=hw.1;refine cH (l:=e.aT) (C:=fun j r=> ∀p,oB (uV k e) (1+j) (r.map Arm.body)= .nx p→oV e k (j:Int)=some (.ret p)∧p.length<bH e) (by omega) (fun hd=> ?_) fun j a r hdr hj ha hlt hi hw' ih=> ?_
 ·intro p h;cases h
 ·intro p h;obtain⟨_,h2,_⟩:=qW hw.1 ha;have haj:e.aT[j]?=some a:=by
   have:=congrArg (fun l=>l[0]?) hdr;simpa using this
  have hbd:bJ e (1+j)=a.names:=z9 hl haj;have hm:=uP ha;have hbb:=bK hm;have wj:IntKind.wrap .i64 (1+(j:Int))=((1+j:Nat):Int):=by rw [wrap64 (by omega) (by omega)];omega
  rw [List.map_cons,oB] at h;rw [oV,if_pos hlt];simp only [nf,hi,Option.bind_eq_bind,Option.bind_some,iB a.names k (by omega),hw',wj,vQ _ a.body (Nat.le_refl _) (hw.part hm) k hk];have hF:uV k e (1+j) a.body=if has a.names k=true then .nx [((1+j:Nat):Int)] else nR ((1+j:Nat):Int) (cT k a.body):=by rw [uV,hbd]
  rcases aKa h with h1|⟨s,h1,h3⟩
  ·rw [hF] at h1;cases hh:has a.names k with
   |true=>
    rw [hh] at h1;cases h1;exact⟨rfl,by have:=bQ a.body;simp only [List.length_singleton];omega⟩
   |false=>
    rw [hh] at h1;obtain⟨q,q1,rfl⟩:=aBR (h1:nR _ _=_);obtain⟨f1,f2⟩:=IH _ hm q q1;rw [q1];simp only [Bool.false_eq_true,if_false,okV,Bool.not_false,if_true,f1,Option.bind_some,jF _ q (by omega)];exact⟨trivial,by simp only [List.length_cons];omega⟩
  ·rw [hF] at h1;cases hh:has a.names k with
   |true=>rw [hh] at h1;cases h1
   |false=>
    rw [hh] at h1;obtain⟨t,t1,_⟩:=nZ (h1:nR _ _=_);rw [t1];exact ih p (by rwa [show 1+j+1=1+(j+1) by omega] at h3)
theorem aLX{e:Expr}(hw:WF e){m:Expr}(hl:e.l= [m])(k:Str)(hk:k≠ []): ∀p,bZ (fun i y=>if has (bJ e i) k=true then none else iG k y) (1+0) (e.aT.map Arm.body)=some p→mK e k 0=some (.ret p)∧p.length<bH e:=by
 have hlen:=hw.1.lens;have hfit:bH e≤1048576:=hw.1;refine cH (l:=e.aT) (C:=fun j r=> ∀p,bZ (fun i y=>if has (bJ e i) k=true then none else iG k y) (1+j) (r.map Arm.body)=some p→mK e k (j:Int)=some (.ret p)∧p.length<bH e) (by omega) (fun hd=> ?_) fun j a r hdr hj ha hlt hi hw' ih=> ?_
 ·intro p h;cases h
 ·intro p h;obtain⟨_,h2,_⟩:=qW hw.1 ha;have haj:e.aT[j]?=some a:=by
   have:=congrArg (fun l=>l[0]?) hdr;simpa using this
  have hbd:bJ e (1+j)=a.names:=z9 hl haj;have hm:=uP ha;have hbb:=bK hm;have wj:IntKind.wrap .i64 (1+(j:Int))=((1+j:Nat):Int):=by rw [wrap64 (by omega) (by omega)];omega
  simp only [List.map_cons,bZ,hbd] at h;rw [mK,if_pos hlt];simp only [nf,hi,Option.bind_eq_bind,Option.bind_some,sM _ a.body (Nat.le_refl _) (hw.part hm) k hk,iB a.names k (by omega),hw',wj];cases hh:has a.names k with
  |true=>
   rw [hh] at h;have:=ih p (by rwa [show 1+j+1=1+(j+1) by omega] at h);cases iG k a.body<;>exact this
  |false=>
   rw [hh] at h;simp only [Bool.false_eq_true,if_false] at h;cases ho:iG k a.body with
   |none=>
    rw [ho] at h;exact ih p (by rwa [show 1+j+1=1+(j+1) by omega] at h)
   |some q=>
    rw [ho] at h;cases h;have hq:=pV _ a.body (Nat.le_refl _) k false true q ho;simp only [pH,if_true,Bool.not_false,Option.bind_some,jF _ q (by omega)];exact⟨trivial,by simp only [List.length_cons];omega⟩
theorem aHH: ∀(n:Nat)(e:Expr),bH e≤n→WF e→ ∀k,k≠ []→ ∀p,cT k e= .nx p→jE e k=some p∧p.length<bH e
 |0,e,h=>by have:=bQ e;omega
 |n+1,e,h=>by
  intro hw k hk p hp;have hfit:bH e≤1048576:=hw.1;have hpos:=bQ e;have IH: ∀y∈parts e,∀p,cT k y= .nx p→jE y k=some p∧p.length<bH y:=fun y hy=>aHH n y (by have:=bK hy;omega) (hw.part hy) k hk;rw [jE];by_cases k18:e.kind=18
  ·have e18:(e.kind==18)=true:=by simp [k18]
   have hL:cT k e=if jB e k=true then kI k e else .nx []:=by
    rw [look_eq,nM,if_neg (c:=e.kind=6) (by omega),if_neg (c:=e.kind=8) (by omega),if_neg (c:=e.kind=11) (by omega),if_neg (c:=e.kind=14∨e.kind=15∨e.kind=16) (by omega)]
   have hE:jB e k=(e.s==k):=by rw [jB,e18];rfl
   rw [hL,hE] at hp;obtain⟨a,ha,hm,hs⟩:=aBK hw k18 k;have i0:idx e.l 0=some a:=by rw [ha];rfl
   have hb:=bK hm;cases hsk:(e.s==k) with
   |false=>
    rw [hsk] at hp;cases hp;simp only [e18,if_true,Bool.false_eq_true,if_false];exact⟨trivial,hpos⟩
   |true=>
    rw [hsk,if_pos rfl,hs] at hp;rcases Option.eq_none_or_eq_some (dZ k false false a) with hq|⟨q,hq⟩
    ·simp only [hq] at hp;cases hp
    ·simp only [hq] at hp;cases hp;have hql:=pV _ a (Nat.le_refl _) k false false q hq;simp only [e18,if_true,i0,Option.bind_eq_bind,Option.bind_some,aBQ (hw.part hm) hk,hq,pH,jF 0 q (by omega)];exact⟨trivial,by simp only [List.length_cons];omega⟩
  have e18:(e.kind==18)=false:=by simp [k18]
  rw [e18];simp only [Bool.false_eq_true,if_false];by_cases k19:e.kind=19
  ·have e6:(e.kind==6)=false:=by simp;omega
   have e8:(e.kind==8)=false:=by simp;omega
   have e11:(e.kind==11)=false:=by simp;omega
   have e14:(e.kind==14)=false:=by simp;omega
   have e15:(e.kind==15)=false:=by simp;omega
   have e16:(e.kind==16)=false:=by simp;omega
   have hL:cT k e=if jB e k=true then kI k e else .nx []:=by
    rw [look_eq,nM,if_neg (c:=e.kind=6) (by omega),if_neg (c:=e.kind=8) (by omega),if_neg (c:=e.kind=11) (by omega),if_neg (c:=e.kind=14∨e.kind=15∨e.kind=16) (by omega)]
   rw [hL,aER hw k19] at hp;split at hp
   ·cases hp
   ·cases hp;rw [e6,e8,e11,e14,e15,e16];exact⟨rfl,hpos⟩
  have he:jB e k=false:=by
   cases h:jB e k with
   |false=>rfl
   |true=>rcases wU h with h|h<;>contradiction
  rw [look_eq,nM,he,if_neg (c:=false=true) (by simp)] at hp;by_cases k6:e.kind=6
  ·obtain⟨n1,n2,n3⟩:=hw.aPq k6;obtain⟨x,hx⟩:=aBy n1;obtain⟨d,b,hl⟩:=aRF n2;have hpt:parts e= [d,b]:=(lW n3).trans hl;have hd:d∈parts e:=by rw [hpt];simp
   have hb:b∈parts e:=by rw [hpt];simp
   have hdb:=bK hd;have hbb:=bK hb;have i0:idx e.l 0=some d:=by rw [hl];rfl
   have i1:idx e.l 1=some b:=by rw [hl];rfl
   have ix:idx e.names 0=some x:=by rw [hx];rfl
   have hh:has e.names k=(x==k):=by rw [hx];simp [has]
   have e6:(e.kind==6)=true:=by simp [k6]
   rw [if_pos k6,hl] at hp;simp only [hh] at hp;simp only [e6,if_true,nf,i0,i1,ix,Option.bind_eq_bind,Option.bind_some,aDL,y2 (hw.part hd) hk,aBQ (hw.part hd) hk,sM _ b (Nat.le_refl _) (hw.part hb) k hk];cases hed:jB d k with
   |true=>
    rw [hed,if_pos rfl] at hp;have hLd:cT k d=kI k d:=by rw [look_eq,nM,hed,if_pos rfl]
    cases hsv:kI k d with
    |nx q=>
     simp only [hsv] at hp;cases hp;obtain⟨f1,f2⟩:=IH d hd q (hLd.trans hsv);simp only [if_true,okV,Bool.and_false,Bool.not_false,f1,Option.bind_some,jF 0 q (by omega)];exact⟨trivial,by simp only [List.length_cons];omega⟩
    |ret s=>
     simp only [hsv] at hp;cases hxk:(x==k) with
     |true=>simp only [hxk,if_true] at hp;cases hp
     |false=>
      simp only [hxk,Bool.false_eq_true,if_false] at hp;rcases Option.eq_none_or_eq_some (iG k b) with hq|⟨q,hq⟩
      ·simp only [hq] at hp;cases hp
      ·simp only [hq] at hp;cases hp;have hql:=pV _ b (Nat.le_refl _) k false true q hq;simp only [if_true,okV,Bool.and_true,Bool.not_true,Bool.false_eq_true,if_false,hq,pH,Option.bind_some,jF 1 q (by omega)];exact⟨trivial,by simp only [List.length_cons];omega⟩
   |false=>
    simp only [hed,Bool.false_eq_true,if_false] at hp;simp only [Bool.false_eq_true,if_false];rcases Option.eq_none_or_eq_some (dZ k false false d) with hq|⟨q,hq⟩
    ·simp only [hq] at hp;cases hxk:(x==k) with
     |true=>
      simp only [hxk,if_true] at hp;cases hp;simp only [hq,pH,Bool.false_eq_true,if_false,Bool.not_true];exact⟨trivial,hpos⟩
     |false=>
      simp only [hxk,Bool.false_eq_true,if_false] at hp;obtain⟨q,q1,rfl⟩:=aBR hp;obtain⟨f1,f2⟩:=IH b hb q q1;simp only [hq,pH,Bool.false_eq_true,if_false,Bool.not_false,if_true,f1,Option.bind_some,jF 1 q (by omega)];exact⟨trivial,by simp only [List.length_cons];omega⟩
    ·simp only [hq] at hp;cases hp;have hql:=pV _ d (Nat.le_refl _) k false false q hq;simp only [hq,pH,if_true,Option.bind_some,jF 0 q (by omega)];exact⟨trivial,by simp only [List.length_cons];omega⟩
  have e6:(e.kind==6)=false:=by simp [k6]
  rw [if_neg k6] at hp;rw [e6];simp only [Bool.false_eq_true,if_false];by_cases k8:e.kind=8
  ·obtain⟨n2,n3⟩:=hw.if_ k8;obtain⟨c,a,b,hl⟩:=aRm n2;have hpt:parts e= [c,a,b]:=(lW n3).trans hl;have hcm:c∈parts e:=by rw [hpt];simp
   have ha:a∈parts e:=by rw [hpt];simp
   have hb:b∈parts e:=by rw [hpt];simp
   have h1:=bK hcm;have h2:=bK ha;have h3:=bK hb;have i0:idx e.l 0=some c:=by rw [hl];rfl
   have i1:idx e.l 1=some a:=by rw [hl];rfl
   have i2:idx e.l 2=some b:=by rw [hl];rfl
   have e8:(e.kind==8)=true:=by simp [k8]
   rw [if_pos k8,hl] at hp;simp only [e8,if_true,nf,i0,i1,i2,Option.bind_eq_bind,Option.bind_some,aBQ (hw.part hcm) hk,vQ _ a (Nat.le_refl _) (hw.part ha) k hk];rcases Option.eq_none_or_eq_some (dZ k false false c) with hq|⟨q,hq⟩
   ·simp only [hq] at hp;simp only [hq,pH,Bool.false_eq_true,if_false];rcases aKa hp with g1|⟨s,g1,g2⟩
    ·obtain⟨q,q1,rfl⟩:=aBR g1;obtain⟨f1,f2⟩:=IH a ha q q1;simp only [q1,okV,Bool.not_false,if_true,f1,Option.bind_some,jF 1 q (by omega)];exact⟨trivial,by simp only [List.length_cons];omega⟩
    ·obtain⟨t,t1,_⟩:=nZ g1;obtain⟨q,q1,rfl⟩:=aBR g2;obtain⟨f1,f2⟩:=IH b hb q q1;simp only [t1,okV,Bool.not_true,Bool.false_eq_true,if_false,f1,Option.bind_some,jF 2 q (by omega)];exact⟨trivial,by simp only [List.length_cons];omega⟩
   ·simp only [hq] at hp;cases hp;have hql:=pV _ c (Nat.le_refl _) k false false q hq;simp only [hq,pH,if_true,Option.bind_some,jF 0 q (by omega)];exact⟨trivial,by simp only [List.length_cons];omega⟩
  have e8:(e.kind==8)=false:=by simp [k8]
  rw [if_neg k8] at hp;rw [e8];simp only [Bool.false_eq_true,if_false];by_cases k11:e.kind=11
  ·obtain⟨m,hl⟩:=aBy (hw.aG7 k11);have hm:m∈parts e:=o0 (by rw [hl];simp);have h1:=bK hm;have i0:idx e.l 0=some m:=by rw [hl];rfl
   have e11:(e.kind==11)=true:=by simp [k11]
   rw [if_pos k11,hl] at hp;simp only [e11,if_true,nf,i0,Option.bind_eq_bind,Option.bind_some,aBQ (hw.part hm) hk];rcases Option.eq_none_or_eq_some (dZ k false false m) with hq|⟨q,hq⟩
   ·simp only [hq] at hp;obtain⟨f1,f2⟩:=aLR hw hl k hk IH p hp;simp only [hq,pH,Bool.false_eq_true,if_false,f1,Option.bind_some];exact⟨trivial,f2⟩
   ·simp only [hq] at hp;cases hp;have hql:=pV _ m (Nat.le_refl _) k false false q hq;simp only [hq,pH,if_true,Option.bind_some,jF 0 q (by omega)];exact⟨trivial,by simp only [List.length_cons];omega⟩
  have e11:(e.kind==11)=false:=by simp [k11]
  rw [if_neg k11] at hp;rw [e11];simp only [Bool.false_eq_true,if_false];by_cases k14:e.kind=14∨e.kind=15∨e.kind=16
  ·obtain⟨b,hl⟩:=aBy (hw.aDR k14);have hb:b∈parts e:=o0 (by rw [hl];simp);have h1:=bK hb;have i0:idx e.l 0=some b:=by rw [hl];rfl
   have hc:(if(e.kind==14)=true then some (e.kind==14) else if(e.kind==15)=true then some (e.kind==15) else some (e.kind==16):Option Bool)=some true:=by
    rcases k14 with h|h|h<;>simp [h]
   rw [if_pos k14,hl] at hp;simp only [hc,if_true,nf,i0,Option.bind_eq_bind,Option.bind_some,vQ _ b (Nat.le_refl _) (hw.part hb) k hk];cases hpr:nR 0 (cT k b) with
   |nx q=>
    simp only [hpr] at hp;cases hp;obtain⟨q,q1,rfl⟩:=aBR hpr;obtain⟨f1,f2⟩:=IH b hb q q1;simp only [q1,okV,Bool.not_false,if_true,f1,Option.bind_some,jF 0 q (by omega)];exact⟨trivial,by simp only [List.length_cons];omega⟩
   |ret s=>
    simp only [hpr] at hp;obtain⟨t,t1,_⟩:=nZ hpr;rcases Option.eq_none_or_eq_some (bZ (fun i y=>if has (bJ e i) k=true then none else iG k y) 1 (e.aT.map Arm.body)) with hq|⟨q,hq⟩
    ·simp only [hq] at hp;cases hp
    ·simp only [hq] at hp;cases hp;obtain⟨f1,f2⟩:=aLX hw hl k hk p hq;simp only [t1,okV,Bool.not_true,Bool.false_eq_true,if_false,f1,Option.bind_some];exact⟨trivial,f2⟩
  have hc2:(if(e.kind==14)=true then some (e.kind==14) else if(e.kind==15)=true then some (e.kind==15) else some (e.kind==16):Option Bool)=some false:=by
   have h1:(e.kind==14)=false:=by simp;omega
   have h2:(e.kind==15)=false:=by simp;omega
   have h3:(e.kind==16)=false:=by simp;omega
   rw [h1,h2,h3];rfl
  rw [if_neg k14] at hp;cases hp;rw [hc2];exact⟨rfl,hpos⟩
def aCD:LR→List (List Int)
 | .ret s=>s.map (·.1)
 | .nx _=> []
theorem aNY{α:Type}{l:List α}(hl:l.length<4611686018427387904){C:Nat→List α→Prop}(k:Nat)(hk:k≤l.length)
(h0: ∀hd:decide ((l.length:Int)<(l.length:Int))=false,C l.length [])
(h1: ∀(k:Nat)(y:α)(r:List α),l.drop k=y::r→k<l.length→y∈l→decide ((k:Int)<(l.length:Int))=true→idx l (k:Int)=some y→IntKind.wrap .i64 ((k:Int)+1)=((k+1:Nat):Int)→C (k+1) r→C k (y::r)):C k (l.drop k):=
 aJu hl h0 h1 (l.length-k) k (by omega)
theorem aQB{α:Type}{l:List α}{t j:Nat}{y:α}(h:idx (l.take t) (j:Int)=some y):idx l (j:Int)=some y:=by
 unfold idx at h⊢;rw [if_pos (by omega)] at h⊢;rw [List.getElem?_take] at h;split at h
 ·exact h
 ·cases h
def tU(k:Str):Nat→List Expr→List (List Int)
 |_,[]=> []
 |i,y::r=>(aCD (cT k y)).map ((i:Int):: ·)++tU k (i+1) r
theorem aFw(k:Str)(r4:List Expr)(o:Int×Int)(i:Nat)(l:List (List Int))(hl:l.length≤1048576)(hp: ∀p∈l,p.length≤1048576): ∀out:List (List Int),out.length+l.length≤4194304→gZ k r4 o (i:Int) l out 0=some (out++l.map ((i:Int):: ·)):=by
 refine cH (l:=l) (C:=fun j r=> ∀out:List (List Int),out.length+r.length≤4194304→gZ k r4 o (i:Int) l out (j:Int)=some (out++r.map ((i:Int):: ·))) (by omega) (fun hd=> ?_) fun j p r _ _ hm hlt hi hw ih=> ?_
 ·intro out _;rw [gZ,hd];simp
 ·intro out ho;simp only [List.length_cons] at ho;rw [gZ,if_pos hlt];have ha:app 24 out [((i:Int)::p)]=some (out++ [((i:Int)::p)]):=aCf (by rw [rZ];simp only [List.length_singleton];omega) (by rw [rZ];simp only [List.length_singleton];omega);simp only [nf,hi,jF (i:Int) p (hp p hm),Option.bind_eq_bind,Option.bind_some,ha,hw];rw [ih (out++ [((i:Int)::p)]) (by simp;omega)];simp
theorem z7: ∀(n:Nat)(e:Expr),bH e≤n→ ∀(k:Str)(s:qB),cT k e= .ret s→ ∀q∈s,q.1.length<bH e
 |0,e,h=>by have:=bQ e;omega
 |n+1,e,h=>by
  intro k s hs q hq;have hpos:=bQ e;have IH: ∀y∈parts e,∀s,cT k y= .ret s→ ∀q∈s,q.1.length+1<bH e:=fun y hy s hs q hq=>by
   have h1:=bK hy;have:=z7 n y (by omega) k s hs q hq;omega
  have hsite: ∀(x:Expr)(s:qB),kI k x= .ret s→ ∀q∈s,q.1.length=0:=fun x s hs q hq=>by
   unfold kI at hs;split at hs
   ·cases hs
   ·cases hs;simp at hq;subst hq
    rfl
  have hpre: ∀y∈parts e,∀i s,nR i (cT k y)= .ret s→ ∀q∈s,q.1.length<bH e:=fun y hy i s hs q hq=>by
   obtain⟨t,t1,rfl⟩:=nZ hs;obtain⟨q',hq',rfl⟩:=List.mem_map.1 hq;have:=IH y hy t t1 q' hq';simp only [List.length_cons];omega
  rw [look_eq,nM] at hs;split at hs
  ·have:=hsite e s hs q hq;omega
  split at hs
  ·split at hs
   ·rename_i d b he;have hb:b∈parts e:=o0 (by rw [he];simp);have hd:d∈parts e:=o0 (by rw [he];simp);have hdb:=bK hd;have:=bQ d;split at hs
    ·split at hs
     ·cases hs
     ·rename_i t ht;split at hs
      ·cases hs
      ·cases hs;obtain⟨q',hq',rfl⟩:=List.mem_map.1 hq;have:=hsite d t ht q' hq';simp only [List.length_cons];omega
    ·split at hs
     ·cases hs
     ·split at hs
      ·cases hs
      ·exact hpre b hb 1 s hs q hq
   ·cases hs
  split at hs
  ·split at hs
   ·rename_i c a b he;have hb:b∈parts e:=o0 (by rw [he];simp);have ha:a∈parts e:=o0 (by rw [he];simp);split at hs
    ·cases hs
    ·obtain⟨t,u,t1,u1,rfl⟩:=sX hs;rcases List.mem_append.1 hq with hq|hq
     ·exact hpre a ha 1 t t1 q hq
     ·exact hpre b hb 2 u u1 q hq
   ·cases hs
  split at hs
  ·split at hs
   ·split at hs
    ·cases hs
    ·have key: ∀(l:List Expr)(i:Nat)(s:qB),(∀y∈l,y∈parts e)→oB (uV k e) i l= .ret s→ ∀q∈s,q.1.length<bH e:=by
      intro l
      induction l with
      |nil=>intro i s _ hs q hq;cases hs;cases hq
      |cons y r ih=>
       intro i s hy hs q hq;rw [oB] at hs;obtain⟨t,u,t1,u1,rfl⟩:=sX hs;rcases List.mem_append.1 hq with hq|hq
       ·unfold uV at t1;split at t1
        ·cases t1
        ·exact hpre y (hy y (.head _)) _ t t1 q hq
       ·exact ih (i+1) u (fun z hz=>hy z (.tail _ hz)) u1 q hq
     exact key _ 1 s (fun y hy=>List.mem_append_right _ hy) hs q hq
   ·cases hs
  split at hs
  ·split at hs
   ·rename_i b he;have hb:b∈parts e:=o0 (by rw [he];simp);split at hs
    ·cases hs
    ·rename_i t ht;split at hs
     ·cases hs
     ·cases hs;exact hpre b hb 0 s ht q hq
   ·cases hs
  cases hs
theorem n8{e:Expr}(hw:WF e)(k:Str)(IH: ∀y∈parts e,∀s,cT k y= .ret s→g7 y k=some (s.map (·.1)))(f t:Nat)(ht:t≤(parts e).length)(hft:f≤t)(o1:Int)(out:List (List Int))(hout:out.length+eA (((parts e).take t).drop f)≤2000000)(hall: ∀y∈((parts e).take t).drop f,∃s,cT k y= .ret s):
  eL k (parts e) (o1,(t:Int)) out (f:Int)=some (out++tU k f (((parts e).take t).drop f)):=by
 have hlen:=hw.1.lens;have hfit:bH e≤1048576:=hw.1;have htl:((parts e).take t).length=t:=by simp;omega
 have hpl:=gQ e;refine aNY (l:=(parts e).take t) (by omega) (C:=fun j r=> ∀out:List (List Int),out.length+eA r≤2000000→(∀y∈r,∃s,cT k y= .ret s)→eL k (parts e) (o1,(t:Int)) out (j:Int)=some (out++tU k j r)) f (by omega) (fun hd=> ?_) (fun j y r hdr hj hy hlt hi hws ih=> ?_) out hout hall
 ·intro out _ _;rw [htl] at hd⊢;rw [eL,hd];simp [tU]
 ·intro out ho hr;rw [htl] at hlt;have hy':y∈parts e:=List.mem_of_mem_take hy;have hyb:=bK hy';simp only [eA] at ho;obtain⟨s,hs⟩:=hr y (.head _);have hsl:=vR _ k y (Nat.le_refl _);rw [hs] at hsl;simp only [kZ] at hsl;have h0:=aFw k (parts e) (o1,(t:Int)) j (s.map (·.1)) (by simp;omega) (fun p hp=>by
   obtain⟨q,hq,rfl⟩:=List.mem_map.1 hp;have:=z7 _ y (Nat.le_refl _) k s hs q hq;omega) out (by simp;omega)
  rw [eL,if_pos hlt];simp only [nf,aQB hi,IH y hy' s hs,Option.bind_eq_bind,Option.bind_some,h0,hws];rw [ih (out++(s.map (·.1)).map ((j:Int):: ·)) (by simp;omega) fun z hz=>hr z (.tail _ hz)];rw [tU,hs,List.append_assoc]
  rfl
theorem aEM{k:Str}{e:Expr}: ∀(l:List Expr)(i:Nat)(s:qB),oB (uV k e) i l= .ret s→s.map (·.1)=tU k i l∧ ∀y∈l,∃t,cT k y= .ret t
 | [],i,s,h=>by cases h;exact⟨rfl,fun y hy=>by cases hy⟩
 |y::r,i,s,h=>by
  rw [oB] at h;obtain⟨t,u,t1,u1,rfl⟩:=sX h;obtain⟨g1,g2⟩:=aEM r (i+1) u u1;unfold uV at t1;split at t1
  ·cases t1
  ·obtain⟨v,v1,rfl⟩:=nZ t1;refine⟨?_,fun z hz=> ?_⟩
   ·rw [List.map_append,g1,tU,v1];simp [aCD]
   ·rcases List.mem_cons.1 hz with rfl|hz
    ·exact⟨v,v1⟩
    ·exact g2 z hz
theorem aEu: ∀(n:Nat)(e:Expr),bH e≤n→WF e→ ∀k s,cT k e= .ret s→g7 e k=some (s.map (·.1))
 |0,e,h=>by have:=bQ e;omega
 |n+1,e,h=>by
  intro hw k s hs;have hfit:bH e≤1048576:=hw.1;have hbp:=tN e;have IH: ∀y∈parts e,∀s,cT k y= .ret s→g7 y k=some (s.map (·.1)):=fun y hy=>aEu n y (by have:=bK hy;omega) (hw.part hy) k;have hsite: ∀(x:Expr)(s:qB),kI k x= .ret s→s.map (·.1)= [([]:List Int)]:=fun x s hs=>by
   unfold kI at hs;split at hs
   ·cases hs
   ·cases hs;rfl
  rw [g7,aDL,nK hw.1];simp only [Option.bind_eq_bind,Option.bind_some];rw [look_eq,nM] at hs;cases he:jB e k with
  |true=>
   rw [he,if_pos rfl] at hs;rw [hsite e s hs]
   rfl
  |false=>
  rw [he,if_neg (by simp)] at hs;simp only [Bool.false_eq_true,if_false];by_cases k6:e.kind=6
  ·obtain⟨n1,n2,n3⟩:=hw.aPq k6;obtain⟨d,b,hl⟩:=aRF n2;have hpt:parts e= [d,b]:=(lW n3).trans hl;have hd:d∈parts e:=by rw [hpt];simp
   have hb:b∈parts e:=by rw [hpt];simp
   have i0:idx e.l 0=some d:=by rw [hl];rfl
   have e6:(e.kind==6)=true:=by simp [k6]
   have hbl:eA [d,b]<bH e:=by rw [←hpt];exact hbp
   simp only [eA] at hbl;rw [if_pos k6,hl] at hs;dsimp only at hs;simp only [e6,if_true,i0,Option.bind_some,aDL];cases hed:jB d k with
   |true=>
    rw [hed,if_pos rfl] at hs;have hLd:cT k d=kI k d:=by rw [look_eq,nM,hed,if_pos rfl]
    cases hsv:kI k d with
    |nx q=>simp only [hsv] at hs;cases hs
    |ret u=>
     simp only [hsv] at hs;have hs2:s.map (·.1)=(u.map (·.1)).map ((0:Int):: ·):=by
      split at hs
      ·cases hs
      ·cases hs;simp
     have h1:=n8 hw k IH 0 1 (by rw [hpt];simp) (by omega) 0 [] (by rw [hpt];simp [eA];omega) (by rw [hpt];intro y hy;simp at hy;subst hy;exact⟨u,hLd.trans hsv⟩);rw [hpt] at h1⊢;simp only [if_true,Option.bind_some];have h2:eL k [d,b] (0,1) [] 0=some ([]++tU k 0 (([d,b].take 1).drop 0)):=h1;rw [h2,hs2];simp [tU,hLd,hsv,aCD]
   |false=>
    simp only [hed,Bool.false_eq_true,if_false] at hs;rcases Option.eq_none_or_eq_some (dZ k false false d) with hq|⟨q,hq⟩
    rotate_left
    ·simp only [hq] at hs;cases hs
    simp only [hq] at hs;split at hs
    ·cases hs
    ·obtain⟨u,u1,rfl⟩:=nZ hs;have h1:=n8 hw k IH 1 2 (by rw [hpt];simp) (by omega) 1 [] (by rw [hpt];simp [eA];omega) (by rw [hpt];intro y hy;simp at hy;subst hy;exact⟨u,u1⟩);rw [hpt] at h1⊢;simp only [Bool.false_eq_true,if_false,Option.bind_some];have h2:eL k [d,b] (1,(([d,b].length:Nat):Int)) [] 1=some ([]++tU k 1 (([d,b].take 2).drop 1)):=h1;rw [h2];simp [tU,u1,aCD]
  have e6:(e.kind==6)=false:=by simp [k6]
  rw [if_neg k6] at hs;simp only [e6,Bool.false_eq_true,if_false];by_cases k8:e.kind=8
  ·obtain⟨n2,n3⟩:=hw.if_ k8;obtain⟨c,a,b,hl⟩:=aRm n2;have hpt:parts e= [c,a,b]:=(lW n3).trans hl;have e8:(e.kind==8)=true:=by simp [k8]
   have hbl:eA [c,a,b]<bH e:=by rw [←hpt];exact hbp
   simp only [eA] at hbl;rw [if_pos k8,hl] at hs;dsimp only at hs;rcases Option.eq_none_or_eq_some (dZ k false false c) with hq|⟨q,hq⟩
   rotate_left
   ·simp only [hq] at hs;cases hs
   simp only [hq] at hs;obtain⟨t,u,t1,u1,rfl⟩:=sX hs;obtain⟨t',t2,rfl⟩:=nZ t1;obtain⟨u',u2,rfl⟩:=nZ u1;have h1:=n8 hw k IH 1 3 (by rw [hpt];simp) (by omega) 1 [] (by rw [hpt];simp [eA];omega) (by
    rw [hpt];intro y hy;simp at hy;rcases hy with rfl|rfl
    ·exact⟨t',t2⟩
    ·exact⟨u',u2⟩)
   rw [hpt] at h1⊢;simp only [e8,if_true,Option.bind_some];have h2:eL k [c,a,b] (1,(([c,a,b].length:Nat):Int)) [] 1=some ([]++tU k 1 (([c,a,b].take 3).drop 1)):=h1;rw [h2];simp [tU,t2,u2,aCD]
   rfl
  have e8:(e.kind==8)=false:=by simp [k8]
  rw [if_neg k8] at hs;simp only [e8,Bool.false_eq_true,if_false];by_cases k11:e.kind=11
  ·obtain⟨m,hl⟩:=aBy (hw.aG7 k11);have hpt:parts e=m::e.aT.map Arm.body:=by rw [parts,hl];rfl
   have e11:(e.kind==11)=true:=by simp [k11]
   have hbl:eA (m::e.aT.map Arm.body)<bH e:=by rw [←hpt];exact hbp
   simp only [eA] at hbl;rw [if_pos k11,hl] at hs;dsimp only at hs;rcases Option.eq_none_or_eq_some (dZ k false false m) with hq|⟨q,hq⟩
   rotate_left
   ·simp only [hq] at hs;cases hs
   simp only [hq] at hs;obtain⟨g1,g2⟩:=aEM (e:=e) _ 1 s hs;have hdr:((parts e).take (parts e).length).drop 1=e.aT.map Arm.body:=by rw [List.take_length,hpt];rfl
   have h1:=n8 hw k IH 1 (parts e).length (by omega) (by rw [hpt];simp) 1 [] (by rw [hdr];simp;omega) (by rw [hdr];exact g2);rw [hdr] at h1;simp only [e11,if_true,Option.bind_some];rw [show((1:Nat):Int)=1 from rfl] at h1;rw [h1,g1]
   rfl
  have e11:(e.kind==11)=false:=by simp [k11]
  rw [if_neg k11] at hs;simp only [e11,Bool.false_eq_true,if_false];by_cases k14:e.kind=14∨e.kind=15∨e.kind=16
  ·obtain⟨b,hl⟩:=aBy (hw.aDR k14);have hpt:parts e=b::e.aT.map Arm.body:=by rw [parts,hl];rfl
   have hbl:eA (b::e.aT.map Arm.body)<bH e:=by rw [←hpt];exact hbp
   simp only [eA] at hbl;rw [if_pos k14,hl] at hs;dsimp only at hs;cases hpr:nR 0 (cT k b) with
   |nx q=>simp only [hpr] at hs;cases hs
   |ret u=>
    simp only [hpr] at hs;have hsu:s=u:=by
     split at hs
     ·cases hs
     ·cases hs;rfl
    subst hsu;obtain⟨t,t1,rfl⟩:=nZ hpr;have hdr:((parts e).take 1).drop 0= [b]:=by rw [hpt];rfl
    have h1:=n8 hw k IH 0 1 (by rw [hpt];simp) (by omega) 0 [] (by rw [hdr];simp [eA];omega) (by rw [hdr];intro y hy;simp at hy;subst hy;exact⟨t,t1⟩);rw [hdr] at h1;simp only [Option.bind_some];have h2:eL k (parts e) (0,1) [] 0=some ([]++tU k 0 [b]):=h1;rw [h2];simp [tU,t1,aCD]
  rw [if_neg k14] at hs;cases hs
def Reach:Expr→List Int→Expr→Prop
 |e,[],x=>x=e
 |e,i::p,x=> ∃(j:Nat)(y:Expr),i=(j:Int)∧(parts e)[j]?=some y∧Reach y p x
theorem aOS{path:List Int}(hpl:path.length≤2000000): ∀e x,WF e→Reach e path x→oS path 0 e=some (.nx x):=by
 refine cH (l:=path) (C:=fun j r=> ∀e x,WF e→Reach e r x→oS path (j:Int) e=some (.nx x)) (by omega) (fun hd=> ?_) fun j i r _ _ _ hlt hi hw ih=> ?_
 ·intro e x _ hr;have:x=e:=hr;subst this;rw [oS,hd]
  rfl
 ·intro e x hwf hr;obtain⟨m,y,rfl,hy,hr2⟩:=hr;have hlen:=hwf.1.lens;have hpt:=gQ e;have hm:m<(parts e).length:=(List.getElem?_eq_some_iff.1 hy).1;have w:IntKind.wrap .i64 (((parts e).length:Int)-1)=((parts e).length:Int)-1:=wrap64 (by omega) (by omega);have hix:idx (parts e) (m:Int)=some y:=by
   unfold idx;rw [if_pos (by omega)];simpa using hy
  rw [oS,if_pos hlt];simp only [nf,nK hwf.1,hi,aSU,w,Option.bind_eq_bind,Option.bind_some,hix,hw];rw [decide_eq_true (p:=(0:Int)≤(m:Int)) (by omega),decide_eq_true (p:=(m:Int)≤((parts e).length:Int)-1) (by omega)];exact ih y x (hwf.part (List.mem_of_getElem? hy)) hr2
theorem aU3{e x:Expr}{path:List Int}(hw:WF e)(hpl:path.length≤2000000)(hr:Reach e path x):aCJ e path=some (x,true):=by
 rw [aCJ,aOS hpl e x hw hr]
 rfl
theorem get_mem{l:List Expr}{y:Expr}{j:Nat}(h:l[j]?=some y):y∈l:=List.mem_of_getElem? h
theorem aEc{k:Str}{e:Expr}{s:qB}(h:kI k e= .ret s): ∀q∈s,∃x,Reach e q.1 x∧(x.kind==18)=q.2:=by
 intro q hq;unfold kI at h;split at h
 ·cases h
 ·cases h;simp at hq;subst hq;exact⟨e,rfl,rfl⟩
theorem aDb: ∀(n:Nat)(e:Expr),bH e≤n→WF e→ ∀(k:Str)(s:qB),cT k e= .ret s→ ∀q∈s,∃x,Reach e q.1 x∧(x.kind==18)=q.2
 |0,e,h=>by have:=bQ e;omega
 |n+1,e,h=>by
  intro hw k s hs q hq;have hpre: ∀(j:Nat)(y:Expr),(parts e)[j]?=some y→ ∀s,nR (j:Int) (cT k y)= .ret s→ ∀q∈s,∃x,Reach e q.1 x∧(x.kind==18)=q.2:=fun j y hj s hs q hq=>by
   obtain⟨t,t1,rfl⟩:=nZ hs;obtain⟨q',hq',rfl⟩:=List.mem_map.1 hq;have hy:=get_mem hj;obtain⟨x,x1,x2⟩:=aDb n y (by have:=bK hy;omega) (hw.part hy) k t t1 q' hq';exact⟨x,⟨j,y,rfl,hj,x1⟩,x2⟩
  have h0: ∀(j:Nat)(y:Expr),e.l[j]?=some y→(parts e)[j]?=some y:=fun j y hj=>by
   rw [parts,List.getElem?_append_left (List.getElem?_eq_some_iff.1 hj).1];exact hj
  rw [look_eq,nM] at hs;split at hs
  ·exact aEc hs q hq
  split at hs
  ·split at hs
   ·rename_i d b he;split at hs
    ·split at hs
     ·cases hs
     ·rename_i t ht;split at hs
      ·cases hs
      ·cases hs;obtain⟨q',hq',rfl⟩:=List.mem_map.1 hq;obtain⟨x,x1,x2⟩:=aEc ht q' hq';exact⟨x,⟨0,d,rfl,h0 0 d (by rw [he];rfl),x1⟩,x2⟩
    ·split at hs
     ·cases hs
     ·split at hs
      ·cases hs
      ·exact hpre 1 b (h0 1 b (by rw [he];rfl)) s hs q hq
   ·cases hs
  split at hs
  ·split at hs
   ·rename_i c a b he;split at hs
    ·cases hs
    ·obtain⟨t,u,t1,u1,rfl⟩:=sX hs;rcases List.mem_append.1 hq with hq|hq
     ·exact hpre 1 a (h0 1 a (by rw [he];rfl)) t t1 q hq
     ·exact hpre 2 b (h0 2 b (by rw [he];rfl)) u u1 q hq
   ·cases hs
  split at hs
  ·split at hs
   ·rename_i m he;split at hs
    ·cases hs
    ·have key: ∀(l:List Expr)(i:Nat)(s:qB),(∀j y,l[j]?=some y→(parts e)[i+j]?=some y)→oB (uV k e) i l= .ret s→ ∀q∈s,∃x,Reach e q.1 x∧(x.kind==18)=q.2:=by
      intro l
      induction l with
      |nil=>intro i s _ hs q hq;cases hs;cases hq
      |cons y r ih=>
       intro i s hy hs q hq;rw [oB] at hs;obtain⟨t,u,t1,u1,rfl⟩:=sX hs;rcases List.mem_append.1 hq with hq|hq
       ·unfold uV at t1;split at t1
        ·cases t1
        ·exact hpre i y (hy 0 y rfl) t t1 q hq
       ·exact ih (i+1) u (fun j z hz=>by
         have:=hy (j+1) z (by simpa using hz);rwa [show i+(j+1)=i+1+j by omega] at this) u1 q hq
     refine key _ 1 s (fun j y hj=> ?_) hs q hq;rw [parts,he];rw [show 1+j=j+1 by omega];simpa using hj
   ·cases hs
  split at hs
  ·split at hs
   ·rename_i b he;split at hs
    ·cases hs
    ·rename_i t ht;split at hs
     ·cases hs
     ·cases hs;exact hpre 0 b (h0 0 b (by rw [he];rfl)) s ht q hq
   ·cases hs
  cases hs
theorem aLY{e:Expr}(hw:WF e)(s:qB)(hs: ∀q∈s,∃x,Reach e q.1 x∧(x.kind==18)=q.2)(hp: ∀q∈s,q.1.length≤2000000)(hl:s.length≤1048576):jS e (s.map (·.1)) 0 0 0=some (((s.countP (·.2):Nat):Int),((s.countP (!·.2):Nat):Int)):=by
 have loop: ∀n j:Nat,j+n=s.length→ ∀a b:Nat,a+n≤2000000→b+n≤2000000→jS e (s.map (·.1)) (a:Int) (b:Int) (j:Int)=some (((a+(s.drop j).countP (·.2):Nat):Int),((b+(s.drop j).countP (!·.2):Nat):Int)):=by
  intro n
  induction n with
  |zero=>
   intro j hj a b _ _;have:j=s.length:=by omega
   subst this;have hd:decide (((s.length:Nat):Int)<((s.map (·.1)).length:Int))=false:=decide_eq_false (by simp);rw [jS,hd,List.drop_length]
   rfl
  |succ n ih=>
   intro j hj a b ha hb;have hjl:j<s.length:=by omega
   have hd:decide ((j:Int)<((s.map (·.1)).length:Int))=true:=decide_eq_true (by simp;omega);have hi:idx (s.map (·.1)) (j:Int)=some (s[j]).1:=by
    unfold idx;rw [if_pos (by omega)];simp [hjl]
   obtain⟨x,x1,x2⟩:=hs s[j] (List.getElem_mem hjl);have hA:=aU3 hw (hp s[j] (List.getElem_mem hjl)) x1;have wj:IntKind.wrap .i64 ((j:Int)+1)=((j+1:Nat):Int):=by rw [wrap64 (by omega) (by omega)];omega
   have wa:IntKind.wrap .i64 ((a:Int)+1)=((a+1:Nat):Int):=by rw [wrap64 (by omega) (by omega)];omega
   have wb:IntKind.wrap .i64 ((b:Int)+1)=((b+1:Nat):Int):=by rw [wrap64 (by omega) (by omega)];omega
   rw [jS,if_pos hd,List.drop_eq_getElem_cons hjl,List.countP_cons,List.countP_cons];simp only [nf,hi,hA,Option.bind_eq_bind,Option.bind_some,wj,wa,wb,x2];cases hq:(s[j]).2 with
   |true=>
    simp only [if_true];rw [ih (j+1) (by omega) (a+1) b (by omega) (by omega)];simp;omega
   |false=>
    simp only [Bool.false_eq_true,if_false];rw [ih (j+1) (by omega) a (b+1) (by omega) (by omega)];simp;omega
 have:=loop s.length 0 (by omega) 0 0 (by omega) (by omega);simpa using this
theorem aE0{k:Str}(h:p6 k=true):k≠ []:=by
 rintro rfl
 cases h
theorem aA6{e:Expr}{k:Str}(hf:Fit e): ∃v,g8 e=some v∧gX e k=some (if v=0 then(if p6 k=true then 0 else 4) else v):=by
 obtain⟨v,h1,h2⟩:=aOK hf;refine⟨v,h2,?_⟩;rw [gX,h1];simp only [x7,Option.bind_eq_bind,Option.bind_some];by_cases h0:v=0
 ·subst h0;cases p6 k<;>rfl
 ·simp [h0]
theorem aPD{e:Expr}{k:Str}(hf:Fit e)(hk:k.length≤1048576): ∃r,nH e k=some r∧s9 e k=some r:=by
 obtain⟨v,h1,h2⟩:=aA6 (k:=k) hf;rw [nH,s9,h1,h2];simp only [Option.bind_eq_bind,Option.bind_some,sR k (by omega)];by_cases h0:v=0
 ·subst h0;cases hv:p6 k with
  |false=>exact⟨_,rfl,rfl⟩
  |true=>
   have hw:WF e:=⟨hf,aA5 hf h1⟩
   have hne:=aE0 hv;have hfit:bH e≤1048576:=hf;have hl:=m8 _ e (Nat.le_refl _) hw k false false [] (by show 0+bH e≤2000000;omega);refine⟨(u5 k e,0),?_,?_⟩
   ·simp only [if_true,j3,hl,Option.bind_eq_bind,Option.bind_some,u5];rcases Option.eq_none_or_eq_some (dZ k false false e) with hq|⟨q,hq⟩<;>simp only [hq]<;>rfl
   ·simp only [tQ hw hne,Option.bind_some]
    rfl
 ·refine⟨(false,v),?_,?_⟩<;>simp [h0]
theorem aF7{e:Expr}{k:Str}(hw:WF e): ∃c,l9 ⟨e,[]⟩ k=some c∧(match cT k e with
  | .ret s=>c=(some ⟨k,s.map (·.1),⟨(s.countP (·.2):Nat),(s.countP (!·.2):Nat)⟩⟩,[],0)
  | .nx p=>c=(none,p,10)):=by
 have hfit:bH e≤1048576:=hw.1;have h:=aNo _ e (Nat.le_refl _) hw k [] [] 0 0 (by show 0+bH e≤2000000;omega) ⟨by simp;omega,by omega,by omega,by omega,by omega⟩;rw [l9,h];cases cT k e with
 |ret s=>
  refine⟨_,rfl,?_⟩;simp
 |nx p=>exact⟨_,rfl,rfl⟩
theorem aOh{e:Expr}{k:Str}(hf:Fit e)(hk:k.length≤1048576)(hne: ∀v,g8 e=some v→v≠10):(∃r,fS e k=some r∧qR e k=some r)∧ ∃r,gS e k=some r∧s7 e k=some r:=by
 obtain⟨v,h1,h2⟩:=aA6 (k:=k) hf;have hv10:=hne v h1;rw [fS,qR,gS,s7,qT,h1,h2];simp only [Option.bind_eq_bind,Option.bind_some,sR k (by omega)];by_cases h0:v=0
 rotate_left
 ·refine⟨⟨(0,[],v),?_,?_⟩,⟨([],v),?_,?_⟩⟩<;>simp [h0,hv10]
 subst h0;cases hv:p6 k with
 |false=>exact⟨⟨_,rfl,rfl⟩,⟨_,rfl,rfl⟩⟩
 |true=>
  have hw:WF e:=⟨hf,aA5 hf h1⟩
  have hkn:=aE0 hv;have hfit:bH e≤1048576:=hf;obtain⟨c,c1,c2⟩:=aF7 (k:=k) hw;simp only [c1,vQ _ e (Nat.le_refl _) hw k hkn,Option.bind_some];cases hL:cT k e with
  |nx p=>
   rw [hL] at c2;subst c2;obtain⟨f1,_⟩:=aHH _ e (Nat.le_refl _) hw k hkn p hL;refine⟨⟨(0,p,10),rfl,?_⟩,⟨([],10),rfl,rfl⟩⟩;simp [okV,f1]
  |ret s=>
   rw [hL] at c2;subst c2;have g1:=aEu _ e (Nat.le_refl _) hw k s hL;have g2:=aDb _ e (Nat.le_refl _) hw k s hL;have g3:=vR _ k e (Nat.le_refl _);rw [hL] at g3;simp only [kZ] at g3;have g4:=aLY hw s g2 (fun q hq=>by have:=z7 _ e (Nat.le_refl _) k s hL q hq;omega) (by omega);refine⟨?_,⟨(s.map (·.1),0),rfl,by simp [okV,g1]⟩⟩;have gu:vZ e k=some (if(0:Int)<(s.countP (·.2):Nat) then(if(0:Int)<(s.countP (!·.2):Nat) then 2 else 0) else(if(0:Int)<(s.countP (!·.2):Nat) then 1 else 3)):=by
    rw [vZ,g1];simp only [Option.bind_eq_bind,Option.bind_some,g4];generalize ((s.countP (·.2):Nat):Int)=A;generalize ((s.countP (!·.2):Nat):Int)=B;by_cases a:0<A<;>by_cases b:0<B<;>simp [a,b]
   refine⟨(if(0:Int)<(s.countP (·.2):Nat) then(if(0:Int)<(s.countP (!·.2):Nat) then 2 else 0) else(if(0:Int)<(s.countP (!·.2):Nat) then 1 else 3),[],0),?_,by simp [okV,gu]⟩;generalize ((s.countP (·.2):Nat):Int)=A;generalize ((s.countP (!·.2):Nat):Int)=B;by_cases a:0<A<;>by_cases b:0<B<;>simp [a,b]
theorem aBX(p:Str→Bool): ∀l pre:List Str,iW p pre l≠10
 | [],pre=>by simp [iW]
 |y::r,pre=>by
  rw [iW];split
  ·split
   ·decide
   ·exact aBX p r _
  ·decide
theorem aRZ(c1 c2 c3:Bool)(d:Int)(hd:d≠10):(if c1=true then(if c2=true then(if d=0 then(if c3=true then(5:Int) else 0) else d) else 4) else 7)≠10:=by
 by_cases h:d=0<;>cases c1<;>cases c2<;>cases c3<;>simp [h,hd]
theorem aSE(kd:Int)(pre:List Arm)(i:Nat)(a:Arm):aLu kd pre i a≠10:=aRZ _ _ _ _ (aBX _ _ _)
theorem aKB(kd:Int): ∀l pre:List Arm,n9 kd pre l≠10
 | [],pre=>by simp [n9]
 |a::r,pre=>by
  rw [n9];split
  ·exact aKB kd r _
  ·exact aSE _ _ _ _
theorem aNq{α:Type}{l x:List α}{lo hi:Int}(h:cut l lo hi=some x):x.length≤l.length:=by
 unfold cut at h;split at h
 ·cases h;simp;omega
 ·cases h
theorem aSn{e:Expr}(hf:Fit e){v:Int}(h:eW e=some v):v≠10:=by
 have hlen:=hf.lens;rw [eW] at h;obtain⟨r2,_,h⟩:=bs h;split at h
 ·cases h;decide
 obtain⟨y3,_,h⟩:=bs h;obtain⟨r4,_,h⟩:=bs h;split at h
 ·cases h;decide
 obtain⟨r5,_,h⟩:=bs h;obtain⟨c6,_,h⟩:=bs h;split at h
 ·cases h;decide
 obtain⟨r8,_,h⟩:=bs h;obtain⟨c9,_,h⟩:=bs h;split at h
 ·cases h;decide
 obtain⟨c11,_,h⟩:=bs h;obtain⟨c12,_,h⟩:=bs h;split at h
 ·cases h;decide
 obtain⟨o13,_,h⟩:=bs h;obtain⟨l16,h16,h⟩:=bs h;obtain⟨r17,h17,h⟩:=bs h;have g16:=aNq h16;rw [fJ l16 1 (by omega)] at h17;split at h
 ·cases h;cases h17;exact aBX _ _ _
 obtain⟨l18,h18,h⟩:=bs h;obtain⟨r19,h19,h⟩:=bs h;have g18:=aNq h18;rw [fJ l18 2 (by omega)] at h19;split at h
 ·cases h;cases h19;exact aBX _ _ _
 obtain⟨o22,h22,h⟩:=bs h;rw [pK e y3 hf] at h22;cases h22;unfold rR at h;by_cases z:n9 e.kind [] e.aT=0
 ·simp only [z,if_true] at h;obtain⟨c27,_,h⟩:=bs h;obtain⟨c28,_,h⟩:=bs h;split at h
  ·cases h;decide
  ·cases h;decide
 ·simp only [z,if_false] at h;cases h;exact aKB _ _ _
theorem aMY{f:Expr→Int}: ∀{l:List Expr}(_: ∀y∈l,f y≠10),nW f l≠10
 | [],_=>by simp [nW]
 |y::r,h=>by
  rw [nW];split
  ·exact aMY fun z hz=>h z (.tail _ hz)
  ·exact h y (.head _)
theorem aQ7: ∀(n:Nat)(e:Expr),bH e≤n→Fit e→chk e≠10
 |0,e,h=>by have:=bQ e;omega
 |n+1,e,h=>by
  intro hf;obtain⟨_,_,v,h1,h2⟩:=qN aB3 _ e (Nat.le_refl _) hf;rw [h2];split
  ·exact aMY fun y hy=>aQ7 n y (by have:=bK hy;omega) (hf.part hy)
  ·exact aSn hf h1
theorem aHN{e:Expr}(hf:Fit e): ∀v,g8 e=some v→v≠10:=by
 intro v h;obtain⟨h1,_,_⟩:=qN aB3 _ e (Nat.le_refl _) hf;rw [g8] at h;obtain⟨x,_,h⟩:=bs h;split at h
 ·cases h;decide
 ·rw [h1] at h;cases h;exact aQ7 _ e (Nat.le_refl _) hf
def aVH(s:qB):Int:=if(0:Int)<(s.countP (·.2):Nat) then(if(0:Int)<(s.countP (!·.2):Nat) then 2 else 0) else(if(0:Int)<(s.countP (!·.2):Nat) then 1 else 3)
theorem aPj{e:Expr}{k:Str}(hf:Fit e):(∃v,v≠0∧v≠10∧fS e k=some (0,[],v)∧gS e k=some ([],v))∨
  (WF e∧p6 k=true∧((∃s,cT k e= .ret s∧fS e k=some (aVH s,[],0)∧gS e k=some (s.map (·.1),0))∨
   (∃p,cT k e= .nx p∧fS e k=some (0,p,10)∧gS e k=some ([],10)∧p.length<bH e))):=by
 obtain⟨v,h1,h2⟩:=aA6 (k:=k) hf;have hv10:=aHN hf v h1;rw [fS,gS,h2];simp only [Option.bind_eq_bind,Option.bind_some];by_cases h0:v=0
 rotate_left
 ·left
  refine⟨v,h0,hv10,?_,?_⟩<;>simp [h0]
 subst h0;cases hv:p6 k with
 |false=>exact .inl ⟨4,by decide,by decide,rfl,rfl⟩
 |true=>
  right
  have hw:WF e:=⟨hf,aA5 hf h1⟩
  refine⟨hw,rfl,?_⟩;have hkn:=aE0 hv;obtain⟨c,c1,c2⟩:=aF7 (k:=k) hw;simp only [c1,Option.bind_some];cases hL:cT k e with
  |nx p=>
   rw [hL] at c2;subst c2;obtain⟨_,f2⟩:=aHH _ e (Nat.le_refl _) hw k hkn p hL;exact .inr ⟨p,rfl,rfl,rfl,f2⟩
  |ret s=>
   rw [hL] at c2;subst c2;refine .inl ⟨s,rfl,?_,rfl⟩;unfold aVH;generalize ((s.countP (·.2):Nat):Int)=A;generalize ((s.countP (!·.2):Nat):Int)=B;by_cases a:0<A<;>by_cases b:0<B<;>simp [a,b]
theorem aAE(l:List Int)(h:l.length≤4194304):lM l l=some true:=by
 have:=cH (l:=l) (C:=fun j _=>gH l l (j:Int)=some (.nx ())) (by omega) (fun hd=>by rw [gH,hd];rfl) fun j y r _ _ _ hlt hi hw ih=>by
  rw [gH,if_pos hlt];simp only [hi,Option.bind_eq_bind,Option.bind_some,nf,hw,ih];simp
 rw [lM,show gH l l 0=_ from this];simp
theorem aEQ(l:List (List Int))(h:l.length≤4194304)(hp: ∀p∈l,p.length≤4194304):lY l l=some true:=by
 have:=cH (l:=l) (C:=fun j _=>fP l l (j:Int)=some (.nx ())) (by omega) (fun hd=>by rw [fP,hd];rfl) fun j y r _ _ hy hlt hi hw ih=>by
  rw [fP,if_pos hlt];simp only [hi,Option.bind_eq_bind,Option.bind_some,nf,hw,ih,aAE y (hp y hy)];simp
 rw [lY,show fP l l 0=_ from this];simp
theorem aO5:aCb=some true:=rfl
theorem aOI{k:Str}{e:Expr}{s:qB}(hf:Fit e)(h:cT k e= .ret s):(s.map (·.1)).length≤1048576∧ ∀p∈s.map (·.1),p.length≤1048576:=by
 have hfit:bH e≤1048576:=hf;have g3:=vR _ k e (Nat.le_refl _);rw [h] at g3;simp only [kZ] at g3;refine⟨by simp;omega,fun p hp=> ?_⟩;obtain⟨q,hq,rfl⟩:=List.mem_map.1 hp;have:=z7 _ e (Nat.le_refl _) k s h q hq;omega
theorem aGZ{e:Expr}{k:Str}(hf:Fit e)(hk:k.length≤1048576):jQ e k=some true:=by
 have hfit:bH e≤1048576:=hf;obtain⟨q,q1,q2⟩:=aPD hf hk;obtain⟨⟨c,c1,c2⟩,d,d1,d2⟩:=aOh hf hk (aHN hf);have hlen:c.2.1.length≤4194304∧d.1.length≤4194304∧ ∀p∈d.1,p.length≤4194304:=by
  rcases aPj (k:=k) hf with ⟨v,_,_,h1,h2⟩|⟨hw,_,⟨s,hL,h1,h2⟩|⟨p,hL,h1,h2,h3⟩⟩
  ·rw [h1] at c1;rw [h2] at d1;cases c1;cases d1;exact⟨by simp,by simp,fun p hp=>by cases hp⟩
  ·rw [h1] at c1;rw [h2] at d1;cases c1;cases d1;obtain⟨g1,g2⟩:=aOI hf hL;exact⟨by simp,Nat.le_trans g1 (by omega),fun p hp=>Nat.le_trans (g2 p hp) (by omega)⟩
  ·rw [h1] at c1;rw [h2] at d1;cases c1;cases d1;exact⟨by show p.length≤_;omega,by simp,fun p hp=>by cases hp⟩
 obtain⟨l1,l2,l3⟩:=hlen;rw [jQ,q1,q2,c1,c2,d1,d2];simp only [Option.bind_eq_bind,Option.bind_some,aAE _ l1,aEQ _ l2 l3,aO5];simp
end Go.Proofs.YtelnnehpbkainaaGreatDoor
namespace Go.Fw
open Go
section
variable {P : Program}
inductive aF4(P:Program):List TypeId→List (List AV)→Prop
 |nil:aF4 P [] []
 |cons {t:TypeId} {ts:List TypeId} {c:List AV} {cs:List (List AV)} (h:TyC P t c) (r:aF4 P ts cs):aF4 P (t::ts) (c::cs)
theorem aIT: ∀{fs:List Field}{css:List (List AV)},css.length=fs.length→(∀(i:Nat)(f:Field)(cs:List AV),fs[i]?=some f→css[i]?=some cs→TyC P f.type cs)→aF4 P (fs.map (·.type)) css
 | [],css,hl,_=>by
  have:css= []:=List.length_eq_zero_iff.1 hl;subst this;exact .nil
 |f::fs,[],hl,_=>by simp at hl
 |f::fs,c::css,hl,h=> .cons (h 0 f c rfl rfl) (aIT (by simpa using hl) fun i g cs hg hc=>h (i+1) g cs (by simpa using hg) (by simpa using hc))
theorem TyC.aLA{t:TypeId}{fs:Array Field}{cs:List AV}(hu:P.underlying t=some (.struct fs))(h:TyC P t cs): ∃css,cs=css.flatten∧aF4 P (fs.toList.map (·.type)) css:=by
 cases h with
 |struct h hl hc=>
  rw [hu] at h;cases h;exact⟨_,rfl,aIT (by simpa using hl) fun i f cs hf hcs=>hc i f cs (by simpa using hf) hcs⟩
 |bool b h=>rw [hu] at h;cases h
 |int h hn=>rw [hu] at h;cases h
 |str s h hs=>rw [hu] at h;cases h
 |aOu h=>rw [hu] at h;cases h
 |ptr h hc=>rw [hu] at h;cases h
 |slice h hl hc=>rw [hu] at h;cases h
 |array h hl hc=>rw [hu] at h;cases h
theorem TyC.aSL{t:TypeId}{k:IntKind}{cs:List AV}(hu:P.underlying t=some (.int k))(h:TyC P t cs): ∃n,cs= [.int k n]∧k.wrap n=n:=by
 cases h with
 |int h hn=>rw [hu] at h;cases h;exact⟨_,rfl,hn⟩
 |bool b h=>rw [hu] at h;cases h
 |str s h hs=>rw [hu] at h;cases h
 |aOu h=>rw [hu] at h;cases h
 |ptr h hc=>rw [hu] at h;cases h
 |slice h hl hc=>rw [hu] at h;cases h
 |struct h hl hc=>rw [hu] at h;cases h
 |array h hl hc=>rw [hu] at h;cases h
theorem TyC.aSw{t:TypeId}{cs:List AV}(hu:P.underlying t=some .string)(h:TyC P t cs): ∃s,cs= [.str s]∧s.length≤maxLen:=by
 cases h with
 |str s h hs=>exact⟨_,rfl,hs⟩
 |bool b h=>rw [hu] at h;cases h
 |int h hn=>rw [hu] at h;cases h
 |aOu h=>rw [hu] at h;cases h
 |ptr h hc=>rw [hu] at h;cases h
 |slice h hl hc=>rw [hu] at h;cases h
 |struct h hl hc=>rw [hu] at h;cases h
 |array h hl hc=>rw [hu] at h;cases h
theorem TyC.aN4{t e:TypeId}{cs:List AV}(hu:P.underlying t=some (.slice e))(h:TyC P t cs): ∃css:List (List AV),cs= [slA (P.cellsOf e) (css.map (mkV P e))]∧css.length≤maxLen∧ ∀c∈css,TyC P e c:=by
 cases h with
 |slice h hl hc=>rw [hu] at h;cases h;exact⟨_,rfl,hl,hc⟩
 |bool b h=>rw [hu] at h;cases h
 |int h hn=>rw [hu] at h;cases h
 |str s h hs=>rw [hu] at h;cases h
 |aOu h=>rw [hu] at h;cases h
 |ptr h hc=>rw [hu] at h;cases h
 |struct h hl hc=>rw [hu] at h;cases h
 |array h hl hc=>rw [hu] at h;cases h
theorem aR0{e:TypeId}{fs:Array Field}(he:P.underlying e=some (.struct fs))(c:List AV):mkV P e c= .agg c:=by simp [mkV,pC,he]
end
mutual
def n7:AV→Nat
 | .str s=>s.length+1
 | .int _ _=>1
 | .bool _=>1
 | .eH=>1
 | .slice _ xs _=>dX xs+1
 | .agg cs=>dX cs
 | .aG v _=>n7 v+1
 |_=>0
def dX:List AV→Nat
 | []=>0
 |v::r=>n7 v+dX r
end
theorem wM: ∀a b:List AV,dX (a++b)=dX a+dX b
 | [],b=>by simp [dX]
 |x::a,b=>by simp only [List.cons_append,dX,wM a b];omega
theorem aEb(P:Program)(e:TypeId)(cs:List AV):n7 (mkV P e cs)≤dX cs:=by
 unfold mkV;split
 ·cases cs with
  |nil=>simp [fW,n7]
  |cons c r=>simp [dX]
 ·simp [n7]
theorem aEV(sz:Nat)(xs:List AV):n7 (slA sz xs)=dX xs+1:=by simp only [slA,n7]
inductive KT where
 |bool
 |int (k:IntKind)
 |str
 |slice (e:TypeId)
 |ptr (e:TypeId)
 |struct (us:List TypeId)
 |array (n:Nat) (e:TypeId)
def kTy(P:Program)(t:TypeId):Option KT:=
 match P.underlying t with
 |some .bool=>some .bool
 |some (.int k)=>some (.int k)
 |some .string=>some .str
 |some (.slice e)=>some (.slice e)
 |some (.pointer e)=>some (.ptr e)
 |some (.struct fs)=>some (.struct (fs.toList.map (·.type)))
 |some (.array n e)=>some (.array n e)
 |_=>none
section
variable {P : Program} {t : TypeId}
theorem aRi{k:IntKind}(h:kTy P t=some (.int k)):P.underlying t=some (.int k):=by
 unfold kTy at h;split at h<;>cases h;assumption
theorem aRC(h:kTy P t=some .str):P.underlying t=some .string:=by
 unfold kTy at h;split at h<;>cases h;assumption
theorem aN1{e:TypeId}(h:kTy P t=some (.slice e)):P.underlying t=some (.slice e):=by
 unfold kTy at h;split at h<;>cases h;assumption
theorem aEx{us:List TypeId}(h:kTy P t=some (.struct us)): ∃fs,P.underlying t=some (.struct fs)∧fs.toList.map (·.type)=us:=by
 unfold kTy at h;split at h<;>cases h;exact⟨_,by assumption,rfl⟩
mutual
def msr:AV→Nat
 | .slice _ xs _=>aAn xs+1
 | .agg cs=>aAn cs+1
 | .aG v _=>msr v+1
 |_=>1
def aAn:List AV→Nat
 | []=>0
 |v::r=>msr v+aAn r
end
theorem aFm: ∀a b:List AV,aAn (a++b)=aAn a+aAn b
 | [],b=>by simp [aAn]
 |x::a,b=>by simp only [List.cons_append,aAn,aFm a b];omega
theorem aKH: ∀{l:List AV}{v:AV},v∈l→msr v≤aAn l
 |x::r,v,h=>by
  simp only [aAn];rcases List.mem_cons.1 h with rfl|h
  ·omega
  ·have:=aKH h;omega
def RdM{α:Type}(m:Nat)(P:Program)(t:TypeId)(g:α→List AV):Prop:= ∀cs,TyC P t cs→aAn cs<m→ ∃x,cs=g x
theorem aPN{k:IntKind}(h:kTy P t=some (.int k))(m:Nat):RdM m P t fun n=> [.int k n]:=fun cs hc _=>by
 obtain⟨n,rfl,_⟩:=hc.aSL (aRi h);exact⟨n,rfl⟩
theorem aTG(h:kTy P t=some .str)(m:Nat):RdM m P t fun s=> [.str s]:=fun cs hc _=>by
 obtain⟨n,rfl,_⟩:=hc.aSw (aRC h);exact⟨n,rfl⟩
theorem aRX{e:TypeId}{cs:List AV}(h:TyC P e cs):aAn cs≤msr (mkV P e cs):=by
 unfold mkV;split
 ·rename_i ha;obtain⟨a,rfl,_⟩:=h.lone ha;simp [aAn]
 ·simp only [msr];omega
theorem aRc{α:Type}{g:α→List AV}{f:α→AV}{e:TypeId}{sz:Nat}(h:kTy P t=some (.slice e))(hs:P.cellsOf e=sz)(hf: ∀x,mkV P e (g x)=f x){m:Nat}(hg:RdM m P e g):RdM (m+1) P t fun l:List α=> [slA sz (l.map f)]:=fun cs hc hm=>by
 obtain⟨css,rfl,_,hall⟩:=hc.aN4 (aN1 h);simp only [slA,aAn,msr] at hm;have: ∀c∈css,∃x:α,mkV P e c=f x:=fun c hc=>by
  have h1:=aRX (hall c hc);have h2:=aKH (List.mem_map.2 ⟨c,hc,rfl⟩:mkV P e c∈css.map (mkV P e));obtain⟨x,rfl⟩:=hg c (hall c hc) (by omega);exact⟨x,hf x⟩
 have key: ∀{css:List (List AV)},(∀c∈css,∃x:α,mkV P e c=f x)→ ∃l:List α,css.map (mkV P e)=l.map f:=by
  intro css
  induction css with
  |nil=>intro _;exact⟨[],rfl⟩
  |cons c css ih=>
   intro h;obtain⟨x,hx⟩:=h c (List.mem_cons_self ..);obtain⟨l,h1⟩:=ih fun c hc=>h c (List.mem_cons_of_mem _ hc);exact⟨x::l,by simp [hx,h1]⟩
 obtain⟨l,hl⟩:=key this;exact⟨l,by rw [hl,hs]⟩
theorem aFW{us:List TypeId}(h:kTy P t=some (.struct us)){cs:List AV}(hc:TyC P t cs): ∃css,cs=css.flatten∧aF4 P us css:=by
 obtain⟨fs,h1,rfl⟩:=aEx h;exact hc.aLA h1
theorem aIS{k:KT}(h:kTy P t=some k)(hk:match k with| .struct _=>False| .array _ _=>False|_=>True)(a:AV):mkV P t [a]=a:=by
 unfold kTy at h;unfold mkV pC;split at h<;>cases h<;>first|(simp_all;done)|cases hk
theorem aMg{us:List TypeId}(h:kTy P t=some (.struct us))(cs:List AV):mkV P t cs= .agg cs:=by
 obtain⟨fs,h1,rfl⟩:=aEx h;exact aR0 h1 cs
theorem RdM.val{α:Type}{g:α→List AV}{f:α→AV}(hg: ∀m,RdM m P t g)(hf: ∀x,mkV P t (g x)=f x){cs:List AV}(h:TyC P t cs): ∃x,mkV P t cs=f x:=by
 obtain⟨x,rfl⟩:=hg _ cs h (Nat.lt_succ_self _);exact⟨x,hf x⟩
end
end Go.Fw
set_option maxRecDepth 100000
namespace Go.Proofs.YtelnnehpbkainaaGreatDoor
open Go Go.Fw
theorem aVQ(m:Nat):RdM m Tryz.prog 22 (fun x:Int=> [(.int .i64 x)]):=aPN (by kernel_rfl) m
theorem rd3(m:Nat):RdM m Tryz.prog 3 (fun x:Int=> [(.int .i64 x)]):=aPN (by kernel_rfl) m
theorem rd9(m:Nat):RdM m Tryz.prog 9 (fun x:Str=> [(.str x)]):=aTG (by kernel_rfl) m
theorem aVG(m:Nat):RdM m Tryz.prog 23 (fun x:(List Str)=> [(slA 1 (x.map AV.str))]):=fun cs hc hm=>aRc (by kernel_rfl) (by kernel_rfl) (fun x=>aIS (k:= .str) (by kernel_rfl) trivial _) (rd9 m) cs hc (Nat.lt_succ_of_lt hm)
theorem aVo: ∀m:Nat,RdM m Tryz.prog 27 kF∧RdM m Tryz.prog 66 nL:=by
 intro m
 induction m with
 |zero=>exact⟨fun _ _ hm=>absurd hm (Nat.not_lt_zero _),fun _ _ hm=>absurd hm (Nat.not_lt_zero _)⟩
 |succ m ih=>
  obtain⟨ih27,ih66⟩:=ih;refine⟨?_,?_⟩
  ·intro cs hc hm;obtain⟨css,rfl,h⟩:=aFW (us:= [22,3,9,9,23,24,25]) (by kernel_rfl) hc;cases h with|cons h0 h=>
   cases h with|cons h1 h=>
   cases h with|cons h2 h=>
   cases h with|cons h3 h=>
   cases h with|cons h4 h=>
   cases h with|cons h5 h=>
   cases h with|cons h6 h=>
   cases h;obtain⟨x0,rfl⟩:=aVQ _ _ h0 (Nat.lt_succ_self _);obtain⟨x1,rfl⟩:=rd3 _ _ h1 (Nat.lt_succ_self _);obtain⟨x2,rfl⟩:=rd9 _ _ h2 (Nat.lt_succ_self _);obtain⟨x3,rfl⟩:=rd9 _ _ h3 (Nat.lt_succ_self _);obtain⟨x4,rfl⟩:=aVG _ _ h4 (Nat.lt_succ_self _);simp only [List.flatten_cons,List.flatten_nil,aFm,aAn,msr] at hm;obtain⟨x5,rfl⟩:=aRc (sz:=7) (f:=aP) (by kernel_rfl) (by kernel_rfl) (fun x=>aMg (us:= [22,3,9,9,23,24,25]) (by kernel_rfl) _) ih27 _ h5 (by omega);obtain⟨x6,rfl⟩:=aRc (sz:=9) (f:=aZ) (by kernel_rfl) (by kernel_rfl) (fun x=>aMg (us:= [9,23,27]) (by kernel_rfl) _) ih66 _ h6 (by omega);exact⟨.mk x0 x1 x2 x3 x4 x5 x6,by simp only [kF,rL,pP,List.flatten_cons,List.flatten_nil,List.append_nil,List.append_assoc];try rfl⟩
  ·intro cs hc hm;obtain⟨css,rfl,h⟩:=aFW (us:= [9,23,27]) (by kernel_rfl) hc;cases h with|cons h0 h=>
   cases h with|cons h1 h=>
   cases h with|cons h2 h=>
   cases h;obtain⟨x0,rfl⟩:=rd9 _ _ h0 (Nat.lt_succ_self _);obtain⟨x1,rfl⟩:=aVG _ _ h1 (Nat.lt_succ_self _);simp only [List.flatten_cons,List.flatten_nil,aFm,aAn,msr] at hm;obtain⟨x2,rfl⟩:=ih27 _ h2 (by omega);exact⟨.mk x0 x1 x2,by simp only [nL,rL,pP,List.flatten_cons,List.flatten_nil,List.append_nil,List.append_assoc];try rfl⟩
theorem aVS(m:Nat):RdM m Tryz.prog 27 kF:=(aVo m).1
theorem aV9{cs:List AV}(h:TyC Tryz.prog 27 cs): ∃x:Expr,mkV Tryz.prog 27 cs=aP x:=RdM.val aVS (fun x=>aMg (us:= [22,3,9,9,23,24,25]) (by kernel_rfl) _) h
theorem rv9{cs:List AV}(h:TyC Tryz.prog 9 cs): ∃x:Str,mkV Tryz.prog 9 cs=AV.str x:=RdM.val rd9 (fun x=>aIS (k:= .str) (by kernel_rfl) trivial _) h
theorem aD0: ∀l:List Str,v3 l≤dX (l.map AV.str)
 | []=>by simp [v3,dX]
 |x::r=>by
  have:=aD0 r;simp only [v3,List.map_cons,dX,n7];omega
theorem aKg: ∀{l:List Expr}(_: ∀y∈l,bH y≤n7 (aP y)),eA l≤dX (l.map aP)
 | [],_=>by simp [eA,dX]
 |x::r,h=>by
  have h1:=h x (.head _);have h2:=aKg (l:=r) fun y hy=>h y (.tail _ hy);simp only [eA,List.map_cons,dX];omega
theorem aKb: ∀{l:List Arm}(_: ∀y∈l,aEC y≤n7 (aZ y)),vK l≤dX (l.map aZ)
 | [],_=>by simp [vK,dX]
 |x::r,h=>by
  have h1:=h x (.head _);have h2:=aKb (l:=r) fun y hy=>h y (.tail _ hy);simp only [vK,List.map_cons,dX];omega
theorem aEN: ∀(n:Nat)(e:Expr),bH e≤n→bH e≤n7 (aP e)
 |0,e,h=>by have:=bQ e;omega
 |n+1,e,h=>by
  have hl: ∀y∈e.l,bH y≤n7 (aP y):=fun y hy=>aEN n y (by have:=bK (o0 hy);omega);have ha: ∀a∈e.aT,aEC a≤n7 (aZ a):=fun a ha=>by
   have h1:=aEN n a.body (by have:=bK (uP ha);omega);have h2:=aD0 a.names;cases a with
   |mk op names body=>
    rw [bN] at h1;simp only [aZ,n7,nL,wM,dX,aEV,aEC,uS];simp only [n7,dX,aEV,Arm.body,Arm.names] at h1 h2;omega
  have h1:=aKg hl;have h2:=aKb ha;have h3:=aD0 e.names;rw [bN,rO];simp only [n7,dX,aEV];omega
theorem aB4: ∀avs,Typed Tryz.prog [27,9] avs→dX avs≤1048576→ ∃n s',(cU (aAP Code.tab gl0) n).call (.func 3) avs eB=some (.ret (.bool true),s'):=by
 intro avs h hb;cases h with|cons h1 h=>
 cases h with|cons h2 h=>
 cases h;obtain⟨e,he⟩:=aV9 h1;obtain⟨k,hk⟩:=rv9 h2;rw [he,hk] at hb⊢;have h3:=aEN _ e (Nat.le_refl _);simp only [dX,n7] at hb;have hf:Fit e:=by show bH e≤_;omega
 rw [bN];exact aOb (yB (aGZ hf (by omega)))
end Go.Proofs.YtelnnehpbkainaaGreatDoor
set_option maxRecDepth 100000
namespace Go.Proofs.YtelnnehpbkainaaGreatDoor.Code
open Go Go.Fw
theorem fk{P:Program}{k:Nat}{fn:Func}{a:AF}(h:Hint)(h1:P.funcs[k]?=some fn)(h2:yJ P h fn=some a)(h3:(pL fn.ntmps false a.body&& !(fn.name== "runtime.NumGoroutine"))=true):cR P k a:=by
 simp only [Bool.and_eq_true,Bool.not_eq_true'] at h3;exact⟨fn,h,h1,h2,h3.1,h3.2⟩
theorem fd{k:Nat}{h:Hint}(h2:(match Tryz.prog.funcs[k]? with|some fn=>(yJ Tryz.prog h fn).isSome&&pL fn.ntmps false (ck h fn).body&& !(fn.name== "runtime.NumGoroutine")|none=>false)=true):cR Tryz.prog k (cD k h):=by
 unfold cD;cases hf:Tryz.prog.funcs[k]? with
 |none=>rw [hf] at h2;cases h2
 |some fn=>
  rw [hf] at h2;simp only [Bool.and_eq_true,Bool.not_eq_true'] at h2;refine⟨fn,h,hf,?_,h2.1.2,h2.2⟩;show yJ Tryz.prog h fn=some (ck h fn);unfold ck;cases hc:yJ Tryz.prog h fn with
  |none=>rw [hc] at h2;exact absurd h2.1.1 (by decide)
  |some a=>rfl
theorem q3:cR Tryz.prog 3 c3:=fk ⟨[2],[],[84,77,72,66,55,45,38,24,18],[],[]⟩ Tryz.func3 (by kernel_rfl) (by kernel_rfl)
theorem q13:cR Tryz.prog 13 c13:=fk ⟨[2],[],[16,9],[],[]⟩ Tryz.func13 (by kernel_rfl) (by kernel_rfl)
theorem q14:cR Tryz.prog 14 c14:=fk ⟨[2],[],[17,13,8],[],[]⟩ Tryz.func14 (by kernel_rfl) (by kernel_rfl)
theorem q15:cR Tryz.prog 15 c15:=fk ⟨[2],[],[13],[],[]⟩ Tryz.func15 (by kernel_rfl) (by kernel_rfl)
theorem q16:cR Tryz.prog 16 c16:=fk ⟨[2],[],[22,15,10],[],[]⟩ Tryz.func16 (by kernel_rfl) (by kernel_rfl)
theorem q17:cR Tryz.prog 17 c17:=fk hz Tryz.func17 (by kernel_rfl) (by kernel_rfl)
theorem q18:cR Tryz.prog 18 c18:=fk ⟨[2],[],[12],[],[]⟩ Tryz.func18 (by kernel_rfl) (by kernel_rfl)
theorem q19:cR Tryz.prog 19 c19:=fk ⟨[2],[],[15,9],[],[]⟩ Tryz.func19 (by kernel_rfl) (by kernel_rfl)
theorem q20:cR Tryz.prog 20 c20:=fk ⟨[],[],[25],[],[]⟩ Tryz.func20 (by kernel_rfl) (by kernel_rfl)
theorem q32:cR Tryz.prog 32 c32:=fk ⟨[],[],[23,15],[],[]⟩ Tryz.func32 (by kernel_rfl) (by kernel_rfl)
theorem q35:cR Tryz.prog 35 c35:=fk ⟨[1],[],[],[],[]⟩ Tryz.func35 (by kernel_rfl) (by kernel_rfl)
theorem q37:cR Tryz.prog 37 c37:=fk ⟨[1],[],[7,4],[],[]⟩ Tryz.func37 (by kernel_rfl) (by kernel_rfl)
theorem q38:cR Tryz.prog 38 c38:=fk ⟨[2],[],[10],[],[]⟩ Tryz.func38 (by kernel_rfl) (by kernel_rfl)
theorem q42:cR Tryz.prog 42 c42:=fk ⟨[],[],[8,6,4],[],[]⟩ Tryz.func42 (by kernel_rfl) (by kernel_rfl)
theorem q46:cR Tryz.prog 46 c46:=fk ⟨[2],[],[12,7],[],[]⟩ Tryz.func46 (by kernel_rfl) (by kernel_rfl)
theorem q47:cR Tryz.prog 47 c47:=fk ⟨[2],[],[10],[],[]⟩ Tryz.func47 (by kernel_rfl) (by kernel_rfl)
theorem q48:cR Tryz.prog 48 c48:=fk ⟨[2],[],[],[],[]⟩ Tryz.func48 (by kernel_rfl) (by kernel_rfl)
theorem q49:cR Tryz.prog 49 c49:=fk ⟨[2],[],[16,12,7],[],[]⟩ Tryz.func49 (by kernel_rfl) (by kernel_rfl)
theorem q50:cR Tryz.prog 50 c50:=fk ⟨[2],[],[234,228,216,200,199,192,182,181,170,159,144,139,130,129,123,122,115,109,104,95,94,82,77,70,66,59,58,51,45,37,33],[],[]⟩ Tryz.func50 (by kernel_rfl) (by kernel_rfl)
theorem q51:cR Tryz.prog 51 c51:=fk ⟨[2],[9],[13],[],[26]⟩ Tryz.func51 (by kernel_rfl) (by kernel_rfl)
theorem q52:cR Tryz.prog 52 c52:=fk ⟨[2],[],[57,44,29,17,14],[],[]⟩ Tryz.func52 (by kernel_rfl) (by kernel_rfl)
theorem q60:cR Tryz.prog 60 c60:=fk hz Tryz.func60 (by kernel_rfl) (by kernel_rfl)
theorem q61:cR Tryz.prog 61 c61:=fk hz Tryz.func61 (by kernel_rfl) (by kernel_rfl)
theorem q62:cR Tryz.prog 62 c62:=fk ⟨[1],[],[],[],[]⟩ Tryz.func62 (by kernel_rfl) (by kernel_rfl)
theorem q63:cR Tryz.prog 63 c63:=fk ⟨[],[],[7],[],[]⟩ Tryz.func63 (by kernel_rfl) (by kernel_rfl)
theorem q64:cR Tryz.prog 64 c64:=fk ⟨[2],[],[],[],[]⟩ Tryz.func64 (by kernel_rfl) (by kernel_rfl)
theorem q69:cR Tryz.prog 69 c69:=fk ⟨[3],[],[56,42],[],[]⟩ Tryz.func69 (by kernel_rfl) (by kernel_rfl)
theorem q70:cR Tryz.prog 70 c70:=fk ⟨[1],[],[24,13,8],[],[]⟩ Tryz.func70 (by kernel_rfl) (by kernel_rfl)
theorem q71:cR Tryz.prog 71 c71:=fk ⟨[2],[],[65,59,48,38,36,26,20,13],[],[]⟩ Tryz.func71 (by kernel_rfl) (by kernel_rfl)
theorem q73:cR Tryz.prog 73 c73:=fk hz Tryz.func73 (by kernel_rfl) (by kernel_rfl)
theorem q75:cR Tryz.prog 75 c75:=fk ⟨[],[],[13],[],[]⟩ Tryz.func75 (by kernel_rfl) (by kernel_rfl)
theorem q76:cR Tryz.prog 76 c76:=fk hz Tryz.func76 (by kernel_rfl) (by kernel_rfl)
theorem q77:cR Tryz.prog 77 c77:=fk ⟨[],[],[7,4],[],[]⟩ Tryz.func77 (by kernel_rfl) (by kernel_rfl)
theorem q81:cR Tryz.prog 81 c81:=fk ⟨[1],[3],[7],[],[]⟩ Tryz.func81 (by kernel_rfl) (by kernel_rfl)
theorem q82:cR Tryz.prog 82 c82:=fk ⟨[7,6,5,4],[11],[56,29,19,36],[],[47]⟩ Tryz.func82 (by kernel_rfl) (by kernel_rfl)
theorem q83:cR Tryz.prog 83 c83:=fk ⟨[],[5],[],[],[]⟩ Tryz.func83 (by kernel_rfl) (by kernel_rfl)
theorem q84:cR Tryz.prog 84 c84:=fk ⟨[3],[],[],[],[]⟩ Tryz.func84 (by kernel_rfl) (by kernel_rfl)
theorem q85:cR Tryz.prog 85 c85:=fk ⟨[2],[],[159,150,133,121,110,93,84,76,69,60,45,37,24,16],[],[]⟩ Tryz.func85 (by kernel_rfl) (by kernel_rfl)
theorem q86:cR Tryz.prog 86 c86:=fk ⟨[2],[],[],[],[]⟩ Tryz.func86 (by kernel_rfl) (by kernel_rfl)
theorem q87:cR Tryz.prog 87 c87:=fk ⟨[2],[],[18,7],[],[]⟩ Tryz.func87 (by kernel_rfl) (by kernel_rfl)
theorem q88:cR Tryz.prog 88 c88:=fk ⟨[2],[],[39,33,26,24,15,11],[],[]⟩ Tryz.func88 (by kernel_rfl) (by kernel_rfl)
theorem q98:cR Tryz.prog 98 c98:=fk hz Tryz.func98 (by kernel_rfl) (by kernel_rfl)
theorem aWa:cR Tryz.prog 104 aUJ:=fk ⟨[1],[4],[114,107,40,33,27,14,8],[],[]⟩ Tryz.func104 (by kernel_rfl) (by kernel_rfl)
theorem aWc:cR Tryz.prog 105 aTy:=fk hz Tryz.func105 (by kernel_rfl) (by kernel_rfl)
theorem aWs:cR Tryz.prog 109 aSm:=fk ⟨[],[],[31,17],[],[]⟩ Tryz.func109 (by kernel_rfl) (by kernel_rfl)
theorem aVJ:cR Tryz.prog 110 aUA:=fk hz Tryz.func110 (by kernel_rfl) (by kernel_rfl)
theorem aVP:cR Tryz.prog 113 aUp:=fk ⟨[1],[],[],[],[12]⟩ Tryz.func113 (by kernel_rfl) (by kernel_rfl)
theorem aWG:cR Tryz.prog 114 aUI:=fk ⟨[2],[],[],[],[]⟩ Tryz.func114 (by kernel_rfl) (by kernel_rfl)
theorem aVX:cR Tryz.prog 115 aT1:=fk ⟨[],[],[7],[],[]⟩ Tryz.func115 (by kernel_rfl) (by kernel_rfl)
theorem aWr:cR Tryz.prog 116 aUV:=fk ⟨[1],[],[],[],[]⟩ Tryz.func116 (by kernel_rfl) (by kernel_rfl)
theorem aVO:cR Tryz.prog 117 aUP:=fk ⟨[3],[],[74,26],[],[]⟩ Tryz.func117 (by kernel_rfl) (by kernel_rfl)
theorem aVT:cR Tryz.prog 118 aUo:=fk ⟨[3],[],[],[],[]⟩ Tryz.func118 (by kernel_rfl) (by kernel_rfl)
theorem aWl:cR Tryz.prog 119 aTU:=fk ⟨[3,2],[5],[15,7],[27],[]⟩ Tryz.func119 (by kernel_rfl) (by kernel_rfl)
theorem aWB:cR Tryz.prog 120 aUC:=fk ⟨[3,2],[5,4],[33],[],[11,9]⟩ Tryz.func120 (by kernel_rfl) (by kernel_rfl)
theorem aWn:cR Tryz.prog 121 aUh:=fk ⟨[3],[],[20,16,10],[],[5]⟩ Tryz.func121 (by kernel_rfl) (by kernel_rfl)
theorem aVW:cR Tryz.prog 122 aUG:=fk ⟨[3,2],[5],[12,17],[],[30,7]⟩ Tryz.func122 (by kernel_rfl) (by kernel_rfl)
theorem aWu:cR Tryz.prog 123 aTF:=fk ⟨[3,2],[5],[30,23,11],[],[8]⟩ Tryz.func123 (by kernel_rfl) (by kernel_rfl)
theorem aWq:cR Tryz.prog 124 aTI:=fk ⟨[2],[],[8,6],[],[]⟩ Tryz.func124 (by kernel_rfl) (by kernel_rfl)
theorem aWA:cR Tryz.prog 127 aTs:=fk ⟨[],[],[7],[],[]⟩ Tryz.func127 (by kernel_rfl) (by kernel_rfl)
theorem aV7:cR Tryz.prog 137 aUD:=fk hz Tryz.func137 (by kernel_rfl) (by kernel_rfl)
theorem aWK:cR Tryz.prog 147 aTM:=fk ⟨[5,4,3],[],[],[],[]⟩ Tryz.func147 (by kernel_rfl) (by kernel_rfl)
theorem aWj:cR Tryz.prog 149 aUL:=fk ⟨[],[],[13,9],[],[]⟩ Tryz.func149 (by kernel_rfl) (by kernel_rfl)
theorem aWo:cR Tryz.prog 150 aTt:=fk ⟨[1],[],[5],[],[]⟩ Tryz.func150 (by kernel_rfl) (by kernel_rfl)
theorem aWh:cR Tryz.prog 155 aUq:=fk ⟨[],[],[4],[],[]⟩ Tryz.func155 (by kernel_rfl) (by kernel_rfl)
theorem aWd:cR Tryz.prog 156 aRv:=fk ⟨[],[],[23,14],[],[]⟩ Tryz.func156 (by kernel_rfl) (by kernel_rfl)
theorem aV6:cR Tryz.prog 159 aTN:=fk hz Tryz.func159 (by kernel_rfl) (by kernel_rfl)
theorem aWI:cR Tryz.prog 160 aTQ:=fk ⟨[],[],[17,12,8],[],[]⟩ Tryz.func160 (by kernel_rfl) (by kernel_rfl)
theorem aWe:cR Tryz.prog 161 aRH:=fk ⟨[1],[],[41,30,14,10],[],[]⟩ Tryz.func161 (by kernel_rfl) (by kernel_rfl)
theorem aVM:cR Tryz.prog 162 aQz:=fk ⟨[1],[5],[91,85,69],[],[]⟩ Tryz.func162 (by kernel_rfl) (by kernel_rfl)
theorem aV4:cR Tryz.prog 164 aUv:=fk hz Tryz.func164 (by kernel_rfl) (by kernel_rfl)
theorem aVR:cR Tryz.prog 167 aRp:=fk hz Tryz.func167 (by kernel_rfl) (by kernel_rfl)
theorem aV2:cR Tryz.prog 168 aKz:=fk ⟨[],[],[20],[],[]⟩ Tryz.func168 (by kernel_rfl) (by kernel_rfl)
theorem aWF:cR Tryz.prog 169 aUe:=fk ⟨[2],[],[],[],[35]⟩ Tryz.func169 (by kernel_rfl) (by kernel_rfl)
theorem aWx:cR Tryz.prog 170 aT2:=fk ⟨[3,2],[7],[26,22,12,16],[],[]⟩ Tryz.func170 (by kernel_rfl) (by kernel_rfl)
theorem aVY:cR Tryz.prog 171 aUm:=fk hz Tryz.func171 (by kernel_rfl) (by kernel_rfl)
theorem aWz:cR Tryz.prog 172 aTB:=fk ⟨[],[],[9],[],[]⟩ Tryz.func172 (by kernel_rfl) (by kernel_rfl)
theorem aWD:cR Tryz.prog 173 aUK:=fk hz Tryz.func173 (by kernel_rfl) (by kernel_rfl)
theorem aWi:cR Tryz.prog 174 aUw:=fk ⟨[1],[],[31,14,8],[],[30,29,26]⟩ Tryz.func174 (by kernel_rfl) (by kernel_rfl)
theorem aV3:cR Tryz.prog 175 aSQ:=fk hz Tryz.func175 (by kernel_rfl) (by kernel_rfl)
theorem aV0:cR Tryz.prog 190 aSf:=fk ⟨[],[],[24,17],[],[]⟩ Tryz.func190 (by kernel_rfl) (by kernel_rfl)
theorem aWf:cR Tryz.prog 192 aLH:=fk ⟨[2],[8,6],[],[],[]⟩ Tryz.func192 (by kernel_rfl) (by kernel_rfl)
theorem aVV:cR Tryz.prog 193 aUN:=fk ⟨[3],[],[],[],[]⟩ Tryz.func193 (by kernel_rfl) (by kernel_rfl)
theorem aWC:cR Tryz.prog 194 aUa:=fk ⟨[],[],[4],[],[]⟩ Tryz.func194 (by kernel_rfl) (by kernel_rfl)
theorem aWt:cR Tryz.prog 195 aSB:=fk ⟨[1],[3],[114,102,94,65,52,38,31,24,11],[],[]⟩ Tryz.func195 (by kernel_rfl) (by kernel_rfl)
theorem aVN:cR Tryz.prog 196 aUx:=fk ⟨[2],[],[5],[],[]⟩ Tryz.func196 (by kernel_rfl) (by kernel_rfl)
theorem aWJ:cR Tryz.prog 202 aTC:=fk hz Tryz.func202 (by kernel_rfl) (by kernel_rfl)
theorem aVK:cR Tryz.prog 203 aTP:=fk ⟨[],[],[20],[],[]⟩ Tryz.func203 (by kernel_rfl) (by kernel_rfl)
theorem aV8:cR Tryz.prog 204 aTw:=fk ⟨[],[],[17],[],[]⟩ Tryz.func204 (by kernel_rfl) (by kernel_rfl)
theorem aWv:cR Tryz.prog 212 aUR:=fk hz Tryz.func212 (by kernel_rfl) (by kernel_rfl)
theorem aV5:cR Tryz.prog 213 aTX:=fk ⟨[2],[5],[51,46,60],[],[]⟩ Tryz.func213 (by kernel_rfl) (by kernel_rfl)
theorem aWL:cR Tryz.prog 230 aTr:=fk ⟨[],[],[7],[],[]⟩ Tryz.func230 (by kernel_rfl) (by kernel_rfl)
theorem aVI:cR Tryz.prog 231 aUT:=fk ⟨[2],[],[],[],[]⟩ Tryz.func231 (by kernel_rfl) (by kernel_rfl)
theorem aWk:cR Tryz.prog 244 aR7:=fk ⟨[],[],[16],[],[]⟩ Tryz.func244 (by kernel_rfl) (by kernel_rfl)
theorem aPZ:tab.list= [(3,c3),(13,c13),(14,c14),(15,c15),(16,c16),(17,c17),(18,c18),(19,c19),(20,c20),(21,cD 21 ⟨[],[1],[183,178,173,166,107,106,102,101,99,98,94,93,91,90,86,85,84,83,82,78,77,76,75,74,73,69,68,67,66,65,64,60,54,53,52,51,46,41,40,36,35,34,33,31,30,29,28,27,26],[],[]⟩),(22,cD 22 ⟨[3,2],[],[17,9],[],[]⟩),(24,cD 24 ⟨[1],[],[41,10],[],[]⟩),(26,cD 26 hz),(27,cD 27 hz),(28,cD 28 ⟨[],[],[4],[],[]⟩),(29,cD 29 hz),(30,cD 30 ⟨[5,4],[],[],[],[]⟩),(31,cD 31 ⟨[1],[4,3],[],[],[]⟩),(32,c32),(35,c35),(37,c37),(38,c38),(42,c42),(44,cD 44 ⟨[5,4,3],[],[],[],[]⟩),(46,c46),(47,c47),(48,c48),(49,c49),(50,c50),(51,c51),(52,c52),(53,cD 53 ⟨[3,2],[],[],[],[10,5]⟩),(54,cD 54 ⟨[],[],[1],[],[]⟩),(55,cD 55 ⟨[],[],[11,6],[],[]⟩),(56,cD 56 ⟨[3,2],[],[],[],[]⟩),(57,cD 57 ⟨[3,2],[],[],[],[]⟩),(58,cD 58 ⟨[1],[],[],[],[]⟩),(60,c60),(61,c61),(62,c62),(63,c63),(64,c64),(69,c69),(70,c70),(71,c71),(73,c73),(75,c75),(76,c76),(77,c77),(81,c81),(82,c82),(83,c83),(84,c84),(85,c85),(86,c86),(87,c87),(88,c88),(89,cD 89 hz),(90,cD 90 ⟨[],[],[8],[],[]⟩),(91,cD 91 ⟨[13,1],[8,7,5],[],[],[]⟩),(92,cD 92 ⟨[],[16,14,10,8,6],[29],[],[]⟩),(93,cD 93 hz),(94,cD 94 ⟨[3],[5,4],[],[],[]⟩),(95,cD 95 ⟨[100,60,5,4,3],[7],[81,51],[],[42,24]⟩),(96,cD 96 ⟨[],[3],[5],[],[]⟩),(97,cD 97 ⟨[1],[11,7,4],[80,73,69,57,50,37],[],[]⟩),(98,c98),(104,aUJ),(105,aTy),(109,aSm),(110,aUA),(113,aUp),(114,aUI),(115,aT1),(116,aUV),(117,aUP),(118,aUo),(119,aTU),(120,aUC),(121,aUh),(122,aUG),(123,aTF),(124,aTI),(125,cD 125 ⟨[],[2],[],[],[]⟩),(126,cD 126 ⟨[],[],[8],[],[]⟩),(127,aTs),(128,cD 128 hz),(129,cD 129 ⟨[4],[12,8],[64,20],[],[]⟩),(130,cD 130 ⟨[3],[4],[],[],[]⟩),(131,cD 131 ⟨[3],[4],[],[],[]⟩),(132,cD 132 ⟨[3],[],[21],[],[]⟩),(133,cD 133 ⟨[3],[],[13],[],[23]⟩),(134,cD 134 ⟨[3],[],[13],[],[]⟩),(135,cD 135 ⟨[3],[],[25],[],[]⟩),(136,cD 136 ⟨[1],[],[],[],[]⟩),(137,aUD),(138,cD 138 hz),(139,cD 139 ⟨[3,2],[6],[14],[],[44]⟩),(140,cD 140 hz),(141,cD 141 ⟨[],[],[6],[],[]⟩),(142,cD 142 ⟨[2],[],[7],[],[]⟩),(143,cD 143 ⟨[2],[],[],[],[]⟩),(144,cD 144 ⟨[2],[],[11],[],[]⟩),(145,cD 145 ⟨[1],[5],[48,44,25,21],[],[]⟩),(146,cD 146 ⟨[1],[4],[32,25,14],[],[]⟩),(147,aTM),(148,cD 148 ⟨[1],[5],[],[],[]⟩),(149,aUL),(150,aTt),(155,aUq),(156,aRv),(159,aTN),(160,aTQ),(161,aRH),(162,aQz),(164,aUv),(165,cD 165 ⟨[],[],[5],[],[]⟩),(167,aRp),(168,aKz),(169,aUe),(170,aT2),(171,aUm),(172,aTB),(173,aUK),(174,aUw),(175,aSQ),(176,cD 176 ⟨[3],[],[],[],[]⟩),(177,cD 177 ⟨[3,2],[],[],[],[]⟩),(178,cD 178 ⟨[],[9,8],[],[],[]⟩),(179,cD 179 ⟨[3,2],[],[],[],[]⟩),(180,cD 180 ⟨[3,2],[],[],[],[]⟩),(181,cD 181 ⟨[2],[],[29,27,20,18],[],[]⟩),(182,cD 182 ⟨[],[9],[],[],[]⟩),(183,cD 183 ⟨[2],[7],[],[],[]⟩),(184,cD 184 ⟨[3],[],[],[],[]⟩),(185,cD 185 ⟨[2],[],[],[],[]⟩),(186,cD 186 ⟨[3],[8,6],[],[],[]⟩),(187,cD 187 hz),(188,cD 188 hz),(189,cD 189 ⟨[1],[],[],[],[]⟩),(190,aSf),(191,cD 191 ⟨[],[4],[18,13],[],[]⟩),(192,aLH),(193,aUN),(194,aUa),(195,aSB),(196,aUx),(200,cD 200 hz),(202,aTC),(203,aTP),(204,aTw),(205,cD 205 hz),(206,cD 206 ⟨[2],[],[],[],[]⟩),(207,cD 207 hz),(208,cD 208 ⟨[2],[],[],[],[]⟩),(209,cD 209 hz),(210,cD 210 ⟨[1],[],[9],[],[]⟩),(211,cD 211 ⟨[1],[],[],[],[]⟩),(212,aUR),(213,aTX),(216,cD 216 ⟨[],[11],[],[],[]⟩),(217,cD 217 hz),(222,cD 222 hz),(223,cD 223 hz),(224,cD 224 ⟨[5,4,3],[],[],[],[]⟩),(225,cD 225 ⟨[1],[],[23,6],[],[]⟩),(226,cD 226 hz),(227,cD 227 ⟨[1],[],[],[],[]⟩),(228,cD 228 hz),(229,cD 229 ⟨[1],[],[4],[],[]⟩),(230,aTr),(231,aUT),(234,cD 234 ⟨[],[],[58,38],[],[]⟩),(240,cD 240 ⟨[3],[],[],[],[]⟩),(241,cD 241 ⟨[1],[],[65,57,46,39,15,10],[],[]⟩),(242,cD 242 hz),(243,cD 243 hz),(244,aR7),(245,cD 245 hz),(246,cD 246 ⟨[],[10],[],[],[]⟩),(249,cD 249 hz),(250,cD 250 ⟨[1],[4],[25,20,15],[],[]⟩)]:=by kernel_rfl
theorem aT9: ∀p∈tab.list,cR Tryz.prog p.1 p.2:=by
 rw [aPZ]
 exact aT7<|.cons q3<|.cons q13<|.cons q14<|.cons q15<|.cons q16<|.cons q17<|.cons q18<|.cons q19<|.cons q20<|.cons (fd<|by kernel_rfl)<|.cons (fd<|by kernel_rfl)<|.cons (fd<|by kernel_rfl)<|.cons (fd<|by kernel_rfl)<|.cons (fd<|by kernel_rfl)<|.cons (fd<|by kernel_rfl)<|.cons (fd<|by kernel_rfl)<|.cons (fd<|by kernel_rfl)<|.cons (fd<|by kernel_rfl)<|.cons q32<|.cons q35<|.cons q37<|.cons q38<|.cons q42<|.cons (fd<|by kernel_rfl)<|.cons q46<|.cons q47<|.cons q48<|.cons q49<|.cons q50<|.cons q51<|.cons q52<|.cons (fd<|by kernel_rfl)<|.cons (fd<|by kernel_rfl)<|.cons (fd<|by kernel_rfl)<|.cons (fd<|by kernel_rfl)<|.cons (fd<|by kernel_rfl)<|.cons (fd<|by kernel_rfl)<|.cons q60<|.cons q61<|.cons q62<|.cons q63<|.cons q64<|.cons q69<|.cons q70<|.cons q71<|.cons q73<|.cons q75<|.cons q76<|.cons q77<|.cons q81<|.cons q82<|.cons q83<|.cons q84<|.cons q85<|.cons q86<|.cons q87<|.cons q88<|.cons (fd<|by kernel_rfl)<|.cons (fd<|by kernel_rfl)<|.cons (fd<|by kernel_rfl)<|.cons (fd<|by kernel_rfl)<|.cons (fd<|by kernel_rfl)<|.cons (fd<|by kernel_rfl)<|.cons (fd<|by kernel_rfl)<|.cons (fd<|by kernel_rfl)<|.cons (fd<|by kernel_rfl)<|.cons q98<|.cons aWa<|.cons aWc<|.cons aWs<|.cons aVJ<|.cons aVP<|.cons aWG<|.cons aVX<|.cons aWr<|.cons aVO<|.cons aVT<|.cons aWl<|.cons aWB<|.cons aWn<|.cons aVW<|.cons aWu<|.cons aWq<|.cons (fd<|by kernel_rfl)<|.cons (fd<|by kernel_rfl)<|.cons aWA<|.cons (fd<|by kernel_rfl)<|.cons (fd<|by kernel_rfl)<|.cons (fd<|by kernel_rfl)<|.cons (fd<|by kernel_rfl)<|.cons (fd<|by kernel_rfl)<|.cons (fd<|by kernel_rfl)<|.cons (fd<|by kernel_rfl)<|.cons (fd<|by kernel_rfl)<|.cons (fd<|by kernel_rfl)<|.cons aV7<|.cons (fd<|by kernel_rfl)<|.cons (fd<|by kernel_rfl)<|.cons (fd<|by kernel_rfl)<|.cons (fd<|by kernel_rfl)<|.cons (fd<|by kernel_rfl)<|.cons (fd<|by kernel_rfl)<|.cons (fd<|by kernel_rfl)<|.cons (fd<|by kernel_rfl)<|.cons (fd<|by kernel_rfl)<|.cons aWK<|.cons (fd<|by kernel_rfl)<|.cons aWj<|.cons aWo<|.cons aWh<|.cons aWd<|.cons aV6<|.cons aWI<|.cons aWe<|.cons aVM<|.cons aV4<|.cons (fd<|by kernel_rfl)<|.cons aVR<|.cons aV2<|.cons aWF<|.cons aWx<|.cons aVY<|.cons aWz<|.cons aWD<|.cons aWi<|.cons aV3<|.cons (fd<|by kernel_rfl)<|.cons (fd<|by kernel_rfl)<|.cons (fd<|by kernel_rfl)<|.cons (fd<|by kernel_rfl)<|.cons (fd<|by kernel_rfl)<|.cons (fd<|by kernel_rfl)<|.cons (fd<|by kernel_rfl)<|.cons (fd<|by kernel_rfl)<|.cons (fd<|by kernel_rfl)<|.cons (fd<|by kernel_rfl)<|.cons (fd<|by kernel_rfl)<|.cons (fd<|by kernel_rfl)<|.cons (fd<|by kernel_rfl)<|.cons (fd<|by kernel_rfl)<|.cons aV0<|.cons (fd<|by kernel_rfl)<|.cons aWf<|.cons aVV<|.cons aWC<|.cons aWt<|.cons aVN<|.cons (fd<|by kernel_rfl)<|.cons aWJ<|.cons aVK<|.cons aV8<|.cons (fd<|by kernel_rfl)<|.cons (fd<|by kernel_rfl)<|.cons (fd<|by kernel_rfl)<|.cons (fd<|by kernel_rfl)<|.cons (fd<|by kernel_rfl)<|.cons (fd<|by kernel_rfl)<|.cons (fd<|by kernel_rfl)<|.cons aWv<|.cons aV5<|.cons (fd<|by kernel_rfl)<|.cons (fd<|by kernel_rfl)<|.cons (fd<|by kernel_rfl)<|.cons (fd<|by kernel_rfl)<|.cons (fd<|by kernel_rfl)<|.cons (fd<|by kernel_rfl)<|.cons (fd<|by kernel_rfl)<|.cons (fd<|by kernel_rfl)<|.cons (fd<|by kernel_rfl)<|.cons (fd<|by kernel_rfl)<|.cons aWL<|.cons aVI<|.cons (fd<|by kernel_rfl)<|.cons (fd<|by kernel_rfl)<|.cons (fd<|by kernel_rfl)<|.cons (fd<|by kernel_rfl)<|.cons (fd<|by kernel_rfl)<|.cons aWk<|.cons (fd<|by kernel_rfl)<|.cons (fd<|by kernel_rfl)<|.cons (fd<|by kernel_rfl)<|.cons (fd<|by kernel_rfl)<|.nil
end Go.Proofs.YtelnnehpbkainaaGreatDoor.Code
namespace Go.Fw
open Go Go.WideShapes
inductive Reads{H:Type}(P:Program):List TypeId→List (DataW H)→List AV→Prop
 |nil:Reads P [] [] []
 |cons {t:TypeId} {ts:List TypeId} {d:DataW H} {ds:List (DataW H)} {cs:List AV} {avs:List AV} (h:iE P t d=some cs) (k:Reads P ts ds avs):Reads P (t::ts) (d::ds) (mkV P t cs::avs)
section
variable {P : Program} {P' : bA} {H : Type} {enc : TypeId × Value → H} {W : World} {ts : List TypeId}
theorem aRG(hts:ts.all (aKf P ts)=true){t:TypeId}(ht:t∈ts){base:Nat}{v:Value}(hval:Value.okWide P W .any base t v){d:DataW H}{ps:List MemPlace}{sp:Nat→Bool}{held:Bool}
(h:DataW.Trod enc P W 0 sp held t v d ps): ∃a_,TyC P t a_∧R (G0 W) (.v (mkV P t a_) v)∧iE P t d=some a_:=by
 obtain⟨fuel,hf⟩:=h;obtain⟨a_,h1,h2,h3⟩:=aMQ hts fuel ht hf;refine⟨a_,h2,?_,h1⟩;have one:v.oneCell'=true→pC P t=some false→R (G0 W) (.v (mkV P t a_) v):=fun hv ha=>by
  obtain⟨a,rfl,_⟩:=h2.lone ha;unfold mkV;rw [ha];rw [aGi hv] at h3;cases h3 with
  |cY r1 _ _=>exact r1
 have agg: ∀cs,v= .agg cs→pC P t=some true→R (G0 W) (.v (mkV P t a_) v):=fun cs hv ha=>by
  subst hv;unfold mkV;rw [ha];have:R (G0 W) (.k a_ cs.toList):=h3;simpa using R.agg this
 have hok:=List.all_eq_true.1 hts t ht;unfold aKf at hok;cases hu:P.underlying t with
 |none=>rw [hu] at hok;cases hok
 |some u=>
  rw [hu] at hok;cases u with
  |bool=>obtain⟨b,rfl⟩:=okWide_bool hu hval;exact one rfl (by rw [pC,hu])
  |int k=>obtain⟨b,rfl⟩:=okWide_int hu hval;exact one rfl (by rw [pC,hu])
  |string=>obtain⟨b,rfl⟩:=okWide_string hu hval;exact one rfl (by rw [pC,hu])
  |pointer e=>obtain⟨b,rfl⟩:=okWide_pointer hu hval;exact one rfl (by rw [pC,hu])
  |slice e=>obtain⟨a,l,c,rfl⟩:=okWide_slice hu hval;exact one rfl (by rw [pC,hu])
  |struct fs=>
   have h0:=hval;unfold Value.okWide at h0;rw [hu] at h0;obtain⟨cs,hv,_⟩:=h0;exact agg cs hv (by rw [pC,hu])
  |array n e=>
   have h0:=hval;unfold Value.okWide at h0;rw [hu] at h0;obtain⟨cs,hv,_⟩:=h0;exact agg cs hv (by rw [pC,hu])
  |_=>cases hok
theorem aIm(hts:ts.all (aKf P ts)=true){base:Nat}{sp:Nat→Bool}{held:Bool}: ∀{us:List TypeId}{vs:List Value}{ds:List (DataW H)}{ps:List MemPlace},(us.all ts.contains)=true→
  (∀(j:Nat)(t:TypeId)(v:Value),us[j]?=some t→vs[j]?=some v→Value.okWide P W .any base t v)→DataW.TrodAll enc P W 0 sp held us vs ds ps→ ∃avs,Typed P us avs∧R (G0 W) (.l avs vs)∧ds.length=us.length∧Reads P us ds avs
 | [],[],[],ps,_,_,_=>⟨[],.nil,.tF,rfl,.nil⟩
 |t::us,v::vs,d::ds,ps,hc,hv,h=>by
  obtain⟨p,q,h1,h2,_⟩:=h;simp only [List.all_cons,Bool.and_eq_true] at hc;obtain⟨a_,k1,k2,k6⟩:=aRG hts (contains_of hc.1) (hv 0 t v rfl rfl) h1;obtain⟨avs,k3,k4,k5,k7⟩:=aIm hts hc.2 (fun j t v ht hv'=>hv (j+1) t v (by simpa using ht) (by simpa using hv')) h2;exact⟨_,.cons k1 k3,.gN k2 k4,by simp [k5],.cons k6 k7⟩
 | [],[],_::_,_,_,_,h=>h.elim
 | [],_::_,_,_,_,_,h=>h.elim
 |_::_,[],_,_,_,_,h=>h.elim
 |_::_,_::_,[],_,_,_,h=>h.elim
theorem aFS(hP:POk P P')(hp:aHq P P'){f:Nat}{fn:Func}{af:AF}(haf:P'.fn f=some af)(hts:ts.all (aKf P ts)=true)(hpar:(fn.params.toList.all ts.contains)=true)(hl:laidOutB P=true)
(hrd:(fn.params.toList.all fun t=>P.readableRec t&&decide (t<P.types.size))=true){tb:TypeId}(hres:fn.resultTypes= #[tb])(hb:P.underlying tb=some .bool){s:ChangeSpec}(hvars:s.vars= [])
(hspec: ∀ds:List (DataW H),ds.length=fn.params.toList.length→s.fn H (ds++ [])={results:= [.lit (.bool true)],args:=ds})
{K:List (DataW H)→Prop}
(law: ∀avs ds,Typed P fn.params.toList avs→Reads P fn.params.toList ds avs→K ds→ ∃n s',(cU P' n).call (.func f) avs eB=some (.ret (.bool true),s')){apart:Bool}{base:Nat}{args:Array Value}{ds gs:List (DataW H)}{before:List MemPlace}
(hval: ∀(j:Nat)(t:TypeId)(v:Value),fn.params[j]?=some t→args[j]?=some v→Value.okWide P W .any base t v)(hW:DataW.Whole enc P fn.params.toList s.vars apart W args.toList ds gs before)(hK:K (ds++gs))(hg:iY P' (G0 W)):
  Calls P f args W fun e W'=> ∃v,e= .returned v∧s.post enc P fn apart true false false W args v W':=by
 have hW':=hW;obtain⟨p,q,hA,hV,rfl,hfz,hnd⟩:=hW;rw [hvars] at hV;obtain⟨rfl,rfl⟩:gs= []∧q= []:=by
  cases gs with
  |nil=>exact⟨rfl,hV⟩
  |cons g r=>exact absurd hV (by intro h;cases h)
 rw [List.append_nil] at hK;obtain⟨avs,h1,h2,h3,h4⟩:=aIm (base:=base) hts hpar (fun j t v ht hv=>hval j t v (by simpa using ht) (by simpa using hv)) hA;obtain⟨n,s',hcall⟩:=law avs ds h1 h4 hK;have hc:=aPE hP hp haf hcall W h2 hg;rw [Array.toArray_toList] at hc;refine hc.mono fun e W' hq=> ?_;obtain⟨x,G',rfl,hx,hbel⟩:=hq;cases hx;refine⟨_,rfl,ds,[],p++ [],[],p,[],hW',?_,?_,?_,hbel.frame _,fun h=>by cases h⟩
 ·rw [hspec ds h3,hres];refine⟨[],[],?_,rfl,rfl⟩;exact⟨1,by simp [DataW.trod,Value.cells,hb]⟩
 ·rw [hspec ds h3];exact aAF hl hbel hrd hA
 ·rw [hspec ds h3,hvars]
  rfl
theorem aMi{C:Checked}{os:Os}{f:FuncId}{fn:Func}{s:OpenSpec}{conds:List PathCond}{apart:Bool}{laid:List (String×DataW Unit)}(w0:World)(args:Array Value)(hos:w0.os=os)
(hsh:(w0.forCall (fun _ _=>0) ⟨#[],args,[]⟩).Shaped C.prog)
(hok:Input.okWideB C.prog (w0.forCall (fun _ _=>0) ⟨#[],args,[]⟩) f ⟨#[],args,[]⟩=true)
(hpre:s.pre enc C.prog fn conds apart (w0.forCall (fun _ _=>0) ⟨#[],args,[]⟩).memory args)
(hx:laidMetH C.prog laid (w0.forCall (fun _ _=>0) ⟨#[],args,[]⟩).memory)
(hsz:sizedMet enc C.prog fn s apart (w0.forCall (fun _ _=>0) ⟨#[],args,[]⟩).memory args):
  ∃(w:World)(tape:Tape)(i:Input),w.os=os∧(w.forCall tape i).Shaped C.prog∧i.vars= []∧Input.okWide C.prog (w.forCall tape i) .any w.heap.size f i∧
   s.preRow enc C.prog fn conds apart laid (w.forCall tape i).memory i.args∧({}:Assume).holds C.prog (lone (Frame.enter C.prog f i.args .normal) [] (w.forCall tape i)):=
 ⟨w0,fun _ _=>0,⟨#[],args,[]⟩,hos,hsh,(Input.okWide_of_okWideB (base:=0) hok).1,(Input.okWide_of_okWideB hok).2,⟨⟨hpre,hx⟩,hsz⟩,by
  simp only [Assume.holds];exact⟨by simp,by simp,fun _=>Modest.zero,by simp,by simp⟩⟩
end
end Go.Fw
namespace Go.Proofs.YtelnnehpbkainaaGreatDoor
open Go Go.Fw
section
variable {P : Program} {H : Type}
mutual
theorem uK: ∀(d:DataW H)(t:TypeId)(cs:List AV),iE P t d=some cs→dX cs≤Rows.uptoBulk d
 | .lit l,t,cs,h=>by
  unfold iE at h;cases l<;>first|(cases h;simp [dX,n7,Rows.uptoBulk])|cases h
 | .nil,t,cs,h=>by
  unfold iE at h;split at h<;>first|(cases h;simp [dX,n7,Rows.uptoBulk])|cases h
 | .ptr d,t,cs,h=>by
  unfold iE at h;split at h
  ·rename_i e he;split at h
   ·rename_i c hc;cases h;have h1:=uK d _ _ hc;have h2:=aEb P e c;simp only [dX,n7,Rows.uptoBulk];omega
   ·cases h
  ·cases h
 | .slice elems spare,t,cs,h=>by
  unfold iE at h;split at h
  ·rename_i e he;split at h
   ·rename_i c hc;cases h;have h1:=(u7 elems _ _ hc).1;simp only [dX,n7,Rows.uptoBulk];omega
   ·cases h
  ·cases h
 | .agg parts,t,cs,h=>by
  unfold iE at h;split at h
  ·split at h
   ·rename_i c hc;cases h;have h1:=yD parts _ _ hc;simp only [Rows.uptoBulk];omega
   ·cases h
  ·split at h
   ·rename_i c hc;cases h;have h1:=(u7 parts _ _ hc).2;simp only [Rows.uptoBulk];omega
   ·cases h
  ·cases h
 | .iface _ _,t,cs,h=>by cases h
 | .map _,t,cs,h=>by cases h
 | .held _,t,cs,h=>by cases h
theorem u7: ∀(ds:List (DataW H))(e:TypeId)(css:List (List AV)),rK P e ds=some css→dX (css.map (mkV P e))≤Rows.uptoBulkAll ds∧dX css.flatten≤Rows.uptoBulkAll ds
 | [],e,css,h=>by
  unfold rK at h;cases h;simp [dX]
 |d::r,e,css,h=>by
  unfold rK at h;split at h
  ·rename_i x xs h1 h2;cases h;have g1:=uK d _ _ h1;obtain⟨g2,g3⟩:=u7 r _ _ h2;have g4:=aEb P e x;simp only [List.map_cons,List.flatten_cons,dX,wM,Rows.uptoBulkAll];omega
  ·cases h
theorem yD: ∀(ds:List (DataW H))(us:List TypeId)(css:List (List AV)),oZ P us ds=some css→dX css.flatten≤Rows.uptoBulkAll ds
 | [],us,css,h=>by
  cases us<;>unfold oZ at h<;>cases h;simp [dX]
 |d::r,us,css,h=>by
  cases us with
  |nil=>unfold oZ at h;cases h
  |cons t us=>
   unfold oZ at h;split at h
   ·rename_i x xs h1 h2;cases h;have g1:=uK d _ _ h1;have g3:=yD r _ _ h2;simp only [List.flatten_cons,wM,Rows.uptoBulkAll];omega
   ·cases h
end
theorem aEZ: ∀{us:List TypeId}{ds:List (DataW H)}{avs:List AV},Reads P us ds avs→dX avs≤Rows.uptoBulkAll ds
 |_,_,_,.nil=>by simp [dX]
 |_,_,_,.cons (t:=t) (d:=d) (cs:=cs) h k=>by
  have g1:=uK d _ _ h;have g2:=aEZ k;have g3:=aEb P t cs;simp only [dX,Rows.uptoBulkAll];omega
end
end Go.Proofs.YtelnnehpbkainaaGreatDoor
namespace Go.Proofs.YtelnnehpbkainaaGreatDoor
open Go Go.Fw Go.ChangeShapes Go.WideShapes Go.ChangeAt Go.RowKit
set_option maxRecDepth 100000
theorem aBr:ownKnob Tryz.prog.godebug=none:=by kernel_rfl
def pQ:List TypeId:= [266,280,277,283,281,278,286,264,3,244,5,241,240,4,154,22,27,9,23,24,25,66]
theorem yA(os:Os)(started:os.Started)(H:Type)(enc:TypeId×Value→H)(F:Stop.Interp):
  ReturnsInHanded {} Tryz.checked os 3 .any ((Rows.OpenSpec.upto Rows.linearClausesSpec).preRow enc Tryz.prog Tryz.f3 Rows.linearClausesUptoRow.domain false Rows.linearClausesUptoRow.laid)
   (((Rows.OpenSpec.upto Rows.linearClausesSpec).at F).post enc Tryz.prog Tryz.f3 false true false false):=by
 refine returnsInHanded_of_row (C:=Tryz.checked) (s:=(Rows.OpenSpec.upto Rows.linearClausesSpec)) aBr started (by kernel_rfl) Tryz.func3
  (aMi (C:=Tryz.checked) (fn:=Tryz.f3) (World.laidAll Tryz.prog os Rows.linearClausesUptoRow.laid) #[.agg #[.int .i64 0,.int .i64 0,.string ⟨#[]⟩,.string ⟨#[]⟩,.slice none 0 0,.slice none 0 0,.slice none 0 0],.string ⟨#[]⟩] (World.laidAll_os _ _ _) (World.shaped_of_ZipB (by kernel_rfl) (by kernel_rfl)) (by kernel_rfl)
   ((OpenSpec.pre_some (s:=(Rows.OpenSpec.upto Rows.linearClausesSpec)) (k:=Rows.uptoSmall) rfl _ _ _ _).2 ⟨[.agg [.lit (.int .i64 0),.lit (.int .i64 0),.lit (.string []),.lit (.string []),.nil,.nil,.nil],.lit (.string [])],[],[],DataW.Whole_of_whole (fuel:=8) (x:=([.agg [.lit (.int .i64 0),.lit (.int .i64 0),.lit (.string []),.lit (.string []),.nil,.nil,.nil],.lit (.string [])],[],[])) (by kernel_rfl),by kernel_rfl,by kernel_rfl⟩)
   (by rw [MakeChecks.laidMetH_plain _ _ _ (by kernel_rfl)];exact laidMet_laidAll _ (by kernel_rfl) (by kernel_rfl))
   (show sizedMet enc Tryz.prog Tryz.f3 (OpenSpec.ofChange Rows.linearClausesSpec) _ _ _ from sizedMet_of_sizedB (fuel:=8) (by kernel_rfl))) ?_
 intro W base args ds gs before hval0 hW hc hk _ hL _ _;have hval: ∀(j:Nat) t v,Tryz.f3.params[j]?=some t→args[j]?=some v→Value.okWide Tryz.prog W .any base t v:=hval0;have hL2:laidMetH Tryz.prog Rows.linearClausesUptoRow.laid W:=hL;rw [MakeChecks.laidMetH_plain _ _ _ (by kernel_rfl)] at hL2;obtain⟨lps,hLV,_⟩:=hL2;have hts:pQ.all (aKf Tryz.prog pQ)=true:=by kernel_rfl
 have hg:iY (aAP Code.tab gl0) (G0 W):=fun g=>aM0 hts (by kernel_rfl) (by kernel_rfl) hLV g;exact aFS (P:=Tryz.prog) (P':=aAP Code.tab gl0) (ts:=pQ) (aNX Code.aT9 (by kernel_rfl) (by kernel_rfl)) aKR (f:=3) (fn:=Tryz.f3) (af:=Code.c3) (by kernel_rfl) hts (by kernel_rfl) (by kernel_rfl) (by kernel_rfl) (tb:=4) (by kernel_rfl) (by kernel_rfl) (s:=(Rows.OpenSpec.upto Rows.linearClausesSpec).at F) rfl
  (fun ds hl=>by
   have hl':ds.length=2:=hl
   match ds,hl' with
   | [d0,d1],_=>
    show Rows.linearClausesSpec.fn H ([d0,d1]++ [])=_;simp [Rows.linearClausesSpec])
  (K:=fun ds=>Rows.uptoBulkAll ds≤1048576) (fun avs ds h hr hK=>aB4 avs h (Nat.le_trans (aEZ hr) hK)) hval hW (of_decide_eq_true (hk _ rfl)) hg
theorem aAh:joinedFacts Tryz.prog 3 Tryz.f3 (Rows.OpenSpec.upto Rows.linearClausesSpec).bare Rows.linearClausesUptoRow=true:=by kernel_rfl
theorem vE:Rows.LinearClausesUptoSaid:=
 OpenClaim.holds_of_cond 3 Tryz.f3 rfl rfl rfl rfl rfl rfl rfl ⟨rfl,rfl,rfl,rfl,rfl⟩ rfl rfl rfl rfl rfl (by kernel_rfl) Tryz.func3 aAh
  (of_decide_eq_true (by kernel_rfl)) (by unfold Func.isWrapper;first|(rw [if_pos (by decide+kernel)];kernel_rfl)|(rw [if_neg (by decide+kernel)];exact⟨rfl,rfl⟩))
  (fun os started H enc _ F=>by rw [OpenClaim.pre_eq_preRow];exact yA os started H enc F)
theorem linearClausesUpto_card:Rows.LinearClausesUptoCardSaid:=
 Claim7.holds_tied_plain_at .later [] [.listed,.data,.data,.widerDeep] true (true, "798fd9b8000fda1d5b00c7d7626b4820eb45570a61c66c9fe5fb42989f4f2cbb") true vE (fun _ h=>by cases h) (by kernel_rfl) (fun _ h=>by cases h) linearClausesUpto_row_tie rfl ⟨rfl,rfl⟩ (by kernel_rfl) rfl
  (fun f fn hf hfn=>by
   obtain rfl:f=3:=Option.some.inj ((show Tryz.prog.funcNamed "reprise/repriselaw10.LinearClauses" =some 3 by kernel_rfl).symm.trans hf)|>.symm;obtain rfl:fn=Tryz.f3:=(Option.some.inj (Tryz.func3.symm.trans hfn)).symm;exact⟨by kernel_rfl,fun j t ht=>by
    have hm:t∈ [27,9]:=by
     have hq:Tryz.f3.params.toList= [27,9]:=by kernel_rfl
     rw [←hq];exact Array.mem_toList_iff.2 (Array.mem_of_getElem? ht)
    have hall:(([27,9]:List TypeId).all fun u=> !Tryz.prog.wantsStandIn u)=true:=by kernel_rfl
    exact(show Tryz.prog.wantsStandIn t=false by simpa using List.all_eq_true.1 hall t hm)⟩)
  (by kernel_rfl)
end Go.Proofs.YtelnnehpbkainaaGreatDoor
