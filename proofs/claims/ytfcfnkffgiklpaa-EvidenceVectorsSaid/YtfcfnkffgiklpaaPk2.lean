/- Our own framework, the program's cooked code, and the proofs that a claim leans on: joined and shortened by a program of the prover's own. -/
import Derived.KernelRfl
import Derived.Test.YtfcfnkffgiklpaaProg
import Derived.WalkKit
import Derived.OwnWalkIn
import Derived.TacticsInMore
import Derived.RegionIn
import Derived.LoopNIn
import Derived.LoopIn
import Derived.RecoverIn
import Derived.Deep.AppendSrc
import Derived.Lib.SliceRun
import Derived.Deep.LoopGhost
import Derived.Lib.Overlaps
import Derived.Lib.AppendZerosOnto
import Derived.Laws.CopyRow
import Derived.Laws.IdiomCopy
import Derived.Shelf.RegionOpen
import Derived.Great.BuildSlice
import Derived.Test.YtfcfnkffgiklpaaPk1
set_option linter.unusedVariables false
set_option linter.unusedSimpArgs false
namespace Go.Fw
open Go
structure Hle(H H':Handler):Prop where
 call: ∀g a s r,H.call g a s=some r→H'.call g a s=some r
 dcall: ∀f a m s r,H.dcall f a m s=some r→H'.dcall f a m s=some r
section
variable {H H' : Handler} {P : aL}
theorem zW{d':Option Nat}{op:AOp}{gd:Option (Nat×Bool)}{pre:List Nat}{rest:List AI}{pd:List (Nat×Nat)}{fr:Fr}{s:ASt}(hp:plainO op=true)(hg:wanted fr.env gd=some true):
  aN H P (⟨d',op,gd,pre⟩::rest) pd fr s=(match dL P fr.env s op with|some (v,s1)=>aN H P rest (aG d' pd) {fr with env:=dG fr.env d' v} s1|none=>none):=by
 have key:(match aR P fr.env op with
    |some v=>aN H P rest (aG d' pd) {fr with env:=dG fr.env d' v} s
    |none=>
     match dJ P fr.env s op with
     |some v=>aN H P rest (aG d' pd) {fr with env:=dG fr.env d' v} s
     |none=>
      match bZ P fr.env s op with
      |some (v,s1)=>aN H P rest (aG d' pd) {fr with env:=dG fr.env d' v} s1
      |none=>none)=(match dL P fr.env s op with|some (v,s1)=>aN H P rest (aG d' pd) {fr with env:=dG fr.env d' v} s1|none=>none):=by
  unfold dL;cases aR P fr.env op with
  |some x=>rfl
  |none=>cases dJ P fr.env s op with
   |some x=>rfl
   |none=>rfl
 rw [←key];simp only [aN,hg];cases op<;>first|rfl|(simp [plainO] at hp)
theorem eY(hH:Hle H H'): ∀{is:List AI}{pd:List (Nat×Nat)}{fr:Fr}{s:ASt}{r:g9},aN H P is pd fr s=some r→aN H' P is pd fr s=some r
 | [],_,_,_,_,h=>h
 |⟨d',op,gd,pre⟩::rest,pd,fr,s,r,h=>by
  cases hw:wanted fr.env gd with
  |none=>simp [aN,hw] at h
  |some b=>
   cases b with
   |false=>
    simp only [aN,hw] at h⊢;cases hk:kB P fr.env op with
    |true=>simp only [hk] at h⊢;exact eY hH h
    |false=>rw [hk] at h;cases h
   |true=>
    cases hp:plainO op with
    |true=>
     rw [zW hp hw] at h⊢;cases hs:dL P fr.env s op with
     |none=>rw [hs] at h;cases h
     |some x=>rw [hs] at h;exact eY hH h
    |false=>
     cases op<;>first|(simp [plainO] at hp;done)|skip
     case pend z=>
      cases d' with
      |none=>simp [aN,hw] at h
      |some d=>simp only [aN,hw] at h⊢;exact eY hH h
     case shut d sz x=>
      cases d' with
      |some d=>simp [aN,hw] at h
      |none=>
       cases hf:eO (evO P fr.env x) with
       |none=>simp [aN,hw,hf] at h
       |some v=>
        simp only [aN,hw,hf] at h⊢;split at h
        ·rename_i hc;rw [if_pos hc];exact eY hH h
        ·cases h
     case defer f args=>
      simp only [aN,hw] at h⊢;split at h
      ·rename_i h1 h2;(try simp only [h1,h2]);exact eY hH h
      ·cases h
     case panic x=>
      simp only [aN,hw] at h⊢;exact h
     case aJ st f args=>
      simp only [aN,hw] at h⊢;split at h
      ·rename_i g a b vs h1 h2
       (try simp only [h1,h2])
       split at h
       ·rename_i v s2 h3 h4;simp only [hH.call _ _ _ _ h4]
        (try simp only [h3])
        split at h
        ·rename_i v' h5
         (try simp only [h5])
         split at h
         ·rename_i h6;(try simp only [h6]);exact eY hH h
         ·cases h
        ·cases h
       ·cases h
      ·cases h
     case call f args=>
      simp only [aN,hw] at h⊢;split at h
      ·rename_i g a b vs s1 h1 h2
       (try simp only [h1,h2])
       split at h
       ·rename_i v s2 h3;simp only [hH.call _ _ _ _ h3];exact eY hH h
       ·rename_i v s2 h3;simp only [hH.call _ _ _ _ h3];exact h
       ·cases h
      ·cases h
theorem lL{f f':Fr→ASt→Option CR}(hf: ∀fr s r,f fr s=some r→f' fr s=some r): ∀{k k':Nat}{fr:Fr}{s:ASt}{r:CR},k≤k'→g5 f k fr s=some r→g5 f' k' fr s=some r
 |0,_,_,_,_,_,h=>by simp [g5] at h
 |k+1,0,_,_,_,hk,_=>by omega
 |k+1,k'+1,fr,s,r,hk,h=>by
  simp only [g5] at h⊢;cases hs:f fr s with
  |none=>rw [hs] at h;cases h
  |some x=>
   rw [hs] at h;rw [hf _ _ _ hs];cases hx:x.ex with
   |normal=>simp only [hx] at h⊢;exact lL hf (by omega) h
   |exit i=>simp only [hx] at h⊢;exact h
   |ret=>simp only [hx] at h⊢;exact h
   |panic v=>simp only [hx] at h⊢;exact h
theorem bW(hH:Hle H H'){rd:Option Nat}{lf lf':Nat}(hl:lf≤lf'): ∀(c:AC){fr:Fr}{s:ASt}{r:CR},evC H P rd lf c fr s=some r→evC H' P rd lf' c fr s=some r
 | .skip,_,_,_,h=>h
 | .exit _,_,_,_,h=>h
 | .ret,_,_,_,h=>h
 | .scope b,fr,s,r,h=>by simp only [evC] at h⊢;exact bW hH hl b h
 | .reg _ ops,fr,s,r,h=>by
  simp only [evC] at h⊢;cases he:aN H P ops [] fr s with
  |none=>rw [he] at h;cases h
  |some x=>rw [he] at h;rw [eY hH he];exact h
 | .aAe ops,fr,s,r,h=>by
  simp only [evC] at h⊢;cases he:aN H P ops [] fr s with
  |none=>rw [he] at h;cases h
  |some x=>rw [he] at h;rw [eY hH he];exact h
 | .seq a b,fr,s,r,h=>by
  simp only [evC] at h⊢;cases he:evC H P rd lf a fr s with
  |none=>rw [he] at h;cases h
  |some x=>
   rw [he] at h;rw [bW hH hl a he];cases hx:x.ex with
   |normal=>simp only [hx] at h⊢;exact bW hH hl b h
   |exit i=>simp only [hx] at h⊢;exact h
   |ret=>simp only [hx] at h⊢;exact h
   |panic v=>simp only [hx] at h⊢;exact h
 | .cond c t e,fr,s,r,h=>by
  simp only [evC] at h⊢;split at h
  ·rename_i b hb
   (try simp only [hb])
   cases b with
   |true=>exact bW hH hl t h
   |false=>exact bW hH hl e h
  ·cases h
 | .block id b,fr,s,r,h=>by
  simp only [evC] at h⊢;cases he:evC H P rd lf b fr s with
  |none=>rw [he] at h;cases h
  |some x=>rw [he] at h;rw [bW hH hl b he];exact h
 | .loop b,fr,s,r,h=>by
  simp only [evC] at h⊢;exact lL (fun _ _ _=>bW hH hl b) hl h
 | .qC f params assign body,fr,s,r,h=>by
  simp only [evC] at h⊢;split at h
  ·rename_i l mark s1 g a b h1 h2
   (try simp only [h1,h2])
   split at h
   ·rename_i v s2 h3 h4;simp only [hH.call _ _ _ _ h4];(try simp only [h3]);exact h
   ·rename_i v s2 h3 h4;simp only [hH.call _ _ _ _ h4];(try simp only [h3]);exact h
   ·cases h
  ·cases h
theorem yE(hH:Hle H H'){lf lf':Nat}(hl:lf≤lf'){l:Nat}{args:List AV}{s:ASt}{r:jY×ASt}(h:m5 H P lf l args s=some r):m5 H' P lf' l args s=some r:=by
 unfold m5 at h⊢;split at h
 ·rename_i lp h1
  (try simp only [h1])
  split at h
  ·rename_i h2 h3
   (try simp only [h2,h3])
   split at h
   ·rename_i e1 s1 h4;simp only [bW hH hl _ h4];split at h
    ·rename_i s2 h5
     (try simp only [h5])
     split at h
     ·rename_i ex e2 s3 h6;simp only [bW hH hl _ h6];exact h
     ·cases h
    ·cases h
   ·cases h
  ·cases h
 ·cases h
theorem lZ(hH:Hle H H'): ∀{ds:List dE}{m:DM}{s:ASt}{r:DM×ASt},jD H ds m s=some r→jD H' ds m s=some r
 | [],_,_,_,h=>h
 | .mark l::ds,m,s,r,h=>by
  simp only [jD] at h⊢;split at h
  ·rename_i h1;(try simp only [h1]);exact lZ hH h
  ·cases h
 | .call f args::ds,m,s,r,h=>by
  simp only [jD] at h⊢;cases hd:H.dcall f args m s with
  |none=>rw [hd] at h;cases h
  |some x=>rw [hd] at h;rw [hH.dcall _ _ _ _ _ hd];exact lZ hH h
theorem aCl(hH:Hle H H'){lf lf':Nat}(hl:lf≤lf'){f:AF}{args:List AV}{s:ASt}{r:jY×ASt}(h:xI H P lf f args s=some r):xI H' P lf' f args s=some r:=by
 unfold xI at h⊢;split at h
 ·cases h
 ·rename_i h0;split at h
  ·rename_i ex fr s1 h1;simp only [bW hH hl _ h1];split at h
   ·rename_i m h2
    (try simp only [h2])
    split at h
    ·rename_i v s2 h3;simp only [lZ hH h3];exact h
    ·rename_i s2 h3;simp only [lZ hH h3];exact h
    ·cases h
   ·cases h
  ·cases h
theorem aCE(hH:Hle H H'){lf lf':Nat}(hl:lf≤lf'): ∀(c:AC){fr:Fr}{rc:RC}{s:ASt}{r:cZ×Fr×RC×ASt},evD H P lf c fr rc s=some r→evD H' P lf' c fr rc s=some r:=by
 intro c
 induction c with
 |reg draw ops=>
  intro fr rc s r h;simp only [evD] at h⊢;split at h
  ·exact h
  ·split at h
   ·rename_i x he;rw [bW hH hl _ he];exact h
   ·cases h
 |seq a b iha ihb=>
  intro fr rc s r h;simp only [evD] at h⊢;split at h
  ·rename_i fr1 rc1 s1 h1;simp only [iha h1];exact ihb h
  ·rename_i hne;rw [iha h];split
   ·rename_i fr1 rc1 s1 h1;cases h1;exact absurd h (hne _ _ _)
   ·rfl
 |cond c t e iht ihe=>
  intro fr rc s r h;simp only [evD] at h⊢;split at h
  ·rename_i b hb
   (try simp only [hb])
   cases b with
   |true=>exact iht h
   |false=>exact ihe h
  ·cases h
 |skip=>
  intro fr rc s r h;simp only [evD] at h⊢;split at h
  ·rename_i x he;rw [bW hH hl _ he];exact h
  ·cases h
 |block id b _=>
  intro fr rc s r h;simp only [evD] at h⊢;split at h
  ·rename_i x he;rw [bW hH hl _ he];exact h
  ·cases h
 |loop b _=>
  intro fr rc s r h;simp only [evD] at h⊢;split at h
  ·rename_i x he;rw [bW hH hl _ he];exact h
  ·cases h
 |qC f p a b _ _=>
  intro fr rc s r h;simp only [evD] at h⊢;split at h
  ·rename_i x he;rw [bW hH hl _ he];exact h
  ·cases h
 |aAe ops=>
  intro fr rc s r h;simp only [evD] at h⊢;split at h
  ·rename_i x he;rw [bW hH hl _ he];exact h
  ·cases h
 |exit id=>
  intro fr rc s r h;simp only [evD] at h⊢;split at h
  ·rename_i x he;rw [bW hH hl _ he];exact h
  ·cases h
 |ret=>
  intro fr rc s r h;simp only [evD] at h⊢;split at h
  ·rename_i x he;rw [bW hH hl _ he];exact h
  ·cases h
 |scope b _=>
  intro fr rc s r h;simp only [evD] at h⊢;split at h
  ·rename_i x he;rw [bW hH hl _ he];exact h
  ·cases h
theorem aB1(hH:Hle H H'){lf lf':Nat}(hl:lf≤lf'){f:AF}{args:List AV}{m:DM}{s:ASt}{r:DM×ASt}(h:yK H P lf f args m s=some r):yK H' P lf' f args m s=some r:=by
 unfold yK at h⊢;split at h
 ·cases h
 ·rename_i h0
  (try simp only [h0])
  split at h
  ·rename_i ex e rc s1 h1;simp only [aCE hH hl _ h1];exact h
  ·cases h
theorem mS{H H':Handler}(hH:Hle H H'): ∀{l:List (Nat×List AV)}{vs:List AV},cA H l=some vs→cA H' l=some vs
 | [],_,h=>h
 |(f,a)::r,vs,h=>by
  unfold cA at h⊢;generalize dS a=b at h⊢;cases b with
  |false=>exact h
  |true=>
   simp only at h⊢;cases hc:H.call (.func f) a dF with
   |none=>rw [hc] at h;cases h
   |some q=>
    rw [hH.call _ _ _ _ hc];rw [hc] at h;obtain⟨q1,q2⟩:=q;cases q1 with
    |panic v=>exact h
    |ret v=>
     simp only at h⊢;generalize gZ v=x at h⊢;cases x with
     |none=>exact h
     |some v2=>
      simp only at h⊢;generalize bE v2=y at h⊢;cases y with
      |false=>exact h
      |true=>
       simp only at h⊢;cases hw:cA H r with
       |none=>rw [hw] at h;cases h
       |some ws=>rw [hw] at h;rw [mS hH hw];exact h
theorem wT{H H':Handler}(hH:Hle H H'){p:Prim}{args:List AV}{s:ASt}{r:jY×ASt}(h:eW H p args s=some r):eW H' p args s=some r:=by
 unfold eW at h⊢;generalize dS args=b at h⊢;cases b with
 |false=>exact h
 |true=>
  simp only at h⊢;generalize p.calls args=x at h⊢;cases x with
  |none=>exact h
  |some cs=>
   simp only at h⊢;cases hw:cA H cs with
   |none=>rw [hw] at h;cases h
   |some ws=>rw [hw] at h;rw [mS hH hw];exact h
theorem pU: ∀{n m:Nat},n≤m→Hle (cC P n) (cC P m)
 |0,_,_=>⟨fun _ _ _ _ h=>by simp [cC] at h,fun _ _ _ _ _ h=>by simp [cC] at h⟩
 |n+1,0,h=>by omega
 |n+1,m+1,h=>by
  have ih:=pU (show n≤m by omega);refine⟨fun g a s r hr=> ?_,fun f a d s r hr=> ?_⟩
  ·cases g with
   |func f=>
    simp only [cC] at hr⊢;cases hp:P.prim f with
    |some p=>simp only [hp] at hr⊢;exact wT ih hr
    |none=>
     simp only [hp] at hr⊢;cases hf:P.fn f with
     |none=>simp only [hf] at hr;cases hr
     |some af=>simp only [hf] at hr⊢;exact aCl ih (by omega) hr
   |yield l=>simp only [cC] at hr⊢;exact yE ih (by omega) hr
  ·simp only [cC] at hr⊢;cases hf:P.fn f with
   |none=>simp only [hf] at hr;cases hr
   |some af=>simp only [hf] at hr⊢;exact aB1 ih (by omega) hr
theorem Ev.run{n:Nat}{g:AFn}{args:List AV}{s:ASt}{r:jY×ASt}{Q:jY×ASt→Prop}(h:(cC P n).call g args s=some r)(hq:Q r):Ev (fun n=>(cC P n).call g args s) Q:=
 ⟨r,n,hq,fun _ hm=>(pU hm).call _ _ _ _ h⟩
end
abbrev Str:=List UInt8
def slA(sz:Nat)(xs:List AV):AV:= .slice (szC sz xs) xs .no
theorem aFq(sz:Nat)(xs:List AV):szC sz xs=sz∨xs= []:=by cases xs with|nil=>exact .inr rfl|cons=>exact .inl rfl
structure Ext(L T:List Nat)(s0 s:ASt):Prop where
 bl:s0.blks.length≤s.blks.length
 b: ∀i,i<s0.blks.length→i∉L→s.blks[i]?=s0.blks[i]?
 tl:s0.toks.length≤s.toks.length
 t: ∀i,i<s0.toks.length→i∉T→s.toks[i]?=s0.toks[i]?
theorem Ext.clean(L T:List Nat)(s:ASt):Ext L T s (aT s):=⟨Nat.le_refl _,fun _ _ _=>rfl,Nat.le_refl _,fun _ _ _=>rfl⟩
theorem vJ{s0 s:ASt}{d:Bool}(i:Nat)(hi:i<s0.blks.length):(cJ s0 d s).blks[i]?=s.blks[i]?:=by
 unfold cJ;split
 ·rfl
 ·split
  ·rfl
  ·simp [List.getElem?_take,hi]
theorem vE{s0 s:ASt}{d:Bool}(h:s0.blks.length≤s.blks.length):s0.blks.length≤(cJ s0 d s).blks.length:=by
 unfold cJ;split
 ·exact h
 ·split
  ·exact h
  ·simp [List.length_take];omega
theorem tQ{s0 s:ASt}{d:Bool}:(cJ s0 d s).toks=s.toks:=by
 unfold cJ;split
 ·rfl
 ·split<;>rfl
theorem s8{s0 s:ASt}{d:Bool}:(eL s0 d s).blks=s.blks:=by
 unfold eL;split
 ·rfl
 ·split<;>rfl
theorem aCw{s0 s:ASt}{d:Bool}(i:Nat)(hi:i<s0.toks.length):(eL s0 d s).toks[i]?=s.toks[i]?:=by
 unfold eL;split
 ·rfl
 ·split
  ·simp [List.getElem?_take,hi]
  ·rfl
theorem aB9{s0 s:ASt}{d:Bool}(h:s0.toks.length≤s.toks.length):s0.toks.length≤(eL s0 d s).toks.length:=by
 unfold eL;split
 ·exact h
 ·split
  ·simp [List.length_take];omega
  ·exact h
theorem Ext.aBB{L T:List Nat}{s0 s:ASt}(h:Ext L T s0 s)(d1 d2:Bool):Ext L T s0 (eL s0 d1 (cJ s0 d2 s)):=by
 refine⟨?_,fun i hi hn=> ?_,aB9 (by rw [tQ];exact h.tl),fun i hi hn=> ?_⟩
 ·rw [s8];exact vE h.bl
 ·rw [s8,vJ i hi];exact h.b i hi hn
 ·rw [aCw i hi,tQ];exact h.t i hi hn
theorem Ext.settle{L T:List Nat}{s0 s:ASt}(h:Ext L T s0 s)(v:AV):Ext L T s0 (settle s0 v s).2:=by
 unfold Fw.settle;split
 ·split
  ·exact h.aBB _ _
  ·split
   ·split
    ·refine⟨vE h.bl,fun i hi hn=>(vJ i hi).trans (h.b i hi hn),?_,fun i hi hn=> ?_⟩
     ·simp only [List.length_append,List.length_take];have:=h.tl;omega
     ·rw [List.getElem?_append_left (by simp only [List.length_take];have:=h.tl;omega)];simp only [List.getElem?_take,hi,if_true];exact h.t i hi hn
    ·exact h.aBB _ _
   ·exact h.aBB _ _
 ·exact h.aBB _ _
structure Fc(P:aL)(g:AFn)(args:List AV)(s:ASt)(Q:jY→ASt→Prop):Prop where
 ev:Ev (fun n=>(cC P n).call g args s) (fun r=>Q r.1 r.2)
def aEd(P:aL)(af:AF)(Q:AV→ASt→Prop)(e:Env)(s:ASt):Prop:= ∃vs v1 s3,hZ P e s af.res=some vs∧mQ s vs=some (v1,s3)∧Q v1 s3
structure u0(P:aL)(af:AF)(Q:AV→ASt→Prop)(ex:cZ)(fr:Fr)(s:ASt):Prop where
 ex:aFR ex=true
 res: ∃s1,(∀H,jD H fr.ds .ret s=some (.ret,s1))∧aEd P af Q fr.env s1
def VQ(v:AV)(X:ASt→Prop):AV→ASt→Prop:=fun v1 s3=>gZ v1=some v∧(rA v1=false→v1=v)∧X s3
abbrev PQ(s:ASt)(v:AV):AV→ASt→Prop:=VQ v (Ext [] [] s)
def cO(s:ASt)(v:AV):jY→ASt→Prop:=fun o s'=> ∃v0,o= .ret v0∧gZ v0=some v∧(rA v=false→v0=v)∧(∀n,n≤s.blks.length→cW n s.lowT=true→cW n s'.lowT=true)∧Ext [] [] s s'
theorem aEc{P:aL}{g:Nat}{af:AF}{args:List AV}{s:ASt}{Q0:AV→ASt→Prop}{Q:jY→ASt→Prop}(h0:P.prim g=none)(h:P.fn g=some af)(hn:Nat.ble args.length af.nt=true)
(hQ: ∀v1 s3,Q0 v1 s3→Q (.ret (settle s v1 s3).1) (settle s v1 s3).2)(k:Wk P none af.body ⟨lR args,[]⟩ (aT s) (u0 P af Q0)):Fc P (.func g) args s Q:=by
 refine⟨Ev.succ ?_⟩;obtain⟨⟨ex,fr,s1⟩,N,⟨h1,s2,hd,vs,v1,s3,h4,h5,h6⟩,h3⟩:=k.ev.out;simp only at h1 h4 h5 hd;refine⟨((.ret (settle s v1 s3).1),(settle s v1 s3).2),N,hQ _ _ h6,fun n hn'=> ?_⟩;have e1:evC (cC P n) P none n af.body ⟨lR args,[]⟩ (aT s)=some ⟨ex,fr,s1⟩:=h3 n hn';simp only [cC,h0,h,xI,hn,e1];cases ex with
 |normal=>simp only [hd,h4,h5]
 |ret=>simp only [hd,h4,h5]
 |exit i=>cases h1
 |panic v=>cases h1
theorem Pf.dB{P:aL}{g:Nat}{args:List AV}{v:AV}(h:Fc P (.func g) args dF (cO dF v))(hp:bE v=true)(hc:vA args):Pf P g args v:=
 ⟨h.ev.mono fun _ q=>by obtain⟨v0,h1,h2,_⟩:=q;exact⟨v0,h1,h2⟩,hp,hc⟩
inductive Sl(sz:Nat):AV→List AV→Prop
 |no (xs:List AV):Sl sz (slA sz xs) xs
 |own {z:Nat} {xs:List AV} {o:Own} (h:z=sz∨xs= []) (ho:o≠ .no∧o≠ .lit):Sl sz (.slice z xs o) xs
theorem aDM{z sz:Nat}{xs:List AV}(h:z=sz∨xs= []):szC z xs=szC sz xs:=by
 rcases h with rfl|rfl<;>rfl
theorem Sl.eB{sz:Nat}{w:AV}{xs:List AV}(h:Sl sz w xs):eB w=some (slA sz xs):=by
 cases h with
 |no=>rfl
 | @own z xs o h ho=>
  cases o with
  |no=>exact absurd rfl ho.1
  |lit=>exact absurd rfl ho.2
  |full=>simp only [Fw.eB,aDM h];rfl
  |tok t=>simp only [Fw.eB,aDM h];rfl
theorem Sl.fix{sz:Nat}{w:AV}{xs:List AV}(h:Sl sz w xs):eO w=some (slA sz xs):=by
 have:=h.eB;cases h<;>exact this
theorem Sl.gZ{sz:Nat}{w:AV}{xs:List AV}(h:Sl sz w xs):gZ w=some (slA sz xs):=by
 have:=h.fix;cases h<;>exact this
theorem Sl.is{sz:Nat}{w:AV}{xs:List AV}(h:Sl sz w xs): ∃z o,w= .slice z xs o∧(z=sz∨xs= []):=by
 cases h with
 |no=>exact⟨_,_,rfl,aFq sz xs⟩
 |own h=>exact⟨_,_,rfl,h⟩
theorem Sl.elems{sz:Nat}{w:AV}{xs:List AV}(s:ASt)(h:Sl sz w xs):elems s sz w=some xs:=by
 obtain⟨z,o,rfl,rfl|rfl⟩:=h.is<;>simp [Fw.elems]
theorem Sl.fX{sz:Nat}{xs:List AV}{o:Own}(ho:o≠ .no∧o≠ .lit):Sl sz (.slice sz xs o) xs:= .own (.inl rfl) ho
inductive Gr(tk:List Nat)(sz:Nat):AV→List AV→Prop
 |nil (z:Nat):Gr tk sz (.slice z [] .full) []
 |full (xs:List AV):Gr tk sz (.slice sz xs .full) xs
 |tok (xs:List AV) (t:Nat) (h:tk[t]?=some xs.length):Gr tk sz (.slice sz xs (.tok t)) xs
theorem Gr.sl{tk:List Nat}{sz:Nat}{w:AV}{xs:List AV}(h:Gr tk sz w xs):Sl sz w xs:=by
 cases h with
 |nil=>exact .own (.inr rfl) (by simp)
 |full=>exact .own (.inl rfl) (by simp)
 |tok=>exact .own (.inl rfl) (by simp)
def eK:AV→Option Nat
 | .slice _ _ (.tok t)=>some t
 |_=>none
structure St(L T:List Nat)(s0 s:ASt)(bs:List (Nat×eF))(gs:List (AV×Nat×List AV)):Prop where
 ext:Ext L T s0 s
 b: ∀p∈bs,s.blks[p.1]?=some p.2
 bL: ∀p∈bs,p.1∈L∨s0.blks.length≤p.1
 nd:(bs.map (·.1)).Nodup
 g: ∀p∈gs,Gr s.toks p.2.1 p.1 p.2.2
 gT: ∀t∈gs.filterMap (eK ·.1),t∈T∨s0.toks.length≤t
 gd:(gs.filterMap (eK ·.1)).Nodup
 lk: ∀p∈bs,p.1<s0.blks.length→ ∀cs w,p.2= .cells cs w→ ∀v∈cs,∀t,eK v=some t→cW (p.1+1) s.lowT=true∨ ∃cs0 w0,s0.blks[p.1]?=some (.cells cs0 w0)∧v∈cs0
 tv: ∀p∈bs,∀cs w,p.2= .cells cs w→ ∀v∈cs,∀t,eK v=some t→t<s.toks.length
section
variable {L T : List Nat} {s0 s s' : ASt} {bs bs' : List (Nat × eF)} {gs gs' : List (AV × Nat × List AV)}
theorem St.clean(s:ASt):St [] [] s (aT s) [] []:=⟨.clean _ _ _,by simp,by simp,by simp,by simp,by simp,by simp,by simp,by simp⟩
theorem St.less(h:St L T s0 s bs gs)(hb:bs'.Sublist bs)(hg:gs'.Sublist gs):St L T s0 s bs' gs':=
 ⟨h.ext,fun p hp=>h.b p (hb.subset hp),fun p hp=>h.bL p (hb.subset hp),h.nd.sublist (hb.map _),fun p hp=>h.g p (hg.subset hp),fun t ht=>h.gT t ((hg.filterMap _).subset ht),h.gd.sublist (hg.filterMap _),fun p hp=>h.lk p (hb.subset hp),fun p hp=>h.tv p (hb.subset hp)⟩
theorem St.aF0{sz:Nat}{w:AV}{xs:List AV}(h:St L T s0 s bs gs)(hw:Gr s.toks sz w xs)(ht:eK w=none):St L T s0 s bs ((w,sz,xs)::gs):=
 ⟨h.ext,h.b,h.bL,h.nd,fun p hp=>by rcases List.mem_cons.1 hp with rfl|hp;exact hw;exact h.g p hp,by simp [List.filterMap_cons,ht];simpa using h.gT,by simp only [List.filterMap_cons,ht];exact h.gd,h.lk,h.tv⟩
theorem St.nil(z sz:Nat)(h:St L T s0 s bs gs):St L T s0 s bs ((.slice z [] .full,sz,[])::gs):=h.aF0 (.nil z) rfl
end
theorem oC{gs:List (AV×Nat×List AV)}{t:Nat}:t∈gs.filterMap (eK ·.1)↔ ∃p∈gs,eK p.1=some t:=by simp [List.mem_filterMap]
theorem Gr.w6{tk tk':List Nat}{sz:Nat}{w:AV}{xs:List AV}(h:Gr tk sz w xs)(k: ∀t,eK w=some t→tk'[t]?=tk[t]?):Gr tk' sz w xs:=by
 cases h with
 |nil z=>exact .nil z
 |full xs=>exact .full xs
 |tok xs t h=>exact .tok xs t (by rw [k t rfl];exact h)
theorem Gr.tlt{tk:List Nat}{sz:Nat}{w:AV}{xs:List AV}{t:Nat}(h:Gr tk sz w xs)(ht:eK w=some t):t<tk.length:=by
 cases h with
 |nil z=>cases ht
 |full xs=>cases ht
 |tok xs t' h=>
  simp only [eK,Option.some.injEq] at ht;subst ht;exact(List.getElem?_eq_some_iff.1 h).1
theorem zM{P:aL}{e:Env}{L T:List Nat}{s0 s:ASt}{bs:List (Nat×eF)}{gs:List (AV×Nat×List AV)}{esz bytes:Nat}{a x:aH}{w:AV}{xs ys:List AV}(tk:Bool)
(hS:St L T s0 s bs ((w,esz,xs)::gs))(ha:evO P e a=w)(hw:Sl esz (evO P e x) ys)(h1:(xs.length+ys.length)*bytes≤big)(h2:xs.length+ys.length≤big)(h0:0<esz):
  ∃w' s',dL P e s (.append tk esz bytes a x)=some (w',s')∧St L T s0 s' bs ((w',esz,xs++ys)::gs):=by
 have hG:=hS.g _ (List.mem_cons_self ..);simp only at hG;have hel:=hw.elems s;have hsl:rA (evO P e x)=true:=by obtain⟨z,o,hq,_⟩:=hw.is;rw [hq];rfl
 have hwl:rA w=true:=by obtain⟨z,o,hq,_⟩:=hG.sl.is;rw [hq];rfl
 have htk:(!tk||(rA w&&rA (evO P e x)))=true:=by rw [hsl,hwl];simp
 cases ys with
 |nil=>
  refine⟨w,s,?_,by rw [List.append_nil];exact hS⟩;obtain⟨z,o,hq,_⟩:=hG.sl.is;simp only [dL,aR,dJ,bZ,ha,hel,htk];rw [hq]
 |cons y ys=>
  simp only [List.length_cons] at h1 h2;have keepall: ∀p∈gs,∀t n,(∃u,eK w=some u∧t=u)∨s.toks.length≤t→Gr (s.toks.set t n) p.2.1 p.1 p.2.2:=by
   intro p hp t n ht;refine(hS.g p (List.mem_cons_of_mem _ hp)).w6 fun u hu=> ?_;rw [List.getElem?_set_ne]
   rintro rfl
   rcases ht with ⟨u',h3,rfl⟩|ht
   ·have hd:=hS.gd;rw [List.filterMap_cons,h3] at hd;simp only [List.nodup_cons] at hd;exact hd.1 (oC.2 ⟨p,hp,hu⟩)
   ·have:=(hS.g p (List.mem_cons_of_mem _ hp)).tlt hu;omega
  have grow: ∀z,(decide (z=esz)||xs.isEmpty)=true→eK w=none→w= .slice z xs .full→
    ∃w' s',dL P e s (.append tk esz bytes a x)=some (w',s')∧St L T s0 s' bs ((w',esz,xs++y::ys)::gs):=by
   intro z hz htw hwe;refine⟨.slice esz (xs++y::ys) (.tok s.toks.length),{s with toks:=s.toks++ [xs.length+(ys.length+1)]},?_,?_⟩
   ·have hc:((decide (z=esz)||xs.isEmpty)&&decide ((xs.length+(ys.length+1))*bytes≤big)&&decide (xs.length+(ys.length+1)≤big)&&decide (0<esz))=true:=by
     rw [hz];simp [h0,h1,h2]
    simp only [dL,aR,dJ,bZ,ha,hel,htk,hwe];rw [hwe] at htk;simp only [htk,hc,if_true]
   ·have hd:=hS.gd;rw [List.filterMap_cons,htw] at hd;have hT:=hS.gT;rw [List.filterMap_cons,htw] at hT;refine⟨⟨hS.ext.bl,hS.ext.b,by simp;have:=hS.ext.tl;omega,fun i hi hn=> ?_⟩,hS.b,hS.bL,hS.nd,?_,?_,?_,hS.lk,fun p hp cs w he v hv t ht=>by have:=hS.tv p hp cs w he v hv t ht;simp;omega⟩
    ·rw [←hS.ext.t i hi hn];exact List.getElem?_append_left (by have:=hS.ext.tl;omega)
    ·intro p hp;rcases List.mem_cons.1 hp with rfl|hp
     ·exact .tok _ _ (by simp)
     ·refine(hS.g p (List.mem_cons_of_mem _ hp)).w6 fun u hu=> ?_;have:=(hS.g p (List.mem_cons_of_mem _ hp)).tlt hu;exact List.getElem?_append_left this
    ·intro t ht;simp only [List.filterMap_cons,eK,List.mem_cons] at ht;rcases ht with rfl|ht
     ·exact .inr hS.ext.tl
     ·exact hT t ht
    ·simp only [List.filterMap_cons,eK,List.nodup_cons];refine⟨fun hm=> ?_,hd⟩;obtain⟨p,hp,hu⟩:=oC.1 hm;have:=(hS.g p (List.mem_cons_of_mem _ hp)).tlt hu;omega
  generalize hwq:w=w0 at hG;cases hG with
  |nil z=>exact grow z (by simp) (by rw [hwq];rfl) hwq
  |full xs=>exact grow esz (by simp) (by rw [hwq];rfl) hwq
  |tok xs t ht=>
   have htw:eK w=some t:=by rw [hwq];rfl
   have htl:t<s.toks.length:=(List.getElem?_eq_some_iff.1 ht).1;refine⟨.slice esz (xs++y::ys) (.tok t),{s with toks:=s.toks.set t (xs.length+(ys.length+1))},?_,?_⟩
   ·have hc:((decide (esz=esz)||xs.isEmpty)&&decide ((xs.length+(ys.length+1))*bytes≤big)&&decide (xs.length+(ys.length+1)≤big)&&decide (0<esz))=true:=by
     simp [h0,h1,h2]
    simp only [dL,aR,dJ,bZ,ha,hel,htk,hwq];rw [hwq] at htk;simp [htk,hc,ht,h0,h1,h2]
   ·have hd:=hS.gd;rw [List.filterMap_cons,htw] at hd;have hT:=hS.gT;rw [List.filterMap_cons,htw] at hT;refine⟨⟨hS.ext.bl,hS.ext.b,by simp;exact hS.ext.tl,fun i hi hn=> ?_⟩,hS.b,hS.bL,hS.nd,?_,?_,?_,hS.lk,fun p hp cs w he v hv t ht=>by have:=hS.tv p hp cs w he v hv t ht;simpa using this⟩
    ·rw [←hS.ext.t i hi hn];refine List.getElem?_set_ne ?_
     rintro rfl
     rcases hT t (List.mem_cons_self ..) with h|h
     ·exact hn h
     ·omega
    ·intro p hp;rcases List.mem_cons.1 hp with rfl|hp
     ·exact .tok _ _ (by simp [htl])
     ·exact keepall p hp t _ (.inl ⟨t,htw,rfl⟩)
    ·intro u hu;simp only [List.filterMap_cons,eK] at hu;exact hT u hu
    ·simp only [List.filterMap_cons,eK];exact hd
section
variable {L T : List Nat} {s0 s : ASt} {bs : List (Nat × eF)} {gs : List (AV × Nat × List AV)}
theorem St.slG{w:AV}{sz:Nat}{xs:List AV}(h:St L T s0 s bs gs)(i:Nat)(hp:gs[i]?=some (w,sz,xs)):Sl sz w xs:=
 (h.g _ (List.mem_of_getElem? hp)).sl
end
theorem Sl.full{z sz:Nat}{xs:List AV}(h:z=sz∨xs= []):Sl sz (.slice z xs .full) xs:= .own h (by simp)
def idx{α:Type}(l:List α)(i:Int):Option α:=if 0≤i then l[i.toNat]? else none
def cut{α:Type}(l:List α)(lo hi:Int):Option (List α):=if 0≤lo∧lo≤hi∧hi≤l.length then some ((l.take hi.toNat).drop lo.toNat) else none
def app{α:Type}(b:Nat)(xs ys:List α):Option (List α):=if(xs.length+ys.length)*b≤big∧xs.length+ys.length≤big then some (xs++ys) else none
def nf{α:Type}(x:α):α:=x
inductive Ctl(R S:Type) where
 |ret (r:R)
 |nx (s:S)
theorem bs{α β:Type}{o:Option α}{f:α→Option β}{r:β}(h:(o>>=f)=some r): ∃x,o=some x∧f x=some r:=Option.bind_eq_some_iff.1 h
theorem bQ{α:Type}{b:Bool}{a c:Option α}{r:α}(h:b=true)(k:(if b=true then a else c)=some r):a=some r:=by rwa [if_pos h] at k
theorem bO{α:Type}{b:Bool}{a c:Option α}{r:α}(h:b=false)(k:(if b=true then a else c)=some r):c=some r:=by rwa [if_neg (by rw [h];decide)] at k
theorem aI{P:aL}{rd:Option Nat}{c:aH}{t f:AC}{b:Bool}{fr:Fr}{s:ASt}{Q:cZ→Fr→ASt→Prop}{α:Type}{x y:Option α}{r:α}(hyp:(if b=true then x else y)=some r)(hb:evO P fr.env c= .bool b)
(ht:b=true→x=some r→Wk P rd t fr s Q)(hf:b=false→y=some r→Wk P rd f fr s Q):Wk P rd (.cond c t f) fr s Q:=
 aD9 hb (fun hc=>ht hc (bQ hc hyp)) (fun hc=>hf hc (bO hc hyp))
abbrev AV.i(n:Int):AV:= .int .i64 n
def aF2(sz:Nat){α:Type}(f:α→AV)(l:List α):AV:=slA sz (l.map f)
theorem bG{α:Type}{f:α→AV}(h: ∀x,bE (f x)=true): ∀l:List α,dS (l.map f)=true
 | []=>rfl
 |x::r=>by simp only [List.map_cons,dS,h x,bG h r,Bool.and_self]
inductive PuL:List AV→Prop
 |nil:PuL []
 |cons {v:AV} {vs:List AV} (h:bE v=true) (t:PuL vs):PuL (v::vs)
theorem PuL.eq{vs:List AV}(h:PuL vs):dS vs=true:=by
 induction h with
 |nil=>rfl
 |cons h _ ih=>simp only [dS,h,ih,Bool.and_self]
theorem aE9{vs:List AV}(h:PuL vs):bE (.agg vs)=true:=h.eq
theorem oV{vs:List AV}(h:PuL vs):bE (.tuple vs)=true:=h.eq
theorem dZ{sz:Nat}{xs:List AV}(h:dS xs=true):Can (slA sz xs):=⟨rfl,h⟩
theorem kJ{sz:Nat}{α:Type}{f:α→AV}(h: ∀x,bE (f x)=true)(l:List α):bE (slA sz (l.map f))=true:=bG h l
inductive Fx1:List AV→List AV→Prop
 |nil:Fx1 [] []
 |cons {v w:AV} {vs ws:List AV} (h:eB v=some w) (t:Fx1 vs ws):Fx1 (v::vs) (w::ws)
theorem Fx1.eq{vs ws:List AV}(h:Fx1 vs ws):sQ vs=some ws:=by
 induction h with
 |nil=>rfl
 |cons h _ ih=>simp only [sQ,h,ih]
theorem Fx1.agg{vs ws:List AV}(h:Fx1 vs ws):eO (.agg vs)=some (.agg ws):=by simp only [eO,h.eq]
theorem pX{v:AV}{o:Nat}(h:Can v):Can (.aX v o):=⟨rfl,h.2⟩
theorem aE3{g:Nat}{a b:List AV}(h:vA a)(k:vA b):Can (.func g a b):=⟨rfl,by simp only [bE,h.pure,k.pure,Bool.and_self]⟩
inductive tX:List AV→List AV→Prop
 |nil:tX [] []
 |cons {v w:AV} {vs ws:List AV} (h:eO v=some w) (t:tX vs ws):tX (v::vs) (w::ws)
theorem tX.eq{vs ws:List AV}(h:tX vs ws):cL vs=some ws:=by
 induction h with
 |nil=>rfl
 |cons h _ ih=>simp only [cL,h,ih]
theorem aD4{v w:AV}(s:ASt)(h:eO v=some w):z8 s v=some (w,s):=by
 cases v<;>first|(simp only [z8,h];done)|(simp [eO,eB] at h)
theorem tX.vs{vs ws:List AV}(s:ASt)(h:tX vs ws):mG s vs=some (ws,s):=by
 induction h with
 |nil=>rfl
 |cons h _ ih=>simp only [mG,aD4 s h,ih]
theorem aAV{s0 s3:ASt}{v:AV}(h:rA v=false):(settle s0 v s3).1=v:=by
 cases v<;>first|rfl|(simp [rA] at h)
theorem bD{P:aL}{af:AF}{e:Env}{X:ASt→Prop}{s s3:ASt}{vs:List AV}{v1 v:AV}(h3:hZ P e s af.res=some vs)(h4:mQ s vs=some (v1,s3))(he:v1=v)(h5:gZ v=some v)(hx:X s3):aEd P af (VQ v X) e s:=
 ⟨vs,v1,s3,h3,h4,he▸h5,fun _=>he,hx⟩
theorem aAD{P:aL}{af:AF}{e:Env}{X:ASt→Prop}{s:ASt}{sz:Nat}{w:AV}{xs:List AV}(h3:hZ P e s af.res=some [w])(h:Sl sz w xs)(hx:X s):aEd P af (VQ (slA sz xs) X) e s:=by
 refine⟨[w],w,s,h3,?_,h.gZ,fun hn=> ?_,hx⟩
 ·obtain⟨z,o,rfl,_⟩:=h.is
  rfl
 ·obtain⟨z,o,rfl,_⟩:=h.is;cases hn
theorem aDx{vs ws:List AV}(h:cL vs=some ws):gZ (.tuple vs)=some (.tuple ws):=by simp only [gZ,h]
theorem aCb{v w:AV}(h:eB v=some w):eB w=some w:=by
 cases v<;>simp [eB] at h<;>(try subst h)<;>(try rfl);rename_i sz xs o;cases o<;>simp at h<;>subst h<;>(cases xs<;>rfl)
theorem vY: ∀{vs ws:List AV},sQ vs=some ws→sQ ws=some ws
 | [],_,h=>by cases h;rfl
 |v::vs,ws,h=>by
  simp only [sQ] at h;split at h
  ·cases h
  ·rename_i y hy;split at h
   ·cases h
   ·rename_i ys hys;cases h;simp only [sQ,aCb hy,vY hys]
theorem aBW{v w:AV}(h:eO v=some w):eO w=some w:=by
 cases v
 case agg cs=>
  simp only [eO] at h;split at h
  ·rename_i ds hd;cases h;simp only [eO,vY hd]
  ·cases h
 case slice sz xs o=>cases o<;>(simp [eO,eB] at h;subst h;cases xs<;>rfl)
 all_goals first
  |(simp [eO,eB] at h;done)
  |(simp [eO,eB] at h;subst h;rfl)
theorem sF: ∀{vs ws:List AV},cL vs=some ws→cL ws=some ws
 | [],_,h=>by cases h;rfl
 |v::vs,ws,h=>by
  simp only [cL] at h;split at h
  ·cases h
  ·rename_i y hy;split at h
   ·cases h
   ·rename_i ys hys;cases h;simp only [cL,aBW hy,sF hys]
theorem eX{P:aL}{af:AF}{e:Env}{X:ASt→Prop}{s:ASt}{u v:AV}{vs ws:List AV}(h3:hZ P e s af.res=some (u::v::vs))(h:tX (u::v::vs) ws)(hx:X s):aEd P af (VQ (.tuple ws) X) e s:=by
 refine⟨_,.tuple ws,s,h3,?_,aDx (sF h.eq),fun _=>rfl,hx⟩;have:=h.vs s;simp only [mQ,this]
theorem frE{e:Env}{S:List (Nat×AV)}{ds:List dE}(h:pD e S):(⟨e,ds⟩:Fr)=⟨gI e S,ds⟩:=by rw [h.gI]
section
variable {P : aL} {rd : Option Nat} {s s' : ASt} {ds : List dE}
theorem gC{c:AC}{S:List (Nat×AV)}{Q' Q:cZ→Fr→ASt→Prop}{e0:Env}(h: ∀e,Wk P rd c ⟨gI e S,ds⟩ s Q')(hh:pD e0 S)(k: ∀ex fr s,Q' ex fr s→Q ex fr s):Wk P rd c ⟨e0,ds⟩ s Q:=by
 have:=h e0;rw [hh.gI] at this;exact this.mono k
theorem fC{b:AC}{fr:Fr}{Q:cZ→Fr→ASt→Prop}(h:Wk P rd b fr s (aEF (fun fr s=>Wk P rd (.loop b) fr s Q) Q)):Wk P rd (.loop b) fr s Q:=by
 obtain⟨⟨ex,fr1,s1⟩,N,h1,h2⟩:=h.ev.out;have fin: ∀(r:CR),Q r.ex r.fr r.s→g5 (evC (cC P N) P rd N b) (N+1) fr s=some r→(match ex with| .normal=>False|_=>True)→Wk P rd (.loop b) fr s Q:=by
  intro r hq hr hne;refine⟨⟨r,N+1,hq,fun n hn=> ?_⟩⟩;simp only [evC];exact lL (fun fr s r h=>bW (pU (by omega)) (by omega) b h) hn hr
 cases ex with
 |normal=>
  obtain⟨r,M,h3,h4⟩:=(h1:Wk P rd (.loop b) fr1 s1 Q).ev.out;refine⟨⟨r,max N M+1,h3,fun n hn=> ?_⟩⟩;have e1:=h4 M (Nat.le_refl _);simp only [evC] at e1⊢;obtain⟨m,rfl⟩: ∃m,n=m+1:=⟨n-1,by omega⟩
  have e2:g5 (evC (cC P (m+1)) P rd (m+1) b) m fr1 s1=some r:=lL (fun fr s r h=>bW (pU (by omega)) (by omega) b h) (by omega) e1;simp only [g5,h2 (m+1) (by omega)];exact e2
 |exit i=>exact fin ⟨.exit i,fr1,s1⟩ h1 (by simp only [g5,h2 N (Nat.le_refl _)]) trivial
 |ret=>exact fin ⟨.ret,fr1,s1⟩ h1 (by simp only [g5,h2 N (Nat.le_refl _)]) trivial
 |panic v=>exact fin ⟨.panic v,fr1,s1⟩ h1 (by simp only [g5,h2 N (Nat.le_refl _)]) trivial
end
def aAs(i:AI):Bool:=match i.op with| .pend _=>false|_=>true
theorem gS(d:Option Nat):aG d []= []:=by cases d<;>rfl
theorem vB{H:Handler}{P:aL}: ∀{a b:List AI}{fr fr1:Fr}{s s1:ASt},a.all aAs=true→aN H P a [] fr s=some (.norm fr1 s1)→aN H P (a++b) [] fr s=aN H P b [] fr1 s1
 | [],b,fr,fr1,s,s1,_,h=>by simp only [aN,Option.some.injEq,g9.norm.injEq] at h;obtain⟨rfl,rfl⟩:=h;rfl
 |i::a,b,⟨e,ds⟩,fr1,s,s1,hp,h=>by
  simp only [List.all_cons,Bool.and_eq_true] at hp;obtain⟨d,op,gd,pre⟩:=i;have ih:=fun{fr:Fr}{s:ASt}(h:aN H P a [] fr s=some (.norm fr1 s1))=>vB (b:=b) hp.2 h;simp only [List.cons_append];cases hw:wanted e gd with
  |none=>simp [aN,hw] at h
  |some w=>
   cases w with
   |false=>
    simp only [aN,hw,gS] at h⊢;cases hk:kB P e op with
    |false=>rw [hk] at h;cases h
    |true=>simp only [hk] at h⊢;exact ih h
   |true=>
    cases hpl:plainO op with
    |true=>
     rw [zW (d':=d) hpl hw] at h⊢
     revert h
     cases dL P e s op with
     |none=>intro h;cases h
     |some x=>intro h;simp only [gS] at h⊢;exact ih h
    |false=>
     cases op<;>first|(simp [plainO] at hpl;done)|skip
     case pend z=>simp [aAs] at hp
     case shut d0 sz x=>
      simp only [aN,hw] at h;split at h
      ·simp at h
      ·cases h
     case defer f args=>
      simp only [aN,hw] at h⊢;split at h
      ·rename_i h1 h2;simp only [h1,h2,gS] at h⊢;exact ih h
      ·cases h
     case panic x=>
      simp only [aN,hw] at h;split at h<;>cases h
     case aJ st f args=>
      simp only [aN,hw] at h⊢;split at h
      ·rename_i h1 h2;split at h
       ·rename_i h3 h4;split at h
        ·rename_i h5;split at h
         ·rename_i h6;simp only [h1,h2,h3,h4,h5,h6,gS] at h⊢;exact ih h
         ·cases h
        ·cases h
       ·cases h
      ·cases h
     case call f args=>
      simp only [aN,hw] at h⊢;split at h
      ·rename_i h1 h2;split at h
       ·rename_i h3;simp only [h1,h2,h3,gS] at h⊢;exact ih h
       ·cases h
       ·cases h
      ·cases h
theorem aS{P:aL}{ops:List AI}{e0:Env}{ds:List dE}{s:ASt}{Q:g9→Prop}(n:Nat)(S:List (Nat×AV))(s':ASt)(h:Wo P (ops.take n) [] ⟨e0,ds⟩ s (aFT (Kept S ds s')))(k: ∀e,Wo P (ops.drop n) [] ⟨gI e S,ds⟩ s' Q)(hp:(ops.take n).all aAs=true:=by rfl):Wo P ops [] ⟨e0,ds⟩ s Q:=by
 obtain⟨r,N,h1,h2⟩:=h.ev.out;cases r with
 |pan v f s1=>exact absurd h1.1 (by simp)
 |norm f s1=>
  obtain⟨_,rfl,h3,h4⟩:=h1;have k1:=k f.env;rw [h4.gI] at k1;obtain⟨r2,M,h5,h6⟩:=k1.ev.out;refine⟨⟨r2,max N M,h5,fun n' hn=> ?_⟩⟩;have e1:=vB (b:=ops.drop n) hp (h2 n' (by omega));rw [List.take_append_drop] at e1;rw [e1];obtain⟨fe,fd⟩:=f;simp only at h3;subst h3;exact h6 n' (by omega)
theorem aQ{P:aL}{l:List AI}{pd:List (Nat×Nat)}{e:Env}{ds:List dE}{s:ASt}{Q:g9→Prop}{t:Nat}{c:Bool}(h:e t= .bool c)
(kt:c=true→Wo P l pd ⟨upd e t (.bool true),ds⟩ s Q)(kf:c=false→Wo P l pd ⟨upd e t (.bool false),ds⟩ s Q):Wo P l pd ⟨e,ds⟩ s Q:=by
 cases c with
 |true=>have:=kt rfl;rwa [uN h] at this
 |false=>have:=kf rfl;rwa [uN h] at this
section
variable {P : aL} {e : Env} {ds : List dE} {s s1 : ASt} {Q : g9 → Prop} {d : Nat} {d' : Option Nat} {rest : List AI} {pre : List Nat} {v : AV} {gd : Option (Nat × Bool)} {pd : List (Nat × Nat)}
theorem wgp{op:AOp}(hp:plainO op=true)(hg:wanted e gd=some true)(h:dL P e s op=some (v,s1))(k:Wo P rest (aG (some d) pd) ⟨upd e d v,ds⟩ s1 Q):Wo P (⟨some d,op,gd,pre⟩::rest) pd ⟨e,ds⟩ s Q:=
 aFO (d':=some d) hp hg h k
theorem wgv{op:AOp}(v:AV)(hp:plainO op=true)(hg:wanted e gd=some true)(h:dL P e s op=some (v,s))(k:Wo P rest (aG (some d) pd) ⟨upd e d v,ds⟩ s Q):Wo P (⟨some d,op,gd,pre⟩::rest) pd ⟨e,ds⟩ s Q:=wgp hp hg h k
theorem gP{α:Type}{f:α→AV}{l:List α}{esz:Nat}{x:aH}(hg:wanted e gd=some true)(hx:Sl esz (evO P e x) (l.map f))(k:Wo P rest (aG (some d) pd) ⟨upd e d (.int .i64 (l.length:Int)),ds⟩ s Q):Wo P (⟨some d,.kH x,gd,pre⟩::rest) pd ⟨e,ds⟩ s Q:=by
 refine wgp rfl hg (s1:=s) ?_ k;obtain⟨z,o,h,_⟩:=hx.is;simp [dL,aR,h]
theorem fM{α:Type}{f:α→AV}{l:List α}{esz:Nat}{x i:aH}{ik:IntKind}{n:Int}{y:α}(hg:wanted e gd=some true)(hx:Sl esz (evO P e x) (l.map f))(hi:evO P e i= .int ik n)(h:idx l n=some y)(hv:f y=v)
(k:Wo P rest (aG (some d) pd) ⟨upd e d (.aX v 0),ds⟩ s Q):Wo P (⟨some d,.iA esz x i,gd,pre⟩::rest) pd ⟨e,ds⟩ s Q:=by
 refine wgp rfl hg (v:= .aX v 0) (s1:=s) ?_ k;unfold idx at h;split at h
 ·rename_i hn;obtain⟨z,o,hxe,hz⟩:=hx.is;have hsz:z=esz:=by
   rcases hz with rfl|hz
   ·rfl
   ·rw [List.map_eq_nil_iff.1 hz] at h;simp at h
  simp [dL,aR,hxe,hi,fW,hn,hsz,h,hv]
 ·cases h
theorem aAp{x i:aH}{t:Str}{ik:IntKind}{n:Int}{b:UInt8}(hg:wanted e gd=some true)(hx:evO P e x= .str t)(hi:evO P e i= .int ik n)(h:idx t n=some b)
(k:Wo P rest (aG (some d) pd) ⟨upd e d (.int .u8 b.toNat),ds⟩ s Q):Wo P (⟨some d,.lU x i,gd,pre⟩::rest) pd ⟨e,ds⟩ s Q:=by
 refine wgp rfl hg (v:= .int .u8 b.toNat) (s1:=s) ?_ k;unfold idx at h;split at h
 ·rename_i hn;simp [dL,aR,hx,hi,fW,hn,h]
 ·cases h
theorem vC{dflt:Nat}{lo:Option aH}{n:Int}(h:(lo=none∧n=dflt)∨ ∃ik,lo.map (evO P e)=some (.int ik n))(hn:0≤n):bJ P e dflt lo=some n.toNat:=by
 rcases h with ⟨rfl,rfl⟩|⟨ik,h⟩
 ·simp [bJ]
 ·cases lo with
  |none=>cases h
  |some x=>
   simp only [Option.map_some,Option.some.injEq] at h;simp [bJ,h,fW,hn]
theorem sE{α:Type}{f:α→AV}{l l':List α}{esz:Nat}{x:aH}{lo hi:Option aH}{lo' hi':Int}(hg:wanted e gd=some true)(hx:Sl esz (evO P e x) (l.map f))
(hlo:(lo=none∧lo'=0)∨ ∃ik,lo.map (evO P e)=some (.int ik lo'))(hhi:(hi=none∧hi'=(l.length:Int))∨ ∃ik,hi.map (evO P e)=some (.int ik hi'))(hn:(lo.isSome||hi.isSome)=true)(h:cut l lo' hi'=some l')
(k:Wo P rest (aG (some d) pd) ⟨upd e d (slA esz (l'.map f)),ds⟩ s Q):Wo P (⟨some d,.u4 esz x lo hi none,gd,pre⟩::rest) pd ⟨e,ds⟩ s Q:=by
 refine wgp rfl hg (v:=slA esz (l'.map f)) (s1:=s) ?_ k;unfold cut at h;split at h
 ·rename_i hc;cases h;obtain⟨z,o,hxe,hz⟩:=hx.is;have h1:bJ P e 0 lo=some lo'.toNat:=vC (by rcases hlo with ⟨a,b⟩|h;exact .inl ⟨a,by simpa using b⟩;exact .inr h) hc.1;have h2:bJ P e (l.map f).length hi=some hi'.toNat:=vC (by rcases hhi with ⟨a,b⟩|h;exact .inl ⟨a,by simpa using b⟩;exact .inr h) (by omega);have h3:bJ P e (l.map f).length none=some (l.map f).length:=rfl;have hzz:szC z (((l.map f).take hi'.toNat).drop lo'.toNat)=szC esz (((l.map f).take hi'.toNat).drop lo'.toNat):=by
   rcases hz with rfl|hz
   ·rfl
   ·rw [hz];simp [szC]
  have hze:(decide (z=esz)||(l.map f).isEmpty)=true:=by rcases hz with rfl|hz<;>simp [*]
  have hcc:(decide (lo'.toNat≤hi'.toNat)&&decide (hi'.toNat≤(l.map f).length)&&decide ((l.map f).length≤(l.map f).length)&&(decide (z=esz)||(l.map f).isEmpty)&&((none:Option aH).isNone||hi.isSome))=true:=by
   rw [hze];simp;omega
  have:aR P e (.u4 esz x lo hi none)=some (slA esz ((((l.take hi'.toNat).drop lo'.toNat)).map f)):=by
   simp only [aR,hxe,h1,h2,h3];rw [if_pos hcc];cases lo with
   |some y=>cases hi<;>(simp only [hzz,slA,List.map_drop,List.map_take])
   |none=>
    cases hi with
    |some z=>simp only [hzz,slA,List.map_drop,List.map_take]
    |none=>cases hn
  simp only [dL,this]
 ·cases h
theorem aAF{w:AV}{esz len:Nat}{z:List AV}{parts:List (Nat×aH)}{sz:Nat}{xs:List AV}(hg:wanted e gd=some true)(h:dL P e s (.fX esz len z parts)=some (.slice sz xs .full,s))(hw: .slice sz xs .full=w)
(k:Wo P rest (aG (some d) pd) ⟨upd e d w,ds⟩ s Q):Wo P (⟨some d,.fX esz len z parts,gd,pre⟩::rest) pd ⟨e,ds⟩ s Q:=by
 subst hw;exact wgp rfl hg h k
theorem vI{z:AV}: ∀(vs:List AV)(pre post:List AV)(k:Nat),k=pre.length→post.length=vs.length→k9 (pre++post) ((List.range' k vs.length).zip vs)=some (pre++vs)
 | [],pre,post,k,_,h=>by
  have:post= []:=List.length_eq_zero_iff.1 h;subst this;simp [k9]
 |v::vs,pre,post,k,hk,h=>by
  cases post with
  |nil=>simp at h
  |cons p post=>
   subst hk;simp only [List.length_cons,List.range'_succ,List.zip_cons_cons,k9];rw [if_pos (by simp),List.set_append_right _ _ (Nat.le_refl _),Nat.sub_self,List.set_cons_zero];have:=vI (z:=z) vs (pre++ [v]) post (pre.length+1) (by simp) (by simpa using h);simpa using this
theorem pL{α:Type}{f:α→AV}{l:List α}{vs:List AV}{esz len:Nat}{z:List AV}{parts:List (Nat×aH)}(hg:wanted e gd=some true)(hf:tX (parts.map fun p=>evO P e p.2) vs)(hv:vs=l.map f)
(hc: ∀x,(cellsOf (f x)).length=esz)(hi:parts.map (·.1)=List.range' 0 l.length)(hl:len=l.length)(h16:len*esz≤16777216)
(k:Wo P rest (aG (some d) pd) ⟨upd e d (.slice esz (l.map f) .full),ds⟩ s Q):Wo P (⟨some d,.fX esz len z parts,gd,pre⟩::rest) pd ⟨e,ds⟩ s Q:=by
 refine wgp rfl hg (v:= .slice esz (l.map f) .full) (s1:=s) ?_ k;have h1:cL (parts.map fun p=>evO P e p.2)=some (l.map f):=by rw [hf.eq,hv]
 have h2:((l.map f).all (fun v=>(cellsOf v).length==esz)&&decide (len*esz≤16777216))=true:=by simp [hc,h16]
 have h3:=vI (z:=elemOf esz z) (l.map f) [] (List.replicate len (elemOf esz z)) 0 rfl (by simp [hl]);simp only [List.nil_append,List.length_map] at h3;simp only [dL,aR,h1];rw [if_pos h2,hi,h3]
theorem qM{L T:List Nat}{s0:ASt}{bs:List (Nat×eF)}{gs:List (AV×Nat×List AV)}{α:Type}{f:α→AV}{xs ys l:List α}{tk:Bool}{esz bytes:Nat}{a x:aH}{w:AV}(hg:wanted e gd=some true)
(hS:St L T s0 s bs ((w,esz,xs.map f)::gs))(ha:evO P e a=w)(hw:Sl esz (evO P e x) (ys.map f))(h:app bytes xs ys=some l)(h0:0<esz)
(k: ∀w' s',St L T s0 s' bs ((w',esz,l.map f)::gs)→Wo P rest (aG (some d) pd) ⟨upd e d w',ds⟩ s' Q):Wo P (⟨some d,.append tk esz bytes a x,gd,pre⟩::rest) pd ⟨e,ds⟩ s Q:=by
 unfold app at h;split at h
 ·rename_i hc;cases h;obtain⟨w',s',h1,h2⟩:=zM tk hS ha hw (by simpa using hc.1) (by simpa using hc.2) h0;exact wgp rfl hg h1 (k w' s' (by rw [List.map_append];exact h2))
 ·cases h
theorem wcD{st:Bool}{f:aH}{args:List aH}{g:Nat}{vs:List AV}(hc:Pf P g vs v)(hg:wanted e gd=some true)(hf:evO P e f= .func g [] [])(ha:tX (args.map (evO P e)) vs)
(k:Wo P rest (aG d' pd) ⟨dG e d' v,ds⟩ s Q):Wo P (⟨d',.aJ st f args,gd,pre⟩::rest) pd ⟨e,ds⟩ s Q:=
 aAa (a:= []) (b:= []) hg hf ha.eq (by simpa using hc) k
theorem wcC{st:Bool}{f:aH}{args:List aH}{g:Nat}{vs us a b:List AV}(hc:Pf P g us v)(hg:wanted e gd=some true)(hf:evO P e f= .func g a b)(ha:tX (args.map (evO P e)) vs)(hu:a++vs++b=us)
(k:Wo P rest (aG d' pd) ⟨dG e d' v,ds⟩ s Q):Wo P (⟨d',.aJ st f args,gd,pre⟩::rest) pd ⟨e,ds⟩ s Q:=
 aAa hg hf ha.eq (by rw [hu];exact hc) k
end
section
variable {L T : List Nat} {s0 s s' : ASt} {bs bs' : List (Nat × eF)} {gs gs' : List (AV × Nat × List AV)}
theorem St.lt(h:St L T s0 s bs gs){p:Nat×eF}(hp:p∈bs):p.1<s.blks.length:=(List.getElem?_eq_some_iff.1 (h.b p hp)).1
theorem St.get{l:Nat}{b:eF}(h:St L T s0 s bs gs)(i:Nat)(hb:bs[i]?=some (l,b)):s.blks[l]?=some b:=h.b (l,b) (List.mem_of_getElem? hb)
def aDy(v:AV):Bool:=(eK v).isNone
theorem St.alloc{cs:List AV}(h:St L T s0 s bs gs)(ht: ∀v∈cs,∀t,eK v=some t→t<s.toks.length)(w:Bool):St L T s0 {s with blks:=s.blks++ [.cells cs w]} ((s.blks.length,.cells cs w)::bs) gs:=by
 refine⟨⟨by simp;have:=h.ext.bl;omega,fun i hi hn=> ?_,h.ext.tl,h.ext.t⟩,?_,?_,?_,h.g,h.gT,h.gd,?_,?_⟩
 ·rw [←h.ext.b i hi hn];exact List.getElem?_append_left (by have:=h.ext.bl;omega)
 ·intro p hp;rcases List.mem_cons.1 hp with rfl|hp
  ·simp
  ·rw [←h.b p hp];exact List.getElem?_append_left (h.lt hp)
 ·intro p hp;rcases List.mem_cons.1 hp with rfl|hp
  ·exact .inr h.ext.bl
  ·exact h.bL p hp
 ·simp only [List.map_cons,List.nodup_cons];refine⟨fun hm=> ?_,h.nd⟩;obtain⟨p,hp,he⟩:=List.mem_map.1 hm;have:=h.lt hp;omega
 ·intro p hp hl cs' w' he;rcases List.mem_cons.1 hp with rfl|hp
  ·have:=h.ext.bl;simp only at hl;omega
  ·exact h.lk p hp hl cs' w' he
 ·intro p hp cs' w' he;rcases List.mem_cons.1 hp with rfl|hp
  ·simp only [eF.cells.injEq] at he;obtain⟨rfl,rfl⟩:=he;exact ht
  ·exact h.tv p hp cs' w' he
theorem zI{b:Bool}{l n:Nat}{o:Option Nat}(h:cW n o=true):cW n (low b l o)=true:=by
 cases o with
 |none=>simp [cW] at h
 |some m=>cases b<;>simp [low,cW] at h⊢ <;>omega
theorem aD3{l:Nat}{o:Option Nat}:cW (l+1) (low true l o)=true:=by
 cases o with
 |none=>simp [low,cW]
 |some m=>simp [low,cW];omega
theorem aAW{v:AV}{t:Nat}(h:eK v=some t):toks v=true:=by
 cases v with
 |slice sz xs o=>cases o<;>simp [eK] at h;simp [toks]
 |_=>simp [eK] at h
theorem aCf{vs:List AV}{v:AV}(h:v∈vs)(ht:toks v=true):fK vs=true:=by
 induction vs with
 |nil=>cases h
 |cons x xs ih=>
  rcases List.mem_cons.1 h with rfl|h
  ·simp [fK,ht]
  ·simp [fK,ih h]
theorem uB{cs ds:List AV}{off:Nat}{v:AV}(h:v∈a8 cs off ds):v∈cs∨v∈ds:=by
 unfold a8 at h;rcases List.mem_append.1 h with h|h
 ·rcases List.mem_append.1 h with h|h
  ·exact .inl (List.mem_of_mem_take h)
  ·exact .inr h
 ·exact .inl (List.mem_of_mem_drop h)
theorem St.set{l:Nat}{cs ds cs':List AV}{w:Bool}{off:Nat}(h:St L T s0 s bs gs)(i:Nat)(hb:bs[i]?=some (l,.cells cs w))(hc:a8 cs off ds=cs')(ht: ∀v∈ds,∀t,eK v=some t→t<s.toks.length):
  St L T s0 (fH s l ds (s.blks.set l (.cells cs' true))) (bs.set i (l,.cells cs' true)) gs:=by
 subst hc;have hm:(l,eF.cells cs w)∈bs:=List.mem_of_getElem? hb;have hi:i<bs.length:=(List.getElem?_eq_some_iff.1 hb).1;have hbi:bs[i]=(l,.cells cs w):=(List.getElem?_eq_some_iff.1 hb).2;have hkeys:(bs.set i (l,eF.cells (a8 cs off ds) true)).map (·.1)=bs.map (·.1):=by
  rw [List.map_set];apply List.ext_getElem?;intro k;by_cases hk:i=k
  ·subst hk;simp [hi,hbi]
  ·rw [List.getElem?_set_ne hk]
 have hne: ∀p∈bs.set i (l,eF.cells (a8 cs off ds) true),p=(l,eF.cells (a8 cs off ds) true)∨(p∈bs∧p.1≠l):=by
  intro p hp;obtain⟨k,hk,rfl⟩:=List.mem_iff_getElem.1 hp;by_cases hik:i=k
  ·subst hik;simp
  ·refine .inr ⟨by rw [List.getElem_set_ne hik];exact List.getElem_mem _,fun he=>hik ?_⟩;rw [List.getElem_set_ne hik] at he;simp only [List.length_set] at hk;have h1:(bs.map (·.1))[i]'(by simpa using hi)=(bs.map (·.1))[k]'(by simpa using hk):=by simp [hbi,he]
   exact(List.getElem_inj h.nd).1 h1
 have hll:l<s.blks.length:=h.lt hm;refine⟨⟨by simp [fH];exact h.ext.bl,fun j hj hn=> ?_,h.ext.tl,h.ext.t⟩,?_,?_,by rw [hkeys];exact h.nd,h.g,h.gT,h.gd,?_,?_⟩
 ·rw [←h.ext.b j hj hn];refine List.getElem?_set_ne ?_
  rintro rfl
  rcases h.bL _ hm with h1|h1
  ·exact hn h1
  ·simp only at h1;omega
 ·intro p hp;rcases hne p hp with rfl|⟨hp,hn⟩
  ·simp [fH,hll]
  ·rw [←h.b p hp];exact List.getElem?_set_ne (Ne.symm hn)
 ·intro p hp;rcases hne p hp with rfl|⟨hp,hn⟩
  ·exact h.bL (l,.cells cs w) hm
  ·exact h.bL p hp
 ·intro p hp hl cs' w' he v hv t htk;rcases hne p hp with rfl|⟨hp,hn⟩
  ·simp only [eF.cells.injEq] at he;obtain⟨rfl,rfl⟩:=he;rcases uB hv with hv|hv
   ·exact(h.lk (l,.cells cs w) hm hl cs w rfl v hv t htk).imp zI id
   ·left;simp only [fH,aCf hv (aAW htk)];exact aD3
  ·exact(h.lk p hp hl cs' w' he v hv t htk).imp zI id
 ·intro p hp cs' w' he v hv t htk;rcases hne p hp with rfl|⟨hp,hn⟩
  ·simp only [eF.cells.injEq] at he;obtain⟨rfl,rfl⟩:=he;rcases uB hv with hv|hv
   ·exact h.tv (l,.cells cs w) hm cs w rfl v hv t htk
   ·exact ht v hv t htk
  ·exact h.tv p hp cs' w' he v hv t htk
theorem St.aFQ(h:St L T s0 s bs gs)(n:Nat):St L T s0 s (bs.take n) gs:=h.less (List.take_sublist _ _) (List.Sublist.refl _)
theorem v7{n:Nat}{a b:Option Nat}(h:cW n a=true):cW n (aA1 a b)=true:=by
 cases a with
 |none=>simp [cW] at h
 |some x=>cases b<;>simp [aA1,cW] at h⊢ <;>omega
theorem nQ{d:Bool}(n:Nat)(h:cW n s0.lowT=true):cW n (eL s0 d s).lowT=true:=by
 unfold eL;split
 ·unfold oY;split
  ·exact v7 h
  ·exact h
 ·split
  ·exact h
  ·exact v7 h
theorem aAm(v:AV)(n:Nat)(h:cW n s0.lowT=true):cW n (settle s0 v s).2.lowT=true:=by
 unfold settle;split
 ·split
  ·exact nQ n h
  ·split
   ·split
    ·exact h
    ·exact nQ n h
   ·exact nQ n h
 ·exact nQ n h
theorem aDI{v1 v:AV}(h1:gZ v1=some v)(hn:rA v=false):rA v1=false:=by
 cases v1<;>first|rfl|skip
 rename_i sz xs o;cases o<;>(simp [gZ,eO,eB] at h1;subst h1;cases hn)
theorem bF{P:aL}{g:Nat}{af:AF}{args:List AV}{s:ASt}{v:AV}(h0:P.prim g=none)(h:P.fn g=some af)(hn:Nat.ble args.length af.nt=true)
(k:Wk P none af.body ⟨lR args,[]⟩ (aT s) (u0 P af (PQ s v))):Fc P (.func g) args s (cO s v):=
 aEc h0 h hn (fun v1 s3 hq=>⟨_,rfl,aAb hq.1,fun hn=>(aAV (aDI hq.1 hn)).trans (hq.2.1 (aDI hq.1 hn)),fun n _ hl=>aAm v1 n hl,hq.2.2.settle v1⟩) k
end
inductive TkL(n:Nat):List AV→Prop
 |nil:TkL n []
 |cons {v:AV} {vs:List AV} (h: ∀t,eK v=some t→t<n) (r:TkL n vs):TkL n (v::vs)
theorem TkL.all{n:Nat}{vs:List AV}(h:TkL n vs): ∀v∈vs,∀t,eK v=some t→t<n:=by
 induction h with
 |nil=>intro v hv;cases hv
 |cons h _ ih=>intro v hv;rcases List.mem_cons.1 hv with rfl|hv;exact h;exact ih v hv
theorem tkN{n:Nat}{v:AV}(h:eK v=none): ∀t,eK v=some t→t<n:=fun t ht=>by rw [h] at ht;cases ht
theorem aEL{n:Nat}: ∀{vs:List AV},vs.all aDy=true→TkL n vs
 | [],_=> .nil
 |v::vs,h=>by
  simp only [List.all_cons,Bool.and_eq_true] at h;exact .cons (tkN (by simpa [aDy] using h.1)) (aEL h.2)

section
variable {P : aL} {e : Env} {ds : List dE} {s s1 : ASt} {Q : g9 → Prop} {d : Nat} {d' : Option Nat} {rest : List AI} {pre : List Nat} {v : AV} {gd : Option (Nat × Bool)} {pd : List (Nat × Nat)}
 {L T : List Nat} {s0 : ASt} {bs : List (Nat × eF)} {gs : List (AV × Nat × List AV)}
theorem p5{z:List AV}(hg:wanted e gd=some true)(hS:St L T s0 s bs gs)(hz:z.all aDy=true)(k: ∀l s',St L T s0 s' ((l,.cells z true)::bs) gs→Wo P rest (aG (some d) pd) ⟨upd e d (.ptr l 0),ds⟩ s' Q):Wo P (⟨some d,.alloc z,gd,pre⟩::rest) pd ⟨e,ds⟩ s Q:=
 wgp rfl hg (v:= .ptr s.blks.length 0) (by simp only [dL,aR,dJ,bZ]) (k _ _ (hS.alloc (aEL hz).all true))
theorem gQ{l off sz:Nat}{a x:aH}{cs ds' cs':List AV}(i:Nat)(hg:wanted e gd=some true)(hS:St L T s0 s bs gs)(hb:bs[i]?=some (l,.cells cs true))(ha:evO P e a= .ptr l off)(hx:cellsOf (evO P e x)=ds')(hbx:n8 (evO P e x)=true)(hl:ds'.length=sz)(hf:off+sz≤cs.length)
(ht:TkL s.toks.length ds')(hc:a8 cs off ds'=cs')(k: ∀s',St L T s0 s' (bs.set i (l,.cells cs' true)) gs→Wo P rest (aG d' pd) ⟨dG e d' eE,ds⟩ s' Q):Wo P (⟨d',.store sz a x,gd,pre⟩::rest) pd ⟨e,ds⟩ s Q:=by
 have hget:=hS.get i hb;refine aFO (d':=d') rfl hg (v:=eE) (s1:=fH s l ds' (s.blks.set l (.cells cs' true))) ?_ (k _ (hS.set i hb hc ht.all));have hcc:(n8 (evO P e x)&&decide ((cellsOf (evO P e x)).length=sz)&&decide (off+sz≤cs.length))=true:=by rw [hbx,hx,hl];simp [hf]
 simp only [dL,aR,dJ,bZ,ha,hget];rw [if_pos hcc,hx,hc]
end
inductive pC(P:aL)(e:Env)(s:ASt):List ARV→List AV→Prop
 |nil:pC P e s [] []
 |cons {r:ARV} {v:AV} {rs:List ARV} {vs:List AV} (h:vV P e s r=some v) (t:pC P e s rs vs):pC P e s (r::rs) (v::vs)
theorem pC.eq{P:aL}{e:Env}{s:ASt}{rs:List ARV}{vs:List AV}(h:pC P e s rs vs):hZ P e s rs=some vs:=by
 induction h with
 |nil=>rfl
 |cons h _ ih=>simp only [hZ,h,ih]
theorem jE{P:aL}{e:Env}{L T:List Nat}{s0 s:ASt}{bs:List (Nat×eF)}{gs:List (AV×Nat×List AV)}{t sz l off:Nat}{cs us ws:List AV}{w:Bool}(hS:St L T s0 s bs gs)(i:Nat)(hb:bs[i]?=some (l,.cells cs w))(ha:e t= .ptr l off)(hl:off+sz≤cs.length)(hu:(cs.drop off).take sz=us)(hf:Fx1 us ws):vV P e s (.cell t true sz)=some (.agg ws):=by
 simp only [vV,dJ,evO,ha,hS.get i hb,partOf,hl,if_true,hu,hf.agg]
def rune(t:Str)(pos:Nat):Nat×Nat:=Utf8.decode ⟨t.toArray⟩ pos
section
variable {P : aL} {e : Env} {ds : List dE} {s s1 : ASt} {Q : g9 → Prop} {d : Nat} {d' : Option Nat} {rest : List AI} {pre : List Nat} {v : AV} {gd : Option (Nat × Bool)} {pd : List (Nat × Nat)}
 {L T : List Nat} {s0 : ASt} {bs : List (Nat × eF)} {gs : List (AV × Nat × List AV)}
theorem St.aF1{b:eF}(h:St L T s0 s bs gs)(hb: ∀cs w,b≠ .cells cs w):St L T s0 {s with blks:=s.blks++ [b]} ((s.blks.length,b)::bs) gs:=by
 refine⟨⟨by simp;have:=h.ext.bl;omega,fun i hi hn=> ?_,h.ext.tl,h.ext.t⟩,?_,?_,?_,h.g,h.gT,h.gd,?_,?_⟩
 ·rw [←h.ext.b i hi hn];exact List.getElem?_append_left (by have:=h.ext.bl;omega)
 ·intro p hp;rcases List.mem_cons.1 hp with rfl|hp
  ·simp
  ·rw [←h.b p hp];exact List.getElem?_append_left (h.lt hp)
 ·intro p hp;rcases List.mem_cons.1 hp with rfl|hp
  ·exact .inr h.ext.bl
  ·exact h.bL p hp
 ·simp only [List.map_cons,List.nodup_cons];refine⟨fun hm=> ?_,h.nd⟩;obtain⟨p,hp,he⟩:=List.mem_map.1 hm;have:=h.lt hp;omega
 ·intro p hp hl cs' w' he;rcases List.mem_cons.1 hp with rfl|hp
  ·exact absurd he (hb cs' w')
  ·exact h.lk p hp hl cs' w' he
 ·intro p hp cs' w' he;rcases List.mem_cons.1 hp with rfl|hp
  ·exact absurd he (hb cs' w')
  ·exact h.tv p hp cs' w' he
theorem St.aFz{l:Nat}{b0 b:eF}(h:St L T s0 s bs gs)(i:Nat)(h0:bs[i]?=some (l,b0))(hb: ∀cs w,b≠ .cells cs w):St L T s0 {s with blks:=s.blks.set l b} (bs.set i (l,b)) gs:=by
 have hm:(l,b0)∈bs:=List.mem_of_getElem? h0;have hi:i<bs.length:=(List.getElem?_eq_some_iff.1 h0).1;have hbi:bs[i]=(l,b0):=(List.getElem?_eq_some_iff.1 h0).2;have hkeys:(bs.set i (l,b)).map (·.1)=bs.map (·.1):=by
  rw [List.map_set];apply List.ext_getElem?;intro k;by_cases hk:i=k
  ·subst hk;simp [hi,hbi]
  ·rw [List.getElem?_set_ne hk]
 have hne: ∀p∈bs.set i (l,b),p=(l,b)∨(p∈bs∧p.1≠l):=by
  intro p hp;obtain⟨k,hk,rfl⟩:=List.mem_iff_getElem.1 hp;by_cases hik:i=k
  ·subst hik;simp
  ·refine .inr ⟨by rw [List.getElem_set_ne hik];exact List.getElem_mem _,fun he=>hik ?_⟩;rw [List.getElem_set_ne hik] at he;simp only [List.length_set] at hk;have h1:(bs.map (·.1))[i]'(by simpa using hi)=(bs.map (·.1))[k]'(by simpa using hk):=by simp [hbi,he]
   exact(List.getElem_inj h.nd).1 h1
 have hll:l<s.blks.length:=h.lt hm;refine⟨⟨by simp;exact h.ext.bl,fun j hj hn=> ?_,h.ext.tl,h.ext.t⟩,?_,?_,by rw [hkeys];exact h.nd,h.g,h.gT,h.gd,?_,?_⟩
 ·rw [←h.ext.b j hj hn];refine List.getElem?_set_ne ?_
  rintro rfl
  rcases h.bL (l,b0) hm with h1|h1
  ·exact hn h1
  ·simp only at h1;omega
 ·intro p hp;rcases hne p hp with rfl|⟨hp,hn⟩
  ·simp [hll]
  ·rw [←h.b p hp];exact List.getElem?_set_ne (Ne.symm hn)
 ·intro p hp;rcases hne p hp with rfl|⟨hp,hn⟩
  ·exact h.bL (l,b0) hm
  ·exact h.bL p hp
 ·intro p hp hl cs' w' he;rcases hne p hp with rfl|⟨hp,hn⟩
  ·exact absurd he (hb cs' w')
  ·exact h.lk p hp hl cs' w' he
 ·intro p hp cs' w' he;rcases hne p hp with rfl|⟨hp,hn⟩
  ·exact absurd he (hb cs' w')
  ·exact h.tv p hp cs' w' he
theorem aCi{x:aH}{t:Str}(hg:wanted e gd=some true)(hS:St L T s0 s bs gs)(hx:evO P e x= .str t)(k: ∀l s',St L T s0 s' ((l,.iter t 0)::bs) gs→Wo P rest (aG (some d) pd) ⟨upd e d (.iter l),ds⟩ s' Q):Wo P (⟨some d,.gV x,gd,pre⟩::rest) pd ⟨e,ds⟩ s Q:=
 wgp rfl hg (v:= .iter s.blks.length) (by simp only [dL,aR,dJ,bZ,hx]) (k _ _ (hS.aF1 (fun _ _ h=>by cases h)))
theorem aDA{it:aH}{l:Nat}{t:Str}{pos:Nat}(i:Nat)(hg:wanted e gd=some true)(hS:St L T s0 s bs gs)(hb:bs[i]?=some (l,.iter t pos))(hx:evO P e it= .iter l)
(kt:decide (pos<t.length)=true→ ∀s',St L T s0 s' (bs.set i (l,.iter t (pos+(rune t pos).2))) gs→Wo P rest (aG (some d) pd) ⟨upd e d (.tuple [.bool true,.int .i64 pos,.int .i32 (rune t pos).1]),ds⟩ s' Q)
(kf:decide (pos<t.length)=false→Wo P rest (aG (some d) pd) ⟨upd e d (.tuple [.bool false]),ds⟩ s Q):Wo P (⟨some d,.iO it,gd,pre⟩::rest) pd ⟨e,ds⟩ s Q:=by
 have hget:=hS.get i hb;by_cases hp:pos<t.length
 ·refine wgp rfl hg (v:= .tuple [.bool true,.int .i64 pos,.int .i32 (rune t pos).1]) (s1:={s with blks:=s.blks.set l (.iter t (pos+(rune t pos).2))}) ?_ (kt (decide_eq_true hp) _ (hS.aFz i hb (fun _ _ h=>by cases h)));simp only [dL,aR,dJ,bZ,hx,hget,if_pos hp];rfl
 ·refine wgp rfl hg (v:= .tuple [.bool false]) (s1:=s) ?_ (kf (decide_eq_false hp));simp only [dL,aR,dJ,bZ,hx,hget,if_neg hp]
end


section
variable {P : aL} {s0 s : ASt} {L T : List Nat} {bs : List (Nat × eF)} {gs : List (AV × Nat × List AV)}
theorem St.jR{l:Nat}{lp:nA}(h:St L T s0 s bs gs)(i:Nat)(hb:bs[i]?=some (l,.loop lp))(hr:lp.st= .ready): ∃s2,Fw.jR s l=some s2∧St L T s0 s2 (bs.set i (l,.loop {lp with st:= .busy})) gs:=
 ⟨_,by simp only [Fw.jR,h.get i hb,hr],h.aFz i hb (fun _ _ h=>by cases h)⟩
theorem St.fR{l:Nat}{lp:nA}(h:St L T s0 s bs gs)(i:Nat)(hb:bs[i]?=some (l,.loop lp))(f:nA→nA): ∃s2,Fw.fR s l f=some s2∧St L T s0 s2 (bs.set i (l,.loop (f lp))) gs:=
 ⟨_,by simp only [Fw.fR,h.get i hb],h.aFz i hb (fun _ _ h=>by cases h)⟩
end
end Go.Fw
set_option maxRecDepth 100000
namespace Go.Proofs.Ytfcfnkffgiklpaa
open Go Go.Fw
structure aA where
 effect:Str
 instance_:Int
 marker:Int
abbrev aF(x:aA):AV:= .agg [(.str x.effect),(.int .i64 x.instance_),(.int .i64 x.marker)]
abbrev aB(x:aA):AV:=aF x
theorem aM(x:aA):bE (aB x)=true:=aE9 (.cons rfl (.cons rfl (.cons rfl (.nil))))
theorem bH(x:aA):Fw.Can (aF x):=⟨rfl,aM x⟩
theorem nC(x:aA):(cellsOf (aB x)).length=3:=rfl
end Go.Proofs.Ytfcfnkffgiklpaa
namespace Go.Proofs.Ytfcfnkffgiklpaa
open Go Go.Fw Go.RowKit
open Go.Proofs
theorem pW:(Try.prog.info? 24).map (fun i=>(i.zero,i.size,i.bytes))=some (some (.agg #[.string ByteArray.empty,.int .i64 0,.int .i64 0]),3,32):=by kernel_rfl
@[simp] theorem aFC:(FV Try.prog).round=none:=rfl
@[simp] theorem aFW:(FV Try.prog).depth=none:=rfl
@[simp] theorem aGe:(FV Try.prog).fn 18:=⟨_,Try.func18⟩
@[simp] theorem aGg:(FV Try.prog).fn 21:=⟨_,Try.func21⟩
@[simp] theorem aGc:(FV Try.prog).fn 23:=⟨_,Try.func23⟩
@[simp] theorem aGa:(FV Try.prog).fn 30:=⟨_,Try.func30⟩
@[simp] theorem aGd:(FV Try.prog).fn 31:=⟨_,Try.func31⟩
@[simp] theorem aGb:(FV Try.prog).fn 32:=⟨_,Try.func32⟩
@[simp] theorem aF9:(FV Try.prog).fn 34:=⟨_,Try.func34⟩
@[simp] theorem aGf:(FV Try.prog).fn 38:=⟨_,Try.func38⟩
theorem q22(w:World)(a:Option Addr)(n c n' c':Nat):(binOp .eql 22 (.slice a n c) (.slice none n' c')).run Try.prog w= .ok (.bool a.isNone) w:=Lib.run_eql_slice_nil w 22 24 a n c n' c' (by kernel_rfl)
set_option maxHeartbeats 800000 in
set_option maxRecDepth 100000 in
theorem aCk (n c:Nat) (w:World):CallsIn (FV Try.prog) 0 Try.prog 31 #[.slice none n c] w fun e w'=>e= .returned (.slice none 0 0)∧w'=w:=by
 have q:=q22
 gi_enter Try.func31,Try.ntmps31
 gi_wp2
 go_ret
 exact⟨rfl,rfl⟩
set_option maxHeartbeats 2000000 in
set_option maxRecDepth 100000 in
theorem aAM (ad:Addr) (n c:Nat) (xs:List Value) (w:World) (hl:xs.length=n*3) (hc: ∀j u,xs[j]?=some u→w.cell? (ad.add j)=some u) (h1: ∀u∈xs,u.oneCell'=true) (hbig:n*32≤140737488355328):
  CallsIn (FV Try.prog) 0 Try.prog 31 #[.slice (some ad) n c] w fun e w'=> ∃v',e= .returned v'∧w'.ownsRow w.heap.size 24 3 v' n xs∧Below w.heap.size w w':=by
 obtain⟨i0,hi,hz0,hz1,hz2⟩:=info_parts pW;have q:=q22;have A:Aside (∀j u,xs[j]?=some u→w.cell? (ad.add j)=some u):=hc;clear hc
 gi_enter Try.func31,Try.ntmps31
 gi_wp2_with (gi_at_builtin;refine wpListIn_append_own _ rfl _ _ 22 rfl w.heap.size 24 i0 (.agg #[.string ByteArray.empty,.int .i64 0,.int .i64 0]) 3 32 Try.underlying22 hi hz0 hz1 hz2 rfl (by decide) _ _ _ rfl (World.ownsRow_made w #[] 0 (Nat.le_refl _) (Nat.zero_le _) rfl) ad n c xs rfl ?qc1 ?qc2 ?qc3 ?qc4 ?qc5 ?qc6 ?_)
 case qc1=>exact hl
 case qc2=>
  intro j u hj;exact Lib.cell?_alloc_some _ (A.out j u hj)
 case qc3=>exact h1
 case qc4=>unfold maxLen;omega
 case qc5=>omega
 case qc6=>simp
 intro v' w1 hown hgrow hnil
 gi_wp2
 go_ret
 refine⟨v',rfl,by simpa using hown,?_⟩;exact((Below.refl _ w).alloc (Nat.le_refl _) _).grown hgrow (by simp) (by intro k hk;simp [Value.ownBlock] at hk;omega)
def uH(w:World)(v:Value)(n:Nat)(xs:List Value):Prop:=xs.length=n*3∧(∀u∈xs,u.oneCell'=true)∧((∃c,v= .slice none n c∧n=0)∨ ∃ad c,v= .slice (some ad) n c∧ ∀j u,xs[j]?=some u→w.cell? (ad.add j)=some u)
theorem tY{v:Value}{n:Nat}{xs:List Value}{w:World}(h:uH w v n xs)(hn:n≤1048576){base:Nat}(hb:base≤w.heap.size):
  CallsIn (FV Try.prog) 0 Try.prog 31 #[v] w fun e w'=> ∃v',e= .returned v'∧w'.ownsRow base 24 3 v' n xs∧Below w.heap.size w w'∧ ∀k,v'.ownBlock=some k→w.heap.size≤k:=by
 obtain⟨hl,h1,⟨c,rfl,h0⟩|⟨ad,c,rfl,hc⟩⟩:=h
 ·refine(aCk n c w).mono ?_
  rintro e w' ⟨rfl,rfl⟩
  exact⟨_,rfl,⟨hl,.inl ⟨rfl,h0⟩⟩,Below.refl _ _,fun k hk=>by cases hk⟩
 ·refine(aAM ad n c xs w hl hc h1 (by omega)).mono ?_
  rintro e w' ⟨v',rfl,hown,hbl⟩
  refine⟨v',rfl,⟨hown.1,?_⟩,hbl,?_⟩
  ·rcases hown.2 with hv|⟨g,cap,cur,h1,h2,h3⟩
   ·exact .inl hv
   ·exact .inr ⟨g,cap,cur,h1,by omega,h3⟩
  ·intro k hk;rcases hown.2 with ⟨hv,_⟩|⟨g,cap,cur,h1,h2,h3⟩
   ·rw [hv] at hk;cases hk
   ·rw [h1] at hk;cases hk;exact h2
theorem iJ{P:Program}(w:World)(dT sT ty elem:TypeId)(size g o dLen dCap k:Nat)(a:Addr)(sLen sCap:Nat)(cur:Array Value)(t:TypeId)(cs:List Value)
(hu:P.underlying dT=some (.slice elem))(hs:(P.info? elem).map (·.size)=some size)
(hg:w.heap[g]?=some (.cells cur t (0,0)))(hk:Nat.min sLen dLen=k)(hn:cs.length=k*size)
(hsrc: ∀j v,cs[j]?=some v→w.cell? (a.add j)=some v)(hfit:o+cs.length≤cur.size)(h1: ∀v∈cs,v.oneCell'=true):
  (Builtin.copy_ #[dT,sT] ty #[.slice (some ⟨g,o,none⟩) dLen dCap,.slice (some a) sLen sCap]).run P w=
   .ok (goInt k) (w.setRow g (cur.toList.take o++cs++cur.toList.drop (o+cs.length)).toArray):=by
 have hl:=run_loadCells_list (P:=P) w a cs hsrc;have hst:=run_storeCells_at P g o t cs 0 cur w hg (by simpa using hfit) h1;cases hq:P.info? elem with
 |none=>simp [hq] at hs
 |some i=>
  have hi:i.size=size:=by simpa [hq] using hs
  rw [hn] at hl;simp [Builtin.copy_,run_underlying hu,Builtin.lenOf,Builtin.firstCells,sizeOf,typeInfo,hq,hi,hk,hl,hst]
theorem gJ(w:World)(g k:Nat)(c:Array Value)(h:k≠g):(w.setRow g c).heap[k]?=w.heap[k]?:=by
 unfold World.setRow;simp [Array.getElem?_modify,Ne.symm h]
theorem nI:(Try.prog.info? 24).map (·.size)=some 3:=by kernel_rfl
theorem aCd(w:World):(Go.sizeOf 24).run Try.prog w= .ok 3 w:=by
 obtain⟨i,h1,h2⟩:=Option.map_eq_some_iff.1 nI;simp [Go.sizeOf,typeInfo,h1,h2]
def aCX(base n:Nat)(xs:List Value)(g:Nat)(w:World)(e:Ending)(w':World):Prop:= ∃v',e= .returned v'∧w'.ownsRow base 24 3 v' n xs∧w.grownBy w' (some g)
theorem aAY (cur news : List Value) (n c i : Nat) (hs : cur.length = c * 3) (hl : news.length = 3) (hi : i < n) (hroom : n + 1 ≤ c) :
    (((((cur.take ((i + 1) * 3) ++ (cur.take (n * 3)).drop (i * 3) ++ cur.drop ((i + 1) * 3 + ((cur.take (n * 3)).drop (i * 3)).length)).toArray.toList.take (i * 3) ++ news ++
      (cur.take ((i + 1) * 3) ++ (cur.take (n * 3)).drop (i * 3) ++ cur.drop ((i + 1) * 3 + ((cur.take (n * 3)).drop (i * 3)).length)).toArray.toList.drop (i * 3 + news.length))).toArray).toList).take ((n + 1) * 3) =
      (cur.take (n * 3)).take (i * 3) ++ news ++ (cur.take (n * 3)).drop (i * 3) := by
  simp only [List.toList_toArray];have e1 : (cur.take ((i + 1) * 3) ++ (cur.take (n * 3)).drop (i * 3) ++ cur.drop ((i + 1) * 3 + ((cur.take (n * 3)).drop (i * 3)).length)).take (i * 3) = (cur.take (n * 3)).take (i * 3) := by
    rw [List.append_assoc, List.take_append_of_le_length (by rw [List.length_take, hs]; omega), List.take_take, List.take_take]
    congr 1; omega
  have e2 : (cur.take ((i + 1) * 3) ++ (cur.take (n * 3)).drop (i * 3) ++ cur.drop ((i + 1) * 3 + ((cur.take (n * 3)).drop (i * 3)).length)).drop (i * 3 + news.length) = (cur.take (n * 3)).drop (i * 3) ++ cur.drop ((i + 1) * 3 + ((cur.take (n * 3)).drop (i * 3)).length) := by
    rw [List.append_assoc, List.drop_append_of_le_length (by rw [List.length_take, hs, hl]; omega), hl];rw [List.drop_eq_nil_of_le (by rw [List.length_take, hs]; omega), List.nil_append]
  rw [e1, e2, ← List.append_assoc];refine List.take_left' ?_;simp only [List.length_append, List.length_take, List.length_drop, hs, hl];omega
theorem yG{w:World}{vb g lb cb o:Nat}{cur:Array Value}(hne:vb≠g)(hv: ∃cv,w.heap[vb]?=some (.cells cv 24 (0,0)))(hg:w.heap[g]?=some (.cells cur 24 (0,0)))(hz:cur.size≠0):
  (callFunc 38 #[.slice (some ⟨vb,0,none⟩) 1 1,.slice (some ⟨g,o,none⟩) lb cb]).run Try.prog w= .ok (.value (.bool false)) w:=by
 obtain⟨cv,hv⟩:=hv;rw [run_callFunc_extern Try.func38 (by kernel_rfl) (by kernel_rfl) (by kernel_rfl) (e:=Extern.SlicesOverlaps.overlaps #[22,22] #[4]) (by kernel_rfl),
  Lib.run_overlaps_apart w 22 4 24 Try.underlying22 3 aCd ⟨vb,0,none⟩ ⟨g,o,none⟩ 1 1 lb cb hne 24 24 cv.size cur.size (by simp [World.shape?,hv]) (by simp [World.shape?,hg]) hz (by simp [World.frozen?,hv]) (by simp [World.frozen?,hv])]
 rfl
set_option maxHeartbeats 4000000 in
set_option maxRecDepth 100000 in
theorem xU {base g n c i vb:Nat} {cur:Array Value} {xs news:List Value} {w:World} (hi:i<n) (hroom:n+1≤c) (hc63:c≤9223372036854775807)
  (hg:w.heap[g]?=some (.cells cur 24 (0,0))) (hs:cur.size=c*3) (hx:cur.toList.take (n*3)=xs) (hl:news.length=3) (hc: ∀j u,news[j]?=some u→w.cell? ⟨vb,j,none⟩=some u) (h1: ∀u∈news,u.oneCell'=true)
  (h1c: ∀u∈xs,u.oneCell'=true) (hne:vb≠g) (hbg:base≤g) (hcell: ∃cv,w.heap[vb]?=some (.cells cv 24 (0,0))):
  CallsIn (FV Try.prog) 0 Try.prog 30 #[.slice (some ⟨g,0,none⟩) n c,.int .i64 i,.slice (some ⟨vb,0,none⟩) 1 1] w (aCX base (n+1) (xs.take (i*3)++news++xs.drop (i*3)) g w):=by
 have u22:=run_underlying Try.underlying22;have hw1:IntKind.i64.wrap ((i:Int)+1)=(i:Int)+1:=by rw [IntKind.wrap_i64];omega
 have hw2:IntKind.i64.wrap ((n:Int)+1)=(n:Int)+1:=by rw [IntKind.wrap_i64];omega
 have hz2: ¬((i:Int)=(n:Int)):=by omega
 have hov: ∀lb cb,(callFunc 38 #[.slice (some ⟨vb,0,none⟩) 1 1,.slice (some ⟨g,(i+1)*3,none⟩) lb cb]).run Try.prog w= .ok (.value (.bool false)) w:=fun lb cb=>yG hne hcell hg (by omega);have hdl:(xs.drop (i*3)).length=(n-i)*3:=by
  rw [←hx,List.length_drop,List.length_take,Array.length_toList,hs,Nat.sub_mul];omega
 have hcur: ∀k,cur.toList[k]?=w.cell? ⟨g,k,none⟩:=fun k=>by simp [World.cell?,hg]
 have hcp1: ∀ty dc sc,(Builtin.copy_ #[22,22] ty #[.slice (some ⟨g,(i+1)*3,none⟩) (n-i) dc,.slice (some ⟨g,i*3,none⟩) (n+1-i) sc]).run Try.prog w.drew= .ok (goInt ((n-i:Nat):Int)) (w.drew.setRow g (cur.toList.take ((i+1)*3)++xs.drop (i*3)++cur.toList.drop ((i+1)*3+(xs.drop (i*3)).length)).toArray):=fun ty dc sc=>
  iJ w.drew 22 22 ty 24 3 g ((i+1)*3) (n-i) dc (n-i) ⟨g,i*3,none⟩ (n+1-i) sc cur 24 (xs.drop (i*3)) Try.underlying22 nI hg (Nat.min_eq_right (by omega)) hdl
   (fun j v hj=>by
    rw [Addr.add_lit];show w.cell? _=_;rw [←hcur,←hj,←hx,List.getElem?_drop,List.getElem?_take];have:j<(xs.drop (i*3)).length:=(List.getElem?_eq_some_iff.1 hj).1;rw [hdl,Nat.sub_mul] at this;rw [if_pos (by omega)])
   (by rw [hdl,hs,Nat.sub_mul];omega) (fun v hv=>h1c v (List.mem_of_mem_drop hv))
 have hlx:xs.length=n*3:=by rw [←hx,List.length_take,Array.length_toList,hs];omega
 obtain⟨c1,hc1⟩: ∃c1,c1=(cur.toList.take ((i+1)*3)++xs.drop (i*3)++cur.toList.drop ((i+1)*3+(xs.drop (i*3)).length)).toArray:=⟨_,rfl⟩
 rw [←hc1] at hcp1;have hs1:c1.size=c*3:=by
  rw [hc1];simp only [List.size_toArray,List.length_append,List.length_take,List.length_drop,Array.length_toList,hlx,hs];omega
 obtain⟨W1,hW1⟩: ∃W1,W1=w.drew.setRow g c1:=⟨_,rfl⟩
 rw [←hW1] at hcp1;have hg1:W1.heap[g]?=some (.cells c1 24 (0,0)):=by rw [hW1];exact setRow_heap _ g cur c1 24 (0,0) hg
 have hcp2: ∀ty dc,(Builtin.copy_ #[22,22] ty #[.slice (some ⟨g,i*3,none⟩) (n+1-i) dc,.slice (some ⟨vb,0,none⟩) 1 1]).run Try.prog W1= .ok (goInt ((1:Nat):Int)) (W1.setRow g (c1.toList.take (i*3)++news++c1.toList.drop (i*3+news.length)).toArray):=fun ty dc=>
  iJ _ 22 22 ty 24 3 g (i*3) (n+1-i) dc 1 ⟨vb,0,none⟩ 1 1 c1 24 news Try.underlying22 nI hg1 (Nat.min_eq_left (by omega)) hl
   (fun j v hj=>by
    rw [Addr.add_lit,Nat.zero_add];refine Eq.trans (fF ?_) (hc j v hj);rw [hW1];exact(gJ _ g vb c1 hne))
   (by rw [hl,hs1];omega) h1
 obtain⟨c2,hc2⟩: ∃c2,c2=(c1.toList.take (i*3)++news++c1.toList.drop (i*3+news.length)).toArray:=⟨_,rfl⟩
 rw [←hc2] at hcp2;have A1:Aside (W1=w.drew.setRow g c1):=hW1;have A2:Aside (c1=(cur.toList.take ((i+1)*3)++xs.drop (i*3)++cur.toList.drop ((i+1)*3+(xs.drop (i*3)).length)).toArray):=hc1;have A3:Aside (c2=(c1.toList.take (i*3)++news++c1.toList.drop (i*3+news.length)).toArray):=hc2;clear hW1 hc1 hc2;have mixed:Try.prog.follows .mixedOrders=true:=by kernel_rfl
 gi_enter Try.func30,Try.ntmps30
 gi_wp2_with (simp only [hov])
 gi_region_with_o fail
 all_goals gi_wp2
 all_goals go_ret
 all_goals
  refine⟨_,rfl,⟨by simp only [List.length_append,List.length_take,List.length_drop,hlx,hl];omega,.inr ⟨g,c,c2,rfl,hbg,setRow_heap _ g c1 c2 24 (0,0) (by rw [A1.out];exact setRow_heap _ g cur c1 24 (0,0) hg),hroom,hc63,?_,?_⟩⟩,?_⟩
  ·rw [A3.out];simp only [List.size_toArray,List.length_append,List.length_take,List.length_drop,Array.length_toList,hl,hs1];omega
  ·rw [A3.out,A2.out,←hx];exact aAY cur.toList news n c i (by rw [Array.length_toList,hs]) hl hi hroom
  ·have hlt:=eI hg;refine⟨?_,?_,?_,?_,fun k hk hne2=> ?_⟩
   ·rw [A1.out];rfl
   ·rw [A1.out];rfl
   ·rw [A1.out];rfl
   ·rw [A1.out];simp only [size_setRow];exact Nat.le_refl _
   ·have hkg:k≠g:=fun h=>hne2 (by rw [h]);rw [gJ _ g k c2 hkg,A1.out,gJ _ g k c1 hkg]
    rfl
theorem nZ{F:Fence}{nF:Nat}{P:Program}(w:World){ops:Array Oper}{rest:List Oper}{o:Oper}{a:Act}{Q:Exit→Act→World→Prop}(hg:o.guard=none)(s x:Operand)(t tn:TypeId)
(hop:o.op= .call {callee:= .builtin .append,args:= #[s,x],argTypes:= #[t,tn]})(vs vx:Value)(hs:a.eval s=vs)(hx:a.eval x=vx)(v':Value)(w':World)
(hrun:(Builtin.append_ #[t,tn] o.type #[vs,vx]).run P w= .ok v' w')(hK:wpListIn F nF P ops Q rest (a.put o.dst v') w'):wpListIn F nF P ops Q (o::rest) a w:=by
 refine wpListIn_plain hg fun K hK'=> ?_;unfold Oper.wpIn;refine⟨?_,?_⟩
 ·simp [Oper.about,hop,resolve,Target.leads,Sem.run_pure]
 ·rw [Oper.semAt_plain F _ _ (by rw [hop];intro c hc';cases hc')];simp [execOp,hop,resolve,invoke,builtin,hs,hx,hrun,Result.andThen];exact hK' _ _ hK
theorem qR(w:World)(o:Obj)(k:Nat)(h:k<w.heap.size):(w.drew.alloc o).heap[k]?=w.heap[k]?:=iN (w:=w.drew) (by show k≠w.heap.size;omega)
set_option maxHeartbeats 4000000 in
set_option maxRecDepth 100000 in
theorem aA5 {base n vb:Nat} {v:Value} {xs news:List Value} {w:World} (hown:w.ownsRow base 24 3 v n xs) (hl:news.length=3) (hc: ∀j u,news[j]?=some u→w.cell? ⟨vb,j,none⟩=some u) (h1: ∀u∈news,u.oneCell'=true)
  (hb:base≤w.heap.size) (hn:n≤1048576):
  CallsIn (FV Try.prog) 0 Try.prog 30 #[v,.int .i64 n,.slice (some ⟨vb,0,none⟩) 1 1] w fun e w'=> ∃v',e= .returned v'∧w'.ownsRow base 24 3 v' (n+1) (xs++news)∧w.grownBy w' v.ownBlock:=by
 obtain⟨i0,hi,hz0,hz1,hz2⟩:=info_parts pW;obtain⟨o,c,hv⟩: ∃o c,v= .slice o n c:=by
  rcases hown.2 with ⟨hv,h0⟩|⟨g,c,cur,hv,_⟩
  ·exact⟨none,0,by rw [hv,h0]⟩
  ·exact⟨_,c,hv⟩
 have hnc:n≤c:=by
  rcases hown.2 with ⟨hv',h0⟩|⟨g,c',cur,hv',_,_,h3,_⟩
  ·omega
  ·rw [hv] at hv';cases hv';exact h3
 have u22:=run_underlying Try.underlying22;have A:Aside (∀j u,news[j]?=some u→w.cell? ⟨vb,j,none⟩=some u):=hc;have A2:Aside (w.ownsRow base 24 3 v n xs):=hown;clear hc hown;subst hv;have hcn:(c=n)∨ ¬(c=n):=Decidable.em _;rcases hcn with hcn|hcn
 ·have hcn2:n-n=0:=Nat.sub_self n
  gi_enter Try.func30,Try.ntmps30
  gi_wp2_with (gi_at_builtin;refine wpListIn_append_own _ rfl _ _ 22 rfl base 24 i0 (.agg #[.string ByteArray.empty,.int .i64 0,.int .i64 0]) 3 32 Try.underlying22 hi hz0 hz1 hz2 rfl (by decide) _ n xs rfl A2.out ⟨vb,0,none⟩ 1 1 news rfl (by rw [hl]) ?qc2 h1 ?qc4 ?qc5 hb ?_)
  case qc2=>
   intro j u hj;rw [Addr.add_lit,Nat.zero_add];exact A.out j u hj
  case qc4=>unfold maxLen;omega
  case qc5=>omega
  intro v' w1 hown hgrow hnil
  gi_wp2
  go_ret
  exact⟨v',rfl,hown,by cases o<;>exact hgrow⟩
 ·have hcn2:n-n=0:=Nat.sub_self n
  gi_enter Try.func30,Try.ntmps30
  gi_wp2_with (gi_at_builtin;refine wpListIn_append_own _ rfl _ _ 22 rfl base 24 i0 (.agg #[.string ByteArray.empty,.int .i64 0,.int .i64 0]) 3 32 Try.underlying22 hi hz0 hz1 hz2 rfl (by decide) _ n xs rfl A2.out ⟨vb,0,none⟩ 1 1 news rfl (by rw [hl]) ?qc2 h1 ?qc4 ?qc5 hb ?_)
  case qc2=>
   intro j u hj;rw [Addr.add_lit,Nat.zero_add];exact A.out j u hj
  case qc4=>unfold maxLen;omega
  case qc5=>omega
  intro v' w1 hown hgrow hnil
  gi_wp2
  go_ret
  exact⟨v',rfl,hown,by cases o<;>exact hgrow⟩
theorem aCo (xs news : List Value) (ROW : List Value) (n G i : Nat) (hx : xs.length = n * 3) (hR : ROW.length = G * 3) (hp : ROW.take (i * 3) = xs.take (i * 3)) (hl : news.length = 3) (hi : i < n) (hG : n + 1 ≤ G) :
    (((((ROW.take (i * 3) ++ news ++ ROW.drop (i * 3 + news.length)).toArray.toList.take ((i + 1) * 3) ++ xs.drop (i * 3) ++
      (ROW.take (i * 3) ++ news ++ ROW.drop (i * 3 + news.length)).toArray.toList.drop ((i + 1) * 3 + (xs.drop (i * 3)).length))).toArray).toList).take ((n + 1) * 3) =
      xs.take (i * 3) ++ news ++ xs.drop (i * 3) := by
  simp only [List.toList_toArray];have e1 : (ROW.take (i * 3) ++ news ++ ROW.drop (i * 3 + news.length)).take ((i + 1) * 3) = xs.take (i * 3) ++ news := by
    rw [hp];refine List.take_left' ?_;simp only [List.length_append, List.length_take, hx, hl];omega
  rw [e1];refine List.take_left' ?_;simp only [List.length_append, List.length_take, List.length_drop, hx, hl];omega
set_option maxHeartbeats 4000000 in
set_option maxRecDepth 100000 in
theorem aAk {base g n c i vb:Nat} {cur:Array Value} {xs news:List Value} {w:World} (hi:i<n) (hnc:n≤c) (hroom:c<n+1) (hbig:n≤1048576)
  (hg:w.heap[g]?=some (.cells cur 24 (0,0))) (hs:cur.size=c*3) (hx:cur.toList.take (n*3)=xs) (hl:news.length=3) (hc: ∀j u,news[j]?=some u→w.cell? ⟨vb,j,none⟩=some u) (h1: ∀u∈news,u.oneCell'=true)
  (h1c: ∀u∈xs,u.oneCell'=true) (hbg:base≤g):
  CallsIn (FV Try.prog) 0 Try.prog 30 #[.slice (some ⟨g,0,none⟩) n c,.int .i64 i,.slice (some ⟨vb,0,none⟩) 1 1] w (aCX base (n+1) (xs.take (i*3)++news++xs.drop (i*3)) g w):=by
 obtain⟨i0,hi0,hz0,hzs,hzb⟩:=info_parts pW;have u22:=run_underlying Try.underlying22;have hw1:IntKind.i64.wrap ((i:Int)+1)=(i:Int)+1:=by rw [IntKind.wrap_i64];omega
 have hw2:IntKind.i64.wrap ((n:Int)+1)=(n:Int)+1:=by rw [IntKind.wrap_i64];omega
 have hw3:IntKind.i64.wrap ((n:Int)+1-i)=(n:Int)+1-i:=by rw [IntKind.wrap_i64];omega
 have hz2: ¬((i:Int)=(n:Int)):=by omega
 have hz3:(c:Int)<(n:Int)+1:=by omega
 have hkk:(n:Int)+1-(i:Int)=((n+1-i:Nat):Int):=by omega
 have hik:i+(n+1-i)=n+1:=by omega
 have hlx:xs.length=n*3:=by rw [←hx,List.length_take,Array.length_toList,hs];omega
 have hcur: ∀k,cur.toList[k]?=w.cell? ⟨g,k,none⟩:=fun k=>by simp [World.cell?,hg]
 have hcx: ∀k u,xs[k]?=some u→w.cell? ⟨g,k,none⟩=some u:=fun k u hk=>by
  rw [←hcur,←hk,←hx,List.getElem?_take];have:k<xs.length:=(List.getElem?_eq_some_iff.1 hk).1;rw [hlx] at this;rw [if_pos this]
 have hold:(Builtin.firstCells i0.size i (.slice (some ⟨g,0,none⟩) i c)).run Try.prog w.drew= .ok (xs.take (i*3)).toArray w.drew:=by
  rw [hzs];exact run_firstCells_some w.drew 3 i ⟨g,0,none⟩ i c (xs.take (i*3)) (by rw [List.length_take,hlx];omega) (fun j v hj=>by
   rw [Addr.add_lit,Nat.zero_add];rw [List.getElem?_take] at hj;split at hj
   ·exact hcx j v hj
   ·cases hj)
 obtain⟨G,hG⟩: ∃G,G=grownCap w (n+1) c 24:=⟨_,rfl⟩
 obtain⟨ROW,hROW⟩: ∃ROW:Array Value,ROW=(xs.take (i*3)).toArray++Builtin.zeroCells (Value.agg #[.string ByteArray.empty,.int .i64 0,.int .i64 0]).cells (n+1-i)++Builtin.zeroCells (Value.agg #[.string ByteArray.empty,.int .i64 0,.int .i64 0]).cells (G-(n+1)):=⟨_,rfl⟩
 obtain⟨W1,hW1⟩: ∃W1,W1=w.drew.alloc (.cells ROW 24):=⟨_,rfl⟩
 have hrz: ∀ty,(Builtin.append_ #[22,3] ty #[.slice (some ⟨g,0,none⟩) i c,.int .i64 ((n:Int)+1-(i:Int))]).run Try.prog w=
   .ok (.slice (some ⟨w.heap.size,0,none⟩) (n+1) G) W1:=fun ty=>by
  have h:=Lib.run_append_grow_zeros w 22 3 ty 24 i0 _ .i64 .i64 Try.underlying22 Try.underlying3 hi0 hz0 (some ⟨g,0,none⟩) i c (xs.take (i*3)) hold (n+1-i) (by omega) (by omega) (by omega) (by omega) (by rw [hzb];omega) (by rw [hzb,hik];exact growslice_fits hroom (by omega));rw [hik,←hG,←hROW,←hW1] at h;rw [hkk];exact h
 have hGn:n+1≤G:=by rw [hG];exact grownCap_ge w _ _ _
 have hG63:G≤maxLen:=by rw [hG];exact grownCap_le_maxLen w (n+1) c 24 (by unfold maxLen;omega)
 have hRs:ROW.size=G*3:=by
  rw [hROW];simp only [Array.size_append,List.size_toArray,List.length_take,hlx,size_zeroCells];have:(Value.agg #[.string ByteArray.empty,.int .i64 0,.int .i64 0]).cells.size=3:=rfl;rw [this];omega
 have hRt:ROW.toList.take (i*3)=xs.take (i*3):=by
  rw [hROW];simp only [Array.toList_append,List.toList_toArray,List.append_assoc];refine List.take_left' ?_;rw [List.length_take,hlx];omega
 have hlt:=eI hg;have hg1:W1.heap[w.heap.size]?=some (.cells ROW 24 (0,0)):=by rw [hW1];exact heap_alloc_new w.drew _
 have hvlt:vb<w.heap.size:=by
  have h0:0<news.length:=by omega
  exact block_lt_of_cell (hc 0 _ (List.getElem?_eq_getElem h0))
 obtain⟨c1,hc1⟩: ∃c1,c1=(ROW.toList.take (i*3)++news++ROW.toList.drop (i*3+news.length)).toArray:=⟨_,rfl⟩
 obtain⟨W2,hW2⟩: ∃W2,W2=W1.setRow w.heap.size c1:=⟨_,rfl⟩
 have hcp1: ∀ty dc,(Builtin.copy_ #[22,22] ty #[.slice (some ⟨w.heap.size,i*3,none⟩) (n+1-i) dc,.slice (some ⟨vb,0,none⟩) 1 1]).run Try.prog W1= .ok (goInt ((1:Nat):Int)) W2:=fun ty dc=>by
  have h:=iJ W1 22 22 ty 24 3 w.heap.size (i*3) (n+1-i) dc 1 ⟨vb,0,none⟩ 1 1 ROW 24 news Try.underlying22 nI hg1 (Nat.min_eq_left (by omega)) hl
   (fun j v hj=>by
    rw [Addr.add_lit,Nat.zero_add];refine Eq.trans (fF ?_) (hc j v hj);rw [hW1];exact qR w _ vb hvlt)
   (by rw [hl,hRs];omega) h1
  rw [←hc1,←hW2] at h;exact h
 have hs1:c1.size=G*3:=by
  rw [hc1];simp only [List.size_toArray,List.length_append,List.length_take,List.length_drop,Array.length_toList,hRs,hl];omega
 have hg2:W2.heap[w.heap.size]?=some (.cells c1 24 (0,0)):=by rw [hW2];exact setRow_heap _ _ ROW c1 24 (0,0) hg1
 have hdl:(xs.drop (i*3)).length=(n-i)*3:=by rw [List.length_drop,hlx,Nat.sub_mul]
 obtain⟨c2,hc2⟩: ∃c2,c2=(c1.toList.take ((i+1)*3)++xs.drop (i*3)++c1.toList.drop ((i+1)*3+(xs.drop (i*3)).length)).toArray:=⟨_,rfl⟩
 obtain⟨W3,hW3⟩: ∃W3,W3=W2.drew.setRow w.heap.size c2:=⟨_,rfl⟩
 have hgN:g≠w.heap.size:=by omega
 have hcp2: ∀ty dc sc,(Builtin.copy_ #[22,22] ty #[.slice (some ⟨w.heap.size,(i+1)*3,none⟩) (n-i) dc,.slice (some ⟨g,i*3,none⟩) (n-i) sc]).run Try.prog W2.drew= .ok (goInt ((n-i:Nat):Int)) W3:=fun ty dc sc=>by
  have h:=iJ W2.drew 22 22 ty 24 3 w.heap.size ((i+1)*3) (n-i) dc (n-i) ⟨g,i*3,none⟩ (n-i) sc c1 24 (xs.drop (i*3)) Try.underlying22 nI hg2 (Nat.min_eq_right (by omega)) hdl
   (fun j v hj=>by
    rw [Addr.add_lit];rw [List.getElem?_drop] at hj;refine Eq.trans (fF ?_) (hcx (i*3+j) v hj);show W2.heap[g]?=_;rw [hW2,gJ _ _ _ _ hgN,hW1];exact qR w _ g hlt)
   (by rw [hdl,hs1,Nat.sub_mul];omega) (fun v hv=>h1c v (List.mem_of_mem_drop hv))
  rw [←hc2,←hW3] at h;exact h
 have hGi: ¬(G=i):=by omega
 have hGim: ¬(G=i+1):=by omega
 have hci: ¬(c=i):=by omega
 have A1:Aside (W1=w.drew.alloc (.cells ROW 24)):=hW1;have A2:Aside (W2=W1.setRow w.heap.size c1):=hW2;have A3:Aside (W3=W2.drew.setRow w.heap.size c2):=hW3;have A4:Aside (c1=(ROW.toList.take (i*3)++news++ROW.toList.drop (i*3+news.length)).toArray):=hc1;have A5:Aside (c2=(c1.toList.take ((i+1)*3)++xs.drop (i*3)++c1.toList.drop ((i+1)*3+(xs.drop (i*3)).length)).toArray):=hc2;have A6:Aside (cur.toList.take (n*3)=xs):=hx;clear hW1 hW2 hW3 hc1 hc2 hG hROW hkk hik hold hcur hcx hx;have mixed:Try.prog.follows .mixedOrders=true:=by kernel_rfl
 gi_enter Try.func30,Try.ntmps30
 gi_wp2_with (gi_at_builtin;refine nZ _ rfl _ _ _ _ rfl _ _ rfl rfl _ _ (hrz _) ?_)
 gi_region_with_o fail
 all_goals gi_wp2
 all_goals go_ret
 all_goals
  refine⟨_,rfl,⟨by simp only [List.length_append,List.length_take,List.length_drop,hlx,hl];omega,.inr ⟨w.heap.size,G,c2,rfl,by omega,?_,hGn,hG63,?_,?_⟩⟩,?_⟩
  ·rw [A3.out];exact setRow_heap _ _ c1 c2 24 (0,0) hg2
  ·rw [A5.out];simp only [List.size_toArray,List.length_append,List.length_take,List.length_drop,Array.length_toList,hlx,hs1];omega
  ·rw [A5.out,A4.out];exact aCo xs news ROW.toList n G i hlx (by rw [Array.length_toList,hRs]) hRt hl hi hGn
  ·refine⟨?_,?_,?_,?_,fun k hk hne2=> ?_⟩
   ·rw [A3.out,A2.out,A1.out];rfl
   ·rw [A3.out,A2.out,A1.out];rfl
   ·rw [A3.out,A2.out,A1.out];rfl
   ·rw [A3.out,A2.out,A1.out];simp only [size_setRow];show w.heap.size≤((w.drew.alloc (.cells ROW 24)).setRow w.heap.size c1).heap.size;simp only [size_setRow];simp [World.alloc]
   ·have hkg:k≠w.heap.size:=by omega
    rw [A3.out,gJ _ _ k c2 hkg];show W2.heap[k]?=_;rw [A2.out,gJ _ _ k c1 hkg,A1.out];exact qR w _ k hk
theorem aBP{base n i vb:Nat}{v:Value}{xs news:List Value}{w:World}(hi:i≤n)(hown:w.ownsRow base 24 3 v n xs)(hl:news.length=3)(hc: ∀j u,news[j]?=some u→w.cell? ⟨vb,j,none⟩=some u)(h1: ∀u∈news,u.oneCell'=true)
(h1c: ∀u∈xs,u.oneCell'=true)(hb:base≤w.heap.size)(hn:n≤1048576)(hne:v.ownBlock≠some vb)(hcell: ∃cv,w.heap[vb]?=some (.cells cv 24 (0,0))):
  CallsIn (FV Try.prog) 0 Try.prog 30 #[v,.int .i64 i,.slice (some ⟨vb,0,none⟩) 1 1] w fun e w'=> ∃v',e= .returned v'∧w'.ownsRow base 24 3 v' (n+1) (xs.take (i*3)++news++xs.drop (i*3))∧w.grownBy w' v.ownBlock:=by
 by_cases h:i=n
 ·subst h;rw [List.take_of_length_le (by rw [hown.1];exact Nat.le_refl _),List.drop_of_length_le (by rw [hown.1];exact Nat.le_refl _),List.append_nil];exact aA5 hown hl hc h1 hb hn
 ·rcases hown.2 with ⟨hv,h0⟩|⟨g,c,cur,rfl,hbg,hg,hnc,hcm,hs,hx⟩
  ·omega
  ·have hvg:vb≠g:=fun q=>hne (by rw [q];rfl);by_cases hr:n+1≤c
   ·exact xU (by omega) hr hcm hg hs hx hl hc h1 h1c hvg hbg hcell
   ·exact aAk (by omega) hnc (by omega) hn hg hs hx hl hc h1 h1c hbg
theorem zY(cur z:List Value)(n c i:Nat)(hs:cur.length=c*3)(hi:i<n)(hnc:n≤c)(hz:z.length=3):
  ((cur.take (i*3)++(cur.take (n*3)).drop ((i+1)*3)++cur.drop (i*3+((cur.take (n*3)).drop ((i+1)*3)).length)).toArray.toList.take ((n-1)*3)++z++
   (cur.take (i*3)++(cur.take (n*3)).drop ((i+1)*3)++cur.drop (i*3+((cur.take (n*3)).drop ((i+1)*3)).length)).toArray.toList.drop ((n-1)*3+z.length)).toArray.toList.take ((n-1)*3)=
   (cur.take (n*3)).take (i*3)++(cur.take (n*3)).drop ((i+1)*3):=by
 simp only [List.toList_toArray];have e1:(cur.take (i*3)++(cur.take (n*3)).drop ((i+1)*3)++cur.drop (i*3+((cur.take (n*3)).drop ((i+1)*3)).length)).take ((n-1)*3)=(cur.take (n*3)).take (i*3)++(cur.take (n*3)).drop ((i+1)*3):=by
  rw [List.take_left' (by simp only [List.length_append,List.length_take,List.length_drop,hs];omega),List.take_take]
  congr 2;omega
 rw [e1,List.append_assoc];exact List.take_left' (by simp only [List.length_append,List.length_take,List.length_drop,hs];omega)
set_option maxHeartbeats 4000000 in
set_option maxRecDepth 100000 in
theorem yZ {base g n c i:Nat} {cur:Array Value} {xs:List Value} {w:World} (hi:i<n) (hnc:n≤c) (hcm:c≤maxLen)
  (hg:w.heap[g]?=some (.cells cur 24 (0,0))) (hs:cur.size=c*3) (hx:cur.toList.take (n*3)=xs)
  (h1c: ∀u∈xs,u.oneCell'=true) (hbg:base≤g):
  CallsIn (FV Try.prog) 0 Try.prog 34 #[.slice (some ⟨g,0,none⟩) n c,.int .i64 i,.int .i64 (i+1)] w (aCX base (n-1) (xs.take (i*3)++xs.drop ((i+1)*3)) g w):=by
 obtain⟨i0,hi0,hz0,hzs,hzb⟩:=info_parts pW;have u22:=run_underlying Try.underlying22;have hw1:IntKind.i64.wrap ((i:Int)+1)=(i:Int)+1:=by rw [IntKind.wrap_i64];unfold maxLen at hcm;omega
 have hij: ¬((i:Int)=(i:Int)+1):=by omega
 have hlx:xs.length=n*3:=by rw [←hx,List.length_take,Array.length_toList,hs];omega
 have hcur: ∀k,cur.toList[k]?=w.cell? ⟨g,k,none⟩:=fun k=>by simp [World.cell?,hg]
 have hcx: ∀k u,xs[k]?=some u→w.cell? ⟨g,k,none⟩=some u:=fun k u hk=>by
  rw [←hcur,←hk,←hx,List.getElem?_take];have:k<xs.length:=(List.getElem?_eq_some_iff.1 hk).1;rw [hlx] at this;rw [if_pos this]
 have hdl:(xs.drop ((i+1)*3)).length=(n-(i+1))*3:=by rw [List.length_drop,hlx,Nat.sub_mul]
 obtain⟨c1,hc1⟩: ∃c1,c1=(cur.toList.take (i*3)++xs.drop ((i+1)*3)++cur.toList.drop (i*3+(xs.drop ((i+1)*3)).length)).toArray:=⟨_,rfl⟩
 obtain⟨W1,hW1⟩: ∃W1,W1=w.drew.setRow g c1:=⟨_,rfl⟩
 obtain⟨D,hD⟩: ∃D,D=xs.drop ((i+1)*3):=⟨_,rfl⟩
 have hDl:D.length=(n-(i+1))*3:=by rw [hD];exact hdl
 have hld: ¬(c=i+1)→(loadCellsFrom ⟨g,(i+1)*3,none⟩ 0 ((n-(i+1))*3) #[]).run Try.prog w.drew= .ok D.toArray w.drew:=fun _=>by
  have h:=run_loadCells_list (P:=Try.prog) w.drew ⟨g,(i+1)*3,none⟩ D (fun j v hj=>by
   rw [Addr.add_lit];rw [hD,List.getElem?_drop] at hj;exact hcx _ _ hj)
  rw [hDl] at h;exact h
 have hst:(storeCells ⟨g,i*3,none⟩ D).run Try.prog w.drew= .ok () W1:=by
  have h2:=run_storeCells_at Try.prog g (i*3) 24 D 0 cur w.drew hg (by rw [hDl,hs];omega) (fun v hv=>h1c v (List.mem_of_mem_drop (by rw [←hD];exact hv)));simp only [Nat.add_zero] at h2;rw [hW1,hc1,←hD];exact h2
 have hn1:i+(n-(i+1))=n-1:=by omega
 have hcn: ¬(c=n-1):=by omega
 have hnn:n-(n-1)=1:=by omega
 have hn0:n-1≤n:=by omega
 have hnC:((n-1:Nat):Int)≤(n:Int):=by omega
 have hroom:n-1≤c:=by omega
 have hs1:c1.size=c*3:=by
  rw [hc1];simp only [List.size_toArray,List.length_append,List.length_take,hdl,List.length_drop,Array.length_toList,hs];omega
 have hg1:W1.heap[g]?=some (.cells c1 24 (0,0)):=by rw [hW1];exact setRow_heap _ g cur c1 24 (0,0) hg
 obtain⟨z,hz⟩: ∃z:List Value,z= [.string ByteArray.empty,.int .i64 0,.int .i64 0]:=⟨_,rfl⟩
 have hzl:z.length=3:=by rw [hz];rfl
 obtain⟨c2,hc2⟩: ∃c2,c2=(c1.toList.take ((n-1)*3)++z++c1.toList.drop ((n-1)*3+z.length)).toArray:=⟨_,rfl⟩
 obtain⟨W2,hW2⟩: ∃W2,W2=W1.setRow g c2:=⟨_,rfl⟩
 have hclr: ∀cc,(Builtin.clear_ #[22] 0 #[.slice (some ⟨g,(n-1)*3,none⟩) 1 cc]).run Try.prog W1= .ok (.tuple #[]) W2:=fun cc=>by
  have h2:=run_storeCells_at Try.prog g ((n-1)*3) 24 z 0 c1 W1 hg1 (by rw [hzl,hs1];omega) (fun v hv=>by rw [hz] at hv;simp at hv;rcases hv with rfl|rfl|rfl<;>rfl);simp only [Nat.add_zero] at h2;rw [←hc2,←hW2] at h2;have hzc:(Builtin.zeroCells (Value.agg #[.string ByteArray.empty,.int .i64 0,.int .i64 0]).cells 1).toList=z:=by rw [hz];kernel_rfl
  have hzv:(zeroValue 24).run Try.prog W1= .ok (Value.agg #[.string ByteArray.empty,.int .i64 0,.int .i64 0]) W1:=by
   simp [zeroValue,typeInfo,hi0,hz0]
  simp [Builtin.clear_,run_underlying Try.underlying22,hzv,hzc,h2]
 have hl0:c=i+1→(loadCellsFrom ⟨g,0,none⟩ 0 ((n-(i+1))*3) #[]).run Try.prog w.drew= .ok D.toArray w.drew:=fun q=>by
  have e:n-(i+1)=0:=by omega
  have eD:D= []:=List.length_eq_zero_iff.1 (by rw [hDl,e]);rw [e,eD]
  rfl
 have A1:Aside (W1=w.drew.setRow g c1):=hW1;have A2:Aside (c1=(cur.toList.take (i*3)++xs.drop ((i+1)*3)++cur.toList.drop (i*3+(xs.drop ((i+1)*3)).length)).toArray):=hc1;have A3:Aside (D=xs.drop ((i+1)*3)):=hD;have A4:Aside (cur.toList.take (n*3)=xs):=hx;have A5:Aside (W2=W1.setRow g c2):=hW2;have A6:Aside (c2=(c1.toList.take ((n-1)*3)++z++c1.toList.drop ((n-1)*3+z.length)).toArray):=hc2;have mixed:Try.prog.follows .mixedOrders=true:=by kernel_rfl
 clear hW1 hc1 hD hx hcur hcx hdl hW2 hc2 hz;have fin:aCX base (n-1) (xs.take (i*3)++xs.drop ((i+1)*3)) g w (.returned (.slice (some ⟨g,0,none⟩) (n-1) c)) W2:=by
  refine⟨_,rfl,⟨by simp only [List.length_append,List.length_take,List.length_drop,hlx];omega,.inr ⟨g,c,c2,rfl,hbg,?_,hroom,hcm,?_,?_⟩⟩,?_,?_,?_,?_,fun k hk hne2=> ?_⟩
  ·rw [A5.out];exact setRow_heap _ g c1 c2 24 (0,0) hg1
  ·rw [A6.out];simp only [List.size_toArray,List.length_append,List.length_take,List.length_drop,Array.length_toList,hzl,hs1];omega
  ·rw [A6.out,A2.out,←A4.out];exact zY cur.toList z n c i (by rw [Array.length_toList,hs]) hi hnc hzl
  ·rw [A5.out,A1.out];rfl
  ·rw [A5.out,A1.out];rfl
  ·rw [A5.out,A1.out];rfl
  ·rw [A5.out,A1.out];simp only [size_setRow];exact Nat.le_refl _
  ·have hkg:k≠g:=fun h=>hne2 (by rw [h]);rw [A5.out,gJ _ g k c2 hkg,A1.out,gJ _ g k c1 hkg]
   rfl
 have A7:Aside (aCX base (n-1) (xs.take (i*3)++xs.drop ((i+1)*3)) g w (.returned (.slice (some ⟨g,0,none⟩) (n-1) c)) W2):=fin;clear fin;by_cases hcj:c=i+1
 ·have hld:=hl0 hcj;clear hl0
  gi_enter Try.func34,Try.ntmps34
  gi_wp2
  gi_region_with_o fail
  all_goals gi_wp2
  all_goals go_ret
  all_goals (subst hcj;exact A7.out)
 ·have hld:=hld hcj;clear hl0
  gi_enter Try.func34,Try.ntmps34
  gi_wp2
  gi_region_with_o fail
  all_goals gi_wp2
  all_goals go_ret
  all_goals exact A7.out
theorem aB6{base n i:Nat}{v:Value}{xs:List Value}{w:World}(hi:i<n)(hown:w.ownsRow base 24 3 v n xs)(h1c: ∀u∈xs,u.oneCell'=true):
  CallsIn (FV Try.prog) 0 Try.prog 34 #[v,.int .i64 i,.int .i64 (i+1)] w fun e w'=> ∃v',e= .returned v'∧w'.ownsRow base 24 3 v' (n-1) (xs.take (i*3)++xs.drop ((i+1)*3))∧w.grownBy w' v.ownBlock:=by
 rcases hown.2 with ⟨hv,h0⟩|⟨g,c,cur,rfl,hbg,hg,hnc,hcm,hs,hx⟩
 ·omega
 ·exact yZ hi hnc hcm hg hs hx h1c hbg
theorem count_set: ∀(l:List Bool)(i:Nat),l[i]?=some false→(l.set i true).countP (!·)+1=l.countP (!·)
 | [],_,h=>by simp at h
 |b::l,0,h=>by simp at h;subst h;simp
 |b::l,i+1,h=>by
  have:=count_set l i (by simpa using h);simp only [List.set_cons_succ,List.countP_cons];omega
theorem s6{F:Fence}{n:Nat}{P:Program}{ops:Array Oper}{Q:Exit→Act→World→Prop}(J:Array Bool→Act→World→Prop)
(hstep: ∀l a w,J l a w→ ∀i∈Region.ready .any ops l,wpOpIn F n P ops Q i (fun a w=>J (l.setIfInBounds i true) a w) a w)
(hend: ∀l a w,J l a w→Region.ready .any ops l= []→Q .normal a w):
  ∀(fuel:Nat)(l:Array Bool)(a:Act)(w:World),J l a w→l.toList.countP (!·)≤fuel→wpAnyIn F n P .any ops Q fuel l a w
 |0,l,a,w,h,hc=>by
  have he:Region.ready .any ops l= []:=by
   refine List.eq_nil_iff_forall_not_mem.2 fun i hi=> ?_;unfold Region.ready at hi;rw [List.mem_filter] at hi;obtain⟨_,h2⟩:=hi;simp only [Bool.and_eq_true,Bool.not_eq_true'] at h2;have hg:=h2.1;have:l.toList[i]?=some false:=by
    rw [Array.getD_eq_getD_getElem?] at hg;rw [Array.getElem?_toList];cases hq:l[i]? with
    |none=>rw [hq] at hg;simp at hg
    |some b=>rw [hq] at hg;simp at hg;rw [hg]
   have:=count_set _ _ this;omega
  exact⟨he,hend l a w h he⟩
 |fuel+1,l,a,w,h,hc=>by
  refine⟨hend l a w h,fun i hi=>wpOpIn_mono (fun a w h=>s6 J hstep hend fuel _ a w h ?_) (hstep l a w h i hi)⟩;unfold Region.ready at hi;rw [List.mem_filter] at hi;obtain⟨_,h2⟩:=hi;simp only [Bool.and_eq_true,Bool.not_eq_true'] at h2;have hg:=h2.1;have:l.toList[i]?=some false:=by
   rw [Array.getD_eq_getD_getElem?] at hg;rw [Array.getElem?_toList];cases hq:l[i]? with
   |none=>rw [hq] at hg;simp at hg
   |some b=>rw [hq] at hg;simp at hg;rw [hg]
  have:=count_set _ _ this;rw [Array.toList_setIfInBounds];omega
def drawn:Code→Array Oper
 | .region _ ops true=>ops
 | .seq a b=>match drawn a with|⟨[]⟩=>drawn b|x=>x
 |_=> #[]
noncomputable def uF:Array Oper:=(Try.f18.body.map drawn).getD #[]
theorem aCt: ∀l0 l1 l2 l3 l4 l5 l6 l7 l8:Bool,((Region.ready .any uF #[l0,l1,l2,l3,l4,l5,l6,l7,l8]).all fun i=>
  match i with
  |0=> !l0|1=> !l1&&l0|2=> !l2|3=> !l3|4=> !l4&&l1&&l2&&l3|5=> !l5|6=> !l6&&l5|7=> !l7&&l1&&l4&&l6|8=> !l8&&l0&&l1&&l2&&l3&&l4&&l5&&l6&&l7
  |_=>false)=true:=by decide+kernel
theorem aDk: ∀l0 l1 l2 l3 l4 l5 l6 l7 l8:Bool,(Region.ready .any uF #[l0,l1,l2,l3,l4,l5,l6,l7,l8]).isEmpty=true→l8=true:=by decide+kernel
section
variable (sv x0 x1 x2 : Value) (n i : Nat) (cells : List Value) (w : World)
def w8:List Value:=cells.take (i*3)++ [x0,x1,x2]++cells.drop (i*3)
structure aF3(l0 l1 l2 l3 l4 l5 l6 l7 l8:Bool)(t4 t5 t6 t7 t8 t9 t10 t11 t12:Value)(W:World):Prop where
 bel:Below w.heap.size w W
 box:W.heap[w.heap.size]?=some (.cells #[x0,x1,x2] 24 (0,0))
 c0:l0=true→t5=sv
 c1:l1=true→l7=false→W.ownsRow (w.heap.size+1) 24 3 t6 n cells
 c2:l2=true→t7=sv
 c3:l3=true→t8= .agg #[x0,x1,x2]
 c4:l4=true→t9= .int .i64 i
 c5:l5=true→t10= .agg #[x0,x1,x2]
 c6:l6=true→ ∃vb,t11= .slice (some ⟨vb,0,none⟩) 1 1∧w.heap.size<vb∧W.heap[vb]?=some (.cells #[x0,x1,x2] 24 (0,0))∧(l1=true→t6.ownBlock≠some vb)
 c7:l7=true→W.ownsRow (w.heap.size+1) 24 3 t12 (n+1) (w8 x0 x1 x2 i cells)
 c8:l8=true→l7=true∧t4=t12
 d7:l7=true→l6=true∧l1=true
def aFd(l:Array Bool)(a:Act)(W:World):Prop:=
 ∃l0 l1 l2 l3 l4 l5 l6 l7 l8 t4 t5 t6 t7 t8 t9 t10 t11 t12,l= #[l0,l1,l2,l3,l4,l5,l6,l7,l8]∧
  a={tmps:= #[sv,.agg #[x0,x1,x2],undef,.pointer (some ⟨w.heap.size,0,none⟩),t4,t5,t6,t7,t8,t9,t10,t11,t12],defers:= []}∧
  aF3 sv x0 x1 x2 n i cells w l0 l1 l2 l3 l4 l5 l6 l7 l8 t4 t5 t6 t7 t8 t9 t10 t11 t12 W
theorem dX{base n:Nat}{v:Value}{xs:List Value}{W W':World}(h:W.ownsRow base 24 3 v n xs)(hb:Below W.heap.size W W'):W'.ownsRow base 24 3 v n xs:=by
 refine⟨h.1,?_⟩;rcases h.2 with hv|⟨g,c,cur,h1,h2,h3,h4⟩
 ·exact .inl hv
 ·exact .inr ⟨g,c,cur,h1,h2,by rw [hb.block g (eI h3)];exact h3,h4⟩
theorem nJ{P:Program}{o:Oper}{a:Act}{w:World}(h: ∀c,o.op≠ .call c): ∀f,o.about P w a.eval=some f→ ∃fn,P.funcs[f]?=some fn:=mN h
theorem rK{x:Operand}{ρ:Operand→Value}{N:Nat}(hx:ρ x= .pointer (some ⟨N,0,none⟩)){W:World}{o:Oper}(ho:o.op= .load 24 x)(hg:W.heap[N]?=some (.cells #[x0,x1,x2] 24 (0,0))):
  (execOp ρ o).run Try.prog W= .ok (.value (.agg #[x0,x1,x2])) W:=by
 have h:=run_loadVar_row (P:=Try.prog) W N 24 24 #[x0,x1,x2] (0,0) _ hg Try.underlying24 (by kernel_rfl) nI;simp [execOp,ho,hx,Instr.loadAt,Instr.sureAddr,h]
theorem qK{P:Program}{ρ:Operand→Value}{o:Oper}{c:Call}{f:Nat}{fn:Func}{b:Code}{args:Array Value}{w:World}{R:Ending→World→Prop}(ho:o.op= .call c)(hc:c.callee= .value (.func f))(hv:ρ (.func f)= .func (.func f) #[] #[])(hargs:c.args.map ρ=args)
(hf:P.funcs[f]?=some fn)(hb:fn.body=some b)(hn:(fn.name== "runtime.NumGoroutine")=false)(h:CallsIn (FV P) 0 P f args w R):yL P (execOp ρ o) w R:=by
 refine⟨.enter f args,w,?_,h⟩;rw [kD ho hc hv w,hargs];have:=cG hf hb hn args w;simpa [invoke] using this
theorem aEn:Instr.fill (fun i=>some (i*3,3)) ((Array.range (1*3)).map ((Value.agg #[.string ByteArray.empty,.int .i64 0,.int .i64 0]).cells[· %(Value.agg #[.string ByteArray.empty,.int .i64 0,.int .i64 0]).cells.size]!)) #[(0,Value.agg #[x0,x1,x2])].toList=some #[x0,x1,x2]:=by
 kernel_rfl
theorem uV{x:Operand}{ρ:Operand→Value}(hx:ρ x= .agg #[x0,x1,x2]){W:World}{o:Oper}(ho:o.op= .buildSlice 22 1 #[(0,x)]):
  (execOp ρ o).run Try.prog W= .ok (.value (.slice (some ⟨W.heap.size,0,none⟩) 1 1)) (W.alloc (.cells #[x0,x1,x2] 24)):=by
 obtain⟨i0,hi0,hz0,hzs,hzb⟩:=info_parts pW;have hrun:(Instr.buildSlice 22 1 #[(0,.agg #[x0,x1,x2])]).run Try.prog W= .ok (.slice (some ⟨W.heap.size,0,none⟩) 1 1) (W.alloc (.cells #[x0,x1,x2] 24)):=
  run_buildSlice W 22 24 1 #[(0,.agg #[x0,x1,x2])] #[x0,x1,x2] i0 _ Try.underlying22 hi0 hz0 (by omega) (by omega) (by rw [hzs];exact aEn x0 x1 x2)
 simp [execOp,ho,hx,hrun]
set_option maxHeartbeats 4000000 in
theorem aDU (hsv:uH w sv n cells) (ho:x0.oneCell'=true∧x1.oneCell'=true∧x2.oneCell'=true) (hn:n≤1048576) (hi:i≤n)
  (hplace: ∀W,Below w.heap.size w W→CallsIn (FV Try.prog) 0 Try.prog 32 #[sv,.agg #[x0,x1,x2]] W (fun e W'=>e= .returned (.int .i64 i)∧Below W.heap.size W W')) {Q:Exit→Act→World→Prop}
  (l:Array Bool) (a:Act) (W:World) (hJ:aFd sv x0 x1 x2 n i cells w l a W): ∀k∈Region.ready .any uF l,wpOpIn (FV Try.prog) 0 Try.prog uF Q k (fun a W=>aFd sv x0 x1 x2 n i cells w (l.setIfInBounds k true) a W) a W:=by
 obtain⟨l0,l1,l2,l3,l4,l5,l6,l7,l8,t4,t5,t6,t7,t8,t9,t10,t11,t12,rfl,rfl,hj⟩:=hJ;intro k hk;have hr:=aCt l0 l1 l2 l3 l4 l5 l6 l7 l8;rw [List.all_eq_true] at hr;have hr:=hr k hk;clear hk
 match k,hr with
 |0,hr=>
  refine wpOpIn_step (o:=_) (by rfl) (fun K hK=> ?_);refine dI (rd:=none) (n:= .value sv) (x:=sv) (nJ (by intro c hc;cases hc)) rfl (by intro c hc;cases hc) (by rfl) (.inl rfl) (hK _ _ ?_);refine⟨true,l1,l2,l3,l4,l5,l6,l7,l8,t4,sv,t6,t7,t8,t9,t10,t11,t12,rfl,rfl,hj.bel,hj.box,fun _=>rfl,hj.c1,hj.c2,hj.c3,hj.c4,hj.c5,hj.c6,hj.c7,hj.c8,hj.d7⟩
 |2,hr=>
  refine wpOpIn_step (o:=_) (by rfl) (fun K hK=> ?_);refine dI (rd:=none) (n:= .value sv) (x:=sv) (nJ (by intro c hc;cases hc)) rfl (by intro c hc;cases hc) (by rfl) (.inl rfl) (hK _ _ ?_);refine⟨l0,l1,true,l3,l4,l5,l6,l7,l8,t4,t5,t6,sv,t8,t9,t10,t11,t12,rfl,rfl,hj.bel,hj.box,hj.c0,hj.c1,fun _=>rfl,hj.c3,hj.c4,hj.c5,hj.c6,hj.c7,hj.c8,hj.d7⟩
 |3,hr=>
  refine wpOpIn_step (o:=_) (by rfl) (fun K hK=> ?_);refine dI (rd:=none) (n:= .value (.agg #[x0,x1,x2])) (x:= .agg #[x0,x1,x2]) (nJ (by intro c hc;cases hc)) rfl (by intro c hc;cases hc) (rK x0 x1 x2 (x:= .tmp 3) rfl rfl hj.box) (.inl rfl) (hK _ _ ?_);refine⟨l0,l1,l2,true,l4,l5,l6,l7,l8,t4,t5,t6,t7,.agg #[x0,x1,x2],t9,t10,t11,t12,rfl,rfl,hj.bel,hj.box,hj.c0,hj.c1,hj.c2,fun _=>rfl,hj.c4,hj.c5,hj.c6,hj.c7,hj.c8,hj.d7⟩
 |5,hr=>
  refine wpOpIn_step (o:=_) (by rfl) (fun K hK=> ?_);refine dI (rd:=none) (n:= .value (.agg #[x0,x1,x2])) (x:= .agg #[x0,x1,x2]) (nJ (by intro c hc;cases hc)) rfl (by intro c hc;cases hc) (rK x0 x1 x2 (x:= .tmp 3) rfl rfl hj.box) (.inl rfl) (hK _ _ ?_);refine⟨l0,l1,l2,l3,l4,true,l6,l7,l8,t4,t5,t6,t7,t8,t9,.agg #[x0,x1,x2],t11,t12,rfl,rfl,hj.bel,hj.box,hj.c0,hj.c1,hj.c2,hj.c3,hj.c4,fun _=>rfl,hj.c6,hj.c7,hj.c8,hj.d7⟩
 |8,hr=>
  simp only [Bool.and_eq_true,Bool.not_eq_true'] at hr;obtain⟨⟨⟨⟨⟨⟨⟨⟨e8,e0⟩,e1⟩,e2⟩,e3⟩,e4⟩,e5⟩,e6⟩,e7⟩:=hr;refine wpOpIn_step (o:=_) (by rfl) (fun K hK=> ?_);refine dI (rd:=none) (n:= .value t12) (x:=t12) (nJ (by intro c hc;cases hc)) rfl (by intro c hc;cases hc) (by rfl) (.inl rfl) (hK _ _ ?_);refine⟨l0,l1,l2,l3,l4,l5,l6,l7,true,t12,t5,t6,t7,t8,t9,t10,t11,t12,rfl,rfl,hj.bel,hj.box,hj.c0,hj.c1,hj.c2,hj.c3,hj.c4,hj.c5,hj.c6,hj.c7,fun _=>⟨e7,rfl⟩,hj.d7⟩
 |6,hr=>
  simp only [Bool.and_eq_true,Bool.not_eq_true'] at hr;obtain⟨e6,e5⟩:=hr;have e7:l7=false:=by
   cases q:l7 with
   |false=>rfl
   |true=>have:=(hj.d7 q).1;rw [e6] at this;cases this
  have h10:=hj.c5 e5;subst h10;refine wpOpIn_step (o:=_) (by rfl) (fun K hK=> ?_);refine dI (rd:=none) (n:= .value (.slice (some ⟨W.heap.size,0,none⟩) 1 1)) (x:= .slice (some ⟨W.heap.size,0,none⟩) 1 1) (w':=W.alloc (.cells #[x0,x1,x2] 24)) (nJ (by intro c hc;cases hc)) rfl (by intro c hc;cases hc) (uV x0 x1 x2 (x:= .tmp 10) rfl rfl) (.inl rfl) (hK _ _ ?_)
  ·have hbw:Below W.heap.size W (W.alloc (.cells #[x0,x1,x2] 24)):=(Below.refl _ W).alloc (Nat.le_refl _) _;have hlt:=hj.bel.size;have hbx:=eI hj.box;refine⟨l0,l1,l2,l3,l4,l5,true,l7,l8,t4,t5,t6,t7,t8,t9,.agg #[x0,x1,x2],.slice (some ⟨W.heap.size,0,none⟩) 1 1,t12,rfl,rfl,hj.bel.trans (hbw.mono hlt),?_,hj.c0,fun q1 q2=>dX (hj.c1 q1 q2) hbw,hj.c2,hj.c3,hj.c4,fun _=>rfl,fun _=>⟨W.heap.size,rfl,hbx,?_,fun q1 hq=> ?_⟩,fun q=> ?_,hj.c8,fun q=>⟨rfl,(hj.d7 q).2⟩⟩
   ·rw [hbw.block _ hbx];exact hj.box
   ·exact fD
   ·rcases(hj.c1 q1 e7).2 with ⟨hv,_⟩|⟨g,c,cur,hv,_,hg,_⟩
    ·rw [hv] at hq;cases hq
    ·rw [hv] at hq;have hgl:=eI hg;have:g=W.heap.size:=Option.some.inj hq;omega
   ·rw [e7] at q;cases q
 |1,hr=>
  simp only [Bool.and_eq_true,Bool.not_eq_true'] at hr;obtain⟨e1,e0⟩:=hr;have h5:=hj.c0 e0;subst h5;have e7:l7=false:=by
   cases q:l7 with
   |false=>rfl
   |true=>have:=(hj.d7 q).2;rw [e1] at this;cases this
  have hsrc:uH W t5 n cells:=by
   obtain⟨s1,s2,s3⟩:=hsv;refine⟨s1,s2,?_⟩;rcases s3 with s3|⟨ad,c,q1,q2⟩
   ·exact .inl s3
   ·refine .inr ⟨ad,c,q1,fun j u hu=> ?_⟩;have:=q2 j u hu;exact(hj.bel.cell (xO this)).trans this
  have hcall:=tY hsrc hn (base:=w.heap.size+1) (eI hj.box);refine wpOpIn_step (o:=_) (by rfl) (fun K hK=> ?_);refine k8 (rd:=none) (R:=_) (iG (by rfl) rfl (fa:= #[]) (fb:= #[]) rfl ⟨_,Try.func31⟩) rfl (by intro c hc;cases hc) (qK (by rfl) rfl rfl (by simp [Act.eval]) Try.func31 rfl (by kernel_rfl) (hcall)) ?_ ?_ ?_
  ·rintro x W' ⟨v',hv,hown,hbw,hge⟩
   cases hv;refine hK _ _ ⟨l0,true,l2,l3,l4,l5,l6,l7,l8,t4,t5,x,t7,t8,t9,t10,t11,t12,rfl,rfl,hj.bel.trans (hbw.mono hj.bel.size),?_,fun _=>rfl,fun _ _=>hown,hj.c2,hj.c3,hj.c4,hj.c5,fun q6=> ?_,fun q=> ?_,hj.c8,fun q=>⟨(hj.d7 q).1,rfl⟩⟩
   ·rw [hbw.block _ (eI hj.box)];exact hj.box
   ·obtain⟨vb,k1,k2,k3,_⟩:=hj.c6 q6;refine⟨vb,k1,k2,by rw [hbw.block _ (eI k3)];exact k3,fun _ hq=> ?_⟩;have:=hge _ hq;have:=eI k3;omega
   ·rw [e7] at q;cases q
  ·rintro c W' ⟨v',hv,_⟩;cases hv
  ·rintro W' ⟨v',hv,_⟩;cases hv
 |4,hr=>
  simp only [Bool.and_eq_true,Bool.not_eq_true'] at hr;obtain⟨⟨⟨e4,e1⟩,e2⟩,e3⟩:=hr;have h7:=hj.c2 e2;subst h7;have h8:=hj.c3 e3;subst h8;refine wpOpIn_step (o:=_) (by rfl) (fun K hK=> ?_);refine k8 (rd:=none) (R:=_) (iG (by rfl) rfl (fa:= #[]) (fb:= #[]) rfl ⟨_,Try.func32⟩) rfl (by intro c hc;cases hc) (qK (by rfl) rfl rfl (by simp [Act.eval]) Try.func32 rfl (by kernel_rfl) (hplace W hj.bel)) ?_ ?_ ?_
  ·rintro x W' ⟨hv,hbw⟩
   cases hv;refine hK _ _ ⟨l0,l1,l2,l3,true,l5,l6,l7,l8,t4,t5,t6,t7,.agg #[x0,x1,x2],.int .i64 i,t10,t11,t12,rfl,rfl,hj.bel.trans (hbw.mono hj.bel.size),?_,hj.c0,fun q1 q2=>dX (hj.c1 q1 q2) hbw,hj.c2,hj.c3,fun _=>rfl,hj.c5,fun q6=> ?_,fun q=>dX (hj.c7 q) hbw,hj.c8,hj.d7⟩
   ·rw [hbw.block _ (eI hj.box)];exact hj.box
   ·obtain⟨vb,k1,k2,k3,k4⟩:=hj.c6 q6;exact⟨vb,k1,k2,by rw [hbw.block _ (eI k3)];exact k3,k4⟩
  ·rintro c W' ⟨hv,_⟩;cases hv
  ·rintro W' ⟨hv,_⟩;cases hv
 |7,hr=>
  simp only [Bool.and_eq_true,Bool.not_eq_true'] at hr;obtain⟨⟨⟨e7,e1⟩,e4⟩,e6⟩:=hr;have h9:=hj.c4 e4;subst h9;obtain⟨vb,h11,k2,k3,k4⟩:=hj.c6 e6;subst h11;have hown:=hj.c1 e1 e7;have hcall:=aBP (news:= [x0,x1,x2]) (vb:=vb) hi hown rfl (fun j u hu=>by simpa [World.cell?,k3] using hu) (by intro u hu;simp at hu;rcases hu with rfl|rfl|rfl<;>simp [ho]) hsv.2.1 (eI hj.box) hn (k4 e1) ⟨_,k3⟩;refine wpOpIn_step (o:=_) (by rfl) (fun K hK=> ?_);refine k8 (rd:=none) (R:=_) (iG (by rfl) rfl (fa:= #[]) (fb:= #[]) rfl ⟨_,Try.func30⟩) rfl (by intro c hc;cases hc) (qK (by rfl) rfl rfl (by simp [Act.eval]) Try.func30 rfl (by kernel_rfl) (hcall)) ?_ ?_ ?_
  ·rintro x W' ⟨v',hv,hown',hgr⟩
   cases hv;have hge: ∀k,t6.ownBlock=some k→w.heap.size+1≤k:=by
    intro k hk;rcases hown.2 with ⟨hv,_⟩|⟨g,c,cur,hv,hb,_⟩
    ·rw [hv] at hk;cases hk
    ·rw [hv] at hk;cases hk;exact hb
   refine hK _ _ ⟨l0,l1,l2,l3,l4,l5,l6,true,l8,t4,t5,t6,t7,t8,.int .i64 i,t10,.slice (some ⟨vb,0,none⟩) 1 1,x,rfl,rfl,hj.bel.grown hgr hj.bel.size (fun k hk=>by have:=hge k hk;omega),?_,hj.c0,fun _ q=>(by cases q),hj.c2,hj.c3,hj.c4,hj.c5,fun _=>⟨vb,rfl,k2,?_,k4⟩,fun _=>hown',fun q=> ?_,fun _=>⟨e6,e1⟩⟩
   ·rw [hgr.block _ (eI hj.box) (fun q=>by have:=hge _ q.symm;omega)];exact hj.box
   ·rw [hgr.block _ (eI k3) (fun q=>k4 e1 q.symm)];exact k3
   ·have:=(hj.c8 q).1;rw [e7] at this;cases this
  ·rintro c W' ⟨v',hv,_⟩;cases hv
  ·rintro W' ⟨v',hv,_⟩;cases hv
 |k+9,hr=>cases hr
set_option maxHeartbeats 4000000 in
set_option maxRecDepth 100000 in
theorem uX (hsv:uH w sv n cells) (ho:x0.oneCell'=true∧x1.oneCell'=true∧x2.oneCell'=true) (hn:n≤1048576) (hi:i≤n)
  (hplace: ∀W,Below w.heap.size w W→CallsIn (FV Try.prog) 0 Try.prog 32 #[sv,.agg #[x0,x1,x2]] W (fun e W'=>e= .returned (.int .i64 i)∧Below W.heap.size W W')):
  CallsIn (FV Try.prog) 0 Try.prog 18 #[sv,.agg #[x0,x1,x2]] w fun e w'=> ∃v',e= .returned v'∧w'.ownsRow w.heap.size 24 3 v' (n+1) (w8 x0 x1 x2 i cells)∧Below w.heap.size w w':=by
 gi_enter Try.func18,Try.ntmps18
 gi_wp2
 rename_i Q' K hK;refine wpIn_region_any (by kernel_rfl) ?_;refine s6 (aFd sv x0 x1 x2 n i cells w) (fun l a W hJ=>aDU sv x0 x1 x2 n i cells w hsv ho hn hi hplace l a W hJ) ?_ _ _ _ _ ?_ (by decide)
 ·rintro l a W ⟨l0,l1,l2,l3,l4,l5,l6,l7,l8,t4,t5,t6,t7,t8,t9,t10,t11,t12,rfl,rfl,hj⟩ he
  have e8:=aDk l0 l1 l2 l3 l4 l5 l6 l7 l8 (by rw [show Region.ready .any uF #[l0,l1,l2,l3,l4,l5,l6,l7,l8]= [] from he];rfl);obtain⟨e7,rfl⟩:=hj.c8 e8;have h7:=hj.c7 e7;simp only [Exit.then];refine hK _ _ ?_
  gi_wp2
  go_ret
  refine⟨_,rfl,⟨h7.1,?_⟩,hj.bel⟩;rcases h7.2 with hv|⟨g,c,cur,h1,h2,h3⟩
  ·exact .inl hv
  ·exact .inr ⟨g,c,cur,h1,by omega,h3⟩
 ·refine⟨false,false,false,false,false,false,false,false,false,.slice none 0 0,undef,undef,undef,undef,undef,undef,undef,undef,rfl,rfl,?_,?_,?_,?_,?_,?_,?_,?_,?_,?_,?_,?_⟩
  ·exact((Below.refl w.heap.size w).alloc (Nat.le_refl _) (.cells #[x0,x1,x2] 24)).drew
  ·exact fD
  all_goals (intro q;cases q)
end
theorem kR(W:World)(o:Obj):Below W.heap.size W (W.alloc o):=(Below.refl _ W).alloc (Nat.le_refl _) o
set_option maxHeartbeats 4000000 in
set_option maxRecDepth 100000 in
theorem aAX {sv ev:Value} {n:Nat} {cells:List Value} {w:World} (hsv:uH w sv n cells) (hn:n≤1048576)
  (hfound: ∀W,Below w.heap.size w W→CallsIn (FV Try.prog) 0 Try.prog 23 #[sv,ev,.int .i64 0] W (fun e W'=>(∃a b c,e= .returned (.tuple #[.agg #[.string a,.int .i64 b,.int .i64 c],.bool false]))∧Below W.heap.size W W')):
  CallsIn (FV Try.prog) 0 Try.prog 21 #[sv,ev] w fun e w'=> ∃v',e= .returned v'∧w'.ownsRow w.heap.size 24 3 v' n cells∧Below w.heap.size w w':=by
 gi_enter Try.func21,Try.ntmps21
 gi_wp2_with (first
  |(gi_at_call 31;refine(tY hsv hn (base:=w.heap.size) (Nat.le_refl _)).mono ?_;rintro e w1 ⟨v',rfl,hown1,hb1,hge1⟩)
  |(gi_at_call 23;refine(hfound w1 hb1).mono ?_;rintro e w2 ⟨⟨a,b,c,rfl⟩,hb2⟩))
 go_ret
 refine⟨v',rfl,dX (dX hown1 hb2) (kR _ _),?_⟩;exact(hb1.trans (hb2.mono hb1.size)).trans ((kR _ _).mono (Nat.le_trans hb1.size hb2.size))
set_option maxHeartbeats 4000000 in
set_option maxRecDepth 100000 in
theorem aAj {sv ev:Value} {n i:Nat} {cells:List Value} {w:World} (hsv:uH w sv n cells) (hn:n≤1048576) (hi:i<n)
  (hfound: ∀W,Below w.heap.size w W→CallsIn (FV Try.prog) 0 Try.prog 23 #[sv,ev,.int .i64 0] W (fun e W'=>(∃a b c,e= .returned (.tuple #[.agg #[.string a,.int .i64 b,.int .i64 c],.bool true]))∧Below W.heap.size W W'))
  (hplace: ∀W,Below w.heap.size w W→CallsIn (FV Try.prog) 0 Try.prog 32 #[sv,.agg #[ev,.int .i64 0,.int .i64 0]] W (fun e W'=>e= .returned (.int .i64 i)∧Below W.heap.size W W')) (hev: ∃s,ev= .string s):
  CallsIn (FV Try.prog) 0 Try.prog 21 #[sv,ev] w fun e w'=> ∃v',e= .returned v'∧w'.ownsRow w.heap.size 24 3 v' (n-1) (cells.take (i*3)++cells.drop ((i+1)*3))∧Below w.heap.size w w':=by
 obtain⟨s,rfl⟩:=hev;have hw1:IntKind.i64.wrap ((i:Int)+1)=(i:Int)+1:=by rw [IntKind.wrap_i64];omega
 gi_enter Try.func21,Try.ntmps21
 gi_wp2_with (first
  |(gi_at_call 31;refine(tY hsv hn (base:=w.heap.size) (Nat.le_refl _)).mono ?_;rintro e w1 ⟨v',rfl,hown1,hb1,hge1⟩)
  |(gi_at_call 23;refine(hfound w1 hb1).mono ?_;rintro e w2 ⟨⟨a,b,c,rfl⟩,hb2⟩)
  |(gi_at_call 32;refine(hplace _ ((hb1.trans (hb2.mono hb1.size)).trans ((kR _ _).mono (Nat.le_trans hb1.size hb2.size)))).mono ?_;rintro e w3 ⟨rfl,hb3⟩)
  |(gi_at_call 34;refine(aB6 hi (dX (dX (dX hown1 hb2) (kR _ _)) hb3) hsv.2.1).mono ?_;rintro e w4 ⟨v4,rfl,hown4,hg4⟩))
 go_ret
 refine⟨v4,rfl,hown4,?_⟩;have hb5:=((hb1.trans (hb2.mono hb1.size)).trans ((kR w2 (.cells #[.string a,.int .i64 b,.int .i64 c] 24)).mono (Nat.le_trans hb1.size hb2.size)))
 refine(hb5.trans (hb3.mono hb5.size)).grown hg4 (Nat.le_trans hb5.size hb3.size) (fun k hk=> ?_);have:=hge1 k hk;exact this
theorem Css.drop{G:Gh}{sz:Nat}: ∀(n:Nat){xs:List AV}{css:List (List Value)},Css G sz xs css→Css G sz (xs.drop n) (css.drop n)
 |0,xs,css,h=>by simpa using h
 |n+1,[],css,h=>by have:=h.len;simp at this;subst this;exact .nil
 |n+1,x::xs,[],h=>by have:=h.len;simp at this
 |n+1,x::xs,vs::css,h=>by obtain⟨h1,h2,h3⟩:=h.tail;simpa using Css.drop n h3
theorem mZ{sz:Nat}: ∀(n:Nat)(css:List (List Value)),(∀c∈css,c.length=sz)→css.flatten.take (n*sz)=(css.take n).flatten∧css.flatten.drop (n*sz)=(css.drop n).flatten
 |0,css,_=>by simp
 |n+1,[],_=>by simp
 |n+1,c::css,h=>by
  have hc:c.length=sz:=h c (by simp);obtain⟨h1,h2⟩:=mZ n css (fun x hx=>h x (by simp [hx]));have e:(n+1)*sz=c.length+n*sz:=by rw [Nat.add_mul,hc];omega
  simp only [List.flatten_cons,List.take_succ_cons,List.drop_succ_cons,e];rw [List.take_length_add_append,List.drop_length_add_append,h1,h2];exact⟨rfl,rfl⟩
section
variable {P : Program} {B : Bs} {P' : aL} {s s2 : ASt} {w : World} {G : Gh} {H : Handler}
theorem aC5(hH:HOk P P' H)(hp: ∀g,bE (P'.gl g)=true){f:Nat}{fn:Func}{b:Code}(hf:P.funcs[f]?=some fn)(hb:fn.body=some b)(hn:(fn.name== "runtime.NumGoroutine")=false){args:List AV}{v0 v:AV}{xs:List Value}
(hpl:dS args=true)(hc:H.call (.func f) args dF=some (.ret v0,s2))(hfx:gZ v0=some v)(hI:Inv P B G s w)(hG:cN P' G)(hr:R G (.l args xs)){W:World}(hW:Below w.heap.size w W):
  CallsIn (FV P) 0 P f xs.toArray W (fun e W'=>(∃x G',e= .returned x∧R G' (.v v x))∧Below W.heap.size W W'):=by
 have hI':Inv P B G s W:=hI.grow hW.os hW.tape hW.output hW.size hW.block;obtain⟨n,w1,h1,h2⟩:=hH.func f args _ _ _ hc (yV W G) (tE G) W xs hI'.bare (hG.bare hp) (hr.swap (.inl (by exact hpl)));rw [cG hf hb hn] at h1;cases h1;refine CallsIn.mono h2 ?_
 rintro e W' ⟨G',hle,hI2,hres⟩
 cases e with
 |returned x=>exact⟨⟨x,G',rfl,aBz hfx hres⟩,hI2.os,hI2.tape,hI2.output,hI2.size,fun k hk=>hI2.pr k hk⟩
 |panicked c=>exact hres.elim
 |outgrown=>exact hres.elim
theorem aC4(hI:Inv P B G s w){w':World}{v':Value}{n':Nat}{ys:List AV}{css:List (List Value)}(hcss:Css G 3 ys css)(hn':ys.length=n')(hown:w'.ownsRow w.heap.size 24 3 v' n' css.flatten)(hb:Below w.heap.size w w'):
  ∃G',G.le G'∧Inv P B G' s w'∧R G' (.v (slA 3 ys) v'):=by
 subst hn';have hI':Inv P B G s w':=hI.grow hb.os hb.tape hb.output hb.size hb.block;have nilC: ∀A c,c≤maxLen→ys= []→R G (.v (slA 3 ys) (.slice A 0 c)):=by
  rintro A c hc rfl
  exact .aY hc trivial
 rcases hown.2 with ⟨rfl,h0⟩|⟨g,c,cur,rfl,hg,hh,hnc,hcm,hcs,htk⟩
 ·exact⟨G,.refl _,hI',nilC _ _ (Nat.zero_le _) (List.length_eq_zero_iff.1 h0)⟩
 ·cases ys with
  |nil=>exact⟨G,.refl _,hI',nilC _ _ hcm rfl⟩
  |cons y ys=>
   have hMg: ∀o,G.M g o=none:=fun o=>by
    cases hx:G.M g o with
    |none=>rfl
    |some x=>have:=hI.Mlt hx;omega
   have hle:G.le (G.eN g 0 ((y::ys).length*3) css.flatten):=Gh.nN fun o _ _ x hx=>by rw [hMg o] at hx;cases hx
   refine⟨_,hle,Quiet.inv (G:=G) (w:=w) ⟨hle,fun _=>rfl,fun _ _=>rfl,hb.os,hb.tape,hb.output,hb.size,hb.block,fun b hb' o=>mB (by omega),fun b o x hb' hx=> ?_⟩ hI,?_⟩
   ·by_cases hc:b=g∧0≤o∧o<(y::ys).length*3
    ·obtain⟨rfl,h1,h2⟩:=hc;rw [fV h1 h2,←htk,List.getElem?_take,if_pos h2] at hx;simp only [World.cell?,hh];simpa using hx
    ·have hx':G.M b o=some x:=by
      have:(G.eN g 0 ((y::ys).length*3) css.flatten).M b o=G.M b o:=by
       simp only [Gh.eN];rw [if_neg hc]
      rw [this] at hx;exact hx
     have:=hI.Mlt hx';omega
   ·refine .bA hnc hcm (Css.row (hcss.mono hle) fun j x hj=> ?_) trivial;rw [Nat.zero_add,fV (Nat.zero_le _)]
    ·exact hj
    ·have:=(List.getElem?_eq_some_iff.1 hj).1;rw [hcss.flat.2] at this;exact this
theorem aC6(hI:Inv P B G s w){sz:Nat}{xs:List AV}{o:Fw.Own}{sv:Value}(hz:sz=3∨xs= [])(hr:R G (.v (.slice sz xs o) sv)): ∃css,Css G 3 xs css∧uH w sv xs.length css.flatten:=by
 cases hr with
 | @aY _ _ A c hm ho=>
  refine⟨[],.nil,rfl,by simp,?_⟩;cases A with
  |none=>exact .inl ⟨c,rfl,rfl⟩
  |some a=>exact .inr ⟨a,c,rfl,by simp⟩
 | @bA _ _ _ b off c hc hm hr ho=>
  cases xs with
  |nil=>
   refine⟨[],.nil,rfl,by simp,.inr ⟨⟨b,off,none⟩,c,rfl,by simp⟩⟩
  |cons x xs=>
   have hz:sz=3:=hz.resolve_right (by simp);subst hz;obtain⟨css,h1,h2⟩:=xJ hr;refine⟨css,h1,h1.flat.2,fun u hu=>h1.flat.1.aBl u hu,.inr ⟨⟨b,off,none⟩,c,rfl,fun j u hu=> ?_⟩⟩;rw [Addr.add_lit];exact hI.m _ _ _ (h2 j u hu)
end
def yN:Prim where
 calls:=fun args=>match args with
  | [.slice sz xs o,.agg [a,b,c]]=>some [(32,[.slice sz xs o,.agg [a,b,c]])]
  |_=>none
 fin:=fun args rs=>match args,rs with
  | [.slice sz xs _,.agg [a,b,c]],[.int .i64 i]=>match(Nat.beq sz 3||xs.isEmpty)&&decide (0≤i)&&Nat.ble i.toNat xs.length&&Nat.ble xs.length 1048576 with
   |true=>some (slA 3 (xs.take i.toNat++ .agg [a,b,c]::xs.drop i.toNat))
   |false=>none
  |_,_=>none
def xH:Prim where
 calls:=fun args=>match args with
  | [.slice sz xs o,.str e]=>some [(23,[.slice sz xs o,.str e,.int .i64 0]),(32,[.slice sz xs o,.agg [.str e,.int .i64 0,.int .i64 0]])]
  |_=>none
 fin:=fun args rs=>match args,rs with
  | [.slice sz xs _,.str _],[.tuple [.agg [.str _,.int .i64 _,.int .i64 _],.bool is],.int .i64 i]=>
   match(Nat.beq sz 3||xs.isEmpty)&&Nat.ble xs.length 1048576 with
   |true=>match is with
    |false=>some (slA 3 xs)
    |true=>match decide (0≤i)&&Nat.blt i.toNat xs.length with
     |true=>some (slA 3 (xs.take i.toNat++xs.drop (i.toNat+1)))
     |false=>none
   |false=>none
  |_,_=>none
theorem rD{H:Handler}{p:Prim}{args:List AV}{s s':ASt}{r:jY}(h:eW H p args s=some (r,s')):
  s'=s∧dS args=true∧ ∃cs vs v,p.calls args=some cs∧cA H cs=some vs∧p.fin args vs=some v∧bE v=true∧r= .ret v:=by
 refine⟨tZ h,?_⟩;simp only [eW] at h;split at h
 ·rename_i hp;split at h
  ·rename_i cs hcs;split at h
   ·rename_i vs hvs;split at h
    ·rename_i v hv;split at h
     ·rename_i hpv;cases h;exact⟨hp,cs,vs,v,hcs,hvs,hv,hpv,rfl⟩
     ·cases h
    ·cases h
   ·cases h
  ·cases h
 ·cases h
theorem kG{H:Handler}{f:Nat}{a:List AV}{l:List (Nat×List AV)}{vs:List AV}(h:cA H ((f,a)::l)=some vs):
  dS a=true∧ ∃v0 s2 v ws,H.call (.func f) a dF=some (.ret v0,s2)∧gZ v0=some v∧bE v=true∧cA H l=some ws∧vs=v::ws:=by
 simp only [cA] at h;split at h
 ·rename_i hp;split at h
  ·rename_i v0 s2 hc;split at h
   ·rename_i v hv;split at h
    ·rename_i hpv;split at h
     ·rename_i ws hws;cases h;exact⟨hp,v0,s2,v,ws,hc,hv,hpv,hws,rfl⟩
     ·cases h
    ·cases h
   ·cases h
  ·cases h
 ·cases h
theorem aEj(x0 x1 x2:Value)(i:Nat)(css:List (List Value))(h: ∀c∈css,c.length=3):w8 x0 x1 x2 i css.flatten=(css.take i++ [x0,x1,x2]::css.drop i).flatten:=by
 unfold w8;rw [(mZ i css h).1,(mZ i css h).2];simp only [List.flatten_append,List.flatten_cons,List.append_assoc]
theorem aFk{P':aL}(hp: ∀g,bE (P'.gl g)=true)(H:Handler)(hH:HOk Try.prog P' H)(args:List AV)(s:ASt)(r:jY)(s':ASt)(h:eW H yN args s=some (r,s'))(B:Bs)(G:Gh)(w:World)(xs:List Value)(hI:Inv Try.prog B G s w)(hG:cN P' G)
(hr:R G (.l args xs)):yL Try.prog (callFunc 18 xs.toArray) w (kA Try.prog B G s' r):=by
 obtain⟨rfl,hpl,cs,vs,v,h1,h2,h3,h4,rfl⟩:=rD h;clear h;simp only [yN] at h1;split at h1
 ·rename_i sz ys o a b c;cases h1;obtain⟨hpl2,v0,s2,v1,ws,hc,hfx,hpv,hws,rfl⟩:=kG h2;simp only [cA,Option.some.injEq] at hws;subst hws;simp only [yN] at h3;split at h3
  ·rename_i sz' ys' o' a' b' c' i heq1 heq2;cases heq1;cases heq2;split at h3
   ·rename_i hcond;cases h3;simp only [Bool.and_eq_true,Bool.or_eq_true,decide_eq_true_eq] at hcond;obtain⟨⟨⟨hz,hi0⟩,hil⟩,hbig⟩:=hcond;have hil:=Nat.le_of_ble_eq_true hil;have hbig:=Nat.le_of_ble_eq_true hbig;have hz:sz=3∨ys= []:=hz.imp Nat.eq_of_beq_eq_true (by simp);have hr0:=hr;cases hr with
    |bM hr1 hr=>
    cases hr with
    |bM hr2 hr=>
    cases hr;cases hr2 with
    | @agg _ us hk=>
    cases hk with
    |aW ra oa hk=>
    cases hk with
    |aW rb ob hk=>
    cases hk with
    |aW rc oc hk=>
    cases hk;obtain⟨css,hcss,hsrc⟩:=aC6 hI hz hr1;refine⟨.enter 18 _,w,cG Try.func18 rfl (by kernel_rfl) _ _,?_⟩;have hiN:(i.toNat:Int)=i:=Int.toNat_of_nonneg hi0;refine(uX _ _ _ _ ys.length i.toNat css.flatten w hsrc ⟨oa,ob,oc⟩ hbig hil (fun W hW=> ?_)).mono ?_
    ·refine(aC5 hH hp Try.func32 rfl (by kernel_rfl) hpl2 hc hfx hI hG hr0 hW).mono ?_
     rintro e W' ⟨⟨x,G',rfl,hx⟩,hb⟩
     cases hx;exact⟨by rw [hiN],hb⟩
    ·rintro e w' ⟨v',rfl,hown,hb⟩
     have hall: ∀c∈css,c.length=3:=hcss.all;have hcss2:Css G 3 (ys.take i.toNat++ .agg [a,b,c]::ys.drop i.toNat) (css.take i.toNat++ [_,_,_]::css.drop i.toNat):=
      (hcss.take i.toNat).append (.cons (R.kW (.aW ra oa (.aW rb ob (.aW rc oc .cT)))) rfl (Css.drop i.toNat hcss))
     obtain⟨G',g1,g2,g3⟩:=aC4 (n':=ys.length+1) hI hcss2 (by simp only [List.length_append,List.length_take,List.length_cons,List.length_drop];omega) (by
      rw [aEj _ _ _ _ _ hall] at hown;exact hown) hb
     exact⟨G',g1,g2,g3⟩
   ·cases h3
  ·cases h3
 ·cases h1
theorem aE1{P':aL}(hp: ∀g,bE (P'.gl g)=true)(H:Handler)(hH:HOk Try.prog P' H)(args:List AV)(s:ASt)(r:jY)(s':ASt)(h:eW H xH args s=some (r,s'))(B:Bs)(G:Gh)(w:World)(xs:List Value)(hI:Inv Try.prog B G s w)(hG:cN P' G)
(hr:R G (.l args xs)):yL Try.prog (callFunc 21 xs.toArray) w (kA Try.prog B G s' r):=by
 obtain⟨rfl,hpl,cs,vs,v,h1,h2,h3,h4,rfl⟩:=rD h;clear h;simp only [xH] at h1;split at h1
 ·rename_i sz ys o e;cases h1;obtain⟨hpl2,v0,s2,v1,ws,hc,hfx,hpv,hws,rfl⟩:=kG h2;obtain⟨hpl3,v02,s22,v12,ws2,hc2,hfx2,hpv2,hws2,rfl⟩:=kG hws;simp only [cA,Option.some.injEq] at hws2;subst hws2;simp only [xH] at h3;split at h3
  ·rename_i sz' ys' o' e' p1 p2 p3 is i heq1 heq2;cases heq1;cases heq2;split at h3
   ·rename_i hcond;simp only [Bool.and_eq_true,Bool.or_eq_true] at hcond;obtain⟨hz,hbig⟩:=hcond;have hbig:=Nat.le_of_ble_eq_true hbig;have hz:sz=3∨ys= []:=hz.imp Nat.eq_of_beq_eq_true (by simp);cases hr with
    |bM hr1 hr=>
    cases hr with
    |bM hr2 hr=>
    cases hr;have hr2':=hr2;cases hr2 with
    | @str se hse=>
    obtain⟨css,hcss,hsrc⟩:=aC6 hI hz hr1;refine⟨.enter 21 _,w,cG Try.func21 rfl (by kernel_rfl) _ _,?_⟩;have z0:R G (.v (.int .i64 0) (.int .i64 0)):= .int (by decide);have hfound: ∀W,Below w.heap.size w W→CallsIn (FV Try.prog) 0 Try.prog 23 #[_,.string se,.int .i64 0] W (fun e W'=>(∃a b c,e= .returned (.tuple #[.agg #[.string a,.int .i64 b,.int .i64 c],.bool is]))∧Below W.heap.size W W'):=fun W hW=>by
     refine(aC5 hH hp Try.func23 rfl (by kernel_rfl) hpl2 hc hfx hI hG (.bM hr1 (.bM hr2' (.bM z0 .iX))) hW).mono ?_
     rintro e W' ⟨⟨x,G',rfl,hx⟩,hb⟩
     refine⟨?_,hb⟩;cases hx with
     |tuple ht=>
     cases ht with
     |bM ha ht=>
     cases ht with
     |bM hb ht=>
     cases ht;cases hb;cases ha with
     |agg hk=>
     cases hk with
     |aW r1 _ hk=>
     cases hk with
     |aW r2 _ hk=>
     cases hk with
     |aW r3 _ hk=>
     cases hk;cases r1;cases r2;cases r3;exact⟨_,_,_,rfl⟩
    cases is with
    |false=>
     cases h3;refine(aAX hsrc hbig hfound).mono ?_
     rintro e w' ⟨v',rfl,hown,hb⟩
     obtain⟨G',g1,g2,g3⟩:=aC4 hI hcss rfl hown hb;exact⟨G',g1,g2,g3⟩
    |true=>
     simp only at h3;split at h3
     ·rename_i hcond2;cases h3;simp only [Bool.and_eq_true,decide_eq_true_eq] at hcond2;obtain⟨hi0,hil⟩:=hcond2;have hil:i.toNat<ys.length:=Nat.le_of_ble_eq_true hil;have hiN:(i.toNat:Int)=i:=Int.toNat_of_nonneg hi0;refine(aAj hsrc hbig hil hfound (fun W hW=> ?_) ⟨se,rfl⟩).mono ?_
      ·refine(aC5 hH hp Try.func32 rfl (by kernel_rfl) hpl3 hc2 hfx2 hI hG (xs:= [_,.agg #[.string se,.int .i64 0,.int .i64 0]]) (.bM hr1 (.bM (.agg (vs:= [.string se,.int .i64 0,.int .i64 0]) (.aW hr2' rfl (.aW z0 rfl (.aW z0 rfl .cT)))) .iX)) hW).mono ?_
       rintro e W' ⟨⟨x,G',rfl,hx⟩,hb⟩
       cases hx;exact⟨by rw [hiN],hb⟩
      ·rintro e w' ⟨v',rfl,hown,hb⟩
       have hall: ∀c∈css,c.length=3:=hcss.all;have hcss2:Css G 3 (ys.take i.toNat++ys.drop (i.toNat+1)) (css.take i.toNat++css.drop (i.toNat+1)):=(hcss.take i.toNat).append (Css.drop (i.toNat+1) hcss);obtain⟨G',g1,g2,g3⟩:=aC4 (n':=ys.length-1) hI hcss2 (by simp only [List.length_append,List.length_take,List.length_drop];omega) (by
        rw [(mZ i.toNat css hall).1,(mZ (i.toNat+1) css hall).2,←List.flatten_append] at hown;exact hown) hb
       exact⟨G',g1,g2,g3⟩
     ·cases h3
   ·cases h3
  ·cases h3
 ·cases h1
def aC0:Nat→Option Prim
 |18=>some yN
 |21=>some xH
 |_=>none
theorem aCR{P':aL}(hp: ∀g,bE (P'.gl g)=true)(h:P'.prim=aC0):tO Try.prog P':=by
 refine⟨fun f p hf H hH args s r s' hr B G w xs hI hG hR=> ?_⟩;rw [h] at hf;unfold aC0 at hf;split at hf
 ·cases hf;exact aFk hp H hH args s r s' hr B G w xs hI hG hR
 ·cases hf;exact aE1 hp H hH args s r s' hr B G w xs hI hG hR
 ·cases hf
end Go.Proofs.Ytfcfnkffgiklpaa
namespace Go.Proofs.Ytfcfnkffgiklpaa
open Go Go.Fw
noncomputable abbrev PP:aL:={aCG Code.tab gl0 with prim:=aC0}
end Go.Proofs.Ytfcfnkffgiklpaa
set_option maxRecDepth 100000
set_option maxHeartbeats 4000000
set_option synthInstance.maxSize 10000
namespace Go.Proofs.Ytfcfnkffgiklpaa
open Go Go.Fw
noncomputable def iD(x1:Int):Option Bool:=
 some (x1 !=x1)
theorem wO: ∀(x1:Int)(r:Bool),iD x1=some r→ ∀s:ASt,Fc PP (.func 36) [(.int .i64 x1)] s (cO s<|.bool r):=by
 intro x1 r u;unfold iD at u;intro s;refine bF rfl rfl rfl ?_;have J:=St.clean s;generalize aT s=σ1 at J⊢;refine aD<|aE<|wu rfl<|aC<|aD<|aE<|wu rfl<|wu rfl<|wu rfl<|wu rfl<|aC<|aK ?_;cases u;exact⟨rfl,_,fun _=>rfl,bD rfl rfl rfl rfl J.ext⟩
theorem oZ{x1:Int}{r:Bool}(h:iD x1=some r):Pf PP 36 [(.int .i64 x1)] (.bool r):=Pf.dB (wO x1 r h _) rfl (.cons ⟨rfl,rfl⟩ .nil)
noncomputable def fL(x1:Int)(y2:Int):Option Int:=
 ((iD x1)>>=fun r3=>
 ((iD y2)>>=fun r4=>
 (if r3=true then(if r4=true then some (0)
 else some (-1))
 else(if r4=true then some (1)
 else(if(decide (x1<y2))=true then some (-1)
 else(if(decide (x1>y2))=true then some (1)
 else some (0)))))))
theorem uC: ∀(x1:Int)(y2:Int)(r:Int),fL x1 y2=some r→ ∀s:ASt,Fc PP (.func 27) [(.int .i64 x1),(.int .i64 y2)] s (cO s<|.int .i64 r):=by
 intro x1 y2 r u;unfold fL at u;intro s;refine bF rfl rfl rfl ?_;have J:=St.clean s;generalize aT s=σ1 at J⊢;refine aD<|aE<|wu rfl<|aC<|aD<|aE<|wu rfl ?_;obtain⟨r3,hr3,u⟩:=bs u;refine wcD (oZ hr3) rfl rfl (.cons rfl .nil)<|wu rfl<|aC<|aD<|aE<|wu rfl ?_;obtain⟨r4,hr4,u⟩:=bs u;refine wcD (oZ hr4) rfl rfl (.cons rfl .nil)<|wu rfl<|aC<|aD<|aD<|aE<|wu rfl<|aC ?_;refine aI u rfl (fun hc u=> ?_)<|fun hc u=> ?_
 ·refine aD<|aD<|aE<|wu rfl<|aC ?_;refine aI u rfl (fun hc u=> ?_)<|fun hc u=> ?_
  ·refine aD<|aE<|wu rfl<|aC<|aK ?_;cases u;exact⟨rfl,_,fun _=>rfl,bD rfl rfl rfl rfl J.ext⟩
  ·refine aO<|aD<|aE<|wu rfl<|aC<|aK ?_;cases u;exact⟨rfl,_,fun _=>rfl,bD rfl rfl rfl rfl J.ext⟩
 ·refine aO<|aD<|aD<|aE<|wu rfl<|aC ?_;refine aI u rfl (fun hc u=> ?_)<|fun hc u=> ?_
  ·refine aD<|aE<|wu rfl<|aC<|aK ?_;cases u;exact⟨rfl,_,fun _=>rfl,bD rfl rfl rfl rfl J.ext⟩
  ·refine aO<|aD<|aD<|aE<|wu rfl<|wu rfl<|wu rfl<|aC ?_;refine aI u rfl (fun hc u=> ?_)<|fun hc u=> ?_
   ·refine aD<|aE<|wu rfl<|aC<|aK ?_;cases u;exact⟨rfl,_,fun _=>rfl,bD rfl rfl rfl rfl J.ext⟩
   ·refine aO<|aD<|aD<|aE<|wu rfl<|wu rfl<|wu rfl<|aC ?_;refine aI u rfl (fun hc u=> ?_)<|fun hc u=> ?_
    ·refine aD<|aE<|wu rfl<|aC<|aK ?_;cases u;exact⟨rfl,_,fun _=>rfl,bD rfl rfl rfl rfl J.ext⟩
    ·refine aO<|aD<|aE<|wu rfl<|aC<|aK ?_;cases u;exact⟨rfl,_,fun _=>rfl,bD rfl rfl rfl rfl J.ext⟩
theorem nH{x1:Int}{y2:Int}{r:Int}(h:fL x1 y2=some r):Pf PP 27 [(.int .i64 x1),(.int .i64 y2)] (.int .i64 r):=Pf.dB (uC x1 y2 r h _) rfl (.cons ⟨rfl,rfl⟩<|.cons ⟨rfl,rfl⟩ .nil)
noncomputable def dY(x1:Str):Option Bool:=
 some (!(x1==x1))
theorem qS: ∀(x1:Str)(r:Bool),dY x1=some r→ ∀s:ASt,Fc PP (.func 43) [(.str x1)] s (cO s<|.bool r):=by
 intro x1 r u;unfold dY at u;intro s;refine bF rfl rfl rfl ?_;have J:=St.clean s;generalize aT s=σ1 at J⊢;refine aD<|aE<|wu rfl<|aC<|aD<|aE<|wu rfl<|wu rfl<|wu rfl<|wu rfl<|aC<|aK ?_;cases u;exact⟨rfl,_,fun _=>rfl,bD rfl rfl rfl rfl J.ext⟩
theorem lB{x1:Str}{r:Bool}(h:dY x1=some r):Pf PP 43 [(.str x1)] (.bool r):=Pf.dB (qS x1 r h _) rfl (.cons ⟨rfl,rfl⟩ .nil)
noncomputable def dO(x1:Str)(y2:Str):Option Int:=
 ((dY x1)>>=fun r3=>
 ((dY y2)>>=fun r4=>
 (if r3=true then(if r4=true then some (0)
 else some (-1))
 else(if r4=true then some (1)
 else(if(Op.bytesLess x1 y2)=true then some (-1)
 else(if(!(Op.bytesLess x1 y2||x1==y2))=true then some (1)
 else some (0)))))))
theorem oS: ∀(x1:Str)(y2:Str)(r:Int),dO x1 y2=some r→ ∀s:ASt,Fc PP (.func 35) [(.str x1),(.str y2)] s (cO s<|.int .i64 r):=by
 intro x1 y2 r u;unfold dO at u;intro s;refine bF rfl rfl rfl ?_;have J:=St.clean s;generalize aT s=σ1 at J⊢;refine aD<|aE<|wu rfl<|aC<|aD<|aE<|wu rfl ?_;obtain⟨r3,hr3,u⟩:=bs u;refine wcD (lB hr3) rfl rfl (.cons rfl .nil)<|wu rfl<|aC<|aD<|aE<|wu rfl ?_;obtain⟨r4,hr4,u⟩:=bs u;refine wcD (lB hr4) rfl rfl (.cons rfl .nil)<|wu rfl<|aC<|aD<|aD<|aE<|wu rfl<|aC ?_;refine aI u rfl (fun hc u=> ?_)<|fun hc u=> ?_
 ·refine aD<|aD<|aE<|wu rfl<|aC ?_;refine aI u rfl (fun hc u=> ?_)<|fun hc u=> ?_
  ·refine aD<|aE<|wu rfl<|aC<|aK ?_;cases u;exact⟨rfl,_,fun _=>rfl,bD rfl rfl rfl rfl J.ext⟩
  ·refine aO<|aD<|aE<|wu rfl<|aC<|aK ?_;cases u;exact⟨rfl,_,fun _=>rfl,bD rfl rfl rfl rfl J.ext⟩
 ·refine aO<|aD<|aD<|aE<|wu rfl<|aC ?_;refine aI u rfl (fun hc u=> ?_)<|fun hc u=> ?_
  ·refine aD<|aE<|wu rfl<|aC<|aK ?_;cases u;exact⟨rfl,_,fun _=>rfl,bD rfl rfl rfl rfl J.ext⟩
  ·refine aO<|aD<|aD<|aE<|wu rfl<|wu rfl<|wu rfl<|aC ?_;refine aI u rfl (fun hc u=> ?_)<|fun hc u=> ?_
   ·refine aD<|aE<|wu rfl<|aC<|aK ?_;cases u;exact⟨rfl,_,fun _=>rfl,bD rfl rfl rfl rfl J.ext⟩
   ·refine aO<|aD<|aD<|aE<|wu rfl<|wu rfl<|wu rfl<|aC ?_;refine aI u rfl (fun hc u=> ?_)<|fun hc u=> ?_
    ·refine aD<|aE<|wu rfl<|aC<|aK ?_;cases u;exact⟨rfl,_,fun _=>rfl,bD rfl rfl rfl rfl J.ext⟩
    ·refine aO<|aD<|aE<|wu rfl<|aC<|aK ?_;cases u;exact⟨rfl,_,fun _=>rfl,bD rfl rfl rfl rfl J.ext⟩
theorem oO{x1:Str}{y2:Str}{r:Int}(h:dO x1 y2=some r):Pf PP 35 [(.str x1),(.str y2)] (.int .i64 r):=Pf.dB (oS x1 y2 r h _) rfl (.cons ⟨rfl,rfl⟩<|.cons ⟨rfl,rfl⟩ .nil)
noncomputable def hY(vals1:(List Int))(x2:Int):Option (Ctl Int Unit):=
 (if(decide (x2<(vals1.length:Int)))=true then((idx vals1 x2)>>=fun y3=>
 (if(y3 !=(0))=true then some (.ret y3)
 else hY (nf vals1) (IntKind.wrap .i64 (x2+(1)))))
 else some (.nx ()))
 partial_fixpoint
abbrev rG(vals1:(List Int))(x2:Int)(o:(Ctl Int Unit)):Prop:= ∀(e:Env)(s sv:ASt),St [] [] s sv [] []→Wk PP none Code.aEM ⟨gI e [(3,(.int .i64<|0)),(6,(slA 1<|vals1.map<|AV.int .i64)),(7,(.int .i64 (vals1.length:Int))),(8,(.int .i64 x2))],[]⟩ sv (fun ex fr s'=>(match o with| .ret oq0=>ex= .ret∧u0 PP Code.c25 (VQ (.int .i64 oq0)<|Ext [] [] s) ex fr s'| .nx oq1=>ex= .exit 0∧ ∃(e:Env),fr=⟨gI e [(3,(.int .i64<|0))],[]⟩∧sv=s'))
theorem xX: ∀(vals1:(List Int))(x2:Int)(o:(Ctl Int Unit)),hY vals1 x2=some o→rG vals1 x2 o:=by
 refine hY.partial_correctness (rG) ?_;intro _f ih_cmp_Or_l0 vals1 x2 o u;intro e s sv J;refine fC<|aD<|aE<|wu rfl<|aC<|aD ?_;refine aI u rfl (fun hc u=> ?_)<|fun hc u=> ?_
 ·refine aO<|aD<|bR<|aD<|aE ?_;obtain⟨y3,hy3,u⟩:=bs u;refine fM (f:=(AV.int .i64)) rfl (.no _) rfl hy3 rfl<|wu rfl<|wu rfl<|aC<|aD<|aE<|wu rfl<|wu rfl<|wu rfl<|aC ?_;refine aI u rfl (fun hc u=> ?_)<|fun hc u=> ?_
  ·refine aD<|aE<|wu rfl<|wu rfl<|aC<|aK ?_;cases u;exact⟨rfl,⟨rfl,_,fun _=>rfl,bD rfl rfl rfl rfl J.ext⟩⟩
  ·refine aO<|aE<|wu rfl<|wu rfl<|aC ?_;exact gC (fun e=>ih_cmp_Or_l0 _ _ _ u e s _ J) (.cons rfl<|.cons rfl<|.cons rfl<|.cons rfl .nil)<|fun _ _ _ h=>h
 ·refine iK ?_;cases u;exact⟨rfl,_,frE<|.cons rfl .nil,rfl⟩
noncomputable def oI(vals1:(List Int)):Option Int:=
 ((hY vals1 (0))>>=fun o4=>
 (match o4 with
 | .ret q5=>some q5
 | .nx q6=>some (0)))
theorem aCu: ∀(vals1:(List Int))(r:Int),oI vals1=some r→ ∀s:ASt,Fc PP (.func 25) [(slA 1<|vals1.map<|AV.int .i64)] s (cO s<|.int .i64 r):=by
 intro vals1 r u;unfold oI at u;intro s;refine bF rfl rfl rfl ?_;have J:=St.clean s;generalize aT s=σ1 at J⊢;refine aD<|aE<|wu rfl<|aC<|aD<|aE<|wu rfl<|aC<|aD<|aD<|aE<|wu rfl<|gP (f:=(AV.int .i64)) (l:=vals1) rfl (.no _)<|wu rfl ?_;refine aC<|bR ?_;obtain⟨o4,ho4,u⟩:=bs u;refine gC (fun e=>xX _ _ _ ho4 e s _ J) (.cons rfl<|.cons rfl<|.cons rfl<|.cons rfl .nil) ?_
 rintro _ _ _ hq
 rcases o4 with q5|q6
 ·obtain⟨rfl,hq⟩:=hq;cases u;exact hq
 ·obtain⟨rfl,e8,rfl,rfl⟩:=hq;refine aD<|aE<|wu rfl<|wu rfl<|aC<|aK ?_;cases u;exact⟨rfl,_,fun _=>rfl,bD rfl rfl rfl rfl J.ext⟩
theorem wI{vals1:(List Int)}{r:Int}(h:oI vals1=some r):Pf PP 25 [(slA 1<|vals1.map<|AV.int .i64)] (.int .i64 r):=Pf.dB (aCu vals1 r h _) rfl (.cons (dZ<|bG (fun _=>rfl) _) .nil)
noncomputable def cP(a1:aA)(b2:aA):Option Int:=
 ((dO a1.effect b2.effect)>>=fun r3=>
 ((fL a1.instance_ b2.instance_)>>=fun r4=>
 ((oI [r3,r4])>>=fun r5=>
 some r5)))
theorem pT: ∀(a1:aA)(b2:aA)(r:Int),cP a1 b2=some r→ ∀s:ASt,Fc PP (.func 26) [(aF a1),(aF b2)] s (cO s<|.int .i64 r):=by
 intro a1 b2 r u;unfold cP at u;intro s;refine bF rfl rfl rfl ?_;have J:=St.clean s;generalize aT s=σ1 at J⊢;refine aD<|aE<|wu rfl<|wu rfl<|wu rfl<|aC<|aD<|aE<|wu rfl<|wu rfl<|wu rfl<|wu rfl ?_;obtain⟨r3,hr3,u⟩:=bs u;refine wcD (oO hr3) rfl rfl (.cons rfl<|.cons rfl .nil)<|wu rfl<|wu rfl<|wu rfl<|wu rfl ?_;obtain⟨r4,hr4,u⟩:=bs u;refine wcD (nH hr4) rfl rfl (.cons rfl<|.cons rfl .nil) ?_;refine pL (f:=(AV.int .i64)) (l:= [r3,r4]) rfl (.cons rfl<|.cons rfl .nil) rfl (fun _=>rfl) rfl rfl (by decide) ?_;obtain⟨r5,hr5,u⟩:=bs u;refine wcD (wI hr5) rfl rfl (.cons rfl .nil)<|wu rfl<|aC<|aK ?_;cases u;exact⟨rfl,_,fun _=>rfl,bD rfl rfl rfl rfl J.ext⟩
theorem gR{a1:aA}{b2:aA}{r:Int}(h:cP a1 b2=some r):Pf PP 26 [(aF a1),(aF b2)] (.int .i64 r):=Pf.dB (pT a1 b2 r h _) rfl (.cons (bH _)<|.cons (bH _) .nil)
noncomputable def gG(c1:Int):Option Int:=
 ((if(c1==(32))=true then some true
 else some (c1==(9)):Option Bool)>>=fun c2=>
 ((if c2=true then some true
 else some (c1==(10)):Option Bool)>>=fun c3=>
 (if c3=true then some (1)
 else((if(c1==(95))=true then some true
 else((if(decide ((97)≤c1))=true then some (decide (c1≤(122)))
 else some false:Option Bool)>>=fun c5=>
 some c5):Option Bool)>>=fun c4=>
 (if c4=true then some (2)
 else((if(decide ((65)≤c1))=true then some (decide (c1≤(90)))
 else some false:Option Bool)>>=fun c6=>
 (if c6=true then some (3)
 else((if(decide ((48)≤c1))=true then some (decide (c1≤(57)))
 else some false:Option Bool)>>=fun c7=>
 (if c7=true then some (4)
 else some (0))))))))))
theorem u5: ∀(c1:Int)(r:Int),gG c1=some r→ ∀s:ASt,Fc PP (.func 42) [(.int .u8 c1)] s (cO s<|.int .i64 r):=by
 intro c1 r u;unfold gG at u;intro s;refine bF rfl rfl rfl ?_;have J:=St.clean s;generalize aT s=σ1 at J⊢;refine aD<|aE<|wu rfl<|aC<|aD<|bR<|aD<|aE<|wu rfl<|wu rfl<|wu rfl ?_;obtain⟨c2,hc2,u⟩:=bs u;refine aS 3 [(0,(.int .u8 c1)),(9,(.bool c2))] σ1 ?_<|fun e=> ?_
 ·refine aQ (t:=6) rfl (fun hc=> ?_)<|fun hc=> ?_
  ·replace hc2:=bQ hc hc2;refine wu rfl<|wu rfl<|wu rfl<|aC ?_;cases hc2;exact Kept.mk rfl<|.cons rfl<|.cons rfl .nil
  ·replace hc2:=bO hc hc2;refine wu rfl<|wu rfl<|wu rfl<|aC ?_;cases hc2;exact Kept.mk rfl<|.cons rfl<|.cons rfl .nil
 ·refine wu rfl ?_;obtain⟨c3,hc3,u⟩:=bs u;refine aS 3 [(0,(.int .u8 c1)),(13,(.bool c3))] σ1 ?_<|fun e=> ?_
  ·refine aQ (t:=10) rfl (fun hc=> ?_)<|fun hc=> ?_
   ·replace hc3:=bQ hc hc3;refine wu rfl<|wu rfl<|wu rfl<|aC ?_;cases hc3;exact Kept.mk rfl<|.cons rfl<|.cons rfl .nil
   ·replace hc3:=bO hc hc3;refine wu rfl<|wu rfl<|wu rfl<|aC ?_;cases hc3;exact Kept.mk rfl<|.cons rfl<|.cons rfl .nil
  ·refine wu rfl<|aC ?_;refine aI u rfl (fun hc u=> ?_)<|fun hc u=> ?_
   ·refine aD<|aE<|wu rfl<|aC<|aK ?_;cases u;exact⟨rfl,_,fun _=>rfl,bD rfl rfl rfl rfl J.ext⟩
   ·refine aD<|aE<|wu rfl<|wu rfl<|wu rfl ?_;obtain⟨c4,hc4,u⟩:=bs u;refine aS 7 [(0,(.int .u8 c1)),(24,(.bool c4))] σ1 ?_<|fun e=> ?_
    ·refine aQ (t:=17) rfl (fun hc=> ?_)<|fun hc=> ?_
     ·replace hc4:=bQ hc hc4;refine wu rfl<|wu rfl<|wu rfl<|wu rfl<|wu rfl<|wu rfl<|wu rfl<|aC ?_;cases hc4;exact Kept.mk rfl<|.cons rfl<|.cons rfl .nil
     ·replace hc4:=bO hc hc4
      iterate 3 refine wu rfl ?_
      obtain⟨c5,hc5,hc4⟩:=bs hc4;refine aS 3 [(0,(.int .u8 c1)),(17,(.bool false)),(23,(.bool c5))] σ1 ?_<|fun e=> ?_
      ·refine aQ (t:=20) rfl (fun hc=> ?_)<|fun hc=> ?_
       ·replace hc5:=bQ hc hc5;refine wu rfl<|wu rfl<|wu rfl<|aC ?_;cases hc5;exact Kept.mk rfl<|.cons rfl<|.cons rfl<|.cons rfl .nil
       ·replace hc5:=bO hc hc5;refine wu rfl<|wu rfl<|wu rfl<|aC ?_;cases hc5;exact Kept.mk rfl<|.cons rfl<|.cons rfl<|.cons rfl .nil
      ·refine wu rfl<|aC ?_;cases hc4;exact Kept.mk rfl<|.cons rfl<|.cons rfl .nil
    ·refine wu rfl<|aC ?_;refine aI u rfl (fun hc u=> ?_)<|fun hc u=> ?_
     ·refine aD<|aE<|wu rfl<|aC<|aK ?_;cases u;exact⟨rfl,_,fun _=>rfl,bD rfl rfl rfl rfl J.ext⟩
     ·refine aD<|aE<|wu rfl<|wu rfl<|wu rfl ?_;obtain⟨c6,hc6,u⟩:=bs u;refine aS 3 [(0,(.int .u8 c1)),(31,(.bool c6))] σ1 ?_<|fun e=> ?_
      ·refine aQ (t:=28) rfl (fun hc=> ?_)<|fun hc=> ?_
       ·replace hc6:=bQ hc hc6;refine wu rfl<|wu rfl<|wu rfl<|aC ?_;cases hc6;exact Kept.mk rfl<|.cons rfl<|.cons rfl .nil
       ·replace hc6:=bO hc hc6;refine wu rfl<|wu rfl<|wu rfl<|aC ?_;cases hc6;exact Kept.mk rfl<|.cons rfl<|.cons rfl .nil
      ·refine wu rfl<|aC ?_;refine aI u rfl (fun hc u=> ?_)<|fun hc u=> ?_
       ·refine aD<|aE<|wu rfl<|aC<|aK ?_;cases u;exact⟨rfl,_,fun _=>rfl,bD rfl rfl rfl rfl J.ext⟩
       ·refine aD<|aE<|wu rfl<|wu rfl<|wu rfl ?_;obtain⟨c7,hc7,u⟩:=bs u;refine aS 3 [(38,(.bool c7))] σ1 ?_<|fun e=> ?_
        ·refine aQ (t:=35) rfl (fun hc=> ?_)<|fun hc=> ?_
         ·replace hc7:=bQ hc hc7;refine wu rfl<|wu rfl<|wu rfl<|aC ?_;cases hc7;exact Kept.mk rfl<|.cons rfl .nil
         ·replace hc7:=bO hc hc7;refine wu rfl<|wu rfl<|wu rfl<|aC ?_;cases hc7;exact Kept.mk rfl<|.cons rfl .nil
        ·refine wu rfl<|aC ?_;refine aI u rfl (fun hc u=> ?_)<|fun hc u=> ?_
         ·refine aD<|aE<|wu rfl<|aC<|aK ?_;cases u;exact⟨rfl,_,fun _=>rfl,bD rfl rfl rfl rfl J.ext⟩
         ·refine aO<|aD<|aE<|wu rfl<|aC<|aK ?_;cases u;exact⟨rfl,_,fun _=>rfl,bD rfl rfl rfl rfl J.ext⟩
theorem oF{c1:Int}{r:Int}(h:gG c1=some r):Pf PP 42 [(.int .u8 c1)] (.int .i64 r):=Pf.dB (u5 c1 r h _) rfl (.cons ⟨rfl,rfl⟩ .nil)
noncomputable def eA(s1:Str)(x9:Nat):Option (Ctl Bool Unit):=
 (if decide (x9<s1.length)=true then((if(decide (((rune s1 x9).1:Int)>(127)))=true then some true
 else((gG (IntKind.wrap .u8 ((rune s1 x9).1:Int)))>>=fun r12=>
 some (decide (r12<(2)))):Option Bool)>>=fun c11=>
 (if c11=true then some (.ret false)
 else eA (nf s1) (x9+(rune s1 x9).2)))
 else some (.nx ()))
 partial_fixpoint
abbrev mE(s1:Str)(x9:Nat)(o:(Ctl Bool Unit)):Prop:= ∀(e:Env)(s sv:ASt)(β7:Nat),St [] [] s sv [(β7,.iter s1 x9)] []→Wk PP none Code.aEH ⟨gI e [(22,(.iter β7))],[]⟩ sv (fun ex fr s'=>(match o with| .ret oq0=>ex= .ret∧u0 PP Code.c33 (VQ (.bool oq0)<|Ext [] [] s) ex fr s'| .nx oq1=>ex= .exit 0∧ ∃(e:Env),fr=⟨gI e [],[]⟩∧St [] [] s s' [] []))
theorem qH: ∀(s1:Str)(x9:Nat)(o:(Ctl Bool Unit)),eA s1 x9=some o→mE s1 x9 o:=by
 refine eA.partial_correctness (mE) ?_;intro _f ih_lexer_word_l0 s1 x9 o u;intro e s sv β7 J;refine fC<|aD<|aE ?_;refine aDA 0 rfl J rfl rfl (fun hc σ10 J=> ?_)<|fun hc=> ?_
 ·replace u:=bQ hc u;refine wu rfl<|aC<|aD<|aF4 rfl<|aO<|bR<|aD<|aE<|wu rfl<|wu rfl<|aC<|aD<|aE<|wu rfl<|wu rfl<|wu rfl ?_;obtain⟨c11,h11,u⟩:=bs u;refine aS 5 [(22,(.iter β7)),(33,(.bool c11))] σ10 ?_<|fun e=> ?_
  ·refine aQ (t:=28) rfl (fun hc=> ?_)<|fun hc=> ?_
   ·replace h11:=bQ hc h11;refine wu rfl<|wu rfl<|wu rfl<|wu rfl<|wu rfl<|aC ?_;cases h11;exact Kept.mk rfl<|.cons rfl<|.cons rfl .nil
   ·replace h11:=bO hc h11;refine wu rfl<|wu rfl ?_;obtain⟨r12,h12,h11⟩:=bs h11;refine wcD (oF h12) rfl rfl (.cons rfl .nil)<|wu rfl<|wu rfl<|aC ?_;cases h11;exact Kept.mk rfl<|.cons rfl<|.cons rfl .nil
  ·refine aC ?_;refine aI u rfl (fun hc u=> ?_)<|fun hc u=> ?_
   ·refine aD<|aE<|wu rfl<|aC<|aK ?_;cases u;exact⟨rfl,⟨rfl,_,fun _=>rfl,bD rfl rfl rfl rfl J.ext⟩⟩
   ·refine aO ?_;exact gC (fun e=>ih_lexer_word_l0 _ _ _ u e s _ β7 J) (.cons rfl .nil)<|fun _ _ _ h=>h
 ·replace u:=bO hc u;refine wu rfl<|aC<|aD<|aF5 rfl<|iK ?_;cases u;exact⟨rfl,_,frE .nil,(J.aFQ 0)⟩
noncomputable def iH(s1:Str)(first2:Int):Option Bool:=
 ((if(s1==([]:Str))=true then some true
 else some (decide ((s1.length:Int)>(12))):Option Bool)>>=fun c3=>
 ((if c3=true then some true
 else((idx s1 (0))>>=fun b5=>
 ((gG (b5.toNat:Int))>>=fun r6=>
 some (r6 !=first2))):Option Bool)>>=fun c4=>
 (if c4=true then some false
 else((eA s1 0)>>=fun o13=>
 (match o13 with
 | .ret q14=>some q14
 | .nx q15=>some true)))))
theorem uW: ∀(s1:Str)(first2:Int)(r:Bool),iH s1 first2=some r→ ∀s:ASt,Fc PP (.func 33) [(.str s1),(.int .i64 first2)] s (cO s<|.bool r):=by
 intro s1 first2 r u;unfold iH at u;intro s;refine bF rfl rfl rfl ?_;have J:=St.clean s;generalize aT s=σ1 at J⊢;refine aD<|aE<|wu rfl<|aC<|aD<|aD<|aE<|wu rfl<|wu rfl<|wu rfl ?_;obtain⟨c3,hc3,u⟩:=bs u;refine aS 4 [(0,(.str s1)),(1,(.int .i64 first2)),(13,(.bool c3))] σ1 ?_<|fun e=> ?_
 ·refine aQ (t:=9) rfl (fun hc=> ?_)<|fun hc=> ?_
  ·replace hc3:=bQ hc hc3;refine wu rfl<|wu rfl<|wu rfl<|wu rfl<|aC ?_;cases hc3;exact Kept.mk rfl<|.cons rfl<|.cons rfl<|.cons rfl .nil
  ·replace hc3:=bO hc hc3;refine wu rfl<|wu rfl<|wu rfl<|wu rfl<|aC ?_;cases hc3;exact Kept.mk rfl<|.cons rfl<|.cons rfl<|.cons rfl .nil
 ·refine wu rfl ?_;obtain⟨c4,hc4,u⟩:=bs u;refine aS 6 [(0,(.str s1)),(20,(.bool c4))] σ1 ?_<|fun e=> ?_
  ·refine aQ (t:=14) rfl (fun hc=> ?_)<|fun hc=> ?_
   ·replace hc4:=bQ hc hc4;refine wu rfl<|wu rfl<|wu rfl<|wu rfl<|wu rfl<|wu rfl<|aC ?_;cases hc4;exact Kept.mk rfl<|.cons rfl<|.cons rfl .nil
   ·replace hc4:=bO hc hc4;refine wu rfl ?_;obtain⟨b5,hb5,hc4⟩:=bs hc4;refine aAp rfl rfl rfl hb5 ?_;obtain⟨r6,hr6,hc4⟩:=bs hc4;refine wcD (oF hr6) rfl rfl (.cons rfl .nil)<|wu rfl<|wu rfl<|wu rfl<|aC ?_;cases hc4;exact Kept.mk rfl<|.cons rfl<|.cons rfl .nil
  ·refine aC ?_;refine aI u rfl (fun hc u=> ?_)<|fun hc u=> ?_
   ·refine aD<|aE<|wu rfl<|aC<|aK ?_;cases u;exact⟨rfl,_,fun _=>rfl,bD rfl rfl rfl rfl J.ext⟩
   ·refine aO<|aD<|aD<|aE<|wu rfl ?_;refine aCi rfl J rfl<|fun β7 σ8 J=> ?_;refine aC<|bR ?_;obtain⟨o13,h13,u⟩:=bs u;refine gC (fun e=>qH _ _ _ h13 e s _ β7 J) (.cons rfl .nil) ?_
    rintro _ _ _ hq
    rcases o13 with q14|q15
    ·obtain⟨rfl,hq⟩:=hq;cases u;exact hq
    ·obtain⟨rfl,e17,rfl,J⟩:=hq;refine aD<|aE<|wu rfl<|aC<|aK ?_;cases u;exact⟨rfl,_,fun _=>rfl,bD rfl rfl rfl rfl J.ext⟩
theorem uT{s1:Str}{first2:Int}{r:Bool}(h:iH s1 first2=some r):Pf PP 33 [(.str s1),(.int .i64 first2)] (.bool r):=Pf.dB (uW s1 first2 r h _) rfl (.cons ⟨rfl,rfl⟩<|.cons ⟨rfl,rfl⟩ .nil)
noncomputable def eC(s1:Str):Option Bool:=
 ((iH s1 (3))>>=fun r2=>
 some r2)
theorem qI: ∀(s1:Str)(r:Bool),eC s1=some r→ ∀s:ASt,Fc PP (.func 20) [(.str s1)] s (cO s<|.bool r):=by
 intro s1 r u;unfold eC at u;intro s;refine bF rfl rfl rfl ?_;have J:=St.clean s;generalize aT s=σ1 at J⊢;refine aD<|aE<|wu rfl<|aC<|aD<|aE<|wu rfl ?_;obtain⟨r2,hr2,u⟩:=bs u;refine wcD (uT hr2) rfl rfl (.cons rfl<|.cons rfl .nil)<|wu rfl<|aC<|aK ?_;cases u;exact⟨rfl,_,fun _=>rfl,bD rfl rfl rfl rfl J.ext⟩
theorem k7{s1:Str}{r:Bool}(h:eC s1=some r):Pf PP 20 [(.str s1)] (.bool r):=Pf.dB (qI s1 r h _) rfl (.cons ⟨rfl,rfl⟩ .nil)
noncomputable def bU(v1:(List aA))(x2:Int):Option (Ctl Int Unit):=
 (if(decide (x2<(v1.length:Int)))=true then((idx v1 x2)>>=fun y3=>
 ((eC y3.effect)>>=fun r4=>
 (if(!r4)=true then some (.ret (4))
 else((if(decide (y3.instance_<(0)))=true then some true
 else some (decide (y3.marker<(0))):Option Bool)>>=fun c5=>
 (if c5=true then some (.ret (1))
 else((if(decide (x2>(0)))=true then((idx v1 (IntKind.wrap .i64 (x2-(1))))>>=fun y7=>
 ((cP y7 y3)>>=fun r8=>
 ((idx v1 (IntKind.wrap .i64 (x2-(1))))>>=fun y9=>
 ((fL y3.marker y9.marker)>>=fun r10=>
 ((oI [r8,r10])>>=fun r11=>
 some (decide (r11≥(0))))))))
 else some false:Option Bool)>>=fun c6=>
 (if c6=true then some (.ret (1))
 else bU (nf v1) (IntKind.wrap .i64 (x2+(1))))))))))
 else some (.nx ()))
 partial_fixpoint
abbrev jB(v1:(List aA))(x2:Int)(o:(Ctl Int Unit)):Prop:= ∀(e:Env)(s sv:ASt),St [] [] s sv [] []→Wk PP none Code.aEK ⟨gI e [(0,(slA 3<|v1.map aB)),(8,(slA 3<|v1.map aB)),(9,(.int .i64 (v1.length:Int))),(10,(.int .i64 x2))],[]⟩ sv (fun ex fr s'=>(match o with| .ret oq0=>ex= .ret∧u0 PP Code.c13 (VQ (.int .i64 oq0)<|Ext [] [] s) ex fr s'| .nx oq1=>ex= .exit 0∧ ∃(e:Env),fr=⟨gI e [],[]⟩∧sv=s'))
theorem m4: ∀(v1:(List aA))(x2:Int)(o:(Ctl Int Unit)),bU v1 x2=some o→jB v1 x2 o:=by
 refine bU.partial_correctness (jB) ?_;intro _f ih_evidence_Check_l0 v1 x2 o u;intro e s sv J;refine fC<|aD<|aE<|wu rfl<|aC<|aD ?_;refine aI u rfl (fun hc u=> ?_)<|fun hc u=> ?_
 ·refine aO<|aD<|bR<|aD<|aE<|wu rfl ?_;obtain⟨y3,hy3,u⟩:=bs u;refine fM (f:=aB) rfl (.no _) rfl hy3 rfl<|wu rfl<|wu rfl<|wu rfl<|wu rfl<|aC<|bR<|aD<|aE<|wu rfl<|wu rfl ?_;obtain⟨r4,hr4,u⟩:=bs u;refine wcD (k7 hr4) rfl rfl (.cons rfl .nil)<|wu rfl<|wu rfl<|aC ?_;refine aI u rfl (fun hc u=> ?_)<|fun hc u=> ?_
  ·refine aD<|aE<|wu rfl<|aC<|aK ?_;cases u;exact⟨rfl,⟨rfl,_,fun _=>rfl,bD rfl rfl rfl rfl J.ext⟩⟩
  ·refine aD<|aE<|wu rfl<|wu rfl<|wu rfl<|wu rfl ?_;obtain⟨c5,hc5,u⟩:=bs u;refine aS 4 [(0,(slA 3<|v1.map aB)),(3,(.int .i64 x2)),(4,(.aX (aF y3) 0)),(8,(slA 3<|v1.map aB)),(9,(.int .i64 (v1.length:Int))),(10,(.int .i64 x2)),(28,(.bool c5))] sv ?_<|fun e=> ?_
   ·refine aQ (t:=24) rfl (fun hc=> ?_)<|fun hc=> ?_
    ·replace hc5:=bQ hc hc5;refine wu rfl<|wu rfl<|wu rfl<|wu rfl<|aC ?_;cases hc5;exact Kept.mk rfl<|.cons rfl<|.cons rfl<|.cons rfl<|.cons rfl<|.cons rfl<|.cons rfl<|.cons rfl .nil
    ·replace hc5:=bO hc hc5;refine wu rfl<|wu rfl<|wu rfl<|wu rfl<|aC ?_;cases hc5;exact Kept.mk rfl<|.cons rfl<|.cons rfl<|.cons rfl<|.cons rfl<|.cons rfl<|.cons rfl<|.cons rfl .nil
   ·refine wu rfl<|aC ?_;refine aI u rfl (fun hc u=> ?_)<|fun hc u=> ?_
    ·refine aD<|aE<|wu rfl<|aC<|aK ?_;cases u;exact⟨rfl,⟨rfl,_,fun _=>rfl,bD rfl rfl rfl rfl J.ext⟩⟩
    ·refine aD<|aE<|wu rfl<|wu rfl<|wu rfl ?_;obtain⟨c6,hc6,u⟩:=bs u;refine aS 20 [(0,(slA 3<|v1.map aB)),(8,(slA 3<|v1.map aB)),(9,(.int .i64 (v1.length:Int))),(10,(.int .i64 x2)),(52,(.bool c6))] sv ?_<|fun e=> ?_
     ·refine aQ (t:=32) rfl (fun hc=> ?_)<|fun hc=> ?_
      ·replace hc6:=bQ hc hc6
       iterate 3 refine wu rfl ?_
       obtain⟨y7,hy7,hc6⟩:=bs hc6;refine fM (f:=aB) rfl (.no _) rfl hy7 rfl<|wu rfl<|wu rfl ?_;obtain⟨r8,hr8,hc6⟩:=bs hc6;refine wcD (gR hr8) rfl rfl (.cons rfl<|.cons rfl .nil)<|wu rfl<|wu rfl<|wu rfl<|wu rfl<|wu rfl ?_;obtain⟨y9,hy9,hc6⟩:=bs hc6;refine fM (f:=aB) rfl (.no _) rfl hy9 rfl<|wu rfl<|wu rfl ?_;obtain⟨r10,h10,hc6⟩:=bs hc6;refine wcD (nH h10) rfl rfl (.cons rfl<|.cons rfl .nil) ?_;refine pL (f:=(AV.int .i64)) (l:= [r8,r10]) rfl (.cons rfl<|.cons rfl .nil) rfl (fun _=>rfl) rfl rfl (by decide) ?_;obtain⟨r11,h11,hc6⟩:=bs hc6;refine wcD (wI h11) rfl rfl (.cons rfl .nil)<|wu rfl<|wu rfl<|aC ?_;cases hc6;exact Kept.mk rfl<|.cons rfl<|.cons rfl<|.cons rfl<|.cons rfl<|.cons rfl .nil
      ·replace hc6:=bO hc hc6
       iterate 20 refine wu rfl ?_
       refine aC ?_;cases hc6;exact Kept.mk rfl<|.cons rfl<|.cons rfl<|.cons rfl<|.cons rfl<|.cons rfl .nil
     ·refine wu rfl<|aC ?_;refine aI u rfl (fun hc u=> ?_)<|fun hc u=> ?_
      ·refine aD<|aE<|wu rfl<|aC<|aK ?_;cases u;exact⟨rfl,⟨rfl,_,fun _=>rfl,bD rfl rfl rfl rfl J.ext⟩⟩
      ·refine aO<|aE<|wu rfl<|wu rfl<|aC ?_;exact gC (fun e=>ih_evidence_Check_l0 _ _ _ u e s _ J) (.cons rfl<|.cons rfl<|.cons rfl<|.cons rfl .nil)<|fun _ _ _ h=>h
 ·refine iK ?_;cases u;exact⟨rfl,_,frE .nil,rfl⟩
noncomputable def bX(v1:(List aA)):Option Int:=
 (if(decide ((v1.length:Int)>(200)))=true then some (3)
 else((bU v1 (0))>>=fun o12=>
 (match o12 with
 | .ret q13=>some q13
 | .nx q14=>some (0))))
theorem p0: ∀(v1:(List aA))(r:Int),bX v1=some r→ ∀s:ASt,Fc PP (.func 13) [(slA 3<|v1.map aB)] s (cO s<|.int .i64 r):=by
 intro v1 r u;unfold bX at u;intro s;refine bF rfl rfl rfl ?_;have J:=St.clean s;generalize aT s=σ1 at J⊢;refine aD<|aE<|wu rfl<|aC<|aD<|aD<|aE<|wu rfl<|gP (f:=aB) (l:=v1) rfl (.no _)<|wu rfl<|aC ?_;refine aI u rfl (fun hc u=> ?_)<|fun hc u=> ?_
 ·refine aD<|aE<|wu rfl<|aC<|aK ?_;cases u;exact⟨rfl,_,fun _=>rfl,bD rfl rfl rfl rfl J.ext⟩
 ·refine aO<|aD<|aD<|aE<|wu rfl<|gP (f:=aB) (l:=v1) rfl (.no _)<|wu rfl<|aC<|bR ?_;obtain⟨o12,h12,u⟩:=bs u;refine gC (fun e=>m4 _ _ _ h12 e s _ J) (.cons rfl<|.cons rfl<|.cons rfl<|.cons rfl .nil) ?_
  rintro _ _ _ hq
  rcases o12 with q13|q14
  ·obtain⟨rfl,hq⟩:=hq;cases u;exact hq
  ·obtain⟨rfl,e16,rfl,rfl⟩:=hq;refine aD<|aE<|wu rfl<|aC<|aK ?_;cases u;exact⟨rfl,_,fun _=>rfl,bD rfl rfl rfl rfl J.ext⟩
theorem dV{v1:(List aA)}{r:Int}(h:bX v1=some r):Pf PP 13 [(slA 3<|v1.map aB)] (.int .i64 r):=Pf.dB (p0 v1 r h _) rfl (.cons (dZ<|bG aM _) .nil)
noncomputable def cH(i1:Int)(x2:(List aA))(x3:aA):Option Bool:=
 ((idx x2 i1)>>=fun y4=>
 ((cP y4 x3)>>=fun r5=>
 some (decide (r5≥(0)))))
theorem lV: ∀(i1:Int)(x2:(List aA))(x3:aA)(r:Bool),cH i1 x2 x3=some r→ ∀s:ASt,Fc PP (.func 41) [(.int .i64 i1),(.aX (slA 3<|x2.map aB) 0),(.aX (aF x3) 0)] s (cO s<|.bool r):=by
 intro i1 x2 x3 r u;unfold cH at u;intro s;refine bF rfl rfl rfl ?_;have J:=St.clean s;generalize aT s=σ1 at J⊢;refine aD<|aE<|wu rfl<|aC<|aD<|aE<|wu rfl<|wu rfl ?_;obtain⟨y4,hy4,u⟩:=bs u;refine fM (f:=aB) rfl (.no _) rfl hy4 rfl<|wu rfl<|wu rfl ?_;obtain⟨r5,hr5,u⟩:=bs u;refine wcD (gR hr5) rfl rfl (.cons rfl<|.cons rfl .nil)<|wu rfl<|wu rfl<|aC<|aK ?_;cases u;exact⟨rfl,_,fun _=>rfl,bD rfl rfl rfl rfl J.ext⟩
theorem lT{i1:Int}{x2:(List aA)}{x3:aA}{r:Bool}(h:cH i1 x2 x3=some r):Pf PP 41 [(.int .i64 i1),(.aX (slA 3<|x2.map aB) 0),(.aX (aF x3) 0)] (.bool r):=Pf.dB (lV i1 x2 x3 r h _) rfl (.cons ⟨rfl,rfl⟩<|.cons (pX<|dZ<|bG aM _)<|.cons (pX<|bH _) .nil)
noncomputable def bK(f2:(List aA))(f3:aA)(i4:Int)(j5:Int):Option Int:=
 (if(decide (i4<j5))=true then((cH (IntKind.wrap .i64 (IntKind.wrap .u64 ((IntKind.wrap .u64 (IntKind.wrap .i64 (i4+j5))).fdiv (2^(min (Int.toNat (1)) (IntKind.bits .u64)))))) f2 f3)>>=fun r6=>
 (if(!r6)=true then bK (nf f2) (nf f3) (IntKind.wrap .i64 ((IntKind.wrap .i64 (IntKind.wrap .u64 ((IntKind.wrap .u64 (IntKind.wrap .i64 (i4+j5))).fdiv (2^(min (Int.toNat (1)) (IntKind.bits .u64))))))+(1))) (nf j5)
 else bK (nf f2) (nf f3) (nf i4) (IntKind.wrap .i64 (IntKind.wrap .u64 ((IntKind.wrap .u64 (IntKind.wrap .i64 (i4+j5))).fdiv (2^(min (Int.toNat (1)) (IntKind.bits .u64))))))))
 else some i4)
 partial_fixpoint
abbrev jA(f2:(List aA))(f3:aA)(i4:Int)(j5:Int)(o:Int):Prop:= ∀(e:Env)(s sv:ASt),St [] [] s sv [] []→Wk PP none Code.aEJ ⟨gI e [(1,(.func 41 [] [(.aX (slA 3<|f2.map aB) 0),(.aX (aF f3) 0)])),(5,(.int .i64 i4)),(6,(.int .i64 j5))],[]⟩ sv (fun ex fr s'=>ex= .exit 0∧ ∃(e:Env),fr=⟨gI e [(5,(.int .i64 o))],[]⟩∧St [] [] s s' [] [])
theorem mU: ∀(f2:(List aA))(f3:aA)(i4:Int)(j5:Int)(o:Int),bK f2 f3 i4 j5=some o→jA f2 f3 i4 j5 o:=by
 refine bK.partial_correctness (jA) ?_;intro _f ih_sort_Search_s0_l0 f2 f3 i4 j5 o u;intro e s sv J;refine fC<|aD<|aD<|aE<|wu rfl<|wu rfl<|wu rfl<|aC ?_;refine aI u rfl (fun hc u=> ?_)<|fun hc u=> ?_
 ·refine aO<|bR<|aD<|aE<|wu rfl<|wu rfl<|wu rfl<|wu rfl<|wu rfl<|wu rfl<|wu rfl<|aC<|aD<|aE ?_;refine wu rfl<|wu rfl ?_;obtain⟨r6,hr6,u⟩:=bs u;refine wcC (lT hr6) rfl rfl (.cons rfl .nil) rfl<|wu rfl<|aC ?_;refine aI u rfl (fun hc u=> ?_)<|fun hc u=> ?_
  ·refine aE<|wu rfl<|wu rfl<|wu rfl<|aC ?_;exact gC (fun e=>ih_sort_Search_s0_l0 _ _ _ _ _ u e s _ J) (.cons rfl<|.cons rfl<|.cons rfl .nil)<|fun _ _ _ h=>h
  ·refine aE<|wu rfl<|wu rfl<|aC ?_;exact gC (fun e=>ih_sort_Search_s0_l0 _ _ _ _ _ u e s _ J) (.cons rfl<|.cons rfl<|.cons rfl .nil)<|fun _ _ _ h=>h
 ·refine iK ?_;cases u;exact⟨rfl,_,frE<|.cons rfl .nil,J⟩
noncomputable def fN(n1:Int)(f2:(List aA))(f3:aA):Option Int:=
 ((bK f2 f3 (0) n1)>>=fun o7=>
 some o7)
theorem pI: ∀(n1:Int)(f2:(List aA))(f3:aA)(r:Int),fN n1 f2 f3=some r→ ∀s:ASt,Fc PP (.func 40) [(.int .i64 n1),(.func 41 [] [(.aX (slA 3<|f2.map aB) 0),(.aX (aF f3) 0)])] s (cO s<|.int .i64 r):=by
 intro n1 f2 f3 r u;unfold fN at u;intro s;refine bF rfl rfl rfl ?_;have J:=St.clean s;generalize aT s=σ1 at J⊢;refine aD<|aE<|wu rfl<|aC<|aD<|aE<|wu rfl<|wu rfl<|wu rfl<|aC<|aD<|bR ?_;obtain⟨o7,ho7,u⟩:=bs u;refine gC (fun e=>mU _ _ _ _ _ ho7 e s _ J) (.cons rfl<|.cons rfl<|.cons rfl .nil) ?_
 rintro _ _ _ hq
 obtain⟨rfl,e9,rfl,J⟩:=hq;refine aD<|aE<|wu rfl<|wu rfl<|aC<|aK ?_;cases u;exact⟨rfl,_,fun _=>rfl,bD rfl rfl rfl rfl J.ext⟩
theorem pS{n1:Int}{f2:(List aA)}{f3:aA}{r:Int}(h:fN n1 f2 f3=some r):Pf PP 40 [(.int .i64 n1),(.func 41 [] [(.aX (slA 3<|f2.map aB) 0),(.aX (aF f3) 0)])] (.int .i64 r):=Pf.dB (pI n1 f2 f3 r h _) rfl (.cons ⟨rfl,rfl⟩<|.cons (aE3 .nil<|.cons (pX<|dZ<|bG aM _)<|.cons (pX<|bH _) .nil) .nil)
noncomputable def cR(v1:(List aA))(x2:aA):Option Int:=
 ((fN (v1.length:Int) v1 x2)>>=fun r3=>
 some r3)
theorem pY: ∀(v1:(List aA))(x2:aA)(r:Int),cR v1 x2=some r→ ∀s:ASt,Fc PP (.func 32) [(slA 3<|v1.map aB),(aF x2)] s (cO s<|.int .i64 r):=by
 intro v1 x2 r u;unfold cR at u;intro s;refine bF rfl rfl rfl ?_;have J:=St.clean s;generalize aT s=σ1 at J⊢;refine aD<|aE<|wu rfl<|wu rfl<|wu rfl<|aC<|aD<|aE<|wu rfl<|gP (f:=aB) (l:=v1) rfl (.no _)<|wu rfl ?_;obtain⟨r3,hr3,u⟩:=bs u;refine wcD (pS hr3) rfl rfl (.cons rfl<|.cons rfl .nil)<|wu rfl<|aC<|aK ?_;cases u;exact⟨rfl,_,fun _=>rfl,bD rfl rfl rfl rfl J.ext⟩
theorem gN{v1:(List aA)}{x2:aA}{r:Int}(h:cR v1 x2=some r):Pf PP 32 [(slA 3<|v1.map aB),(aF x2)] (.int .i64 r):=Pf.dB (pY v1 x2 r h _) rfl (.cons (dZ<|bG aM _)<|.cons (bH _) .nil)
noncomputable def dH(v1:(List aA))(e2:Str)(instance3:Int):Option (aA×Bool):=
 ((cR v1 (aA.mk e2 instance3 (0)))>>=fun r6=>
 ((if(r6==(v1.length:Int))=true then some true
 else((idx v1 r6)>>=fun y8=>
 ((cP y8 (aA.mk e2 instance3 (0)))>>=fun r9=>
 some (r9 !=(0)))):Option Bool)>>=fun c7=>
 (if c7=true then some ((aA.mk ((aA.mk ([]:Str) (0) (0)).effect) ((aA.mk ([]:Str) (0) (0)).instance_) ((aA.mk ([]:Str) (0) (0)).marker)),false)
 else((idx v1 r6)>>=fun y11=>
 some (y11,true)))))
theorem p6: ∀(v1:(List aA))(e2:Str)(instance3:Int)(r:(aA×Bool)),dH v1 e2 instance3=some r→ ∀s:ASt,Fc PP (.func 23) [(slA 3<|v1.map aB),(.str e2),(.int .i64 instance3)] s (cO s<|.tuple [(aF r.1),(.bool r.2)]):=by
 intro v1 e2 instance3 r u;unfold dH at u;intro s;refine bF rfl rfl rfl ?_;have J:=St.clean s;generalize aT s=σ1 at J⊢;refine aD<|aE ?_;refine p5 rfl J rfl<|fun β4 σ5 J=> ?_;refine wu rfl<|aC<|aD<|aE<|wu rfl<|wu rfl ?_;refine wgv (v:=(aF<|aA.mk e2 instance3<|0)) rfl rfl (by kernel_rfl) ?_;refine wu rfl<|wu rfl<|aC<|aD<|aE<|wu rfl<|wu rfl ?_;obtain⟨r6,hr6,u⟩:=bs u;refine wcD (gN hr6) rfl rfl (.cons rfl<|.cons rfl .nil)<|wu rfl<|aC<|aD<|aD<|aE<|wu rfl<|wu rfl<|gP (f:=aB) (l:=v1) rfl (.no _)<|wu rfl<|wu rfl ?_;obtain⟨c7,hc7,u⟩:=bs u;refine aS 8 [(0,(slA 3<|v1.map aB)),(6,(.ptr β4 0)),(9,(.int .i64 r6)),(28,(.bool c7))] σ5 ?_<|fun e=> ?_
 ·refine aQ (t:=20) rfl (fun hc=> ?_)<|fun hc=> ?_
  ·replace hc7:=bQ hc hc7;refine wu rfl<|wu rfl<|wu rfl<|wu rfl<|wu rfl<|wu rfl<|wu rfl<|wu rfl<|aC ?_;cases hc7;exact Kept.mk rfl<|.cons rfl<|.cons rfl<|.cons rfl<|.cons rfl .nil
  ·replace hc7:=bO hc hc7;refine wu rfl<|wu rfl ?_;obtain⟨y8,hy8,hc7⟩:=bs hc7;refine fM (f:=aB) rfl (.no _) rfl hy8 rfl<|wu rfl<|wu rfl ?_;obtain⟨r9,hr9,hc7⟩:=bs hc7;refine wcD (gR hr9) rfl rfl (.cons rfl<|.cons rfl .nil)<|wu rfl<|wu rfl<|aC ?_;cases hc7;exact Kept.mk rfl<|.cons rfl<|.cons rfl<|.cons rfl<|.cons rfl .nil
 ·refine aC ?_;refine aI u rfl (fun hc u=> ?_)<|fun hc u=> ?_
  ·refine aD<|aE ?_;refine wgv (v:=(aF<|aA.mk ([]:Str) (0)<|0)) rfl rfl (by kernel_rfl) ?_;refine gQ (ds':= [(.str (aA.mk ([]:Str) (0)<|0).effect),(.int .i64 (aA.mk ([]:Str) (0)<|0).instance_),(.int .i64 (aA.mk ([]:Str) (0)<|0).marker)]) (cs':= [(.str (aA.mk ([]:Str) (0)<|0).effect),(.int .i64 (aA.mk ([]:Str) (0)<|0).instance_),(.int .i64 (aA.mk ([]:Str) (0)<|0).marker)]) 0 rfl J rfl rfl rfl rfl rfl (Nat.le_of_ble_eq_true rfl) (.cons (tkN rfl)<|.cons (tkN rfl)<|.cons (tkN rfl) .nil) (by kernel_rfl)<|fun σ10 J=> ?_;refine wu rfl<|aC<|aK ?_;cases u;exact⟨rfl,_,fun _=>rfl,eX (pC.eq<|.cons (jE (us:= [(.str (aA.mk ([]:Str) (0)<|0).effect),(.int .i64 (aA.mk ([]:Str) (0)<|0).instance_),(.int .i64 (aA.mk ([]:Str) (0)<|0).marker)]) J 0 rfl rfl (Nat.le_of_ble_eq_true rfl) rfl<|.cons rfl<|.cons rfl<|.cons rfl .nil)<|.cons rfl .nil) (.cons rfl<|.cons rfl .nil) J.ext⟩
  ·refine aO<|aD<|aE<|wu rfl<|wu rfl ?_;obtain⟨y11,h11,u⟩:=bs u;refine fM (f:=aB) rfl (.no _) rfl h11 rfl<|wu rfl ?_;refine gQ (ds':= [(.str y11.effect),(.int .i64 y11.instance_),(.int .i64 y11.marker)]) (cs':= [(.str y11.effect),(.int .i64 y11.instance_),(.int .i64 y11.marker)]) 0 rfl J rfl rfl rfl rfl rfl (Nat.le_of_ble_eq_true rfl) (.cons (tkN rfl)<|.cons (tkN rfl)<|.cons (tkN rfl) .nil) (by kernel_rfl)<|fun σ12 J=> ?_;refine wu rfl<|aC<|aK ?_;cases u;exact⟨rfl,_,fun _=>rfl,eX (pC.eq<|.cons (jE (us:= [(.str y11.effect),(.int .i64 y11.instance_),(.int .i64 y11.marker)]) J 0 rfl rfl (Nat.le_of_ble_eq_true rfl) rfl<|.cons rfl<|.cons rfl<|.cons rfl .nil)<|.cons rfl .nil) (.cons rfl<|.cons rfl .nil) J.ext⟩
theorem kE{v1:(List aA)}{e2:Str}{instance3:Int}{r:(aA×Bool)}(h:dH v1 e2 instance3=some r):Pf PP 23 [(slA 3<|v1.map aB),(.str e2),(.int .i64 instance3)] (.tuple [(aF r.1),(.bool r.2)]):=Pf.dB (p6 v1 e2 instance3 r h _) (oV<|.cons (bH _).2<|.cons rfl<|.nil) (.cons (dZ<|bG aM _)<|.cons ⟨rfl,rfl⟩<|.cons ⟨rfl,rfl⟩ .nil)
noncomputable def dC(v1:(List aA))(e2:Str)(instance3:Int):Option (aA×Int):=
 ((bX v1)>>=fun r6=>
 (if(r6 !=(0))=true then some ((aA.mk ((aA.mk ([]:Str) (0) (0)).effect) ((aA.mk ([]:Str) (0) (0)).instance_) ((aA.mk ([]:Str) (0) (0)).marker)),r6)
 else((dH v1 e2 instance3)>>=fun r8=>
 (if(!r8.2)=true then some ((aA.mk ((aA.mk ([]:Str) (0) (0)).effect) ((aA.mk ([]:Str) (0) (0)).instance_) ((aA.mk ([]:Str) (0) (0)).marker)),(6))
 else some ((aA.mk r8.1.effect r8.1.instance_ r8.1.marker),(0))))))
theorem qO: ∀(v1:(List aA))(e2:Str)(instance3:Int)(r:(aA×Int)),dC v1 e2 instance3=some r→ ∀s:ASt,Fc PP (.func 11) [(slA 3<|v1.map aB),(.str e2),(.int .i64 instance3)] s (cO s<|.tuple [(aF r.1),(.int .i64 r.2)]):=by
 intro v1 e2 instance3 r u;unfold dC at u;intro s;refine bF rfl rfl rfl ?_;have J:=St.clean s;generalize aT s=σ1 at J⊢;refine aD<|aE ?_;refine p5 rfl J rfl<|fun β4 σ5 J=> ?_;refine wu rfl<|aC<|aD<|aD<|aE<|wu rfl ?_;obtain⟨r6,hr6,u⟩:=bs u;refine wcD (dV hr6) rfl rfl (.cons rfl .nil)<|wu rfl<|aC<|aD<|aE<|wu rfl<|wu rfl<|aC ?_;refine aI u rfl (fun hc u=> ?_)<|fun hc u=> ?_
 ·refine aD<|aE ?_;refine wgv (v:=(aF<|aA.mk ([]:Str) (0)<|0)) rfl rfl (by kernel_rfl) ?_;refine wu rfl ?_;refine gQ (ds':= [(.str (aA.mk ([]:Str) (0)<|0).effect),(.int .i64 (aA.mk ([]:Str) (0)<|0).instance_),(.int .i64 (aA.mk ([]:Str) (0)<|0).marker)]) (cs':= [(.str (aA.mk ([]:Str) (0)<|0).effect),(.int .i64 (aA.mk ([]:Str) (0)<|0).instance_),(.int .i64 (aA.mk ([]:Str) (0)<|0).marker)]) 0 rfl J rfl rfl rfl rfl rfl (Nat.le_of_ble_eq_true rfl) (.cons (tkN rfl)<|.cons (tkN rfl)<|.cons (tkN rfl) .nil) (by kernel_rfl)<|fun σ7 J=> ?_;refine wu rfl<|aC<|aK ?_;cases u;exact⟨rfl,_,fun _=>rfl,eX (pC.eq<|.cons (jE (us:= [(.str (aA.mk ([]:Str) (0)<|0).effect),(.int .i64 (aA.mk ([]:Str) (0)<|0).instance_),(.int .i64 (aA.mk ([]:Str) (0)<|0).marker)]) J 0 rfl rfl (Nat.le_of_ble_eq_true rfl) rfl<|.cons rfl<|.cons rfl<|.cons rfl .nil)<|.cons rfl .nil) (.cons rfl<|.cons rfl .nil) J.ext⟩
 ·refine aO<|aD<|aE<|wu rfl<|wu rfl<|wu rfl ?_;obtain⟨r8,hr8,u⟩:=bs u;refine wcD (kE hr8) rfl rfl (.cons rfl<|.cons rfl<|.cons rfl .nil)<|wu rfl<|wu rfl<|wu rfl<|wu rfl<|wu rfl<|wu rfl<|aC<|aD<|aD<|aE<|wu rfl<|wu rfl<|aC ?_;refine aI u rfl (fun hc u=> ?_)<|fun hc u=> ?_
  ·refine aD<|aE ?_;refine wgv (v:=(aF<|aA.mk ([]:Str) (0)<|0)) rfl rfl (by kernel_rfl) ?_;refine gQ (ds':= [(.str (aA.mk ([]:Str) (0)<|0).effect),(.int .i64 (aA.mk ([]:Str) (0)<|0).instance_),(.int .i64 (aA.mk ([]:Str) (0)<|0).marker)]) (cs':= [(.str (aA.mk ([]:Str) (0)<|0).effect),(.int .i64 (aA.mk ([]:Str) (0)<|0).instance_),(.int .i64 (aA.mk ([]:Str) (0)<|0).marker)]) 0 rfl J rfl rfl rfl rfl rfl (Nat.le_of_ble_eq_true rfl) (.cons (tkN rfl)<|.cons (tkN rfl)<|.cons (tkN rfl) .nil) (by kernel_rfl)<|fun σ9 J=> ?_;refine wu rfl<|aC<|aK ?_;cases u;exact⟨rfl,_,fun _=>rfl,eX (pC.eq<|.cons (jE (us:= [(.str (aA.mk ([]:Str) (0)<|0).effect),(.int .i64 (aA.mk ([]:Str) (0)<|0).instance_),(.int .i64 (aA.mk ([]:Str) (0)<|0).marker)]) J 0 rfl rfl (Nat.le_of_ble_eq_true rfl) rfl<|.cons rfl<|.cons rfl<|.cons rfl .nil)<|.cons rfl .nil) (.cons rfl<|.cons rfl .nil) J.ext⟩
  ·refine aO<|aD<|aE<|wu rfl ?_;refine gQ (ds':= [(.str r8.1.effect),(.int .i64 r8.1.instance_),(.int .i64 r8.1.marker)]) (cs':= [(.str r8.1.effect),(.int .i64 r8.1.instance_),(.int .i64 r8.1.marker)]) 0 rfl J rfl rfl rfl rfl rfl (Nat.le_of_ble_eq_true rfl) (.cons (tkN rfl)<|.cons (tkN rfl)<|.cons (tkN rfl) .nil) (by kernel_rfl)<|fun σ10 J=> ?_;refine wu rfl<|aC<|aK ?_;cases u;exact⟨rfl,_,fun _=>rfl,eX (pC.eq<|.cons (jE (us:= [(.str r8.1.effect),(.int .i64 r8.1.instance_),(.int .i64 r8.1.marker)]) J 0 rfl rfl (Nat.le_of_ble_eq_true rfl) rfl<|.cons rfl<|.cons rfl<|.cons rfl .nil)<|.cons rfl .nil) (.cons rfl<|.cons rfl .nil) J.ext⟩
theorem g8{v1:(List aA)}{e2:Str}{instance3:Int}{r:(aA×Int)}(h:dC v1 e2 instance3=some r):Pf PP 11 [(slA 3<|v1.map aB),(.str e2),(.int .i64 instance3)] (.tuple [(aF r.1),(.int .i64 r.2)]):=Pf.dB (qO v1 e2 instance3 r h _) (oV<|.cons (bH _).2<|.cons rfl<|.nil) (.cons (dZ<|bG aM _)<|.cons ⟨rfl,rfl⟩<|.cons ⟨rfl,rfl⟩ .nil)
theorem sz3(xs:List AV):(Nat.beq (szC 3 xs) 3||xs.isEmpty)=true:=by cases xs<;>rfl
noncomputable def dU(v1:List aA)(x2:aA):Option (List aA):=
 match cR v1 x2 with
 |some i=>if 0≤i∧i.toNat≤v1.length∧v1.length≤1048576 then some (v1.take i.toNat++x2::v1.drop i.toNat) else none
 |none=>none
theorem nB{v1:List aA}{x2:aA}{r:List aA}(h:dU v1 x2=some r):Pf PP 18 [(slA 3<|v1.map aB),(aF x2)] (slA 3<|r.map aB):=by
 unfold dU at h;split at h
 ·rename_i i hi;split at h
  ·rename_i hc;cases h;obtain⟨c1,c2,c3⟩:=hc;have hp:=gN hi;refine⟨?_,kJ aM _,hp.can⟩;obtain⟨⟨q,s2⟩,N,⟨v0,h1,h2⟩,h3⟩:=hp.ev.out;simp only at h1;subst h1;refine Ev.run (n:=N+1) (r:=(.ret<|slA 3<|(v1.take i.toNat++x2::v1.drop i.toNat).map aB,dF)) ?_ ⟨_,rfl,(Sl.no _).gZ⟩;show eW (cC PP N) yN [(slA 3<|v1.map aB),(aF x2)] dF=_;have e1:cA (cC PP N) [(32,[(slA 3<|v1.map aB),(aF x2)])]=some [.int .i64 i]:=by
    simp only [cA,hp.can.pure,h3 N<|Nat.le_refl _,h2]
    rfl
   have e2:yN.fin [(slA 3<|v1.map aB),(aF x2)] [.int .i64 i]=some (slA 3<|(v1.take i.toNat++x2::v1.drop i.toNat).map aB):=by
    have hq:((Nat.beq (szC 3<|v1.map aB) 3||(v1.map aB).isEmpty)&&decide (0≤i)&&Nat.ble i.toNat (v1.map aB).length&&Nat.ble (v1.map aB).length 1048576)=true:=by
     rw [sz3,List.length_map];simp only [Bool.true_and,Bool.and_eq_true,decide_eq_true_eq];exact⟨⟨c1,Nat.ble_eq_true_of_le c2⟩,Nat.ble_eq_true_of_le c3⟩
    simp only [yN,slA,hq];simp only [List.map_append,List.map_cons,List.map_take,List.map_drop]
   unfold eW;simp only [hp.can.pure];have e3:yN.calls [(slA 3<|v1.map aB),(aF x2)]=some [(32,[(slA 3<|v1.map aB),(aF x2)])]:=rfl;simp only [e3,e1,e2,kJ aM]
  ·cases h
 ·cases h
noncomputable def cX(v1:(List aA))(x2:aA):Option ((List aA)×Int):=
 ((bX v1)>>=fun r3=>
 (if(r3 !=(0))=true then some (([]:(List aA)),r3)
 else((dU v1 x2)>>=fun r4=>
 ((bX r4)>>=fun r5=>
 (if(r5 !=(0))=true then some (([]:(List aA)),r5)
 else some (r4,(0)))))))
theorem oM: ∀(v1:(List aA))(x2:aA)(r:((List aA)×Int)),cX v1 x2=some r→ ∀s:ASt,Fc PP (.func 7) [(slA 3<|v1.map aB),(aF x2)] s (cO s<|.tuple [(slA 3<|r.1.map aB),(.int .i64 r.2)]):=by
 intro v1 x2 r u;unfold cX at u;intro s;refine bF rfl rfl rfl ?_;have J:=St.clean s;generalize aT s=σ1 at J⊢;refine aD<|aE<|wu rfl<|wu rfl<|wu rfl<|aC<|aD<|aD<|aE<|wu rfl ?_;obtain⟨r3,hr3,u⟩:=bs u;refine wcD (dV hr3) rfl rfl (.cons rfl .nil)<|wu rfl<|aC<|aD<|aE<|wu rfl<|wu rfl<|aC ?_;refine aI u rfl (fun hc u=> ?_)<|fun hc u=> ?_
 ·refine aD<|aE<|wu rfl<|wu rfl<|wu rfl<|aC<|aK ?_;cases u;exact⟨rfl,_,fun _=>rfl,eX rfl (.cons rfl<|.cons rfl .nil) J.ext⟩
 ·refine aO<|aD<|aE<|wu rfl<|wu rfl ?_;obtain⟨r4,hr4,u⟩:=bs u;refine wcD (nB hr4) rfl rfl (.cons rfl<|.cons rfl .nil)<|wu rfl<|aC<|aD<|aD<|aE<|wu rfl ?_;obtain⟨r5,hr5,u⟩:=bs u;refine wcD (dV hr5) rfl rfl (.cons rfl .nil)<|wu rfl<|aC<|aD<|aE<|wu rfl<|wu rfl<|aC ?_;refine aI u rfl (fun hc u=> ?_)<|fun hc u=> ?_
  ·refine aD<|aE<|wu rfl<|wu rfl<|wu rfl<|aC<|aK ?_;cases u;exact⟨rfl,_,fun _=>rfl,eX rfl (.cons rfl<|.cons rfl .nil) J.ext⟩
  ·refine aO<|aD<|aE<|wu rfl<|wu rfl<|wu rfl<|aC<|aK ?_;cases u;exact⟨rfl,_,fun _=>rfl,eX rfl (.cons rfl<|.cons rfl .nil) J.ext⟩
theorem jU{v1:(List aA)}{x2:aA}{r:((List aA)×Int)}(h:cX v1 x2=some r):Pf PP 7 [(slA 3<|v1.map aB),(aF x2)] (.tuple [(slA 3<|r.1.map aB),(.int .i64 r.2)]):=Pf.dB (oM v1 x2 r h _) (oV<|.cons (kJ aM _)<|.cons rfl<|.nil) (.cons (dZ<|bG aM _)<|.cons (bH _) .nil)
noncomputable def eJ(v1:List aA)(e2:Str):Option (List aA):=
 match dH v1 e2 0,cR v1 {effect:=e2,instance_:=0,marker:=0} with
 |some (_,is),some i=>if v1.length≤1048576 then(match is with|false=>some v1|true=>if 0≤i∧i.toNat<v1.length then some (v1.take i.toNat++v1.drop (i.toNat+1)) else none) else none
 |_,_=>none
theorem nY{v1:List aA}{effect2:Str}{r:List aA}(h:eJ v1 effect2=some r):Pf PP 21 [(slA 3<|v1.map aB),(.str effect2)] (slA 3<|r.map aB):=by
 unfold eJ at h;split at h
 ·rename_i xe is i hf hi;split at h
  ·rename_i c3;have hp:=kE hf;have hq:=gN hi;have hcan:vA [(slA 3<|v1.map aB),(.str effect2)]:= .cons (dZ<|bG aM _) (.cons (aEu _) .nil);refine⟨?_,kJ aM _,hcan⟩;obtain⟨⟨q,s2⟩,N,⟨v0,h1,h2⟩,h3⟩:=hp.ev.out;obtain⟨⟨q',s2'⟩,N',⟨v0',h1',h2'⟩,h3'⟩:=hq.ev.out;simp only at h1 h1';subst h1;subst h1';refine Ev.run (n:=max N N'+1) (r:=(.ret<|slA 3<|r.map aB,dF)) ?_ ⟨_,rfl,(Sl.no _).gZ⟩;show eW (cC PP<|max N N') xH [(slA 3<|v1.map aB),(.str effect2)] dF=_;have e1:cA (cC PP<|max N N') [(23,[(slA 3<|v1.map aB),(.str effect2),(.int .i64 0)]),(32,[(slA 3<|v1.map aB),(aF {effect:=effect2,instance_:=0,marker:=0})])]=some [.tuple [(aF xe),(.bool is)],.int .i64 i]:=by
    have p1:bE (AV.tuple [(aF xe),(.bool is)])=true:=hp.pure;simp only [cA,hp.can.pure,hq.can.pure,h3 _<|Nat.le_max_left _ _,h3' _<|Nat.le_max_right _ _,h2,h2',p1]
    rfl
   have hk:((Nat.beq (szC 3<|v1.map aB) 3||(v1.map aB).isEmpty)&&Nat.ble (v1.map aB).length 1048576)=true:=by
    rw [sz3,List.length_map];exact Nat.ble_eq_true_of_le c3
   have e2:xH.fin [(slA 3<|v1.map aB),(.str effect2)] [.tuple [(aF xe),(.bool is)],.int .i64 i]=some (slA 3<|r.map aB):=by
    cases is with
    |false=>
     cases h;simp only [xH,slA,hk]
    |true=>
     simp only at h;split at h
     ·rename_i hc;cases h;have hw:(decide (0≤i)&&Nat.blt i.toNat (v1.map aB).length)=true:=by
       rw [List.length_map];simp only [Bool.and_eq_true,decide_eq_true_eq];exact⟨hc.1,Nat.ble_eq_true_of_le hc.2⟩
      simp only [xH,slA,hk,hw];simp only [List.map_append,List.map_take,List.map_drop]
     ·cases h
   unfold eW;simp only [hcan.pure];have e3:xH.calls [(slA 3<|v1.map aB),(.str effect2)]=some [(23,[(slA 3<|v1.map aB),(.str effect2),(.int .i64 0)]),(32,[(slA 3<|v1.map aB),(aF {effect:=effect2,instance_:=0,marker:=0})])]:=rfl;simp only [e3,e1,e2,kJ aM]
  ·cases h
 ·cases h
noncomputable def dN(v1:(List aA))(e2:Str):Option ((List aA)×Int):=
 ((bX v1)>>=fun r3=>
 ((if(r3==(0))=true then((eC e2)>>=fun r5=>
 some (!r5))
 else some false:Option Bool)>>=fun c4=>
 (((if c4=true then some (4)
 else some r3):Option Int)>>=fun o6=>
 (if(o6 !=(0))=true then some (([]:(List aA)),o6)
 else((eJ v1 e2)>>=fun r9=>
 some (r9,(0)))))))
theorem oN: ∀(v1:(List aA))(e2:Str)(r:((List aA)×Int)),dN v1 e2=some r→ ∀s:ASt,Fc PP (.func 9) [(slA 3<|v1.map aB),(.str e2)] s (cO s<|.tuple [(slA 3<|r.1.map aB),(.int .i64 r.2)]):=by
 intro v1 e2 r u;unfold dN at u;intro s;refine bF rfl rfl rfl ?_;have J:=St.clean s;generalize aT s=σ1 at J⊢;refine aD<|aE<|wu rfl<|wu rfl<|aC<|aD<|aE<|wu rfl ?_;obtain⟨r3,hr3,u⟩:=bs u;refine wcD (dV hr3) rfl rfl (.cons rfl .nil)<|wu rfl<|aC<|aD<|aD<|aE<|wu rfl<|wu rfl<|wu rfl ?_;obtain⟨c4,hc4,u⟩:=bs u;refine aS 4 [(0,(slA 3<|v1.map aB)),(1,(.str e2)),(6,(.int .i64 r3)),(15,(.bool c4))] σ1 ?_<|fun e=> ?_
 ·refine aQ (t:=11) rfl (fun hc=> ?_)<|fun hc=> ?_
  ·replace hc4:=bQ hc hc4;refine wu rfl ?_;obtain⟨r5,hr5,hc4⟩:=bs hc4;refine wcD (k7 hr5) rfl rfl (.cons rfl .nil)<|wu rfl<|wu rfl<|aC ?_;cases hc4;exact Kept.mk rfl<|.cons rfl<|.cons rfl<|.cons rfl<|.cons rfl .nil
  ·replace hc4:=bO hc hc4;refine wu rfl<|wu rfl<|wu rfl<|wu rfl<|aC ?_;cases hc4;exact Kept.mk rfl<|.cons rfl<|.cons rfl<|.cons rfl<|.cons rfl .nil
 ·refine aC ?_;obtain⟨o6,ho6,u⟩:=bs u;refine Wk.mono (Q:=fun ex fr s'=>ex= .normal∧ ∃(e:Env),fr=⟨gI e [(0,(slA 3<|v1.map aB)),(1,(.str e2)),(6,(.int .i64 o6))],[]⟩∧σ1=s') ?_ ?_
  ·refine aI ho6 rfl (fun hc ho6=> ?_)<|fun hc ho6=> ?_
   ·refine aE<|wu rfl<|aC ?_;cases ho6;exact⟨rfl,_,frE<|.cons rfl<|.cons rfl<|.cons rfl .nil,rfl⟩
   ·refine aO ?_;cases ho6;exact⟨rfl,_,frE<|.cons rfl<|.cons rfl<|.cons rfl .nil,rfl⟩
  ·rintro _ _ _ hq
   obtain⟨rfl,e8,rfl,rfl⟩:=hq;refine aD<|aD<|aE<|wu rfl<|wu rfl<|aC ?_;refine aI u rfl (fun hc u=> ?_)<|fun hc u=> ?_
   ·refine aD<|aE<|wu rfl<|wu rfl<|wu rfl<|aC<|aK ?_;cases u;exact⟨rfl,_,fun _=>rfl,eX rfl (.cons rfl<|.cons rfl .nil) J.ext⟩
   ·refine aO<|aD<|aE<|wu rfl<|wu rfl ?_;obtain⟨r9,hr9,u⟩:=bs u;refine wcD (nY hr9) rfl rfl (.cons rfl<|.cons rfl .nil)<|wu rfl<|wu rfl<|aC<|aK ?_;cases u;exact⟨rfl,_,fun _=>rfl,eX rfl (.cons rfl<|.cons rfl .nil) J.ext⟩
theorem oJ{v1:(List aA)}{e2:Str}{r:((List aA)×Int)}(h:dN v1 e2=some r):Pf PP 9 [(slA 3<|v1.map aB),(.str e2)] (.tuple [(slA 3<|r.1.map aB),(.int .i64 r.2)]):=Pf.dB (oN v1 e2 r h _) (oV<|.cons (kJ aM _)<|.cons rfl<|.nil) (.cons (dZ<|bG aM _)<|.cons ⟨rfl,rfl⟩ .nil)
noncomputable def tA(n1:Int)(l2:Int)(hi3:Int):Option Bool:=
 ((if(decide (l2≤n1))=true then some (decide (n1≤hi3))
 else some false:Option Bool)>>=fun c4=>
 some c4)
theorem aBZ: ∀(n1:Int)(l2:Int)(hi3:Int)(r:Bool),tA n1 l2 hi3=some r→ ∀s:ASt,Fc PP (.func 37) [(.int .i64 n1),(.int .i64 l2),(.int .i64 hi3)] s (cO s<|.bool r):=by
 intro n1 l2 hi3 r u;unfold tA at u;intro s;refine bF rfl rfl rfl ?_;have J:=St.clean s;generalize aT s=σ1 at J⊢;refine aD<|aE<|wu rfl<|aC<|aD<|aE<|wu rfl<|wu rfl<|wu rfl<|wu rfl ?_;obtain⟨c4,hc4,u⟩:=bs u;refine aS 4 [(14,(.bool c4))] σ1 ?_<|fun e=> ?_
 ·refine aQ (t:=10) rfl (fun hc=> ?_)<|fun hc=> ?_
  ·replace hc4:=bQ hc hc4;refine wu rfl<|wu rfl<|wu rfl<|wu rfl<|aC ?_;cases hc4;exact Kept.mk rfl<|.cons rfl .nil
  ·replace hc4:=bO hc hc4;refine wu rfl<|wu rfl<|wu rfl<|wu rfl<|aC ?_;cases hc4;exact Kept.mk rfl<|.cons rfl .nil
 ·refine wu rfl<|aC<|aK ?_;cases u;exact⟨rfl,_,fun _=>rfl,bD rfl rfl rfl rfl J.ext⟩
theorem aBR{n1:Int}{l2:Int}{hi3:Int}{r:Bool}(h:tA n1 l2 hi3=some r):Pf PP 37 [(.int .i64 n1),(.int .i64 l2),(.int .i64 hi3)] (.bool r):=Pf.dB (aBZ n1 l2 hi3 r h _) rfl (.cons ⟨rfl,rfl⟩<|.cons ⟨rfl,rfl⟩<|.cons ⟨rfl,rfl⟩ .nil)
noncomputable def eP(s1:Str)(i13:Int):Option (Ctl Bool Unit):=
 (if(decide (i13<(s1.length:Int)))=true then((idx s1 i13)>>=fun b14=>
 ((if(decide ((b14.toNat:Int)≥(97)))=true then some (decide ((b14.toNat:Int)≤(122)))
 else some false:Option Bool)>>=fun c15=>
 ((if c15=true then some true
 else((if(decide ((b14.toNat:Int)≥(65)))=true then some (decide ((b14.toNat:Int)≤(90)))
 else some false:Option Bool)>>=fun c17=>
 some c17):Option Bool)>>=fun c16=>
 ((if c16=true then some true
 else((if(decide ((b14.toNat:Int)≥(48)))=true then some (decide ((b14.toNat:Int)≤(57)))
 else some false:Option Bool)>>=fun c19=>
 some c19):Option Bool)>>=fun c18=>
 ((if c18=true then some true
 else some ((b14.toNat:Int)==(95)):Option Bool)>>=fun c20=>
 (if(!c20)=true then some (.ret false)
 else eP (nf s1) (IntKind.wrap .i64 (i13+(1)))))))))
 else some (.nx ()))
 partial_fixpoint
abbrev oB(s1:Str)(i13:Int)(o:(Ctl Bool Unit)):Prop:= ∀(e:Env)(s sv:ASt),St [] [] s sv [] []→Wk PP none Code.aEP ⟨gI e [(0,(.str s1)),(9,(.int .i64 i13))],[]⟩ sv (fun ex fr s'=>(match o with| .ret oq0=>ex= .ret∧u0 PP Code.c29 (VQ (.bool oq0)<|Ext [] [] s) ex fr s'| .nx oq1=>ex= .exit 0∧ ∃(e:Env),fr=⟨gI e [],[]⟩∧sv=s'))
theorem tL: ∀(s1:Str)(i13:Int)(o:(Ctl Bool Unit)),eP s1 i13=some o→oB s1 i13 o:=by
 refine eP.partial_correctness (oB) ?_;intro _f ih_r01_word_l0 s1 i13 o u;intro e s sv J;refine fC<|aD<|aD<|aE<|wu rfl<|wu rfl<|wu rfl<|wu rfl<|aC ?_;refine aI u rfl (fun hc u=> ?_)<|fun hc u=> ?_
 ·refine aO<|aD<|bR<|aD<|aE<|wu rfl<|wu rfl ?_;obtain⟨b14,h14,u⟩:=bs u;refine aAp rfl rfl rfl h14 ?_;refine wu rfl<|aC<|aD<|aE<|wu rfl<|wu rfl<|wu rfl ?_;obtain⟨c15,h15,u⟩:=bs u;refine aS 3 [(0,(.str s1)),(9,(.int .i64 i13)),(10,(.int .u8 (b14.toNat:Int))),(50,(.bool c15))] sv ?_<|fun e=> ?_
  ·refine aQ (t:=47) rfl (fun hc=> ?_)<|fun hc=> ?_
   ·replace h15:=bQ hc h15;refine wu rfl<|wu rfl<|wu rfl<|aC ?_;cases h15;exact Kept.mk rfl<|.cons rfl<|.cons rfl<|.cons rfl<|.cons rfl .nil
   ·replace h15:=bO hc h15;refine wu rfl<|wu rfl<|wu rfl<|aC ?_;cases h15;exact Kept.mk rfl<|.cons rfl<|.cons rfl<|.cons rfl<|.cons rfl .nil
  ·refine wu rfl ?_;obtain⟨c16,h16,u⟩:=bs u;refine aS 7 [(0,(.str s1)),(9,(.int .i64 i13)),(10,(.int .u8 (b14.toNat:Int))),(58,(.bool c16))] sv ?_<|fun e=> ?_
   ·refine aQ (t:=51) rfl (fun hc=> ?_)<|fun hc=> ?_
    ·replace h16:=bQ hc h16;refine wu rfl<|wu rfl<|wu rfl<|wu rfl<|wu rfl<|wu rfl<|wu rfl<|aC ?_;cases h16;exact Kept.mk rfl<|.cons rfl<|.cons rfl<|.cons rfl<|.cons rfl .nil
    ·replace h16:=bO hc h16
     iterate 3 refine wu rfl ?_
     obtain⟨c17,h17,h16⟩:=bs h16;refine aS 3 [(0,(.str s1)),(9,(.int .i64 i13)),(10,(.int .u8 (b14.toNat:Int))),(51,(.bool false)),(57,(.bool c17))] sv ?_<|fun e=> ?_
     ·refine aQ (t:=54) rfl (fun hc=> ?_)<|fun hc=> ?_
      ·replace h17:=bQ hc h17;refine wu rfl<|wu rfl<|wu rfl<|aC ?_;cases h17;exact Kept.mk rfl<|.cons rfl<|.cons rfl<|.cons rfl<|.cons rfl<|.cons rfl .nil
      ·replace h17:=bO hc h17;refine wu rfl<|wu rfl<|wu rfl<|aC ?_;cases h17;exact Kept.mk rfl<|.cons rfl<|.cons rfl<|.cons rfl<|.cons rfl<|.cons rfl .nil
     ·refine wu rfl<|aC ?_;cases h16;exact Kept.mk rfl<|.cons rfl<|.cons rfl<|.cons rfl<|.cons rfl .nil
   ·refine wu rfl ?_;obtain⟨c18,h18,u⟩:=bs u;refine aS 7 [(0,(.str s1)),(9,(.int .i64 i13)),(10,(.int .u8 (b14.toNat:Int))),(66,(.bool c18))] sv ?_<|fun e=> ?_
    ·refine aQ (t:=59) rfl (fun hc=> ?_)<|fun hc=> ?_
     ·replace h18:=bQ hc h18;refine wu rfl<|wu rfl<|wu rfl<|wu rfl<|wu rfl<|wu rfl<|wu rfl<|aC ?_;cases h18;exact Kept.mk rfl<|.cons rfl<|.cons rfl<|.cons rfl<|.cons rfl .nil
     ·replace h18:=bO hc h18
      iterate 3 refine wu rfl ?_
      obtain⟨c19,h19,h18⟩:=bs h18;refine aS 3 [(0,(.str s1)),(9,(.int .i64 i13)),(10,(.int .u8 (b14.toNat:Int))),(59,(.bool false)),(65,(.bool c19))] sv ?_<|fun e=> ?_
      ·refine aQ (t:=62) rfl (fun hc=> ?_)<|fun hc=> ?_
       ·replace h19:=bQ hc h19;refine wu rfl<|wu rfl<|wu rfl<|aC ?_;cases h19;exact Kept.mk rfl<|.cons rfl<|.cons rfl<|.cons rfl<|.cons rfl<|.cons rfl .nil
       ·replace h19:=bO hc h19;refine wu rfl<|wu rfl<|wu rfl<|aC ?_;cases h19;exact Kept.mk rfl<|.cons rfl<|.cons rfl<|.cons rfl<|.cons rfl<|.cons rfl .nil
      ·refine wu rfl<|aC ?_;cases h18;exact Kept.mk rfl<|.cons rfl<|.cons rfl<|.cons rfl<|.cons rfl .nil
    ·refine wu rfl ?_;obtain⟨c20,h20,u⟩:=bs u;refine aS 3 [(0,(.str s1)),(9,(.int .i64 i13)),(70,(.bool c20))] sv ?_<|fun e=> ?_
     ·refine aQ (t:=67) rfl (fun hc=> ?_)<|fun hc=> ?_
      ·replace h20:=bQ hc h20;refine wu rfl<|wu rfl<|wu rfl<|aC ?_;cases h20;exact Kept.mk rfl<|.cons rfl<|.cons rfl<|.cons rfl .nil
      ·replace h20:=bO hc h20;refine wu rfl<|wu rfl<|wu rfl<|aC ?_;cases h20;exact Kept.mk rfl<|.cons rfl<|.cons rfl<|.cons rfl .nil
     ·refine wu rfl<|aC ?_;refine aI u rfl (fun hc u=> ?_)<|fun hc u=> ?_
      ·refine aD<|aE<|wu rfl<|aC<|aK ?_;cases u;exact⟨rfl,⟨rfl,_,fun _=>rfl,bD rfl rfl rfl rfl J.ext⟩⟩
      ·refine aO<|aE<|wu rfl<|wu rfl<|wu rfl<|aC ?_;exact gC (fun e=>ih_r01_word_l0 _ _ _ u e s _ J) (.cons rfl<|.cons rfl .nil)<|fun _ _ _ h=>h
 ·refine iK ?_;cases u;exact⟨rfl,_,frE .nil,rfl⟩
noncomputable def jX(s1:Str)(l2:Int)(hi3:Int)(under4:Bool):Option Bool:=
 ((tA (s1.length:Int) (1) (12))>>=fun r5=>
 ((if(!r5)=true then some true
 else((idx s1 (0))>>=fun b7=>
 ((if(decide ((b7.toNat:Int)≥l2))=true then((idx s1 (0))>>=fun b9=>
 some (decide ((b9.toNat:Int)≤hi3)))
 else some false:Option Bool)>>=fun c8=>
 ((if c8=true then some true
 else((if under4=true then((idx s1 (0))>>=fun b12=>
 some ((b12.toNat:Int)==(95)))
 else some false:Option Bool)>>=fun c11=>
 some c11):Option Bool)>>=fun c10=>
 some (!c10)))):Option Bool)>>=fun c6=>
 (if c6=true then some false
 else((eP s1 (0))>>=fun o21=>
 (match o21 with
 | .ret q22=>some q22
 | .nx q23=>some true)))))
theorem yB: ∀(s1:Str)(l2:Int)(hi3:Int)(under4:Bool)(r:Bool),jX s1 l2 hi3 under4=some r→ ∀s:ASt,Fc PP (.func 29) [(.str s1),(.int .u8 l2),(.int .u8 hi3),(.bool under4)] s (cO s<|.bool r):=by
 intro s1 l2 hi3 under4 r u;unfold jX at u;intro s;refine bF rfl rfl rfl ?_;have J:=St.clean s;generalize aT s=σ1 at J⊢;refine aD<|aE<|wu rfl<|aC<|aD<|aD<|aE<|wu rfl<|wu rfl ?_;obtain⟨r5,hr5,u⟩:=bs u;refine wcD (aBR hr5) rfl rfl (.cons rfl<|.cons rfl<|.cons rfl .nil)<|wu rfl<|wu rfl ?_;obtain⟨c6,hc6,u⟩:=bs u;refine aS 20 [(0,(.str s1)),(35,(.bool c6))] σ1 ?_<|fun e=> ?_
 ·refine aQ (t:=15) rfl (fun hc=> ?_)<|fun hc=> ?_
  ·replace hc6:=bQ hc hc6
   iterate 20 refine wu rfl ?_
   refine aC ?_;cases hc6;exact Kept.mk rfl<|.cons rfl<|.cons rfl .nil
  ·replace hc6:=bO hc hc6;refine wu rfl ?_;obtain⟨b7,hb7,hc6⟩:=bs hc6;refine aAp rfl rfl rfl hb7 ?_
   iterate 3 refine wu rfl ?_
   obtain⟨c8,hc8,hc6⟩:=bs hc6;refine aS 5 [(0,(.str s1)),(3,(.bool under4)),(15,(.bool false)),(25,(.bool c8))] σ1 ?_<|fun e=> ?_
   ·refine aQ (t:=20) rfl (fun hc=> ?_)<|fun hc=> ?_
    ·replace hc8:=bQ hc hc8;refine wu rfl ?_;obtain⟨b9,hb9,hc8⟩:=bs hc8;refine aAp rfl rfl rfl hb9 ?_;refine wu rfl<|wu rfl<|wu rfl<|aC ?_;cases hc8;exact Kept.mk rfl<|.cons rfl<|.cons rfl<|.cons rfl<|.cons rfl .nil
    ·replace hc8:=bO hc hc8;refine wu rfl<|wu rfl<|wu rfl<|wu rfl<|wu rfl<|aC ?_;cases hc8;exact Kept.mk rfl<|.cons rfl<|.cons rfl<|.cons rfl<|.cons rfl .nil
   ·refine wu rfl ?_;obtain⟨c10,h10,hc6⟩:=bs hc6;refine aS 7 [(0,(.str s1)),(15,(.bool false)),(33,(.bool c10))] σ1 ?_<|fun e=> ?_
    ·refine aQ (t:=26) rfl (fun hc=> ?_)<|fun hc=> ?_
     ·replace h10:=bQ hc h10;refine wu rfl<|wu rfl<|wu rfl<|wu rfl<|wu rfl<|wu rfl<|wu rfl<|aC ?_;cases h10;exact Kept.mk rfl<|.cons rfl<|.cons rfl<|.cons rfl .nil
     ·replace h10:=bO hc h10;refine wu rfl<|wu rfl ?_;obtain⟨c11,h11,h10⟩:=bs h10;refine aS 4 [(0,(.str s1)),(15,(.bool false)),(26,(.bool false)),(32,(.bool c11))] σ1 ?_<|fun e=> ?_
      ·refine aQ (t:=28) rfl (fun hc=> ?_)<|fun hc=> ?_
       ·replace h11:=bQ hc h11;refine wu rfl ?_;obtain⟨b12,h12,h11⟩:=bs h11;refine aAp rfl rfl rfl h12 ?_;refine wu rfl<|wu rfl<|aC ?_;cases h11;exact Kept.mk rfl<|.cons rfl<|.cons rfl<|.cons rfl<|.cons rfl .nil
       ·replace h11:=bO hc h11;refine wu rfl<|wu rfl<|wu rfl<|wu rfl<|aC ?_;cases h11;exact Kept.mk rfl<|.cons rfl<|.cons rfl<|.cons rfl<|.cons rfl .nil
      ·refine wu rfl<|aC ?_;cases h10;exact Kept.mk rfl<|.cons rfl<|.cons rfl<|.cons rfl .nil
    ·refine wu rfl<|wu rfl<|aC ?_;cases hc6;exact Kept.mk rfl<|.cons rfl<|.cons rfl .nil
 ·refine aC ?_;refine aI u rfl (fun hc u=> ?_)<|fun hc u=> ?_
  ·refine aD<|aE<|wu rfl<|aC<|aK ?_;cases u;exact⟨rfl,_,fun _=>rfl,bD rfl rfl rfl rfl J.ext⟩
  ·refine aO<|aD<|aD<|aE<|wu rfl<|aC<|bR ?_;obtain⟨o21,h21,u⟩:=bs u;refine gC (fun e=>tL _ _ _ h21 e s _ J) (.cons rfl<|.cons rfl .nil) ?_
   rintro _ _ _ hq
   rcases o21 with q22|q23
   ·obtain⟨rfl,hq⟩:=hq;cases u;exact hq
   ·obtain⟨rfl,e25,rfl,rfl⟩:=hq;refine aD<|aE<|wu rfl<|aC<|aK ?_;cases u;exact⟨rfl,_,fun _=>rfl,bD rfl rfl rfl rfl J.ext⟩
theorem zD{s1:Str}{l2:Int}{hi3:Int}{under4:Bool}{r:Bool}(h:jX s1 l2 hi3 under4=some r):Pf PP 29 [(.str s1),(.int .u8 l2),(.int .u8 hi3),(.bool under4)] (.bool r):=Pf.dB (yB s1 l2 hi3 under4 r h _) rfl (.cons ⟨rfl,rfl⟩<|.cons ⟨rfl,rfl⟩<|.cons ⟨rfl,rfl⟩<|.cons ⟨rfl,rfl⟩ .nil)
noncomputable def fO(s1:Str):Option Bool:=
 ((jX s1 (65) (90) false)>>=fun r2=>
 some r2)
theorem sV: ∀(s1:Str)(r:Bool),fO s1=some r→ ∀s:ASt,Fc PP (.func 16) [(.str s1)] s (cO s<|.bool r):=by
 intro s1 r u;unfold fO at u;intro s;refine bF rfl rfl rfl ?_;have J:=St.clean s;generalize aT s=σ1 at J⊢;refine aD<|aE<|wu rfl<|aC<|aD<|aE<|wu rfl ?_;obtain⟨r2,hr2,u⟩:=bs u;refine wcD (zD hr2) rfl rfl (.cons rfl<|.cons rfl<|.cons rfl<|.cons rfl .nil)<|wu rfl<|aC<|aK ?_;cases u;exact⟨rfl,_,fun _=>rfl,bD rfl rfl rfl rfl J.ext⟩
theorem nD{s1:Str}{r:Bool}(h:fO s1=some r):Pf PP 16 [(.str s1)] (.bool r):=Pf.dB (sV s1 r h _) rfl (.cons ⟨rfl,rfl⟩ .nil)
noncomputable def iR(a1:aA)(b2:aA):Option Bool:=
 ((if(Op.bytesLess a1.effect b2.effect)=true then some true
 else((if(a1.effect==b2.effect)=true then some (decide (a1.instance_<b2.instance_))
 else some false:Option Bool)>>=fun c4=>
 some c4):Option Bool)>>=fun c3=>
 some c3)
theorem aAq: ∀(a1:aA)(b2:aA)(r:Bool),iR a1 b2=some r→ ∀s:ASt,Fc PP (.func 28) [(aF a1),(aF b2)] s (cO s<|.bool r):=by
 intro a1 b2 r u;unfold iR at u;intro s;refine bF rfl rfl rfl ?_;have J:=St.clean s;generalize aT s=σ1 at J⊢;refine aD<|aE<|wu rfl<|wu rfl<|wu rfl<|aC<|aD<|aE<|wu rfl<|wu rfl<|wu rfl<|wu rfl<|wu rfl<|wu rfl ?_;obtain⟨c3,hc3,u⟩:=bs u;refine aS 13 [(23,(.bool c3))] σ1 ?_<|fun e=> ?_
 ·refine aQ (t:=10) rfl (fun hc=> ?_)<|fun hc=> ?_
  ·replace hc3:=bQ hc hc3;refine wu rfl<|wu rfl<|wu rfl<|wu rfl<|wu rfl<|wu rfl<|wu rfl<|wu rfl<|wu rfl<|wu rfl<|wu rfl<|wu rfl<|wu rfl<|aC ?_;cases hc3;exact Kept.mk rfl<|.cons rfl .nil
  ·replace hc3:=bO hc hc3
   iterate 6 refine wu rfl ?_
   obtain⟨c4,hc4,hc3⟩:=bs hc3;refine aS 6 [(10,(.bool false)),(22,(.bool c4))] σ1 ?_<|fun e=> ?_
   ·refine aQ (t:=16) rfl (fun hc=> ?_)<|fun hc=> ?_
    ·replace hc4:=bQ hc hc4;refine wu rfl<|wu rfl<|wu rfl<|wu rfl<|wu rfl<|wu rfl<|aC ?_;cases hc4;exact Kept.mk rfl<|.cons rfl<|.cons rfl .nil
    ·replace hc4:=bO hc hc4;refine wu rfl<|wu rfl<|wu rfl<|wu rfl<|wu rfl<|wu rfl<|aC ?_;cases hc4;exact Kept.mk rfl<|.cons rfl<|.cons rfl .nil
   ·refine wu rfl<|aC ?_;cases hc3;exact Kept.mk rfl<|.cons rfl .nil
 ·refine wu rfl<|aC<|aK ?_;cases u;exact⟨rfl,_,fun _=>rfl,bD rfl rfl rfl rfl J.ext⟩
theorem mV{a1:aA}{b2:aA}{r:Bool}(h:iR a1 b2=some r):Pf PP 28 [(aF a1),(aF b2)] (.bool r):=Pf.dB (aAq a1 b2 r h _) rfl (.cons (bH _)<|.cons (bH _) .nil)
noncomputable def dQ(v1:(List aA))(i2:Int):Option (Ctl Int Unit):=
 (if(decide (i2<(v1.length:Int)))=true then((idx v1 i2)>>=fun y3=>
 ((fO y3.effect)>>=fun r4=>
 (if(!r4)=true then some (.ret (4))
 else((idx v1 i2)>>=fun y5=>
 ((if(decide (y5.instance_<(0)))=true then some true
 else((idx v1 i2)>>=fun y7=>
 some (decide (y7.marker<(0)))):Option Bool)>>=fun c6=>
 (if c6=true then some (.ret (1))
 else((if(decide (i2>(0)))=true then((idx v1 i2)>>=fun y9=>
 ((idx v1 (IntKind.wrap .i64 (i2-(1))))>>=fun y10=>
 ((iR y9 y10)>>=fun r11=>
 ((if r11=true then some true
 else((idx v1 (IntKind.wrap .i64 (i2-(1))))>>=fun y13=>
 ((idx v1 i2)>>=fun y14=>
 ((iR y13 y14)>>=fun r15=>
 ((if(!r15)=true then((idx v1 i2)>>=fun y17=>
 ((idx v1 (IntKind.wrap .i64 (i2-(1))))>>=fun y18=>
 some (decide (y17.marker≥y18.marker))))
 else some false:Option Bool)>>=fun c16=>
 some c16)))):Option Bool)>>=fun c12=>
 some c12))))
 else some false:Option Bool)>>=fun c8=>
 (if c8=true then some (.ret (1))
 else dQ (nf v1) (IntKind.wrap .i64 (i2+(1)))))))))))
 else some (.nx ()))
 partial_fixpoint
abbrev mO(v1:(List aA))(i2:Int)(o:(Ctl Int Unit)):Prop:= ∀(e:Env)(s sv:ASt),St [] [] s sv [] []→Wk PP none Code.aEO ⟨gI e [(0,(slA 3<|v1.map aB)),(3,(.int .i64 i2))],[]⟩ sv (fun ex fr s'=>(match o with| .ret oq0=>ex= .ret∧u0 PP Code.c14 (VQ (.int .i64 oq0)<|Ext [] [] s) ex fr s'| .nx oq1=>ex= .exit 0∧ ∃(e:Env),fr=⟨gI e [],[]⟩∧sv=s'))
theorem rO: ∀(v1:(List aA))(i2:Int)(o:(Ctl Int Unit)),dQ v1 i2=some o→mO v1 i2 o:=by
 refine dQ.partial_correctness (mO) ?_;intro _f ih_r12_Check_l0 v1 i2 o u;intro e s sv J;refine fC<|aD<|aD<|aE<|wu rfl<|wu rfl<|gP (f:=aB) (l:=v1) rfl (.no _)<|wu rfl<|aC ?_;refine aI u rfl (fun hc u=> ?_)<|fun hc u=> ?_
 ·refine aO<|aD<|bR<|aD<|aD<|aE<|wu rfl<|wu rfl ?_;obtain⟨y3,hy3,u⟩:=bs u;refine fM (f:=aB) rfl (.no _) rfl hy3 rfl<|wu rfl<|wu rfl ?_;obtain⟨r4,hr4,u⟩:=bs u;refine wcD (nD hr4) rfl rfl (.cons rfl .nil)<|wu rfl<|aC ?_;refine aI u rfl (fun hc u=> ?_)<|fun hc u=> ?_
  ·refine aD<|aE<|wu rfl<|aC<|aK ?_;cases u;exact⟨rfl,⟨rfl,_,fun _=>rfl,bD rfl rfl rfl rfl J.ext⟩⟩
  ·refine aO<|aD<|aD<|aE<|wu rfl<|wu rfl ?_;obtain⟨y5,hy5,u⟩:=bs u;refine fM (f:=aB) rfl (.no _) rfl hy5 rfl<|wu rfl<|wu rfl<|wu rfl<|wu rfl ?_;obtain⟨c6,hc6,u⟩:=bs u;refine aS 7 [(0,(slA 3<|v1.map aB)),(3,(.int .i64 i2)),(33,(.bool c6))] sv ?_<|fun e=> ?_
   ·refine aQ (t:=26) rfl (fun hc=> ?_)<|fun hc=> ?_
    ·replace hc6:=bQ hc hc6;refine wu rfl<|wu rfl<|wu rfl<|wu rfl<|wu rfl<|wu rfl<|wu rfl<|aC ?_;cases hc6;exact Kept.mk rfl<|.cons rfl<|.cons rfl<|.cons rfl .nil
    ·replace hc6:=bO hc hc6;refine wu rfl<|wu rfl ?_;obtain⟨y7,hy7,hc6⟩:=bs hc6;refine fM (f:=aB) rfl (.no _) rfl hy7 rfl<|wu rfl<|wu rfl<|wu rfl<|wu rfl<|aC ?_;cases hc6;exact Kept.mk rfl<|.cons rfl<|.cons rfl<|.cons rfl .nil
   ·refine aC ?_;refine aI u rfl (fun hc u=> ?_)<|fun hc u=> ?_
    ·refine aD<|aE<|wu rfl<|aC<|aK ?_;cases u;exact⟨rfl,⟨rfl,_,fun _=>rfl,bD rfl rfl rfl rfl J.ext⟩⟩
    ·refine aO<|aD<|aE<|wu rfl<|wu rfl<|wu rfl ?_;obtain⟨c8,hc8,u⟩:=bs u;refine aS 38 [(0,(slA 3<|v1.map aB)),(3,(.int .i64 i2)),(74,(.bool c8))] sv ?_<|fun e=> ?_
     ·refine aQ (t:=36) rfl (fun hc=> ?_)<|fun hc=> ?_
      ·replace hc8:=bQ hc hc8;refine wu rfl<|wu rfl ?_;obtain⟨y9,hy9,hc8⟩:=bs hc8;refine fM (f:=aB) rfl (.no _) rfl hy9 rfl<|wu rfl<|wu rfl<|wu rfl<|wu rfl ?_;obtain⟨y10,h10,hc8⟩:=bs hc8;refine fM (f:=aB) rfl (.no _) rfl h10 rfl<|wu rfl ?_;obtain⟨r11,h11,hc8⟩:=bs hc8;refine wcD (mV h11) rfl rfl (.cons rfl<|.cons rfl .nil)<|wu rfl ?_;obtain⟨c12,h12,hc8⟩:=bs hc8;refine aS 26 [(0,(slA 3<|v1.map aB)),(3,(.int .i64 i2)),(36,(.bool true)),(73,(.bool c12))] sv ?_<|fun e=> ?_
       ·refine aQ (t:=47) rfl (fun hc=> ?_)<|fun hc=> ?_
        ·replace h12:=bQ hc h12
         iterate 26 refine wu rfl ?_
         refine aC ?_;cases h12;exact Kept.mk rfl<|.cons rfl<|.cons rfl<|.cons rfl<|.cons rfl .nil
        ·replace h12:=bO hc h12
         iterate 3 refine wu rfl ?_
         obtain⟨y13,h13,h12⟩:=bs h12;refine fM (f:=aB) rfl (.no _) rfl h13 rfl<|wu rfl<|wu rfl<|wu rfl ?_;obtain⟨y14,h14,h12⟩:=bs h12;refine fM (f:=aB) rfl (.no _) rfl h14 rfl<|wu rfl ?_;obtain⟨r15,h15,h12⟩:=bs h12;refine wcD (mV h15) rfl rfl (.cons rfl<|.cons rfl .nil)<|wu rfl<|wu rfl ?_;obtain⟨c16,h16,h12⟩:=bs h12;refine aS 13 [(0,(slA 3<|v1.map aB)),(3,(.int .i64 i2)),(36,(.bool true)),(47,(.bool false)),(72,(.bool c16))] sv ?_<|fun e=> ?_
         ·refine aQ (t:=59) rfl (fun hc=> ?_)<|fun hc=> ?_
          ·replace h16:=bQ hc h16;refine wu rfl<|wu rfl ?_;obtain⟨y17,h17,h16⟩:=bs h16;refine fM (f:=aB) rfl (.no _) rfl h17 rfl<|wu rfl<|wu rfl<|wu rfl<|wu rfl<|wu rfl ?_;obtain⟨y18,h18,h16⟩:=bs h16;refine fM (f:=aB) rfl (.no _) rfl h18 rfl<|wu rfl<|wu rfl<|wu rfl<|wu rfl<|aC ?_;cases h16;exact Kept.mk rfl<|.cons rfl<|.cons rfl<|.cons rfl<|.cons rfl<|.cons rfl .nil
          ·replace h16:=bO hc h16;refine wu rfl<|wu rfl<|wu rfl<|wu rfl<|wu rfl<|wu rfl<|wu rfl<|wu rfl<|wu rfl<|wu rfl<|wu rfl<|wu rfl<|wu rfl<|aC ?_;cases h16;exact Kept.mk rfl<|.cons rfl<|.cons rfl<|.cons rfl<|.cons rfl<|.cons rfl .nil
         ·refine wu rfl<|aC ?_;cases h12;exact Kept.mk rfl<|.cons rfl<|.cons rfl<|.cons rfl<|.cons rfl .nil
       ·refine wu rfl<|aC ?_;cases hc8;exact Kept.mk rfl<|.cons rfl<|.cons rfl<|.cons rfl .nil
      ·replace hc8:=bO hc hc8
       iterate 38 refine wu rfl ?_
       refine aC ?_;cases hc8;exact Kept.mk rfl<|.cons rfl<|.cons rfl<|.cons rfl .nil
     ·refine aC ?_;refine aI u rfl (fun hc u=> ?_)<|fun hc u=> ?_
      ·refine aD<|aE<|wu rfl<|aC<|aK ?_;cases u;exact⟨rfl,⟨rfl,_,fun _=>rfl,bD rfl rfl rfl rfl J.ext⟩⟩
      ·refine aO<|aE<|wu rfl<|wu rfl<|wu rfl<|aC ?_;exact gC (fun e=>ih_r12_Check_l0 _ _ _ u e s _ J) (.cons rfl<|.cons rfl .nil)<|fun _ _ _ h=>h
 ·refine iK ?_;cases u;exact⟨rfl,_,frE .nil,rfl⟩
noncomputable def fE(v1:(List aA)):Option Int:=
 (if(decide ((v1.length:Int)>(200)))=true then some (3)
 else((dQ v1 (0))>>=fun o19=>
 (match o19 with
 | .ret q20=>some q20
 | .nx q21=>some (0))))
theorem wX: ∀(v1:(List aA))(r:Int),fE v1=some r→ ∀s:ASt,Fc PP (.func 14) [(slA 3<|v1.map aB)] s (cO s<|.int .i64 r):=by
 intro v1 r u;unfold fE at u;intro s;refine bF rfl rfl rfl ?_;have J:=St.clean s;generalize aT s=σ1 at J⊢;refine aD<|aE<|wu rfl<|aC<|aD<|aD<|aE<|wu rfl<|gP (f:=aB) (l:=v1) rfl (.no _)<|wu rfl<|aC ?_;refine aI u rfl (fun hc u=> ?_)<|fun hc u=> ?_
 ·refine aD<|aE<|wu rfl<|aC<|aK ?_;cases u;exact⟨rfl,_,fun _=>rfl,bD rfl rfl rfl rfl J.ext⟩
 ·refine aO<|aD<|aD<|aE<|wu rfl<|aC<|bR ?_;obtain⟨o19,h19,u⟩:=bs u;refine gC (fun e=>rO _ _ _ h19 e s _ J) (.cons rfl<|.cons rfl .nil) ?_
  rintro _ _ _ hq
  rcases o19 with q20|q21
  ·obtain⟨rfl,hq⟩:=hq;cases u;exact hq
  ·obtain⟨rfl,e23,rfl,rfl⟩:=hq;refine aD<|aE<|wu rfl<|aC<|aK ?_;cases u;exact⟨rfl,_,fun _=>rfl,bD rfl rfl rfl rfl J.ext⟩
theorem gO{v1:(List aA)}{r:Int}(h:fE v1=some r):Pf PP 14 [(slA 3<|v1.map aB)] (.int .i64 r):=Pf.dB (wX v1 r h _) rfl (.cons (dZ<|bG aM _) .nil)
noncomputable def gM(v1:(List aA))(e2:Str)(instance3:Int)(i4:Int):Option (Ctl Int Unit):=
 (if(decide (i4<(v1.length:Int)))=true then((idx v1 i4)>>=fun y5=>
 ((if(y5.effect==e2)=true then((idx v1 i4)>>=fun y7=>
 some (y7.instance_==instance3))
 else some false:Option Bool)>>=fun c6=>
 (if c6=true then some (.ret i4)
 else gM (nf v1) (nf e2) (nf instance3) (IntKind.wrap .i64 (i4+(1))))))
 else some (.nx ()))
 partial_fixpoint
abbrev n9(v1:(List aA))(e2:Str)(instance3:Int)(i4:Int)(o:(Ctl Int Unit)):Prop:= ∀(e:Env)(s sv:ASt),St [] [] s sv [] []→Wk PP none Code.aEI ⟨gI e [(0,(slA 3<|v1.map aB)),(1,(.str e2)),(2,(.int .i64 instance3)),(7,(.int .i64 i4))],[]⟩ sv (fun ex fr s'=>(match o with| .ret oq0=>ex= .ret∧u0 PP Code.c24 (VQ (.int .i64 oq0)<|Ext [] [] s) ex fr s'| .nx oq1=>ex= .exit 0∧ ∃(e:Env),fr=⟨gI e [],[]⟩∧sv=s'))
theorem sU: ∀(v1:(List aA))(e2:Str)(instance3:Int)(i4:Int)(o:(Ctl Int Unit)),gM v1 e2 instance3 i4=some o→n9 v1 e2 instance3 i4 o:=by
 refine gM.partial_correctness (n9) ?_;intro _f ih_r12_find_l0 v1 e2 instance3 i4 o u;intro e s sv J;refine fC<|aD<|aD<|aE<|wu rfl<|wu rfl<|gP (f:=aB) (l:=v1) rfl (.no _)<|wu rfl<|aC ?_;refine aI u rfl (fun hc u=> ?_)<|fun hc u=> ?_
 ·refine aO<|aD<|bR<|aD<|aE<|wu rfl<|wu rfl ?_;obtain⟨y5,hy5,u⟩:=bs u;refine fM (f:=aB) rfl (.no _) rfl hy5 rfl<|wu rfl<|wu rfl<|wu rfl<|wu rfl<|wu rfl ?_;obtain⟨c6,hc6,u⟩:=bs u;refine aS 8 [(0,(slA 3<|v1.map aB)),(1,(.str e2)),(2,(.int .i64 instance3)),(7,(.int .i64 i4)),(29,(.bool c6))] sv ?_<|fun e=> ?_
  ·refine aQ (t:=21) rfl (fun hc=> ?_)<|fun hc=> ?_
   ·replace hc6:=bQ hc hc6;refine wu rfl<|wu rfl ?_;obtain⟨y7,hy7,hc6⟩:=bs hc6;refine fM (f:=aB) rfl (.no _) rfl hy7 rfl<|wu rfl<|wu rfl<|wu rfl<|wu rfl<|wu rfl<|aC ?_;cases hc6;exact Kept.mk rfl<|.cons rfl<|.cons rfl<|.cons rfl<|.cons rfl<|.cons rfl .nil
   ·replace hc6:=bO hc hc6;refine wu rfl<|wu rfl<|wu rfl<|wu rfl<|wu rfl<|wu rfl<|wu rfl<|wu rfl<|aC ?_;cases hc6;exact Kept.mk rfl<|.cons rfl<|.cons rfl<|.cons rfl<|.cons rfl<|.cons rfl .nil
  ·refine aC ?_;refine aI u rfl (fun hc u=> ?_)<|fun hc u=> ?_
   ·refine aD<|aE<|wu rfl<|wu rfl<|aC<|aK ?_;cases u;exact⟨rfl,⟨rfl,_,fun _=>rfl,bD rfl rfl rfl rfl J.ext⟩⟩
   ·refine aO<|aE<|wu rfl<|wu rfl<|wu rfl<|aC ?_;exact gC (fun e=>ih_r12_find_l0 _ _ _ _ _ u e s _ J) (.cons rfl<|.cons rfl<|.cons rfl<|.cons rfl .nil)<|fun _ _ _ h=>h
 ·refine iK ?_;cases u;exact⟨rfl,_,frE .nil,rfl⟩
noncomputable def jT(v1:(List aA))(e2:Str)(instance3:Int):Option Int:=
 ((gM v1 e2 instance3 (0))>>=fun o8=>
 (match o8 with
 | .ret q9=>some q9
 | .nx q10=>some (-1)))
theorem z3: ∀(v1:(List aA))(e2:Str)(instance3:Int)(r:Int),jT v1 e2 instance3=some r→ ∀s:ASt,Fc PP (.func 24) [(slA 3<|v1.map aB),(.str e2),(.int .i64 instance3)] s (cO s<|.int .i64 r):=by
 intro v1 e2 instance3 r u;unfold jT at u;intro s;refine bF rfl rfl rfl ?_;have J:=St.clean s;generalize aT s=σ1 at J⊢;refine aD<|aE<|wu rfl<|aC<|aD<|aD<|aE<|wu rfl<|aC<|bR ?_;obtain⟨o8,ho8,u⟩:=bs u;refine gC (fun e=>sU _ _ _ _ _ ho8 e s _ J) (.cons rfl<|.cons rfl<|.cons rfl<|.cons rfl .nil) ?_
 rintro _ _ _ hq
 rcases o8 with q9|q10
 ·obtain⟨rfl,hq⟩:=hq;cases u;exact hq
 ·obtain⟨rfl,e12,rfl,rfl⟩:=hq;refine aD<|aE<|wu rfl<|aC<|aK ?_;cases u;exact⟨rfl,_,fun _=>rfl,bD rfl rfl rfl rfl J.ext⟩
theorem rI{v1:(List aA)}{e2:Str}{instance3:Int}{r:Int}(h:jT v1 e2 instance3=some r):Pf PP 24 [(slA 3<|v1.map aB),(.str e2),(.int .i64 instance3)] (.int .i64 r):=Pf.dB (z3 v1 e2 instance3 r h _) rfl (.cons (dZ<|bG aM _)<|.cons ⟨rfl,rfl⟩<|.cons ⟨rfl,rfl⟩ .nil)
noncomputable def lD(v1:(List aA))(e2:Str)(instance3:Int):Option (aA×Int):=
 ((fE v1)>>=fun r6=>
 (if(r6 !=(0))=true then some ((aA.mk ((aA.mk ([]:Str) (0) (0)).effect) ((aA.mk ([]:Str) (0) (0)).instance_) ((aA.mk ([]:Str) (0) (0)).marker)),r6)
 else((jT v1 e2 instance3)>>=fun r8=>
 (if(decide (r8<(0)))=true then some ((aA.mk ((aA.mk ([]:Str) (0) (0)).effect) ((aA.mk ([]:Str) (0) (0)).instance_) ((aA.mk ([]:Str) (0) (0)).marker)),(6))
 else((idx v1 r8)>>=fun y10=>
 some (y10,(0)))))))
theorem zS: ∀(v1:(List aA))(e2:Str)(instance3:Int)(r:(aA×Int)),lD v1 e2 instance3=some r→ ∀s:ASt,Fc PP (.func 12) [(slA 3<|v1.map aB),(.str e2),(.int .i64 instance3)] s (cO s<|.tuple [(aF r.1),(.int .i64 r.2)]):=by
 intro v1 e2 instance3 r u;unfold lD at u;intro s;refine bF rfl rfl rfl ?_;have J:=St.clean s;generalize aT s=σ1 at J⊢;refine aD<|aE ?_;refine p5 rfl J rfl<|fun β4 σ5 J=> ?_;refine wu rfl<|aC<|aD<|aD<|aE<|wu rfl ?_;obtain⟨r6,hr6,u⟩:=bs u;refine wcD (gO hr6) rfl rfl (.cons rfl .nil)<|wu rfl<|aC<|aD<|aE<|wu rfl<|wu rfl<|aC ?_;refine aI u rfl (fun hc u=> ?_)<|fun hc u=> ?_
 ·refine aD<|aE ?_;refine wgv (v:=(aF<|aA.mk ([]:Str) (0)<|0)) rfl rfl (by kernel_rfl) ?_;refine wu rfl ?_;refine gQ (ds':= [(.str (aA.mk ([]:Str) (0)<|0).effect),(.int .i64 (aA.mk ([]:Str) (0)<|0).instance_),(.int .i64 (aA.mk ([]:Str) (0)<|0).marker)]) (cs':= [(.str (aA.mk ([]:Str) (0)<|0).effect),(.int .i64 (aA.mk ([]:Str) (0)<|0).instance_),(.int .i64 (aA.mk ([]:Str) (0)<|0).marker)]) 0 rfl J rfl rfl rfl rfl rfl (Nat.le_of_ble_eq_true rfl) (.cons (tkN rfl)<|.cons (tkN rfl)<|.cons (tkN rfl) .nil) (by kernel_rfl)<|fun σ7 J=> ?_;refine wu rfl<|aC<|aK ?_;cases u;exact⟨rfl,_,fun _=>rfl,eX (pC.eq<|.cons (jE (us:= [(.str (aA.mk ([]:Str) (0)<|0).effect),(.int .i64 (aA.mk ([]:Str) (0)<|0).instance_),(.int .i64 (aA.mk ([]:Str) (0)<|0).marker)]) J 0 rfl rfl (Nat.le_of_ble_eq_true rfl) rfl<|.cons rfl<|.cons rfl<|.cons rfl .nil)<|.cons rfl .nil) (.cons rfl<|.cons rfl .nil) J.ext⟩
 ·refine aO<|aD<|aE<|wu rfl<|wu rfl<|wu rfl ?_;obtain⟨r8,hr8,u⟩:=bs u;refine wcD (rI hr8) rfl rfl (.cons rfl<|.cons rfl<|.cons rfl .nil)<|wu rfl<|aC<|aD<|aD<|aE<|wu rfl<|wu rfl<|aC ?_;refine aI u rfl (fun hc u=> ?_)<|fun hc u=> ?_
  ·refine aD<|aE ?_;refine wgv (v:=(aF<|aA.mk ([]:Str) (0)<|0)) rfl rfl (by kernel_rfl) ?_;refine gQ (ds':= [(.str (aA.mk ([]:Str) (0)<|0).effect),(.int .i64 (aA.mk ([]:Str) (0)<|0).instance_),(.int .i64 (aA.mk ([]:Str) (0)<|0).marker)]) (cs':= [(.str (aA.mk ([]:Str) (0)<|0).effect),(.int .i64 (aA.mk ([]:Str) (0)<|0).instance_),(.int .i64 (aA.mk ([]:Str) (0)<|0).marker)]) 0 rfl J rfl rfl rfl rfl rfl (Nat.le_of_ble_eq_true rfl) (.cons (tkN rfl)<|.cons (tkN rfl)<|.cons (tkN rfl) .nil) (by kernel_rfl)<|fun σ9 J=> ?_;refine wu rfl<|aC<|aK ?_;cases u;exact⟨rfl,_,fun _=>rfl,eX (pC.eq<|.cons (jE (us:= [(.str (aA.mk ([]:Str) (0)<|0).effect),(.int .i64 (aA.mk ([]:Str) (0)<|0).instance_),(.int .i64 (aA.mk ([]:Str) (0)<|0).marker)]) J 0 rfl rfl (Nat.le_of_ble_eq_true rfl) rfl<|.cons rfl<|.cons rfl<|.cons rfl .nil)<|.cons rfl .nil) (.cons rfl<|.cons rfl .nil) J.ext⟩
  ·refine aO<|aD<|aE<|wu rfl<|wu rfl ?_;obtain⟨y10,h10,u⟩:=bs u;refine fM (f:=aB) rfl (.no _) rfl h10 rfl<|wu rfl ?_;refine gQ (ds':= [(.str y10.effect),(.int .i64 y10.instance_),(.int .i64 y10.marker)]) (cs':= [(.str y10.effect),(.int .i64 y10.instance_),(.int .i64 y10.marker)]) 0 rfl J rfl rfl rfl rfl rfl (Nat.le_of_ble_eq_true rfl) (.cons (tkN rfl)<|.cons (tkN rfl)<|.cons (tkN rfl) .nil) (by kernel_rfl)<|fun σ11 J=> ?_;refine wu rfl<|aC<|aK ?_;cases u;exact⟨rfl,_,fun _=>rfl,eX (pC.eq<|.cons (jE (us:= [(.str y10.effect),(.int .i64 y10.instance_),(.int .i64 y10.marker)]) J 0 rfl rfl (Nat.le_of_ble_eq_true rfl) rfl<|.cons rfl<|.cons rfl<|.cons rfl .nil)<|.cons rfl .nil) (.cons rfl<|.cons rfl .nil) J.ext⟩
theorem aAo{v1:(List aA)}{e2:Str}{instance3:Int}{r:(aA×Int)}(h:lD v1 e2 instance3=some r):Pf PP 12 [(slA 3<|v1.map aB),(.str e2),(.int .i64 instance3)] (.tuple [(aF r.1),(.int .i64 r.2)]):=Pf.dB (zS v1 e2 instance3 r h _) (oV<|.cons (bH _).2<|.cons rfl<|.nil) (.cons (dZ<|bG aM _)<|.cons ⟨rfl,rfl⟩<|.cons ⟨rfl,rfl⟩ .nil)
noncomputable def cI(v1:(List aA))(x2:aA)(at3:Int):Option Int:=
 ((if(decide (at3<(v1.length:Int)))=true then((idx v1 at3)>>=fun y5=>
 ((iR y5 x2)>>=fun r6=>
 some r6))
 else some false:Option Bool)>>=fun c4=>
 (if c4=true then cI (nf v1) (nf x2) (IntKind.wrap .i64 (at3+(1)))
 else some at3))
 partial_fixpoint
abbrev j8(v1:(List aA))(x2:aA)(at3:Int)(o:Int):Prop:= ∀(e:Env)(s sv:ASt),St [] [] s sv [] []→Wk PP none Code.aEN ⟨gI e [(0,(slA 3<|v1.map aB)),(3,(.aX (aF x2) 0)),(5,(.int .i64 at3))],[]⟩ sv (fun ex fr s'=>ex= .exit 0∧ ∃(e:Env),fr=⟨gI e [(0,(slA 3<|v1.map aB)),(3,(.aX (aF x2) 0)),(5,(.int .i64 o))],[]⟩∧sv=s')
theorem oP: ∀(v1:(List aA))(x2:aA)(at3:Int)(o:Int),cI v1 x2 at3=some o→j8 v1 x2 at3 o:=by
 refine cI.partial_correctness (j8) ?_;intro _f ih_r12_InsertOf_l0 v1 x2 at3 o u;intro e s sv J;refine fC<|aD<|aD<|aE<|wu rfl<|wu rfl<|gP (f:=aB) (l:=v1) rfl (.no _)<|wu rfl<|wu rfl ?_;obtain⟨c4,hc4,u⟩:=bs u;refine aS 7 [(0,(slA 3<|v1.map aB)),(3,(.aX (aF x2) 0)),(5,(.int .i64 at3)),(17,(.bool c4))] sv ?_<|fun e=> ?_
 ·refine aQ (t:=10) rfl (fun hc=> ?_)<|fun hc=> ?_
  ·replace hc4:=bQ hc hc4;refine wu rfl<|wu rfl ?_;obtain⟨y5,hy5,hc4⟩:=bs hc4;refine fM (f:=aB) rfl (.no _) rfl hy5 rfl<|wu rfl<|wu rfl ?_;obtain⟨r6,hr6,hc4⟩:=bs hc4;refine wcD (mV hr6) rfl rfl (.cons rfl<|.cons rfl .nil)<|wu rfl<|aC ?_;cases hc4;exact Kept.mk rfl<|.cons rfl<|.cons rfl<|.cons rfl<|.cons rfl .nil
  ·replace hc4:=bO hc hc4;refine wu rfl<|wu rfl<|wu rfl<|wu rfl<|wu rfl<|wu rfl<|wu rfl<|aC ?_;cases hc4;exact Kept.mk rfl<|.cons rfl<|.cons rfl<|.cons rfl<|.cons rfl .nil
 ·refine aC ?_;refine aI u rfl (fun hc u=> ?_)<|fun hc u=> ?_
  ·refine aO<|bR<|aE<|wu rfl<|wu rfl<|wu rfl<|aC ?_;exact gC (fun e=>ih_r12_InsertOf_l0 _ _ _ _ u e s _ J) (.cons rfl<|.cons rfl<|.cons rfl .nil)<|fun _ _ _ h=>h
  ·refine iK ?_;cases u;exact⟨rfl,_,frE<|.cons rfl<|.cons rfl<|.cons rfl .nil,rfl⟩
noncomputable def fT(v1:(List aA))(x2:aA):Option (List aA):=
 ((cI v1 x2 (0))>>=fun o7=>
 ((cut v1 (0) o7)>>=fun l10=>
 ((app 32 ([]:(List aA)) l10)>>=fun l11=>
 ((app 32 l11 [x2])>>=fun l13=>
 ((cut v1 o7 (v1.length:Int))>>=fun l15=>
 ((app 32 l13 l15)>>=fun l16=>
 some l16))))))
theorem rP: ∀(v1:(List aA))(x2:aA)(r:(List aA)),fT v1 x2=some r→ ∀s:ASt,Fc PP (.func 19) [(slA 3<|v1.map aB),(aF x2)] s (cO s<|slA 3<|r.map aB):=by
 intro v1 x2 r u;unfold fT at u;intro s;refine bF rfl rfl rfl ?_;have J:=St.clean s;generalize aT s=σ1 at J⊢;refine aD<|aE<|wu rfl<|wu rfl<|aC<|aD<|aE<|wu rfl<|aC<|aD<|bR ?_;obtain⟨o7,ho7,u⟩:=bs u;refine gC (fun e=>oP _ _ _ _ ho7 e s _ J) (.cons rfl<|.cons rfl<|.cons rfl .nil) ?_
 rintro _ _ _ hq
 obtain⟨rfl,e9,rfl,rfl⟩:=hq;refine aD<|aE<|aAF (w:=(.slice 3 (([]:(List aA)).map aB) .full)) rfl rfl rfl<|wu rfl<|wu rfl ?_;obtain⟨l10,h10,u⟩:=bs u;refine sE (f:=aB) (lo':=(0)) (hi':=o7) rfl (.no _) (.inl ⟨rfl,rfl⟩) (.inr ⟨_,rfl⟩) (by rfl) h10 ?_;obtain⟨l11,h11,u⟩:=bs u;have J:=J.nil 3 3;refine qM (f:=aB) (xs:=([]:(List aA))) (ys:=l10) rfl J rfl (.no _) h11 (by decide)<|fun w11 σ12 J=> ?_;refine wu rfl ?_;refine pL (f:=aB) (l:= [x2]) rfl (.cons rfl .nil) rfl nC rfl rfl (by decide) ?_;obtain⟨l13,h13,u⟩:=bs u;refine qM (f:=aB) (xs:=l11) (ys:= [x2]) rfl J rfl (.full<|.inl rfl) h13 (by decide)<|fun w13 σ14 J=> ?_;refine wu rfl<|wu rfl ?_;obtain⟨l15,h15,u⟩:=bs u;refine sE (f:=aB) (lo':=o7) (hi':=(v1.length:Int)) rfl (.no _) (.inr ⟨_,rfl⟩) (.inl ⟨rfl,rfl⟩) (by rfl) h15 ?_;obtain⟨l16,h16,u⟩:=bs u;refine qM (f:=aB) (xs:=l13) (ys:=l15) rfl J rfl (.no _) h16 (by decide)<|fun w16 σ17 J=> ?_;refine wv rfl<|aC<|aK ?_;cases u;exact⟨rfl,_,fun _=>rfl,aAD rfl (J.slG 0 rfl) J.ext⟩
theorem rN{v1:(List aA)}{x2:aA}{r:(List aA)}(h:fT v1 x2=some r):Pf PP 19 [(slA 3<|v1.map aB),(aF x2)] (slA 3<|r.map aB):=Pf.dB (rP v1 x2 r h _) (kJ aM _) (.cons (dZ<|bG aM _)<|.cons (bH _) .nil)
noncomputable def hN(v1:(List aA))(x2:aA):Option ((List aA)×Int):=
 ((fE v1)>>=fun r3=>
 (if(r3 !=(0))=true then some (([]:(List aA)),r3)
 else((fT v1 x2)>>=fun r4=>
 ((fE r4)>>=fun r5=>
 (if(r5 !=(0))=true then some (([]:(List aA)),r5)
 else some (r4,(0)))))))
theorem u6: ∀(v1:(List aA))(x2:aA)(r:((List aA)×Int)),hN v1 x2=some r→ ∀s:ASt,Fc PP (.func 8) [(slA 3<|v1.map aB),(aF x2)] s (cO s<|.tuple [(slA 3<|r.1.map aB),(.int .i64 r.2)]):=by
 intro v1 x2 r u;unfold hN at u;intro s;refine bF rfl rfl rfl ?_;have J:=St.clean s;generalize aT s=σ1 at J⊢;refine aD<|aE<|wu rfl<|wu rfl<|wu rfl<|aC<|aD<|aD<|aE<|wu rfl ?_;obtain⟨r3,hr3,u⟩:=bs u;refine wcD (gO hr3) rfl rfl (.cons rfl .nil)<|wu rfl<|aC<|aD<|aE<|wu rfl<|wu rfl<|aC ?_;refine aI u rfl (fun hc u=> ?_)<|fun hc u=> ?_
 ·refine aD<|aE<|wu rfl<|wu rfl<|wu rfl<|aC<|aK ?_;cases u;exact⟨rfl,_,fun _=>rfl,eX rfl (.cons rfl<|.cons rfl .nil) J.ext⟩
 ·refine aO<|aD<|aE<|wu rfl<|wu rfl ?_;obtain⟨r4,hr4,u⟩:=bs u;refine wcD (rN hr4) rfl rfl (.cons rfl<|.cons rfl .nil)<|wu rfl<|aC<|aD<|aD<|aE<|wu rfl ?_;obtain⟨r5,hr5,u⟩:=bs u;refine wcD (gO hr5) rfl rfl (.cons rfl .nil)<|wu rfl<|aC<|aD<|aE<|wu rfl<|wu rfl<|aC ?_;refine aI u rfl (fun hc u=> ?_)<|fun hc u=> ?_
  ·refine aD<|aE<|wu rfl<|wu rfl<|wu rfl<|aC<|aK ?_;cases u;exact⟨rfl,_,fun _=>rfl,eX rfl (.cons rfl<|.cons rfl .nil) J.ext⟩
  ·refine aO<|aD<|aE<|wu rfl<|wu rfl<|wu rfl<|aC<|aK ?_;cases u;exact⟨rfl,_,fun _=>rfl,eX rfl (.cons rfl<|.cons rfl .nil) J.ext⟩
theorem u7{v1:(List aA)}{x2:aA}{r:((List aA)×Int)}(h:hN v1 x2=some r):Pf PP 8 [(slA 3<|v1.map aB),(aF x2)] (.tuple [(slA 3<|r.1.map aB),(.int .i64 r.2)]):=Pf.dB (u6 v1 x2 r h _) (oV<|.cons (kJ aM _)<|.cons rfl<|.nil) (.cons (dZ<|bG aM _)<|.cons (bH _) .nil)
noncomputable def fS(v1:(List aA))(e2:Str):Option (List aA):=
 ((jT v1 e2 (0))>>=fun r3=>
 (if(decide (r3<(0)))=true then((app 32 ([]:(List aA)) v1)>>=fun l4=>
 some l4)
 else((cut v1 (0) r3)>>=fun l6=>
 ((app 32 ([]:(List aA)) l6)>>=fun l7=>
 ((cut v1 (IntKind.wrap .i64 (r3+(1))) (v1.length:Int))>>=fun l9=>
 ((app 32 l7 l9)>>=fun l10=>
 some l10))))))
theorem rS: ∀(v1:(List aA))(e2:Str)(r:(List aA)),fS v1 e2=some r→ ∀s:ASt,Fc PP (.func 22) [(slA 3<|v1.map aB),(.str e2)] s (cO s<|slA 3<|r.map aB):=by
 intro v1 e2 r u;unfold fS at u;intro s;refine bF rfl rfl rfl ?_;have J:=St.clean s;generalize aT s=σ1 at J⊢;refine aD<|aE<|wu rfl<|aC<|aD<|aE<|wu rfl<|wu rfl ?_;obtain⟨r3,hr3,u⟩:=bs u;refine wcD (rI hr3) rfl rfl (.cons rfl<|.cons rfl<|.cons rfl .nil)<|wu rfl<|aC<|aD<|aD<|aE<|wu rfl<|wu rfl<|aC ?_;refine aI u rfl (fun hc u=> ?_)<|fun hc u=> ?_
 ·refine aD<|aE<|aAF (w:=(.slice 3 (([]:(List aA)).map aB) .full)) rfl rfl rfl<|wu rfl ?_;obtain⟨l4,hl4,u⟩:=bs u;have J:=J.nil 3 3;refine qM (f:=aB) (xs:=([]:(List aA))) (ys:=v1) rfl J rfl (.no _) hl4 (by decide)<|fun wl4 σ5 J=> ?_;refine wv rfl<|aC<|aK ?_;cases u;exact⟨rfl,_,fun _=>rfl,aAD rfl (J.slG 0 rfl) J.ext⟩
 ·refine aO<|aD<|aE<|aAF (w:=(.slice 3 (([]:(List aA)).map aB) .full)) rfl rfl rfl<|wu rfl<|wu rfl ?_;obtain⟨l6,hl6,u⟩:=bs u;refine sE (f:=aB) (lo':=(0)) (hi':=r3) rfl (.no _) (.inl ⟨rfl,rfl⟩) (.inr ⟨_,rfl⟩) (by rfl) hl6 ?_;obtain⟨l7,hl7,u⟩:=bs u;have J:=J.nil 3 3;refine qM (f:=aB) (xs:=([]:(List aA))) (ys:=l6) rfl J rfl (.no _) hl7 (by decide)<|fun wl7 σ8 J=> ?_
  iterate 3 refine wu rfl ?_
  obtain⟨l9,hl9,u⟩:=bs u;refine sE (f:=aB) (lo':=(IntKind.wrap .i64<|r3+(1))) (hi':=(v1.length:Int)) rfl (.no _) (.inr ⟨_,rfl⟩) (.inl ⟨rfl,rfl⟩) (by rfl) hl9 ?_;obtain⟨l10,h10,u⟩:=bs u;refine qM (f:=aB) (xs:=l7) (ys:=l9) rfl J rfl (.no _) h10 (by decide)<|fun w10 σ11 J=> ?_;refine wv rfl<|aC<|aK ?_;cases u;exact⟨rfl,_,fun _=>rfl,aAD rfl (J.slG 0 rfl) J.ext⟩
theorem rV{v1:(List aA)}{e2:Str}{r:(List aA)}(h:fS v1 e2=some r):Pf PP 22 [(slA 3<|v1.map aB),(.str e2)] (slA 3<|r.map aB):=Pf.dB (rS v1 e2 r h _) (kJ aM _) (.cons (dZ<|bG aM _)<|.cons ⟨rfl,rfl⟩ .nil)
noncomputable def iE(v1:(List aA))(e2:Str):Option ((List aA)×Int):=
 ((fE v1)>>=fun r3=>
 (if(r3 !=(0))=true then some (([]:(List aA)),r3)
 else((fO e2)>>=fun r4=>
 (if(!r4)=true then some (([]:(List aA)),(4))
 else((fS v1 e2)>>=fun r5=>
 some (r5,(0)))))))
theorem uZ: ∀(v1:(List aA))(e2:Str)(r:((List aA)×Int)),iE v1 e2=some r→ ∀s:ASt,Fc PP (.func 10) [(slA 3<|v1.map aB),(.str e2)] s (cO s<|.tuple [(slA 3<|r.1.map aB),(.int .i64 r.2)]):=by
 intro v1 e2 r u;unfold iE at u;intro s;refine bF rfl rfl rfl ?_;have J:=St.clean s;generalize aT s=σ1 at J⊢;refine aD<|aE<|wu rfl<|wu rfl<|aC<|aD<|aD<|aE<|wu rfl ?_;obtain⟨r3,hr3,u⟩:=bs u;refine wcD (gO hr3) rfl rfl (.cons rfl .nil)<|wu rfl<|aC<|aD<|aE<|wu rfl<|wu rfl<|aC ?_;refine aI u rfl (fun hc u=> ?_)<|fun hc u=> ?_
 ·refine aD<|aE<|wu rfl<|wu rfl<|wu rfl<|aC<|aK ?_;cases u;exact⟨rfl,_,fun _=>rfl,eX rfl (.cons rfl<|.cons rfl .nil) J.ext⟩
 ·refine aO<|aD<|aD<|aE<|wu rfl ?_;obtain⟨r4,hr4,u⟩:=bs u;refine wcD (nD hr4) rfl rfl (.cons rfl .nil)<|wu rfl<|aC ?_;refine aI u rfl (fun hc u=> ?_)<|fun hc u=> ?_
  ·refine aD<|aE<|wu rfl<|wu rfl<|aC<|aK ?_;cases u;exact⟨rfl,_,fun _=>rfl,eX rfl (.cons rfl<|.cons rfl .nil) J.ext⟩
  ·refine aO<|aD<|aE<|wu rfl<|wu rfl ?_;obtain⟨r5,hr5,u⟩:=bs u;refine wcD (rV hr5) rfl rfl (.cons rfl<|.cons rfl .nil)<|wu rfl<|wu rfl<|aC<|aK ?_;cases u;exact⟨rfl,_,fun _=>rfl,eX rfl (.cons rfl<|.cons rfl .nil) J.ext⟩
theorem uR{v1:(List aA)}{e2:Str}{r:((List aA)×Int)}(h:iE v1 e2=some r):Pf PP 10 [(slA 3<|v1.map aB),(.str e2)] (.tuple [(slA 3<|r.1.map aB),(.int .i64 r.2)]):=Pf.dB (uZ v1 e2 r h _) (oV<|.cons (kJ aM _)<|.cons rfl<|.nil) (.cons (dZ<|bG aM _)<|.cons ⟨rfl,rfl⟩ .nil)
noncomputable def bY(v1:(List aA))(i2:Int):Option (Ctl Bool Unit):=
 (if(decide (i2<(v1.length:Int)))=true then((idx v1 i2)>>=fun y3=>
 (if(decide ((y3.effect.length:Int)>(100)))=true then some (.ret true)
 else bY (nf v1) (IntKind.wrap .i64 (i2+(1)))))
 else some (.nx ()))
 partial_fixpoint
abbrev mK(v1:(List aA))(i2:Int)(o:(Ctl Bool Unit)):Prop:= ∀(e:Env)(s sv:ASt),St [] [] s sv [] []→Wk PP none Code.aFJ ⟨gI e [(0,(slA 3<|v1.map aB)),(3,(.int .i64 i2))],[]⟩ sv (fun ex fr s'=>(match o with| .ret oq0=>ex= .ret∧u0 PP Code.c5 (VQ (.bool oq0)<|Ext [] [] s) ex fr s'| .nx oq1=>ex= .exit 0∧ ∃(e:Env),fr=⟨gI e [],[]⟩∧sv=s'))
theorem rR: ∀(v1:(List aA))(i2:Int)(o:(Ctl Bool Unit)),bY v1 i2=some o→mK v1 i2 o:=by
 refine bY.partial_correctness (mK) ?_;intro _f ih_w12_Great_l0 v1 i2 o u;intro e s sv J;refine fC<|aD<|aD<|aE<|wu rfl<|wu rfl<|gP (f:=aB) (l:=v1) rfl (.no _)<|wu rfl<|aC ?_;refine aI u rfl (fun hc u=> ?_)<|fun hc u=> ?_
 ·refine aO<|aD<|bR<|aD<|aE<|wu rfl<|wu rfl ?_;obtain⟨y3,hy3,u⟩:=bs u;refine fM (f:=aB) rfl (.no _) rfl hy3 rfl<|wu rfl<|wu rfl<|wu rfl<|wu rfl<|aC ?_;refine aI u rfl (fun hc u=> ?_)<|fun hc u=> ?_
  ·refine aD<|aE<|wu rfl<|aC<|aK ?_;cases u;exact⟨rfl,⟨rfl,_,fun _=>rfl,bD rfl rfl rfl rfl J.ext⟩⟩
  ·refine aO<|aE<|wu rfl<|wu rfl<|wu rfl<|aC ?_;exact gC (fun e=>ih_w12_Great_l0 _ _ _ u e s _ J) (.cons rfl<|.cons rfl .nil)<|fun _ _ _ h=>h
 ·refine iK ?_;cases u;exact⟨rfl,_,frE .nil,rfl⟩
noncomputable def jK(v1:(List aA)):Option Bool:=
 (if(decide ((v1.length:Int)>(300)))=true then some true
 else((bY v1 (0))>>=fun o4=>
 (match o4 with
 | .ret q5=>some q5
 | .nx q6=>some false)))
theorem xF: ∀(v1:(List aA))(r:Bool),jK v1=some r→ ∀s:ASt,Fc PP (.func 5) [(slA 3<|v1.map aB)] s (cO s<|.bool r):=by
 intro v1 r u;unfold jK at u;intro s;refine bF rfl rfl rfl ?_;have J:=St.clean s;generalize aT s=σ1 at J⊢;refine aD<|aE<|wu rfl<|aC<|aD<|aD<|aE<|wu rfl<|gP (f:=aB) (l:=v1) rfl (.no _)<|wu rfl<|aC ?_;refine aI u rfl (fun hc u=> ?_)<|fun hc u=> ?_
 ·refine aD<|aE<|wu rfl<|aC<|aK ?_;cases u;exact⟨rfl,_,fun _=>rfl,bD rfl rfl rfl rfl J.ext⟩
 ·refine aO<|aD<|aD<|aE<|wu rfl<|aC<|bR ?_;obtain⟨o4,ho4,u⟩:=bs u;refine gC (fun e=>rR _ _ _ ho4 e s _ J) (.cons rfl<|.cons rfl .nil) ?_
  rintro _ _ _ hq
  rcases o4 with q5|q6
  ·obtain⟨rfl,hq⟩:=hq;cases u;exact hq
  ·obtain⟨rfl,e8,rfl,rfl⟩:=hq;refine aD<|aE<|wu rfl<|aC<|aK ?_;cases u;exact⟨rfl,_,fun _=>rfl,bD rfl rfl rfl rfl J.ext⟩
theorem xT{v1:(List aA)}{r:Bool}(h:jK v1=some r):Pf PP 5 [(slA 3<|v1.map aB)] (.bool r):=Pf.dB (xF v1 r h _) rfl (.cons (dZ<|bG aM _) .nil)
noncomputable def cQ(s1:Str)(n2:Int)(m3:Int):Option aA:=
 some (aA.mk ((aA.mk s1 n2 m3).effect) ((aA.mk s1 n2 m3).instance_)<|(aA.mk s1 n2 m3).marker)
theorem tT: ∀(s1:Str)(n2:Int)(m3:Int)(r:aA),cQ s1 n2 m3=some r→ ∀s:ASt,Fc PP (.func 17) [(.str s1),(.int .i64 n2),(.int .i64 m3)] s (cO s<|aF r):=by
 intro s1 n2 m3 r u;unfold cQ at u;intro s;refine bF rfl rfl rfl ?_;have J:=St.clean s;generalize aT s=σ1 at J⊢;refine aD<|aE ?_;refine p5 rfl J rfl<|fun β4 σ5 J=> ?_;refine aC<|aD<|aE<|wu rfl<|wu rfl<|wu rfl ?_;refine wgv (v:=(aF<|aA.mk s1 n2 m3)) rfl rfl (by kernel_rfl) ?_;refine gQ (ds':= [(.str (aA.mk s1 n2 m3).effect),(.int .i64 (aA.mk s1 n2 m3).instance_),(.int .i64 (aA.mk s1 n2 m3).marker)]) (cs':= [(.str (aA.mk s1 n2 m3).effect),(.int .i64 (aA.mk s1 n2 m3).instance_),(.int .i64 (aA.mk s1 n2 m3).marker)]) 0 rfl J rfl rfl rfl rfl rfl (Nat.le_of_ble_eq_true rfl) (.cons (tkN rfl)<|.cons (tkN rfl)<|.cons (tkN rfl) .nil) (by kernel_rfl)<|fun σ6 J=> ?_;refine aC<|aK ?_;cases u;exact⟨rfl,_,fun _=>rfl,bD (pC.eq<|.cons (jE (us:= [(.str (aA.mk s1 n2 m3).effect),(.int .i64 (aA.mk s1 n2 m3).instance_),(.int .i64 (aA.mk s1 n2 m3).marker)]) J 0 rfl rfl (Nat.le_of_ble_eq_true rfl) rfl<|.cons rfl<|.cons rfl<|.cons rfl .nil) .nil) rfl rfl rfl J.ext⟩
theorem dD{s1:Str}{n2:Int}{m3:Int}{r:aA}(h:cQ s1 n2 m3=some r):Pf PP 17 [(.str s1),(.int .i64 n2),(.int .i64 m3)] (aF r):=Pf.dB (tT s1 n2 m3 r h _) ((bH _).2) (.cons ⟨rfl,rfl⟩<|.cons ⟨rfl,rfl⟩<|.cons ⟨rfl,rfl⟩ .nil)
noncomputable def bV(a1:(List aA))(b2:(List aA))(i3:Int):Option (Ctl Bool Unit):=
 (if(decide (i3<(a1.length:Int)))=true then((idx a1 i3)>>=fun y4=>
 ((idx b2 i3)>>=fun y5=>
 (if(!((y4.effect==y5.effect)&&((y4.instance_==y5.instance_)&&((y4.marker==y5.marker)&&true))))=true then some (.ret false)
 else bV (nf a1) (nf b2) (IntKind.wrap .i64 (i3+(1))))))
 else some (.nx ()))
 partial_fixpoint
abbrev iZ(a1:(List aA))(b2:(List aA))(i3:Int)(o:(Ctl Bool Unit)):Prop:= ∀(e:Env)(s sv:ASt),St [] [] s sv [] []→Wk PP none Code.aEQ ⟨gI e [(0,(slA 3<|a1.map aB)),(1,(slA 3<|b2.map aB)),(5,(.int .i64 i3))],[]⟩ sv (fun ex fr s'=>(match o with| .ret oq0=>ex= .ret∧u0 PP Code.c15 (VQ (.bool oq0)<|Ext [] [] s) ex fr s'| .nx oq1=>ex= .exit 0∧ ∃(e:Env),fr=⟨gI e [],[]⟩∧sv=s'))
theorem mX: ∀(a1:(List aA))(b2:(List aA))(i3:Int)(o:(Ctl Bool Unit)),bV a1 b2 i3=some o→iZ a1 b2 i3 o:=by
 refine bV.partial_correctness (iZ) ?_;intro _f ih_w12_sameVector_l0 a1 b2 i3 o u;intro e s sv J;refine fC<|aD<|aD<|aE<|wu rfl<|wu rfl<|gP (f:=aB) (l:=a1) rfl (.no _)<|wu rfl<|aC ?_;refine aI u rfl (fun hc u=> ?_)<|fun hc u=> ?_
 ·refine aO<|aD<|bR<|aD<|aE<|wu rfl<|wu rfl ?_;obtain⟨y4,hy4,u⟩:=bs u;refine fM (f:=aB) rfl (.no _) rfl hy4 rfl<|wu rfl<|wu rfl<|wu rfl ?_;obtain⟨y5,hy5,u⟩:=bs u;refine fM (f:=aB) rfl (.no _) rfl hy5 rfl<|wu rfl<|wu rfl<|aC ?_;refine aI u rfl (fun hc u=> ?_)<|fun hc u=> ?_
  ·refine aD<|aE<|wu rfl<|aC<|aK ?_;cases u;exact⟨rfl,⟨rfl,_,fun _=>rfl,bD rfl rfl rfl rfl J.ext⟩⟩
  ·refine aO<|aE<|wu rfl<|wu rfl<|wu rfl<|aC ?_;exact gC (fun e=>ih_w12_sameVector_l0 _ _ _ _ u e s _ J) (.cons rfl<|.cons rfl<|.cons rfl .nil)<|fun _ _ _ h=>h
 ·refine iK ?_;cases u;exact⟨rfl,_,frE .nil,rfl⟩
noncomputable def cS(a1:(List aA))(b2:(List aA)):Option Bool:=
 (if((a1.length:Int) !=(b2.length:Int))=true then some false
 else((bV a1 b2 (0))>>=fun o6=>
 (match o6 with
 | .ret q7=>some q7
 | .nx q8=>some true)))
theorem pM: ∀(a1:(List aA))(b2:(List aA))(r:Bool),cS a1 b2=some r→ ∀s:ASt,Fc PP (.func 15) [(slA 3<|a1.map aB),(slA 3<|b2.map aB)] s (cO s<|.bool r):=by
 intro a1 b2 r u;unfold cS at u;intro s;refine bF rfl rfl rfl ?_;have J:=St.clean s;generalize aT s=σ1 at J⊢;refine aD<|aE<|wu rfl<|aC<|aD<|aD<|aE<|wu rfl<|gP (f:=aB) (l:=a1) rfl (.no _)<|wu rfl<|gP (f:=aB) (l:=b2) rfl (.no _)<|wu rfl<|aC ?_;refine aI u rfl (fun hc u=> ?_)<|fun hc u=> ?_
 ·refine aD<|aE<|wu rfl<|aC<|aK ?_;cases u;exact⟨rfl,_,fun _=>rfl,bD rfl rfl rfl rfl J.ext⟩
 ·refine aO<|aD<|aD<|aE<|wu rfl<|aC<|bR ?_;obtain⟨o6,ho6,u⟩:=bs u;refine gC (fun e=>mX _ _ _ _ ho6 e s _ J) (.cons rfl<|.cons rfl<|.cons rfl .nil) ?_
  rintro _ _ _ hq
  rcases o6 with q7|q8
  ·obtain⟨rfl,hq⟩:=hq;cases u;exact hq
  ·obtain⟨rfl,e10,rfl,rfl⟩:=hq;refine aD<|aE<|wu rfl<|aC<|aK ?_;cases u;exact⟨rfl,_,fun _=>rfl,bD rfl rfl rfl rfl J.ext⟩
theorem gY{a1:(List aA)}{b2:(List aA)}{r:Bool}(h:cS a1 b2=some r):Pf PP 15 [(slA 3<|a1.map aB),(slA 3<|b2.map aB)] (.bool r):=Pf.dB (pM a1 b2 r h _) rfl (.cons (dZ<|bG aM _)<|.cons (dZ<|bG aM _) .nil)
noncomputable def g7:Option Bool:=
 ((cQ ([69]:Str) (0) (1))>>=fun r1=>
 ((cQ ([70]:Str) (0) (0))>>=fun r2=>
 ((cQ ([69]:Str) (0) (2))>>=fun r3=>
 ((cX [r1,r2] r3)>>=fun r4=>
 ((dC r4.1 ([69]:Str) (0))>>=fun r5=>
 ((dC r4.1 ([69]:Str) (3))>>=fun r6=>
 ((if(r4.2==(0))=true then((cQ ([69]:Str) (0) (2))>>=fun r8=>
 ((cQ ([69]:Str) (0) (1))>>=fun r9=>
 ((cQ ([70]:Str) (0) (0))>>=fun r10=>
 ((cS r4.1 [r8,r9,r10])>>=fun r11=>
 some r11))))
 else some false:Option Bool)>>=fun c7=>
 ((if c7=true then some (r5.2==(0))
 else some false:Option Bool)>>=fun c12=>
 ((if c12=true then((cQ ([69]:Str) (0) (2))>>=fun r14=>
 some ((r5.1.effect==r14.effect)&&((r5.1.instance_==r14.instance_)&&((r5.1.marker==r14.marker)&&true))))
 else some false:Option Bool)>>=fun c13=>
 ((if c13=true then some (r6.2==(6))
 else some false:Option Bool)>>=fun c15=>
 some c15))))))))))
theorem xQ: ∀(r:Bool),g7=some r→ ∀s:ASt,Fc PP (.func 6) [] s (cO s<|.bool r):=by
 intro r u;unfold g7 at u;intro s;refine bF rfl rfl rfl ?_;have J:=St.clean s;generalize aT s=σ1 at J⊢;refine aD<|aE<|wu rfl<|aC<|aD<|aE<|wu rfl<|aC<|aD<|aE<|wu rfl ?_;obtain⟨r1,hr1,u⟩:=bs u;refine wcD (dD hr1) rfl rfl (.cons rfl<|.cons rfl<|.cons rfl .nil)<|wu rfl ?_;obtain⟨r2,hr2,u⟩:=bs u;refine wcD (dD hr2) rfl rfl (.cons rfl<|.cons rfl<|.cons rfl .nil) ?_;refine pL (f:=aB) (l:= [r1,r2]) rfl (.cons rfl<|.cons rfl .nil) rfl nC rfl rfl (by decide) ?_;refine wu rfl ?_;obtain⟨r3,hr3,u⟩:=bs u;refine wcD (dD hr3) rfl rfl (.cons rfl<|.cons rfl<|.cons rfl .nil) ?_;obtain⟨r4,hr4,u⟩:=bs u;refine wcD (jU hr4) rfl rfl (.cons rfl<|.cons rfl .nil)<|wu rfl<|wu rfl<|wu rfl<|wu rfl<|wu rfl<|aC<|aD<|aE<|wu rfl ?_;obtain⟨r5,hr5,u⟩:=bs u;refine wcD (g8 hr5) rfl rfl (.cons rfl<|.cons rfl<|.cons rfl .nil)<|wu rfl<|wu rfl<|wu rfl<|wu rfl<|wu rfl<|wu rfl<|aC<|aD<|aE<|wu rfl ?_;obtain⟨r6,hr6,u⟩:=bs u;refine wcD (g8 hr6) rfl rfl (.cons rfl<|.cons rfl<|.cons rfl .nil)<|wu rfl<|wu rfl<|wu rfl<|wu rfl<|wu rfl<|wu rfl<|aC<|aD<|aE<|wu rfl<|wu rfl<|wu rfl ?_;obtain⟨c7,hc7,u⟩:=bs u;refine aS 10 [(1,(.func 17 [] [])),(4,(.aX (aF r5.1) 0)),(5,(.int .i64 r5.2)),(7,(.int .i64 r6.2)),(41,(.bool c7))] σ1 ?_<|fun e=> ?_
 ·refine aQ (t:=31) rfl (fun hc=> ?_)<|fun hc=> ?_
  ·replace hc7:=bQ hc hc7;refine wu rfl<|wu rfl ?_;obtain⟨r8,hr8,hc7⟩:=bs hc7;refine wcD (dD hr8) rfl rfl (.cons rfl<|.cons rfl<|.cons rfl .nil)<|wu rfl ?_;obtain⟨r9,hr9,hc7⟩:=bs hc7;refine wcD (dD hr9) rfl rfl (.cons rfl<|.cons rfl<|.cons rfl .nil)<|wu rfl ?_;obtain⟨r10,h10,hc7⟩:=bs hc7;refine wcD (dD h10) rfl rfl (.cons rfl<|.cons rfl<|.cons rfl .nil) ?_;refine pL (f:=aB) (l:= [r8,r9,r10]) rfl (.cons rfl<|.cons rfl<|.cons rfl .nil) rfl nC rfl rfl (by decide) ?_;obtain⟨r11,h11,hc7⟩:=bs hc7;refine wcD (gY h11) rfl rfl (.cons rfl<|.cons rfl .nil)<|wu rfl<|aC ?_;cases hc7;exact Kept.mk rfl<|.cons rfl<|.cons rfl<|.cons rfl<|.cons rfl<|.cons rfl .nil
  ·replace hc7:=bO hc hc7;refine wu rfl<|wu rfl<|wu rfl<|wu rfl<|wu rfl<|wu rfl<|wu rfl<|wu rfl<|wu rfl<|wu rfl<|aC ?_;cases hc7;exact Kept.mk rfl<|.cons rfl<|.cons rfl<|.cons rfl<|.cons rfl<|.cons rfl .nil
 ·refine wu rfl ?_;obtain⟨c12,h12,u⟩:=bs u;refine aS 3 [(1,(.func 17 [] [])),(4,(.aX (aF r5.1) 0)),(7,(.int .i64 r6.2)),(45,(.bool c12))] σ1 ?_<|fun e=> ?_
  ·refine aQ (t:=42) rfl (fun hc=> ?_)<|fun hc=> ?_
   ·replace h12:=bQ hc h12;refine wu rfl<|wu rfl<|wu rfl<|aC ?_;cases h12;exact Kept.mk rfl<|.cons rfl<|.cons rfl<|.cons rfl<|.cons rfl .nil
   ·replace h12:=bO hc h12;refine wu rfl<|wu rfl<|wu rfl<|aC ?_;cases h12;exact Kept.mk rfl<|.cons rfl<|.cons rfl<|.cons rfl<|.cons rfl .nil
  ·refine wu rfl ?_;obtain⟨c13,h13,u⟩:=bs u;refine aS 5 [(7,(.int .i64 r6.2)),(51,(.bool c13))] σ1 ?_<|fun e=> ?_
   ·refine aQ (t:=46) rfl (fun hc=> ?_)<|fun hc=> ?_
    ·replace h13:=bQ hc h13;refine wu rfl<|wu rfl ?_;obtain⟨r14,h14,h13⟩:=bs h13;refine wcD (dD h14) rfl rfl (.cons rfl<|.cons rfl<|.cons rfl .nil)<|wu rfl<|wu rfl<|aC ?_;cases h13;exact Kept.mk rfl<|.cons rfl<|.cons rfl .nil
    ·replace h13:=bO hc h13;refine wu rfl<|wu rfl<|wu rfl<|wu rfl<|wu rfl<|aC ?_;cases h13;exact Kept.mk rfl<|.cons rfl<|.cons rfl .nil
   ·refine wu rfl ?_;obtain⟨c15,h15,u⟩:=bs u;refine aS 3 [(55,(.bool c15))] σ1 ?_<|fun e=> ?_
    ·refine aQ (t:=52) rfl (fun hc=> ?_)<|fun hc=> ?_
     ·replace h15:=bQ hc h15;refine wu rfl<|wu rfl<|wu rfl<|aC ?_;cases h15;exact Kept.mk rfl<|.cons rfl .nil
     ·replace h15:=bO hc h15;refine wu rfl<|wu rfl<|wu rfl<|aC ?_;cases h15;exact Kept.mk rfl<|.cons rfl .nil
    ·refine wu rfl<|aC<|aK ?_;cases u;exact⟨rfl,_,fun _=>rfl,bD rfl rfl rfl rfl J.ext⟩
theorem pB{r:Bool}(h:g7=some r):Pf PP 6 [] (.bool r):=Pf.dB (xQ r h _) rfl .nil
noncomputable def dA(v1:(List aA))(x2:aA)(e3:Str)(instance4:Int):Option Bool:=
 ((jK v1)>>=fun r5=>
 ((if r5=true then some true
 else some (decide ((x2.effect.length:Int)>(100))):Option Bool)>>=fun c6=>
 ((if c6=true then some true
 else some (decide ((e3.length:Int)>(100))):Option Bool)>>=fun c7=>
 (if c7=true then((g7)>>=fun r8=>
 some r8)
 else((cX v1 x2)>>=fun r9=>
 ((hN v1 x2)>>=fun r10=>
 ((dN v1 e3)>>=fun r11=>
 ((iE v1 e3)>>=fun r12=>
 ((dC v1 e3 instance4)>>=fun r13=>
 ((lD v1 e3 instance4)>>=fun r14=>
 ((bX v1)>>=fun r15=>
 ((fE v1)>>=fun r16=>
 ((if(r15==r16)=true then((cS r9.1 r10.1)>>=fun r18=>
 some r18)
 else some false:Option Bool)>>=fun c17=>
 ((if c17=true then some (r9.2==r10.2)
 else some false:Option Bool)>>=fun c19=>
 ((if c19=true then((cS r11.1 r12.1)>>=fun r21=>
 some r21)
 else some false:Option Bool)>>=fun c20=>
 ((if c20=true then some (r11.2==r12.2)
 else some false:Option Bool)>>=fun c22=>
 ((if c22=true then some ((r13.1.effect==r14.1.effect)&&((r13.1.instance_==r14.1.instance_)&&((r13.1.marker==r14.1.marker)&&true)))
 else some false:Option Bool)>>=fun c23=>
 ((if c23=true then some (r13.2==r14.2)
 else some false:Option Bool)>>=fun c24=>
 ((if c24=true then((g7)>>=fun r26=>
 some r26)
 else some false:Option Bool)>>=fun c25=>
 some c25)))))))))))))))))))
theorem lY: ∀(v1:(List aA))(x2:aA)(e3:Str)(instance4:Int)(r:Bool),dA v1 x2 e3 instance4=some r→ ∀s:ASt,Fc PP (.func 3) [(slA 3<|v1.map aB),(aF x2),(.str e3),(.int .i64 instance4)] s (cO s<|.bool r):=by
 intro v1 x2 e3 instance4 r u;unfold dA at u;intro s;refine bF rfl rfl rfl ?_;have J:=St.clean s;generalize aT s=σ1 at J⊢;refine aD<|aE<|wu rfl<|wu rfl<|aC<|aD<|aD<|aE<|wu rfl ?_;obtain⟨r5,hr5,u⟩:=bs u;refine wcD (xT hr5) rfl rfl (.cons rfl .nil)<|wu rfl ?_;obtain⟨c6,hc6,u⟩:=bs u;refine aS 5 [(0,(slA 3<|v1.map aB)),(2,(.str e3)),(3,(.int .i64 instance4)),(5,(.aX (aF x2) 0)),(28,(.bool c6))] σ1 ?_<|fun e=> ?_
 ·refine aQ (t:=23) rfl (fun hc=> ?_)<|fun hc=> ?_
  ·replace hc6:=bQ hc hc6;refine wu rfl<|wu rfl<|wu rfl<|wu rfl<|wu rfl<|aC ?_;cases hc6;exact Kept.mk rfl<|.cons rfl<|.cons rfl<|.cons rfl<|.cons rfl<|.cons rfl .nil
  ·replace hc6:=bO hc hc6;refine wu rfl<|wu rfl<|wu rfl<|wu rfl<|wu rfl<|aC ?_;cases hc6;exact Kept.mk rfl<|.cons rfl<|.cons rfl<|.cons rfl<|.cons rfl<|.cons rfl .nil
 ·refine wu rfl ?_;obtain⟨c7,hc7,u⟩:=bs u;refine aS 4 [(0,(slA 3<|v1.map aB)),(2,(.str e3)),(3,(.int .i64 instance4)),(5,(.aX (aF x2) 0)),(33,(.bool c7))] σ1 ?_<|fun e=> ?_
  ·refine aQ (t:=29) rfl (fun hc=> ?_)<|fun hc=> ?_
   ·replace hc7:=bQ hc hc7;refine wu rfl<|wu rfl<|wu rfl<|wu rfl<|aC ?_;cases hc7;exact Kept.mk rfl<|.cons rfl<|.cons rfl<|.cons rfl<|.cons rfl<|.cons rfl .nil
   ·replace hc7:=bO hc hc7;refine wu rfl<|wu rfl<|wu rfl<|wu rfl<|aC ?_;cases hc7;exact Kept.mk rfl<|.cons rfl<|.cons rfl<|.cons rfl<|.cons rfl<|.cons rfl .nil
  ·refine aC ?_;refine aI u rfl (fun hc u=> ?_)<|fun hc u=> ?_
   ·refine aD<|aE ?_;obtain⟨r8,hr8,u⟩:=bs u;refine wcD (pB hr8) rfl rfl .nil<|wu rfl<|aC<|aK ?_;cases u;exact⟨rfl,_,fun _=>rfl,bD rfl rfl rfl rfl J.ext⟩
   ·refine aO<|aD<|aE<|wu rfl<|wu rfl ?_;obtain⟨r9,hr9,u⟩:=bs u;refine wcD (jU hr9) rfl rfl (.cons rfl<|.cons rfl .nil)<|wu rfl<|wu rfl<|wu rfl<|wu rfl<|wu rfl<|aC<|aD<|aE<|wu rfl<|wu rfl ?_;obtain⟨r10,h10,u⟩:=bs u;refine wcD (u7 h10) rfl rfl (.cons rfl<|.cons rfl .nil)<|wu rfl<|wu rfl<|wu rfl<|wu rfl<|wu rfl<|aC<|aD<|aE<|wu rfl<|wu rfl ?_;obtain⟨r11,h11,u⟩:=bs u;refine wcD (oJ h11) rfl rfl (.cons rfl<|.cons rfl .nil)<|wu rfl<|wu rfl<|wu rfl<|wu rfl<|wu rfl<|aC<|aD<|aE<|wu rfl<|wu rfl ?_;obtain⟨r12,h12,u⟩:=bs u;refine wcD (uR h12) rfl rfl (.cons rfl<|.cons rfl .nil)<|wu rfl<|wu rfl<|wu rfl<|wu rfl<|wu rfl<|aC<|aD<|aE<|wu rfl<|wu rfl<|wu rfl ?_;obtain⟨r13,h13,u⟩:=bs u;refine wcD (g8 h13) rfl rfl (.cons rfl<|.cons rfl<|.cons rfl .nil)<|wu rfl<|wu rfl<|wu rfl<|wu rfl<|wu rfl<|wu rfl<|aC<|aD<|aE<|wu rfl<|wu rfl<|wu rfl ?_;obtain⟨r14,h14,u⟩:=bs u;refine wcD (aAo h14) rfl rfl (.cons rfl<|.cons rfl<|.cons rfl .nil)<|wu rfl<|wu rfl<|wu rfl<|wu rfl<|wu rfl<|wu rfl<|aC<|aD<|aE<|wu rfl ?_;obtain⟨r15,h15,u⟩:=bs u;refine wcD (dV h15) rfl rfl (.cons rfl .nil)<|wu rfl ?_;obtain⟨r16,h16,u⟩:=bs u;refine wcD (gO h16) rfl rfl (.cons rfl .nil)<|wu rfl<|wu rfl ?_;obtain⟨c17,h17,u⟩:=bs u;refine aS 4 [(10,(.int .i64 r9.2)),(12,(.int .i64 r10.2)),(13,(slA 3<|r11.1.map aB)),(14,(.int .i64 r11.2)),(15,(slA 3<|r12.1.map aB)),(16,(.int .i64 r12.2)),(17,(.aX (aF r13.1) 0)),(18,(.int .i64 r13.2)),(19,(.aX (aF r14.1) 0)),(20,(.int .i64 r14.2)),(82,(.bool c17))] σ1 ?_<|fun e=> ?_
    ·refine aQ (t:=78) rfl (fun hc=> ?_)<|fun hc=> ?_
     ·replace h17:=bQ hc h17;refine wu rfl<|wu rfl ?_;obtain⟨r18,h18,h17⟩:=bs h17;refine wcD (gY h18) rfl rfl (.cons rfl<|.cons rfl .nil)<|wu rfl<|aC ?_;cases h17;exact Kept.mk rfl<|.cons rfl<|.cons rfl<|.cons rfl<|.cons rfl<|.cons rfl<|.cons rfl<|.cons rfl<|.cons rfl<|.cons rfl<|.cons rfl<|.cons rfl .nil
     ·replace h17:=bO hc h17;refine wu rfl<|wu rfl<|wu rfl<|wu rfl<|aC ?_;cases h17;exact Kept.mk rfl<|.cons rfl<|.cons rfl<|.cons rfl<|.cons rfl<|.cons rfl<|.cons rfl<|.cons rfl<|.cons rfl<|.cons rfl<|.cons rfl<|.cons rfl .nil
    ·refine wu rfl ?_;obtain⟨c19,h19,u⟩:=bs u;refine aS 4 [(13,(slA 3<|r11.1.map aB)),(14,(.int .i64 r11.2)),(15,(slA 3<|r12.1.map aB)),(16,(.int .i64 r12.2)),(17,(.aX (aF r13.1) 0)),(18,(.int .i64 r13.2)),(19,(.aX (aF r14.1) 0)),(20,(.int .i64 r14.2)),(87,(.bool c19))] σ1 ?_<|fun e=> ?_
     ·refine aQ (t:=83) rfl (fun hc=> ?_)<|fun hc=> ?_
      ·replace h19:=bQ hc h19;refine wu rfl<|wu rfl<|wu rfl<|wu rfl<|aC ?_;cases h19;exact Kept.mk rfl<|.cons rfl<|.cons rfl<|.cons rfl<|.cons rfl<|.cons rfl<|.cons rfl<|.cons rfl<|.cons rfl<|.cons rfl .nil
      ·replace h19:=bO hc h19;refine wu rfl<|wu rfl<|wu rfl<|wu rfl<|aC ?_;cases h19;exact Kept.mk rfl<|.cons rfl<|.cons rfl<|.cons rfl<|.cons rfl<|.cons rfl<|.cons rfl<|.cons rfl<|.cons rfl<|.cons rfl .nil
     ·refine wu rfl ?_;obtain⟨c20,h20,u⟩:=bs u;refine aS 4 [(14,(.int .i64 r11.2)),(16,(.int .i64 r12.2)),(17,(.aX (aF r13.1) 0)),(18,(.int .i64 r13.2)),(19,(.aX (aF r14.1) 0)),(20,(.int .i64 r14.2)),(92,(.bool c20))] σ1 ?_<|fun e=> ?_
      ·refine aQ (t:=88) rfl (fun hc=> ?_)<|fun hc=> ?_
       ·replace h20:=bQ hc h20;refine wu rfl<|wu rfl ?_;obtain⟨r21,h21,h20⟩:=bs h20;refine wcD (gY h21) rfl rfl (.cons rfl<|.cons rfl .nil)<|wu rfl<|aC ?_;cases h20;exact Kept.mk rfl<|.cons rfl<|.cons rfl<|.cons rfl<|.cons rfl<|.cons rfl<|.cons rfl<|.cons rfl .nil
       ·replace h20:=bO hc h20;refine wu rfl<|wu rfl<|wu rfl<|wu rfl<|aC ?_;cases h20;exact Kept.mk rfl<|.cons rfl<|.cons rfl<|.cons rfl<|.cons rfl<|.cons rfl<|.cons rfl<|.cons rfl .nil
      ·refine wu rfl ?_;obtain⟨c22,h22,u⟩:=bs u;refine aS 4 [(17,(.aX (aF r13.1) 0)),(18,(.int .i64 r13.2)),(19,(.aX (aF r14.1) 0)),(20,(.int .i64 r14.2)),(97,(.bool c22))] σ1 ?_<|fun e=> ?_
       ·refine aQ (t:=93) rfl (fun hc=> ?_)<|fun hc=> ?_
        ·replace h22:=bQ hc h22;refine wu rfl<|wu rfl<|wu rfl<|wu rfl<|aC ?_;cases h22;exact Kept.mk rfl<|.cons rfl<|.cons rfl<|.cons rfl<|.cons rfl<|.cons rfl .nil
        ·replace h22:=bO hc h22;refine wu rfl<|wu rfl<|wu rfl<|wu rfl<|aC ?_;cases h22;exact Kept.mk rfl<|.cons rfl<|.cons rfl<|.cons rfl<|.cons rfl<|.cons rfl .nil
       ·refine wu rfl ?_;obtain⟨c23,h23,u⟩:=bs u;refine aS 4 [(18,(.int .i64 r13.2)),(20,(.int .i64 r14.2)),(102,(.bool c23))] σ1 ?_<|fun e=> ?_
        ·refine aQ (t:=98) rfl (fun hc=> ?_)<|fun hc=> ?_
         ·replace h23:=bQ hc h23;refine wu rfl<|wu rfl<|wu rfl<|wu rfl<|aC ?_;cases h23;exact Kept.mk rfl<|.cons rfl<|.cons rfl<|.cons rfl .nil
         ·replace h23:=bO hc h23;refine wu rfl<|wu rfl<|wu rfl<|wu rfl<|aC ?_;cases h23;exact Kept.mk rfl<|.cons rfl<|.cons rfl<|.cons rfl .nil
        ·refine wu rfl ?_;obtain⟨c24,h24,u⟩:=bs u;refine aS 4 [(107,(.bool c24))] σ1 ?_<|fun e=> ?_
         ·refine aQ (t:=103) rfl (fun hc=> ?_)<|fun hc=> ?_
          ·replace h24:=bQ hc h24;refine wu rfl<|wu rfl<|wu rfl<|wu rfl<|aC ?_;cases h24;exact Kept.mk rfl<|.cons rfl .nil
          ·replace h24:=bO hc h24;refine wu rfl<|wu rfl<|wu rfl<|wu rfl<|aC ?_;cases h24;exact Kept.mk rfl<|.cons rfl .nil
         ·refine wu rfl ?_;obtain⟨c25,h25,u⟩:=bs u;refine aS 2 [(110,(.bool c25))] σ1 ?_<|fun e=> ?_
          ·refine aQ (t:=108) rfl (fun hc=> ?_)<|fun hc=> ?_
           ·replace h25:=bQ hc h25;obtain⟨r26,h26,h25⟩:=bs h25;refine wcD (pB h26) rfl rfl .nil<|wu rfl<|aC ?_;cases h25;exact Kept.mk rfl<|.cons rfl .nil
           ·replace h25:=bO hc h25;refine wu rfl<|wu rfl<|aC ?_;cases h25;exact Kept.mk rfl<|.cons rfl .nil
          ·refine wu rfl<|aC<|aK ?_;cases u;exact⟨rfl,_,fun _=>rfl,bD rfl rfl rfl rfl J.ext⟩
theorem lM{v1:(List aA)}{x2:aA}{e3:Str}{instance4:Int}{r:Bool}(h:dA v1 x2 e3 instance4=some r):Pf PP 3 [(slA 3<|v1.map aB),(aF x2),(.str e3),(.int .i64 instance4)] (.bool r):=Pf.dB (lY v1 x2 e3 instance4 r h _) rfl (.cons (dZ<|bG aM _)<|.cons (bH _)<|.cons ⟨rfl,rfl⟩<|.cons ⟨rfl,rfl⟩ .nil)
end Go.Proofs.Ytfcfnkffgiklpaa
set_option maxRecDepth 100000
namespace Go.Proofs.Ytfcfnkffgiklpaa
open Go Go.Fw
theorem wrap64{x:Int}(h: -9223372036854775808≤x)(h':x<9223372036854775808):IntKind.wrap .i64 x=x:=by
 show(if decide (x%18446744073709551616≥9223372036854775808)=true then x%18446744073709551616-18446744073709551616 else x%18446744073709551616)=x;split<;>rename_i hd
 ·have:=of_decide_eq_true hd;omega
 ·have:=of_decide_eq_false (Bool.eq_false_iff.2 hd);omega
theorem aDQ{α:Type}(pre:List α)(y:α)(suf:List α):idx (pre++y::suf) (pre.length:Int)=some y:=by
 unfold idx;rw [if_pos (by omega)];simp
theorem aFt{α:Type}{b:Nat}{xs ys:List α}(h:(xs.length+ys.length)*b≤big)(h':xs.length+ys.length≤big):app b xs ys=some (xs++ys):=if_pos ⟨h,h'⟩
theorem aBK{α:Type}(pre suf:List α):cut (pre++suf) 0 (pre.length:Int)=some pre:=by
 unfold cut;rw [if_pos ⟨by omega,by omega,by simp;omega⟩];simp
theorem aCN{α:Type}{l:List α}(hl:l.length<4611686018427387904){C:Nat→List α→Prop}
(h0: ∀hd:decide ((l.length:Int)<(l.length:Int))=false,C l.length [])
(h1: ∀(k:Nat)(y:α)(r:List α),l.drop k=y::r→k<l.length→y∈l→decide ((k:Int)<(l.length:Int))=true→idx l (k:Int)=some y→IntKind.wrap .i64 ((k:Int)+1)=((k+1:Nat):Int)→C (k+1) r→C k (y::r)):
  ∀(n k:Nat),k+n=l.length→C k (l.drop k):=by
 intro n
 induction n with
 |zero=>
  intro k hk;have:k=l.length:=by omega
  subst this;rw [List.drop_length];exact h0 (decide_eq_false (by omega))
 |succ n ih=>
  intro k hk;have hlt:k<l.length:=by omega
  have hd:l.drop k=l[k]::l.drop (k+1):=List.drop_eq_getElem_cons hlt;rw [hd];refine h1 k _ _ hd hlt (List.getElem_mem hlt) (decide_eq_true (by omega)) ?_ ?_ (ih (k+1) (by omega))
  ·unfold idx;rw [if_pos (by omega)];simp [hlt]
  ·rw [wrap64 (by omega) (by omega)];omega
theorem jQ{α:Type}{l:List α}(hl:l.length<4611686018427387904){C:Nat→List α→Prop}
(h0: ∀hd:decide ((l.length:Int)<(l.length:Int))=false,C l.length [])
(h1: ∀(k:Nat)(y:α)(r:List α),l.drop k=y::r→k<l.length→y∈l→decide ((k:Int)<(l.length:Int))=true→idx l (k:Int)=some y→IntKind.wrap .i64 ((k:Int)+1)=((k+1:Nat):Int)→C (k+1) r→C k (y::r)):C 0 l:=by
 have:=aCN hl h0 h1 l.length 0 (by omega);rwa [List.drop_zero] at this
def fnd{α:Type}(p:α→Bool):List α→Nat→Ctl Int Unit
 | [],_=> .nx ()
 |y::r,k=>if p y=true then .ret (k:Int) else fnd p r (k+1)
def aEf{α:Type}(p:α→Bool)(l:List α)(k:Nat):Int:=match fnd p l k with| .ret i=>i| .nx _=> -1
theorem aEs{α:Type}(l:List α)(hl:l.length<4611686018427387904)(p:α→Bool)(g:Int→Option (Ctl Int Unit))
(hg: ∀i,g i=if decide (i<(l.length:Int))=true then(idx l i>>=fun y=>if p y=true then some (.ret i) else g (IntKind.wrap .i64 (i+1))) else some (.nx ())):g 0=some (fnd p l 0):=by
 refine jQ (C:=fun k r=>g (k:Int)=some (fnd p r k)) hl (fun hd=> ?_) fun k y r _ _ _ hlt hi hw ih=> ?_
 ·rw [hg,hd];rfl
 ·rw [hg,if_pos hlt,hi,fnd];show(if p y=true then some (.ret (k:Int)) else g (IntKind.wrap .i64 ((k:Int)+1)))=_;cases p y with
  |true=>rfl
  |false=>rw [hw];exact ih
def nG(c:Nat):Int:=
 if c=32∨c=9∨c=10 then 1 else if c=95∨(97≤c∧c≤122) then 2 else if 65≤c∧c≤90 then 3 else if 48≤c∧c≤57 then 4 else 0
def j4(c:UInt8):Bool:=(97≤c.toNat&&c.toNat≤122)||(65≤c.toNat&&c.toNat≤90)||(48≤c.toNat&&c.toNat≤57)||c.toNat==95
set_option maxRecDepth 100000 in
theorem aBg: ∀n<256,((97≤n&&n≤122)||(65≤n&&n≤90)||(48≤n&&n≤57)||n==95)=(decide (n≤127)&&decide (2≤nG n)):=by decide
theorem zK(c:UInt8):j4 c=(decide (c.toNat≤127)&&decide (2≤nG c.toNat)):=aBg _ c.toNat_lt
def isWord(s:List UInt8)(first:Int):Bool:=
 match s with
 | []=>false
 |c::_=>decide (s.length≤12)&&decide (nG c.toNat=first)&&s.all j4
def fI(s:List UInt8):Bool:=isWord s 3
theorem n7(n:Nat):gG (n:Int)=some (nG n):=by
 have e1: ∀k:Nat,((n:Int)==(k:Int))=decide (n=k):=fun k=>by
  by_cases h:n=k
  ·subst h;simp
  ·rw [decide_eq_false h];simp;omega
 have e2: ∀k:Nat,decide ((k:Int)≤(n:Int))=decide (k≤n):=fun k=>by simp
 have e3: ∀k:Nat,decide ((n:Int)≤(k:Int))=decide (n≤k):=fun k=>by simp
 have h32:((n:Int)==32)=decide (n=32):=e1 32;have h9:((n:Int)==9)=decide (n=9):=e1 9;have h10:((n:Int)==10)=decide (n=10):=e1 10;have h95:((n:Int)==95)=decide (n=95):=e1 95;have l97:decide ((97:Int)≤(n:Int))=decide (97≤n):=e2 97;have l65:decide ((65:Int)≤(n:Int))=decide (65≤n):=e2 65;have l48:decide ((48:Int)≤(n:Int))=decide (48≤n):=e2 48;have l122:decide ((n:Int)≤(122:Int))=decide (n≤122):=e3 122;have l90:decide ((n:Int)≤(90:Int))=decide (n≤90):=e3 90;have l57:decide ((n:Int)≤(57:Int))=decide (n≤57):=e3 57;unfold gG nG;rw [h32,h9,h10,h95,l97,l122,l65,l90,l48,l57];by_cases a1:n=32
 ·simp [a1]
 by_cases a2:n=9
 ·simp [a2]
 by_cases a3:n=10
 ·simp [a3]
 by_cases a4:n=95
 ·simp [a4]
 by_cases b1:97≤n<;>by_cases b2:n≤122<;>by_cases c1:65≤n<;>by_cases c2:n≤90<;>by_cases d1:48≤n<;>by_cases d2:n≤57<;>simp [a1,a2,a3,a4,b1,b2,c1,c2,d1,d2]
theorem aDE{t:Str}{pos:Nat}{b:UInt8}(h:t[pos]?=some b)(hb:b.toNat<128):rune t pos=(b.toNat,1):=aEv h hb
theorem aCB{t:Str}{pos:Nat}{b:UInt8}(h:t[pos]?=some b)(hb: ¬b.toNat<128):128≤(rune t pos).1:=aCC h hb
theorem aEp(b:UInt8):IntKind.wrap .u8 (b.toNat:Int)=(b.toNat:Int):=by
 have:=b.toNat_lt;show(if(false&&decide ((b.toNat:Int)%256≥128))=true then(b.toNat:Int)%256-256 else(b.toNat:Int)%256)=(b.toNat:Int)
 rw [Bool.false_and,if_neg (by decide)];omega
theorem lE(s:Str): ∀(n k:Nat),k+n=s.length→eA s k=some (if(s.drop k).all j4=true then .nx () else .ret false)
 |0,k,h=>by
  have:k=s.length:=by omega
  subst this;rw [eA,List.drop_length,if_neg (by simp)]
  rfl
 |n+1,k,h=>by
  have hk:k<s.length:=by omega
  have ih:=lE s n (k+1) (by omega);have hg:s[k]?=some s[k]:=List.getElem?_eq_getElem hk;rw [List.drop_eq_getElem_cons hk,List.all_cons,zK,eA,if_pos (decide_eq_true hk)];by_cases hb:(s[k]).toNat<128
  ·have e1:decide ((((s[k]).toNat:Nat):Int)>127)=false:=decide_eq_false (by omega);have e2:decide ((s[k]).toNat≤127)=true:=decide_eq_true (by omega);rw [aDE hg hb];simp only [e1,e2,Bool.false_eq_true,if_false,aEp,n7,Option.bind_eq_bind,Option.bind_some,Bool.true_and];by_cases h2:nG (s[k]).toNat<2
   ·rw [decide_eq_true h2,decide_eq_false (p:=2≤nG (s[k]).toNat) (by omega)];simp
   ·rw [decide_eq_false h2,decide_eq_true (p:=2≤nG (s[k]).toNat) (by omega)];simpa [nf] using ih
  ·have hh:=aCB hg hb;have e1:decide ((((rune s k).1:Nat):Int)>127)=true:=decide_eq_true (by omega);have e2:decide ((s[k]).toNat≤127)=false:=decide_eq_false (by omega);simp [e1,e2]
theorem vR{α:Type}(c:α)(r:List α):idx (c::r) 0=some c:=rfl
theorem u9(s:Str)(first:Int):iH s first=some (isWord s first):=by
 rw [iH];cases s with
 |nil=>rfl
 |cons c r=>
  have e0:((c::r:Str)==([]:Str))=false:=rfl;have hw:=lE (c::r) (c::r).length 0 (by omega);rw [List.drop_zero] at hw;rw [e0,vR];by_cases hl:(c::r).length≤12
  ·have e1:decide ((((c::r).length:Nat):Int)>12)=false:=decide_eq_false (by omega);simp only [e1,Bool.false_eq_true,if_false,n7,Option.bind_eq_bind,Option.bind_some,isWord,decide_eq_true hl,Bool.true_and,hw];by_cases hf:nG c.toNat=first
   ·rw [hf];cases hA:(c::r).all j4<;>simp
   ·simp [hf]
  ·have e1:decide ((((c::r).length:Nat):Int)>12)=true:=decide_eq_true (by omega);simp only [e1,Bool.false_eq_true,if_false,if_true,Option.bind_eq_bind,Option.bind_some,isWord,decide_eq_false hl,Bool.false_and]
theorem lF(s:Str):eC s=some (fI s):=by rw [eC,u9];rfl
theorem aDr(a b:Nat):decide ((a:Int)≤(b:Int))=decide (a≤b):=by simp
theorem aD7(a b:Nat):decide ((a:Int)≥(b:Int))=decide (b≤a):=by simp
theorem sW(s:Str)(hl:s.length<4611686018427387904):eP s 0=some (if s.all j4=true then .nx () else .ret false):=by
 refine jQ (C:=fun k r=>eP s (k:Int)=some (if r.all j4=true then .nx () else .ret false)) hl (fun hd=> ?_) fun k y r _ _ _ hlt hi hw ih=> ?_
 ·rw [eP,hd];rfl
 ·rw [eP,if_pos hlt,hi,hw,List.all_cons];have a1:decide (((y.toNat:Nat):Int)≥97)=decide (97≤y.toNat):=aD7 _ 97;have a2:decide (((y.toNat:Nat):Int)≤122)=decide (y.toNat≤122):=aDr _ 122;have a3:decide (((y.toNat:Nat):Int)≥65)=decide (65≤y.toNat):=aD7 _ 65;have a4:decide (((y.toNat:Nat):Int)≤90)=decide (y.toNat≤90):=aDr _ 90;have a5:decide (((y.toNat:Nat):Int)≥48)=decide (48≤y.toNat):=aD7 _ 48;have a6:decide (((y.toNat:Nat):Int)≤57)=decide (y.toNat≤57):=aDr _ 57;have a7:(((y.toNat:Nat):Int)==95)=(y.toNat==95):=by
   by_cases h:y.toNat=95
   ·rw [h];rfl
   ·rw [beq_eq_false_iff_ne.2 h];simp;omega
  simp only [a1,a2,a3,a4,a5,a6,a7,Option.bind_eq_bind,Option.bind_some];have hn:j4 y=(((decide (97≤y.toNat)&&decide (y.toNat≤122))||(decide (65≤y.toNat)&&decide (y.toNat≤90)))||(decide (48≤y.toNat)&&decide (y.toNat≤57))||(y.toNat==95)):=rfl;rw [hn];generalize decide (97≤y.toNat)=b1;generalize decide (y.toNat≤122)=b2;generalize decide (65≤y.toNat)=b3;generalize decide (y.toNat≤90)=b4;generalize decide (48≤y.toNat)=b5;generalize decide (y.toNat≤57)=b6;generalize (y.toNat==95)=b7;cases b1<;>cases b2<;>cases b3<;>cases b4<;>cases b5<;>cases b6<;>cases b7<;>first|exact ih|rfl
def w5(c:UInt8)(lo hi:Nat)(under:Bool):Bool:=(decide (lo≤c.toNat)&&decide (c.toNat≤hi))||(under&&c.toNat==95)
def aFH(s:Str)(lo hi:Nat)(under:Bool):Bool:=match s with| []=>false|c::_=>decide (s.length≤12)&&w5 c lo hi under&&s.all j4
theorem yA(s:Str)(lo hi:Nat)(under:Bool)(hl:s.length<4611686018427387904):jX s (lo:Int) (hi:Int) under=some (aFH s lo hi under):=by
 rw [jX,tA];cases s with
 |nil=>rfl
 |cons c r=>
  have e1:decide ((1:Int)≤(((c::r).length:Nat):Int))=true:=decide_eq_true (by simp;omega);have e2:decide ((((c::r).length:Nat):Int)≤12)=decide ((c::r).length≤12):=aDr _ 12;have a3:decide (((c.toNat:Nat):Int)≥(lo:Int))=decide (lo≤c.toNat):=aD7 _ _;have a4:decide (((c.toNat:Nat):Int)≤(hi:Int))=decide (c.toNat≤hi):=aDr _ _;have a7:(((c.toNat:Nat):Int)==95)=(c.toNat==95):=by
   by_cases h:c.toNat=95
   ·rw [h];rfl
   ·rw [beq_eq_false_iff_ne.2 h];simp;omega
  have hw:=sW (c::r) hl;rw [vR];simp only [e1,e2,a3,a4,a7,if_true,hw,Option.bind_eq_bind,Option.bind_some,aFH,w5];generalize decide ((c::r).length≤12)=b1;generalize decide (lo≤c.toNat)=b2;generalize decide (c.toNat≤hi)=b3;generalize (c.toNat==95)=b4;generalize (c::r).all j4=b5;cases under<;>cases b1<;>cases b2<;>cases b3<;>cases b4<;>cases b5<;>rfl
set_option maxRecDepth 100000 in
theorem y0: ∀n<256,((decide (65≤n)&&decide (n≤90))||(false&&n==95))=decide (nG n=3):=by decide
theorem mR(s:Str)(hl:s.length<4611686018427387904):fO s=some (fI s):=by
 have h:=yA s 65 90 false hl;rw [fO];show(jX s ((65:Nat):Int) ((90:Nat):Int) false).bind (fun r2=>some r2)=_;rw [h];unfold fI isWord;cases s with
 |nil=>rfl
 |cons c r=>
  show some (decide ((c::r).length≤12)&&w5 c 65 90 false&&(c::r).all j4)=some (decide ((c::r).length≤12)&&decide (nG c.toNat=3)&&(c::r).all j4);rw [←y0 _ c.toNat_lt];rfl
theorem nM: ∀a:Str,Op.bytesLess a a=false
 | []=>rfl
 |x::a=>by
  have: ¬x<x:=by rw [UInt8.lt_iff_toNat_lt];omega
  simp [Op.bytesLess,nM a,this]
theorem zB: ∀{a b c:Str},Op.bytesLess a b=true→Op.bytesLess b c=true→Op.bytesLess a c=true
 |_,[],_,h,_=>by simp [Op.bytesLess] at h
 |_,_::_,[],_,h=>by simp [Op.bytesLess] at h
 | [],_::_,_::_,_,_=>rfl
 |x::a,y::b,z::c,h1,h2=>by
  simp only [Op.bytesLess,Bool.or_eq_true,Bool.and_eq_true,decide_eq_true_eq,beq_iff_eq,UInt8.lt_iff_toNat_lt] at h1 h2⊢;rcases h1 with h1|⟨rfl,h1⟩
  ·rcases h2 with h2|⟨rfl,h2⟩
   ·exact .inl (by omega)
   ·exact .inl h1
  ·rcases h2 with h2|⟨rfl,h2⟩
   ·exact .inl h2
   ·exact .inr ⟨rfl,zB h1 h2⟩
theorem xC: ∀{a b:Str},Op.bytesLess a b=false→Op.bytesLess b a=false→a=b
 | [],[],_,_=>rfl
 | [],_::_,h,_=>by simp [Op.bytesLess] at h
 |_::_,[],_,h=>by simp [Op.bytesLess] at h
 |x::a,y::b,h1,h2=>by
  simp only [Op.bytesLess,Bool.or_eq_false_iff,decide_eq_false_iff_not,UInt8.lt_iff_toNat_lt] at h1 h2;have hxy:x=y:=UInt8.toNat_inj.1 (by omega);subst hxy;have e:(x==x)=true:=by simp
  simp only [e,Bool.true_and] at h1 h2;rw [xC h1.2 h2.2]
def ltE(a b:aA):Bool:=Op.bytesLess a.effect b.effect||(a.effect==b.effect&&decide (a.instance_<b.instance_))
def okA(a b:aA):Bool:=ltE a b||(!ltE b a&&decide (b.marker<a.marker))
theorem sM(a:aA):ltE a a=false:=by simp [ltE,nM]
theorem iF{a b c:aA}(h1:ltE a b=true)(h2:ltE b c=true):ltE a c=true:=by
 simp only [ltE,Bool.or_eq_true,Bool.and_eq_true,decide_eq_true_eq,beq_iff_eq] at h1 h2⊢;rcases h1 with h1|⟨e1,h1⟩
 ·rcases h2 with h2|⟨e2,h2⟩
  ·exact .inl (zB h1 h2)
  ·exact .inl (by rw [←e2];exact h1)
 ·rcases h2 with h2|⟨e2,h2⟩
  ·exact .inl (by rw [e1];exact h2)
  ·exact .inr ⟨e1.trans e2,by omega⟩
theorem v9{a b:aA}(h:ltE a b=true):ltE b a=false:=by
 cases q:ltE b a with
 |false=>rfl
 |true=>have:=iF h q;rw [sM] at this;cases this
theorem nS{a b:aA}(h1:ltE a b=false)(h2:ltE b a=false):a.effect=b.effect∧a.instance_=b.instance_:=by
 simp only [ltE,Bool.or_eq_false_iff,Bool.and_eq_false_iff,decide_eq_false_iff_not,beq_eq_false_iff_ne] at h1 h2;have e:=xC h1.1 h2.1;refine⟨e,?_⟩;rcases h1.2 with h|h
 ·exact absurd e h
 ·rcases h2.2 with k|k
  ·exact absurd e.symm k
  ·omega
theorem jI{a a' b:aA}(h1:a.effect=a'.effect)(h2:a.instance_=a'.instance_):ltE a b=ltE a' b∧ltE b a=ltE b a':=by simp only [ltE,h1,h2,and_self]
theorem qD{a b c:aA}(h1:ltE b a=false)(h2:ltE c b=false):ltE c a=false:=by
 cases q:ltE c a with
 |false=>rfl
 |true=>
  cases q1:ltE a b with
  |true=>have:=iF q q1;rw [h2] at this;cases this
  |false=>
   obtain⟨e1,e2⟩:=nS q1 h1;have:=(jI (b:=c) e1 e2).2;rw [q] at this;rw [←this] at h2;cases h2
theorem rZ{a b:aA}(h:okA a b=true):ltE b a=false:=by
 simp only [okA,Bool.or_eq_true,Bool.and_eq_true,Bool.not_eq_true'] at h;rcases h with h|h
 ·exact v9 h
 ·exact h.1
theorem aCy{a b c:aA}(h1:okA a b=true)(h2:okA b c=true):okA a c=true:=by
 have n1:=rZ h1;have n2:=rZ h2;have n3:=qD n1 n2;simp only [okA,Bool.or_eq_true,Bool.and_eq_true,Bool.not_eq_true',decide_eq_true_eq] at h1 h2⊢;rcases h1 with h1|⟨_,h1⟩
 ·rcases h2 with h2|⟨_,h2⟩
  ·exact .inl (iF h1 h2)
  ·cases q:ltE b c with
   |true=>exact .inl (iF h1 q)
   |false=>
    obtain⟨e1,e2⟩:=nS q n2;exact .inl (by rw [←(jI (b:=a) e1 e2).2];exact h1)
 ·cases q:ltE a b with
  |true=>
   rcases h2 with h2|⟨_,h2⟩
   ·exact .inl (iF q h2)
   ·cases q2:ltE b c with
    |true=>exact .inl (iF q q2)
    |false=>
     obtain⟨e1,e2⟩:=nS q2 n2;exact .inl (by rw [←(jI (b:=a) e1 e2).2];exact q)
  |false=>
   obtain⟨e1,e2⟩:=nS q n1;rcases h2 with h2|⟨_,h2⟩
   ·exact .inl (by rw [(jI (b:=c) e1 e2).1];exact h2)
   ·exact .inr ⟨n3,by omega⟩
def aCQ(x y:Int):Int:=if x<y then-1 else if y<x then 1 else 0
theorem m8(x y:Int):fL x y=some (aCQ x y):=by
 have e1:(x !=x)=false:=by simp
 have e2:(y !=y)=false:=by simp
 rw [fL,iD,iD,e1,e2];unfold aCQ;by_cases h:x<y
 ·simp [h]
 ·by_cases k:y<x
  ·simp [h,k]
  ·simp [h,k]
def aFc(x y:Str):Int:=if Op.bytesLess x y=true then-1 else if Op.bytesLess y x=true then 1 else 0
theorem rU(x y:Str):dO x y=some (aFc x y):=by
 have e1:(x==x)=true:=by simp
 have e2:(y==y)=true:=by simp
 rw [dO,dY,dY,e1,e2];unfold aFc;cases h:Op.bytesLess x y with
 |true=>simp
 |false=>
  cases k:Op.bytesLess y x with
  |true=>
   have hne:(x==y)=false:=by
    rw [beq_eq_false_iff_ne];rintro rfl;rw [nM] at k;cases k
   simp [hne]
  |false=>
   have:=xC h k;subst this;simp
theorem vD(a b:Int):oI [a,b]=some (if a≠0 then a else b):=by
 rw [oI,hY];have i0:idx [a,b] 0=some a:=rfl;have d0:decide ((0:Int)<(([a,b]:List Int).length:Int))=true:=rfl;have w0:IntKind.wrap .i64 ((0:Int)+1)=1:=by decide
 rw [d0,i0,w0];by_cases h:a=0
 ·subst h;have e:((0:Int) !=0)=false:=rfl;simp only [if_true,Option.bind_eq_bind,Option.bind_some,e,Bool.false_eq_true,if_false,nf];rw [hY];have i1:idx [(0:Int),b] 1=some b:=rfl;have d1:decide ((1:Int)<(([(0:Int),b]:List Int).length:Int))=true:=rfl;have w1:IntKind.wrap .i64 ((1:Int)+1)=2:=by decide
  rw [d1,i1,w1];by_cases k:b=0
  ·subst k;have e:((0:Int) !=0)=false:=rfl;simp only [if_true,Option.bind_eq_bind,Option.bind_some,e,Bool.false_eq_true,if_false,nf];rw [hY];have d2:decide ((2:Int)<(([(0:Int),0]:List Int).length:Int))=false:=rfl;rw [d2]
   rfl
  ·have e:(b !=0)=true:=by simpa using k
   simp only [if_true,Option.bind_eq_bind,Option.bind_some,e];simp
 ·have e:(a !=0)=true:=by simpa using h
  simp only [if_true,Option.bind_eq_bind,Option.bind_some,e];simp [h]
def yS(a b:aA):Int:=if ltE a b=true then-1 else if ltE b a=true then 1 else 0
theorem sH(a b:aA):cP a b=some (yS a b):=by
 rw [cP,rU,m8];simp only [Option.bind_eq_bind,Option.bind_some,vD]
 congr 1
 unfold yS aFc aCQ ltE;cases h:Op.bytesLess a.effect b.effect with
 |true=>simp
 |false=>
  cases k:Op.bytesLess b.effect a.effect with
  |true=>
   have hne:(a.effect==b.effect)=false:=by
    rw [beq_eq_false_iff_ne];intro e;rw [e,nM] at k;cases k
   simp [hne]
  |false=>
   have e:=xC h k;simp [e]
theorem aFi(q y:aA):decide ((if yS q y≠0 then yS q y else aCQ y.marker q.marker)≥0)= !okA q y:=by
 unfold yS okA aCQ;cases h:ltE q y with
 |true=>simp
 |false=>
  cases k:ltE y q with
  |true=>simp
  |false=>
   by_cases m:y.marker<q.marker
   ·simp [m]
   ·by_cases m2:q.marker<y.marker
    ·simp [m,m2]
    ·simp [m,m2]
theorem aBv(a b:aA):iR a b=some (ltE a b):=by
 rw [iR];unfold ltE;cases Op.bytesLess a.effect b.effect<;>cases (a.effect==b.effect)<;>rfl
theorem aDX(q y:aA):(ltE y q||(!ltE q y&&decide (y.marker≥q.marker)))= !okA q y:=by
 unfold okA;cases h:ltE q y with
 |true=>rw [v9 h];rfl
 |false=>
  cases k:ltE y q with
  |true=>rfl
  |false=>
   by_cases m:y.marker<q.marker
   ·simp [m]
   ·simp [m];omega
def x6(y:aA):Bool:=decide (y.instance_<0)||decide (y.marker<0)
def mH:Option aA→List aA→Ctl Int Unit
 |_,[]=> .nx ()
 |p,y::r=>if fI y.effect=true then(if x6 y=true then .ret 1 else if(match p with|some q=> !okA q y|none=>false)=true then .ret 1 else mH (some y) r) else .ret 4
def gU(v:List aA):Int:=if v.length>200 then 3 else match mH none v with| .ret q=>q| .nx _=>0
def qQ(l:List aA)(k:Nat):Option aA:=match k with|0=>none|k+1=>l[k]?
theorem prev_next{l:List aA}{k:Nat}{y:aA}{r:List aA}(h:l.drop k=y::r):qQ l (k+1)=some y:=by
 show l[k]?=some y;have:(l.drop k)[0]?=some y:=by rw [h];rfl
 rw [List.getElem?_drop] at this;simpa using this
theorem zN{l:List aA}{k:Nat}(hk:k+1<l.length)(hl:l.length<4611686018427387904): ∃q,qQ l (k+1)=some q∧idx l (IntKind.wrap .i64 (((k+1:Nat):Int)-1))=some q:=by
 have hk':k<l.length:=by omega
 refine⟨l[k],List.getElem?_eq_getElem hk',?_⟩;rw [wrap64 (by omega) (by omega)];unfold idx;rw [if_pos (by omega)];have:(((k+1:Nat):Int)-1).toNat=k:=by omega
 rw [this];exact List.getElem?_eq_getElem hk'
theorem jZ(v:List aA):bX v=some (gU v):=by
 rw [bX];unfold gU;by_cases hl:v.length>200
 ·have:decide ((v.length:Int)>200)=true:=decide_eq_true (by omega);rw [this,if_pos hl];rfl
 ·have:decide ((v.length:Int)>200)=false:=decide_eq_false (by omega);rw [this,if_neg hl];have hlen:v.length<4611686018427387904:=by omega
  have key:bU v 0=some (mH none v):=by
   refine jQ (C:=fun k r=>bU v (k:Int)=some (mH (qQ v k) r)) hlen (fun hd=> ?_) fun k y r hd hk _ hlt hi hw ih=> ?_
   ·rw [bU,hd];rfl
   ·rw [bU,if_pos hlt,hi,hw];rw [prev_next hd] at ih;simp only [Option.bind_eq_bind,Option.bind_some,lF,mH];cases hu:fI y.effect with
    |false=>rfl
    |true=>
     simp only [Bool.not_true,Bool.false_eq_true,if_false,if_true];have hn:(if decide (y.instance_<0)=true then some true else some (decide (y.marker<0)):Option Bool)=some (x6 y):=by
      unfold x6;cases decide (y.instance_<0)<;>rfl
     rw [hn];simp only [Option.bind_some];cases x6 y with
     |true=>rfl
     |false=>
      simp only [Bool.false_eq_true,if_false];cases k with
      |zero=>
       have:decide (((0:Nat):Int)>0)=false:=rfl;rw [this];simp only [Bool.false_eq_true,if_false,Option.bind_some,qQ,nf];exact ih
      |succ k=>
       obtain⟨q,h1,h2⟩:=zN hk hlen;have:decide (((k+1:Nat):Int)>0)=true:=decide_eq_true (by omega);rw [this,h2,h1];simp only [if_true,Option.bind_some,sH,m8,vD,aFi,nf];rcases Bool.eq_false_or_eq_true (okA q y) with hq|hq
       ·simp only [hq,Bool.not_true,Bool.false_eq_true,if_false];exact ih
       ·simp only [hq,Bool.not_false,if_true]
  rw [key];simp only [Bool.false_eq_true,if_false,Option.bind_eq_bind,Option.bind_some];cases mH none v<;>rfl
theorem kU(v:List aA)(hs: ∀y∈v,y.effect.length≤100):fE v=some (gU v):=by
 rw [fE];unfold gU;by_cases hl:v.length>200
 ·have:decide ((v.length:Int)>200)=true:=decide_eq_true (by omega);rw [this,if_pos hl];rfl
 ·have:decide ((v.length:Int)>200)=false:=decide_eq_false (by omega);rw [this,if_neg hl];have hlen:v.length<4611686018427387904:=by omega
  have key:dQ v 0=some (mH none v):=by
   refine jQ (C:=fun k r=>dQ v (k:Int)=some (mH (qQ v k) r)) hlen (fun hd=> ?_) fun k y r hd hk hm hlt hi hw ih=> ?_
   ·rw [dQ,hd];rfl
   ·rw [dQ,if_pos hlt,hi,hw];rw [prev_next hd] at ih;simp only [Option.bind_eq_bind,Option.bind_some,mR y.effect (by have:=hs y hm;omega),mH];cases hu:fI y.effect with
    |false=>rfl
    |true=>
     simp only [Bool.not_true,Bool.false_eq_true,if_false,if_true];have hn:(if decide (y.instance_<0)=true then some true else some (decide (y.marker<0)):Option Bool)=some (x6 y):=by
      unfold x6;cases decide (y.instance_<0)<;>rfl
     rw [hn];simp only [Option.bind_some];cases x6 y with
     |true=>rfl
     |false=>
      simp only [Bool.false_eq_true,if_false];cases k with
      |zero=>
       have:decide (((0:Nat):Int)>0)=false:=rfl;rw [this];simp only [Bool.false_eq_true,if_false,Option.bind_some,qQ,nf];exact ih
      |succ k=>
       obtain⟨q,h1,h2⟩:=zN hk hlen;have:decide (((k+1:Nat):Int)>0)=true:=decide_eq_true (by omega);rw [this,h2,h1];simp only [if_true,Option.bind_some,aBv,nf];have hb:((if ltE y q=true then some true else(if(!ltE q y)=true then some (decide (y.marker≥q.marker)) else some false).bind fun c16=>some c16).bind fun c16=>some c16)=some (!okA q y):=by
        rw [←aDX q y];cases ltE y q<;>cases ltE q y<;>rfl
       rw [hb];rcases Bool.eq_false_or_eq_true (okA q y) with hq|hq
       ·simp only [hq,Bool.not_true,Bool.false_eq_true,if_false,Option.bind_some];exact ih
       ·simp only [hq,Bool.not_false,if_true,Option.bind_some]
  rw [key];simp only [Bool.false_eq_true,if_false,Option.bind_eq_bind,Option.bind_some];cases mH none v<;>rfl
def aCh(y:aA):Prop:=fI y.effect=true∧x6 y=false
structure Valid(v:List aA):Prop where
 len:v.length≤200
 aCh: ∀y∈v,aCh y
 ok:v.Pairwise fun a b=>okA a b=true
theorem wS: ∀(p:Option aA)(v:List aA),mH p v= .nx ()↔(∀y∈v,aCh y)∧v.Pairwise (fun a b=>okA a b=true)∧ ∀q,p=some q→ ∀y∈v,okA q y=true
 |p,[]=>by simp [mH]
 |p,y::r=>by
  have ih:=wS (some y) r;unfold mH;cases hu:fI y.effect with
  |false=>
   simp only [Bool.false_eq_true,if_false,reduceCtorEq,false_iff]
   rintro ⟨h,_⟩
   have:=(h y (by simp)).1;rw [hu] at this;cases this
  |true=>
   cases hn:x6 y with
   |true=>
    simp only [if_true,reduceCtorEq,false_iff]
    rintro ⟨h,_⟩
    have:=(h y (by simp)).2;rw [hn] at this;cases this
   |false=>
    simp only [if_true,Bool.false_eq_true,if_false];have hg:aCh y:=⟨hu,hn⟩
    have core:(∀q,p=some q→okA q y=true)→(mH (some y) r= .nx ()↔(∀z∈y::r,aCh z)∧(y::r).Pairwise (fun a b=>okA a b=true)∧ ∀q,p=some q→ ∀z∈y::r,okA q z=true):=by
     intro hq;rw [ih];constructor
     ·rintro ⟨h1,h2,h3⟩
      refine⟨fun z hz=> ?_,List.pairwise_cons.2 ⟨fun z hz=>h3 y rfl z hz,h2⟩,fun q hp z hz=> ?_⟩
      ·rcases List.mem_cons.1 hz with rfl|hz
       ·exact hg
       ·exact h1 z hz
      ·rcases List.mem_cons.1 hz with rfl|hz
       ·exact hq q hp
       ·exact aCy (hq q hp) (h3 y rfl z hz)
     ·rintro ⟨h1,h2,h3⟩
      rw [List.pairwise_cons] at h2;exact⟨fun z hz=>h1 z (List.mem_cons_of_mem _ hz),h2.2,fun q hp z hz=>by cases hp;exact h2.1 z hz⟩
    cases p with
    |none=>
     simp only [Bool.false_eq_true,if_false];exact core (fun q h=>by cases h)
    |some q=>
     rcases Bool.eq_false_or_eq_true (okA q y) with hq|hq
     ·simp only [hq,Bool.not_true,Bool.false_eq_true,if_false];exact core (fun q' h=>by cases h;exact hq)
     ·simp only [hq,Bool.not_false,if_true,reduceCtorEq,false_iff]
      rintro ⟨_,_,h3⟩
      have:=h3 q rfl y (by simp);rw [hq] at this;cases this
theorem sR: ∀(p:Option aA)(v:List aA)(q:Int),mH p v= .ret q→q=1∨q=4
 |p,[],q,h=>by simp [mH] at h
 |p,y::r,q,h=>by
  unfold mH at h;split at h
  ·split at h
   ·cases h;exact .inl rfl
   ·rename_i h1 h2;cases p with
    |none=>
     simp only [Bool.false_eq_true,if_false] at h;exact sR _ _ _ h
    |some q0=>
     rcases Bool.eq_false_or_eq_true (okA q0 y) with hq|hq
     ·simp only [hq,Bool.not_true,Bool.false_eq_true,if_false] at h;exact sR _ _ _ h
     ·simp only [hq,Bool.not_false,if_true] at h;cases h;exact .inl rfl
  ·cases h;exact .inr rfl
theorem jM(v:List aA):gU v=0↔Valid v:=by
 unfold gU;by_cases hl:v.length>200
 ·rw [if_pos hl];constructor
  ·intro h;cases h
  ·intro h;have:=h.len;omega
 ·rw [if_neg hl];cases h:mH none v with
  |ret q=>
   constructor
   ·intro h0;have:=sR _ _ _ h;simp only at h0;omega
   ·intro hv;have:=(wS none v).2 ⟨hv.aCh,hv.ok,fun q h=>by cases h⟩;rw [this] at h;cases h
  |nx u=>
   constructor
   ·intro _;obtain⟨h1,h2,_⟩:=(wS none v).1 h;exact⟨by omega,h1,h2⟩
   ·intro _;rfl
abbrev pre(v:List aA)(x:aA):List aA:=v.takeWhile (ltE · x)
abbrev suf(v:List aA)(x:aA):List aA:=v.dropWhile (ltE · x)
theorem fU(v:List aA)(x:aA):pre v x++suf v x=v:=List.takeWhile_append_dropWhile
theorem aC3{p:aA→Bool}: ∀{l:List aA}{y:aA},y∈l.takeWhile p→p y=true
 | [],_,h=>by simp at h
 |z::r,y,h=>by
  rw [List.takeWhile_cons] at h;split at h
  ·rename_i hz;rcases List.mem_cons.1 h with rfl|h
   ·exact hz
   ·exact aC3 h
  ·simp at h
theorem aDS{v:List aA}{x y:aA}(h:y∈pre v x):ltE y x=true:=aC3 (p:=(ltE · x)) h
theorem aA0{x:aA}: ∀{v:List aA},v.Pairwise (fun a b=>okA a b=true)→ ∀y∈suf v x,ltE y x=false
 | [],_,y,hy=>by simp at hy
 |z::r,hp,y,hy=>by
  rw [List.pairwise_cons] at hp;unfold suf at hy;rw [List.dropWhile_cons] at hy;split at hy
  ·exact aA0 hp.2 y hy
  ·rename_i hz;have hz:ltE z x=false:=by simpa using hz
   rcases List.mem_cons.1 hy with rfl|hy
   ·exact hz
   ·exact qD hz (rZ (hp.1 y hy))
theorem aBq{x:Int}(h:0≤x)(h':x<18446744073709551616):IntKind.wrap .u64 x=x:=by
 show(if(false&&decide (x%18446744073709551616≥9223372036854775808))=true then x%18446744073709551616-18446744073709551616 else x%18446744073709551616)=x;rw [Bool.false_and,if_neg (by decide)];omega
theorem aFe(i j:Nat)(h:i+j<4611686018427387904):IntKind.wrap .i64 (IntKind.wrap .u64 ((IntKind.wrap .u64 (IntKind.wrap .i64 ((i:Int)+(j:Int)))).fdiv (2^(min (Int.toNat (1)) (IntKind.bits .u64)))))=(((i+j)/2:Nat):Int):=by
 have a1:IntKind.wrap .i64 ((i:Int)+(j:Int))=(i:Int)+(j:Int):=wrap64 (by omega) (by omega);have a2:IntKind.wrap .u64 ((i:Int)+(j:Int))=(i:Int)+(j:Int):=aBq (by omega) (by omega);rw [a1,a2];have e:(2^(min (Int.toNat (1)) (IntKind.bits .u64)):Int)=2:=by decide
 rw [e];have e2:((i:Int)+(j:Int)).fdiv 2=(((i+j)/2:Nat):Int):=by
  rw [Int.fdiv_eq_ediv_of_nonneg _ (by omega)];omega
 rw [e2,aBq (by omega) (by omega),wrap64 (by omega) (by omega)]
theorem aE6(v:List aA)(x y:aA)(i:Nat)(h:v[i]?=some y):cH (i:Int) v x=some (!ltE y x):=by
 rw [cH];have:idx v (i:Int)=some y:=by unfold idx;rw [if_pos (by omega)];exact h
 rw [this];simp only [Option.bind_eq_bind,Option.bind_some,sH]
 congr 1
 unfold yS;cases h1:ltE y x with
 |true=>rfl
 |false=>cases ltE x y<;>rfl
theorem p8(v:List aA)(x:aA)(hv:v.length<2305843009213693952)(p:Nat)(hp:p≤v.length)(h1: ∀i y,v[i]?=some y→i<p→ltE y x=true)(h2: ∀i y,v[i]?=some y→p≤i→ltE y x=false):
  ∀(n i j:Nat),j-i≤n→i≤p→p≤j→j≤v.length→bK v x (i:Int) (j:Int)=some (p:Int)
 |n,i,j,hn,hi,hj,hjl=>by
  by_cases hij:i<j
  ·have hd:decide ((i:Int)<(j:Int))=true:=decide_eq_true (by omega);rw [bK,if_pos hd,aFe i j (by omega)];have hm:(i+j)/2<v.length:=by omega
   have hg:v[(i+j)/2]?=some v[(i+j)/2]:=List.getElem?_eq_getElem hm;rw [aE6 v x _ _ hg];simp only [Option.bind_eq_bind,Option.bind_some,nf,Bool.not_not];cases n with
   |zero=>omega
   |succ n=>
    by_cases hc:(i+j)/2<p
    ·rw [h1 _ _ hg hc];simp only [if_true];have e:IntKind.wrap .i64 ((((i+j)/2:Nat):Int)+1)=(((i+j)/2+1:Nat):Int):=by
      rw [wrap64 (by omega) (by omega)];omega
     rw [e];exact p8 v x hv p hp h1 h2 n _ j (by omega) (by omega) hj hjl
    ·rw [h2 _ _ hg (by omega)];simp only [Bool.false_eq_true,if_false];exact p8 v x hv p hp h1 h2 n i _ (by omega) hi (by omega) (by omega)
  ·have hd:decide ((i:Int)<(j:Int))=false:=decide_eq_false (by omega);rw [bK,hd];have:i=p:=by omega
   rw [this];rfl
theorem aFo{v:List aA}{x:aA}(hp:v.Pairwise fun a b=>okA a b=true):(∀i y,v[i]?=some y→i<(pre v x).length→ltE y x=true)∧ ∀i y,v[i]?=some y→(pre v x).length≤i→ltE y x=false:=by
 have e:=fU v x;refine⟨fun i y h hi=> ?_,fun i y h hi=> ?_⟩
 ·rw [←e,List.getElem?_append_left hi] at h;exact aDS (List.mem_of_getElem? h)
 ·rw [←e,List.getElem?_append_right hi] at h;exact aA0 hp y (List.mem_of_getElem? h)
theorem xL(v:List aA)(x:aA):(pre v x).length≤v.length:=by
 have:=congrArg List.length (fU v x);rw [List.length_append] at this;omega
theorem sL{v:List aA}(hv:Valid v)(x:aA):cR v x=some ((pre v x).length:Int):=by
 have hl:=hv.len;obtain⟨h1,h2⟩:=aFo (x:=x) hv.ok;have h:=p8 v x (by omega) _ (xL v x) h1 h2 v.length 0 v.length (by omega) (by omega) (xL v x) (Nat.le_refl _);rw [cR,fN];show(bK v x ((0:Nat):Int) (v.length:Int)).bind (fun o7=>some o7)>>=(fun r3=>some r3)=_;rw [h];rfl
def pR(v:List aA)(x:aA):List aA:=pre v x++x::suf v x
theorem aDc(v:List aA)(x:aA):(pR v x).length=v.length+1:=by
 have:=congrArg List.length (fU v x);rw [List.length_append] at this;simp only [pR,List.length_append,List.length_cons];omega
theorem mY(v:List aA)(x:aA):v.take (pre v x).length=pre v x∧v.drop (pre v x).length=suf v x:=by
 have e:=fU v x;have h1:(pre v x++suf v x).take (pre v x).length=pre v x:=List.take_left' rfl;have h2:(pre v x++suf v x).drop (pre v x).length=suf v x:=List.drop_left' rfl;generalize pre v x=p at e h1 h2⊢;generalize suf v x=s at e h1 h2⊢;subst e;exact⟨h1,h2⟩
theorem z7{v:List aA}(hv:Valid v)(x:aA):dU v x=some (pR v x):=by
 have hl:=hv.len;unfold dU;rw [sL hv x];have hp:=xL v x;simp only;rw [if_pos ⟨by omega,by omega,by omega⟩];have:(((pre v x).length:Int)).toNat=(pre v x).length:=by omega
 rw [this,(mY v x).1,(mY v x).2]
 rfl
def aAZ(v:List aA)(x:aA):List aA×Int:=
 if gU v≠0 then([],gU v) else if gU (pR v x)≠0 then([],gU (pR v x)) else(pR v x,0)
theorem rB(v:List aA)(x:aA):cX v x=some (aAZ v x):=by
 rw [cX,jZ];unfold aAZ;by_cases h:gU v=0
 ·have hv:=(jM v).1 h;have e:(gU v !=0)=false:=by rw [h];rfl
  simp only [Option.bind_eq_bind,Option.bind_some,e,Bool.false_eq_true,if_false,z7 hv x,jZ,h,ne_eq,not_true,if_false];by_cases k:gU (pR v x)=0
  ·simp [k]
  ·simp [k]
 ·simp [h]
theorem aA2(v:List aA)(x:aA)(hl:v.length<4611686018427387904):cI v x 0=some ((pre v x).length:Int):=by
 have key:=jQ (l:=v) (C:=fun k r=>cI v x (k:Int)=some (((k+(pre r x).length:Nat)):Int)) hl (fun hd=> ?_) fun k y r _ _ _ hlt hi hw ih=> ?_
 ·rw [Nat.zero_add] at key;exact key
 ·rw [cI,hd];rfl
 ·rw [cI,hlt,hi,hw];simp only [if_true,Option.bind_eq_bind,Option.bind_some,aBv,nf];cases h:ltE y x with
  |true=>
   simp only [if_true];rw [ih];have:(pre (y::r) x).length=(pre r x).length+1:=by simp [pre,List.takeWhile_cons,h]
   rw [this]
   congr 2;omega
  |false=>
   have:(pre (y::r) x).length=0:=by simp [pre,List.takeWhile_cons,h]
   rw [this];rfl
theorem jL{α:Type}(b:Nat)(hb:b≤32)(xs ys:List α)(h:xs.length+ys.length≤1000):app b xs ys=some (xs++ys):=by
 refine aFt ?_ (by have:big=1099511627776:=rfl;omega);have h1:(xs.length+ys.length)*b≤1000*32:=Nat.mul_le_mul h hb;have:big=1099511627776:=rfl;omega
theorem zR(v:List aA)(x:aA)(hl:v.length≤300):fT v x=some (pR v x):=by
 have hp:=xL v x;rw [fT,aA2 v x (by omega)];have c1:cut v 0 ((pre v x).length:Int)=some (pre v x):=by
  have:=aBK (pre v x) (suf v x);rwa [fU] at this
 have c2:cut v ((pre v x).length:Int) (v.length:Int)=some (suf v x):=by
  unfold cut;rw [if_pos ⟨by omega,by omega,by omega⟩];have e1:((v.length:Int)).toNat=v.length:=by omega
  have e2:(((pre v x).length:Int)).toNat=(pre v x).length:=by omega
  rw [e1,e2,List.take_length,(mY v x).2]
 have hs:=congrArg List.length (fU v x);rw [List.length_append] at hs;simp only [Option.bind_eq_bind,Option.bind_some,c1,c2];rw [jL 32 (by decide) [] (pre v x) (by simp;omega)];simp only [Option.bind_some,List.nil_append];rw [jL 32 (by decide) (pre v x) [x] (by simp;omega)];simp only [Option.bind_some];rw [jL 32 (by decide) (pre v x++ [x]) (suf v x) (by simp;omega)];simp [pR]
theorem aB7{v:List aA}{x:aA}(h: ∀y∈v,y.effect.length≤100)(hx:x.effect.length≤100): ∀y∈pR v x,y.effect.length≤100:=by
 intro y hy;simp only [pR,List.mem_append,List.mem_cons] at hy;rcases hy with hy|rfl|hy
 ·exact h y ((List.takeWhile_sublist _).mem hy)
 ·exact hx
 ·exact h y ((List.dropWhile_sublist _).mem hy)
theorem aA9(v:List aA)(x:aA)(h: ∀y∈v,y.effect.length≤100)(hx:x.effect.length≤100):hN v x=some (aAZ v x):=by
 rw [hN,kU v h];unfold aAZ;by_cases h0:gU v=0
 ·have hv:=(jM v).1 h0;have hl:=hv.len;have e:(gU v !=0)=false:=by rw [h0];rfl
  simp only [Option.bind_eq_bind,Option.bind_some,e,Bool.false_eq_true,if_false,zR v x (by omega),kU (pR v x) (aB7 h hx),h0,ne_eq,not_true,if_false];by_cases k:gU (pR v x)=0
  ·simp [k]
  ·simp [k]
 ·simp [h0]
def isE(e:Str)(n:Int)(y:aA):Bool:=y.effect==e&&y.instance_==n
theorem w9(e:Str)(n m:Int)(y:aA):isE e n y=(!ltE y ⟨e,n,m⟩&& !ltE ⟨e,n,m⟩ y):=by
 cases h:isE e n y with
 |true=>
  simp only [isE,Bool.and_eq_true,beq_iff_eq] at h;have h1:=(jI (a:=y) (a':=⟨e,n,m⟩) (b:=⟨e,n,m⟩) h.1 h.2)
  rw [h1.1,h1.2,sM];rfl
 |false=>
  cases h1:ltE y ⟨e,n,m⟩ with
  |true=>rfl
  |false=>
   cases h2:ltE ⟨e,n,m⟩ y with
   |true=>rfl
   |false=>
    obtain⟨k1,k2⟩:=nS h1 h2;simp only at k1 k2;simp [isE,k1,k2] at h
theorem aBU{v:List aA}(hv:v.Pairwise fun a b=>okA a b=true)(e:Str)(n m:Int):
  (∀y∈pre v ⟨e,n,m⟩,isE e n y=false)∧ ∀z r,suf v ⟨e,n,m⟩=z::r→isE e n z=false→ ∀y∈r,isE e n y=false:=by
 refine⟨fun y hy=> ?_,fun z r hs hz y hy=> ?_⟩
 ·rw [w9 e n m,aDS hy];rfl
 ·have hp:(suf v ⟨e,n,m⟩).Pairwise fun a b=>okA a b=true:=hv.sublist (List.dropWhile_sublist _);have hz1:ltE z ⟨e,n,m⟩=false:=aA0 hv z (by rw [hs];simp);rw [hs,List.pairwise_cons] at hp;rw [w9 e n m,hz1] at hz;simp only [Bool.not_false,Bool.true_and,Bool.not_eq_false'] at hz;have hzy:=rZ (hp.1 y hy);rw [w9 e n m];cases q:ltE ⟨e,n,m⟩ y with
  |true=>simp
  |false=>
   have:=qD hzy q;cases q2:ltE z y with
   |true=>rw [iF hz q2] at q;cases q
   |false=>
    obtain⟨k1,k2⟩:=nS q2 hzy;rw [(jI (b:=⟨e,n,m⟩) k1 k2).2,q] at hz;cases hz
def o5:aA:=⟨[],0,0⟩
def lC(e:Str)(n:Int)(l:List aA):Option aA:=match l with| []=>none|z::_=>if isE e n z=true then some z else none
theorem z2{v:List aA}(hv:Valid v)(e:Str)(n:Int):dH v e n=some (match lC e n (suf v ⟨e,n,0⟩) with|some z=>(z,true)|none=>(o5,false)):=by
 rw [dH,sL hv];have hs:=fU v ⟨e,n,0⟩;cases hq:suf v ⟨e,n,0⟩ with
 |nil=>
  have e1:(pre v ⟨e,n,0⟩).length=v.length:=by
   have:=congrArg List.length hs;rw [List.length_append,hq] at this;simpa using this
  simp only [Option.bind_eq_bind,Option.bind_some,e1];simp [lC,o5]
 |cons z r=>
  have e1:(pre v ⟨e,n,0⟩).length+(r.length+1)=v.length:=by
   have:=congrArg List.length hs;rw [List.length_append,hq] at this;simpa using this
  have e2:(((pre v ⟨e,n,0⟩).length:Int)==(v.length:Int))=false:=by
   rw [beq_eq_false_iff_ne];omega
  have e3:idx v ((pre v ⟨e,n,0⟩).length:Int)=some z:=by
   have:=aDQ (pre v ⟨e,n,0⟩) z r;rwa [←hq,hs] at this
  have e4:(yS z ⟨e,n,0⟩ !=0)= !isE e n z:=by
   rw [w9 e n 0];unfold yS;cases ltE z ⟨e,n,0⟩<;>cases ltE ⟨e,n,0⟩ z<;>rfl
  simp only [Option.bind_eq_bind,Option.bind_some,e2,e3,Bool.false_eq_true,if_false,sH,e4,lC];rcases Bool.eq_false_or_eq_true (isE e n z) with h|h
  ·simp [h]
  ·simp [h,o5]
theorem aAr(v:List aA)(e:Str)(n:Int)(hl:v.length<4611686018427387904):jT v e n=some (aEf (isE e n) v 0):=by
 have h:=aEs v hl (isE e n) (fun i=>gM v e n i) (fun i=>by
  rw [gM];cases idx v i with
  |none=>rfl
  |some y=>
   have hb:(if(y.effect==e)=true then some (y.instance_==n) else some false)=some (isE e n y):=by
    unfold isE;cases (y.effect==e)<;>rfl
   simp only [Option.bind_eq_bind,Option.bind_some,nf,hb])
 rw [jT,h];unfold aEf;show(match fnd (isE e n) v 0 with| .ret q9=>some q9| .nx q10=>some (-1))=_;cases fnd (isE e n) v 0<;>rfl
theorem tJ{α:Type}{p:α→Bool}{r:List α}: ∀{l:List α}{k:Nat},(∀y∈l,p y=false)→fnd p (l++r) k=fnd p r (k+l.length)
 | [],k,_=>by simp
 |y::l,k,h=>by
  have:=h y (by simp);rw [List.cons_append,fnd,this];simp only [Bool.false_eq_true,if_false];rw [tJ (fun z hz=>h z (by simp [hz]))]
  congr 1
  simp;omega
theorem aDb{α:Type}{p:α→Bool}{l:List α}{k:Nat}(h: ∀y∈l,p y=false):fnd p l k= .nx ():=by
 have:=tJ (r:= []) (k:=k) h;rw [List.append_nil] at this;rw [this];rfl
theorem aBM{v:List aA}(hv:Valid v)(e:Str)(n:Int):aEf (isE e n) v 0=match lC e n (suf v ⟨e,n,0⟩) with|some _=>((pre v ⟨e,n,0⟩).length:Int)|none=> -1:=by
 obtain⟨h1,h2⟩:=aBU hv.ok e n 0;have hs:=fU v ⟨e,n,0⟩;unfold aEf;have e0:fnd (isE e n) v 0=fnd (isE e n) (suf v ⟨e,n,0⟩) (pre v ⟨e,n,0⟩).length:=by
  have:=tJ (r:=suf v ⟨e,n,0⟩) (k:=0) h1;rw [hs,Nat.zero_add] at this;exact this
 rw [e0];cases hq:suf v ⟨e,n,0⟩ with
 |nil=>rfl
 |cons z r=>
  rcases Bool.eq_false_or_eq_true (isE e n z) with h|h
  ·simp [fnd,lC,h]
  ·have:=aDb (k:=(pre v ⟨e,n,0⟩).length+1) (h2 z r hq h);simp [fnd,lC,h,this]
def vG(v:List aA)(e:Str)(n:Int):aA×Int:=
 if gU v≠0 then(o5,gU v) else match lC e n (suf v ⟨e,n,0⟩) with|some z=>(z,0)|none=>(o5,6)
theorem wH(v:List aA)(e:Str)(n:Int):dC v e n=some (vG v e n):=by
 rw [dC,jZ];unfold vG;by_cases h:gU v=0
 ·have hv:=(jM v).1 h;have e0:(gU v !=0)=false:=by rw [h];rfl
  simp only [Option.bind_eq_bind,Option.bind_some,e0,Bool.false_eq_true,if_false,z2 hv,h,ne_eq,not_true,if_false];cases lC e n (suf v ⟨e,n,0⟩) with
  |none=>rfl
  |some z=>rfl
 ·simp [h,o5]
theorem aDi(v:List aA)(e:Str)(n:Int)(hs: ∀y∈v,y.effect.length≤100):lD v e n=some (vG v e n):=by
 rw [lD,kU v hs];unfold vG;by_cases h:gU v=0
 ·have hv:=(jM v).1 h;have hl:=hv.len;have e0:(gU v !=0)=false:=by rw [h];rfl
  simp only [Option.bind_eq_bind,Option.bind_some,e0,Bool.false_eq_true,if_false,aAr v e n (by omega),aBM hv,h,ne_eq,not_true,if_false];cases hq:suf v ⟨e,n,0⟩ with
  |nil=>rfl
  |cons z r=>
   rcases Bool.eq_false_or_eq_true (isE e n z) with k|k
   ·have e1:idx v ((pre v ⟨e,n,0⟩).length:Int)=some z:=by
     have:=aDQ (pre v ⟨e,n,0⟩) z r;rwa [←hq,fU] at this
    have e2:decide (((pre v ⟨e,n,0⟩).length:Int)<0)=false:=decide_eq_false (by omega);simp [lC,k,e1,e2]
   ·simp [lC,k,o5]
 ·simp [h,o5]
def aCn(v:List aA)(e:Str):List aA:=match lC e 0 (suf v ⟨e,0,0⟩) with|some _=>pre v ⟨e,0,0⟩++(suf v ⟨e,0,0⟩).drop 1|none=>v
theorem vP(v:List aA)(x:aA):v.drop ((pre v x).length+1)=(suf v x).drop 1:=by
 rw [←(mY v x).2,List.drop_drop]
theorem aBf{v:List aA}(hv:Valid v)(e:Str):eJ v e=some (aCn v e):=by
 have hl:=hv.len;unfold eJ aCn;rw [z2 hv,sL hv];cases hq:lC e 0 (suf v ⟨e,0,0⟩) with
 |none=>simp only;rw [if_pos (by omega)]
 |some z=>
  have hlt:(pre v ⟨e,0,0⟩).length<v.length:=by
   have:=congrArg List.length (fU v ⟨e,0,0⟩);rw [List.length_append] at this;cases hs:suf v ⟨e,0,0⟩ with
   |nil=>rw [hs] at hq;cases hq
   |cons y r=>rw [hs] at this;simp at this;omega
  simp only;have e1:(((pre v ⟨e,0,0⟩).length:Int)).toNat=(pre v ⟨e,0,0⟩).length:=by omega
  rw [if_pos (by omega),if_pos ⟨by omega,by omega⟩,e1,(mY v _).1,vP]
theorem zL{v:List aA}(hv:Valid v)(e:Str):fS v e=some (aCn v e):=by
 have hl:=hv.len;rw [fS,aAr v e 0 (by omega),aBM hv];unfold aCn;cases hq:lC e 0 (suf v ⟨e,0,0⟩) with
 |none=>
  have:decide ((-1:Int)<0)=true:=rfl;simp only [Option.bind_eq_bind,Option.bind_some,this,if_true];rw [jL 32 (by decide) [] v (by simp;omega)];simp
 |some z=>
  have hsl:=congrArg List.length (fU v ⟨e,0,0⟩);rw [List.length_append] at hsl;have hlt:(pre v ⟨e,0,0⟩).length<v.length:=by
   cases hs:suf v ⟨e,0,0⟩ with
   |nil=>rw [hs] at hq;cases hq
   |cons y r=>rw [hs] at hsl;simp at hsl;omega
  have c0:decide (((pre v ⟨e,0,0⟩).length:Int)<0)=false:=decide_eq_false (by omega);have c1:cut v 0 ((pre v ⟨e,0,0⟩).length:Int)=some (pre v ⟨e,0,0⟩):=by
   have:=aBK (pre v ⟨e,0,0⟩) (suf v ⟨e,0,0⟩);rwa [fU] at this
  have w1:IntKind.wrap .i64 (((pre v ⟨e,0,0⟩).length:Int)+1)=(((pre v ⟨e,0,0⟩).length+1:Nat):Int):=by
   rw [wrap64 (by omega) (by omega)];omega
  have c2:cut v (((pre v ⟨e,0,0⟩).length+1:Nat):Int) (v.length:Int)=some ((suf v ⟨e,0,0⟩).drop 1):=by
   unfold cut;rw [if_pos ⟨by omega,by omega,by omega⟩];have e1:((v.length:Int)).toNat=v.length:=by omega
   have e2:((((pre v ⟨e,0,0⟩).length+1:Nat):Int)).toNat=(pre v ⟨e,0,0⟩).length+1:=by omega
   rw [e1,e2,List.take_length,vP]
  simp only [Option.bind_eq_bind,Option.bind_some,c0,Bool.false_eq_true,if_false,c1,w1,c2];rw [jL 32 (by decide) [] (pre v ⟨e,0,0⟩) (by simp;omega)];simp only [Option.bind_some,List.nil_append];rw [jL 32 (by decide) (pre v ⟨e,0,0⟩) _ (by simp only [List.length_drop];omega)];simp
def aB3(v:List aA)(e:Str):List aA×Int:=if gU v≠0 then([],gU v) else if fI e=true then(aCn v e,0) else([],4)
theorem yR(v:List aA)(e:Str):dN v e=some (aB3 v e):=by
 rw [dN,jZ];unfold aB3;by_cases h:gU v=0
 ·have hv:=(jM v).1 h;have e0:(gU v==0)=true:=by rw [h];rfl
  simp only [Option.bind_eq_bind,Option.bind_some,e0,if_true,lF,h,ne_eq,not_true,if_false,aBf hv];cases fI e<;>rfl
 ·have e0:(gU v==0)=false:=by rw [beq_eq_false_iff_ne];exact h
  simp [e0,h]
theorem aBb(v:List aA)(e:Str)(hs: ∀y∈v,y.effect.length≤100)(he:e.length≤100):iE v e=some (aB3 v e):=by
 rw [iE,kU v hs];unfold aB3;by_cases h:gU v=0
 ·have hv:=(jM v).1 h;have e0:(gU v !=0)=false:=by rw [h];rfl
  simp only [Option.bind_eq_bind,Option.bind_some,e0,Bool.false_eq_true,if_false,mR e (by omega),h,ne_eq,not_true,if_false,zL hv];cases fI e<;>rfl
 ·simp [h]
theorem eqE(y z:aA):((y.effect==z.effect)&&((y.instance_==z.instance_)&&((y.marker==z.marker)&&true)))=true↔y=z:=by
 cases y;cases z;simp
theorem aDN(y:aA):((y.effect==y.effect)&&((y.instance_==y.instance_)&&((y.marker==y.marker)&&true)))=true:=(eqE y y).2 rfl
theorem qU(l:List aA)(hl:l.length<4611686018427387904):cS l l=some true:=by
 have key:bV l l 0=some (.nx ()):=by
  refine jQ (C:=fun k _=>bV l l (k:Int)=some (.nx ())) hl (fun hd=> ?_) fun k y r _ _ _ hlt hi hw ih=> ?_
  ·rw [bV,hd];rfl
  ·rw [bV,if_pos hlt,hi,hw];simp only [Option.bind_eq_bind,Option.bind_some,aDN,Bool.not_true,Bool.false_eq_true,if_false,nf];exact ih
 rw [cS,key];have:((l.length:Int) !=(l.length:Int))=false:=by simp
 rw [this];rfl
theorem aC8(v:List aA): ∃b,jK v=some b∧(b=false→v.length≤300∧ ∀y∈v,y.effect.length≤100):=by
 rw [jK];by_cases hl:v.length>300
 ·have:decide ((v.length:Int)>300)=true:=decide_eq_true (by omega);rw [this];exact⟨true,rfl,fun h=>by cases h⟩
 ·have:decide ((v.length:Int)>300)=false:=decide_eq_false (by omega);rw [this];have key:bY v 0=some (.ret true)∨(bY v 0=some (.nx ())∧ ∀y∈v,y.effect.length≤100):=by
   refine jQ (l:=v) (C:=fun k r=>bY v (k:Int)=some (.ret true)∨(bY v (k:Int)=some (.nx ())∧ ∀y∈r,List.length (aA.effect y)≤100)) (by omega) (fun hd=> ?_) fun k y r _ _ _ hlt hi hw ih=> ?_
   ·exact .inr ⟨by rw [bY,hd];rfl,by simp⟩
   ·have e:bY v (k:Int)=if decide ((y.effect.length:Int)>100)=true then some (.ret true) else bY v ((k+1:Nat):Int):=by
     rw [bY,if_pos hlt,hi,hw];simp only [Option.bind_eq_bind,Option.bind_some,nf]
    rw [e];by_cases h:y.effect.length>100
    ·rw [if_pos (decide_eq_true (by omega))];exact .inl rfl
    ·rw [if_neg (by simp;omega)];rcases ih with ih|⟨ih,h2⟩
     ·exact .inl ih
     ·refine .inr ⟨ih,fun z hz=> ?_⟩;rcases List.mem_cons.1 hz with rfl|hz
      ·omega
      ·exact h2 z hz
  rcases key with key|⟨key,h2⟩
  ·rw [key];exact⟨true,rfl,fun h=>by cases h⟩
  ·rw [key];exact⟨false,rfl,fun _=>⟨by omega,h2⟩⟩
theorem pV:g7=some true:=by
 have e1:aAZ [⟨[69],0,1⟩,⟨[70],0,0⟩] ⟨[69],0,2⟩=([⟨[69],0,2⟩,⟨[69],0,1⟩,⟨[70],0,0⟩],0):=by kernel_rfl
 have e2:vG [⟨[69],0,2⟩,⟨[69],0,1⟩,⟨[70],0,0⟩] [69] 0=(⟨[69],0,2⟩,0):=by kernel_rfl
 have e3:vG [⟨[69],0,2⟩,⟨[69],0,1⟩,⟨[70],0,0⟩] [69] 3=(o5,6):=by kernel_rfl
 rw [g7];simp only [cQ,Option.bind_eq_bind,Option.bind_some,rB,wH,e1,e2,e3];rw [qU _ (by decide)]
 rfl
theorem xG(v:List aA)(x:aA)(e:Str)(n:Int):dA v x e n=some true:=by
 obtain⟨b,hb,hs⟩:=aC8 v;rw [dA,hb];cases b with
 |true=>simp [pV]
 |false=>
  obtain⟨hl,hs⟩:=hs rfl;by_cases hx:x.effect.length>100
  ·have:decide ((x.effect.length:Int)>100)=true:=decide_eq_true (by omega);simp [this,pV]
  ·have h1:decide ((x.effect.length:Int)>100)=false:=decide_eq_false (by omega);by_cases he:e.length>100
   ·have:decide ((e.length:Int)>100)=true:=decide_eq_true (by omega);simp [h1,this,pV]
   ·have h2:decide ((e.length:Int)>100)=false:=decide_eq_false (by omega);have hi:(aAZ v x).1.length<4611686018427387904:=by
     unfold aAZ;split
     ·simp
     ·split
      ·simp
      ·have:=aDc v x;show(pR v x).length<_;omega
    have hr:(aB3 v e).1.length<4611686018427387904:=by
     unfold aB3;split
     ·simp
     ·split
      ·unfold aCn;split
       ·have:=congrArg List.length (fU v ⟨e,0,0⟩);rw [List.length_append] at this;simp only [List.length_append,List.length_drop];omega
       ·show v.length<_;omega
      ·simp
    simp only [Bool.false_eq_true,if_false,Option.bind_eq_bind,Option.bind_some,h1,h2,rB,aA9 v x hs (by omega),yR,aBb v e hs (by omega),wH,aDi v e n hs,jZ,kU v hs,beq_self_eq_true,if_true,
     qU _ hi,qU _ hr,Bool.and_self,pV]
theorem aB4{v0:AV}{b:Bool}(h:gZ v0=some (.bool b)):v0= .bool b:=by
 cases v0 with
 |tuple vs=>simp only [gZ] at h;split at h<;>cases h
 |agg cs=>simp only [gZ,eO] at h;split at h<;>cases h
 |slice sz xs o=>cases o<;>cases h
 |bool c=>cases h;rfl
 |_=>cases h
end Go.Proofs.Ytfcfnkffgiklpaa
namespace Go.Fw
open Go
section
variable {P : Program}
inductive vN(P:Program):List TypeId→List (List AV)→Prop
 |nil:vN P [] []
 |cons {t:TypeId} {ts:List TypeId} {c:List AV} {cs:List (List AV)} (h:TyC P t c) (r:vN P ts cs):vN P (t::ts) (c::cs)
theorem z6: ∀{fs:List Field}{css:List (List AV)},css.length=fs.length→(∀(i:Nat)(f:Field)(cs:List AV),fs[i]?=some f→css[i]?=some cs→TyC P f.type cs)→vN P (fs.map (·.type)) css
 | [],css,hl,_=>by
  have:css= []:=List.length_eq_zero_iff.1 hl;subst this;exact .nil
 |f::fs,[],hl,_=>by simp at hl
 |f::fs,c::css,hl,h=> .cons (h 0 f c rfl rfl) (z6 (by simpa using hl) fun i g cs hg hc=>h (i+1) g cs (by simpa using hg) (by simpa using hc))
theorem TyC.aBc{t:TypeId}{fs:Array Field}{cs:List AV}(hu:P.underlying t=some (.struct fs))(h:TyC P t cs): ∃css,cs=css.flatten∧vN P (fs.toList.map (·.type)) css:=by
 cases h with
 |struct h hl hc=>
  rw [hu] at h;cases h;exact⟨_,rfl,z6 (by simpa using hl) fun i f cs hf hcs=>hc i f cs (by simpa using hf) hcs⟩
 |bool b h=>rw [hu] at h;cases h
 |int h hn=>rw [hu] at h;cases h
 |str s h hs=>rw [hu] at h;cases h
 |aCx h=>rw [hu] at h;cases h
 |ptr h hc=>rw [hu] at h;cases h
 |slice h hl hc=>rw [hu] at h;cases h
 |array h hl hc=>rw [hu] at h;cases h
theorem TyC.aEg{t:TypeId}{k:IntKind}{cs:List AV}(hu:P.underlying t=some (.int k))(h:TyC P t cs): ∃n,cs= [.int k n]∧k.wrap n=n:=by
 cases h with
 |int h hn=>rw [hu] at h;cases h;exact⟨_,rfl,hn⟩
 |bool b h=>rw [hu] at h;cases h
 |str s h hs=>rw [hu] at h;cases h
 |aCx h=>rw [hu] at h;cases h
 |ptr h hc=>rw [hu] at h;cases h
 |slice h hl hc=>rw [hu] at h;cases h
 |struct h hl hc=>rw [hu] at h;cases h
 |array h hl hc=>rw [hu] at h;cases h
theorem TyC.aDV{t:TypeId}{cs:List AV}(hu:P.underlying t=some .string)(h:TyC P t cs): ∃s,cs= [.str s]∧s.length≤maxLen:=by
 cases h with
 |str s h hs=>exact⟨_,rfl,hs⟩
 |bool b h=>rw [hu] at h;cases h
 |int h hn=>rw [hu] at h;cases h
 |aCx h=>rw [hu] at h;cases h
 |ptr h hc=>rw [hu] at h;cases h
 |slice h hl hc=>rw [hu] at h;cases h
 |struct h hl hc=>rw [hu] at h;cases h
 |array h hl hc=>rw [hu] at h;cases h
theorem TyC.aCs{t e:TypeId}{cs:List AV}(hu:P.underlying t=some (.slice e))(h:TyC P t cs): ∃css:List (List AV),cs= [slA (P.cellsOf e) (css.map (mkV P e))]∧css.length≤maxLen∧ ∀c∈css,TyC P e c:=by
 cases h with
 |slice h hl hc=>rw [hu] at h;cases h;exact⟨_,rfl,hl,hc⟩
 |bool b h=>rw [hu] at h;cases h
 |int h hn=>rw [hu] at h;cases h
 |str s h hs=>rw [hu] at h;cases h
 |aCx h=>rw [hu] at h;cases h
 |ptr h hc=>rw [hu] at h;cases h
 |struct h hl hc=>rw [hu] at h;cases h
 |array h hl hc=>rw [hu] at h;cases h
theorem aEb{e:TypeId}{fs:Array Field}(he:P.underlying e=some (.struct fs))(c:List AV):mkV P e c= .agg c:=by simp [mkV,gH,he]
end
inductive KT where
 |bool
 |int (k:IntKind)
 |str
 |slice (e:TypeId)
 |ptr (e:TypeId)
 |struct (us:List TypeId)
 |array (n:Nat) (e:TypeId)
def kTy(P:Program)(t:TypeId):Option KT:=
 match P.underlying t with
 |some .bool=>some .bool
 |some (.int k)=>some (.int k)
 |some .string=>some .str
 |some (.slice e)=>some (.slice e)
 |some (.pointer e)=>some (.ptr e)
 |some (.struct fs)=>some (.struct (fs.toList.map (·.type)))
 |some (.array n e)=>some (.array n e)
 |_=>none
section
variable {P : Program} {t : TypeId}
theorem aEe{k:IntKind}(h:kTy P t=some (.int k)):P.underlying t=some (.int k):=by
 unfold kTy at h;split at h<;>cases h;assumption
theorem aEA(h:kTy P t=some .str):P.underlying t=some .string:=by
 unfold kTy at h;split at h<;>cases h;assumption
theorem aB0{e:TypeId}(h:kTy P t=some (.slice e)):P.underlying t=some (.slice e):=by
 unfold kTy at h;split at h<;>cases h;assumption
theorem uG{us:List TypeId}(h:kTy P t=some (.struct us)): ∃fs,P.underlying t=some (.struct fs)∧fs.toList.map (·.type)=us:=by
 unfold kTy at h;split at h<;>cases h;exact⟨_,by assumption,rfl⟩
mutual
def msr:AV→Nat
 | .slice _ xs _=>x4 xs+1
 | .agg cs=>x4 cs+1
 | .aX v _=>msr v+1
 |_=>1
def x4:List AV→Nat
 | []=>0
 |v::r=>msr v+x4 r
end
theorem zO: ∀{l:List AV}{v:AV},v∈l→msr v≤x4 l
 |x::r,v,h=>by
  simp only [x4];rcases List.mem_cons.1 h with rfl|h
  ·omega
  ·have:=zO h;omega
def RdM{α:Type}(m:Nat)(P:Program)(t:TypeId)(g:α→List AV):Prop:= ∀cs,TyC P t cs→x4 cs<m→ ∃x,cs=g x
theorem aFx{k:IntKind}(h:kTy P t=some (.int k))(m:Nat):RdM m P t fun n=> [.int k n]:=fun cs hc _=>by
 obtain⟨n,rfl,_⟩:=hc.aEg (aEe h);exact⟨n,rfl⟩
theorem aE7(h:kTy P t=some .str)(m:Nat):RdM m P t fun s=> [.str s]:=fun cs hc _=>by
 obtain⟨n,rfl,_⟩:=hc.aDV (aEA h);exact⟨n,rfl⟩
theorem aEi{e:TypeId}{cs:List AV}(h:TyC P e cs):x4 cs≤msr (mkV P e cs):=by
 unfold mkV;split
 ·rename_i ha;obtain⟨a,rfl,_⟩:=h.lone ha;simp [x4]
 ·simp only [msr];omega
theorem aFI{α:Type}{g:α→List AV}{f:α→AV}{e:TypeId}{sz:Nat}(h:kTy P t=some (.slice e))(hs:P.cellsOf e=sz)(hf: ∀x,mkV P e (g x)=f x){m:Nat}(hg:RdM m P e g):RdM (m+1) P t fun l:List α=> [slA sz (l.map f)]:=fun cs hc hm=>by
 obtain⟨css,rfl,_,hall⟩:=hc.aCs (aB0 h);simp only [slA,x4,msr] at hm;have: ∀c∈css,∃x:α,mkV P e c=f x:=fun c hc=>by
  have h1:=aEi (hall c hc);have h2:=zO (List.mem_map.2 ⟨c,hc,rfl⟩:mkV P e c∈css.map (mkV P e));obtain⟨x,rfl⟩:=hg c (hall c hc) (by omega);exact⟨x,hf x⟩
 have key: ∀{css:List (List AV)},(∀c∈css,∃x:α,mkV P e c=f x)→ ∃l:List α,css.map (mkV P e)=l.map f:=by
  intro css
  induction css with
  |nil=>intro _;exact⟨[],rfl⟩
  |cons c css ih=>
   intro h;obtain⟨x,hx⟩:=h c (List.mem_cons_self ..);obtain⟨l,h1⟩:=ih fun c hc=>h c (List.mem_cons_of_mem _ hc);exact⟨x::l,by simp [hx,h1]⟩
 obtain⟨l,hl⟩:=key this;exact⟨l,by rw [hl,hs]⟩
theorem aCp{us:List TypeId}(h:kTy P t=some (.struct us)){cs:List AV}(hc:TyC P t cs): ∃css,cs=css.flatten∧vN P us css:=by
 obtain⟨fs,h1,rfl⟩:=uG h;exact hc.aBc h1
theorem sX{k:KT}(h:kTy P t=some k)(hk:match k with| .struct _=>False| .array _ _=>False|_=>True)(a:AV):mkV P t [a]=a:=by
 unfold kTy at h;unfold mkV gH;split at h<;>cases h<;>first|(simp_all;done)|cases hk
theorem aDR{us:List TypeId}(h:kTy P t=some (.struct us))(cs:List AV):mkV P t cs= .agg cs:=by
 obtain⟨fs,h1,rfl⟩:=uG h;exact aEb h1 cs
theorem RdM.val{α:Type}{g:α→List AV}{f:α→AV}(hg: ∀m,RdM m P t g)(hf: ∀x,mkV P t (g x)=f x){cs:List AV}(h:TyC P t cs): ∃x,mkV P t cs=f x:=by
 obtain⟨x,rfl⟩:=hg _ cs h (Nat.lt_succ_self _);exact⟨x,hf x⟩
end
end Go.Fw
set_option maxRecDepth 100000
namespace Go.Proofs.Ytfcfnkffgiklpaa
open Go Go.Fw
theorem rd9(m:Nat):RdM m Try.prog 9 (fun x:Str=> [(.str x)]):=aE7 (by kernel_rfl) m
theorem rd3(m:Nat):RdM m Try.prog 3 (fun x:Int=> [(.int .i64 x)]):=aFx (by kernel_rfl) m
theorem aFN(m:Nat):RdM m Try.prog 24 (fun x:aA=> [(.str x.effect),(.int .i64 x.instance_),(.int .i64 x.marker)]):=fun cs hc hm=>by
 obtain⟨css,rfl,h⟩:=aCp (us:= [9,3,3]) (by kernel_rfl) hc;cases h with|cons h0 h=>
 cases h with|cons h1 h=>
 cases h with|cons h2 h=>
 cases h;obtain⟨x0,rfl⟩:=rd9 _ _ h0 (Nat.lt_succ_self _);obtain⟨x1,rfl⟩:=rd3 _ _ h1 (Nat.lt_succ_self _);obtain⟨x2,rfl⟩:=rd3 _ _ h2 (Nat.lt_succ_self _);exact⟨⟨x0,x1,x2⟩,rfl⟩
theorem aFY(m:Nat):RdM m Try.prog 22 (fun x:(List aA)=> [(slA 3 (x.map aB))]):=fun cs hc hm=>aFI (by kernel_rfl) (by kernel_rfl) (fun x=>aDR (us:= [9,3,3]) (by kernel_rfl) _) (aFN m) cs hc (Nat.lt_succ_of_lt hm)
theorem aF8{cs:List AV}(h:TyC Try.prog 22 cs): ∃x:(List aA),mkV Try.prog 22 cs=(aF2 3 aB) x:=RdM.val aFY (fun x=>sX (k:= .slice 24) (by kernel_rfl) trivial _) h
theorem aF6{cs:List AV}(h:TyC Try.prog 24 cs): ∃x:aA,mkV Try.prog 24 cs=aB x:=RdM.val aFN (fun x=>aDR (us:= [9,3,3]) (by kernel_rfl) _) h
theorem rv9{cs:List AV}(h:TyC Try.prog 9 cs): ∃x:Str,mkV Try.prog 9 cs=AV.str x:=RdM.val rd9 (fun x=>sX (k:= .str) (by kernel_rfl) trivial _) h
theorem rv3{cs:List AV}(h:TyC Try.prog 3 cs): ∃x:Int,mkV Try.prog 3 cs=(AV.int .i64) x:=RdM.val rd3 (fun x=>sX (k:= .int .i64) (by kernel_rfl) trivial _) h
end Go.Proofs.Ytfcfnkffgiklpaa
