/- Our own framework, the program's cooked code, and the proofs that a claim leans on: joined and shortened by a program of the prover's own. -/
import Derived.KernelRfl
import Derived.Test.YtfcfnkffgiklpaaProg
import Derived.WalkKit
import Derived.OwnWalkIn
import Derived.TacticsInMore
import Derived.RegionIn
import Derived.LoopNIn
import Derived.LoopIn
import Derived.RecoverIn
import Derived.Deep.AppendSrc
import Derived.Lib.SliceRun
import Derived.Deep.LoopGhost
import Derived.Lib.Overlaps
import Derived.Lib.AppendZerosOnto
import Derived.Laws.CopyRow
import Derived.Laws.IdiomCopy
import Derived.Shelf.RegionOpen
import Derived.Great.BuildSlice
import Derived.Test.YtfcfnkffgiklpaaRows
import Derived.ProofKit
import Derived.OpenShut
import Derived.LaidMore
import Derived.Lay
import Derived.SevenTiedAt
import Derived.Stop.Joined
import Derived.Deep.DeepHandedRow
import Derived.JoinedCond
import Derived.Test.YtfcfnkffgiklpaaPk1
set_option linter.unusedVariables false
set_option linter.unusedSimpArgs false
namespace Go.Fw
open Go
structure Hle(H H':Handler):Prop where
 call: ∀g a s r,H.call g a s=some r→H'.call g a s=some r
 dcall: ∀f a m s r,H.dcall f a m s=some r→H'.dcall f a m s=some r
section
variable {H H' : Handler} {P : aK}
theorem xR{d':Option Nat}{op:AOp}{gd:Option (Nat×Bool)}{pre:List Nat}{rest:List AI}{pd:List (Nat×Nat)}{fr:Fr}{s:ASt}(hp:plainO op=true)(hg:wanted fr.env gd=some true):
  aM H P (⟨d',op,gd,pre⟩::rest) pd fr s=(match fI P fr.env s op with|some (v,s1)=>aM H P rest (aG d' pd) {fr with env:=dD fr.env d' v} s1|none=>none):=by
 have key:(match aU P fr.env op with
    |some v=>aM H P rest (aG d' pd) {fr with env:=dD fr.env d' v} s
    |none=>
     match dV P fr.env s op with
     |some v=>aM H P rest (aG d' pd) {fr with env:=dD fr.env d' v} s
     |none=>
      match cA P fr.env s op with
      |some (v,s1)=>aM H P rest (aG d' pd) {fr with env:=dD fr.env d' v} s1
      |none=>none)=(match fI P fr.env s op with|some (v,s1)=>aM H P rest (aG d' pd) {fr with env:=dD fr.env d' v} s1|none=>none):=by
  unfold fI;cases aU P fr.env op with
  |some x=>rfl
  |none=>cases dV P fr.env s op with
   |some x=>rfl
   |none=>rfl
 rw [←key];simp only [aM,hg];cases op<;>first|rfl|(simp [plainO] at hp)
theorem eT(hH:Hle H H'): ∀{is:List AI}{pd:List (Nat×Nat)}{fr:Fr}{s:ASt}{r:gW},aM H P is pd fr s=some r→aM H' P is pd fr s=some r
 | [],_,_,_,_,h=>h
 |⟨d',op,gd,pre⟩::rest,pd,fr,s,r,h=>by
  cases hw:wanted fr.env gd with
  |none=>simp [aM,hw] at h
  |some b=>
   cases b with
   |false=>
    simp only [aM,hw] at h⊢;cases hk:j3 P fr.env op with
    |true=>simp only [hk] at h⊢;exact eT hH h
    |false=>rw [hk] at h;cases h
   |true=>
    cases hp:plainO op with
    |true=>
     rw [xR hp hw] at h⊢;cases hs:fI P fr.env s op with
     |none=>rw [hs] at h;cases h
     |some x=>rw [hs] at h;exact eT hH h
    |false=>
     cases op<;>first|(simp [plainO] at hp;done)|skip
     case pend z=>
      cases d' with
      |none=>simp [aM,hw] at h
      |some d=>simp only [aM,hw] at h⊢;exact eT hH h
     case shut d sz x=>
      cases d' with
      |some d=>simp [aM,hw] at h
      |none=>
       cases hf:eK (evO P fr.env x) with
       |none=>simp [aM,hw,hf] at h
       |some v=>
        simp only [aM,hw,hf] at h⊢;split at h
        ·rename_i hc;rw [if_pos hc];exact eT hH h
        ·cases h
     case defer f args=>
      simp only [aM,hw] at h⊢;split at h
      ·rename_i h1 h2;(try simp only [h1,h2]);exact eT hH h
      ·cases h
     case panic x=>
      simp only [aM,hw] at h⊢;exact h
     case aI st f args=>
      simp only [aM,hw] at h⊢;split at h
      ·rename_i g a b vs h1 h2
       (try simp only [h1,h2])
       split at h
       ·rename_i v s2 h3 h4;simp only [hH.call _ _ _ _ h4]
        (try simp only [h3])
        split at h
        ·rename_i v' h5
         (try simp only [h5])
         split at h
         ·rename_i h6;(try simp only [h6]);exact eT hH h
         ·cases h
        ·cases h
       ·cases h
      ·cases h
     case call f args=>
      simp only [aM,hw] at h⊢;split at h
      ·rename_i g a b vs s1 h1 h2
       (try simp only [h1,h2])
       split at h
       ·rename_i v s2 h3;simp only [hH.call _ _ _ _ h3];exact eT hH h
       ·rename_i v s2 h3;simp only [hH.call _ _ _ _ h3];exact h
       ·cases h
      ·cases h
theorem lL{f f':Fr→ASt→Option CR}(hf: ∀fr s r,f fr s=some r→f' fr s=some r): ∀{k k':Nat}{fr:Fr}{s:ASt}{r:CR},k≤k'→gQ f k fr s=some r→gQ f' k' fr s=some r
 |0,_,_,_,_,_,h=>by simp [gQ] at h
 |k+1,0,_,_,_,hk,_=>by omega
 |k+1,k'+1,fr,s,r,hk,h=>by
  simp only [gQ] at h⊢;cases hs:f fr s with
  |none=>rw [hs] at h;cases h
  |some x=>
   rw [hs] at h;rw [hf _ _ _ hs];cases hx:x.ex with
   |normal=>simp only [hx] at h⊢;exact lL hf (by omega) h
   |exit i=>simp only [hx] at h⊢;exact h
   |ret=>simp only [hx] at h⊢;exact h
   |panic v=>simp only [hx] at h⊢;exact h
theorem bS(hH:Hle H H'){rd:Option Nat}{lf lf':Nat}(hl:lf≤lf'): ∀(c:AC){fr:Fr}{s:ASt}{r:CR},evC H P rd lf c fr s=some r→evC H' P rd lf' c fr s=some r
 | .skip,_,_,_,h=>h
 | .exit _,_,_,_,h=>h
 | .ret,_,_,_,h=>h
 | .scope b,fr,s,r,h=>by simp only [evC] at h⊢;exact bS hH hl b h
 | .reg _ ops,fr,s,r,h=>by
  simp only [evC] at h⊢;cases he:aM H P ops [] fr s with
  |none=>rw [he] at h;cases h
  |some x=>rw [he] at h;rw [eT hH he];exact h
 | .yJ ops,fr,s,r,h=>by
  simp only [evC] at h⊢;cases he:aM H P ops [] fr s with
  |none=>rw [he] at h;cases h
  |some x=>rw [he] at h;rw [eT hH he];exact h
 | .seq a b,fr,s,r,h=>by
  simp only [evC] at h⊢;cases he:evC H P rd lf a fr s with
  |none=>rw [he] at h;cases h
  |some x=>
   rw [he] at h;rw [bS hH hl a he];cases hx:x.ex with
   |normal=>simp only [hx] at h⊢;exact bS hH hl b h
   |exit i=>simp only [hx] at h⊢;exact h
   |ret=>simp only [hx] at h⊢;exact h
   |panic v=>simp only [hx] at h⊢;exact h
 | .cond c t e,fr,s,r,h=>by
  simp only [evC] at h⊢;split at h
  ·rename_i b hb
   (try simp only [hb])
   cases b with
   |true=>exact bS hH hl t h
   |false=>exact bS hH hl e h
  ·cases h
 | .block id b,fr,s,r,h=>by
  simp only [evC] at h⊢;cases he:evC H P rd lf b fr s with
  |none=>rw [he] at h;cases h
  |some x=>rw [he] at h;rw [bS hH hl b he];exact h
 | .loop b,fr,s,r,h=>by
  simp only [evC] at h⊢;exact lL (fun _ _ _=>bS hH hl b) hl h
 | .pR f params assign body,fr,s,r,h=>by
  simp only [evC] at h⊢;split at h
  ·rename_i l mark s1 g a b h1 h2
   (try simp only [h1,h2])
   split at h
   ·rename_i v s2 h3 h4;simp only [hH.call _ _ _ _ h4];(try simp only [h3]);exact h
   ·rename_i v s2 h3 h4;simp only [hH.call _ _ _ _ h4];(try simp only [h3]);exact h
   ·cases h
  ·cases h
theorem yO(hH:Hle H H'){lf lf':Nat}(hl:lf≤lf'){l:Nat}{args:List AV}{s:ASt}{r:jT×ASt}(h:mH H P lf l args s=some r):mH H' P lf' l args s=some r:=by
 unfold mH at h⊢;split at h
 ·rename_i lp h1
  (try simp only [h1])
  split at h
  ·rename_i h2 h3
   (try simp only [h2,h3])
   split at h
   ·rename_i e1 s1 h4;simp only [bS hH hl _ h4];split at h
    ·rename_i s2 h5
     (try simp only [h5])
     split at h
     ·rename_i ex e2 s3 h6;simp only [bS hH hl _ h6];exact h
     ·cases h
    ·cases h
   ·cases h
  ·cases h
 ·cases h
theorem lD(hH:Hle H H'): ∀{ds:List dC}{m:DM}{s:ASt}{r:DM×ASt},iU H ds m s=some r→iU H' ds m s=some r
 | [],_,_,_,h=>h
 | .mark l::ds,m,s,r,h=>by
  simp only [iU] at h⊢;split at h
  ·rename_i h1;(try simp only [h1]);exact lD hH h
  ·cases h
 | .call f args::ds,m,s,r,h=>by
  simp only [iU] at h⊢;cases hd:H.dcall f args m s with
  |none=>rw [hd] at h;cases h
  |some x=>rw [hd] at h;rw [hH.dcall _ _ _ _ _ hd];exact lD hH h
theorem aBf(hH:Hle H H'){lf lf':Nat}(hl:lf≤lf'){f:AF}{args:List AV}{s:ASt}{r:jT×ASt}(h:wU H P lf f args s=some r):wU H' P lf' f args s=some r:=by
 unfold wU at h⊢;split at h
 ·cases h
 ·rename_i h0;split at h
  ·rename_i ex fr s1 h1;simp only [bS hH hl _ h1];split at h
   ·rename_i m h2
    (try simp only [h2])
    split at h
    ·rename_i v s2 h3;simp only [lD hH h3];exact h
    ·rename_i s2 h3;simp only [lD hH h3];exact h
    ·cases h
   ·cases h
  ·cases h
theorem aCq(hH:Hle H H'){lf lf':Nat}(hl:lf≤lf'): ∀(c:AC){fr:Fr}{rc:RC}{s:ASt}{r:cY×Fr×RC×ASt},evD H P lf c fr rc s=some r→evD H' P lf' c fr rc s=some r:=by
 intro c
 induction c with
 |reg draw ops=>
  intro fr rc s r h;simp only [evD] at h⊢;split at h
  ·exact h
  ·split at h
   ·rename_i x he;rw [bS hH hl _ he];exact h
   ·cases h
 |seq a b iha ihb=>
  intro fr rc s r h;simp only [evD] at h⊢;split at h
  ·rename_i fr1 rc1 s1 h1;simp only [iha h1];exact ihb h
  ·rename_i hne;rw [iha h];split
   ·rename_i fr1 rc1 s1 h1;cases h1;exact absurd h (hne _ _ _)
   ·rfl
 |cond c t e iht ihe=>
  intro fr rc s r h;simp only [evD] at h⊢;split at h
  ·rename_i b hb
   (try simp only [hb])
   cases b with
   |true=>exact iht h
   |false=>exact ihe h
  ·cases h
 |skip=>
  intro fr rc s r h;simp only [evD] at h⊢;split at h
  ·rename_i x he;rw [bS hH hl _ he];exact h
  ·cases h
 |block id b _=>
  intro fr rc s r h;simp only [evD] at h⊢;split at h
  ·rename_i x he;rw [bS hH hl _ he];exact h
  ·cases h
 |loop b _=>
  intro fr rc s r h;simp only [evD] at h⊢;split at h
  ·rename_i x he;rw [bS hH hl _ he];exact h
  ·cases h
 |pR f p a b _ _=>
  intro fr rc s r h;simp only [evD] at h⊢;split at h
  ·rename_i x he;rw [bS hH hl _ he];exact h
  ·cases h
 |yJ ops=>
  intro fr rc s r h;simp only [evD] at h⊢;split at h
  ·rename_i x he;rw [bS hH hl _ he];exact h
  ·cases h
 |exit id=>
  intro fr rc s r h;simp only [evD] at h⊢;split at h
  ·rename_i x he;rw [bS hH hl _ he];exact h
  ·cases h
 |ret=>
  intro fr rc s r h;simp only [evD] at h⊢;split at h
  ·rename_i x he;rw [bS hH hl _ he];exact h
  ·cases h
 |scope b _=>
  intro fr rc s r h;simp only [evD] at h⊢;split at h
  ·rename_i x he;rw [bS hH hl _ he];exact h
  ·cases h
theorem aBN(hH:Hle H H'){lf lf':Nat}(hl:lf≤lf'){f:AF}{args:List AV}{m:DM}{s:ASt}{r:DM×ASt}(h:zC H P lf f args m s=some r):zC H' P lf' f args m s=some r:=by
 unfold zC at h⊢;split at h
 ·cases h
 ·rename_i h0
  (try simp only [h0])
  split at h
  ·rename_i ex e rc s1 h1;simp only [aCq hH hl _ h1];exact h
  ·cases h
theorem l9{H H':Handler}(hH:Hle H H'): ∀{l:List (Nat×List AV)}{vs:List AV},bZ H l=some vs→bZ H' l=some vs
 | [],_,h=>h
 |(f,a)::r,vs,h=>by
  unfold bZ at h⊢;generalize dM a=b at h⊢;cases b with
  |false=>exact h
  |true=>
   simp only at h⊢;cases hc:H.call (.func f) a dE with
   |none=>rw [hc] at h;cases h
   |some q=>
    rw [hH.call _ _ _ _ hc];rw [hc] at h;obtain⟨q1,q2⟩:=q;cases q1 with
    |panic v=>exact h
    |ret v=>
     simp only at h⊢;generalize gZ v=x at h⊢;cases x with
     |none=>exact h
     |some v2=>
      simp only at h⊢;generalize bE v2=y at h⊢;cases y with
      |false=>exact h
      |true=>
       simp only at h⊢;cases hw:bZ H r with
       |none=>rw [hw] at h;cases h
       |some ws=>rw [hw] at h;rw [l9 hH hw];exact h
theorem v8{H H':Handler}(hH:Hle H H'){p:Prim}{args:List AV}{s:ASt}{r:jT×ASt}(h:eU H p args s=some r):eU H' p args s=some r:=by
 unfold eU at h⊢;generalize dM args=b at h⊢;cases b with
 |false=>exact h
 |true=>
  simp only at h⊢;generalize p.calls args=x at h⊢;cases x with
  |none=>exact h
  |some cs=>
   simp only at h⊢;cases hw:bZ H cs with
   |none=>rw [hw] at h;cases h
   |some ws=>rw [hw] at h;rw [l9 hH hw];exact h
theorem o5: ∀{n m:Nat},n≤m→Hle (cC P n) (cC P m)
 |0,_,_=>⟨fun _ _ _ _ h=>by simp [cC] at h,fun _ _ _ _ _ h=>by simp [cC] at h⟩
 |n+1,0,h=>by omega
 |n+1,m+1,h=>by
  have ih:=o5 (show n≤m by omega);refine⟨fun g a s r hr=> ?_,fun f a d s r hr=> ?_⟩
  ·cases g with
   |func f=>
    simp only [cC] at hr⊢;cases hp:P.prim f with
    |some p=>simp only [hp] at hr⊢;exact v8 ih hr
    |none=>
     simp only [hp] at hr⊢;cases hf:P.fn f with
     |none=>simp only [hf] at hr;cases hr
     |some af=>simp only [hf] at hr⊢;exact aBf ih (by omega) hr
   |yield l=>simp only [cC] at hr⊢;exact yO ih (by omega) hr
  ·simp only [cC] at hr⊢;cases hf:P.fn f with
   |none=>simp only [hf] at hr;cases hr
   |some af=>simp only [hf] at hr⊢;exact aBN ih (by omega) hr
theorem Ev.run{n:Nat}{g:AFn}{args:List AV}{s:ASt}{r:jT×ASt}{Q:jT×ASt→Prop}(h:(cC P n).call g args s=some r)(hq:Q r):Ev (fun n=>(cC P n).call g args s) Q:=
 ⟨r,n,hq,fun _ hm=>(o5 hm).call _ _ _ _ h⟩
end
abbrev Str:=List UInt8
def slA(sz:Nat)(xs:List AV):AV:= .slice (szC sz xs) xs .no
theorem aEv(sz:Nat)(xs:List AV):szC sz xs=sz∨xs= []:=by cases xs with|nil=>exact .inr rfl|cons=>exact .inl rfl
structure Ext(L T:List Nat)(s0 s:ASt):Prop where
 bl:s0.blks.length≤s.blks.length
 b: ∀i,i<s0.blks.length→i∉L→s.blks[i]?=s0.blks[i]?
 tl:s0.toks.length≤s.toks.length
 t: ∀i,i<s0.toks.length→i∉T→s.toks[i]?=s0.toks[i]?
theorem Ext.clean(L T:List Nat)(s:ASt):Ext L T s (aV s):=⟨Nat.le_refl _,fun _ _ _=>rfl,Nat.le_refl _,fun _ _ _=>rfl⟩
theorem vC{s0 s:ASt}{d:Bool}(i:Nat)(hi:i<s0.blks.length):(cK s0 d s).blks[i]?=s.blks[i]?:=by
 unfold cK;split
 ·rfl
 ·split
  ·rfl
  ·simp [List.getElem?_take,hi]
theorem uH{s0 s:ASt}{d:Bool}(h:s0.blks.length≤s.blks.length):s0.blks.length≤(cK s0 d s).blks.length:=by
 unfold cK;split
 ·exact h
 ·split
  ·exact h
  ·simp [List.length_take];omega
theorem sE{s0 s:ASt}{d:Bool}:(cK s0 d s).toks=s.toks:=by
 unfold cK;split
 ·rfl
 ·split<;>rfl
theorem tC{s0 s:ASt}{d:Bool}:(eE s0 d s).blks=s.blks:=by
 unfold eE;split
 ·rfl
 ·split<;>rfl
theorem aBT{s0 s:ASt}{d:Bool}(i:Nat)(hi:i<s0.toks.length):(eE s0 d s).toks[i]?=s.toks[i]?:=by
 unfold eE;split
 ·rfl
 ·split
  ·simp [List.getElem?_take,hi]
  ·rfl
theorem aBo{s0 s:ASt}{d:Bool}(h:s0.toks.length≤s.toks.length):s0.toks.length≤(eE s0 d s).toks.length:=by
 unfold eE;split
 ·exact h
 ·split
  ·simp [List.length_take];omega
  ·exact h
theorem Ext.aBd{L T:List Nat}{s0 s:ASt}(h:Ext L T s0 s)(d1 d2:Bool):Ext L T s0 (eE s0 d1 (cK s0 d2 s)):=by
 refine⟨?_,fun i hi hn=> ?_,aBo (by rw [sE];exact h.tl),fun i hi hn=> ?_⟩
 ·rw [tC];exact uH h.bl
 ·rw [tC,vC i hi];exact h.b i hi hn
 ·rw [aBT i hi,sE];exact h.t i hi hn
theorem Ext.settle{L T:List Nat}{s0 s:ASt}(h:Ext L T s0 s)(v:AV):Ext L T s0 (settle s0 v s).2:=by
 unfold Fw.settle;split
 ·split
  ·exact h.aBd _ _
  ·split
   ·split
    ·refine⟨uH h.bl,fun i hi hn=>(vC i hi).trans (h.b i hi hn),?_,fun i hi hn=> ?_⟩
     ·simp only [List.length_append,List.length_take];have:=h.tl;omega
     ·rw [List.getElem?_append_left (by simp only [List.length_take];have:=h.tl;omega)];simp only [List.getElem?_take,hi,if_true];exact h.t i hi hn
    ·exact h.aBd _ _
   ·exact h.aBd _ _
 ·exact h.aBd _ _
structure Fc(P:aK)(g:AFn)(args:List AV)(s:ASt)(Q:jT→ASt→Prop):Prop where
 ev:Ev (fun n=>(cC P n).call g args s) (fun r=>Q r.1 r.2)
def aEH(P:aK)(af:AF)(Q:AV→ASt→Prop)(e:Env)(s:ASt):Prop:= ∃vs v1 s3,iN P e s af.res=some vs∧mA s vs=some (v1,s3)∧Q v1 s3
structure tU(P:aK)(af:AF)(Q:AV→ASt→Prop)(ex:cY)(fr:Fr)(s:ASt):Prop where
 ex:aFj ex=true
 res: ∃s1,(∀H,iU H fr.ds .ret s=some (.ret,s1))∧aEH P af Q fr.env s1
def VQ(v:AV)(X:ASt→Prop):AV→ASt→Prop:=fun v1 s3=>gZ v1=some v∧(xA v1=false→v1=v)∧X s3
abbrev PQ(s:ASt)(v:AV):AV→ASt→Prop:=VQ v (Ext [] [] s)
def dQ(s:ASt)(v:AV):jT→ASt→Prop:=fun o s'=> ∃v0,o= .ret v0∧gZ v0=some v∧(xA v=false→v0=v)∧(∀n,n≤s.blks.length→cW n s.lowT=true→cW n s'.lowT=true)∧Ext [] [] s s'
theorem aDs{P:aK}{g:Nat}{af:AF}{args:List AV}{s:ASt}{Q0:AV→ASt→Prop}{Q:jT→ASt→Prop}(h0:P.prim g=none)(h:P.fn g=some af)(hn:Nat.ble args.length af.nt=true)
(hQ: ∀v1 s3,Q0 v1 s3→Q (.ret (settle s v1 s3).1) (settle s v1 s3).2)(k:Wk P none af.body ⟨lJ args,[]⟩ (aV s) (tU P af Q0)):Fc P (.func g) args s Q:=by
 refine⟨Ev.succ ?_⟩;obtain⟨⟨ex,fr,s1⟩,N,⟨h1,s2,hd,vs,v1,s3,h4,h5,h6⟩,h3⟩:=k.ev.out;simp only at h1 h4 h5 hd;refine⟨((.ret (settle s v1 s3).1),(settle s v1 s3).2),N,hQ _ _ h6,fun n hn'=> ?_⟩;have e1:evC (cC P n) P none n af.body ⟨lJ args,[]⟩ (aV s)=some ⟨ex,fr,s1⟩:=h3 n hn';simp only [cC,h0,h,wU,hn,e1];cases ex with
 |normal=>simp only [hd,h4,h5]
 |ret=>simp only [hd,h4,h5]
 |exit i=>cases h1
 |panic v=>cases h1
theorem Pf.eJ{P:aK}{g:Nat}{args:List AV}{v:AV}(h:Fc P (.func g) args dE (dQ dE v))(hp:bE v=true)(hc:uB args):Pf P g args v:=
 ⟨h.ev.mono fun _ q=>by obtain⟨v0,h1,h2,_⟩:=q;exact⟨v0,h1,h2⟩,hp,hc⟩
inductive Sl(sz:Nat):AV→List AV→Prop
 |no (xs:List AV):Sl sz (slA sz xs) xs
 |own {z:Nat} {xs:List AV} {o:Own} (h:z=sz∨xs= []) (ho:o≠ .no∧o≠ .lit):Sl sz (.slice z xs o) xs
theorem aCf{z sz:Nat}{xs:List AV}(h:z=sz∨xs= []):szC z xs=szC sz xs:=by
 rcases h with rfl|rfl<;>rfl
theorem Sl.dY{sz:Nat}{w:AV}{xs:List AV}(h:Sl sz w xs):dY w=some (slA sz xs):=by
 cases h with
 |no=>rfl
 | @own z xs o h ho=>
  cases o with
  |no=>exact absurd rfl ho.1
  |lit=>exact absurd rfl ho.2
  |full=>simp only [Fw.dY,aCf h];rfl
  |tok t=>simp only [Fw.dY,aCf h];rfl
theorem Sl.fix{sz:Nat}{w:AV}{xs:List AV}(h:Sl sz w xs):eK w=some (slA sz xs):=by
 have:=h.dY;cases h<;>exact this
theorem Sl.gZ{sz:Nat}{w:AV}{xs:List AV}(h:Sl sz w xs):gZ w=some (slA sz xs):=by
 have:=h.fix;cases h<;>exact this
theorem Sl.is{sz:Nat}{w:AV}{xs:List AV}(h:Sl sz w xs): ∃z o,w= .slice z xs o∧(z=sz∨xs= []):=by
 cases h with
 |no=>exact⟨_,_,rfl,aEv sz xs⟩
 |own h=>exact⟨_,_,rfl,h⟩
theorem Sl.gO{sz:Nat}{xs:List AV}{o:Own}(ho:o≠ .no∧o≠ .lit):Sl sz (.slice sz xs o) xs:= .own (.inl rfl) ho
inductive Gr(tk:List Nat)(sz:Nat):AV→List AV→Prop
 |nil (z:Nat):Gr tk sz (.slice z [] .full) []
 |full (xs:List AV):Gr tk sz (.slice sz xs .full) xs
 |tok (xs:List AV) (t:Nat) (h:tk[t]?=some xs.length):Gr tk sz (.slice sz xs (.tok t)) xs
def j1:AV→Option Nat
 | .slice _ _ (.tok t)=>some t
 |_=>none
structure St(L T:List Nat)(s0 s:ASt)(bs:List (Nat×eH))(gs:List (AV×Nat×List AV)):Prop where
 ext:Ext L T s0 s
 b: ∀p∈bs,s.blks[p.1]?=some p.2
 bL: ∀p∈bs,p.1∈L∨s0.blks.length≤p.1
 nd:(bs.map (·.1)).Nodup
 g: ∀p∈gs,Gr s.toks p.2.1 p.1 p.2.2
 gT: ∀t∈gs.filterMap (j1 ·.1),t∈T∨s0.toks.length≤t
 gd:(gs.filterMap (j1 ·.1)).Nodup
 lk: ∀p∈bs,p.1<s0.blks.length→ ∀cs w,p.2= .cells cs w→ ∀v∈cs,∀t,j1 v=some t→cW (p.1+1) s.lowT=true∨ ∃cs0 w0,s0.blks[p.1]?=some (.cells cs0 w0)∧v∈cs0
 tv: ∀p∈bs,∀cs w,p.2= .cells cs w→ ∀v∈cs,∀t,j1 v=some t→t<s.toks.length
section
variable {L T : List Nat} {s0 s s' : ASt} {bs bs' : List (Nat × eH)} {gs gs' : List (AV × Nat × List AV)}
theorem St.clean(s:ASt):St [] [] s (aV s) [] []:=⟨.clean _ _ _,by simp,by simp,by simp,by simp,by simp,by simp,by simp,by simp⟩
theorem St.less(h:St L T s0 s bs gs)(hb:bs'.Sublist bs)(hg:gs'.Sublist gs):St L T s0 s bs' gs':=
 ⟨h.ext,fun p hp=>h.b p (hb.subset hp),fun p hp=>h.bL p (hb.subset hp),h.nd.sublist (hb.map _),fun p hp=>h.g p (hg.subset hp),fun t ht=>h.gT t ((hg.filterMap _).subset ht),h.gd.sublist (hg.filterMap _),fun p hp=>h.lk p (hb.subset hp),fun p hp=>h.tv p (hb.subset hp)⟩
end

def idx{α:Type}(l:List α)(i:Int):Option α:=if 0≤i then l[i.toNat]? else none
def nf{α:Type}(x:α):α:=x
inductive Ctl(R S:Type) where
 |ret (r:R)
 |nx (s:S)
theorem bs{α β:Type}{o:Option α}{f:α→Option β}{r:β}(h:(o>>=f)=some r): ∃x,o=some x∧f x=some r:=Option.bind_eq_some_iff.1 h
theorem bI{α:Type}{b:Bool}{a c:Option α}{r:α}(h:b=true)(k:(if b=true then a else c)=some r):a=some r:=by rwa [if_pos h] at k
theorem bH{α:Type}{b:Bool}{a c:Option α}{r:α}(h:b=false)(k:(if b=true then a else c)=some r):c=some r:=by rwa [if_neg (by rw [h];decide)] at k
theorem aJ{P:aK}{rd:Option Nat}{c:aH}{t f:AC}{b:Bool}{fr:Fr}{s:ASt}{Q:cY→Fr→ASt→Prop}{α:Type}{x y:Option α}{r:α}(hyp:(if b=true then x else y)=some r)(hb:evO P fr.env c= .bool b)
(ht:b=true→x=some r→Wk P rd t fr s Q)(hf:b=false→y=some r→Wk P rd f fr s Q):Wk P rd (.cond c t f) fr s Q:=
 aDn hb (fun hc=>ht hc (bI hc hyp)) (fun hc=>hf hc (bH hc hyp))
abbrev AV.i(n:Int):AV:= .int .i64 n
def aFm(sz:Nat){α:Type}(f:α→AV)(l:List α):AV:=slA sz (l.map f)
theorem b8{α:Type}{f:α→AV}(h: ∀x,bE (f x)=true): ∀l:List α,dM (l.map f)=true
 | []=>rfl
 |x::r=>by simp only [List.map_cons,dM,h x,b8 h r,Bool.and_self]
inductive PuL:List AV→Prop
 |nil:PuL []
 |cons {v:AV} {vs:List AV} (h:bE v=true) (t:PuL vs):PuL (v::vs)
theorem PuL.eq{vs:List AV}(h:PuL vs):dM vs=true:=by
 induction h with
 |nil=>rfl
 |cons h _ ih=>simp only [dM,h,ih,Bool.and_self]
theorem aET{vs:List AV}(h:PuL vs):bE (.agg vs)=true:=h.eq
theorem vX{vs:List AV}(h:PuL vs):bE (.tuple vs)=true:=h.eq
theorem fU{sz:Nat}{xs:List AV}(h:dM xs=true):Can (slA sz xs):=⟨rfl,h⟩
theorem pQ{sz:Nat}{α:Type}{f:α→AV}(h: ∀x,bE (f x)=true)(l:List α):bE (slA sz (l.map f))=true:=b8 h l
inductive Fx1:List AV→List AV→Prop
 |nil:Fx1 [] []
 |cons {v w:AV} {vs ws:List AV} (h:dY v=some w) (t:Fx1 vs ws):Fx1 (v::vs) (w::ws)
theorem Fx1.eq{vs ws:List AV}(h:Fx1 vs ws):tI vs=some ws:=by
 induction h with
 |nil=>rfl
 |cons h _ ih=>simp only [tI,h,ih]
theorem Fx1.agg{vs ws:List AV}(h:Fx1 vs ws):eK (.agg vs)=some (.agg ws):=by simp only [eK,h.eq]
theorem oU{v:AV}{o:Nat}(h:Can v):Can (.a8 v o):=⟨rfl,h.2⟩
theorem aEe{g:Nat}{a b:List AV}(h:uB a)(k:uB b):Can (.func g a b):=⟨rfl,by simp only [bE,h.pure,k.pure,Bool.and_self]⟩
inductive tD:List AV→List AV→Prop
 |nil:tD [] []
 |cons {v w:AV} {vs ws:List AV} (h:eK v=some w) (t:tD vs ws):tD (v::vs) (w::ws)
theorem tD.eq{vs ws:List AV}(h:tD vs ws):cM vs=some ws:=by
 induction h with
 |nil=>rfl
 |cons h _ ih=>simp only [cM,h,ih]
theorem aDf{v w:AV}(s:ASt)(h:eK v=some w):xN s v=some (w,s):=by
 cases v<;>first|(simp only [xN,h];done)|(simp [eK,dY] at h)
theorem tD.vs{vs ws:List AV}(s:ASt)(h:tD vs ws):lP s vs=some (ws,s):=by
 induction h with
 |nil=>rfl
 |cons h _ ih=>simp only [lP,aDf s h,ih]
theorem zZ{s0 s3:ASt}{v:AV}(h:xA v=false):(settle s0 v s3).1=v:=by
 cases v<;>first|rfl|(simp [xA] at h)
theorem bB{P:aK}{af:AF}{e:Env}{X:ASt→Prop}{s s3:ASt}{vs:List AV}{v1 v:AV}(h3:iN P e s af.res=some vs)(h4:mA s vs=some (v1,s3))(he:v1=v)(h5:gZ v=some v)(hx:X s3):aEH P af (VQ v X) e s:=
 ⟨vs,v1,s3,h3,h4,he▸h5,fun _=>he,hx⟩
theorem aCz{vs ws:List AV}(h:cM vs=some ws):gZ (.tuple vs)=some (.tuple ws):=by simp only [gZ,h]
theorem aBM{v w:AV}(h:dY v=some w):dY w=some w:=by
 cases v<;>simp [dY] at h<;>(try subst h)<;>(try rfl);rename_i sz xs o;cases o<;>simp at h<;>subst h<;>(cases xs<;>rfl)
theorem uF: ∀{vs ws:List AV},tI vs=some ws→tI ws=some ws
 | [],_,h=>by cases h;rfl
 |v::vs,ws,h=>by
  simp only [tI] at h;split at h
  ·cases h
  ·rename_i y hy;split at h
   ·cases h
   ·rename_i ys hys;cases h;simp only [tI,aBM hy,uF hys]
theorem aBt{v w:AV}(h:eK v=some w):eK w=some w:=by
 cases v
 case agg cs=>
  simp only [eK] at h;split at h
  ·rename_i ds hd;cases h;simp only [eK,uF hd]
  ·cases h
 case slice sz xs o=>cases o<;>(simp [eK,dY] at h;subst h;cases xs<;>rfl)
 all_goals first
  |(simp [eK,dY] at h;done)
  |(simp [eK,dY] at h;subst h;rfl)
theorem sH: ∀{vs ws:List AV},cM vs=some ws→cM ws=some ws
 | [],_,h=>by cases h;rfl
 |v::vs,ws,h=>by
  simp only [cM] at h;split at h
  ·cases h
  ·rename_i y hy;split at h
   ·cases h
   ·rename_i ys hys;cases h;simp only [cM,aBt hy,sH hys]
theorem kD{P:aK}{af:AF}{e:Env}{X:ASt→Prop}{s:ASt}{u v:AV}{vs ws:List AV}(h3:iN P e s af.res=some (u::v::vs))(h:tD (u::v::vs) ws)(hx:X s):aEH P af (VQ (.tuple ws) X) e s:=by
 refine⟨_,.tuple ws,s,h3,?_,aCz (sH h.eq),fun _=>rfl,hx⟩;have:=h.vs s;simp only [mA,this]
theorem frE{e:Env}{S:List (Nat×AV)}{ds:List dC}(h:oX e S):(⟨e,ds⟩:Fr)=⟨gP e S,ds⟩:=by rw [h.gP]
section
variable {P : aK} {rd : Option Nat} {s s' : ASt} {ds : List dC}
theorem iJ{c:AC}{S:List (Nat×AV)}{Q' Q:cY→Fr→ASt→Prop}{e0:Env}(h: ∀e,Wk P rd c ⟨gP e S,ds⟩ s Q')(hh:oX e0 S)(k: ∀ex fr s,Q' ex fr s→Q ex fr s):Wk P rd c ⟨e0,ds⟩ s Q:=by
 have:=h e0;rw [hh.gP] at this;exact this.mono k
theorem gE{b:AC}{fr:Fr}{Q:cY→Fr→ASt→Prop}(h:Wk P rd b fr s (aD8 (fun fr s=>Wk P rd (.loop b) fr s Q) Q)):Wk P rd (.loop b) fr s Q:=by
 obtain⟨⟨ex,fr1,s1⟩,N,h1,h2⟩:=h.ev.out;have fin: ∀(r:CR),Q r.ex r.fr r.s→gQ (evC (cC P N) P rd N b) (N+1) fr s=some r→(match ex with| .normal=>False|_=>True)→Wk P rd (.loop b) fr s Q:=by
  intro r hq hr hne;refine⟨⟨r,N+1,hq,fun n hn=> ?_⟩⟩;simp only [evC];exact lL (fun fr s r h=>bS (o5 (by omega)) (by omega) b h) hn hr
 cases ex with
 |normal=>
  obtain⟨r,M,h3,h4⟩:=(h1:Wk P rd (.loop b) fr1 s1 Q).ev.out;refine⟨⟨r,max N M+1,h3,fun n hn=> ?_⟩⟩;have e1:=h4 M (Nat.le_refl _);simp only [evC] at e1⊢;obtain⟨m,rfl⟩: ∃m,n=m+1:=⟨n-1,by omega⟩
  have e2:gQ (evC (cC P (m+1)) P rd (m+1) b) m fr1 s1=some r:=lL (fun fr s r h=>bS (o5 (by omega)) (by omega) b h) (by omega) e1;simp only [gQ,h2 (m+1) (by omega)];exact e2
 |exit i=>exact fin ⟨.exit i,fr1,s1⟩ h1 (by simp only [gQ,h2 N (Nat.le_refl _)]) trivial
 |ret=>exact fin ⟨.ret,fr1,s1⟩ h1 (by simp only [gQ,h2 N (Nat.le_refl _)]) trivial
 |panic v=>exact fin ⟨.panic v,fr1,s1⟩ h1 (by simp only [gQ,h2 N (Nat.le_refl _)]) trivial
end
def aAA(i:AI):Bool:=match i.op with| .pend _=>false|_=>true
theorem gG(d:Option Nat):aG d []= []:=by cases d<;>rfl
theorem vI{H:Handler}{P:aK}: ∀{a b:List AI}{fr fr1:Fr}{s s1:ASt},a.all aAA=true→aM H P a [] fr s=some (.norm fr1 s1)→aM H P (a++b) [] fr s=aM H P b [] fr1 s1
 | [],b,fr,fr1,s,s1,_,h=>by simp only [aM,Option.some.injEq,gW.norm.injEq] at h;obtain⟨rfl,rfl⟩:=h;rfl
 |i::a,b,⟨e,ds⟩,fr1,s,s1,hp,h=>by
  simp only [List.all_cons,Bool.and_eq_true] at hp;obtain⟨d,op,gd,pre⟩:=i;have ih:=fun{fr:Fr}{s:ASt}(h:aM H P a [] fr s=some (.norm fr1 s1))=>vI (b:=b) hp.2 h;simp only [List.cons_append];cases hw:wanted e gd with
  |none=>simp [aM,hw] at h
  |some w=>
   cases w with
   |false=>
    simp only [aM,hw,gG] at h⊢;cases hk:j3 P e op with
    |false=>rw [hk] at h;cases h
    |true=>simp only [hk] at h⊢;exact ih h
   |true=>
    cases hpl:plainO op with
    |true=>
     rw [xR (d':=d) hpl hw] at h⊢
     revert h
     cases fI P e s op with
     |none=>intro h;cases h
     |some x=>intro h;simp only [gG] at h⊢;exact ih h
    |false=>
     cases op<;>first|(simp [plainO] at hpl;done)|skip
     case pend z=>simp [aAA] at hp
     case shut d0 sz x=>
      simp only [aM,hw] at h;split at h
      ·simp at h
      ·cases h
     case defer f args=>
      simp only [aM,hw] at h⊢;split at h
      ·rename_i h1 h2;simp only [h1,h2,gG] at h⊢;exact ih h
      ·cases h
     case panic x=>
      simp only [aM,hw] at h;split at h<;>cases h
     case aI st f args=>
      simp only [aM,hw] at h⊢;split at h
      ·rename_i h1 h2;split at h
       ·rename_i h3 h4;split at h
        ·rename_i h5;split at h
         ·rename_i h6;simp only [h1,h2,h3,h4,h5,h6,gG] at h⊢;exact ih h
         ·cases h
        ·cases h
       ·cases h
      ·cases h
     case call f args=>
      simp only [aM,hw] at h⊢;split at h
      ·rename_i h1 h2;split at h
       ·rename_i h3;simp only [h1,h2,h3,gG] at h⊢;exact ih h
       ·cases h
       ·cases h
      ·cases h
theorem aO{P:aK}{ops:List AI}{e0:Env}{ds:List dC}{s:ASt}{Q:gW→Prop}(n:Nat)(S:List (Nat×AV))(s':ASt)(h:Wo P (ops.take n) [] ⟨e0,ds⟩ s (aEY (Kept S ds s')))(k: ∀e,Wo P (ops.drop n) [] ⟨gP e S,ds⟩ s' Q)(hp:(ops.take n).all aAA=true:=by rfl):Wo P ops [] ⟨e0,ds⟩ s Q:=by
 obtain⟨r,N,h1,h2⟩:=h.ev.out;cases r with
 |pan v f s1=>exact absurd h1.1 (by simp)
 |norm f s1=>
  obtain⟨_,rfl,h3,h4⟩:=h1;have k1:=k f.env;rw [h4.gP] at k1;obtain⟨r2,M,h5,h6⟩:=k1.ev.out;refine⟨⟨r2,max N M,h5,fun n' hn=> ?_⟩⟩;have e1:=vI (b:=ops.drop n) hp (h2 n' (by omega));rw [List.take_append_drop] at e1;rw [e1];obtain⟨fe,fd⟩:=f;simp only at h3;subst h3;exact h6 n' (by omega)
theorem aQ{P:aK}{l:List AI}{pd:List (Nat×Nat)}{e:Env}{ds:List dC}{s:ASt}{Q:gW→Prop}{t:Nat}{c:Bool}(h:e t= .bool c)
(kt:c=true→Wo P l pd ⟨upd e t (.bool true),ds⟩ s Q)(kf:c=false→Wo P l pd ⟨upd e t (.bool false),ds⟩ s Q):Wo P l pd ⟨e,ds⟩ s Q:=by
 cases c with
 |true=>have:=kt rfl;rwa [sD h] at this
 |false=>have:=kf rfl;rwa [sD h] at this
section
variable {P : aK} {e : Env} {ds : List dC} {s s1 : ASt} {Q : gW → Prop} {d : Nat} {d' : Option Nat} {rest : List AI} {pre : List Nat} {v : AV} {gd : Option (Nat × Bool)} {pd : List (Nat × Nat)}
theorem wgp{op:AOp}(hp:plainO op=true)(hg:wanted e gd=some true)(h:fI P e s op=some (v,s1))(k:Wo P rest (aG (some d) pd) ⟨upd e d v,ds⟩ s1 Q):Wo P (⟨some d,op,gd,pre⟩::rest) pd ⟨e,ds⟩ s Q:=
 aFg (d':=some d) hp hg h k
theorem wgv{op:AOp}(v:AV)(hp:plainO op=true)(hg:wanted e gd=some true)(h:fI P e s op=some (v,s))(k:Wo P rest (aG (some d) pd) ⟨upd e d v,ds⟩ s Q):Wo P (⟨some d,op,gd,pre⟩::rest) pd ⟨e,ds⟩ s Q:=wgp hp hg h k
theorem fS{α:Type}{f:α→AV}{l:List α}{esz:Nat}{x:aH}(hg:wanted e gd=some true)(hx:Sl esz (evO P e x) (l.map f))(k:Wo P rest (aG (some d) pd) ⟨upd e d (.int .i64 (l.length:Int)),ds⟩ s Q):Wo P (⟨some d,.j7 x,gd,pre⟩::rest) pd ⟨e,ds⟩ s Q:=by
 refine wgp rfl hg (s1:=s) ?_ k;obtain⟨z,o,h,_⟩:=hx.is;simp [fI,aU,h]
theorem gJ{α:Type}{f:α→AV}{l:List α}{esz:Nat}{x i:aH}{ik:IntKind}{n:Int}{y:α}(hg:wanted e gd=some true)(hx:Sl esz (evO P e x) (l.map f))(hi:evO P e i= .int ik n)(h:idx l n=some y)(hv:f y=v)
(k:Wo P rest (aG (some d) pd) ⟨upd e d (.a8 v 0),ds⟩ s Q):Wo P (⟨some d,.hN esz x i,gd,pre⟩::rest) pd ⟨e,ds⟩ s Q:=by
 refine wgp rfl hg (v:= .a8 v 0) (s1:=s) ?_ k;unfold idx at h;split at h
 ·rename_i hn;obtain⟨z,o,hxe,hz⟩:=hx.is;have hsz:z=esz:=by
   rcases hz with rfl|hz
   ·rfl
   ·rw [List.map_eq_nil_iff.1 hz] at h;simp at h
  simp [fI,aU,hxe,hi,fR,hn,hsz,h,hv]
 ·cases h
theorem xM{x i:aH}{t:Str}{ik:IntKind}{n:Int}{b:UInt8}(hg:wanted e gd=some true)(hx:evO P e x= .str t)(hi:evO P e i= .int ik n)(h:idx t n=some b)
(k:Wo P rest (aG (some d) pd) ⟨upd e d (.int .u8 b.toNat),ds⟩ s Q):Wo P (⟨some d,.lB x i,gd,pre⟩::rest) pd ⟨e,ds⟩ s Q:=by
 refine wgp rfl hg (v:= .int .u8 b.toNat) (s1:=s) ?_ k;unfold idx at h;split at h
 ·rename_i hn;simp [fI,aU,hx,hi,fR,hn,h]
 ·cases h
theorem vK{z:AV}: ∀(vs:List AV)(pre post:List AV)(k:Nat),k=pre.length→post.length=vs.length→kM (pre++post) ((List.range' k vs.length).zip vs)=some (pre++vs)
 | [],pre,post,k,_,h=>by
  have:post= []:=List.length_eq_zero_iff.1 h;subst this;simp [kM]
 |v::vs,pre,post,k,hk,h=>by
  cases post with
  |nil=>simp at h
  |cons p post=>
   subst hk;simp only [List.length_cons,List.range'_succ,List.zip_cons_cons,kM];rw [if_pos (by simp),List.set_append_right _ _ (Nat.le_refl _),Nat.sub_self,List.set_cons_zero];have:=vK (z:=z) vs (pre++ [v]) post (pre.length+1) (by simp) (by simpa using h);simpa using this
theorem rE{α:Type}{f:α→AV}{l:List α}{vs:List AV}{esz len:Nat}{z:List AV}{parts:List (Nat×aH)}(hg:wanted e gd=some true)(hf:tD (parts.map fun p=>evO P e p.2) vs)(hv:vs=l.map f)
(hc: ∀x,(cellsOf (f x)).length=esz)(hi:parts.map (·.1)=List.range' 0 l.length)(hl:len=l.length)(h16:len*esz≤16777216)
(k:Wo P rest (aG (some d) pd) ⟨upd e d (.slice esz (l.map f) .full),ds⟩ s Q):Wo P (⟨some d,.gO esz len z parts,gd,pre⟩::rest) pd ⟨e,ds⟩ s Q:=by
 refine wgp rfl hg (v:= .slice esz (l.map f) .full) (s1:=s) ?_ k;have h1:cM (parts.map fun p=>evO P e p.2)=some (l.map f):=by rw [hf.eq,hv]
 have h2:((l.map f).all (fun v=>(cellsOf v).length==esz)&&decide (len*esz≤16777216))=true:=by simp [hc,h16]
 have h3:=vK (z:=elemOf esz z) (l.map f) [] (List.replicate len (elemOf esz z)) 0 rfl (by simp [hl]);simp only [List.nil_append,List.length_map] at h3;simp only [fI,aU,h1];rw [if_pos h2,hi,h3]
theorem wcD{st:Bool}{f:aH}{args:List aH}{g:Nat}{vs:List AV}(hc:Pf P g vs v)(hg:wanted e gd=some true)(hf:evO P e f= .func g [] [])(ha:tD (args.map (evO P e)) vs)
(k:Wo P rest (aG d' pd) ⟨dD e d' v,ds⟩ s Q):Wo P (⟨d',.aI st f args,gd,pre⟩::rest) pd ⟨e,ds⟩ s Q:=
 xT (a:= []) (b:= []) hg hf ha.eq (by simpa using hc) k
theorem wcC{st:Bool}{f:aH}{args:List aH}{g:Nat}{vs us a b:List AV}(hc:Pf P g us v)(hg:wanted e gd=some true)(hf:evO P e f= .func g a b)(ha:tD (args.map (evO P e)) vs)(hu:a++vs++b=us)
(k:Wo P rest (aG d' pd) ⟨dD e d' v,ds⟩ s Q):Wo P (⟨d',.aI st f args,gd,pre⟩::rest) pd ⟨e,ds⟩ s Q:=
 xT hg hf ha.eq (by rw [hu];exact hc) k
end
section
variable {L T : List Nat} {s0 s s' : ASt} {bs bs' : List (Nat × eH)} {gs gs' : List (AV × Nat × List AV)}
theorem St.lt(h:St L T s0 s bs gs){p:Nat×eH}(hp:p∈bs):p.1<s.blks.length:=(List.getElem?_eq_some_iff.1 (h.b p hp)).1
theorem St.get{l:Nat}{b:eH}(h:St L T s0 s bs gs)(i:Nat)(hb:bs[i]?=some (l,b)):s.blks[l]?=some b:=h.b (l,b) (List.mem_of_getElem? hb)
def aCZ(v:AV):Bool:=(j1 v).isNone
theorem St.alloc{cs:List AV}(h:St L T s0 s bs gs)(ht: ∀v∈cs,∀t,j1 v=some t→t<s.toks.length)(w:Bool):St L T s0 {s with blks:=s.blks++ [.cells cs w]} ((s.blks.length,.cells cs w)::bs) gs:=by
 refine⟨⟨by simp;have:=h.ext.bl;omega,fun i hi hn=> ?_,h.ext.tl,h.ext.t⟩,?_,?_,?_,h.g,h.gT,h.gd,?_,?_⟩
 ·rw [←h.ext.b i hi hn];exact List.getElem?_append_left (by have:=h.ext.bl;omega)
 ·intro p hp;rcases List.mem_cons.1 hp with rfl|hp
  ·simp
  ·rw [←h.b p hp];exact List.getElem?_append_left (h.lt hp)
 ·intro p hp;rcases List.mem_cons.1 hp with rfl|hp
  ·exact .inr h.ext.bl
  ·exact h.bL p hp
 ·simp only [List.map_cons,List.nodup_cons];refine⟨fun hm=> ?_,h.nd⟩;obtain⟨p,hp,he⟩:=List.mem_map.1 hm;have:=h.lt hp;omega
 ·intro p hp hl cs' w' he;rcases List.mem_cons.1 hp with rfl|hp
  ·have:=h.ext.bl;simp only at hl;omega
  ·exact h.lk p hp hl cs' w' he
 ·intro p hp cs' w' he;rcases List.mem_cons.1 hp with rfl|hp
  ·simp only [eH.cells.injEq] at he;obtain⟨rfl,rfl⟩:=he;exact ht
  ·exact h.tv p hp cs' w' he
theorem xU{b:Bool}{l n:Nat}{o:Option Nat}(h:cW n o=true):cW n (low b l o)=true:=by
 cases o with
 |none=>simp [cW] at h
 |some m=>cases b<;>simp [low,cW] at h⊢ <;>omega
theorem aDu{l:Nat}{o:Option Nat}:cW (l+1) (low true l o)=true:=by
 cases o with
 |none=>simp [low,cW]
 |some m=>simp [low,cW];omega
theorem aAK{v:AV}{t:Nat}(h:j1 v=some t):toks v=true:=by
 cases v with
 |slice sz xs o=>cases o<;>simp [j1] at h;simp [toks]
 |_=>simp [j1] at h
theorem aBO{vs:List AV}{v:AV}(h:v∈vs)(ht:toks v=true):fJ vs=true:=by
 induction vs with
 |nil=>cases h
 |cons x xs ih=>
  rcases List.mem_cons.1 h with rfl|h
  ·simp [fJ,ht]
  ·simp [fJ,ih h]
theorem sC{cs ds:List AV}{off:Nat}{v:AV}(h:v∈a0 cs off ds):v∈cs∨v∈ds:=by
 unfold a0 at h;rcases List.mem_append.1 h with h|h
 ·rcases List.mem_append.1 h with h|h
  ·exact .inl (List.mem_of_mem_take h)
  ·exact .inr h
 ·exact .inl (List.mem_of_mem_drop h)
theorem St.set{l:Nat}{cs ds cs':List AV}{w:Bool}{off:Nat}(h:St L T s0 s bs gs)(i:Nat)(hb:bs[i]?=some (l,.cells cs w))(hc:a0 cs off ds=cs')(ht: ∀v∈ds,∀t,j1 v=some t→t<s.toks.length):
  St L T s0 (fC s l ds (s.blks.set l (.cells cs' true))) (bs.set i (l,.cells cs' true)) gs:=by
 subst hc;have hm:(l,eH.cells cs w)∈bs:=List.mem_of_getElem? hb;have hi:i<bs.length:=(List.getElem?_eq_some_iff.1 hb).1;have hbi:bs[i]=(l,.cells cs w):=(List.getElem?_eq_some_iff.1 hb).2;have hkeys:(bs.set i (l,eH.cells (a0 cs off ds) true)).map (·.1)=bs.map (·.1):=by
  rw [List.map_set];apply List.ext_getElem?;intro k;by_cases hk:i=k
  ·subst hk;simp [hi,hbi]
  ·rw [List.getElem?_set_ne hk]
 have hne: ∀p∈bs.set i (l,eH.cells (a0 cs off ds) true),p=(l,eH.cells (a0 cs off ds) true)∨(p∈bs∧p.1≠l):=by
  intro p hp;obtain⟨k,hk,rfl⟩:=List.mem_iff_getElem.1 hp;by_cases hik:i=k
  ·subst hik;simp
  ·refine .inr ⟨by rw [List.getElem_set_ne hik];exact List.getElem_mem _,fun he=>hik ?_⟩;rw [List.getElem_set_ne hik] at he;simp only [List.length_set] at hk;have h1:(bs.map (·.1))[i]'(by simpa using hi)=(bs.map (·.1))[k]'(by simpa using hk):=by simp [hbi,he]
   exact(List.getElem_inj h.nd).1 h1
 have hll:l<s.blks.length:=h.lt hm;refine⟨⟨by simp [fC];exact h.ext.bl,fun j hj hn=> ?_,h.ext.tl,h.ext.t⟩,?_,?_,by rw [hkeys];exact h.nd,h.g,h.gT,h.gd,?_,?_⟩
 ·rw [←h.ext.b j hj hn];refine List.getElem?_set_ne ?_
  rintro rfl
  rcases h.bL _ hm with h1|h1
  ·exact hn h1
  ·simp only at h1;omega
 ·intro p hp;rcases hne p hp with rfl|⟨hp,hn⟩
  ·simp [fC,hll]
  ·rw [←h.b p hp];exact List.getElem?_set_ne (Ne.symm hn)
 ·intro p hp;rcases hne p hp with rfl|⟨hp,hn⟩
  ·exact h.bL (l,.cells cs w) hm
  ·exact h.bL p hp
 ·intro p hp hl cs' w' he v hv t htk;rcases hne p hp with rfl|⟨hp,hn⟩
  ·simp only [eH.cells.injEq] at he;obtain⟨rfl,rfl⟩:=he;rcases sC hv with hv|hv
   ·exact(h.lk (l,.cells cs w) hm hl cs w rfl v hv t htk).imp xU id
   ·left;simp only [fC,aBO hv (aAK htk)];exact aDu
  ·exact(h.lk p hp hl cs' w' he v hv t htk).imp xU id
 ·intro p hp cs' w' he v hv t htk;rcases hne p hp with rfl|⟨hp,hn⟩
  ·simp only [eH.cells.injEq] at he;obtain⟨rfl,rfl⟩:=he;rcases sC hv with hv|hv
   ·exact h.tv (l,.cells cs w) hm cs w rfl v hv t htk
   ·exact ht v hv t htk
  ·exact h.tv p hp cs' w' he v hv t htk
theorem St.aFc(h:St L T s0 s bs gs)(n:Nat):St L T s0 s (bs.take n) gs:=h.less (List.take_sublist _ _) (List.Sublist.refl _)
theorem vD{n:Nat}{a b:Option Nat}(h:cW n a=true):cW n (z3 a b)=true:=by
 cases a with
 |none=>simp [cW] at h
 |some x=>cases b<;>simp [z3,cW] at h⊢ <;>omega
theorem nC{d:Bool}(n:Nat)(h:cW n s0.lowT=true):cW n (eE s0 d s).lowT=true:=by
 unfold eE;split
 ·unfold oS;split
  ·exact vD h
  ·exact h
 ·split
  ·exact h
  ·exact vD h
theorem yK(v:AV)(n:Nat)(h:cW n s0.lowT=true):cW n (settle s0 v s).2.lowT=true:=by
 unfold settle;split
 ·split
  ·exact nC n h
  ·split
   ·split
    ·exact h
    ·exact nC n h
   ·exact nC n h
 ·exact nC n h
theorem aCC{v1 v:AV}(h1:gZ v1=some v)(hn:xA v=false):xA v1=false:=by
 cases v1<;>first|rfl|skip
 rename_i sz xs o;cases o<;>(simp [gZ,eK,dY] at h1;subst h1;cases hn)
theorem bN{P:aK}{g:Nat}{af:AF}{args:List AV}{s:ASt}{v:AV}(h0:P.prim g=none)(h:P.fn g=some af)(hn:Nat.ble args.length af.nt=true)
(k:Wk P none af.body ⟨lJ args,[]⟩ (aV s) (tU P af (PQ s v))):Fc P (.func g) args s (dQ s v):=
 aDs h0 h hn (fun v1 s3 hq=>⟨_,rfl,xK hq.1,fun hn=>(zZ (aCC hq.1 hn)).trans (hq.2.1 (aCC hq.1 hn)),fun n _ hl=>yK v1 n hl,hq.2.2.settle v1⟩) k
end
inductive TkL(n:Nat):List AV→Prop
 |nil:TkL n []
 |cons {v:AV} {vs:List AV} (h: ∀t,j1 v=some t→t<n) (r:TkL n vs):TkL n (v::vs)
theorem TkL.all{n:Nat}{vs:List AV}(h:TkL n vs): ∀v∈vs,∀t,j1 v=some t→t<n:=by
 induction h with
 |nil=>intro v hv;cases hv
 |cons h _ ih=>intro v hv;rcases List.mem_cons.1 hv with rfl|hv;exact h;exact ih v hv
theorem tkN{n:Nat}{v:AV}(h:j1 v=none): ∀t,j1 v=some t→t<n:=fun t ht=>by rw [h] at ht;cases ht
theorem aDZ{n:Nat}: ∀{vs:List AV},vs.all aCZ=true→TkL n vs
 | [],_=> .nil
 |v::vs,h=>by
  simp only [List.all_cons,Bool.and_eq_true] at h;exact .cons (tkN (by simpa [aCZ] using h.1)) (aDZ h.2)

section
variable {P : aK} {e : Env} {ds : List dC} {s s1 : ASt} {Q : gW → Prop} {d : Nat} {d' : Option Nat} {rest : List AI} {pre : List Nat} {v : AV} {gd : Option (Nat × Bool)} {pd : List (Nat × Nat)}
 {L T : List Nat} {s0 : ASt} {bs : List (Nat × eH)} {gs : List (AV × Nat × List AV)}
theorem tA{z:List AV}(hg:wanted e gd=some true)(hS:St L T s0 s bs gs)(hz:z.all aCZ=true)(k: ∀l s',St L T s0 s' ((l,.cells z true)::bs) gs→Wo P rest (aG (some d) pd) ⟨upd e d (.ptr l 0),ds⟩ s' Q):Wo P (⟨some d,.alloc z,gd,pre⟩::rest) pd ⟨e,ds⟩ s Q:=
 wgp rfl hg (v:= .ptr s.blks.length 0) (by simp only [fI,aU,dV,cA]) (k _ _ (hS.alloc (aDZ hz).all true))
theorem kT{l off sz:Nat}{a x:aH}{cs ds' cs':List AV}(i:Nat)(hg:wanted e gd=some true)(hS:St L T s0 s bs gs)(hb:bs[i]?=some (l,.cells cs true))(ha:evO P e a= .ptr l off)(hx:cellsOf (evO P e x)=ds')(hbx:nU (evO P e x)=true)(hl:ds'.length=sz)(hf:off+sz≤cs.length)
(ht:TkL s.toks.length ds')(hc:a0 cs off ds'=cs')(k: ∀s',St L T s0 s' (bs.set i (l,.cells cs' true)) gs→Wo P rest (aG d' pd) ⟨dD e d' dX,ds⟩ s' Q):Wo P (⟨d',.store sz a x,gd,pre⟩::rest) pd ⟨e,ds⟩ s Q:=by
 have hget:=hS.get i hb;refine aFg (d':=d') rfl hg (v:=dX) (s1:=fC s l ds' (s.blks.set l (.cells cs' true))) ?_ (k _ (hS.set i hb hc ht.all));have hcc:(nU (evO P e x)&&decide ((cellsOf (evO P e x)).length=sz)&&decide (off+sz≤cs.length))=true:=by rw [hbx,hx,hl];simp [hf]
 simp only [fI,aU,dV,cA,ha,hget];rw [if_pos hcc,hx,hc]
end
inductive rP(P:aK)(e:Env)(s:ASt):List ARV→List AV→Prop
 |nil:rP P e s [] []
 |cons {r:ARV} {v:AV} {rs:List ARV} {vs:List AV} (h:uN P e s r=some v) (t:rP P e s rs vs):rP P e s (r::rs) (v::vs)
theorem rP.eq{P:aK}{e:Env}{s:ASt}{rs:List ARV}{vs:List AV}(h:rP P e s rs vs):iN P e s rs=some vs:=by
 induction h with
 |nil=>rfl
 |cons h _ ih=>simp only [iN,h,ih]
theorem m9{P:aK}{e:Env}{L T:List Nat}{s0 s:ASt}{bs:List (Nat×eH)}{gs:List (AV×Nat×List AV)}{t sz l off:Nat}{cs us ws:List AV}{w:Bool}(hS:St L T s0 s bs gs)(i:Nat)(hb:bs[i]?=some (l,.cells cs w))(ha:e t= .ptr l off)(hl:off+sz≤cs.length)(hu:(cs.drop off).take sz=us)(hf:Fx1 us ws):uN P e s (.cell t true sz)=some (.agg ws):=by
 simp only [uN,dV,evO,ha,hS.get i hb,partOf,hl,if_true,hu,hf.agg]
def rune(t:Str)(pos:Nat):Nat×Nat:=Utf8.decode ⟨t.toArray⟩ pos
section
variable {P : aK} {e : Env} {ds : List dC} {s s1 : ASt} {Q : gW → Prop} {d : Nat} {d' : Option Nat} {rest : List AI} {pre : List Nat} {v : AV} {gd : Option (Nat × Bool)} {pd : List (Nat × Nat)}
 {L T : List Nat} {s0 : ASt} {bs : List (Nat × eH)} {gs : List (AV × Nat × List AV)}
theorem St.aFk{b:eH}(h:St L T s0 s bs gs)(hb: ∀cs w,b≠ .cells cs w):St L T s0 {s with blks:=s.blks++ [b]} ((s.blks.length,b)::bs) gs:=by
 refine⟨⟨by simp;have:=h.ext.bl;omega,fun i hi hn=> ?_,h.ext.tl,h.ext.t⟩,?_,?_,?_,h.g,h.gT,h.gd,?_,?_⟩
 ·rw [←h.ext.b i hi hn];exact List.getElem?_append_left (by have:=h.ext.bl;omega)
 ·intro p hp;rcases List.mem_cons.1 hp with rfl|hp
  ·simp
  ·rw [←h.b p hp];exact List.getElem?_append_left (h.lt hp)
 ·intro p hp;rcases List.mem_cons.1 hp with rfl|hp
  ·exact .inr h.ext.bl
  ·exact h.bL p hp
 ·simp only [List.map_cons,List.nodup_cons];refine⟨fun hm=> ?_,h.nd⟩;obtain⟨p,hp,he⟩:=List.mem_map.1 hm;have:=h.lt hp;omega
 ·intro p hp hl cs' w' he;rcases List.mem_cons.1 hp with rfl|hp
  ·exact absurd he (hb cs' w')
  ·exact h.lk p hp hl cs' w' he
 ·intro p hp cs' w' he;rcases List.mem_cons.1 hp with rfl|hp
  ·exact absurd he (hb cs' w')
  ·exact h.tv p hp cs' w' he
theorem St.aEl{l:Nat}{b0 b:eH}(h:St L T s0 s bs gs)(i:Nat)(h0:bs[i]?=some (l,b0))(hb: ∀cs w,b≠ .cells cs w):St L T s0 {s with blks:=s.blks.set l b} (bs.set i (l,b)) gs:=by
 have hm:(l,b0)∈bs:=List.mem_of_getElem? h0;have hi:i<bs.length:=(List.getElem?_eq_some_iff.1 h0).1;have hbi:bs[i]=(l,b0):=(List.getElem?_eq_some_iff.1 h0).2;have hkeys:(bs.set i (l,b)).map (·.1)=bs.map (·.1):=by
  rw [List.map_set];apply List.ext_getElem?;intro k;by_cases hk:i=k
  ·subst hk;simp [hi,hbi]
  ·rw [List.getElem?_set_ne hk]
 have hne: ∀p∈bs.set i (l,b),p=(l,b)∨(p∈bs∧p.1≠l):=by
  intro p hp;obtain⟨k,hk,rfl⟩:=List.mem_iff_getElem.1 hp;by_cases hik:i=k
  ·subst hik;simp
  ·refine .inr ⟨by rw [List.getElem_set_ne hik];exact List.getElem_mem _,fun he=>hik ?_⟩;rw [List.getElem_set_ne hik] at he;simp only [List.length_set] at hk;have h1:(bs.map (·.1))[i]'(by simpa using hi)=(bs.map (·.1))[k]'(by simpa using hk):=by simp [hbi,he]
   exact(List.getElem_inj h.nd).1 h1
 have hll:l<s.blks.length:=h.lt hm;refine⟨⟨by simp;exact h.ext.bl,fun j hj hn=> ?_,h.ext.tl,h.ext.t⟩,?_,?_,by rw [hkeys];exact h.nd,h.g,h.gT,h.gd,?_,?_⟩
 ·rw [←h.ext.b j hj hn];refine List.getElem?_set_ne ?_
  rintro rfl
  rcases h.bL (l,b0) hm with h1|h1
  ·exact hn h1
  ·simp only at h1;omega
 ·intro p hp;rcases hne p hp with rfl|⟨hp,hn⟩
  ·simp [hll]
  ·rw [←h.b p hp];exact List.getElem?_set_ne (Ne.symm hn)
 ·intro p hp;rcases hne p hp with rfl|⟨hp,hn⟩
  ·exact h.bL (l,b0) hm
  ·exact h.bL p hp
 ·intro p hp hl cs' w' he;rcases hne p hp with rfl|⟨hp,hn⟩
  ·exact absurd he (hb cs' w')
  ·exact h.lk p hp hl cs' w' he
 ·intro p hp cs' w' he;rcases hne p hp with rfl|⟨hp,hn⟩
  ·exact absurd he (hb cs' w')
  ·exact h.tv p hp cs' w' he
theorem aBX{x:aH}{t:Str}(hg:wanted e gd=some true)(hS:St L T s0 s bs gs)(hx:evO P e x= .str t)(k: ∀l s',St L T s0 s' ((l,.iter t 0)::bs) gs→Wo P rest (aG (some d) pd) ⟨upd e d (.iter l),ds⟩ s' Q):Wo P (⟨some d,.gH x,gd,pre⟩::rest) pd ⟨e,ds⟩ s Q:=
 wgp rfl hg (v:= .iter s.blks.length) (by simp only [fI,aU,dV,cA,hx]) (k _ _ (hS.aFk (fun _ _ h=>by cases h)))
theorem aCa{it:aH}{l:Nat}{t:Str}{pos:Nat}(i:Nat)(hg:wanted e gd=some true)(hS:St L T s0 s bs gs)(hb:bs[i]?=some (l,.iter t pos))(hx:evO P e it= .iter l)
(kt:decide (pos<t.length)=true→ ∀s',St L T s0 s' (bs.set i (l,.iter t (pos+(rune t pos).2))) gs→Wo P rest (aG (some d) pd) ⟨upd e d (.tuple [.bool true,.int .i64 pos,.int .i32 (rune t pos).1]),ds⟩ s' Q)
(kf:decide (pos<t.length)=false→Wo P rest (aG (some d) pd) ⟨upd e d (.tuple [.bool false]),ds⟩ s Q):Wo P (⟨some d,.iE it,gd,pre⟩::rest) pd ⟨e,ds⟩ s Q:=by
 have hget:=hS.get i hb;by_cases hp:pos<t.length
 ·refine wgp rfl hg (v:= .tuple [.bool true,.int .i64 pos,.int .i32 (rune t pos).1]) (s1:={s with blks:=s.blks.set l (.iter t (pos+(rune t pos).2))}) ?_ (kt (decide_eq_true hp) _ (hS.aEl i hb (fun _ _ h=>by cases h)));simp only [fI,aU,dV,cA,hx,hget,if_pos hp];rfl
 ·refine wgp rfl hg (v:= .tuple [.bool false]) (s1:=s) ?_ (kf (decide_eq_false hp));simp only [fI,aU,dV,cA,hx,hget,if_neg hp]
end


section
variable {P : aK} {s0 s : ASt} {L T : List Nat} {bs : List (Nat × eH)} {gs : List (AV × Nat × List AV)}
theorem St.jL{l:Nat}{lp:mN}(h:St L T s0 s bs gs)(i:Nat)(hb:bs[i]?=some (l,.loop lp))(hr:lp.st= .ready): ∃s2,Fw.jL s l=some s2∧St L T s0 s2 (bs.set i (l,.loop {lp with st:= .busy})) gs:=
 ⟨_,by simp only [Fw.jL,h.get i hb,hr],h.aEl i hb (fun _ _ h=>by cases h)⟩
theorem St.fM{l:Nat}{lp:mN}(h:St L T s0 s bs gs)(i:Nat)(hb:bs[i]?=some (l,.loop lp))(f:mN→mN): ∃s2,Fw.fM s l f=some s2∧St L T s0 s2 (bs.set i (l,.loop (f lp))) gs:=
 ⟨_,by simp only [Fw.fM,h.get i hb],h.aEl i hb (fun _ _ h=>by cases h)⟩
end
end Go.Fw
set_option maxRecDepth 100000
namespace Go.Proofs.Ytfcfnkffgiklpaa
open Go Go.Fw
structure aA where
 effect:Str
 instance_:Int
 marker:Int
abbrev aF(x:aA):AV:= .agg [(.str x.effect),(.int .i64 x.instance_),(.int .i64 x.marker)]
abbrev aB(x:aA):AV:=aF x
theorem aX(x:aA):bE (aB x)=true:=aET (.cons rfl (.cons rfl (.cons rfl (.nil))))
theorem bV(x:aA):Fw.Can (aF x):=⟨rfl,aX x⟩
theorem qN(x:aA):(cellsOf (aB x)).length=3:=rfl
end Go.Proofs.Ytfcfnkffgiklpaa
namespace Go.Proofs.Ytfcfnkffgiklpaa
open Go Go.Fw Go.RowKit
open Go.Proofs
theorem pB:(Try.prog.info? 24).map (fun i=>(i.zero,i.size,i.bytes))=some (some (.agg #[.string ByteArray.empty,.int .i64 0,.int .i64 0]),3,32):=by kernel_rfl
@[simp] theorem aFi:(FV Try.prog).round=none:=rfl
@[simp] theorem aE2:(FV Try.prog).depth=none:=rfl
@[simp] theorem aFC:(FV Try.prog).fn 18:=⟨_,Try.func18⟩
@[simp] theorem aFA:(FV Try.prog).fn 21:=⟨_,Try.func21⟩
@[simp] theorem aFx:(FV Try.prog).fn 23:=⟨_,Try.func23⟩
@[simp] theorem aFz:(FV Try.prog).fn 30:=⟨_,Try.func30⟩
@[simp] theorem aFy:(FV Try.prog).fn 31:=⟨_,Try.func31⟩
@[simp] theorem aFv:(FV Try.prog).fn 32:=⟨_,Try.func32⟩
@[simp] theorem aFB:(FV Try.prog).fn 34:=⟨_,Try.func34⟩
@[simp] theorem aFw:(FV Try.prog).fn 38:=⟨_,Try.func38⟩
theorem q22(w:World)(a:Option Addr)(n c n' c':Nat):(binOp .eql 22 (.slice a n c) (.slice none n' c')).run Try.prog w= .ok (.bool a.isNone) w:=Lib.run_eql_slice_nil w 22 24 a n c n' c' (by kernel_rfl)
set_option maxHeartbeats 800000 in
set_option maxRecDepth 100000 in
theorem aBF (n c:Nat) (w:World):CallsIn (FV Try.prog) 0 Try.prog 31 #[.slice none n c] w fun e w'=>e= .returned (.slice none 0 0)∧w'=w:=by
 have q:=q22
 gi_enter Try.func31,Try.ntmps31
 gi_wp2
 go_ret
 exact⟨rfl,rfl⟩
set_option maxHeartbeats 2000000 in
set_option maxRecDepth 100000 in
theorem aAE (ad:Addr) (n c:Nat) (xs:List Value) (w:World) (hl:xs.length=n*3) (hc: ∀j u,xs[j]?=some u→w.cell? (ad.add j)=some u) (h1: ∀u∈xs,u.oneCell'=true) (hbig:n*32≤140737488355328):
  CallsIn (FV Try.prog) 0 Try.prog 31 #[.slice (some ad) n c] w fun e w'=> ∃v',e= .returned v'∧w'.ownsRow w.heap.size 24 3 v' n xs∧Below w.heap.size w w':=by
 obtain⟨i0,hi,hz0,hz1,hz2⟩:=info_parts pB;have q:=q22;have A:Aside (∀j u,xs[j]?=some u→w.cell? (ad.add j)=some u):=hc;clear hc
 gi_enter Try.func31,Try.ntmps31
 gi_wp2_with (gi_at_builtin;refine wpListIn_append_own _ rfl _ _ 22 rfl w.heap.size 24 i0 (.agg #[.string ByteArray.empty,.int .i64 0,.int .i64 0]) 3 32 Try.underlying22 hi hz0 hz1 hz2 rfl (by decide) _ _ _ rfl (World.ownsRow_made w #[] 0 (Nat.le_refl _) (Nat.zero_le _) rfl) ad n c xs rfl ?qc1 ?qc2 ?qc3 ?qc4 ?qc5 ?qc6 ?_)
 case qc1=>exact hl
 case qc2=>
  intro j u hj;exact Lib.cell?_alloc_some _ (A.out j u hj)
 case qc3=>exact h1
 case qc4=>unfold maxLen;omega
 case qc5=>omega
 case qc6=>simp
 intro v' w1 hown hgrow hnil
 gi_wp2
 go_ret
 refine⟨v',rfl,by simpa using hown,?_⟩;exact((Below.refl _ w).alloc (Nat.le_refl _) _).grown hgrow (by simp) (by intro k hk;simp [Value.ownBlock] at hk;omega)
def sK(w:World)(v:Value)(n:Nat)(xs:List Value):Prop:=xs.length=n*3∧(∀u∈xs,u.oneCell'=true)∧((∃c,v= .slice none n c∧n=0)∨ ∃ad c,v= .slice (some ad) n c∧ ∀j u,xs[j]?=some u→w.cell? (ad.add j)=some u)
theorem sL{v:Value}{n:Nat}{xs:List Value}{w:World}(h:sK w v n xs)(hn:n≤1048576){base:Nat}(hb:base≤w.heap.size):
  CallsIn (FV Try.prog) 0 Try.prog 31 #[v] w fun e w'=> ∃v',e= .returned v'∧w'.ownsRow base 24 3 v' n xs∧Below w.heap.size w w'∧ ∀k,v'.ownBlock=some k→w.heap.size≤k:=by
 obtain⟨hl,h1,⟨c,rfl,h0⟩|⟨ad,c,rfl,hc⟩⟩:=h
 ·refine(aBF n c w).mono ?_
  rintro e w' ⟨rfl,rfl⟩
  exact⟨_,rfl,⟨hl,.inl ⟨rfl,h0⟩⟩,Below.refl _ _,fun k hk=>by cases hk⟩
 ·refine(aAE ad n c xs w hl hc h1 (by omega)).mono ?_
  rintro e w' ⟨v',rfl,hown,hbl⟩
  refine⟨v',rfl,⟨hown.1,?_⟩,hbl,?_⟩
  ·rcases hown.2 with hv|⟨g,cap,cur,h1,h2,h3⟩
   ·exact .inl hv
   ·exact .inr ⟨g,cap,cur,h1,by omega,h3⟩
  ·intro k hk;rcases hown.2 with ⟨hv,_⟩|⟨g,cap,cur,h1,h2,h3⟩
   ·rw [hv] at hk;cases hk
   ·rw [h1] at hk;cases hk;exact h2
theorem iC{P:Program}(w:World)(dT sT ty elem:TypeId)(size g o dLen dCap k:Nat)(a:Addr)(sLen sCap:Nat)(cur:Array Value)(t:TypeId)(cs:List Value)
(hu:P.underlying dT=some (.slice elem))(hs:(P.info? elem).map (·.size)=some size)
(hg:w.heap[g]?=some (.cells cur t (0,0)))(hk:Nat.min sLen dLen=k)(hn:cs.length=k*size)
(hsrc: ∀j v,cs[j]?=some v→w.cell? (a.add j)=some v)(hfit:o+cs.length≤cur.size)(h1: ∀v∈cs,v.oneCell'=true):
  (Builtin.copy_ #[dT,sT] ty #[.slice (some ⟨g,o,none⟩) dLen dCap,.slice (some a) sLen sCap]).run P w=
   .ok (goInt k) (w.setRow g (cur.toList.take o++cs++cur.toList.drop (o+cs.length)).toArray):=by
 have hl:=run_loadCells_list (P:=P) w a cs hsrc;have hst:=run_storeCells_at P g o t cs 0 cur w hg (by simpa using hfit) h1;cases hq:P.info? elem with
 |none=>simp [hq] at hs
 |some i=>
  have hi:i.size=size:=by simpa [hq] using hs
  rw [hn] at hl;simp [Builtin.copy_,run_underlying hu,Builtin.lenOf,Builtin.firstCells,sizeOf,typeInfo,hq,hi,hk,hl,hst]
theorem gB(w:World)(g k:Nat)(c:Array Value)(h:k≠g):(w.setRow g c).heap[k]?=w.heap[k]?:=by
 unfold World.setRow;simp [Array.getElem?_modify,Ne.symm h]
theorem nK:(Try.prog.info? 24).map (·.size)=some 3:=by kernel_rfl
theorem aBI(w:World):(Go.sizeOf 24).run Try.prog w= .ok 3 w:=by
 obtain⟨i,h1,h2⟩:=Option.map_eq_some_iff.1 nK;simp [Go.sizeOf,typeInfo,h1,h2]
def aCM(base n:Nat)(xs:List Value)(g:Nat)(w:World)(e:Ending)(w':World):Prop:= ∃v',e= .returned v'∧w'.ownsRow base 24 3 v' n xs∧w.grownBy w' (some g)
theorem aAj (cur news : List Value) (n c i : Nat) (hs : cur.length = c * 3) (hl : news.length = 3) (hi : i < n) (hroom : n + 1 ≤ c) :
    (((((cur.take ((i + 1) * 3) ++ (cur.take (n * 3)).drop (i * 3) ++ cur.drop ((i + 1) * 3 + ((cur.take (n * 3)).drop (i * 3)).length)).toArray.toList.take (i * 3) ++ news ++
      (cur.take ((i + 1) * 3) ++ (cur.take (n * 3)).drop (i * 3) ++ cur.drop ((i + 1) * 3 + ((cur.take (n * 3)).drop (i * 3)).length)).toArray.toList.drop (i * 3 + news.length))).toArray).toList).take ((n + 1) * 3) =
      (cur.take (n * 3)).take (i * 3) ++ news ++ (cur.take (n * 3)).drop (i * 3) := by
  simp only [List.toList_toArray];have e1 : (cur.take ((i + 1) * 3) ++ (cur.take (n * 3)).drop (i * 3) ++ cur.drop ((i + 1) * 3 + ((cur.take (n * 3)).drop (i * 3)).length)).take (i * 3) = (cur.take (n * 3)).take (i * 3) := by
    rw [List.append_assoc, List.take_append_of_le_length (by rw [List.length_take, hs]; omega), List.take_take, List.take_take]
    congr 1; omega
  have e2 : (cur.take ((i + 1) * 3) ++ (cur.take (n * 3)).drop (i * 3) ++ cur.drop ((i + 1) * 3 + ((cur.take (n * 3)).drop (i * 3)).length)).drop (i * 3 + news.length) = (cur.take (n * 3)).drop (i * 3) ++ cur.drop ((i + 1) * 3 + ((cur.take (n * 3)).drop (i * 3)).length) := by
    rw [List.append_assoc, List.drop_append_of_le_length (by rw [List.length_take, hs, hl]; omega), hl];rw [List.drop_eq_nil_of_le (by rw [List.length_take, hs]; omega), List.nil_append]
  rw [e1, e2, ← List.append_assoc];refine List.take_left' ?_;simp only [List.length_append, List.length_take, List.length_drop, hs, hl];omega
theorem zO{w:World}{vb g lb cb o:Nat}{cur:Array Value}(hne:vb≠g)(hv: ∃cv,w.heap[vb]?=some (.cells cv 24 (0,0)))(hg:w.heap[g]?=some (.cells cur 24 (0,0)))(hz:cur.size≠0):
  (callFunc 38 #[.slice (some ⟨vb,0,none⟩) 1 1,.slice (some ⟨g,o,none⟩) lb cb]).run Try.prog w= .ok (.value (.bool false)) w:=by
 obtain⟨cv,hv⟩:=hv;rw [run_callFunc_extern Try.func38 (by kernel_rfl) (by kernel_rfl) (by kernel_rfl) (e:=Extern.SlicesOverlaps.overlaps #[22,22] #[4]) (by kernel_rfl),
  Lib.run_overlaps_apart w 22 4 24 Try.underlying22 3 aBI ⟨vb,0,none⟩ ⟨g,o,none⟩ 1 1 lb cb hne 24 24 cv.size cur.size (by simp [World.shape?,hv]) (by simp [World.shape?,hg]) hz (by simp [World.frozen?,hv]) (by simp [World.frozen?,hv])]
 rfl
set_option maxHeartbeats 4000000 in
set_option maxRecDepth 100000 in
theorem v7 {base g n c i vb:Nat} {cur:Array Value} {xs news:List Value} {w:World} (hi:i<n) (hroom:n+1≤c) (hc63:c≤9223372036854775807)
  (hg:w.heap[g]?=some (.cells cur 24 (0,0))) (hs:cur.size=c*3) (hx:cur.toList.take (n*3)=xs) (hl:news.length=3) (hc: ∀j u,news[j]?=some u→w.cell? ⟨vb,j,none⟩=some u) (h1: ∀u∈news,u.oneCell'=true)
  (h1c: ∀u∈xs,u.oneCell'=true) (hne:vb≠g) (hbg:base≤g) (hcell: ∃cv,w.heap[vb]?=some (.cells cv 24 (0,0))):
  CallsIn (FV Try.prog) 0 Try.prog 30 #[.slice (some ⟨g,0,none⟩) n c,.int .i64 i,.slice (some ⟨vb,0,none⟩) 1 1] w (aCM base (n+1) (xs.take (i*3)++news++xs.drop (i*3)) g w):=by
 have u22:=run_underlying Try.underlying22;have hw1:IntKind.i64.wrap ((i:Int)+1)=(i:Int)+1:=by rw [IntKind.wrap_i64];omega
 have hw2:IntKind.i64.wrap ((n:Int)+1)=(n:Int)+1:=by rw [IntKind.wrap_i64];omega
 have hz2: ¬((i:Int)=(n:Int)):=by omega
 have hov: ∀lb cb,(callFunc 38 #[.slice (some ⟨vb,0,none⟩) 1 1,.slice (some ⟨g,(i+1)*3,none⟩) lb cb]).run Try.prog w= .ok (.value (.bool false)) w:=fun lb cb=>zO hne hcell hg (by omega);have hdl:(xs.drop (i*3)).length=(n-i)*3:=by
  rw [←hx,List.length_drop,List.length_take,Array.length_toList,hs,Nat.sub_mul];omega
 have hcur: ∀k,cur.toList[k]?=w.cell? ⟨g,k,none⟩:=fun k=>by simp [World.cell?,hg]
 have hcp1: ∀ty dc sc,(Builtin.copy_ #[22,22] ty #[.slice (some ⟨g,(i+1)*3,none⟩) (n-i) dc,.slice (some ⟨g,i*3,none⟩) (n+1-i) sc]).run Try.prog w.drew= .ok (goInt ((n-i:Nat):Int)) (w.drew.setRow g (cur.toList.take ((i+1)*3)++xs.drop (i*3)++cur.toList.drop ((i+1)*3+(xs.drop (i*3)).length)).toArray):=fun ty dc sc=>
  iC w.drew 22 22 ty 24 3 g ((i+1)*3) (n-i) dc (n-i) ⟨g,i*3,none⟩ (n+1-i) sc cur 24 (xs.drop (i*3)) Try.underlying22 nK hg (Nat.min_eq_right (by omega)) hdl
   (fun j v hj=>by
    rw [Addr.add_lit];show w.cell? _=_;rw [←hcur,←hj,←hx,List.getElem?_drop,List.getElem?_take];have:j<(xs.drop (i*3)).length:=(List.getElem?_eq_some_iff.1 hj).1;rw [hdl,Nat.sub_mul] at this;rw [if_pos (by omega)])
   (by rw [hdl,hs,Nat.sub_mul];omega) (fun v hv=>h1c v (List.mem_of_mem_drop hv))
 have hlx:xs.length=n*3:=by rw [←hx,List.length_take,Array.length_toList,hs];omega
 obtain⟨c1,hc1⟩: ∃c1,c1=(cur.toList.take ((i+1)*3)++xs.drop (i*3)++cur.toList.drop ((i+1)*3+(xs.drop (i*3)).length)).toArray:=⟨_,rfl⟩
 rw [←hc1] at hcp1;have hs1:c1.size=c*3:=by
  rw [hc1];simp only [List.size_toArray,List.length_append,List.length_take,List.length_drop,Array.length_toList,hlx,hs];omega
 obtain⟨W1,hW1⟩: ∃W1,W1=w.drew.setRow g c1:=⟨_,rfl⟩
 rw [←hW1] at hcp1;have hg1:W1.heap[g]?=some (.cells c1 24 (0,0)):=by rw [hW1];exact setRow_heap _ g cur c1 24 (0,0) hg
 have hcp2: ∀ty dc,(Builtin.copy_ #[22,22] ty #[.slice (some ⟨g,i*3,none⟩) (n+1-i) dc,.slice (some ⟨vb,0,none⟩) 1 1]).run Try.prog W1= .ok (goInt ((1:Nat):Int)) (W1.setRow g (c1.toList.take (i*3)++news++c1.toList.drop (i*3+news.length)).toArray):=fun ty dc=>
  iC _ 22 22 ty 24 3 g (i*3) (n+1-i) dc 1 ⟨vb,0,none⟩ 1 1 c1 24 news Try.underlying22 nK hg1 (Nat.min_eq_left (by omega)) hl
   (fun j v hj=>by
    rw [Addr.add_lit,Nat.zero_add];refine Eq.trans (fA ?_) (hc j v hj);rw [hW1];exact(gB _ g vb c1 hne))
   (by rw [hl,hs1];omega) h1
 obtain⟨c2,hc2⟩: ∃c2,c2=(c1.toList.take (i*3)++news++c1.toList.drop (i*3+news.length)).toArray:=⟨_,rfl⟩
 rw [←hc2] at hcp2;have A1:Aside (W1=w.drew.setRow g c1):=hW1;have A2:Aside (c1=(cur.toList.take ((i+1)*3)++xs.drop (i*3)++cur.toList.drop ((i+1)*3+(xs.drop (i*3)).length)).toArray):=hc1;have A3:Aside (c2=(c1.toList.take (i*3)++news++c1.toList.drop (i*3+news.length)).toArray):=hc2;clear hW1 hc1 hc2;have mixed:Try.prog.follows .mixedOrders=true:=by kernel_rfl
 gi_enter Try.func30,Try.ntmps30
 gi_wp2_with (simp only [hov])
 gi_region_with_o fail
 all_goals gi_wp2
 all_goals go_ret
 all_goals
  refine⟨_,rfl,⟨by simp only [List.length_append,List.length_take,List.length_drop,hlx,hl];omega,.inr ⟨g,c,c2,rfl,hbg,setRow_heap _ g c1 c2 24 (0,0) (by rw [A1.out];exact setRow_heap _ g cur c1 24 (0,0) hg),hroom,hc63,?_,?_⟩⟩,?_⟩
  ·rw [A3.out];simp only [List.size_toArray,List.length_append,List.length_take,List.length_drop,Array.length_toList,hl,hs1];omega
  ·rw [A3.out,A2.out,←hx];exact aAj cur.toList news n c i (by rw [Array.length_toList,hs]) hl hi hroom
  ·have hlt:=eC hg;refine⟨?_,?_,?_,?_,fun k hk hne2=> ?_⟩
   ·rw [A1.out];rfl
   ·rw [A1.out];rfl
   ·rw [A1.out];rfl
   ·rw [A1.out];simp only [size_setRow];exact Nat.le_refl _
   ·have hkg:k≠g:=fun h=>hne2 (by rw [h]);rw [gB _ g k c2 hkg,A1.out,gB _ g k c1 hkg]
    rfl
theorem nL{F:Fence}{nF:Nat}{P:Program}(w:World){ops:Array Oper}{rest:List Oper}{o:Oper}{a:Act}{Q:Exit→Act→World→Prop}(hg:o.guard=none)(s x:Operand)(t tn:TypeId)
(hop:o.op= .call {callee:= .builtin .append,args:= #[s,x],argTypes:= #[t,tn]})(vs vx:Value)(hs:a.eval s=vs)(hx:a.eval x=vx)(v':Value)(w':World)
(hrun:(Builtin.append_ #[t,tn] o.type #[vs,vx]).run P w= .ok v' w')(hK:wpListIn F nF P ops Q rest (a.put o.dst v') w'):wpListIn F nF P ops Q (o::rest) a w:=by
 refine wpListIn_plain hg fun K hK'=> ?_;unfold Oper.wpIn;refine⟨?_,?_⟩
 ·simp [Oper.about,hop,resolve,Target.leads,Sem.run_pure]
 ·rw [Oper.semAt_plain F _ _ (by rw [hop];intro c hc';cases hc')];simp [execOp,hop,resolve,invoke,builtin,hs,hx,hrun,Result.andThen];exact hK' _ _ hK
theorem pU(w:World)(o:Obj)(k:Nat)(h:k<w.heap.size):(w.drew.alloc o).heap[k]?=w.heap[k]?:=iD (w:=w.drew) (by show k≠w.heap.size;omega)
set_option maxHeartbeats 4000000 in
set_option maxRecDepth 100000 in
theorem aAg {base n vb:Nat} {v:Value} {xs news:List Value} {w:World} (hown:w.ownsRow base 24 3 v n xs) (hl:news.length=3) (hc: ∀j u,news[j]?=some u→w.cell? ⟨vb,j,none⟩=some u) (h1: ∀u∈news,u.oneCell'=true)
  (hb:base≤w.heap.size) (hn:n≤1048576):
  CallsIn (FV Try.prog) 0 Try.prog 30 #[v,.int .i64 n,.slice (some ⟨vb,0,none⟩) 1 1] w fun e w'=> ∃v',e= .returned v'∧w'.ownsRow base 24 3 v' (n+1) (xs++news)∧w.grownBy w' v.ownBlock:=by
 obtain⟨i0,hi,hz0,hz1,hz2⟩:=info_parts pB;obtain⟨o,c,hv⟩: ∃o c,v= .slice o n c:=by
  rcases hown.2 with ⟨hv,h0⟩|⟨g,c,cur,hv,_⟩
  ·exact⟨none,0,by rw [hv,h0]⟩
  ·exact⟨_,c,hv⟩
 have hnc:n≤c:=by
  rcases hown.2 with ⟨hv',h0⟩|⟨g,c',cur,hv',_,_,h3,_⟩
  ·omega
  ·rw [hv] at hv';cases hv';exact h3
 have u22:=run_underlying Try.underlying22;have A:Aside (∀j u,news[j]?=some u→w.cell? ⟨vb,j,none⟩=some u):=hc;have A2:Aside (w.ownsRow base 24 3 v n xs):=hown;clear hc hown;subst hv;have hcn:(c=n)∨ ¬(c=n):=Decidable.em _;rcases hcn with hcn|hcn
 ·have hcn2:n-n=0:=Nat.sub_self n
  gi_enter Try.func30,Try.ntmps30
  gi_wp2_with (gi_at_builtin;refine wpListIn_append_own _ rfl _ _ 22 rfl base 24 i0 (.agg #[.string ByteArray.empty,.int .i64 0,.int .i64 0]) 3 32 Try.underlying22 hi hz0 hz1 hz2 rfl (by decide) _ n xs rfl A2.out ⟨vb,0,none⟩ 1 1 news rfl (by rw [hl]) ?qc2 h1 ?qc4 ?qc5 hb ?_)
  case qc2=>
   intro j u hj;rw [Addr.add_lit,Nat.zero_add];exact A.out j u hj
  case qc4=>unfold maxLen;omega
  case qc5=>omega
  intro v' w1 hown hgrow hnil
  gi_wp2
  go_ret
  exact⟨v',rfl,hown,by cases o<;>exact hgrow⟩
 ·have hcn2:n-n=0:=Nat.sub_self n
  gi_enter Try.func30,Try.ntmps30
  gi_wp2_with (gi_at_builtin;refine wpListIn_append_own _ rfl _ _ 22 rfl base 24 i0 (.agg #[.string ByteArray.empty,.int .i64 0,.int .i64 0]) 3 32 Try.underlying22 hi hz0 hz1 hz2 rfl (by decide) _ n xs rfl A2.out ⟨vb,0,none⟩ 1 1 news rfl (by rw [hl]) ?qc2 h1 ?qc4 ?qc5 hb ?_)
  case qc2=>
   intro j u hj;rw [Addr.add_lit,Nat.zero_add];exact A.out j u hj
  case qc4=>unfold maxLen;omega
  case qc5=>omega
  intro v' w1 hown hgrow hnil
  gi_wp2
  go_ret
  exact⟨v',rfl,hown,by cases o<;>exact hgrow⟩
theorem aBR (xs news : List Value) (ROW : List Value) (n G i : Nat) (hx : xs.length = n * 3) (hR : ROW.length = G * 3) (hp : ROW.take (i * 3) = xs.take (i * 3)) (hl : news.length = 3) (hi : i < n) (hG : n + 1 ≤ G) :
    (((((ROW.take (i * 3) ++ news ++ ROW.drop (i * 3 + news.length)).toArray.toList.take ((i + 1) * 3) ++ xs.drop (i * 3) ++
      (ROW.take (i * 3) ++ news ++ ROW.drop (i * 3 + news.length)).toArray.toList.drop ((i + 1) * 3 + (xs.drop (i * 3)).length))).toArray).toList).take ((n + 1) * 3) =
      xs.take (i * 3) ++ news ++ xs.drop (i * 3) := by
  simp only [List.toList_toArray];have e1 : (ROW.take (i * 3) ++ news ++ ROW.drop (i * 3 + news.length)).take ((i + 1) * 3) = xs.take (i * 3) ++ news := by
    rw [hp];refine List.take_left' ?_;simp only [List.length_append, List.length_take, hx, hl];omega
  rw [e1];refine List.take_left' ?_;simp only [List.length_append, List.length_take, List.length_drop, hx, hl];omega
set_option maxHeartbeats 4000000 in
set_option maxRecDepth 100000 in
theorem xJ {base g n c i vb:Nat} {cur:Array Value} {xs news:List Value} {w:World} (hi:i<n) (hnc:n≤c) (hroom:c<n+1) (hbig:n≤1048576)
  (hg:w.heap[g]?=some (.cells cur 24 (0,0))) (hs:cur.size=c*3) (hx:cur.toList.take (n*3)=xs) (hl:news.length=3) (hc: ∀j u,news[j]?=some u→w.cell? ⟨vb,j,none⟩=some u) (h1: ∀u∈news,u.oneCell'=true)
  (h1c: ∀u∈xs,u.oneCell'=true) (hbg:base≤g):
  CallsIn (FV Try.prog) 0 Try.prog 30 #[.slice (some ⟨g,0,none⟩) n c,.int .i64 i,.slice (some ⟨vb,0,none⟩) 1 1] w (aCM base (n+1) (xs.take (i*3)++news++xs.drop (i*3)) g w):=by
 obtain⟨i0,hi0,hz0,hzs,hzb⟩:=info_parts pB;have u22:=run_underlying Try.underlying22;have hw1:IntKind.i64.wrap ((i:Int)+1)=(i:Int)+1:=by rw [IntKind.wrap_i64];omega
 have hw2:IntKind.i64.wrap ((n:Int)+1)=(n:Int)+1:=by rw [IntKind.wrap_i64];omega
 have hw3:IntKind.i64.wrap ((n:Int)+1-i)=(n:Int)+1-i:=by rw [IntKind.wrap_i64];omega
 have hz2: ¬((i:Int)=(n:Int)):=by omega
 have hz3:(c:Int)<(n:Int)+1:=by omega
 have hkk:(n:Int)+1-(i:Int)=((n+1-i:Nat):Int):=by omega
 have hik:i+(n+1-i)=n+1:=by omega
 have hlx:xs.length=n*3:=by rw [←hx,List.length_take,Array.length_toList,hs];omega
 have hcur: ∀k,cur.toList[k]?=w.cell? ⟨g,k,none⟩:=fun k=>by simp [World.cell?,hg]
 have hcx: ∀k u,xs[k]?=some u→w.cell? ⟨g,k,none⟩=some u:=fun k u hk=>by
  rw [←hcur,←hk,←hx,List.getElem?_take];have:k<xs.length:=(List.getElem?_eq_some_iff.1 hk).1;rw [hlx] at this;rw [if_pos this]
 have hold:(Builtin.firstCells i0.size i (.slice (some ⟨g,0,none⟩) i c)).run Try.prog w.drew= .ok (xs.take (i*3)).toArray w.drew:=by
  rw [hzs];exact run_firstCells_some w.drew 3 i ⟨g,0,none⟩ i c (xs.take (i*3)) (by rw [List.length_take,hlx];omega) (fun j v hj=>by
   rw [Addr.add_lit,Nat.zero_add];rw [List.getElem?_take] at hj;split at hj
   ·exact hcx j v hj
   ·cases hj)
 obtain⟨G,hG⟩: ∃G,G=grownCap w (n+1) c 24:=⟨_,rfl⟩
 obtain⟨ROW,hROW⟩: ∃ROW:Array Value,ROW=(xs.take (i*3)).toArray++Builtin.zeroCells (Value.agg #[.string ByteArray.empty,.int .i64 0,.int .i64 0]).cells (n+1-i)++Builtin.zeroCells (Value.agg #[.string ByteArray.empty,.int .i64 0,.int .i64 0]).cells (G-(n+1)):=⟨_,rfl⟩
 obtain⟨W1,hW1⟩: ∃W1,W1=w.drew.alloc (.cells ROW 24):=⟨_,rfl⟩
 have hrz: ∀ty,(Builtin.append_ #[22,3] ty #[.slice (some ⟨g,0,none⟩) i c,.int .i64 ((n:Int)+1-(i:Int))]).run Try.prog w=
   .ok (.slice (some ⟨w.heap.size,0,none⟩) (n+1) G) W1:=fun ty=>by
  have h:=Lib.run_append_grow_zeros w 22 3 ty 24 i0 _ .i64 .i64 Try.underlying22 Try.underlying3 hi0 hz0 (some ⟨g,0,none⟩) i c (xs.take (i*3)) hold (n+1-i) (by omega) (by omega) (by omega) (by omega) (by rw [hzb];omega) (by rw [hzb,hik];exact growslice_fits hroom (by omega));rw [hik,←hG,←hROW,←hW1] at h;rw [hkk];exact h
 have hGn:n+1≤G:=by rw [hG];exact grownCap_ge w _ _ _
 have hG63:G≤maxLen:=by rw [hG];exact grownCap_le_maxLen w (n+1) c 24 (by unfold maxLen;omega)
 have hRs:ROW.size=G*3:=by
  rw [hROW];simp only [Array.size_append,List.size_toArray,List.length_take,hlx,size_zeroCells];have:(Value.agg #[.string ByteArray.empty,.int .i64 0,.int .i64 0]).cells.size=3:=rfl;rw [this];omega
 have hRt:ROW.toList.take (i*3)=xs.take (i*3):=by
  rw [hROW];simp only [Array.toList_append,List.toList_toArray,List.append_assoc];refine List.take_left' ?_;rw [List.length_take,hlx];omega
 have hlt:=eC hg;have hg1:W1.heap[w.heap.size]?=some (.cells ROW 24 (0,0)):=by rw [hW1];exact heap_alloc_new w.drew _
 have hvlt:vb<w.heap.size:=by
  have h0:0<news.length:=by omega
  exact block_lt_of_cell (hc 0 _ (List.getElem?_eq_getElem h0))
 obtain⟨c1,hc1⟩: ∃c1,c1=(ROW.toList.take (i*3)++news++ROW.toList.drop (i*3+news.length)).toArray:=⟨_,rfl⟩
 obtain⟨W2,hW2⟩: ∃W2,W2=W1.setRow w.heap.size c1:=⟨_,rfl⟩
 have hcp1: ∀ty dc,(Builtin.copy_ #[22,22] ty #[.slice (some ⟨w.heap.size,i*3,none⟩) (n+1-i) dc,.slice (some ⟨vb,0,none⟩) 1 1]).run Try.prog W1= .ok (goInt ((1:Nat):Int)) W2:=fun ty dc=>by
  have h:=iC W1 22 22 ty 24 3 w.heap.size (i*3) (n+1-i) dc 1 ⟨vb,0,none⟩ 1 1 ROW 24 news Try.underlying22 nK hg1 (Nat.min_eq_left (by omega)) hl
   (fun j v hj=>by
    rw [Addr.add_lit,Nat.zero_add];refine Eq.trans (fA ?_) (hc j v hj);rw [hW1];exact pU w _ vb hvlt)
   (by rw [hl,hRs];omega) h1
  rw [←hc1,←hW2] at h;exact h
 have hs1:c1.size=G*3:=by
  rw [hc1];simp only [List.size_toArray,List.length_append,List.length_take,List.length_drop,Array.length_toList,hRs,hl];omega
 have hg2:W2.heap[w.heap.size]?=some (.cells c1 24 (0,0)):=by rw [hW2];exact setRow_heap _ _ ROW c1 24 (0,0) hg1
 have hdl:(xs.drop (i*3)).length=(n-i)*3:=by rw [List.length_drop,hlx,Nat.sub_mul]
 obtain⟨c2,hc2⟩: ∃c2,c2=(c1.toList.take ((i+1)*3)++xs.drop (i*3)++c1.toList.drop ((i+1)*3+(xs.drop (i*3)).length)).toArray:=⟨_,rfl⟩
 obtain⟨W3,hW3⟩: ∃W3,W3=W2.drew.setRow w.heap.size c2:=⟨_,rfl⟩
 have hgN:g≠w.heap.size:=by omega
 have hcp2: ∀ty dc sc,(Builtin.copy_ #[22,22] ty #[.slice (some ⟨w.heap.size,(i+1)*3,none⟩) (n-i) dc,.slice (some ⟨g,i*3,none⟩) (n-i) sc]).run Try.prog W2.drew= .ok (goInt ((n-i:Nat):Int)) W3:=fun ty dc sc=>by
  have h:=iC W2.drew 22 22 ty 24 3 w.heap.size ((i+1)*3) (n-i) dc (n-i) ⟨g,i*3,none⟩ (n-i) sc c1 24 (xs.drop (i*3)) Try.underlying22 nK hg2 (Nat.min_eq_right (by omega)) hdl
   (fun j v hj=>by
    rw [Addr.add_lit];rw [List.getElem?_drop] at hj;refine Eq.trans (fA ?_) (hcx (i*3+j) v hj);show W2.heap[g]?=_;rw [hW2,gB _ _ _ _ hgN,hW1];exact pU w _ g hlt)
   (by rw [hdl,hs1,Nat.sub_mul];omega) (fun v hv=>h1c v (List.mem_of_mem_drop hv))
  rw [←hc2,←hW3] at h;exact h
 have hGi: ¬(G=i):=by omega
 have hGim: ¬(G=i+1):=by omega
 have hci: ¬(c=i):=by omega
 have A1:Aside (W1=w.drew.alloc (.cells ROW 24)):=hW1;have A2:Aside (W2=W1.setRow w.heap.size c1):=hW2;have A3:Aside (W3=W2.drew.setRow w.heap.size c2):=hW3;have A4:Aside (c1=(ROW.toList.take (i*3)++news++ROW.toList.drop (i*3+news.length)).toArray):=hc1;have A5:Aside (c2=(c1.toList.take ((i+1)*3)++xs.drop (i*3)++c1.toList.drop ((i+1)*3+(xs.drop (i*3)).length)).toArray):=hc2;have A6:Aside (cur.toList.take (n*3)=xs):=hx;clear hW1 hW2 hW3 hc1 hc2 hG hROW hkk hik hold hcur hcx hx;have mixed:Try.prog.follows .mixedOrders=true:=by kernel_rfl
 gi_enter Try.func30,Try.ntmps30
 gi_wp2_with (gi_at_builtin;refine nL _ rfl _ _ _ _ rfl _ _ rfl rfl _ _ (hrz _) ?_)
 gi_region_with_o fail
 all_goals gi_wp2
 all_goals go_ret
 all_goals
  refine⟨_,rfl,⟨by simp only [List.length_append,List.length_take,List.length_drop,hlx,hl];omega,.inr ⟨w.heap.size,G,c2,rfl,by omega,?_,hGn,hG63,?_,?_⟩⟩,?_⟩
  ·rw [A3.out];exact setRow_heap _ _ c1 c2 24 (0,0) hg2
  ·rw [A5.out];simp only [List.size_toArray,List.length_append,List.length_take,List.length_drop,Array.length_toList,hlx,hs1];omega
  ·rw [A5.out,A4.out];exact aBR xs news ROW.toList n G i hlx (by rw [Array.length_toList,hRs]) hRt hl hi hGn
  ·refine⟨?_,?_,?_,?_,fun k hk hne2=> ?_⟩
   ·rw [A3.out,A2.out,A1.out];rfl
   ·rw [A3.out,A2.out,A1.out];rfl
   ·rw [A3.out,A2.out,A1.out];rfl
   ·rw [A3.out,A2.out,A1.out];simp only [size_setRow];show w.heap.size≤((w.drew.alloc (.cells ROW 24)).setRow w.heap.size c1).heap.size;simp only [size_setRow];simp [World.alloc]
   ·have hkg:k≠w.heap.size:=by omega
    rw [A3.out,gB _ _ k c2 hkg];show W2.heap[k]?=_;rw [A2.out,gB _ _ k c1 hkg,A1.out];exact pU w _ k hk
theorem aBr{base n i vb:Nat}{v:Value}{xs news:List Value}{w:World}(hi:i≤n)(hown:w.ownsRow base 24 3 v n xs)(hl:news.length=3)(hc: ∀j u,news[j]?=some u→w.cell? ⟨vb,j,none⟩=some u)(h1: ∀u∈news,u.oneCell'=true)
(h1c: ∀u∈xs,u.oneCell'=true)(hb:base≤w.heap.size)(hn:n≤1048576)(hne:v.ownBlock≠some vb)(hcell: ∃cv,w.heap[vb]?=some (.cells cv 24 (0,0))):
  CallsIn (FV Try.prog) 0 Try.prog 30 #[v,.int .i64 i,.slice (some ⟨vb,0,none⟩) 1 1] w fun e w'=> ∃v',e= .returned v'∧w'.ownsRow base 24 3 v' (n+1) (xs.take (i*3)++news++xs.drop (i*3))∧w.grownBy w' v.ownBlock:=by
 by_cases h:i=n
 ·subst h;rw [List.take_of_length_le (by rw [hown.1];exact Nat.le_refl _),List.drop_of_length_le (by rw [hown.1];exact Nat.le_refl _),List.append_nil];exact aAg hown hl hc h1 hb hn
 ·rcases hown.2 with ⟨hv,h0⟩|⟨g,c,cur,rfl,hbg,hg,hnc,hcm,hs,hx⟩
  ·omega
  ·have hvg:vb≠g:=fun q=>hne (by rw [q];rfl);by_cases hr:n+1≤c
   ·exact v7 (by omega) hr hcm hg hs hx hl hc h1 h1c hvg hbg hcell
   ·exact xJ (by omega) hnc (by omega) hn hg hs hx hl hc h1 h1c hbg
theorem xY(cur z:List Value)(n c i:Nat)(hs:cur.length=c*3)(hi:i<n)(hnc:n≤c)(hz:z.length=3):
  ((cur.take (i*3)++(cur.take (n*3)).drop ((i+1)*3)++cur.drop (i*3+((cur.take (n*3)).drop ((i+1)*3)).length)).toArray.toList.take ((n-1)*3)++z++
   (cur.take (i*3)++(cur.take (n*3)).drop ((i+1)*3)++cur.drop (i*3+((cur.take (n*3)).drop ((i+1)*3)).length)).toArray.toList.drop ((n-1)*3+z.length)).toArray.toList.take ((n-1)*3)=
   (cur.take (n*3)).take (i*3)++(cur.take (n*3)).drop ((i+1)*3):=by
 simp only [List.toList_toArray];have e1:(cur.take (i*3)++(cur.take (n*3)).drop ((i+1)*3)++cur.drop (i*3+((cur.take (n*3)).drop ((i+1)*3)).length)).take ((n-1)*3)=(cur.take (n*3)).take (i*3)++(cur.take (n*3)).drop ((i+1)*3):=by
  rw [List.take_left' (by simp only [List.length_append,List.length_take,List.length_drop,hs];omega),List.take_take]
  congr 2;omega
 rw [e1,List.append_assoc];exact List.take_left' (by simp only [List.length_append,List.length_take,List.length_drop,hs];omega)
set_option maxHeartbeats 4000000 in
set_option maxRecDepth 100000 in
theorem x6 {base g n c i:Nat} {cur:Array Value} {xs:List Value} {w:World} (hi:i<n) (hnc:n≤c) (hcm:c≤maxLen)
  (hg:w.heap[g]?=some (.cells cur 24 (0,0))) (hs:cur.size=c*3) (hx:cur.toList.take (n*3)=xs)
  (h1c: ∀u∈xs,u.oneCell'=true) (hbg:base≤g):
  CallsIn (FV Try.prog) 0 Try.prog 34 #[.slice (some ⟨g,0,none⟩) n c,.int .i64 i,.int .i64 (i+1)] w (aCM base (n-1) (xs.take (i*3)++xs.drop ((i+1)*3)) g w):=by
 obtain⟨i0,hi0,hz0,hzs,hzb⟩:=info_parts pB;have u22:=run_underlying Try.underlying22;have hw1:IntKind.i64.wrap ((i:Int)+1)=(i:Int)+1:=by rw [IntKind.wrap_i64];unfold maxLen at hcm;omega
 have hij: ¬((i:Int)=(i:Int)+1):=by omega
 have hlx:xs.length=n*3:=by rw [←hx,List.length_take,Array.length_toList,hs];omega
 have hcur: ∀k,cur.toList[k]?=w.cell? ⟨g,k,none⟩:=fun k=>by simp [World.cell?,hg]
 have hcx: ∀k u,xs[k]?=some u→w.cell? ⟨g,k,none⟩=some u:=fun k u hk=>by
  rw [←hcur,←hk,←hx,List.getElem?_take];have:k<xs.length:=(List.getElem?_eq_some_iff.1 hk).1;rw [hlx] at this;rw [if_pos this]
 have hdl:(xs.drop ((i+1)*3)).length=(n-(i+1))*3:=by rw [List.length_drop,hlx,Nat.sub_mul]
 obtain⟨c1,hc1⟩: ∃c1,c1=(cur.toList.take (i*3)++xs.drop ((i+1)*3)++cur.toList.drop (i*3+(xs.drop ((i+1)*3)).length)).toArray:=⟨_,rfl⟩
 obtain⟨W1,hW1⟩: ∃W1,W1=w.drew.setRow g c1:=⟨_,rfl⟩
 obtain⟨D,hD⟩: ∃D,D=xs.drop ((i+1)*3):=⟨_,rfl⟩
 have hDl:D.length=(n-(i+1))*3:=by rw [hD];exact hdl
 have hld: ¬(c=i+1)→(loadCellsFrom ⟨g,(i+1)*3,none⟩ 0 ((n-(i+1))*3) #[]).run Try.prog w.drew= .ok D.toArray w.drew:=fun _=>by
  have h:=run_loadCells_list (P:=Try.prog) w.drew ⟨g,(i+1)*3,none⟩ D (fun j v hj=>by
   rw [Addr.add_lit];rw [hD,List.getElem?_drop] at hj;exact hcx _ _ hj)
  rw [hDl] at h;exact h
 have hst:(storeCells ⟨g,i*3,none⟩ D).run Try.prog w.drew= .ok () W1:=by
  have h2:=run_storeCells_at Try.prog g (i*3) 24 D 0 cur w.drew hg (by rw [hDl,hs];omega) (fun v hv=>h1c v (List.mem_of_mem_drop (by rw [←hD];exact hv)));simp only [Nat.add_zero] at h2;rw [hW1,hc1,←hD];exact h2
 have hn1:i+(n-(i+1))=n-1:=by omega
 have hcn: ¬(c=n-1):=by omega
 have hnn:n-(n-1)=1:=by omega
 have hn0:n-1≤n:=by omega
 have hnC:((n-1:Nat):Int)≤(n:Int):=by omega
 have hroom:n-1≤c:=by omega
 have hs1:c1.size=c*3:=by
  rw [hc1];simp only [List.size_toArray,List.length_append,List.length_take,hdl,List.length_drop,Array.length_toList,hs];omega
 have hg1:W1.heap[g]?=some (.cells c1 24 (0,0)):=by rw [hW1];exact setRow_heap _ g cur c1 24 (0,0) hg
 obtain⟨z,hz⟩: ∃z:List Value,z= [.string ByteArray.empty,.int .i64 0,.int .i64 0]:=⟨_,rfl⟩
 have hzl:z.length=3:=by rw [hz];rfl
 obtain⟨c2,hc2⟩: ∃c2,c2=(c1.toList.take ((n-1)*3)++z++c1.toList.drop ((n-1)*3+z.length)).toArray:=⟨_,rfl⟩
 obtain⟨W2,hW2⟩: ∃W2,W2=W1.setRow g c2:=⟨_,rfl⟩
 have hclr: ∀cc,(Builtin.clear_ #[22] 0 #[.slice (some ⟨g,(n-1)*3,none⟩) 1 cc]).run Try.prog W1= .ok (.tuple #[]) W2:=fun cc=>by
  have h2:=run_storeCells_at Try.prog g ((n-1)*3) 24 z 0 c1 W1 hg1 (by rw [hzl,hs1];omega) (fun v hv=>by rw [hz] at hv;simp at hv;rcases hv with rfl|rfl|rfl<;>rfl);simp only [Nat.add_zero] at h2;rw [←hc2,←hW2] at h2;have hzc:(Builtin.zeroCells (Value.agg #[.string ByteArray.empty,.int .i64 0,.int .i64 0]).cells 1).toList=z:=by rw [hz];kernel_rfl
  have hzv:(zeroValue 24).run Try.prog W1= .ok (Value.agg #[.string ByteArray.empty,.int .i64 0,.int .i64 0]) W1:=by
   simp [zeroValue,typeInfo,hi0,hz0]
  simp [Builtin.clear_,run_underlying Try.underlying22,hzv,hzc,h2]
 have hl0:c=i+1→(loadCellsFrom ⟨g,0,none⟩ 0 ((n-(i+1))*3) #[]).run Try.prog w.drew= .ok D.toArray w.drew:=fun q=>by
  have e:n-(i+1)=0:=by omega
  have eD:D= []:=List.length_eq_zero_iff.1 (by rw [hDl,e]);rw [e,eD]
  rfl
 have A1:Aside (W1=w.drew.setRow g c1):=hW1;have A2:Aside (c1=(cur.toList.take (i*3)++xs.drop ((i+1)*3)++cur.toList.drop (i*3+(xs.drop ((i+1)*3)).length)).toArray):=hc1;have A3:Aside (D=xs.drop ((i+1)*3)):=hD;have A4:Aside (cur.toList.take (n*3)=xs):=hx;have A5:Aside (W2=W1.setRow g c2):=hW2;have A6:Aside (c2=(c1.toList.take ((n-1)*3)++z++c1.toList.drop ((n-1)*3+z.length)).toArray):=hc2;have mixed:Try.prog.follows .mixedOrders=true:=by kernel_rfl
 clear hW1 hc1 hD hx hcur hcx hdl hW2 hc2 hz;have fin:aCM base (n-1) (xs.take (i*3)++xs.drop ((i+1)*3)) g w (.returned (.slice (some ⟨g,0,none⟩) (n-1) c)) W2:=by
  refine⟨_,rfl,⟨by simp only [List.length_append,List.length_take,List.length_drop,hlx];omega,.inr ⟨g,c,c2,rfl,hbg,?_,hroom,hcm,?_,?_⟩⟩,?_,?_,?_,?_,fun k hk hne2=> ?_⟩
  ·rw [A5.out];exact setRow_heap _ g c1 c2 24 (0,0) hg1
  ·rw [A6.out];simp only [List.size_toArray,List.length_append,List.length_take,List.length_drop,Array.length_toList,hzl,hs1];omega
  ·rw [A6.out,A2.out,←A4.out];exact xY cur.toList z n c i (by rw [Array.length_toList,hs]) hi hnc hzl
  ·rw [A5.out,A1.out];rfl
  ·rw [A5.out,A1.out];rfl
  ·rw [A5.out,A1.out];rfl
  ·rw [A5.out,A1.out];simp only [size_setRow];exact Nat.le_refl _
  ·have hkg:k≠g:=fun h=>hne2 (by rw [h]);rw [A5.out,gB _ g k c2 hkg,A1.out,gB _ g k c1 hkg]
   rfl
 have A7:Aside (aCM base (n-1) (xs.take (i*3)++xs.drop ((i+1)*3)) g w (.returned (.slice (some ⟨g,0,none⟩) (n-1) c)) W2):=fin;clear fin;by_cases hcj:c=i+1
 ·have hld:=hl0 hcj;clear hl0
  gi_enter Try.func34,Try.ntmps34
  gi_wp2
  gi_region_with_o fail
  all_goals gi_wp2
  all_goals go_ret
  all_goals (subst hcj;exact A7.out)
 ·have hld:=hld hcj;clear hl0
  gi_enter Try.func34,Try.ntmps34
  gi_wp2
  gi_region_with_o fail
  all_goals gi_wp2
  all_goals go_ret
  all_goals exact A7.out
theorem aBe{base n i:Nat}{v:Value}{xs:List Value}{w:World}(hi:i<n)(hown:w.ownsRow base 24 3 v n xs)(h1c: ∀u∈xs,u.oneCell'=true):
  CallsIn (FV Try.prog) 0 Try.prog 34 #[v,.int .i64 i,.int .i64 (i+1)] w fun e w'=> ∃v',e= .returned v'∧w'.ownsRow base 24 3 v' (n-1) (xs.take (i*3)++xs.drop ((i+1)*3))∧w.grownBy w' v.ownBlock:=by
 rcases hown.2 with ⟨hv,h0⟩|⟨g,c,cur,rfl,hbg,hg,hnc,hcm,hs,hx⟩
 ·omega
 ·exact x6 hi hnc hcm hg hs hx h1c hbg
theorem count_set: ∀(l:List Bool)(i:Nat),l[i]?=some false→(l.set i true).countP (!·)+1=l.countP (!·)
 | [],_,h=>by simp at h
 |b::l,0,h=>by simp at h;subst h;simp
 |b::l,i+1,h=>by
  have:=count_set l i (by simpa using h);simp only [List.set_cons_succ,List.countP_cons];omega
theorem sM{F:Fence}{n:Nat}{P:Program}{ops:Array Oper}{Q:Exit→Act→World→Prop}(J:Array Bool→Act→World→Prop)
(hstep: ∀l a w,J l a w→ ∀i∈Region.ready .any ops l,wpOpIn F n P ops Q i (fun a w=>J (l.setIfInBounds i true) a w) a w)
(hend: ∀l a w,J l a w→Region.ready .any ops l= []→Q .normal a w):
  ∀(fuel:Nat)(l:Array Bool)(a:Act)(w:World),J l a w→l.toList.countP (!·)≤fuel→wpAnyIn F n P .any ops Q fuel l a w
 |0,l,a,w,h,hc=>by
  have he:Region.ready .any ops l= []:=by
   refine List.eq_nil_iff_forall_not_mem.2 fun i hi=> ?_;unfold Region.ready at hi;rw [List.mem_filter] at hi;obtain⟨_,h2⟩:=hi;simp only [Bool.and_eq_true,Bool.not_eq_true'] at h2;have hg:=h2.1;have:l.toList[i]?=some false:=by
    rw [Array.getD_eq_getD_getElem?] at hg;rw [Array.getElem?_toList];cases hq:l[i]? with
    |none=>rw [hq] at hg;simp at hg
    |some b=>rw [hq] at hg;simp at hg;rw [hg]
   have:=count_set _ _ this;omega
  exact⟨he,hend l a w h he⟩
 |fuel+1,l,a,w,h,hc=>by
  refine⟨hend l a w h,fun i hi=>wpOpIn_mono (fun a w h=>sM J hstep hend fuel _ a w h ?_) (hstep l a w h i hi)⟩;unfold Region.ready at hi;rw [List.mem_filter] at hi;obtain⟨_,h2⟩:=hi;simp only [Bool.and_eq_true,Bool.not_eq_true'] at h2;have hg:=h2.1;have:l.toList[i]?=some false:=by
   rw [Array.getD_eq_getD_getElem?] at hg;rw [Array.getElem?_toList];cases hq:l[i]? with
   |none=>rw [hq] at hg;simp at hg
   |some b=>rw [hq] at hg;simp at hg;rw [hg]
  have:=count_set _ _ this;rw [Array.toList_setIfInBounds];omega
def drawn:Code→Array Oper
 | .region _ ops true=>ops
 | .seq a b=>match drawn a with|⟨[]⟩=>drawn b|x=>x
 |_=> #[]
noncomputable def tK:Array Oper:=(Try.f18.body.map drawn).getD #[]
theorem aBW: ∀l0 l1 l2 l3 l4 l5 l6 l7 l8:Bool,((Region.ready .any tK #[l0,l1,l2,l3,l4,l5,l6,l7,l8]).all fun i=>
  match i with
  |0=> !l0|1=> !l1&&l0|2=> !l2|3=> !l3|4=> !l4&&l1&&l2&&l3|5=> !l5|6=> !l6&&l5|7=> !l7&&l1&&l4&&l6|8=> !l8&&l0&&l1&&l2&&l3&&l4&&l5&&l6&&l7
  |_=>false)=true:=by decide+kernel
theorem aCP: ∀l0 l1 l2 l3 l4 l5 l6 l7 l8:Bool,(Region.ready .any tK #[l0,l1,l2,l3,l4,l5,l6,l7,l8]).isEmpty=true→l8=true:=by decide+kernel
section
variable (sv x0 x1 x2 : Value) (n i : Nat) (cells : List Value) (w : World)
def wF:List Value:=cells.take (i*3)++ [x0,x1,x2]++cells.drop (i*3)
structure aFu(l0 l1 l2 l3 l4 l5 l6 l7 l8:Bool)(t4 t5 t6 t7 t8 t9 t10 t11 t12:Value)(W:World):Prop where
 bel:Below w.heap.size w W
 box:W.heap[w.heap.size]?=some (.cells #[x0,x1,x2] 24 (0,0))
 c0:l0=true→t5=sv
 c1:l1=true→l7=false→W.ownsRow (w.heap.size+1) 24 3 t6 n cells
 c2:l2=true→t7=sv
 c3:l3=true→t8= .agg #[x0,x1,x2]
 c4:l4=true→t9= .int .i64 i
 c5:l5=true→t10= .agg #[x0,x1,x2]
 c6:l6=true→ ∃vb,t11= .slice (some ⟨vb,0,none⟩) 1 1∧w.heap.size<vb∧W.heap[vb]?=some (.cells #[x0,x1,x2] 24 (0,0))∧(l1=true→t6.ownBlock≠some vb)
 c7:l7=true→W.ownsRow (w.heap.size+1) 24 3 t12 (n+1) (wF x0 x1 x2 i cells)
 c8:l8=true→l7=true∧t4=t12
 d7:l7=true→l6=true∧l1=true
def aEc(l:Array Bool)(a:Act)(W:World):Prop:=
 ∃l0 l1 l2 l3 l4 l5 l6 l7 l8 t4 t5 t6 t7 t8 t9 t10 t11 t12,l= #[l0,l1,l2,l3,l4,l5,l6,l7,l8]∧
  a={tmps:= #[sv,.agg #[x0,x1,x2],undef,.pointer (some ⟨w.heap.size,0,none⟩),t4,t5,t6,t7,t8,t9,t10,t11,t12],defers:= []}∧
  aFu sv x0 x1 x2 n i cells w l0 l1 l2 l3 l4 l5 l6 l7 l8 t4 t5 t6 t7 t8 t9 t10 t11 t12 W
theorem dO{base n:Nat}{v:Value}{xs:List Value}{W W':World}(h:W.ownsRow base 24 3 v n xs)(hb:Below W.heap.size W W'):W'.ownsRow base 24 3 v n xs:=by
 refine⟨h.1,?_⟩;rcases h.2 with hv|⟨g,c,cur,h1,h2,h3,h4⟩
 ·exact .inl hv
 ·exact .inr ⟨g,c,cur,h1,h2,by rw [hb.block g (eC h3)];exact h3,h4⟩
theorem mZ{P:Program}{o:Oper}{a:Act}{w:World}(h: ∀c,o.op≠ .call c): ∀f,o.about P w a.eval=some f→ ∃fn,P.funcs[f]?=some fn:=mM h
theorem qQ{x:Operand}{ρ:Operand→Value}{N:Nat}(hx:ρ x= .pointer (some ⟨N,0,none⟩)){W:World}{o:Oper}(ho:o.op= .load 24 x)(hg:W.heap[N]?=some (.cells #[x0,x1,x2] 24 (0,0))):
  (execOp ρ o).run Try.prog W= .ok (.value (.agg #[x0,x1,x2])) W:=by
 have h:=run_loadVar_row (P:=Try.prog) W N 24 24 #[x0,x1,x2] (0,0) _ hg Try.underlying24 (by kernel_rfl) nK;simp [execOp,ho,hx,Instr.loadAt,Instr.sureAddr,h]
theorem pM{P:Program}{ρ:Operand→Value}{o:Oper}{c:Call}{f:Nat}{fn:Func}{b:Code}{args:Array Value}{w:World}{R:Ending→World→Prop}(ho:o.op= .call c)(hc:c.callee= .value (.func f))(hv:ρ (.func f)= .func (.func f) #[] #[])(hargs:c.args.map ρ=args)
(hf:P.funcs[f]?=some fn)(hb:fn.body=some b)(hn:(fn.name== "runtime.NumGoroutine")=false)(h:CallsIn (FV P) 0 P f args w R):y6 P (execOp ρ o) w R:=by
 refine⟨.enter f args,w,?_,h⟩;rw [j4 ho hc hv w,hargs];have:=cG hf hb hn args w;simpa [invoke] using this
theorem aDQ:Instr.fill (fun i=>some (i*3,3)) ((Array.range (1*3)).map ((Value.agg #[.string ByteArray.empty,.int .i64 0,.int .i64 0]).cells[· %(Value.agg #[.string ByteArray.empty,.int .i64 0,.int .i64 0]).cells.size]!)) #[(0,Value.agg #[x0,x1,x2])].toList=some #[x0,x1,x2]:=by
 kernel_rfl
theorem tW{x:Operand}{ρ:Operand→Value}(hx:ρ x= .agg #[x0,x1,x2]){W:World}{o:Oper}(ho:o.op= .buildSlice 22 1 #[(0,x)]):
  (execOp ρ o).run Try.prog W= .ok (.value (.slice (some ⟨W.heap.size,0,none⟩) 1 1)) (W.alloc (.cells #[x0,x1,x2] 24)):=by
 obtain⟨i0,hi0,hz0,hzs,hzb⟩:=info_parts pB;have hrun:(Instr.buildSlice 22 1 #[(0,.agg #[x0,x1,x2])]).run Try.prog W= .ok (.slice (some ⟨W.heap.size,0,none⟩) 1 1) (W.alloc (.cells #[x0,x1,x2] 24)):=
  run_buildSlice W 22 24 1 #[(0,.agg #[x0,x1,x2])] #[x0,x1,x2] i0 _ Try.underlying22 hi0 hz0 (by omega) (by omega) (by rw [hzs];exact aDQ x0 x1 x2)
 simp [execOp,ho,hx,hrun]
set_option maxHeartbeats 4000000 in
theorem aDd (hsv:sK w sv n cells) (ho:x0.oneCell'=true∧x1.oneCell'=true∧x2.oneCell'=true) (hn:n≤1048576) (hi:i≤n)
  (hplace: ∀W,Below w.heap.size w W→CallsIn (FV Try.prog) 0 Try.prog 32 #[sv,.agg #[x0,x1,x2]] W (fun e W'=>e= .returned (.int .i64 i)∧Below W.heap.size W W')) {Q:Exit→Act→World→Prop}
  (l:Array Bool) (a:Act) (W:World) (hJ:aEc sv x0 x1 x2 n i cells w l a W): ∀k∈Region.ready .any tK l,wpOpIn (FV Try.prog) 0 Try.prog tK Q k (fun a W=>aEc sv x0 x1 x2 n i cells w (l.setIfInBounds k true) a W) a W:=by
 obtain⟨l0,l1,l2,l3,l4,l5,l6,l7,l8,t4,t5,t6,t7,t8,t9,t10,t11,t12,rfl,rfl,hj⟩:=hJ;intro k hk;have hr:=aBW l0 l1 l2 l3 l4 l5 l6 l7 l8;rw [List.all_eq_true] at hr;have hr:=hr k hk;clear hk
 match k,hr with
 |0,hr=>
  refine wpOpIn_step (o:=_) (by rfl) (fun K hK=> ?_);refine dF (rd:=none) (n:= .value sv) (x:=sv) (mZ (by intro c hc;cases hc)) rfl (by intro c hc;cases hc) (by rfl) (.inl rfl) (hK _ _ ?_);refine⟨true,l1,l2,l3,l4,l5,l6,l7,l8,t4,sv,t6,t7,t8,t9,t10,t11,t12,rfl,rfl,hj.bel,hj.box,fun _=>rfl,hj.c1,hj.c2,hj.c3,hj.c4,hj.c5,hj.c6,hj.c7,hj.c8,hj.d7⟩
 |2,hr=>
  refine wpOpIn_step (o:=_) (by rfl) (fun K hK=> ?_);refine dF (rd:=none) (n:= .value sv) (x:=sv) (mZ (by intro c hc;cases hc)) rfl (by intro c hc;cases hc) (by rfl) (.inl rfl) (hK _ _ ?_);refine⟨l0,l1,true,l3,l4,l5,l6,l7,l8,t4,t5,t6,sv,t8,t9,t10,t11,t12,rfl,rfl,hj.bel,hj.box,hj.c0,hj.c1,fun _=>rfl,hj.c3,hj.c4,hj.c5,hj.c6,hj.c7,hj.c8,hj.d7⟩
 |3,hr=>
  refine wpOpIn_step (o:=_) (by rfl) (fun K hK=> ?_);refine dF (rd:=none) (n:= .value (.agg #[x0,x1,x2])) (x:= .agg #[x0,x1,x2]) (mZ (by intro c hc;cases hc)) rfl (by intro c hc;cases hc) (qQ x0 x1 x2 (x:= .tmp 3) rfl rfl hj.box) (.inl rfl) (hK _ _ ?_);refine⟨l0,l1,l2,true,l4,l5,l6,l7,l8,t4,t5,t6,t7,.agg #[x0,x1,x2],t9,t10,t11,t12,rfl,rfl,hj.bel,hj.box,hj.c0,hj.c1,hj.c2,fun _=>rfl,hj.c4,hj.c5,hj.c6,hj.c7,hj.c8,hj.d7⟩
 |5,hr=>
  refine wpOpIn_step (o:=_) (by rfl) (fun K hK=> ?_);refine dF (rd:=none) (n:= .value (.agg #[x0,x1,x2])) (x:= .agg #[x0,x1,x2]) (mZ (by intro c hc;cases hc)) rfl (by intro c hc;cases hc) (qQ x0 x1 x2 (x:= .tmp 3) rfl rfl hj.box) (.inl rfl) (hK _ _ ?_);refine⟨l0,l1,l2,l3,l4,true,l6,l7,l8,t4,t5,t6,t7,t8,t9,.agg #[x0,x1,x2],t11,t12,rfl,rfl,hj.bel,hj.box,hj.c0,hj.c1,hj.c2,hj.c3,hj.c4,fun _=>rfl,hj.c6,hj.c7,hj.c8,hj.d7⟩
 |8,hr=>
  simp only [Bool.and_eq_true,Bool.not_eq_true'] at hr;obtain⟨⟨⟨⟨⟨⟨⟨⟨e8,e0⟩,e1⟩,e2⟩,e3⟩,e4⟩,e5⟩,e6⟩,e7⟩:=hr;refine wpOpIn_step (o:=_) (by rfl) (fun K hK=> ?_);refine dF (rd:=none) (n:= .value t12) (x:=t12) (mZ (by intro c hc;cases hc)) rfl (by intro c hc;cases hc) (by rfl) (.inl rfl) (hK _ _ ?_);refine⟨l0,l1,l2,l3,l4,l5,l6,l7,true,t12,t5,t6,t7,t8,t9,t10,t11,t12,rfl,rfl,hj.bel,hj.box,hj.c0,hj.c1,hj.c2,hj.c3,hj.c4,hj.c5,hj.c6,hj.c7,fun _=>⟨e7,rfl⟩,hj.d7⟩
 |6,hr=>
  simp only [Bool.and_eq_true,Bool.not_eq_true'] at hr;obtain⟨e6,e5⟩:=hr;have e7:l7=false:=by
   cases q:l7 with
   |false=>rfl
   |true=>have:=(hj.d7 q).1;rw [e6] at this;cases this
  have h10:=hj.c5 e5;subst h10;refine wpOpIn_step (o:=_) (by rfl) (fun K hK=> ?_);refine dF (rd:=none) (n:= .value (.slice (some ⟨W.heap.size,0,none⟩) 1 1)) (x:= .slice (some ⟨W.heap.size,0,none⟩) 1 1) (w':=W.alloc (.cells #[x0,x1,x2] 24)) (mZ (by intro c hc;cases hc)) rfl (by intro c hc;cases hc) (tW x0 x1 x2 (x:= .tmp 10) rfl rfl) (.inl rfl) (hK _ _ ?_)
  ·have hbw:Below W.heap.size W (W.alloc (.cells #[x0,x1,x2] 24)):=(Below.refl _ W).alloc (Nat.le_refl _) _;have hlt:=hj.bel.size;have hbx:=eC hj.box;refine⟨l0,l1,l2,l3,l4,l5,true,l7,l8,t4,t5,t6,t7,t8,t9,.agg #[x0,x1,x2],.slice (some ⟨W.heap.size,0,none⟩) 1 1,t12,rfl,rfl,hj.bel.trans (hbw.mono hlt),?_,hj.c0,fun q1 q2=>dO (hj.c1 q1 q2) hbw,hj.c2,hj.c3,hj.c4,fun _=>rfl,fun _=>⟨W.heap.size,rfl,hbx,?_,fun q1 hq=> ?_⟩,fun q=> ?_,hj.c8,fun q=>⟨rfl,(hj.d7 q).2⟩⟩
   ·rw [hbw.block _ hbx];exact hj.box
   ·exact eZ
   ·rcases(hj.c1 q1 e7).2 with ⟨hv,_⟩|⟨g,c,cur,hv,_,hg,_⟩
    ·rw [hv] at hq;cases hq
    ·rw [hv] at hq;have hgl:=eC hg;have:g=W.heap.size:=Option.some.inj hq;omega
   ·rw [e7] at q;cases q
 |1,hr=>
  simp only [Bool.and_eq_true,Bool.not_eq_true'] at hr;obtain⟨e1,e0⟩:=hr;have h5:=hj.c0 e0;subst h5;have e7:l7=false:=by
   cases q:l7 with
   |false=>rfl
   |true=>have:=(hj.d7 q).2;rw [e1] at this;cases this
  have hsrc:sK W t5 n cells:=by
   obtain⟨s1,s2,s3⟩:=hsv;refine⟨s1,s2,?_⟩;rcases s3 with s3|⟨ad,c,q1,q2⟩
   ·exact .inl s3
   ·refine .inr ⟨ad,c,q1,fun j u hu=> ?_⟩;have:=q2 j u hu;exact(hj.bel.cell (vY this)).trans this
  have hcall:=sL hsrc hn (base:=w.heap.size+1) (eC hj.box);refine wpOpIn_step (o:=_) (by rfl) (fun K hK=> ?_);refine kU (rd:=none) (R:=_) (gX (by rfl) rfl (fa:= #[]) (fb:= #[]) rfl ⟨_,Try.func31⟩) rfl (by intro c hc;cases hc) (pM (by rfl) rfl rfl (by simp [Act.eval]) Try.func31 rfl (by kernel_rfl) (hcall)) ?_ ?_ ?_
  ·rintro x W' ⟨v',hv,hown,hbw,hge⟩
   cases hv;refine hK _ _ ⟨l0,true,l2,l3,l4,l5,l6,l7,l8,t4,t5,x,t7,t8,t9,t10,t11,t12,rfl,rfl,hj.bel.trans (hbw.mono hj.bel.size),?_,fun _=>rfl,fun _ _=>hown,hj.c2,hj.c3,hj.c4,hj.c5,fun q6=> ?_,fun q=> ?_,hj.c8,fun q=>⟨(hj.d7 q).1,rfl⟩⟩
   ·rw [hbw.block _ (eC hj.box)];exact hj.box
   ·obtain⟨vb,k1,k2,k3,_⟩:=hj.c6 q6;refine⟨vb,k1,k2,by rw [hbw.block _ (eC k3)];exact k3,fun _ hq=> ?_⟩;have:=hge _ hq;have:=eC k3;omega
   ·rw [e7] at q;cases q
  ·rintro c W' ⟨v',hv,_⟩;cases hv
  ·rintro W' ⟨v',hv,_⟩;cases hv
 |4,hr=>
  simp only [Bool.and_eq_true,Bool.not_eq_true'] at hr;obtain⟨⟨⟨e4,e1⟩,e2⟩,e3⟩:=hr;have h7:=hj.c2 e2;subst h7;have h8:=hj.c3 e3;subst h8;refine wpOpIn_step (o:=_) (by rfl) (fun K hK=> ?_);refine kU (rd:=none) (R:=_) (gX (by rfl) rfl (fa:= #[]) (fb:= #[]) rfl ⟨_,Try.func32⟩) rfl (by intro c hc;cases hc) (pM (by rfl) rfl rfl (by simp [Act.eval]) Try.func32 rfl (by kernel_rfl) (hplace W hj.bel)) ?_ ?_ ?_
  ·rintro x W' ⟨hv,hbw⟩
   cases hv;refine hK _ _ ⟨l0,l1,l2,l3,true,l5,l6,l7,l8,t4,t5,t6,t7,.agg #[x0,x1,x2],.int .i64 i,t10,t11,t12,rfl,rfl,hj.bel.trans (hbw.mono hj.bel.size),?_,hj.c0,fun q1 q2=>dO (hj.c1 q1 q2) hbw,hj.c2,hj.c3,fun _=>rfl,hj.c5,fun q6=> ?_,fun q=>dO (hj.c7 q) hbw,hj.c8,hj.d7⟩
   ·rw [hbw.block _ (eC hj.box)];exact hj.box
   ·obtain⟨vb,k1,k2,k3,k4⟩:=hj.c6 q6;exact⟨vb,k1,k2,by rw [hbw.block _ (eC k3)];exact k3,k4⟩
  ·rintro c W' ⟨hv,_⟩;cases hv
  ·rintro W' ⟨hv,_⟩;cases hv
 |7,hr=>
  simp only [Bool.and_eq_true,Bool.not_eq_true'] at hr;obtain⟨⟨⟨e7,e1⟩,e4⟩,e6⟩:=hr;have h9:=hj.c4 e4;subst h9;obtain⟨vb,h11,k2,k3,k4⟩:=hj.c6 e6;subst h11;have hown:=hj.c1 e1 e7;have hcall:=aBr (news:= [x0,x1,x2]) (vb:=vb) hi hown rfl (fun j u hu=>by simpa [World.cell?,k3] using hu) (by intro u hu;simp at hu;rcases hu with rfl|rfl|rfl<;>simp [ho]) hsv.2.1 (eC hj.box) hn (k4 e1) ⟨_,k3⟩;refine wpOpIn_step (o:=_) (by rfl) (fun K hK=> ?_);refine kU (rd:=none) (R:=_) (gX (by rfl) rfl (fa:= #[]) (fb:= #[]) rfl ⟨_,Try.func30⟩) rfl (by intro c hc;cases hc) (pM (by rfl) rfl rfl (by simp [Act.eval]) Try.func30 rfl (by kernel_rfl) (hcall)) ?_ ?_ ?_
  ·rintro x W' ⟨v',hv,hown',hgr⟩
   cases hv;have hge: ∀k,t6.ownBlock=some k→w.heap.size+1≤k:=by
    intro k hk;rcases hown.2 with ⟨hv,_⟩|⟨g,c,cur,hv,hb,_⟩
    ·rw [hv] at hk;cases hk
    ·rw [hv] at hk;cases hk;exact hb
   refine hK _ _ ⟨l0,l1,l2,l3,l4,l5,l6,true,l8,t4,t5,t6,t7,t8,.int .i64 i,t10,.slice (some ⟨vb,0,none⟩) 1 1,x,rfl,rfl,hj.bel.grown hgr hj.bel.size (fun k hk=>by have:=hge k hk;omega),?_,hj.c0,fun _ q=>(by cases q),hj.c2,hj.c3,hj.c4,hj.c5,fun _=>⟨vb,rfl,k2,?_,k4⟩,fun _=>hown',fun q=> ?_,fun _=>⟨e6,e1⟩⟩
   ·rw [hgr.block _ (eC hj.box) (fun q=>by have:=hge _ q.symm;omega)];exact hj.box
   ·rw [hgr.block _ (eC k3) (fun q=>k4 e1 q.symm)];exact k3
   ·have:=(hj.c8 q).1;rw [e7] at this;cases this
  ·rintro c W' ⟨v',hv,_⟩;cases hv
  ·rintro W' ⟨v',hv,_⟩;cases hv
 |k+9,hr=>cases hr
set_option maxHeartbeats 4000000 in
set_option maxRecDepth 100000 in
theorem tV (hsv:sK w sv n cells) (ho:x0.oneCell'=true∧x1.oneCell'=true∧x2.oneCell'=true) (hn:n≤1048576) (hi:i≤n)
  (hplace: ∀W,Below w.heap.size w W→CallsIn (FV Try.prog) 0 Try.prog 32 #[sv,.agg #[x0,x1,x2]] W (fun e W'=>e= .returned (.int .i64 i)∧Below W.heap.size W W')):
  CallsIn (FV Try.prog) 0 Try.prog 18 #[sv,.agg #[x0,x1,x2]] w fun e w'=> ∃v',e= .returned v'∧w'.ownsRow w.heap.size 24 3 v' (n+1) (wF x0 x1 x2 i cells)∧Below w.heap.size w w':=by
 gi_enter Try.func18,Try.ntmps18
 gi_wp2
 rename_i Q' K hK;refine wpIn_region_any (by kernel_rfl) ?_;refine sM (aEc sv x0 x1 x2 n i cells w) (fun l a W hJ=>aDd sv x0 x1 x2 n i cells w hsv ho hn hi hplace l a W hJ) ?_ _ _ _ _ ?_ (by decide)
 ·rintro l a W ⟨l0,l1,l2,l3,l4,l5,l6,l7,l8,t4,t5,t6,t7,t8,t9,t10,t11,t12,rfl,rfl,hj⟩ he
  have e8:=aCP l0 l1 l2 l3 l4 l5 l6 l7 l8 (by rw [show Region.ready .any tK #[l0,l1,l2,l3,l4,l5,l6,l7,l8]= [] from he];rfl);obtain⟨e7,rfl⟩:=hj.c8 e8;have h7:=hj.c7 e7;simp only [Exit.then];refine hK _ _ ?_
  gi_wp2
  go_ret
  refine⟨_,rfl,⟨h7.1,?_⟩,hj.bel⟩;rcases h7.2 with hv|⟨g,c,cur,h1,h2,h3⟩
  ·exact .inl hv
  ·exact .inr ⟨g,c,cur,h1,by omega,h3⟩
 ·refine⟨false,false,false,false,false,false,false,false,false,.slice none 0 0,undef,undef,undef,undef,undef,undef,undef,undef,rfl,rfl,?_,?_,?_,?_,?_,?_,?_,?_,?_,?_,?_,?_⟩
  ·exact((Below.refl w.heap.size w).alloc (Nat.le_refl _) (.cells #[x0,x1,x2] 24)).drew
  ·exact eZ
  all_goals (intro q;cases q)
end
theorem kJ(W:World)(o:Obj):Below W.heap.size W (W.alloc o):=(Below.refl _ W).alloc (Nat.le_refl _) o
set_option maxHeartbeats 4000000 in
set_option maxRecDepth 100000 in
theorem aAp {sv ev:Value} {n:Nat} {cells:List Value} {w:World} (hsv:sK w sv n cells) (hn:n≤1048576)
  (hfound: ∀W,Below w.heap.size w W→CallsIn (FV Try.prog) 0 Try.prog 23 #[sv,ev,.int .i64 0] W (fun e W'=>(∃a b c,e= .returned (.tuple #[.agg #[.string a,.int .i64 b,.int .i64 c],.bool false]))∧Below W.heap.size W W')):
  CallsIn (FV Try.prog) 0 Try.prog 21 #[sv,ev] w fun e w'=> ∃v',e= .returned v'∧w'.ownsRow w.heap.size 24 3 v' n cells∧Below w.heap.size w w':=by
 gi_enter Try.func21,Try.ntmps21
 gi_wp2_with (first
  |(gi_at_call 31;refine(sL hsv hn (base:=w.heap.size) (Nat.le_refl _)).mono ?_;rintro e w1 ⟨v',rfl,hown1,hb1,hge1⟩)
  |(gi_at_call 23;refine(hfound w1 hb1).mono ?_;rintro e w2 ⟨⟨a,b,c,rfl⟩,hb2⟩))
 go_ret
 refine⟨v',rfl,dO (dO hown1 hb2) (kJ _ _),?_⟩;exact(hb1.trans (hb2.mono hb1.size)).trans ((kJ _ _).mono (Nat.le_trans hb1.size hb2.size))
set_option maxHeartbeats 4000000 in
set_option maxRecDepth 100000 in
theorem xX {sv ev:Value} {n i:Nat} {cells:List Value} {w:World} (hsv:sK w sv n cells) (hn:n≤1048576) (hi:i<n)
  (hfound: ∀W,Below w.heap.size w W→CallsIn (FV Try.prog) 0 Try.prog 23 #[sv,ev,.int .i64 0] W (fun e W'=>(∃a b c,e= .returned (.tuple #[.agg #[.string a,.int .i64 b,.int .i64 c],.bool true]))∧Below W.heap.size W W'))
  (hplace: ∀W,Below w.heap.size w W→CallsIn (FV Try.prog) 0 Try.prog 32 #[sv,.agg #[ev,.int .i64 0,.int .i64 0]] W (fun e W'=>e= .returned (.int .i64 i)∧Below W.heap.size W W')) (hev: ∃s,ev= .string s):
  CallsIn (FV Try.prog) 0 Try.prog 21 #[sv,ev] w fun e w'=> ∃v',e= .returned v'∧w'.ownsRow w.heap.size 24 3 v' (n-1) (cells.take (i*3)++cells.drop ((i+1)*3))∧Below w.heap.size w w':=by
 obtain⟨s,rfl⟩:=hev;have hw1:IntKind.i64.wrap ((i:Int)+1)=(i:Int)+1:=by rw [IntKind.wrap_i64];omega
 gi_enter Try.func21,Try.ntmps21
 gi_wp2_with (first
  |(gi_at_call 31;refine(sL hsv hn (base:=w.heap.size) (Nat.le_refl _)).mono ?_;rintro e w1 ⟨v',rfl,hown1,hb1,hge1⟩)
  |(gi_at_call 23;refine(hfound w1 hb1).mono ?_;rintro e w2 ⟨⟨a,b,c,rfl⟩,hb2⟩)
  |(gi_at_call 32;refine(hplace _ ((hb1.trans (hb2.mono hb1.size)).trans ((kJ _ _).mono (Nat.le_trans hb1.size hb2.size)))).mono ?_;rintro e w3 ⟨rfl,hb3⟩)
  |(gi_at_call 34;refine(aBe hi (dO (dO (dO hown1 hb2) (kJ _ _)) hb3) hsv.2.1).mono ?_;rintro e w4 ⟨v4,rfl,hown4,hg4⟩))
 go_ret
 refine⟨v4,rfl,hown4,?_⟩;have hb5:=((hb1.trans (hb2.mono hb1.size)).trans ((kJ w2 (.cells #[.string a,.int .i64 b,.int .i64 c] 24)).mono (Nat.le_trans hb1.size hb2.size)))
 refine(hb5.trans (hb3.mono hb5.size)).grown hg4 (Nat.le_trans hb5.size hb3.size) (fun k hk=> ?_);have:=hge1 k hk;exact this
theorem Css.drop{G:Gh}{sz:Nat}: ∀(n:Nat){xs:List AV}{css:List (List Value)},Css G sz xs css→Css G sz (xs.drop n) (css.drop n)
 |0,xs,css,h=>by simpa using h
 |n+1,[],css,h=>by have:=h.len;simp at this;subst this;exact .nil
 |n+1,x::xs,[],h=>by have:=h.len;simp at this
 |n+1,x::xs,vs::css,h=>by obtain⟨h1,h2,h3⟩:=h.tail;simpa using Css.drop n h3
theorem mE{sz:Nat}: ∀(n:Nat)(css:List (List Value)),(∀c∈css,c.length=sz)→css.flatten.take (n*sz)=(css.take n).flatten∧css.flatten.drop (n*sz)=(css.drop n).flatten
 |0,css,_=>by simp
 |n+1,[],_=>by simp
 |n+1,c::css,h=>by
  have hc:c.length=sz:=h c (by simp);obtain⟨h1,h2⟩:=mE n css (fun x hx=>h x (by simp [hx]));have e:(n+1)*sz=c.length+n*sz:=by rw [Nat.add_mul,hc];omega
  simp only [List.flatten_cons,List.take_succ_cons,List.drop_succ_cons,e];rw [List.take_length_add_append,List.drop_length_add_append,h1,h2];exact⟨rfl,rfl⟩
section
variable {P : Program} {B : Bs} {P' : aK} {s s2 : ASt} {w : World} {G : Gh} {H : Handler}
theorem aCr(hH:HOk P P' H)(hp: ∀g,bE (P'.gl g)=true){f:Nat}{fn:Func}{b:Code}(hf:P.funcs[f]?=some fn)(hb:fn.body=some b)(hn:(fn.name== "runtime.NumGoroutine")=false){args:List AV}{v0 v:AV}{xs:List Value}
(hpl:dM args=true)(hc:H.call (.func f) args dE=some (.ret v0,s2))(hfx:gZ v0=some v)(hI:Inv P B G s w)(hG:cS P' G)(hr:R G (.l args xs)){W:World}(hW:Below w.heap.size w W):
  CallsIn (FV P) 0 P f xs.toArray W (fun e W'=>(∃x G',e= .returned x∧R G' (.v v x))∧Below W.heap.size W W'):=by
 have hI':Inv P B G s W:=hI.grow hW.os hW.tape hW.output hW.size hW.block;obtain⟨n,w1,h1,h2⟩:=hH.func f args _ _ _ hc (yP W G) (sA G) W xs hI'.bare (hG.bare hp) (hr.swap (.inl (by exact hpl)));rw [cG hf hb hn] at h1;cases h1;refine CallsIn.mono h2 ?_
 rintro e W' ⟨G',hle,hI2,hres⟩
 cases e with
 |returned x=>exact⟨⟨x,G',rfl,aA1 hfx hres⟩,hI2.os,hI2.tape,hI2.output,hI2.size,fun k hk=>hI2.pr k hk⟩
 |panicked c=>exact hres.elim
 |outgrown=>exact hres.elim
theorem aCO(hI:Inv P B G s w){w':World}{v':Value}{n':Nat}{ys:List AV}{css:List (List Value)}(hcss:Css G 3 ys css)(hn':ys.length=n')(hown:w'.ownsRow w.heap.size 24 3 v' n' css.flatten)(hb:Below w.heap.size w w'):
  ∃G',G.le G'∧Inv P B G' s w'∧R G' (.v (slA 3 ys) v'):=by
 subst hn';have hI':Inv P B G s w':=hI.grow hb.os hb.tape hb.output hb.size hb.block;have nilC: ∀A c,c≤maxLen→ys= []→R G (.v (slA 3 ys) (.slice A 0 c)):=by
  rintro A c hc rfl
  exact .aW hc trivial
 rcases hown.2 with ⟨rfl,h0⟩|⟨g,c,cur,rfl,hg,hh,hnc,hcm,hcs,htk⟩
 ·exact⟨G,.refl _,hI',nilC _ _ (Nat.zero_le _) (List.length_eq_zero_iff.1 h0)⟩
 ·cases ys with
  |nil=>exact⟨G,.refl _,hI',nilC _ _ hcm rfl⟩
  |cons y ys=>
   have hMg: ∀o,G.M g o=none:=fun o=>by
    cases hx:G.M g o with
    |none=>rfl
    |some x=>have:=hI.Mlt hx;omega
   have hle:G.le (G.eL g 0 ((y::ys).length*3) css.flatten):=Gh.nD fun o _ _ x hx=>by rw [hMg o] at hx;cases hx
   refine⟨_,hle,Quiet.inv (G:=G) (w:=w) ⟨hle,fun _=>rfl,fun _ _=>rfl,hb.os,hb.tape,hb.output,hb.size,hb.block,fun b hb' o=>lH (by omega),fun b o x hb' hx=> ?_⟩ hI,?_⟩
   ·by_cases hc:b=g∧0≤o∧o<(y::ys).length*3
    ·obtain⟨rfl,h1,h2⟩:=hc;rw [fL h1 h2,←htk,List.getElem?_take,if_pos h2] at hx;simp only [World.cell?,hh];simpa using hx
    ·have hx':G.M b o=some x:=by
      have:(G.eL g 0 ((y::ys).length*3) css.flatten).M b o=G.M b o:=by
       simp only [Gh.eL];rw [if_neg hc]
      rw [this] at hx;exact hx
     have:=hI.Mlt hx';omega
   ·refine .bA hnc hcm (Css.row (hcss.mono hle) fun j x hj=> ?_) trivial;rw [Nat.zero_add,fL (Nat.zero_le _)]
    ·exact hj
    ·have:=(List.getElem?_eq_some_iff.1 hj).1;rw [hcss.flat.2] at this;exact this
theorem aCT(hI:Inv P B G s w){sz:Nat}{xs:List AV}{o:Fw.Own}{sv:Value}(hz:sz=3∨xs= [])(hr:R G (.v (.slice sz xs o) sv)): ∃css,Css G 3 xs css∧sK w sv xs.length css.flatten:=by
 cases hr with
 | @aW _ _ A c hm ho=>
  refine⟨[],.nil,rfl,by simp,?_⟩;cases A with
  |none=>exact .inl ⟨c,rfl,rfl⟩
  |some a=>exact .inr ⟨a,c,rfl,by simp⟩
 | @bA _ _ _ b off c hc hm hr ho=>
  cases xs with
  |nil=>
   refine⟨[],.nil,rfl,by simp,.inr ⟨⟨b,off,none⟩,c,rfl,by simp⟩⟩
  |cons x xs=>
   have hz:sz=3:=hz.resolve_right (by simp);subst hz;obtain⟨css,h1,h2⟩:=wO hr;refine⟨css,h1,h1.flat.2,fun u hu=>h1.flat.1.aAW u hu,.inr ⟨⟨b,off,none⟩,c,rfl,fun j u hu=> ?_⟩⟩;rw [Addr.add_lit];exact hI.m _ _ _ (h2 j u hu)
end
def yG:Prim where
 calls:=fun args=>match args with
  | [.slice sz xs o,.agg [a,b,c]]=>some [(32,[.slice sz xs o,.agg [a,b,c]])]
  |_=>none
 fin:=fun args rs=>match args,rs with
  | [.slice sz xs _,.agg [a,b,c]],[.int .i64 i]=>match(Nat.beq sz 3||xs.isEmpty)&&decide (0≤i)&&Nat.ble i.toNat xs.length&&Nat.ble xs.length 1048576 with
   |true=>some (slA 3 (xs.take i.toNat++ .agg [a,b,c]::xs.drop i.toNat))
   |false=>none
  |_,_=>none
def wT:Prim where
 calls:=fun args=>match args with
  | [.slice sz xs o,.str e]=>some [(23,[.slice sz xs o,.str e,.int .i64 0]),(32,[.slice sz xs o,.agg [.str e,.int .i64 0,.int .i64 0]])]
  |_=>none
 fin:=fun args rs=>match args,rs with
  | [.slice sz xs _,.str _],[.tuple [.agg [.str _,.int .i64 _,.int .i64 _],.bool is],.int .i64 i]=>
   match(Nat.beq sz 3||xs.isEmpty)&&Nat.ble xs.length 1048576 with
   |true=>match is with
    |false=>some (slA 3 xs)
    |true=>match decide (0≤i)&&Nat.blt i.toNat xs.length with
     |true=>some (slA 3 (xs.take i.toNat++xs.drop (i.toNat+1)))
     |false=>none
   |false=>none
  |_,_=>none
theorem qR{H:Handler}{p:Prim}{args:List AV}{s s':ASt}{r:jT}(h:eU H p args s=some (r,s')):
  s'=s∧dM args=true∧ ∃cs vs v,p.calls args=some cs∧bZ H cs=some vs∧p.fin args vs=some v∧bE v=true∧r= .ret v:=by
 refine⟨tJ h,?_⟩;simp only [eU] at h;split at h
 ·rename_i hp;split at h
  ·rename_i cs hcs;split at h
   ·rename_i vs hvs;split at h
    ·rename_i v hv;split at h
     ·rename_i hpv;cases h;exact⟨hp,cs,vs,v,hcs,hvs,hv,hpv,rfl⟩
     ·cases h
    ·cases h
   ·cases h
  ·cases h
 ·cases h
theorem j9{H:Handler}{f:Nat}{a:List AV}{l:List (Nat×List AV)}{vs:List AV}(h:bZ H ((f,a)::l)=some vs):
  dM a=true∧ ∃v0 s2 v ws,H.call (.func f) a dE=some (.ret v0,s2)∧gZ v0=some v∧bE v=true∧bZ H l=some ws∧vs=v::ws:=by
 simp only [bZ] at h;split at h
 ·rename_i hp;split at h
  ·rename_i v0 s2 hc;split at h
   ·rename_i v hv;split at h
    ·rename_i hpv;split at h
     ·rename_i ws hws;cases h;exact⟨hp,v0,s2,v,ws,hc,hv,hpv,hws,rfl⟩
     ·cases h
    ·cases h
   ·cases h
  ·cases h
 ·cases h
theorem aDe(x0 x1 x2:Value)(i:Nat)(css:List (List Value))(h: ∀c∈css,c.length=3):wF x0 x1 x2 i css.flatten=(css.take i++ [x0,x1,x2]::css.drop i).flatten:=by
 unfold wF;rw [(mE i css h).1,(mE i css h).2];simp only [List.flatten_append,List.flatten_cons,List.append_assoc]
theorem aES{P':aK}(hp: ∀g,bE (P'.gl g)=true)(H:Handler)(hH:HOk Try.prog P' H)(args:List AV)(s:ASt)(r:jT)(s':ASt)(h:eU H yG args s=some (r,s'))(B:Bs)(G:Gh)(w:World)(xs:List Value)(hI:Inv Try.prog B G s w)(hG:cS P' G)
(hr:R G (.l args xs)):y6 Try.prog (callFunc 18 xs.toArray) w (jY Try.prog B G s' r):=by
 obtain⟨rfl,hpl,cs,vs,v,h1,h2,h3,h4,rfl⟩:=qR h;clear h;simp only [yG] at h1;split at h1
 ·rename_i sz ys o a b c;cases h1;obtain⟨hpl2,v0,s2,v1,ws,hc,hfx,hpv,hws,rfl⟩:=j9 h2;simp only [bZ,Option.some.injEq] at hws;subst hws;simp only [yG] at h3;split at h3
  ·rename_i sz' ys' o' a' b' c' i heq1 heq2;cases heq1;cases heq2;split at h3
   ·rename_i hcond;cases h3;simp only [Bool.and_eq_true,Bool.or_eq_true,decide_eq_true_eq] at hcond;obtain⟨⟨⟨hz,hi0⟩,hil⟩,hbig⟩:=hcond;have hil:=Nat.le_of_ble_eq_true hil;have hbig:=Nat.le_of_ble_eq_true hbig;have hz:sz=3∨ys= []:=hz.imp Nat.eq_of_beq_eq_true (by simp);have hr0:=hr;cases hr with
    |bK hr1 hr=>
    cases hr with
    |bK hr2 hr=>
    cases hr;cases hr2 with
    | @agg _ us hk=>
    cases hk with
    |aT ra oa hk=>
    cases hk with
    |aT rb ob hk=>
    cases hk with
    |aT rc oc hk=>
    cases hk;obtain⟨css,hcss,hsrc⟩:=aCT hI hz hr1;refine⟨.enter 18 _,w,cG Try.func18 rfl (by kernel_rfl) _ _,?_⟩;have hiN:(i.toNat:Int)=i:=Int.toNat_of_nonneg hi0;refine(tV _ _ _ _ ys.length i.toNat css.flatten w hsrc ⟨oa,ob,oc⟩ hbig hil (fun W hW=> ?_)).mono ?_
    ·refine(aCr hH hp Try.func32 rfl (by kernel_rfl) hpl2 hc hfx hI hG hr0 hW).mono ?_
     rintro e W' ⟨⟨x,G',rfl,hx⟩,hb⟩
     cases hx;exact⟨by rw [hiN],hb⟩
    ·rintro e w' ⟨v',rfl,hown,hb⟩
     have hall: ∀c∈css,c.length=3:=hcss.all;have hcss2:Css G 3 (ys.take i.toNat++ .agg [a,b,c]::ys.drop i.toNat) (css.take i.toNat++ [_,_,_]::css.drop i.toNat):=
      (hcss.take i.toNat).append (.cons (R.kH (.aT ra oa (.aT rb ob (.aT rc oc .cT)))) rfl (Css.drop i.toNat hcss))
     obtain⟨G',g1,g2,g3⟩:=aCO (n':=ys.length+1) hI hcss2 (by simp only [List.length_append,List.length_take,List.length_cons,List.length_drop];omega) (by
      rw [aDe _ _ _ _ _ hall] at hown;exact hown) hb
     exact⟨G',g1,g2,g3⟩
   ·cases h3
  ·cases h3
 ·cases h1
theorem aEk{P':aK}(hp: ∀g,bE (P'.gl g)=true)(H:Handler)(hH:HOk Try.prog P' H)(args:List AV)(s:ASt)(r:jT)(s':ASt)(h:eU H wT args s=some (r,s'))(B:Bs)(G:Gh)(w:World)(xs:List Value)(hI:Inv Try.prog B G s w)(hG:cS P' G)
(hr:R G (.l args xs)):y6 Try.prog (callFunc 21 xs.toArray) w (jY Try.prog B G s' r):=by
 obtain⟨rfl,hpl,cs,vs,v,h1,h2,h3,h4,rfl⟩:=qR h;clear h;simp only [wT] at h1;split at h1
 ·rename_i sz ys o e;cases h1;obtain⟨hpl2,v0,s2,v1,ws,hc,hfx,hpv,hws,rfl⟩:=j9 h2;obtain⟨hpl3,v02,s22,v12,ws2,hc2,hfx2,hpv2,hws2,rfl⟩:=j9 hws;simp only [bZ,Option.some.injEq] at hws2;subst hws2;simp only [wT] at h3;split at h3
  ·rename_i sz' ys' o' e' p1 p2 p3 is i heq1 heq2;cases heq1;cases heq2;split at h3
   ·rename_i hcond;simp only [Bool.and_eq_true,Bool.or_eq_true] at hcond;obtain⟨hz,hbig⟩:=hcond;have hbig:=Nat.le_of_ble_eq_true hbig;have hz:sz=3∨ys= []:=hz.imp Nat.eq_of_beq_eq_true (by simp);cases hr with
    |bK hr1 hr=>
    cases hr with
    |bK hr2 hr=>
    cases hr;have hr2':=hr2;cases hr2 with
    | @str se hse=>
    obtain⟨css,hcss,hsrc⟩:=aCT hI hz hr1;refine⟨.enter 21 _,w,cG Try.func21 rfl (by kernel_rfl) _ _,?_⟩;have z0:R G (.v (.int .i64 0) (.int .i64 0)):= .int (by decide);have hfound: ∀W,Below w.heap.size w W→CallsIn (FV Try.prog) 0 Try.prog 23 #[_,.string se,.int .i64 0] W (fun e W'=>(∃a b c,e= .returned (.tuple #[.agg #[.string a,.int .i64 b,.int .i64 c],.bool is]))∧Below W.heap.size W W'):=fun W hW=>by
     refine(aCr hH hp Try.func23 rfl (by kernel_rfl) hpl2 hc hfx hI hG (.bK hr1 (.bK hr2' (.bK z0 .iO))) hW).mono ?_
     rintro e W' ⟨⟨x,G',rfl,hx⟩,hb⟩
     refine⟨?_,hb⟩;cases hx with
     |tuple ht=>
     cases ht with
     |bK ha ht=>
     cases ht with
     |bK hb ht=>
     cases ht;cases hb;cases ha with
     |agg hk=>
     cases hk with
     |aT r1 _ hk=>
     cases hk with
     |aT r2 _ hk=>
     cases hk with
     |aT r3 _ hk=>
     cases hk;cases r1;cases r2;cases r3;exact⟨_,_,_,rfl⟩
    cases is with
    |false=>
     cases h3;refine(aAp hsrc hbig hfound).mono ?_
     rintro e w' ⟨v',rfl,hown,hb⟩
     obtain⟨G',g1,g2,g3⟩:=aCO hI hcss rfl hown hb;exact⟨G',g1,g2,g3⟩
    |true=>
     simp only at h3;split at h3
     ·rename_i hcond2;cases h3;simp only [Bool.and_eq_true,decide_eq_true_eq] at hcond2;obtain⟨hi0,hil⟩:=hcond2;have hil:i.toNat<ys.length:=Nat.le_of_ble_eq_true hil;have hiN:(i.toNat:Int)=i:=Int.toNat_of_nonneg hi0;refine(xX hsrc hbig hil hfound (fun W hW=> ?_) ⟨se,rfl⟩).mono ?_
      ·refine(aCr hH hp Try.func32 rfl (by kernel_rfl) hpl3 hc2 hfx2 hI hG (xs:= [_,.agg #[.string se,.int .i64 0,.int .i64 0]]) (.bK hr1 (.bK (.agg (vs:= [.string se,.int .i64 0,.int .i64 0]) (.aT hr2' rfl (.aT z0 rfl (.aT z0 rfl .cT)))) .iO)) hW).mono ?_
       rintro e W' ⟨⟨x,G',rfl,hx⟩,hb⟩
       cases hx;exact⟨by rw [hiN],hb⟩
      ·rintro e w' ⟨v',rfl,hown,hb⟩
       have hall: ∀c∈css,c.length=3:=hcss.all;have hcss2:Css G 3 (ys.take i.toNat++ys.drop (i.toNat+1)) (css.take i.toNat++css.drop (i.toNat+1)):=(hcss.take i.toNat).append (Css.drop (i.toNat+1) hcss);obtain⟨G',g1,g2,g3⟩:=aCO (n':=ys.length-1) hI hcss2 (by simp only [List.length_append,List.length_take,List.length_drop];omega) (by
        rw [(mE i.toNat css hall).1,(mE (i.toNat+1) css hall).2,←List.flatten_append] at hown;exact hown) hb
       exact⟨G',g1,g2,g3⟩
     ·cases h3
   ·cases h3
  ·cases h3
 ·cases h1
def aB5:Nat→Option Prim
 |18=>some yG
 |21=>some wT
 |_=>none
theorem aCG{P':aK}(hp: ∀g,bE (P'.gl g)=true)(h:P'.prim=aB5):rX Try.prog P':=by
 refine⟨fun f p hf H hH args s r s' hr B G w xs hI hG hR=> ?_⟩;rw [h] at hf;unfold aB5 at hf;split at hf
 ·cases hf;exact aES hp H hH args s r s' hr B G w xs hI hG hR
 ·cases hf;exact aEk hp H hH args s r s' hr B G w xs hI hG hR
 ·cases hf
end Go.Proofs.Ytfcfnkffgiklpaa
namespace Go.Proofs.Ytfcfnkffgiklpaa
open Go Go.Fw
noncomputable abbrev PP:aK:={aB1 Code.tab gl0 with prim:=aB5}
end Go.Proofs.Ytfcfnkffgiklpaa
set_option maxRecDepth 100000
set_option maxHeartbeats 4000000
set_option synthInstance.maxSize 10000
namespace Go.Proofs.Ytfcfnkffgiklpaa
open Go Go.Fw
noncomputable def g8(x1:Int):Option Bool:=
 some (x1 !=x1)
theorem wY: ∀(x1:Int)(r:Bool),g8 x1=some r→ ∀s:ASt,Fc PP (.func 36) [(.int .i64 x1)] s (dQ s<|.bool r):=by
 intro x1 r u;unfold g8 at u;intro s;refine bN rfl rfl rfl ?_;have J:=St.clean s;generalize aV s=σ1 at J⊢;refine aD<|aE<|wu rfl<|aC<|aD<|aE<|wu rfl<|wu rfl<|wu rfl<|wu rfl<|aC<|aL ?_;cases u;exact⟨rfl,_,fun _=>rfl,bB rfl rfl rfl rfl J.ext⟩
theorem oR{x1:Int}{r:Bool}(h:g8 x1=some r):Pf PP 36 [(.int .i64 x1)] (.bool r):=Pf.eJ (wY x1 r h _) rfl (.cons ⟨rfl,rfl⟩ .nil)
noncomputable def fG(x1:Int)(y2:Int):Option Int:=
 ((g8 x1)>>=fun r3=>
 ((g8 y2)>>=fun r4=>
 (if r3=true then(if r4=true then some (0)
 else some (-1))
 else(if r4=true then some (1)
 else(if(decide (x1<y2))=true then some (-1)
 else(if(decide (x1>y2))=true then some (1)
 else some (0)))))))
theorem s7: ∀(x1:Int)(y2:Int)(r:Int),fG x1 y2=some r→ ∀s:ASt,Fc PP (.func 27) [(.int .i64 x1),(.int .i64 y2)] s (dQ s<|.int .i64 r):=by
 intro x1 y2 r u;unfold fG at u;intro s;refine bN rfl rfl rfl ?_;have J:=St.clean s;generalize aV s=σ1 at J⊢;refine aD<|aE<|wu rfl<|aC<|aD<|aE<|wu rfl ?_;obtain⟨r3,hr3,u⟩:=bs u;refine wcD (oR hr3) rfl rfl (.cons rfl .nil)<|wu rfl<|aC<|aD<|aE<|wu rfl ?_;obtain⟨r4,hr4,u⟩:=bs u;refine wcD (oR hr4) rfl rfl (.cons rfl .nil)<|wu rfl<|aC<|aD<|aD<|aE<|wu rfl<|aC ?_;refine aJ u rfl (fun hc u=> ?_)<|fun hc u=> ?_
 ·refine aD<|aD<|aE<|wu rfl<|aC ?_;refine aJ u rfl (fun hc u=> ?_)<|fun hc u=> ?_
  ·refine aD<|aE<|wu rfl<|aC<|aL ?_;cases u;exact⟨rfl,_,fun _=>rfl,bB rfl rfl rfl rfl J.ext⟩
  ·refine aP<|aD<|aE<|wu rfl<|aC<|aL ?_;cases u;exact⟨rfl,_,fun _=>rfl,bB rfl rfl rfl rfl J.ext⟩
 ·refine aP<|aD<|aD<|aE<|wu rfl<|aC ?_;refine aJ u rfl (fun hc u=> ?_)<|fun hc u=> ?_
  ·refine aD<|aE<|wu rfl<|aC<|aL ?_;cases u;exact⟨rfl,_,fun _=>rfl,bB rfl rfl rfl rfl J.ext⟩
  ·refine aP<|aD<|aD<|aE<|wu rfl<|wu rfl<|wu rfl<|aC ?_;refine aJ u rfl (fun hc u=> ?_)<|fun hc u=> ?_
   ·refine aD<|aE<|wu rfl<|aC<|aL ?_;cases u;exact⟨rfl,_,fun _=>rfl,bB rfl rfl rfl rfl J.ext⟩
   ·refine aP<|aD<|aD<|aE<|wu rfl<|wu rfl<|wu rfl<|aC ?_;refine aJ u rfl (fun hc u=> ?_)<|fun hc u=> ?_
    ·refine aD<|aE<|wu rfl<|aC<|aL ?_;cases u;exact⟨rfl,_,fun _=>rfl,bB rfl rfl rfl rfl J.ext⟩
    ·refine aP<|aD<|aE<|wu rfl<|aC<|aL ?_;cases u;exact⟨rfl,_,fun _=>rfl,bB rfl rfl rfl rfl J.ext⟩
theorem mT{x1:Int}{y2:Int}{r:Int}(h:fG x1 y2=some r):Pf PP 27 [(.int .i64 x1),(.int .i64 y2)] (.int .i64 r):=Pf.eJ (s7 x1 y2 r h _) rfl (.cons ⟨rfl,rfl⟩<|.cons ⟨rfl,rfl⟩ .nil)
noncomputable def dU(x1:Str):Option Bool:=
 some (!(x1==x1))
theorem pP: ∀(x1:Str)(r:Bool),dU x1=some r→ ∀s:ASt,Fc PP (.func 43) [(.str x1)] s (dQ s<|.bool r):=by
 intro x1 r u;unfold dU at u;intro s;refine bN rfl rfl rfl ?_;have J:=St.clean s;generalize aV s=σ1 at J⊢;refine aD<|aE<|wu rfl<|aC<|aD<|aE<|wu rfl<|wu rfl<|wu rfl<|wu rfl<|aC<|aL ?_;cases u;exact⟨rfl,_,fun _=>rfl,bB rfl rfl rfl rfl J.ext⟩
theorem kX{x1:Str}{r:Bool}(h:dU x1=some r):Pf PP 43 [(.str x1)] (.bool r):=Pf.eJ (pP x1 r h _) rfl (.cons ⟨rfl,rfl⟩ .nil)
noncomputable def dJ(x1:Str)(y2:Str):Option Int:=
 ((dU x1)>>=fun r3=>
 ((dU y2)>>=fun r4=>
 (if r3=true then(if r4=true then some (0)
 else some (-1))
 else(if r4=true then some (1)
 else(if(Op.bytesLess x1 y2)=true then some (-1)
 else(if(!(Op.bytesLess x1 y2||x1==y2))=true then some (1)
 else some (0)))))))
theorem n6: ∀(x1:Str)(y2:Str)(r:Int),dJ x1 y2=some r→ ∀s:ASt,Fc PP (.func 35) [(.str x1),(.str y2)] s (dQ s<|.int .i64 r):=by
 intro x1 y2 r u;unfold dJ at u;intro s;refine bN rfl rfl rfl ?_;have J:=St.clean s;generalize aV s=σ1 at J⊢;refine aD<|aE<|wu rfl<|aC<|aD<|aE<|wu rfl ?_;obtain⟨r3,hr3,u⟩:=bs u;refine wcD (kX hr3) rfl rfl (.cons rfl .nil)<|wu rfl<|aC<|aD<|aE<|wu rfl ?_;obtain⟨r4,hr4,u⟩:=bs u;refine wcD (kX hr4) rfl rfl (.cons rfl .nil)<|wu rfl<|aC<|aD<|aD<|aE<|wu rfl<|aC ?_;refine aJ u rfl (fun hc u=> ?_)<|fun hc u=> ?_
 ·refine aD<|aD<|aE<|wu rfl<|aC ?_;refine aJ u rfl (fun hc u=> ?_)<|fun hc u=> ?_
  ·refine aD<|aE<|wu rfl<|aC<|aL ?_;cases u;exact⟨rfl,_,fun _=>rfl,bB rfl rfl rfl rfl J.ext⟩
  ·refine aP<|aD<|aE<|wu rfl<|aC<|aL ?_;cases u;exact⟨rfl,_,fun _=>rfl,bB rfl rfl rfl rfl J.ext⟩
 ·refine aP<|aD<|aD<|aE<|wu rfl<|aC ?_;refine aJ u rfl (fun hc u=> ?_)<|fun hc u=> ?_
  ·refine aD<|aE<|wu rfl<|aC<|aL ?_;cases u;exact⟨rfl,_,fun _=>rfl,bB rfl rfl rfl rfl J.ext⟩
  ·refine aP<|aD<|aD<|aE<|wu rfl<|wu rfl<|wu rfl<|aC ?_;refine aJ u rfl (fun hc u=> ?_)<|fun hc u=> ?_
   ·refine aD<|aE<|wu rfl<|aC<|aL ?_;cases u;exact⟨rfl,_,fun _=>rfl,bB rfl rfl rfl rfl J.ext⟩
   ·refine aP<|aD<|aD<|aE<|wu rfl<|wu rfl<|wu rfl<|aC ?_;refine aJ u rfl (fun hc u=> ?_)<|fun hc u=> ?_
    ·refine aD<|aE<|wu rfl<|aC<|aL ?_;cases u;exact⟨rfl,_,fun _=>rfl,bB rfl rfl rfl rfl J.ext⟩
    ·refine aP<|aD<|aE<|wu rfl<|aC<|aL ?_;cases u;exact⟨rfl,_,fun _=>rfl,bB rfl rfl rfl rfl J.ext⟩
theorem oH{x1:Str}{y2:Str}{r:Int}(h:dJ x1 y2=some r):Pf PP 35 [(.str x1),(.str y2)] (.int .i64 r):=Pf.eJ (n6 x1 y2 r h _) rfl (.cons ⟨rfl,rfl⟩<|.cons ⟨rfl,rfl⟩ .nil)
noncomputable def hY(vals1:(List Int))(x2:Int):Option (Ctl Int Unit):=
 (if(decide (x2<(vals1.length:Int)))=true then((idx vals1 x2)>>=fun y3=>
 (if(y3 !=(0))=true then some (.ret y3)
 else hY (nf vals1) (IntKind.wrap .i64 (x2+(1)))))
 else some (.nx ()))
 partial_fixpoint
abbrev qP(vals1:(List Int))(x2:Int)(o:(Ctl Int Unit)):Prop:= ∀(e:Env)(s sv:ASt),St [] [] s sv [] []→Wk PP none Code.aEa ⟨gP e [(3,(.int .i64<|0)),(6,(slA 1<|vals1.map<|AV.int .i64)),(7,(.int .i64 (vals1.length:Int))),(8,(.int .i64 x2))],[]⟩ sv (fun ex fr s'=>(match o with| .ret oq0=>ex= .ret∧tU PP Code.c25 (VQ (.int .i64 oq0)<|Ext [] [] s) ex fr s'| .nx oq1=>ex= .exit 0∧ ∃(e:Env),fr=⟨gP e [(3,(.int .i64<|0))],[]⟩∧sv=s'))
theorem wE: ∀(vals1:(List Int))(x2:Int)(o:(Ctl Int Unit)),hY vals1 x2=some o→qP vals1 x2 o:=by
 refine hY.partial_correctness (qP) ?_;intro _f ih_cmp_Or_l0 vals1 x2 o u;intro e s sv J;refine gE<|aD<|aE<|wu rfl<|aC<|aD ?_;refine aJ u rfl (fun hc u=> ?_)<|fun hc u=> ?_
 ·refine aP<|aD<|cN<|aD<|aE ?_;obtain⟨y3,hy3,u⟩:=bs u;refine gJ (f:=(AV.int .i64)) rfl (.no _) rfl hy3 rfl<|wu rfl<|wu rfl<|aC<|aD<|aE<|wu rfl<|wu rfl<|wu rfl<|aC ?_;refine aJ u rfl (fun hc u=> ?_)<|fun hc u=> ?_
  ·refine aD<|aE<|wu rfl<|wu rfl<|aC<|aL ?_;cases u;exact⟨rfl,⟨rfl,_,fun _=>rfl,bB rfl rfl rfl rfl J.ext⟩⟩
  ·refine aP<|aE<|wu rfl<|wu rfl<|aC ?_;exact iJ (fun e=>ih_cmp_Or_l0 _ _ _ u e s _ J) (.cons rfl<|.cons rfl<|.cons rfl<|.cons rfl .nil)<|fun _ _ _ h=>h
 ·refine j6 ?_;cases u;exact⟨rfl,_,frE<|.cons rfl .nil,rfl⟩
noncomputable def oB(vals1:(List Int)):Option Int:=
 ((hY vals1 (0))>>=fun o4=>
 (match o4 with
 | .ret q5=>some q5
 | .nx q6=>some (0)))
theorem aBL: ∀(vals1:(List Int))(r:Int),oB vals1=some r→ ∀s:ASt,Fc PP (.func 25) [(slA 1<|vals1.map<|AV.int .i64)] s (dQ s<|.int .i64 r):=by
 intro vals1 r u;unfold oB at u;intro s;refine bN rfl rfl rfl ?_;have J:=St.clean s;generalize aV s=σ1 at J⊢;refine aD<|aE<|wu rfl<|aC<|aD<|aE<|wu rfl<|aC<|aD<|aD<|aE<|wu rfl<|fS (f:=(AV.int .i64)) (l:=vals1) rfl (.no _)<|wu rfl ?_;refine aC<|cN ?_;obtain⟨o4,ho4,u⟩:=bs u;refine iJ (fun e=>wE _ _ _ ho4 e s _ J) (.cons rfl<|.cons rfl<|.cons rfl<|.cons rfl .nil) ?_
 rintro _ _ _ hq
 rcases o4 with q5|q6
 ·obtain⟨rfl,hq⟩:=hq;cases u;exact hq
 ·obtain⟨rfl,e8,rfl,rfl⟩:=hq;refine aD<|aE<|wu rfl<|wu rfl<|aC<|aL ?_;cases u;exact⟨rfl,_,fun _=>rfl,bB rfl rfl rfl rfl J.ext⟩
theorem vE{vals1:(List Int)}{r:Int}(h:oB vals1=some r):Pf PP 25 [(slA 1<|vals1.map<|AV.int .i64)] (.int .i64 r):=Pf.eJ (aBL vals1 r h _) rfl (.cons (fU<|b8 (fun _=>rfl) _) .nil)
noncomputable def cQ(a1:aA)(b2:aA):Option Int:=
 ((dJ a1.effect b2.effect)>>=fun r3=>
 ((fG a1.instance_ b2.instance_)>>=fun r4=>
 ((oB [r3,r4])>>=fun r5=>
 some r5)))
theorem o0: ∀(a1:aA)(b2:aA)(r:Int),cQ a1 b2=some r→ ∀s:ASt,Fc PP (.func 26) [(aF a1),(aF b2)] s (dQ s<|.int .i64 r):=by
 intro a1 b2 r u;unfold cQ at u;intro s;refine bN rfl rfl rfl ?_;have J:=St.clean s;generalize aV s=σ1 at J⊢;refine aD<|aE<|wu rfl<|wu rfl<|wu rfl<|aC<|aD<|aE<|wu rfl<|wu rfl<|wu rfl<|wu rfl ?_;obtain⟨r3,hr3,u⟩:=bs u;refine wcD (oH hr3) rfl rfl (.cons rfl<|.cons rfl .nil)<|wu rfl<|wu rfl<|wu rfl<|wu rfl ?_;obtain⟨r4,hr4,u⟩:=bs u;refine wcD (mT hr4) rfl rfl (.cons rfl<|.cons rfl .nil) ?_;refine rE (f:=(AV.int .i64)) (l:= [r3,r4]) rfl (.cons rfl<|.cons rfl .nil) rfl (fun _=>rfl) rfl rfl (by decide) ?_;obtain⟨r5,hr5,u⟩:=bs u;refine wcD (vE hr5) rfl rfl (.cons rfl .nil)<|wu rfl<|aC<|aL ?_;cases u;exact⟨rfl,_,fun _=>rfl,bB rfl rfl rfl rfl J.ext⟩
theorem gL{a1:aA}{b2:aA}{r:Int}(h:cQ a1 b2=some r):Pf PP 26 [(aF a1),(aF b2)] (.int .i64 r):=Pf.eJ (o0 a1 b2 r h _) rfl (.cons (bV _)<|.cons (bV _) .nil)
noncomputable def fV(c1:Int):Option Int:=
 ((if(c1==(32))=true then some true
 else some (c1==(9)):Option Bool)>>=fun c2=>
 ((if c2=true then some true
 else some (c1==(10)):Option Bool)>>=fun c3=>
 (if c3=true then some (1)
 else((if(c1==(95))=true then some true
 else((if(decide ((97)≤c1))=true then some (decide (c1≤(122)))
 else some false:Option Bool)>>=fun c5=>
 some c5):Option Bool)>>=fun c4=>
 (if c4=true then some (2)
 else((if(decide ((65)≤c1))=true then some (decide (c1≤(90)))
 else some false:Option Bool)>>=fun c6=>
 (if c6=true then some (3)
 else((if(decide ((48)≤c1))=true then some (decide (c1≤(57)))
 else some false:Option Bool)>>=fun c7=>
 (if c7=true then some (4)
 else some (0))))))))))
theorem uD: ∀(c1:Int)(r:Int),fV c1=some r→ ∀s:ASt,Fc PP (.func 42) [(.int .u8 c1)] s (dQ s<|.int .i64 r):=by
 intro c1 r u;unfold fV at u;intro s;refine bN rfl rfl rfl ?_;have J:=St.clean s;generalize aV s=σ1 at J⊢;refine aD<|aE<|wu rfl<|aC<|aD<|cN<|aD<|aE<|wu rfl<|wu rfl<|wu rfl ?_;obtain⟨c2,hc2,u⟩:=bs u;refine aO 3 [(0,(.int .u8 c1)),(9,(.bool c2))] σ1 ?_<|fun e=> ?_
 ·refine aQ (t:=6) rfl (fun hc=> ?_)<|fun hc=> ?_
  ·replace hc2:=bI hc hc2;refine wu rfl<|wu rfl<|wu rfl<|aC ?_;cases hc2;exact Kept.mk rfl<|.cons rfl<|.cons rfl .nil
  ·replace hc2:=bH hc hc2;refine wu rfl<|wu rfl<|wu rfl<|aC ?_;cases hc2;exact Kept.mk rfl<|.cons rfl<|.cons rfl .nil
 ·refine wu rfl ?_;obtain⟨c3,hc3,u⟩:=bs u;refine aO 3 [(0,(.int .u8 c1)),(13,(.bool c3))] σ1 ?_<|fun e=> ?_
  ·refine aQ (t:=10) rfl (fun hc=> ?_)<|fun hc=> ?_
   ·replace hc3:=bI hc hc3;refine wu rfl<|wu rfl<|wu rfl<|aC ?_;cases hc3;exact Kept.mk rfl<|.cons rfl<|.cons rfl .nil
   ·replace hc3:=bH hc hc3;refine wu rfl<|wu rfl<|wu rfl<|aC ?_;cases hc3;exact Kept.mk rfl<|.cons rfl<|.cons rfl .nil
  ·refine wu rfl<|aC ?_;refine aJ u rfl (fun hc u=> ?_)<|fun hc u=> ?_
   ·refine aD<|aE<|wu rfl<|aC<|aL ?_;cases u;exact⟨rfl,_,fun _=>rfl,bB rfl rfl rfl rfl J.ext⟩
   ·refine aD<|aE<|wu rfl<|wu rfl<|wu rfl ?_;obtain⟨c4,hc4,u⟩:=bs u;refine aO 7 [(0,(.int .u8 c1)),(24,(.bool c4))] σ1 ?_<|fun e=> ?_
    ·refine aQ (t:=17) rfl (fun hc=> ?_)<|fun hc=> ?_
     ·replace hc4:=bI hc hc4;refine wu rfl<|wu rfl<|wu rfl<|wu rfl<|wu rfl<|wu rfl<|wu rfl<|aC ?_;cases hc4;exact Kept.mk rfl<|.cons rfl<|.cons rfl .nil
     ·replace hc4:=bH hc hc4
      iterate 3 refine wu rfl ?_
      obtain⟨c5,hc5,hc4⟩:=bs hc4;refine aO 3 [(0,(.int .u8 c1)),(17,(.bool false)),(23,(.bool c5))] σ1 ?_<|fun e=> ?_
      ·refine aQ (t:=20) rfl (fun hc=> ?_)<|fun hc=> ?_
       ·replace hc5:=bI hc hc5;refine wu rfl<|wu rfl<|wu rfl<|aC ?_;cases hc5;exact Kept.mk rfl<|.cons rfl<|.cons rfl<|.cons rfl .nil
       ·replace hc5:=bH hc hc5;refine wu rfl<|wu rfl<|wu rfl<|aC ?_;cases hc5;exact Kept.mk rfl<|.cons rfl<|.cons rfl<|.cons rfl .nil
      ·refine wu rfl<|aC ?_;cases hc4;exact Kept.mk rfl<|.cons rfl<|.cons rfl .nil
    ·refine wu rfl<|aC ?_;refine aJ u rfl (fun hc u=> ?_)<|fun hc u=> ?_
     ·refine aD<|aE<|wu rfl<|aC<|aL ?_;cases u;exact⟨rfl,_,fun _=>rfl,bB rfl rfl rfl rfl J.ext⟩
     ·refine aD<|aE<|wu rfl<|wu rfl<|wu rfl ?_;obtain⟨c6,hc6,u⟩:=bs u;refine aO 3 [(0,(.int .u8 c1)),(31,(.bool c6))] σ1 ?_<|fun e=> ?_
      ·refine aQ (t:=28) rfl (fun hc=> ?_)<|fun hc=> ?_
       ·replace hc6:=bI hc hc6;refine wu rfl<|wu rfl<|wu rfl<|aC ?_;cases hc6;exact Kept.mk rfl<|.cons rfl<|.cons rfl .nil
       ·replace hc6:=bH hc hc6;refine wu rfl<|wu rfl<|wu rfl<|aC ?_;cases hc6;exact Kept.mk rfl<|.cons rfl<|.cons rfl .nil
      ·refine wu rfl<|aC ?_;refine aJ u rfl (fun hc u=> ?_)<|fun hc u=> ?_
       ·refine aD<|aE<|wu rfl<|aC<|aL ?_;cases u;exact⟨rfl,_,fun _=>rfl,bB rfl rfl rfl rfl J.ext⟩
       ·refine aD<|aE<|wu rfl<|wu rfl<|wu rfl ?_;obtain⟨c7,hc7,u⟩:=bs u;refine aO 3 [(38,(.bool c7))] σ1 ?_<|fun e=> ?_
        ·refine aQ (t:=35) rfl (fun hc=> ?_)<|fun hc=> ?_
         ·replace hc7:=bI hc hc7;refine wu rfl<|wu rfl<|wu rfl<|aC ?_;cases hc7;exact Kept.mk rfl<|.cons rfl .nil
         ·replace hc7:=bH hc hc7;refine wu rfl<|wu rfl<|wu rfl<|aC ?_;cases hc7;exact Kept.mk rfl<|.cons rfl .nil
        ·refine wu rfl<|aC ?_;refine aJ u rfl (fun hc u=> ?_)<|fun hc u=> ?_
         ·refine aD<|aE<|wu rfl<|aC<|aL ?_;cases u;exact⟨rfl,_,fun _=>rfl,bB rfl rfl rfl rfl J.ext⟩
         ·refine aP<|aD<|aE<|wu rfl<|aC<|aL ?_;cases u;exact⟨rfl,_,fun _=>rfl,bB rfl rfl rfl rfl J.ext⟩
theorem nR{c1:Int}{r:Int}(h:fV c1=some r):Pf PP 42 [(.int .u8 c1)] (.int .i64 r):=Pf.eJ (uD c1 r h _) rfl (.cons ⟨rfl,rfl⟩ .nil)
noncomputable def dZ(s1:Str)(x9:Nat):Option (Ctl Bool Unit):=
 (if decide (x9<s1.length)=true then((if(decide (((rune s1 x9).1:Int)>(127)))=true then some true
 else((fV (IntKind.wrap .u8 ((rune s1 x9).1:Int)))>>=fun r12=>
 some (decide (r12<(2)))):Option Bool)>>=fun c11=>
 (if c11=true then some (.ret false)
 else dZ (nf s1) (x9+(rune s1 x9).2)))
 else some (.nx ()))
 partial_fixpoint
abbrev lS(s1:Str)(x9:Nat)(o:(Ctl Bool Unit)):Prop:= ∀(e:Env)(s sv:ASt)(β7:Nat),St [] [] s sv [(β7,.iter s1 x9)] []→Wk PP none Code.aD0 ⟨gP e [(22,(.iter β7))],[]⟩ sv (fun ex fr s'=>(match o with| .ret oq0=>ex= .ret∧tU PP Code.c33 (VQ (.bool oq0)<|Ext [] [] s) ex fr s'| .nx oq1=>ex= .exit 0∧ ∃(e:Env),fr=⟨gP e [],[]⟩∧St [] [] s s' [] []))
theorem pL: ∀(s1:Str)(x9:Nat)(o:(Ctl Bool Unit)),dZ s1 x9=some o→lS s1 x9 o:=by
 refine dZ.partial_correctness (lS) ?_;intro _f ih_lexer_word_l0 s1 x9 o u;intro e s sv β7 J;refine gE<|aD<|aE ?_;refine aCa 0 rfl J rfl rfl (fun hc σ10 J=> ?_)<|fun hc=> ?_
 ·replace u:=bI hc u;refine wu rfl<|aC<|aD<|aFt rfl<|aP<|cN<|aD<|aE<|wu rfl<|wu rfl<|aC<|aD<|aE<|wu rfl<|wu rfl<|wu rfl ?_;obtain⟨c11,h11,u⟩:=bs u;refine aO 5 [(22,(.iter β7)),(33,(.bool c11))] σ10 ?_<|fun e=> ?_
  ·refine aQ (t:=28) rfl (fun hc=> ?_)<|fun hc=> ?_
   ·replace h11:=bI hc h11;refine wu rfl<|wu rfl<|wu rfl<|wu rfl<|wu rfl<|aC ?_;cases h11;exact Kept.mk rfl<|.cons rfl<|.cons rfl .nil
   ·replace h11:=bH hc h11;refine wu rfl<|wu rfl ?_;obtain⟨r12,h12,h11⟩:=bs h11;refine wcD (nR h12) rfl rfl (.cons rfl .nil)<|wu rfl<|wu rfl<|aC ?_;cases h11;exact Kept.mk rfl<|.cons rfl<|.cons rfl .nil
  ·refine aC ?_;refine aJ u rfl (fun hc u=> ?_)<|fun hc u=> ?_
   ·refine aD<|aE<|wu rfl<|aC<|aL ?_;cases u;exact⟨rfl,⟨rfl,_,fun _=>rfl,bB rfl rfl rfl rfl J.ext⟩⟩
   ·refine aP ?_;exact iJ (fun e=>ih_lexer_word_l0 _ _ _ u e s _ β7 J) (.cons rfl .nil)<|fun _ _ _ h=>h
 ·replace u:=bH hc u;refine wu rfl<|aC<|aD<|aFs rfl<|j6 ?_;cases u;exact⟨rfl,_,frE .nil,(J.aFc 0)⟩
noncomputable def g5(s1:Str)(first2:Int):Option Bool:=
 ((if(s1==([]:Str))=true then some true
 else some (decide ((s1.length:Int)>(12))):Option Bool)>>=fun c3=>
 ((if c3=true then some true
 else((idx s1 (0))>>=fun b5=>
 ((fV (b5.toNat:Int))>>=fun r6=>
 some (r6 !=first2))):Option Bool)>>=fun c4=>
 (if c4=true then some false
 else((dZ s1 0)>>=fun o13=>
 (match o13 with
 | .ret q14=>some q14
 | .nx q15=>some true)))))
theorem uA: ∀(s1:Str)(first2:Int)(r:Bool),g5 s1 first2=some r→ ∀s:ASt,Fc PP (.func 33) [(.str s1),(.int .i64 first2)] s (dQ s<|.bool r):=by
 intro s1 first2 r u;unfold g5 at u;intro s;refine bN rfl rfl rfl ?_;have J:=St.clean s;generalize aV s=σ1 at J⊢;refine aD<|aE<|wu rfl<|aC<|aD<|aD<|aE<|wu rfl<|wu rfl<|wu rfl ?_;obtain⟨c3,hc3,u⟩:=bs u;refine aO 4 [(0,(.str s1)),(1,(.int .i64 first2)),(13,(.bool c3))] σ1 ?_<|fun e=> ?_
 ·refine aQ (t:=9) rfl (fun hc=> ?_)<|fun hc=> ?_
  ·replace hc3:=bI hc hc3;refine wu rfl<|wu rfl<|wu rfl<|wu rfl<|aC ?_;cases hc3;exact Kept.mk rfl<|.cons rfl<|.cons rfl<|.cons rfl .nil
  ·replace hc3:=bH hc hc3;refine wu rfl<|wu rfl<|wu rfl<|wu rfl<|aC ?_;cases hc3;exact Kept.mk rfl<|.cons rfl<|.cons rfl<|.cons rfl .nil
 ·refine wu rfl ?_;obtain⟨c4,hc4,u⟩:=bs u;refine aO 6 [(0,(.str s1)),(20,(.bool c4))] σ1 ?_<|fun e=> ?_
  ·refine aQ (t:=14) rfl (fun hc=> ?_)<|fun hc=> ?_
   ·replace hc4:=bI hc hc4;refine wu rfl<|wu rfl<|wu rfl<|wu rfl<|wu rfl<|wu rfl<|aC ?_;cases hc4;exact Kept.mk rfl<|.cons rfl<|.cons rfl .nil
   ·replace hc4:=bH hc hc4;refine wu rfl ?_;obtain⟨b5,hb5,hc4⟩:=bs hc4;refine xM rfl rfl rfl hb5 ?_;obtain⟨r6,hr6,hc4⟩:=bs hc4;refine wcD (nR hr6) rfl rfl (.cons rfl .nil)<|wu rfl<|wu rfl<|wu rfl<|aC ?_;cases hc4;exact Kept.mk rfl<|.cons rfl<|.cons rfl .nil
  ·refine aC ?_;refine aJ u rfl (fun hc u=> ?_)<|fun hc u=> ?_
   ·refine aD<|aE<|wu rfl<|aC<|aL ?_;cases u;exact⟨rfl,_,fun _=>rfl,bB rfl rfl rfl rfl J.ext⟩
   ·refine aP<|aD<|aD<|aE<|wu rfl ?_;refine aBX rfl J rfl<|fun β7 σ8 J=> ?_;refine aC<|cN ?_;obtain⟨o13,h13,u⟩:=bs u;refine iJ (fun e=>pL _ _ _ h13 e s _ β7 J) (.cons rfl .nil) ?_
    rintro _ _ _ hq
    rcases o13 with q14|q15
    ·obtain⟨rfl,hq⟩:=hq;cases u;exact hq
    ·obtain⟨rfl,e17,rfl,J⟩:=hq;refine aD<|aE<|wu rfl<|aC<|aL ?_;cases u;exact⟨rfl,_,fun _=>rfl,bB rfl rfl rfl rfl J.ext⟩
theorem tS{s1:Str}{first2:Int}{r:Bool}(h:g5 s1 first2=some r):Pf PP 33 [(.str s1),(.int .i64 first2)] (.bool r):=Pf.eJ (uA s1 first2 r h _) rfl (.cons ⟨rfl,rfl⟩<|.cons ⟨rfl,rfl⟩ .nil)
noncomputable def dW(s1:Str):Option Bool:=
 ((g5 s1 (3))>>=fun r2=>
 some r2)
theorem p5: ∀(s1:Str)(r:Bool),dW s1=some r→ ∀s:ASt,Fc PP (.func 20) [(.str s1)] s (dQ s<|.bool r):=by
 intro s1 r u;unfold dW at u;intro s;refine bN rfl rfl rfl ?_;have J:=St.clean s;generalize aV s=σ1 at J⊢;refine aD<|aE<|wu rfl<|aC<|aD<|aE<|wu rfl ?_;obtain⟨r2,hr2,u⟩:=bs u;refine wcD (tS hr2) rfl rfl (.cons rfl<|.cons rfl .nil)<|wu rfl<|aC<|aL ?_;cases u;exact⟨rfl,_,fun _=>rfl,bB rfl rfl rfl rfl J.ext⟩
theorem kK{s1:Str}{r:Bool}(h:dW s1=some r):Pf PP 20 [(.str s1)] (.bool r):=Pf.eJ (p5 s1 r h _) rfl (.cons ⟨rfl,rfl⟩ .nil)
noncomputable def bP(v1:(List aA))(x2:Int):Option (Ctl Int Unit):=
 (if(decide (x2<(v1.length:Int)))=true then((idx v1 x2)>>=fun y3=>
 ((dW y3.effect)>>=fun r4=>
 (if(!r4)=true then some (.ret (4))
 else((if(decide (y3.instance_<(0)))=true then some true
 else some (decide (y3.marker<(0))):Option Bool)>>=fun c5=>
 (if c5=true then some (.ret (1))
 else((if(decide (x2>(0)))=true then((idx v1 (IntKind.wrap .i64 (x2-(1))))>>=fun y7=>
 ((cQ y7 y3)>>=fun r8=>
 ((idx v1 (IntKind.wrap .i64 (x2-(1))))>>=fun y9=>
 ((fG y3.marker y9.marker)>>=fun r10=>
 ((oB [r8,r10])>>=fun r11=>
 some (decide (r11≥(0))))))))
 else some false:Option Bool)>>=fun c6=>
 (if c6=true then some (.ret (1))
 else bP (nf v1) (IntKind.wrap .i64 (x2+(1))))))))))
 else some (.nx ()))
 partial_fixpoint
abbrev iR(v1:(List aA))(x2:Int)(o:(Ctl Int Unit)):Prop:= ∀(e:Env)(s sv:ASt),St [] [] s sv [] []→Wk PP none Code.aD9 ⟨gP e [(0,(slA 3<|v1.map aB)),(8,(slA 3<|v1.map aB)),(9,(.int .i64 (v1.length:Int))),(10,(.int .i64 x2))],[]⟩ sv (fun ex fr s'=>(match o with| .ret oq0=>ex= .ret∧tU PP Code.c13 (VQ (.int .i64 oq0)<|Ext [] [] s) ex fr s'| .nx oq1=>ex= .exit 0∧ ∃(e:Env),fr=⟨gP e [],[]⟩∧sv=s'))
theorem mI: ∀(v1:(List aA))(x2:Int)(o:(Ctl Int Unit)),bP v1 x2=some o→iR v1 x2 o:=by
 refine bP.partial_correctness (iR) ?_;intro _f ih_evidence_Check_l0 v1 x2 o u;intro e s sv J;refine gE<|aD<|aE<|wu rfl<|aC<|aD ?_;refine aJ u rfl (fun hc u=> ?_)<|fun hc u=> ?_
 ·refine aP<|aD<|cN<|aD<|aE<|wu rfl ?_;obtain⟨y3,hy3,u⟩:=bs u;refine gJ (f:=aB) rfl (.no _) rfl hy3 rfl<|wu rfl<|wu rfl<|wu rfl<|wu rfl<|aC<|cN<|aD<|aE<|wu rfl<|wu rfl ?_;obtain⟨r4,hr4,u⟩:=bs u;refine wcD (kK hr4) rfl rfl (.cons rfl .nil)<|wu rfl<|wu rfl<|aC ?_;refine aJ u rfl (fun hc u=> ?_)<|fun hc u=> ?_
  ·refine aD<|aE<|wu rfl<|aC<|aL ?_;cases u;exact⟨rfl,⟨rfl,_,fun _=>rfl,bB rfl rfl rfl rfl J.ext⟩⟩
  ·refine aD<|aE<|wu rfl<|wu rfl<|wu rfl<|wu rfl ?_;obtain⟨c5,hc5,u⟩:=bs u;refine aO 4 [(0,(slA 3<|v1.map aB)),(3,(.int .i64 x2)),(4,(.a8 (aF y3) 0)),(8,(slA 3<|v1.map aB)),(9,(.int .i64 (v1.length:Int))),(10,(.int .i64 x2)),(28,(.bool c5))] sv ?_<|fun e=> ?_
   ·refine aQ (t:=24) rfl (fun hc=> ?_)<|fun hc=> ?_
    ·replace hc5:=bI hc hc5;refine wu rfl<|wu rfl<|wu rfl<|wu rfl<|aC ?_;cases hc5;exact Kept.mk rfl<|.cons rfl<|.cons rfl<|.cons rfl<|.cons rfl<|.cons rfl<|.cons rfl<|.cons rfl .nil
    ·replace hc5:=bH hc hc5;refine wu rfl<|wu rfl<|wu rfl<|wu rfl<|aC ?_;cases hc5;exact Kept.mk rfl<|.cons rfl<|.cons rfl<|.cons rfl<|.cons rfl<|.cons rfl<|.cons rfl<|.cons rfl .nil
   ·refine wu rfl<|aC ?_;refine aJ u rfl (fun hc u=> ?_)<|fun hc u=> ?_
    ·refine aD<|aE<|wu rfl<|aC<|aL ?_;cases u;exact⟨rfl,⟨rfl,_,fun _=>rfl,bB rfl rfl rfl rfl J.ext⟩⟩
    ·refine aD<|aE<|wu rfl<|wu rfl<|wu rfl ?_;obtain⟨c6,hc6,u⟩:=bs u;refine aO 20 [(0,(slA 3<|v1.map aB)),(8,(slA 3<|v1.map aB)),(9,(.int .i64 (v1.length:Int))),(10,(.int .i64 x2)),(52,(.bool c6))] sv ?_<|fun e=> ?_
     ·refine aQ (t:=32) rfl (fun hc=> ?_)<|fun hc=> ?_
      ·replace hc6:=bI hc hc6
       iterate 3 refine wu rfl ?_
       obtain⟨y7,hy7,hc6⟩:=bs hc6;refine gJ (f:=aB) rfl (.no _) rfl hy7 rfl<|wu rfl<|wu rfl ?_;obtain⟨r8,hr8,hc6⟩:=bs hc6;refine wcD (gL hr8) rfl rfl (.cons rfl<|.cons rfl .nil)<|wu rfl<|wu rfl<|wu rfl<|wu rfl<|wu rfl ?_;obtain⟨y9,hy9,hc6⟩:=bs hc6;refine gJ (f:=aB) rfl (.no _) rfl hy9 rfl<|wu rfl<|wu rfl ?_;obtain⟨r10,h10,hc6⟩:=bs hc6;refine wcD (mT h10) rfl rfl (.cons rfl<|.cons rfl .nil) ?_;refine rE (f:=(AV.int .i64)) (l:= [r8,r10]) rfl (.cons rfl<|.cons rfl .nil) rfl (fun _=>rfl) rfl rfl (by decide) ?_;obtain⟨r11,h11,hc6⟩:=bs hc6;refine wcD (vE h11) rfl rfl (.cons rfl .nil)<|wu rfl<|wu rfl<|aC ?_;cases hc6;exact Kept.mk rfl<|.cons rfl<|.cons rfl<|.cons rfl<|.cons rfl<|.cons rfl .nil
      ·replace hc6:=bH hc hc6
       iterate 20 refine wu rfl ?_
       refine aC ?_;cases hc6;exact Kept.mk rfl<|.cons rfl<|.cons rfl<|.cons rfl<|.cons rfl<|.cons rfl .nil
     ·refine wu rfl<|aC ?_;refine aJ u rfl (fun hc u=> ?_)<|fun hc u=> ?_
      ·refine aD<|aE<|wu rfl<|aC<|aL ?_;cases u;exact⟨rfl,⟨rfl,_,fun _=>rfl,bB rfl rfl rfl rfl J.ext⟩⟩
      ·refine aP<|aE<|wu rfl<|wu rfl<|aC ?_;exact iJ (fun e=>ih_evidence_Check_l0 _ _ _ u e s _ J) (.cons rfl<|.cons rfl<|.cons rfl<|.cons rfl .nil)<|fun _ _ _ h=>h
 ·refine j6 ?_;cases u;exact⟨rfl,_,frE .nil,rfl⟩
noncomputable def bU(v1:(List aA)):Option Int:=
 (if(decide ((v1.length:Int)>(200)))=true then some (3)
 else((bP v1 (0))>>=fun o12=>
 (match o12 with
 | .ret q13=>some q13
 | .nx q14=>some (0))))
theorem oV: ∀(v1:(List aA))(r:Int),bU v1=some r→ ∀s:ASt,Fc PP (.func 13) [(slA 3<|v1.map aB)] s (dQ s<|.int .i64 r):=by
 intro v1 r u;unfold bU at u;intro s;refine bN rfl rfl rfl ?_;have J:=St.clean s;generalize aV s=σ1 at J⊢;refine aD<|aE<|wu rfl<|aC<|aD<|aD<|aE<|wu rfl<|fS (f:=aB) (l:=v1) rfl (.no _)<|wu rfl<|aC ?_;refine aJ u rfl (fun hc u=> ?_)<|fun hc u=> ?_
 ·refine aD<|aE<|wu rfl<|aC<|aL ?_;cases u;exact⟨rfl,_,fun _=>rfl,bB rfl rfl rfl rfl J.ext⟩
 ·refine aP<|aD<|aD<|aE<|wu rfl<|fS (f:=aB) (l:=v1) rfl (.no _)<|wu rfl<|aC<|cN ?_;obtain⟨o12,h12,u⟩:=bs u;refine iJ (fun e=>mI _ _ _ h12 e s _ J) (.cons rfl<|.cons rfl<|.cons rfl<|.cons rfl .nil) ?_
  rintro _ _ _ hq
  rcases o12 with q13|q14
  ·obtain⟨rfl,hq⟩:=hq;cases u;exact hq
  ·obtain⟨rfl,e16,rfl,rfl⟩:=hq;refine aD<|aE<|wu rfl<|aC<|aL ?_;cases u;exact⟨rfl,_,fun _=>rfl,bB rfl rfl rfl rfl J.ext⟩
theorem dR{v1:(List aA)}{r:Int}(h:bU v1=some r):Pf PP 13 [(slA 3<|v1.map aB)] (.int .i64 r):=Pf.eJ (oV v1 r h _) rfl (.cons (fU<|b8 aX _) .nil)
noncomputable def cI(i1:Int)(x2:(List aA))(x3:aA):Option Bool:=
 ((idx x2 i1)>>=fun y4=>
 ((cQ y4 x3)>>=fun r5=>
 some (decide (r5≥(0)))))
theorem lI: ∀(i1:Int)(x2:(List aA))(x3:aA)(r:Bool),cI i1 x2 x3=some r→ ∀s:ASt,Fc PP (.func 41) [(.int .i64 i1),(.a8 (slA 3<|x2.map aB) 0),(.a8 (aF x3) 0)] s (dQ s<|.bool r):=by
 intro i1 x2 x3 r u;unfold cI at u;intro s;refine bN rfl rfl rfl ?_;have J:=St.clean s;generalize aV s=σ1 at J⊢;refine aD<|aE<|wu rfl<|aC<|aD<|aE<|wu rfl<|wu rfl ?_;obtain⟨y4,hy4,u⟩:=bs u;refine gJ (f:=aB) rfl (.no _) rfl hy4 rfl<|wu rfl<|wu rfl ?_;obtain⟨r5,hr5,u⟩:=bs u;refine wcD (gL hr5) rfl rfl (.cons rfl<|.cons rfl .nil)<|wu rfl<|wu rfl<|aC<|aL ?_;cases u;exact⟨rfl,_,fun _=>rfl,bB rfl rfl rfl rfl J.ext⟩
theorem lK{i1:Int}{x2:(List aA)}{x3:aA}{r:Bool}(h:cI i1 x2 x3=some r):Pf PP 41 [(.int .i64 i1),(.a8 (slA 3<|x2.map aB) 0),(.a8 (aF x3) 0)] (.bool r):=Pf.eJ (lI i1 x2 x3 r h _) rfl (.cons ⟨rfl,rfl⟩<|.cons (oU<|fU<|b8 aX _)<|.cons (oU<|bV _) .nil)
noncomputable def bG(f2:(List aA))(f3:aA)(i4:Int)(j5:Int):Option Int:=
 (if(decide (i4<j5))=true then((cI (IntKind.wrap .i64 (IntKind.wrap .u64 ((IntKind.wrap .u64 (IntKind.wrap .i64 (i4+j5))).fdiv (2^(min (Int.toNat (1)) (IntKind.bits .u64)))))) f2 f3)>>=fun r6=>
 (if(!r6)=true then bG (nf f2) (nf f3) (IntKind.wrap .i64 ((IntKind.wrap .i64 (IntKind.wrap .u64 ((IntKind.wrap .u64 (IntKind.wrap .i64 (i4+j5))).fdiv (2^(min (Int.toNat (1)) (IntKind.bits .u64))))))+(1))) (nf j5)
 else bG (nf f2) (nf f3) (nf i4) (IntKind.wrap .i64 (IntKind.wrap .u64 ((IntKind.wrap .u64 (IntKind.wrap .i64 (i4+j5))).fdiv (2^(min (Int.toNat (1)) (IntKind.bits .u64))))))))
 else some i4)
 partial_fixpoint
abbrev iT(f2:(List aA))(f3:aA)(i4:Int)(j5:Int)(o:Int):Prop:= ∀(e:Env)(s sv:ASt),St [] [] s sv [] []→Wk PP none Code.aD3 ⟨gP e [(1,(.func 41 [] [(.a8 (slA 3<|f2.map aB) 0),(.a8 (aF f3) 0)])),(5,(.int .i64 i4)),(6,(.int .i64 j5))],[]⟩ sv (fun ex fr s'=>ex= .exit 0∧ ∃(e:Env),fr=⟨gP e [(5,(.int .i64 o))],[]⟩∧St [] [] s s' [] [])
theorem mB: ∀(f2:(List aA))(f3:aA)(i4:Int)(j5:Int)(o:Int),bG f2 f3 i4 j5=some o→iT f2 f3 i4 j5 o:=by
 refine bG.partial_correctness (iT) ?_;intro _f ih_sort_Search_s0_l0 f2 f3 i4 j5 o u;intro e s sv J;refine gE<|aD<|aD<|aE<|wu rfl<|wu rfl<|wu rfl<|aC ?_;refine aJ u rfl (fun hc u=> ?_)<|fun hc u=> ?_
 ·refine aP<|cN<|aD<|aE<|wu rfl<|wu rfl<|wu rfl<|wu rfl<|wu rfl<|wu rfl<|wu rfl<|aC<|aD<|aE ?_;refine wu rfl<|wu rfl ?_;obtain⟨r6,hr6,u⟩:=bs u;refine wcC (lK hr6) rfl rfl (.cons rfl .nil) rfl<|wu rfl<|aC ?_;refine aJ u rfl (fun hc u=> ?_)<|fun hc u=> ?_
  ·refine aE<|wu rfl<|wu rfl<|wu rfl<|aC ?_;exact iJ (fun e=>ih_sort_Search_s0_l0 _ _ _ _ _ u e s _ J) (.cons rfl<|.cons rfl<|.cons rfl .nil)<|fun _ _ _ h=>h
  ·refine aE<|wu rfl<|wu rfl<|aC ?_;exact iJ (fun e=>ih_sort_Search_s0_l0 _ _ _ _ _ u e s _ J) (.cons rfl<|.cons rfl<|.cons rfl .nil)<|fun _ _ _ h=>h
 ·refine j6 ?_;cases u;exact⟨rfl,_,frE<|.cons rfl .nil,J⟩
noncomputable def fE(n1:Int)(f2:(List aA))(f3:aA):Option Int:=
 ((bG f2 f3 (0) n1)>>=fun o7=>
 some o7)
theorem oT: ∀(n1:Int)(f2:(List aA))(f3:aA)(r:Int),fE n1 f2 f3=some r→ ∀s:ASt,Fc PP (.func 40) [(.int .i64 n1),(.func 41 [] [(.a8 (slA 3<|f2.map aB) 0),(.a8 (aF f3) 0)])] s (dQ s<|.int .i64 r):=by
 intro n1 f2 f3 r u;unfold fE at u;intro s;refine bN rfl rfl rfl ?_;have J:=St.clean s;generalize aV s=σ1 at J⊢;refine aD<|aE<|wu rfl<|aC<|aD<|aE<|wu rfl<|wu rfl<|wu rfl<|aC<|aD<|cN ?_;obtain⟨o7,ho7,u⟩:=bs u;refine iJ (fun e=>mB _ _ _ _ _ ho7 e s _ J) (.cons rfl<|.cons rfl<|.cons rfl .nil) ?_
 rintro _ _ _ hq
 obtain⟨rfl,e9,rfl,J⟩:=hq;refine aD<|aE<|wu rfl<|wu rfl<|aC<|aL ?_;cases u;exact⟨rfl,_,fun _=>rfl,bB rfl rfl rfl rfl J.ext⟩
theorem oJ{n1:Int}{f2:(List aA)}{f3:aA}{r:Int}(h:fE n1 f2 f3=some r):Pf PP 40 [(.int .i64 n1),(.func 41 [] [(.a8 (slA 3<|f2.map aB) 0),(.a8 (aF f3) 0)])] (.int .i64 r):=Pf.eJ (oT n1 f2 f3 r h _) rfl (.cons ⟨rfl,rfl⟩<|.cons (aEe .nil<|.cons (oU<|fU<|b8 aX _)<|.cons (oU<|bV _) .nil) .nil)
noncomputable def cR(v1:(List aA))(x2:aA):Option Int:=
 ((fE (v1.length:Int) v1 x2)>>=fun r3=>
 some r3)
theorem pJ: ∀(v1:(List aA))(x2:aA)(r:Int),cR v1 x2=some r→ ∀s:ASt,Fc PP (.func 32) [(slA 3<|v1.map aB),(aF x2)] s (dQ s<|.int .i64 r):=by
 intro v1 x2 r u;unfold cR at u;intro s;refine bN rfl rfl rfl ?_;have J:=St.clean s;generalize aV s=σ1 at J⊢;refine aD<|aE<|wu rfl<|wu rfl<|wu rfl<|aC<|aD<|aE<|wu rfl<|fS (f:=aB) (l:=v1) rfl (.no _)<|wu rfl ?_;obtain⟨r3,hr3,u⟩:=bs u;refine wcD (oJ hr3) rfl rfl (.cons rfl<|.cons rfl .nil)<|wu rfl<|aC<|aL ?_;cases u;exact⟨rfl,_,fun _=>rfl,bB rfl rfl rfl rfl J.ext⟩
theorem gI{v1:(List aA)}{x2:aA}{r:Int}(h:cR v1 x2=some r):Pf PP 32 [(slA 3<|v1.map aB),(aF x2)] (.int .i64 r):=Pf.eJ (pJ v1 x2 r h _) rfl (.cons (fU<|b8 aX _)<|.cons (bV _) .nil)
noncomputable def dB(v1:(List aA))(e2:Str)(instance3:Int):Option (aA×Bool):=
 ((cR v1 (aA.mk e2 instance3 (0)))>>=fun r6=>
 ((if(r6==(v1.length:Int))=true then some true
 else((idx v1 r6)>>=fun y8=>
 ((cQ y8 (aA.mk e2 instance3 (0)))>>=fun r9=>
 some (r9 !=(0)))):Option Bool)>>=fun c7=>
 (if c7=true then some ((aA.mk ((aA.mk ([]:Str) (0) (0)).effect) ((aA.mk ([]:Str) (0) (0)).instance_) ((aA.mk ([]:Str) (0) (0)).marker)),false)
 else((idx v1 r6)>>=fun y11=>
 some (y11,true)))))
theorem pH: ∀(v1:(List aA))(e2:Str)(instance3:Int)(r:(aA×Bool)),dB v1 e2 instance3=some r→ ∀s:ASt,Fc PP (.func 23) [(slA 3<|v1.map aB),(.str e2),(.int .i64 instance3)] s (dQ s<|.tuple [(aF r.1),(.bool r.2)]):=by
 intro v1 e2 instance3 r u;unfold dB at u;intro s;refine bN rfl rfl rfl ?_;have J:=St.clean s;generalize aV s=σ1 at J⊢;refine aD<|aE ?_;refine tA rfl J rfl<|fun β4 σ5 J=> ?_;refine wu rfl<|aC<|aD<|aE<|wu rfl<|wu rfl ?_;refine wgv (v:=(aF<|aA.mk e2 instance3<|0)) rfl rfl (by kernel_rfl) ?_;refine wu rfl<|wu rfl<|aC<|aD<|aE<|wu rfl<|wu rfl ?_;obtain⟨r6,hr6,u⟩:=bs u;refine wcD (gI hr6) rfl rfl (.cons rfl<|.cons rfl .nil)<|wu rfl<|aC<|aD<|aD<|aE<|wu rfl<|wu rfl<|fS (f:=aB) (l:=v1) rfl (.no _)<|wu rfl<|wu rfl ?_;obtain⟨c7,hc7,u⟩:=bs u;refine aO 8 [(0,(slA 3<|v1.map aB)),(6,(.ptr β4 0)),(9,(.int .i64 r6)),(28,(.bool c7))] σ5 ?_<|fun e=> ?_
 ·refine aQ (t:=20) rfl (fun hc=> ?_)<|fun hc=> ?_
  ·replace hc7:=bI hc hc7;refine wu rfl<|wu rfl<|wu rfl<|wu rfl<|wu rfl<|wu rfl<|wu rfl<|wu rfl<|aC ?_;cases hc7;exact Kept.mk rfl<|.cons rfl<|.cons rfl<|.cons rfl<|.cons rfl .nil
  ·replace hc7:=bH hc hc7;refine wu rfl<|wu rfl ?_;obtain⟨y8,hy8,hc7⟩:=bs hc7;refine gJ (f:=aB) rfl (.no _) rfl hy8 rfl<|wu rfl<|wu rfl ?_;obtain⟨r9,hr9,hc7⟩:=bs hc7;refine wcD (gL hr9) rfl rfl (.cons rfl<|.cons rfl .nil)<|wu rfl<|wu rfl<|aC ?_;cases hc7;exact Kept.mk rfl<|.cons rfl<|.cons rfl<|.cons rfl<|.cons rfl .nil
 ·refine aC ?_;refine aJ u rfl (fun hc u=> ?_)<|fun hc u=> ?_
  ·refine aD<|aE ?_;refine wgv (v:=(aF<|aA.mk ([]:Str) (0)<|0)) rfl rfl (by kernel_rfl) ?_;refine kT (ds':= [(.str (aA.mk ([]:Str) (0)<|0).effect),(.int .i64 (aA.mk ([]:Str) (0)<|0).instance_),(.int .i64 (aA.mk ([]:Str) (0)<|0).marker)]) (cs':= [(.str (aA.mk ([]:Str) (0)<|0).effect),(.int .i64 (aA.mk ([]:Str) (0)<|0).instance_),(.int .i64 (aA.mk ([]:Str) (0)<|0).marker)]) 0 rfl J rfl rfl rfl rfl rfl (Nat.le_of_ble_eq_true rfl) (.cons (tkN rfl)<|.cons (tkN rfl)<|.cons (tkN rfl) .nil) (by kernel_rfl)<|fun σ10 J=> ?_;refine wu rfl<|aC<|aL ?_;cases u;exact⟨rfl,_,fun _=>rfl,kD (rP.eq<|.cons (m9 (us:= [(.str (aA.mk ([]:Str) (0)<|0).effect),(.int .i64 (aA.mk ([]:Str) (0)<|0).instance_),(.int .i64 (aA.mk ([]:Str) (0)<|0).marker)]) J 0 rfl rfl (Nat.le_of_ble_eq_true rfl) rfl<|.cons rfl<|.cons rfl<|.cons rfl .nil)<|.cons rfl .nil) (.cons rfl<|.cons rfl .nil) J.ext⟩
  ·refine aP<|aD<|aE<|wu rfl<|wu rfl ?_;obtain⟨y11,h11,u⟩:=bs u;refine gJ (f:=aB) rfl (.no _) rfl h11 rfl<|wu rfl ?_;refine kT (ds':= [(.str y11.effect),(.int .i64 y11.instance_),(.int .i64 y11.marker)]) (cs':= [(.str y11.effect),(.int .i64 y11.instance_),(.int .i64 y11.marker)]) 0 rfl J rfl rfl rfl rfl rfl (Nat.le_of_ble_eq_true rfl) (.cons (tkN rfl)<|.cons (tkN rfl)<|.cons (tkN rfl) .nil) (by kernel_rfl)<|fun σ12 J=> ?_;refine wu rfl<|aC<|aL ?_;cases u;exact⟨rfl,_,fun _=>rfl,kD (rP.eq<|.cons (m9 (us:= [(.str y11.effect),(.int .i64 y11.instance_),(.int .i64 y11.marker)]) J 0 rfl rfl (Nat.le_of_ble_eq_true rfl) rfl<|.cons rfl<|.cons rfl<|.cons rfl .nil)<|.cons rfl .nil) (.cons rfl<|.cons rfl .nil) J.ext⟩
theorem jZ{v1:(List aA)}{e2:Str}{instance3:Int}{r:(aA×Bool)}(h:dB v1 e2 instance3=some r):Pf PP 23 [(slA 3<|v1.map aB),(.str e2),(.int .i64 instance3)] (.tuple [(aF r.1),(.bool r.2)]):=Pf.eJ (pH v1 e2 instance3 r h _) (vX<|.cons (bV _).2<|.cons rfl<|.nil) (.cons (fU<|b8 aX _)<|.cons ⟨rfl,rfl⟩<|.cons ⟨rfl,rfl⟩ .nil)
noncomputable def cZ(v1:(List aA))(e2:Str)(instance3:Int):Option (aA×Int):=
 ((bU v1)>>=fun r6=>
 (if(r6 !=(0))=true then some ((aA.mk ((aA.mk ([]:Str) (0) (0)).effect) ((aA.mk ([]:Str) (0) (0)).instance_) ((aA.mk ([]:Str) (0) (0)).marker)),r6)
 else((dB v1 e2 instance3)>>=fun r8=>
 (if(!r8.2)=true then some ((aA.mk ((aA.mk ([]:Str) (0) (0)).effect) ((aA.mk ([]:Str) (0) (0)).instance_) ((aA.mk ([]:Str) (0) (0)).marker)),(6))
 else some ((aA.mk r8.1.effect r8.1.instance_ r8.1.marker),(0))))))
theorem qC: ∀(v1:(List aA))(e2:Str)(instance3:Int)(r:(aA×Int)),cZ v1 e2 instance3=some r→ ∀s:ASt,Fc PP (.func 11) [(slA 3<|v1.map aB),(.str e2),(.int .i64 instance3)] s (dQ s<|.tuple [(aF r.1),(.int .i64 r.2)]):=by
 intro v1 e2 instance3 r u;unfold cZ at u;intro s;refine bN rfl rfl rfl ?_;have J:=St.clean s;generalize aV s=σ1 at J⊢;refine aD<|aE ?_;refine tA rfl J rfl<|fun β4 σ5 J=> ?_;refine wu rfl<|aC<|aD<|aD<|aE<|wu rfl ?_;obtain⟨r6,hr6,u⟩:=bs u;refine wcD (dR hr6) rfl rfl (.cons rfl .nil)<|wu rfl<|aC<|aD<|aE<|wu rfl<|wu rfl<|aC ?_;refine aJ u rfl (fun hc u=> ?_)<|fun hc u=> ?_
 ·refine aD<|aE ?_;refine wgv (v:=(aF<|aA.mk ([]:Str) (0)<|0)) rfl rfl (by kernel_rfl) ?_;refine wu rfl ?_;refine kT (ds':= [(.str (aA.mk ([]:Str) (0)<|0).effect),(.int .i64 (aA.mk ([]:Str) (0)<|0).instance_),(.int .i64 (aA.mk ([]:Str) (0)<|0).marker)]) (cs':= [(.str (aA.mk ([]:Str) (0)<|0).effect),(.int .i64 (aA.mk ([]:Str) (0)<|0).instance_),(.int .i64 (aA.mk ([]:Str) (0)<|0).marker)]) 0 rfl J rfl rfl rfl rfl rfl (Nat.le_of_ble_eq_true rfl) (.cons (tkN rfl)<|.cons (tkN rfl)<|.cons (tkN rfl) .nil) (by kernel_rfl)<|fun σ7 J=> ?_;refine wu rfl<|aC<|aL ?_;cases u;exact⟨rfl,_,fun _=>rfl,kD (rP.eq<|.cons (m9 (us:= [(.str (aA.mk ([]:Str) (0)<|0).effect),(.int .i64 (aA.mk ([]:Str) (0)<|0).instance_),(.int .i64 (aA.mk ([]:Str) (0)<|0).marker)]) J 0 rfl rfl (Nat.le_of_ble_eq_true rfl) rfl<|.cons rfl<|.cons rfl<|.cons rfl .nil)<|.cons rfl .nil) (.cons rfl<|.cons rfl .nil) J.ext⟩
 ·refine aP<|aD<|aE<|wu rfl<|wu rfl<|wu rfl ?_;obtain⟨r8,hr8,u⟩:=bs u;refine wcD (jZ hr8) rfl rfl (.cons rfl<|.cons rfl<|.cons rfl .nil)<|wu rfl<|wu rfl<|wu rfl<|wu rfl<|wu rfl<|wu rfl<|aC<|aD<|aD<|aE<|wu rfl<|wu rfl<|aC ?_;refine aJ u rfl (fun hc u=> ?_)<|fun hc u=> ?_
  ·refine aD<|aE ?_;refine wgv (v:=(aF<|aA.mk ([]:Str) (0)<|0)) rfl rfl (by kernel_rfl) ?_;refine kT (ds':= [(.str (aA.mk ([]:Str) (0)<|0).effect),(.int .i64 (aA.mk ([]:Str) (0)<|0).instance_),(.int .i64 (aA.mk ([]:Str) (0)<|0).marker)]) (cs':= [(.str (aA.mk ([]:Str) (0)<|0).effect),(.int .i64 (aA.mk ([]:Str) (0)<|0).instance_),(.int .i64 (aA.mk ([]:Str) (0)<|0).marker)]) 0 rfl J rfl rfl rfl rfl rfl (Nat.le_of_ble_eq_true rfl) (.cons (tkN rfl)<|.cons (tkN rfl)<|.cons (tkN rfl) .nil) (by kernel_rfl)<|fun σ9 J=> ?_;refine wu rfl<|aC<|aL ?_;cases u;exact⟨rfl,_,fun _=>rfl,kD (rP.eq<|.cons (m9 (us:= [(.str (aA.mk ([]:Str) (0)<|0).effect),(.int .i64 (aA.mk ([]:Str) (0)<|0).instance_),(.int .i64 (aA.mk ([]:Str) (0)<|0).marker)]) J 0 rfl rfl (Nat.le_of_ble_eq_true rfl) rfl<|.cons rfl<|.cons rfl<|.cons rfl .nil)<|.cons rfl .nil) (.cons rfl<|.cons rfl .nil) J.ext⟩
  ·refine aP<|aD<|aE<|wu rfl ?_;refine kT (ds':= [(.str r8.1.effect),(.int .i64 r8.1.instance_),(.int .i64 r8.1.marker)]) (cs':= [(.str r8.1.effect),(.int .i64 r8.1.instance_),(.int .i64 r8.1.marker)]) 0 rfl J rfl rfl rfl rfl rfl (Nat.le_of_ble_eq_true rfl) (.cons (tkN rfl)<|.cons (tkN rfl)<|.cons (tkN rfl) .nil) (by kernel_rfl)<|fun σ10 J=> ?_;refine wu rfl<|aC<|aL ?_;cases u;exact⟨rfl,_,fun _=>rfl,kD (rP.eq<|.cons (m9 (us:= [(.str r8.1.effect),(.int .i64 r8.1.instance_),(.int .i64 r8.1.marker)]) J 0 rfl rfl (Nat.le_of_ble_eq_true rfl) rfl<|.cons rfl<|.cons rfl<|.cons rfl .nil)<|.cons rfl .nil) (.cons rfl<|.cons rfl .nil) J.ext⟩
theorem hZ{v1:(List aA)}{e2:Str}{instance3:Int}{r:(aA×Int)}(h:cZ v1 e2 instance3=some r):Pf PP 11 [(slA 3<|v1.map aB),(.str e2),(.int .i64 instance3)] (.tuple [(aF r.1),(.int .i64 r.2)]):=Pf.eJ (qC v1 e2 instance3 r h _) (vX<|.cons (bV _).2<|.cons rfl<|.nil) (.cons (fU<|b8 aX _)<|.cons ⟨rfl,rfl⟩<|.cons ⟨rfl,rfl⟩ .nil)
theorem sz3(xs:List AV):(Nat.beq (szC 3 xs) 3||xs.isEmpty)=true:=by cases xs<;>rfl
noncomputable def dL(v1:List aA)(x2:aA):Option (List aA):=
 match cR v1 x2 with
 |some i=>if 0≤i∧i.toNat≤v1.length∧v1.length≤1048576 then some (v1.take i.toNat++x2::v1.drop i.toNat) else none
 |none=>none
theorem mW{v1:List aA}{x2:aA}{r:List aA}(h:dL v1 x2=some r):Pf PP 18 [(slA 3<|v1.map aB),(aF x2)] (slA 3<|r.map aB):=by
 unfold dL at h;split at h
 ·rename_i i hi;split at h
  ·rename_i hc;cases h;obtain⟨c1,c2,c3⟩:=hc;have hp:=gI hi;refine⟨?_,pQ aX _,hp.can⟩;obtain⟨⟨q,s2⟩,N,⟨v0,h1,h2⟩,h3⟩:=hp.ev.out;simp only at h1;subst h1;refine Ev.run (n:=N+1) (r:=(.ret<|slA 3<|(v1.take i.toNat++x2::v1.drop i.toNat).map aB,dE)) ?_ ⟨_,rfl,(Sl.no _).gZ⟩;show eU (cC PP N) yG [(slA 3<|v1.map aB),(aF x2)] dE=_;have e1:bZ (cC PP N) [(32,[(slA 3<|v1.map aB),(aF x2)])]=some [.int .i64 i]:=by
    simp only [bZ,hp.can.pure,h3 N<|Nat.le_refl _,h2]
    rfl
   have e2:yG.fin [(slA 3<|v1.map aB),(aF x2)] [.int .i64 i]=some (slA 3<|(v1.take i.toNat++x2::v1.drop i.toNat).map aB):=by
    have hq:((Nat.beq (szC 3<|v1.map aB) 3||(v1.map aB).isEmpty)&&decide (0≤i)&&Nat.ble i.toNat (v1.map aB).length&&Nat.ble (v1.map aB).length 1048576)=true:=by
     rw [sz3,List.length_map];simp only [Bool.true_and,Bool.and_eq_true,decide_eq_true_eq];exact⟨⟨c1,Nat.ble_eq_true_of_le c2⟩,Nat.ble_eq_true_of_le c3⟩
    simp only [yG,slA,hq];simp only [List.map_append,List.map_cons,List.map_take,List.map_drop]
   unfold eU;simp only [hp.can.pure];have e3:yG.calls [(slA 3<|v1.map aB),(aF x2)]=some [(32,[(slA 3<|v1.map aB),(aF x2)])]:=rfl;simp only [e3,e1,e2,pQ aX]
  ·cases h
 ·cases h
noncomputable def cJ(v1:(List aA))(x2:aA):Option ((List aA)×Int):=
 ((bU v1)>>=fun r3=>
 (if(r3 !=(0))=true then some (([]:(List aA)),r3)
 else((dL v1 x2)>>=fun r4=>
 ((bU r4)>>=fun r5=>
 (if(r5 !=(0))=true then some (([]:(List aA)),r5)
 else some (r4,(0)))))))
theorem oI: ∀(v1:(List aA))(x2:aA)(r:((List aA)×Int)),cJ v1 x2=some r→ ∀s:ASt,Fc PP (.func 7) [(slA 3<|v1.map aB),(aF x2)] s (dQ s<|.tuple [(slA 3<|r.1.map aB),(.int .i64 r.2)]):=by
 intro v1 x2 r u;unfold cJ at u;intro s;refine bN rfl rfl rfl ?_;have J:=St.clean s;generalize aV s=σ1 at J⊢;refine aD<|aE<|wu rfl<|wu rfl<|wu rfl<|aC<|aD<|aD<|aE<|wu rfl ?_;obtain⟨r3,hr3,u⟩:=bs u;refine wcD (dR hr3) rfl rfl (.cons rfl .nil)<|wu rfl<|aC<|aD<|aE<|wu rfl<|wu rfl<|aC ?_;refine aJ u rfl (fun hc u=> ?_)<|fun hc u=> ?_
 ·refine aD<|aE<|wu rfl<|wu rfl<|wu rfl<|aC<|aL ?_;cases u;exact⟨rfl,_,fun _=>rfl,kD rfl (.cons rfl<|.cons rfl .nil) J.ext⟩
 ·refine aP<|aD<|aE<|wu rfl<|wu rfl ?_;obtain⟨r4,hr4,u⟩:=bs u;refine wcD (mW hr4) rfl rfl (.cons rfl<|.cons rfl .nil)<|wu rfl<|aC<|aD<|aD<|aE<|wu rfl ?_;obtain⟨r5,hr5,u⟩:=bs u;refine wcD (dR hr5) rfl rfl (.cons rfl .nil)<|wu rfl<|aC<|aD<|aE<|wu rfl<|wu rfl<|aC ?_;refine aJ u rfl (fun hc u=> ?_)<|fun hc u=> ?_
  ·refine aD<|aE<|wu rfl<|wu rfl<|wu rfl<|aC<|aL ?_;cases u;exact⟨rfl,_,fun _=>rfl,kD rfl (.cons rfl<|.cons rfl .nil) J.ext⟩
  ·refine aP<|aD<|aE<|wu rfl<|wu rfl<|wu rfl<|aC<|aL ?_;cases u;exact⟨rfl,_,fun _=>rfl,kD rfl (.cons rfl<|.cons rfl .nil) J.ext⟩
theorem fT{v1:(List aA)}{x2:aA}{r:((List aA)×Int)}(h:cJ v1 x2=some r):Pf PP 7 [(slA 3<|v1.map aB),(aF x2)] (.tuple [(slA 3<|r.1.map aB),(.int .i64 r.2)]):=Pf.eJ (oI v1 x2 r h _) (vX<|.cons (pQ aX _)<|.cons rfl<|.nil) (.cons (fU<|b8 aX _)<|.cons (bV _) .nil)
noncomputable def eF(v1:List aA)(e2:Str):Option (List aA):=
 match dB v1 e2 0,cR v1 {effect:=e2,instance_:=0,marker:=0} with
 |some (_,is),some i=>if v1.length≤1048576 then(match is with|false=>some v1|true=>if 0≤i∧i.toNat<v1.length then some (v1.take i.toNat++v1.drop (i.toNat+1)) else none) else none
 |_,_=>none
theorem nN{v1:List aA}{effect2:Str}{r:List aA}(h:eF v1 effect2=some r):Pf PP 21 [(slA 3<|v1.map aB),(.str effect2)] (slA 3<|r.map aB):=by
 unfold eF at h;split at h
 ·rename_i xe is i hf hi;split at h
  ·rename_i c3;have hp:=jZ hf;have hq:=gI hi;have hcan:uB [(slA 3<|v1.map aB),(.str effect2)]:= .cons (fU<|b8 aX _) (.cons (aDz _) .nil);refine⟨?_,pQ aX _,hcan⟩;obtain⟨⟨q,s2⟩,N,⟨v0,h1,h2⟩,h3⟩:=hp.ev.out;obtain⟨⟨q',s2'⟩,N',⟨v0',h1',h2'⟩,h3'⟩:=hq.ev.out;simp only at h1 h1';subst h1;subst h1';refine Ev.run (n:=max N N'+1) (r:=(.ret<|slA 3<|r.map aB,dE)) ?_ ⟨_,rfl,(Sl.no _).gZ⟩;show eU (cC PP<|max N N') wT [(slA 3<|v1.map aB),(.str effect2)] dE=_;have e1:bZ (cC PP<|max N N') [(23,[(slA 3<|v1.map aB),(.str effect2),(.int .i64 0)]),(32,[(slA 3<|v1.map aB),(aF {effect:=effect2,instance_:=0,marker:=0})])]=some [.tuple [(aF xe),(.bool is)],.int .i64 i]:=by
    have p1:bE (AV.tuple [(aF xe),(.bool is)])=true:=hp.pure;simp only [bZ,hp.can.pure,hq.can.pure,h3 _<|Nat.le_max_left _ _,h3' _<|Nat.le_max_right _ _,h2,h2',p1]
    rfl
   have hk:((Nat.beq (szC 3<|v1.map aB) 3||(v1.map aB).isEmpty)&&Nat.ble (v1.map aB).length 1048576)=true:=by
    rw [sz3,List.length_map];exact Nat.ble_eq_true_of_le c3
   have e2:wT.fin [(slA 3<|v1.map aB),(.str effect2)] [.tuple [(aF xe),(.bool is)],.int .i64 i]=some (slA 3<|r.map aB):=by
    cases is with
    |false=>
     cases h;simp only [wT,slA,hk]
    |true=>
     simp only at h;split at h
     ·rename_i hc;cases h;have hw:(decide (0≤i)&&Nat.blt i.toNat (v1.map aB).length)=true:=by
       rw [List.length_map];simp only [Bool.and_eq_true,decide_eq_true_eq];exact⟨hc.1,Nat.ble_eq_true_of_le hc.2⟩
      simp only [wT,slA,hk,hw];simp only [List.map_append,List.map_take,List.map_drop]
     ·cases h
   unfold eU;simp only [hcan.pure];have e3:wT.calls [(slA 3<|v1.map aB),(.str effect2)]=some [(23,[(slA 3<|v1.map aB),(.str effect2),(.int .i64 0)]),(32,[(slA 3<|v1.map aB),(aF {effect:=effect2,instance_:=0,marker:=0})])]:=rfl;simp only [e3,e1,e2,pQ aX]
  ·cases h
 ·cases h
noncomputable def bW(v1:(List aA))(e2:Str):Option ((List aA)×Int):=
 ((bU v1)>>=fun r3=>
 ((if(r3==(0))=true then((dW e2)>>=fun r5=>
 some (!r5))
 else some false:Option Bool)>>=fun c4=>
 (((if c4=true then some (4)
 else some r3):Option Int)>>=fun o6=>
 (if(o6 !=(0))=true then some (([]:(List aA)),o6)
 else((eF v1 e2)>>=fun r9=>
 some (r9,(0)))))))
theorem oG: ∀(v1:(List aA))(e2:Str)(r:((List aA)×Int)),bW v1 e2=some r→ ∀s:ASt,Fc PP (.func 9) [(slA 3<|v1.map aB),(.str e2)] s (dQ s<|.tuple [(slA 3<|r.1.map aB),(.int .i64 r.2)]):=by
 intro v1 e2 r u;unfold bW at u;intro s;refine bN rfl rfl rfl ?_;have J:=St.clean s;generalize aV s=σ1 at J⊢;refine aD<|aE<|wu rfl<|wu rfl<|aC<|aD<|aE<|wu rfl ?_;obtain⟨r3,hr3,u⟩:=bs u;refine wcD (dR hr3) rfl rfl (.cons rfl .nil)<|wu rfl<|aC<|aD<|aD<|aE<|wu rfl<|wu rfl<|wu rfl ?_;obtain⟨c4,hc4,u⟩:=bs u;refine aO 4 [(0,(slA 3<|v1.map aB)),(1,(.str e2)),(6,(.int .i64 r3)),(15,(.bool c4))] σ1 ?_<|fun e=> ?_
 ·refine aQ (t:=11) rfl (fun hc=> ?_)<|fun hc=> ?_
  ·replace hc4:=bI hc hc4;refine wu rfl ?_;obtain⟨r5,hr5,hc4⟩:=bs hc4;refine wcD (kK hr5) rfl rfl (.cons rfl .nil)<|wu rfl<|wu rfl<|aC ?_;cases hc4;exact Kept.mk rfl<|.cons rfl<|.cons rfl<|.cons rfl<|.cons rfl .nil
  ·replace hc4:=bH hc hc4;refine wu rfl<|wu rfl<|wu rfl<|wu rfl<|aC ?_;cases hc4;exact Kept.mk rfl<|.cons rfl<|.cons rfl<|.cons rfl<|.cons rfl .nil
 ·refine aC ?_;obtain⟨o6,ho6,u⟩:=bs u;refine Wk.mono (Q:=fun ex fr s'=>ex= .normal∧ ∃(e:Env),fr=⟨gP e [(0,(slA 3<|v1.map aB)),(1,(.str e2)),(6,(.int .i64 o6))],[]⟩∧σ1=s') ?_ ?_
  ·refine aJ ho6 rfl (fun hc ho6=> ?_)<|fun hc ho6=> ?_
   ·refine aE<|wu rfl<|aC ?_;cases ho6;exact⟨rfl,_,frE<|.cons rfl<|.cons rfl<|.cons rfl .nil,rfl⟩
   ·refine aP ?_;cases ho6;exact⟨rfl,_,frE<|.cons rfl<|.cons rfl<|.cons rfl .nil,rfl⟩
  ·rintro _ _ _ hq
   obtain⟨rfl,e8,rfl,rfl⟩:=hq;refine aD<|aD<|aE<|wu rfl<|wu rfl<|aC ?_;refine aJ u rfl (fun hc u=> ?_)<|fun hc u=> ?_
   ·refine aD<|aE<|wu rfl<|wu rfl<|wu rfl<|aC<|aL ?_;cases u;exact⟨rfl,_,fun _=>rfl,kD rfl (.cons rfl<|.cons rfl .nil) J.ext⟩
   ·refine aP<|aD<|aE<|wu rfl<|wu rfl ?_;obtain⟨r9,hr9,u⟩:=bs u;refine wcD (nN hr9) rfl rfl (.cons rfl<|.cons rfl .nil)<|wu rfl<|wu rfl<|aC<|aL ?_;cases u;exact⟨rfl,_,fun _=>rfl,kD rfl (.cons rfl<|.cons rfl .nil) J.ext⟩
theorem fW{v1:(List aA)}{e2:Str}{r:((List aA)×Int)}(h:bW v1 e2=some r):Pf PP 9 [(slA 3<|v1.map aB),(.str e2)] (.tuple [(slA 3<|r.1.map aB),(.int .i64 r.2)]):=Pf.eJ (oG v1 e2 r h _) (vX<|.cons (pQ aX _)<|.cons rfl<|.nil) (.cons (fU<|b8 aX _)<|.cons ⟨rfl,rfl⟩ .nil)
noncomputable def rU(n1:Int)(l2:Int)(hi3:Int):Option Bool:=
 ((if(decide (l2≤n1))=true then some (decide (n1≤hi3))
 else some false:Option Bool)>>=fun c4=>
 some c4)
theorem aBB: ∀(n1:Int)(l2:Int)(hi3:Int)(r:Bool),rU n1 l2 hi3=some r→ ∀s:ASt,Fc PP (.func 37) [(.int .i64 n1),(.int .i64 l2),(.int .i64 hi3)] s (dQ s<|.bool r):=by
 intro n1 l2 hi3 r u;unfold rU at u;intro s;refine bN rfl rfl rfl ?_;have J:=St.clean s;generalize aV s=σ1 at J⊢;refine aD<|aE<|wu rfl<|aC<|aD<|aE<|wu rfl<|wu rfl<|wu rfl<|wu rfl ?_;obtain⟨c4,hc4,u⟩:=bs u;refine aO 4 [(14,(.bool c4))] σ1 ?_<|fun e=> ?_
 ·refine aQ (t:=10) rfl (fun hc=> ?_)<|fun hc=> ?_
  ·replace hc4:=bI hc hc4;refine wu rfl<|wu rfl<|wu rfl<|wu rfl<|aC ?_;cases hc4;exact Kept.mk rfl<|.cons rfl .nil
  ·replace hc4:=bH hc hc4;refine wu rfl<|wu rfl<|wu rfl<|wu rfl<|aC ?_;cases hc4;exact Kept.mk rfl<|.cons rfl .nil
 ·refine wu rfl<|aC<|aL ?_;cases u;exact⟨rfl,_,fun _=>rfl,bB rfl rfl rfl rfl J.ext⟩
theorem aBv{n1:Int}{l2:Int}{hi3:Int}{r:Bool}(h:rU n1 l2 hi3=some r):Pf PP 37 [(.int .i64 n1),(.int .i64 l2),(.int .i64 hi3)] (.bool r):=Pf.eJ (aBB n1 l2 hi3 r h _) rfl (.cons ⟨rfl,rfl⟩<|.cons ⟨rfl,rfl⟩<|.cons ⟨rfl,rfl⟩ .nil)
noncomputable def eP(s1:Str)(i13:Int):Option (Ctl Bool Unit):=
 (if(decide (i13<(s1.length:Int)))=true then((idx s1 i13)>>=fun b14=>
 ((if(decide ((b14.toNat:Int)≥(97)))=true then some (decide ((b14.toNat:Int)≤(122)))
 else some false:Option Bool)>>=fun c15=>
 ((if c15=true then some true
 else((if(decide ((b14.toNat:Int)≥(65)))=true then some (decide ((b14.toNat:Int)≤(90)))
 else some false:Option Bool)>>=fun c17=>
 some c17):Option Bool)>>=fun c16=>
 ((if c16=true then some true
 else((if(decide ((b14.toNat:Int)≥(48)))=true then some (decide ((b14.toNat:Int)≤(57)))
 else some false:Option Bool)>>=fun c19=>
 some c19):Option Bool)>>=fun c18=>
 ((if c18=true then some true
 else some ((b14.toNat:Int)==(95)):Option Bool)>>=fun c20=>
 (if(!c20)=true then some (.ret false)
 else eP (nf s1) (IntKind.wrap .i64 (i13+(1)))))))))
 else some (.nx ()))
 partial_fixpoint
abbrev nY(s1:Str)(i13:Int)(o:(Ctl Bool Unit)):Prop:= ∀(e:Env)(s sv:ASt),St [] [] s sv [] []→Wk PP none Code.aD6 ⟨gP e [(0,(.str s1)),(9,(.int .i64 i13))],[]⟩ sv (fun ex fr s'=>(match o with| .ret oq0=>ex= .ret∧tU PP Code.c29 (VQ (.bool oq0)<|Ext [] [] s) ex fr s'| .nx oq1=>ex= .exit 0∧ ∃(e:Env),fr=⟨gP e [],[]⟩∧sv=s'))
theorem tG: ∀(s1:Str)(i13:Int)(o:(Ctl Bool Unit)),eP s1 i13=some o→nY s1 i13 o:=by
 refine eP.partial_correctness (nY) ?_;intro _f ih_r01_word_l0 s1 i13 o u;intro e s sv J;refine gE<|aD<|aD<|aE<|wu rfl<|wu rfl<|wu rfl<|wu rfl<|aC ?_;refine aJ u rfl (fun hc u=> ?_)<|fun hc u=> ?_
 ·refine aP<|aD<|cN<|aD<|aE<|wu rfl<|wu rfl ?_;obtain⟨b14,h14,u⟩:=bs u;refine xM rfl rfl rfl h14 ?_;refine wu rfl<|aC<|aD<|aE<|wu rfl<|wu rfl<|wu rfl ?_;obtain⟨c15,h15,u⟩:=bs u;refine aO 3 [(0,(.str s1)),(9,(.int .i64 i13)),(10,(.int .u8 (b14.toNat:Int))),(50,(.bool c15))] sv ?_<|fun e=> ?_
  ·refine aQ (t:=47) rfl (fun hc=> ?_)<|fun hc=> ?_
   ·replace h15:=bI hc h15;refine wu rfl<|wu rfl<|wu rfl<|aC ?_;cases h15;exact Kept.mk rfl<|.cons rfl<|.cons rfl<|.cons rfl<|.cons rfl .nil
   ·replace h15:=bH hc h15;refine wu rfl<|wu rfl<|wu rfl<|aC ?_;cases h15;exact Kept.mk rfl<|.cons rfl<|.cons rfl<|.cons rfl<|.cons rfl .nil
  ·refine wu rfl ?_;obtain⟨c16,h16,u⟩:=bs u;refine aO 7 [(0,(.str s1)),(9,(.int .i64 i13)),(10,(.int .u8 (b14.toNat:Int))),(58,(.bool c16))] sv ?_<|fun e=> ?_
   ·refine aQ (t:=51) rfl (fun hc=> ?_)<|fun hc=> ?_
    ·replace h16:=bI hc h16;refine wu rfl<|wu rfl<|wu rfl<|wu rfl<|wu rfl<|wu rfl<|wu rfl<|aC ?_;cases h16;exact Kept.mk rfl<|.cons rfl<|.cons rfl<|.cons rfl<|.cons rfl .nil
    ·replace h16:=bH hc h16
     iterate 3 refine wu rfl ?_
     obtain⟨c17,h17,h16⟩:=bs h16;refine aO 3 [(0,(.str s1)),(9,(.int .i64 i13)),(10,(.int .u8 (b14.toNat:Int))),(51,(.bool false)),(57,(.bool c17))] sv ?_<|fun e=> ?_
     ·refine aQ (t:=54) rfl (fun hc=> ?_)<|fun hc=> ?_
      ·replace h17:=bI hc h17;refine wu rfl<|wu rfl<|wu rfl<|aC ?_;cases h17;exact Kept.mk rfl<|.cons rfl<|.cons rfl<|.cons rfl<|.cons rfl<|.cons rfl .nil
      ·replace h17:=bH hc h17;refine wu rfl<|wu rfl<|wu rfl<|aC ?_;cases h17;exact Kept.mk rfl<|.cons rfl<|.cons rfl<|.cons rfl<|.cons rfl<|.cons rfl .nil
     ·refine wu rfl<|aC ?_;cases h16;exact Kept.mk rfl<|.cons rfl<|.cons rfl<|.cons rfl<|.cons rfl .nil
   ·refine wu rfl ?_;obtain⟨c18,h18,u⟩:=bs u;refine aO 7 [(0,(.str s1)),(9,(.int .i64 i13)),(10,(.int .u8 (b14.toNat:Int))),(66,(.bool c18))] sv ?_<|fun e=> ?_
    ·refine aQ (t:=59) rfl (fun hc=> ?_)<|fun hc=> ?_
     ·replace h18:=bI hc h18;refine wu rfl<|wu rfl<|wu rfl<|wu rfl<|wu rfl<|wu rfl<|wu rfl<|aC ?_;cases h18;exact Kept.mk rfl<|.cons rfl<|.cons rfl<|.cons rfl<|.cons rfl .nil
     ·replace h18:=bH hc h18
      iterate 3 refine wu rfl ?_
      obtain⟨c19,h19,h18⟩:=bs h18;refine aO 3 [(0,(.str s1)),(9,(.int .i64 i13)),(10,(.int .u8 (b14.toNat:Int))),(59,(.bool false)),(65,(.bool c19))] sv ?_<|fun e=> ?_
      ·refine aQ (t:=62) rfl (fun hc=> ?_)<|fun hc=> ?_
       ·replace h19:=bI hc h19;refine wu rfl<|wu rfl<|wu rfl<|aC ?_;cases h19;exact Kept.mk rfl<|.cons rfl<|.cons rfl<|.cons rfl<|.cons rfl<|.cons rfl .nil
       ·replace h19:=bH hc h19;refine wu rfl<|wu rfl<|wu rfl<|aC ?_;cases h19;exact Kept.mk rfl<|.cons rfl<|.cons rfl<|.cons rfl<|.cons rfl<|.cons rfl .nil
      ·refine wu rfl<|aC ?_;cases h18;exact Kept.mk rfl<|.cons rfl<|.cons rfl<|.cons rfl<|.cons rfl .nil
    ·refine wu rfl ?_;obtain⟨c20,h20,u⟩:=bs u;refine aO 3 [(0,(.str s1)),(9,(.int .i64 i13)),(70,(.bool c20))] sv ?_<|fun e=> ?_
     ·refine aQ (t:=67) rfl (fun hc=> ?_)<|fun hc=> ?_
      ·replace h20:=bI hc h20;refine wu rfl<|wu rfl<|wu rfl<|aC ?_;cases h20;exact Kept.mk rfl<|.cons rfl<|.cons rfl<|.cons rfl .nil
      ·replace h20:=bH hc h20;refine wu rfl<|wu rfl<|wu rfl<|aC ?_;cases h20;exact Kept.mk rfl<|.cons rfl<|.cons rfl<|.cons rfl .nil
     ·refine wu rfl<|aC ?_;refine aJ u rfl (fun hc u=> ?_)<|fun hc u=> ?_
      ·refine aD<|aE<|wu rfl<|aC<|aL ?_;cases u;exact⟨rfl,⟨rfl,_,fun _=>rfl,bB rfl rfl rfl rfl J.ext⟩⟩
      ·refine aP<|aE<|wu rfl<|wu rfl<|wu rfl<|aC ?_;exact iJ (fun e=>ih_r01_word_l0 _ _ _ u e s _ J) (.cons rfl<|.cons rfl .nil)<|fun _ _ _ h=>h
 ·refine j6 ?_;cases u;exact⟨rfl,_,frE .nil,rfl⟩
noncomputable def jI(s1:Str)(l2:Int)(hi3:Int)(under4:Bool):Option Bool:=
 ((rU (s1.length:Int) (1) (12))>>=fun r5=>
 ((if(!r5)=true then some true
 else((idx s1 (0))>>=fun b7=>
 ((if(decide ((b7.toNat:Int)≥l2))=true then((idx s1 (0))>>=fun b9=>
 some (decide ((b9.toNat:Int)≤hi3)))
 else some false:Option Bool)>>=fun c8=>
 ((if c8=true then some true
 else((if under4=true then((idx s1 (0))>>=fun b12=>
 some ((b12.toNat:Int)==(95)))
 else some false:Option Bool)>>=fun c11=>
 some c11):Option Bool)>>=fun c10=>
 some (!c10)))):Option Bool)>>=fun c6=>
 (if c6=true then some false
 else((eP s1 (0))>>=fun o21=>
 (match o21 with
 | .ret q22=>some q22
 | .nx q23=>some true)))))
theorem xQ: ∀(s1:Str)(l2:Int)(hi3:Int)(under4:Bool)(r:Bool),jI s1 l2 hi3 under4=some r→ ∀s:ASt,Fc PP (.func 29) [(.str s1),(.int .u8 l2),(.int .u8 hi3),(.bool under4)] s (dQ s<|.bool r):=by
 intro s1 l2 hi3 under4 r u;unfold jI at u;intro s;refine bN rfl rfl rfl ?_;have J:=St.clean s;generalize aV s=σ1 at J⊢;refine aD<|aE<|wu rfl<|aC<|aD<|aD<|aE<|wu rfl<|wu rfl ?_;obtain⟨r5,hr5,u⟩:=bs u;refine wcD (aBv hr5) rfl rfl (.cons rfl<|.cons rfl<|.cons rfl .nil)<|wu rfl<|wu rfl ?_;obtain⟨c6,hc6,u⟩:=bs u;refine aO 20 [(0,(.str s1)),(35,(.bool c6))] σ1 ?_<|fun e=> ?_
 ·refine aQ (t:=15) rfl (fun hc=> ?_)<|fun hc=> ?_
  ·replace hc6:=bI hc hc6
   iterate 20 refine wu rfl ?_
   refine aC ?_;cases hc6;exact Kept.mk rfl<|.cons rfl<|.cons rfl .nil
  ·replace hc6:=bH hc hc6;refine wu rfl ?_;obtain⟨b7,hb7,hc6⟩:=bs hc6;refine xM rfl rfl rfl hb7 ?_
   iterate 3 refine wu rfl ?_
   obtain⟨c8,hc8,hc6⟩:=bs hc6;refine aO 5 [(0,(.str s1)),(3,(.bool under4)),(15,(.bool false)),(25,(.bool c8))] σ1 ?_<|fun e=> ?_
   ·refine aQ (t:=20) rfl (fun hc=> ?_)<|fun hc=> ?_
    ·replace hc8:=bI hc hc8;refine wu rfl ?_;obtain⟨b9,hb9,hc8⟩:=bs hc8;refine xM rfl rfl rfl hb9 ?_;refine wu rfl<|wu rfl<|wu rfl<|aC ?_;cases hc8;exact Kept.mk rfl<|.cons rfl<|.cons rfl<|.cons rfl<|.cons rfl .nil
    ·replace hc8:=bH hc hc8;refine wu rfl<|wu rfl<|wu rfl<|wu rfl<|wu rfl<|aC ?_;cases hc8;exact Kept.mk rfl<|.cons rfl<|.cons rfl<|.cons rfl<|.cons rfl .nil
   ·refine wu rfl ?_;obtain⟨c10,h10,hc6⟩:=bs hc6;refine aO 7 [(0,(.str s1)),(15,(.bool false)),(33,(.bool c10))] σ1 ?_<|fun e=> ?_
    ·refine aQ (t:=26) rfl (fun hc=> ?_)<|fun hc=> ?_
     ·replace h10:=bI hc h10;refine wu rfl<|wu rfl<|wu rfl<|wu rfl<|wu rfl<|wu rfl<|wu rfl<|aC ?_;cases h10;exact Kept.mk rfl<|.cons rfl<|.cons rfl<|.cons rfl .nil
     ·replace h10:=bH hc h10;refine wu rfl<|wu rfl ?_;obtain⟨c11,h11,h10⟩:=bs h10;refine aO 4 [(0,(.str s1)),(15,(.bool false)),(26,(.bool false)),(32,(.bool c11))] σ1 ?_<|fun e=> ?_
      ·refine aQ (t:=28) rfl (fun hc=> ?_)<|fun hc=> ?_
       ·replace h11:=bI hc h11;refine wu rfl ?_;obtain⟨b12,h12,h11⟩:=bs h11;refine xM rfl rfl rfl h12 ?_;refine wu rfl<|wu rfl<|aC ?_;cases h11;exact Kept.mk rfl<|.cons rfl<|.cons rfl<|.cons rfl<|.cons rfl .nil
       ·replace h11:=bH hc h11;refine wu rfl<|wu rfl<|wu rfl<|wu rfl<|aC ?_;cases h11;exact Kept.mk rfl<|.cons rfl<|.cons rfl<|.cons rfl<|.cons rfl .nil
      ·refine wu rfl<|aC ?_;cases h10;exact Kept.mk rfl<|.cons rfl<|.cons rfl<|.cons rfl .nil
    ·refine wu rfl<|wu rfl<|aC ?_;cases hc6;exact Kept.mk rfl<|.cons rfl<|.cons rfl .nil
 ·refine aC ?_;refine aJ u rfl (fun hc u=> ?_)<|fun hc u=> ?_
  ·refine aD<|aE<|wu rfl<|aC<|aL ?_;cases u;exact⟨rfl,_,fun _=>rfl,bB rfl rfl rfl rfl J.ext⟩
  ·refine aP<|aD<|aD<|aE<|wu rfl<|aC<|cN ?_;obtain⟨o21,h21,u⟩:=bs u;refine iJ (fun e=>tG _ _ _ h21 e s _ J) (.cons rfl<|.cons rfl .nil) ?_
   rintro _ _ _ hq
   rcases o21 with q22|q23
   ·obtain⟨rfl,hq⟩:=hq;cases u;exact hq
   ·obtain⟨rfl,e25,rfl,rfl⟩:=hq;refine aD<|aE<|wu rfl<|aC<|aL ?_;cases u;exact⟨rfl,_,fun _=>rfl,bB rfl rfl rfl rfl J.ext⟩
theorem zK{s1:Str}{l2:Int}{hi3:Int}{under4:Bool}{r:Bool}(h:jI s1 l2 hi3 under4=some r):Pf PP 29 [(.str s1),(.int .u8 l2),(.int .u8 hi3),(.bool under4)] (.bool r):=Pf.eJ (xQ s1 l2 hi3 under4 r h _) rfl (.cons ⟨rfl,rfl⟩<|.cons ⟨rfl,rfl⟩<|.cons ⟨rfl,rfl⟩<|.cons ⟨rfl,rfl⟩ .nil)
noncomputable def fD(s1:Str):Option Bool:=
 ((jI s1 (65) (90) false)>>=fun r2=>
 some r2)
theorem sN: ∀(s1:Str)(r:Bool),fD s1=some r→ ∀s:ASt,Fc PP (.func 16) [(.str s1)] s (dQ s<|.bool r):=by
 intro s1 r u;unfold fD at u;intro s;refine bN rfl rfl rfl ?_;have J:=St.clean s;generalize aV s=σ1 at J⊢;refine aD<|aE<|wu rfl<|aC<|aD<|aE<|wu rfl ?_;obtain⟨r2,hr2,u⟩:=bs u;refine wcD (zK hr2) rfl rfl (.cons rfl<|.cons rfl<|.cons rfl<|.cons rfl .nil)<|wu rfl<|aC<|aL ?_;cases u;exact⟨rfl,_,fun _=>rfl,bB rfl rfl rfl rfl J.ext⟩
theorem lW{s1:Str}{r:Bool}(h:fD s1=some r):Pf PP 16 [(.str s1)] (.bool r):=Pf.eJ (sN s1 r h _) rfl (.cons ⟨rfl,rfl⟩ .nil)
noncomputable def jK(a1:aA)(b2:aA):Option Bool:=
 ((if(Op.bytesLess a1.effect b2.effect)=true then some true
 else((if(a1.effect==b2.effect)=true then some (decide (a1.instance_<b2.instance_))
 else some false:Option Bool)>>=fun c4=>
 some c4):Option Bool)>>=fun c3=>
 some c3)
theorem yN: ∀(a1:aA)(b2:aA)(r:Bool),jK a1 b2=some r→ ∀s:ASt,Fc PP (.func 28) [(aF a1),(aF b2)] s (dQ s<|.bool r):=by
 intro a1 b2 r u;unfold jK at u;intro s;refine bN rfl rfl rfl ?_;have J:=St.clean s;generalize aV s=σ1 at J⊢;refine aD<|aE<|wu rfl<|wu rfl<|wu rfl<|aC<|aD<|aE<|wu rfl<|wu rfl<|wu rfl<|wu rfl<|wu rfl<|wu rfl ?_;obtain⟨c3,hc3,u⟩:=bs u;refine aO 13 [(23,(.bool c3))] σ1 ?_<|fun e=> ?_
 ·refine aQ (t:=10) rfl (fun hc=> ?_)<|fun hc=> ?_
  ·replace hc3:=bI hc hc3;refine wu rfl<|wu rfl<|wu rfl<|wu rfl<|wu rfl<|wu rfl<|wu rfl<|wu rfl<|wu rfl<|wu rfl<|wu rfl<|wu rfl<|wu rfl<|aC ?_;cases hc3;exact Kept.mk rfl<|.cons rfl .nil
  ·replace hc3:=bH hc hc3
   iterate 6 refine wu rfl ?_
   obtain⟨c4,hc4,hc3⟩:=bs hc3;refine aO 6 [(10,(.bool false)),(22,(.bool c4))] σ1 ?_<|fun e=> ?_
   ·refine aQ (t:=16) rfl (fun hc=> ?_)<|fun hc=> ?_
    ·replace hc4:=bI hc hc4;refine wu rfl<|wu rfl<|wu rfl<|wu rfl<|wu rfl<|wu rfl<|aC ?_;cases hc4;exact Kept.mk rfl<|.cons rfl<|.cons rfl .nil
    ·replace hc4:=bH hc hc4;refine wu rfl<|wu rfl<|wu rfl<|wu rfl<|wu rfl<|wu rfl<|aC ?_;cases hc4;exact Kept.mk rfl<|.cons rfl<|.cons rfl .nil
   ·refine wu rfl<|aC ?_;cases hc3;exact Kept.mk rfl<|.cons rfl .nil
 ·refine wu rfl<|aC<|aL ?_;cases u;exact⟨rfl,_,fun _=>rfl,bB rfl rfl rfl rfl J.ext⟩
theorem qU{a1:aA}{b2:aA}{r:Bool}(h:jK a1 b2=some r):Pf PP 28 [(aF a1),(aF b2)] (.bool r):=Pf.eJ (yN a1 b2 r h _) rfl (.cons (bV _)<|.cons (bV _) .nil)
noncomputable def dN(v1:(List aA))(i2:Int):Option (Ctl Int Unit):=
 (if(decide (i2<(v1.length:Int)))=true then((idx v1 i2)>>=fun y3=>
 ((fD y3.effect)>>=fun r4=>
 (if(!r4)=true then some (.ret (4))
 else((idx v1 i2)>>=fun y5=>
 ((if(decide (y5.instance_<(0)))=true then some true
 else((idx v1 i2)>>=fun y7=>
 some (decide (y7.marker<(0)))):Option Bool)>>=fun c6=>
 (if c6=true then some (.ret (1))
 else((if(decide (i2>(0)))=true then((idx v1 i2)>>=fun y9=>
 ((idx v1 (IntKind.wrap .i64 (i2-(1))))>>=fun y10=>
 ((jK y9 y10)>>=fun r11=>
 ((if r11=true then some true
 else((idx v1 (IntKind.wrap .i64 (i2-(1))))>>=fun y13=>
 ((idx v1 i2)>>=fun y14=>
 ((jK y13 y14)>>=fun r15=>
 ((if(!r15)=true then((idx v1 i2)>>=fun y17=>
 ((idx v1 (IntKind.wrap .i64 (i2-(1))))>>=fun y18=>
 some (decide (y17.marker≥y18.marker))))
 else some false:Option Bool)>>=fun c16=>
 some c16)))):Option Bool)>>=fun c12=>
 some c12))))
 else some false:Option Bool)>>=fun c8=>
 (if c8=true then some (.ret (1))
 else dN (nf v1) (IntKind.wrap .i64 (i2+(1)))))))))))
 else some (.nx ()))
 partial_fixpoint
abbrev mU(v1:(List aA))(i2:Int)(o:(Ctl Int Unit)):Prop:= ∀(e:Env)(s sv:ASt),St [] [] s sv [] []→Wk PP none Code.aD2 ⟨gP e [(0,(slA 3<|v1.map aB)),(3,(.int .i64 i2))],[]⟩ sv (fun ex fr s'=>(match o with| .ret oq0=>ex= .ret∧tU PP Code.c14 (VQ (.int .i64 oq0)<|Ext [] [] s) ex fr s'| .nx oq1=>ex= .exit 0∧ ∃(e:Env),fr=⟨gP e [],[]⟩∧sv=s'))
theorem qX: ∀(v1:(List aA))(i2:Int)(o:(Ctl Int Unit)),dN v1 i2=some o→mU v1 i2 o:=by
 refine dN.partial_correctness (mU) ?_;intro _f ih_r12_Check_l0 v1 i2 o u;intro e s sv J;refine gE<|aD<|aD<|aE<|wu rfl<|wu rfl<|fS (f:=aB) (l:=v1) rfl (.no _)<|wu rfl<|aC ?_;refine aJ u rfl (fun hc u=> ?_)<|fun hc u=> ?_
 ·refine aP<|aD<|cN<|aD<|aD<|aE<|wu rfl<|wu rfl ?_;obtain⟨y3,hy3,u⟩:=bs u;refine gJ (f:=aB) rfl (.no _) rfl hy3 rfl<|wu rfl<|wu rfl ?_;obtain⟨r4,hr4,u⟩:=bs u;refine wcD (lW hr4) rfl rfl (.cons rfl .nil)<|wu rfl<|aC ?_;refine aJ u rfl (fun hc u=> ?_)<|fun hc u=> ?_
  ·refine aD<|aE<|wu rfl<|aC<|aL ?_;cases u;exact⟨rfl,⟨rfl,_,fun _=>rfl,bB rfl rfl rfl rfl J.ext⟩⟩
  ·refine aP<|aD<|aD<|aE<|wu rfl<|wu rfl ?_;obtain⟨y5,hy5,u⟩:=bs u;refine gJ (f:=aB) rfl (.no _) rfl hy5 rfl<|wu rfl<|wu rfl<|wu rfl<|wu rfl ?_;obtain⟨c6,hc6,u⟩:=bs u;refine aO 7 [(0,(slA 3<|v1.map aB)),(3,(.int .i64 i2)),(33,(.bool c6))] sv ?_<|fun e=> ?_
   ·refine aQ (t:=26) rfl (fun hc=> ?_)<|fun hc=> ?_
    ·replace hc6:=bI hc hc6;refine wu rfl<|wu rfl<|wu rfl<|wu rfl<|wu rfl<|wu rfl<|wu rfl<|aC ?_;cases hc6;exact Kept.mk rfl<|.cons rfl<|.cons rfl<|.cons rfl .nil
    ·replace hc6:=bH hc hc6;refine wu rfl<|wu rfl ?_;obtain⟨y7,hy7,hc6⟩:=bs hc6;refine gJ (f:=aB) rfl (.no _) rfl hy7 rfl<|wu rfl<|wu rfl<|wu rfl<|wu rfl<|aC ?_;cases hc6;exact Kept.mk rfl<|.cons rfl<|.cons rfl<|.cons rfl .nil
   ·refine aC ?_;refine aJ u rfl (fun hc u=> ?_)<|fun hc u=> ?_
    ·refine aD<|aE<|wu rfl<|aC<|aL ?_;cases u;exact⟨rfl,⟨rfl,_,fun _=>rfl,bB rfl rfl rfl rfl J.ext⟩⟩
    ·refine aP<|aD<|aE<|wu rfl<|wu rfl<|wu rfl ?_;obtain⟨c8,hc8,u⟩:=bs u;refine aO 38 [(0,(slA 3<|v1.map aB)),(3,(.int .i64 i2)),(74,(.bool c8))] sv ?_<|fun e=> ?_
     ·refine aQ (t:=36) rfl (fun hc=> ?_)<|fun hc=> ?_
      ·replace hc8:=bI hc hc8;refine wu rfl<|wu rfl ?_;obtain⟨y9,hy9,hc8⟩:=bs hc8;refine gJ (f:=aB) rfl (.no _) rfl hy9 rfl<|wu rfl<|wu rfl<|wu rfl<|wu rfl ?_;obtain⟨y10,h10,hc8⟩:=bs hc8;refine gJ (f:=aB) rfl (.no _) rfl h10 rfl<|wu rfl ?_;obtain⟨r11,h11,hc8⟩:=bs hc8;refine wcD (qU h11) rfl rfl (.cons rfl<|.cons rfl .nil)<|wu rfl ?_;obtain⟨c12,h12,hc8⟩:=bs hc8;refine aO 26 [(0,(slA 3<|v1.map aB)),(3,(.int .i64 i2)),(36,(.bool true)),(73,(.bool c12))] sv ?_<|fun e=> ?_
       ·refine aQ (t:=47) rfl (fun hc=> ?_)<|fun hc=> ?_
        ·replace h12:=bI hc h12
         iterate 26 refine wu rfl ?_
         refine aC ?_;cases h12;exact Kept.mk rfl<|.cons rfl<|.cons rfl<|.cons rfl<|.cons rfl .nil
        ·replace h12:=bH hc h12
         iterate 3 refine wu rfl ?_
         obtain⟨y13,h13,h12⟩:=bs h12;refine gJ (f:=aB) rfl (.no _) rfl h13 rfl<|wu rfl<|wu rfl<|wu rfl ?_;obtain⟨y14,h14,h12⟩:=bs h12;refine gJ (f:=aB) rfl (.no _) rfl h14 rfl<|wu rfl ?_;obtain⟨r15,h15,h12⟩:=bs h12;refine wcD (qU h15) rfl rfl (.cons rfl<|.cons rfl .nil)<|wu rfl<|wu rfl ?_;obtain⟨c16,h16,h12⟩:=bs h12;refine aO 13 [(0,(slA 3<|v1.map aB)),(3,(.int .i64 i2)),(36,(.bool true)),(47,(.bool false)),(72,(.bool c16))] sv ?_<|fun e=> ?_
         ·refine aQ (t:=59) rfl (fun hc=> ?_)<|fun hc=> ?_
          ·replace h16:=bI hc h16;refine wu rfl<|wu rfl ?_;obtain⟨y17,h17,h16⟩:=bs h16;refine gJ (f:=aB) rfl (.no _) rfl h17 rfl<|wu rfl<|wu rfl<|wu rfl<|wu rfl<|wu rfl ?_;obtain⟨y18,h18,h16⟩:=bs h16;refine gJ (f:=aB) rfl (.no _) rfl h18 rfl<|wu rfl<|wu rfl<|wu rfl<|wu rfl<|aC ?_;cases h16;exact Kept.mk rfl<|.cons rfl<|.cons rfl<|.cons rfl<|.cons rfl<|.cons rfl .nil
          ·replace h16:=bH hc h16;refine wu rfl<|wu rfl<|wu rfl<|wu rfl<|wu rfl<|wu rfl<|wu rfl<|wu rfl<|wu rfl<|wu rfl<|wu rfl<|wu rfl<|wu rfl<|aC ?_;cases h16;exact Kept.mk rfl<|.cons rfl<|.cons rfl<|.cons rfl<|.cons rfl<|.cons rfl .nil
         ·refine wu rfl<|aC ?_;cases h12;exact Kept.mk rfl<|.cons rfl<|.cons rfl<|.cons rfl<|.cons rfl .nil
       ·refine wu rfl<|aC ?_;cases hc8;exact Kept.mk rfl<|.cons rfl<|.cons rfl<|.cons rfl .nil
      ·replace hc8:=bH hc hc8
       iterate 38 refine wu rfl ?_
       refine aC ?_;cases hc8;exact Kept.mk rfl<|.cons rfl<|.cons rfl<|.cons rfl .nil
     ·refine aC ?_;refine aJ u rfl (fun hc u=> ?_)<|fun hc u=> ?_
      ·refine aD<|aE<|wu rfl<|aC<|aL ?_;cases u;exact⟨rfl,⟨rfl,_,fun _=>rfl,bB rfl rfl rfl rfl J.ext⟩⟩
      ·refine aP<|aE<|wu rfl<|wu rfl<|wu rfl<|aC ?_;exact iJ (fun e=>ih_r12_Check_l0 _ _ _ u e s _ J) (.cons rfl<|.cons rfl .nil)<|fun _ _ _ h=>h
 ·refine j6 ?_;cases u;exact⟨rfl,_,frE .nil,rfl⟩
noncomputable def jE(v1:(List aA)):Option Int:=
 (if(decide ((v1.length:Int)>(200)))=true then some (3)
 else((dN v1 (0))>>=fun o19=>
 (match o19 with
 | .ret q20=>some q20
 | .nx q21=>some (0))))
theorem vW: ∀(v1:(List aA))(r:Int),jE v1=some r→ ∀s:ASt,Fc PP (.func 14) [(slA 3<|v1.map aB)] s (dQ s<|.int .i64 r):=by
 intro v1 r u;unfold jE at u;intro s;refine bN rfl rfl rfl ?_;have J:=St.clean s;generalize aV s=σ1 at J⊢;refine aD<|aE<|wu rfl<|aC<|aD<|aD<|aE<|wu rfl<|fS (f:=aB) (l:=v1) rfl (.no _)<|wu rfl<|aC ?_;refine aJ u rfl (fun hc u=> ?_)<|fun hc u=> ?_
 ·refine aD<|aE<|wu rfl<|aC<|aL ?_;cases u;exact⟨rfl,_,fun _=>rfl,bB rfl rfl rfl rfl J.ext⟩
 ·refine aP<|aD<|aD<|aE<|wu rfl<|aC<|cN ?_;obtain⟨o19,h19,u⟩:=bs u;refine iJ (fun e=>qX _ _ _ h19 e s _ J) (.cons rfl<|.cons rfl .nil) ?_
  rintro _ _ _ hq
  rcases o19 with q20|q21
  ·obtain⟨rfl,hq⟩:=hq;cases u;exact hq
  ·obtain⟨rfl,e23,rfl,rfl⟩:=hq;refine aD<|aE<|wu rfl<|aC<|aL ?_;cases u;exact⟨rfl,_,fun _=>rfl,bB rfl rfl rfl rfl J.ext⟩
theorem wP{v1:(List aA)}{r:Int}(h:jE v1=some r):Pf PP 14 [(slA 3<|v1.map aB)] (.int .i64 r):=Pf.eJ (vW v1 r h _) rfl (.cons (fU<|b8 aX _) .nil)
noncomputable def bX(v1:(List aA))(i2:Int):Option (Ctl Bool Unit):=
 (if(decide (i2<(v1.length:Int)))=true then((idx v1 i2)>>=fun y3=>
 (if(decide ((y3.effect.length:Int)>(100)))=true then some (.ret true)
 else bX (nf v1) (IntKind.wrap .i64 (i2+(1)))))
 else some (.nx ()))
 partial_fixpoint
abbrev mG(v1:(List aA))(i2:Int)(o:(Ctl Bool Unit)):Prop:= ∀(e:Env)(s sv:ASt),St [] [] s sv [] []→Wk PP none Code.aFb ⟨gP e [(0,(slA 3<|v1.map aB)),(3,(.int .i64 i2))],[]⟩ sv (fun ex fr s'=>(match o with| .ret oq0=>ex= .ret∧tU PP Code.c5 (VQ (.bool oq0)<|Ext [] [] s) ex fr s'| .nx oq1=>ex= .exit 0∧ ∃(e:Env),fr=⟨gP e [],[]⟩∧sv=s'))
theorem qZ: ∀(v1:(List aA))(i2:Int)(o:(Ctl Bool Unit)),bX v1 i2=some o→mG v1 i2 o:=by
 refine bX.partial_correctness (mG) ?_;intro _f ih_w12_Great_l0 v1 i2 o u;intro e s sv J;refine gE<|aD<|aD<|aE<|wu rfl<|wu rfl<|fS (f:=aB) (l:=v1) rfl (.no _)<|wu rfl<|aC ?_;refine aJ u rfl (fun hc u=> ?_)<|fun hc u=> ?_
 ·refine aP<|aD<|cN<|aD<|aE<|wu rfl<|wu rfl ?_;obtain⟨y3,hy3,u⟩:=bs u;refine gJ (f:=aB) rfl (.no _) rfl hy3 rfl<|wu rfl<|wu rfl<|wu rfl<|wu rfl<|aC ?_;refine aJ u rfl (fun hc u=> ?_)<|fun hc u=> ?_
  ·refine aD<|aE<|wu rfl<|aC<|aL ?_;cases u;exact⟨rfl,⟨rfl,_,fun _=>rfl,bB rfl rfl rfl rfl J.ext⟩⟩
  ·refine aP<|aE<|wu rfl<|wu rfl<|wu rfl<|aC ?_;exact iJ (fun e=>ih_w12_Great_l0 _ _ _ u e s _ J) (.cons rfl<|.cons rfl .nil)<|fun _ _ _ h=>h
 ·refine j6 ?_;cases u;exact⟨rfl,_,frE .nil,rfl⟩
noncomputable def jB(v1:(List aA)):Option Bool:=
 (if(decide ((v1.length:Int)>(300)))=true then some true
 else((bX v1 (0))>>=fun o4=>
 (match o4 with
 | .ret q5=>some q5
 | .nx q6=>some false)))
theorem wZ: ∀(v1:(List aA))(r:Bool),jB v1=some r→ ∀s:ASt,Fc PP (.func 5) [(slA 3<|v1.map aB)] s (dQ s<|.bool r):=by
 intro v1 r u;unfold jB at u;intro s;refine bN rfl rfl rfl ?_;have J:=St.clean s;generalize aV s=σ1 at J⊢;refine aD<|aE<|wu rfl<|aC<|aD<|aD<|aE<|wu rfl<|fS (f:=aB) (l:=v1) rfl (.no _)<|wu rfl<|aC ?_;refine aJ u rfl (fun hc u=> ?_)<|fun hc u=> ?_
 ·refine aD<|aE<|wu rfl<|aC<|aL ?_;cases u;exact⟨rfl,_,fun _=>rfl,bB rfl rfl rfl rfl J.ext⟩
 ·refine aP<|aD<|aD<|aE<|wu rfl<|aC<|cN ?_;obtain⟨o4,ho4,u⟩:=bs u;refine iJ (fun e=>qZ _ _ _ ho4 e s _ J) (.cons rfl<|.cons rfl .nil) ?_
  rintro _ _ _ hq
  rcases o4 with q5|q6
  ·obtain⟨rfl,hq⟩:=hq;cases u;exact hq
  ·obtain⟨rfl,e8,rfl,rfl⟩:=hq;refine aD<|aE<|wu rfl<|aC<|aL ?_;cases u;exact⟨rfl,_,fun _=>rfl,bB rfl rfl rfl rfl J.ext⟩
theorem v5{v1:(List aA)}{r:Bool}(h:jB v1=some r):Pf PP 5 [(slA 3<|v1.map aB)] (.bool r):=Pf.eJ (wZ v1 r h _) rfl (.cons (fU<|b8 aX _) .nil)
noncomputable def cP(s1:Str)(n2:Int)(m3:Int):Option aA:=
 some (aA.mk ((aA.mk s1 n2 m3).effect) ((aA.mk s1 n2 m3).instance_)<|(aA.mk s1 n2 m3).marker)
theorem sG: ∀(s1:Str)(n2:Int)(m3:Int)(r:aA),cP s1 n2 m3=some r→ ∀s:ASt,Fc PP (.func 17) [(.str s1),(.int .i64 n2),(.int .i64 m3)] s (dQ s<|aF r):=by
 intro s1 n2 m3 r u;unfold cP at u;intro s;refine bN rfl rfl rfl ?_;have J:=St.clean s;generalize aV s=σ1 at J⊢;refine aD<|aE ?_;refine tA rfl J rfl<|fun β4 σ5 J=> ?_;refine aC<|aD<|aE<|wu rfl<|wu rfl<|wu rfl ?_;refine wgv (v:=(aF<|aA.mk s1 n2 m3)) rfl rfl (by kernel_rfl) ?_;refine kT (ds':= [(.str (aA.mk s1 n2 m3).effect),(.int .i64 (aA.mk s1 n2 m3).instance_),(.int .i64 (aA.mk s1 n2 m3).marker)]) (cs':= [(.str (aA.mk s1 n2 m3).effect),(.int .i64 (aA.mk s1 n2 m3).instance_),(.int .i64 (aA.mk s1 n2 m3).marker)]) 0 rfl J rfl rfl rfl rfl rfl (Nat.le_of_ble_eq_true rfl) (.cons (tkN rfl)<|.cons (tkN rfl)<|.cons (tkN rfl) .nil) (by kernel_rfl)<|fun σ6 J=> ?_;refine aC<|aL ?_;cases u;exact⟨rfl,_,fun _=>rfl,bB (rP.eq<|.cons (m9 (us:= [(.str (aA.mk s1 n2 m3).effect),(.int .i64 (aA.mk s1 n2 m3).instance_),(.int .i64 (aA.mk s1 n2 m3).marker)]) J 0 rfl rfl (Nat.le_of_ble_eq_true rfl) rfl<|.cons rfl<|.cons rfl<|.cons rfl .nil) .nil) rfl rfl rfl J.ext⟩
theorem dA{s1:Str}{n2:Int}{m3:Int}{r:aA}(h:cP s1 n2 m3=some r):Pf PP 17 [(.str s1),(.int .i64 n2),(.int .i64 m3)] (aF r):=Pf.eJ (sG s1 n2 m3 r h _) ((bV _).2) (.cons ⟨rfl,rfl⟩<|.cons ⟨rfl,rfl⟩<|.cons ⟨rfl,rfl⟩ .nil)
noncomputable def bR(a1:(List aA))(b2:(List aA))(i3:Int):Option (Ctl Bool Unit):=
 (if(decide (i3<(a1.length:Int)))=true then((idx a1 i3)>>=fun y4=>
 ((idx b2 i3)>>=fun y5=>
 (if(!((y4.effect==y5.effect)&&((y4.instance_==y5.instance_)&&((y4.marker==y5.marker)&&true))))=true then some (.ret false)
 else bR (nf a1) (nf b2) (IntKind.wrap .i64 (i3+(1))))))
 else some (.nx ()))
 partial_fixpoint
abbrev iS(a1:(List aA))(b2:(List aA))(i3:Int)(o:(Ctl Bool Unit)):Prop:= ∀(e:Env)(s sv:ASt),St [] [] s sv [] []→Wk PP none Code.aD4 ⟨gP e [(0,(slA 3<|a1.map aB)),(1,(slA 3<|b2.map aB)),(5,(.int .i64 i3))],[]⟩ sv (fun ex fr s'=>(match o with| .ret oq0=>ex= .ret∧tU PP Code.c15 (VQ (.bool oq0)<|Ext [] [] s) ex fr s'| .nx oq1=>ex= .exit 0∧ ∃(e:Env),fr=⟨gP e [],[]⟩∧sv=s'))
theorem mC: ∀(a1:(List aA))(b2:(List aA))(i3:Int)(o:(Ctl Bool Unit)),bR a1 b2 i3=some o→iS a1 b2 i3 o:=by
 refine bR.partial_correctness (iS) ?_;intro _f ih_w12_sameVector_l0 a1 b2 i3 o u;intro e s sv J;refine gE<|aD<|aD<|aE<|wu rfl<|wu rfl<|fS (f:=aB) (l:=a1) rfl (.no _)<|wu rfl<|aC ?_;refine aJ u rfl (fun hc u=> ?_)<|fun hc u=> ?_
 ·refine aP<|aD<|cN<|aD<|aE<|wu rfl<|wu rfl ?_;obtain⟨y4,hy4,u⟩:=bs u;refine gJ (f:=aB) rfl (.no _) rfl hy4 rfl<|wu rfl<|wu rfl<|wu rfl ?_;obtain⟨y5,hy5,u⟩:=bs u;refine gJ (f:=aB) rfl (.no _) rfl hy5 rfl<|wu rfl<|wu rfl<|aC ?_;refine aJ u rfl (fun hc u=> ?_)<|fun hc u=> ?_
  ·refine aD<|aE<|wu rfl<|aC<|aL ?_;cases u;exact⟨rfl,⟨rfl,_,fun _=>rfl,bB rfl rfl rfl rfl J.ext⟩⟩
  ·refine aP<|aE<|wu rfl<|wu rfl<|wu rfl<|aC ?_;exact iJ (fun e=>ih_w12_sameVector_l0 _ _ _ _ u e s _ J) (.cons rfl<|.cons rfl<|.cons rfl .nil)<|fun _ _ _ h=>h
 ·refine j6 ?_;cases u;exact⟨rfl,_,frE .nil,rfl⟩
noncomputable def cH(a1:(List aA))(b2:(List aA)):Option Bool:=
 (if((a1.length:Int) !=(b2.length:Int))=true then some false
 else((bR a1 b2 (0))>>=fun o6=>
 (match o6 with
 | .ret q7=>some q7
 | .nx q8=>some true)))
theorem pC: ∀(a1:(List aA))(b2:(List aA))(r:Bool),cH a1 b2=some r→ ∀s:ASt,Fc PP (.func 15) [(slA 3<|a1.map aB),(slA 3<|b2.map aB)] s (dQ s<|.bool r):=by
 intro a1 b2 r u;unfold cH at u;intro s;refine bN rfl rfl rfl ?_;have J:=St.clean s;generalize aV s=σ1 at J⊢;refine aD<|aE<|wu rfl<|aC<|aD<|aD<|aE<|wu rfl<|fS (f:=aB) (l:=a1) rfl (.no _)<|wu rfl<|fS (f:=aB) (l:=b2) rfl (.no _)<|wu rfl<|aC ?_;refine aJ u rfl (fun hc u=> ?_)<|fun hc u=> ?_
 ·refine aD<|aE<|wu rfl<|aC<|aL ?_;cases u;exact⟨rfl,_,fun _=>rfl,bB rfl rfl rfl rfl J.ext⟩
 ·refine aP<|aD<|aD<|aE<|wu rfl<|aC<|cN ?_;obtain⟨o6,ho6,u⟩:=bs u;refine iJ (fun e=>mC _ _ _ _ ho6 e s _ J) (.cons rfl<|.cons rfl<|.cons rfl .nil) ?_
  rintro _ _ _ hq
  rcases o6 with q7|q8
  ·obtain⟨rfl,hq⟩:=hq;cases u;exact hq
  ·obtain⟨rfl,e10,rfl,rfl⟩:=hq;refine aD<|aE<|wu rfl<|aC<|aL ?_;cases u;exact⟨rfl,_,fun _=>rfl,bB rfl rfl rfl rfl J.ext⟩
theorem gM{a1:(List aA)}{b2:(List aA)}{r:Bool}(h:cH a1 b2=some r):Pf PP 15 [(slA 3<|a1.map aB),(slA 3<|b2.map aB)] (.bool r):=Pf.eJ (pC a1 b2 r h _) rfl (.cons (fU<|b8 aX _)<|.cons (fU<|b8 aX _) .nil)
noncomputable def fK:Option Bool:=
 ((cP ([69]:Str) (0) (1))>>=fun r1=>
 ((cP ([70]:Str) (0) (0))>>=fun r2=>
 ((cP ([69]:Str) (0) (2))>>=fun r3=>
 ((cJ [r1,r2] r3)>>=fun r4=>
 ((cZ r4.1 ([69]:Str) (0))>>=fun r5=>
 ((cZ r4.1 ([69]:Str) (3))>>=fun r6=>
 ((if(r4.2==(0))=true then((cP ([69]:Str) (0) (2))>>=fun r8=>
 ((cP ([69]:Str) (0) (1))>>=fun r9=>
 ((cP ([70]:Str) (0) (0))>>=fun r10=>
 ((cH r4.1 [r8,r9,r10])>>=fun r11=>
 some r11))))
 else some false:Option Bool)>>=fun c7=>
 ((if c7=true then some (r5.2==(0))
 else some false:Option Bool)>>=fun c12=>
 ((if c12=true then((cP ([69]:Str) (0) (2))>>=fun r14=>
 some ((r5.1.effect==r14.effect)&&((r5.1.instance_==r14.instance_)&&((r5.1.marker==r14.marker)&&true))))
 else some false:Option Bool)>>=fun c13=>
 ((if c13=true then some (r6.2==(6))
 else some false:Option Bool)>>=fun c15=>
 some c15))))))))))
theorem wS: ∀(r:Bool),fK=some r→ ∀s:ASt,Fc PP (.func 6) [] s (dQ s<|.bool r):=by
 intro r u;unfold fK at u;intro s;refine bN rfl rfl rfl ?_;have J:=St.clean s;generalize aV s=σ1 at J⊢;refine aD<|aE<|wu rfl<|aC<|aD<|aE<|wu rfl<|aC<|aD<|aE<|wu rfl ?_;obtain⟨r1,hr1,u⟩:=bs u;refine wcD (dA hr1) rfl rfl (.cons rfl<|.cons rfl<|.cons rfl .nil)<|wu rfl ?_;obtain⟨r2,hr2,u⟩:=bs u;refine wcD (dA hr2) rfl rfl (.cons rfl<|.cons rfl<|.cons rfl .nil) ?_;refine rE (f:=aB) (l:= [r1,r2]) rfl (.cons rfl<|.cons rfl .nil) rfl qN rfl rfl (by decide) ?_;refine wu rfl ?_;obtain⟨r3,hr3,u⟩:=bs u;refine wcD (dA hr3) rfl rfl (.cons rfl<|.cons rfl<|.cons rfl .nil) ?_;obtain⟨r4,hr4,u⟩:=bs u;refine wcD (fT hr4) rfl rfl (.cons rfl<|.cons rfl .nil)<|wu rfl<|wu rfl<|wu rfl<|wu rfl<|wu rfl<|aC<|aD<|aE<|wu rfl ?_;obtain⟨r5,hr5,u⟩:=bs u;refine wcD (hZ hr5) rfl rfl (.cons rfl<|.cons rfl<|.cons rfl .nil)<|wu rfl<|wu rfl<|wu rfl<|wu rfl<|wu rfl<|wu rfl<|aC<|aD<|aE<|wu rfl ?_;obtain⟨r6,hr6,u⟩:=bs u;refine wcD (hZ hr6) rfl rfl (.cons rfl<|.cons rfl<|.cons rfl .nil)<|wu rfl<|wu rfl<|wu rfl<|wu rfl<|wu rfl<|wu rfl<|aC<|aD<|aE<|wu rfl<|wu rfl<|wu rfl ?_;obtain⟨c7,hc7,u⟩:=bs u;refine aO 10 [(1,(.func 17 [] [])),(4,(.a8 (aF r5.1) 0)),(5,(.int .i64 r5.2)),(7,(.int .i64 r6.2)),(41,(.bool c7))] σ1 ?_<|fun e=> ?_
 ·refine aQ (t:=31) rfl (fun hc=> ?_)<|fun hc=> ?_
  ·replace hc7:=bI hc hc7;refine wu rfl<|wu rfl ?_;obtain⟨r8,hr8,hc7⟩:=bs hc7;refine wcD (dA hr8) rfl rfl (.cons rfl<|.cons rfl<|.cons rfl .nil)<|wu rfl ?_;obtain⟨r9,hr9,hc7⟩:=bs hc7;refine wcD (dA hr9) rfl rfl (.cons rfl<|.cons rfl<|.cons rfl .nil)<|wu rfl ?_;obtain⟨r10,h10,hc7⟩:=bs hc7;refine wcD (dA h10) rfl rfl (.cons rfl<|.cons rfl<|.cons rfl .nil) ?_;refine rE (f:=aB) (l:= [r8,r9,r10]) rfl (.cons rfl<|.cons rfl<|.cons rfl .nil) rfl qN rfl rfl (by decide) ?_;obtain⟨r11,h11,hc7⟩:=bs hc7;refine wcD (gM h11) rfl rfl (.cons rfl<|.cons rfl .nil)<|wu rfl<|aC ?_;cases hc7;exact Kept.mk rfl<|.cons rfl<|.cons rfl<|.cons rfl<|.cons rfl<|.cons rfl .nil
  ·replace hc7:=bH hc hc7;refine wu rfl<|wu rfl<|wu rfl<|wu rfl<|wu rfl<|wu rfl<|wu rfl<|wu rfl<|wu rfl<|wu rfl<|aC ?_;cases hc7;exact Kept.mk rfl<|.cons rfl<|.cons rfl<|.cons rfl<|.cons rfl<|.cons rfl .nil
 ·refine wu rfl ?_;obtain⟨c12,h12,u⟩:=bs u;refine aO 3 [(1,(.func 17 [] [])),(4,(.a8 (aF r5.1) 0)),(7,(.int .i64 r6.2)),(45,(.bool c12))] σ1 ?_<|fun e=> ?_
  ·refine aQ (t:=42) rfl (fun hc=> ?_)<|fun hc=> ?_
   ·replace h12:=bI hc h12;refine wu rfl<|wu rfl<|wu rfl<|aC ?_;cases h12;exact Kept.mk rfl<|.cons rfl<|.cons rfl<|.cons rfl<|.cons rfl .nil
   ·replace h12:=bH hc h12;refine wu rfl<|wu rfl<|wu rfl<|aC ?_;cases h12;exact Kept.mk rfl<|.cons rfl<|.cons rfl<|.cons rfl<|.cons rfl .nil
  ·refine wu rfl ?_;obtain⟨c13,h13,u⟩:=bs u;refine aO 5 [(7,(.int .i64 r6.2)),(51,(.bool c13))] σ1 ?_<|fun e=> ?_
   ·refine aQ (t:=46) rfl (fun hc=> ?_)<|fun hc=> ?_
    ·replace h13:=bI hc h13;refine wu rfl<|wu rfl ?_;obtain⟨r14,h14,h13⟩:=bs h13;refine wcD (dA h14) rfl rfl (.cons rfl<|.cons rfl<|.cons rfl .nil)<|wu rfl<|wu rfl<|aC ?_;cases h13;exact Kept.mk rfl<|.cons rfl<|.cons rfl .nil
    ·replace h13:=bH hc h13;refine wu rfl<|wu rfl<|wu rfl<|wu rfl<|wu rfl<|aC ?_;cases h13;exact Kept.mk rfl<|.cons rfl<|.cons rfl .nil
   ·refine wu rfl ?_;obtain⟨c15,h15,u⟩:=bs u;refine aO 3 [(55,(.bool c15))] σ1 ?_<|fun e=> ?_
    ·refine aQ (t:=52) rfl (fun hc=> ?_)<|fun hc=> ?_
     ·replace h15:=bI hc h15;refine wu rfl<|wu rfl<|wu rfl<|aC ?_;cases h15;exact Kept.mk rfl<|.cons rfl .nil
     ·replace h15:=bH hc h15;refine wu rfl<|wu rfl<|wu rfl<|aC ?_;cases h15;exact Kept.mk rfl<|.cons rfl .nil
    ·refine wu rfl<|aC<|aL ?_;cases u;exact⟨rfl,_,fun _=>rfl,bB rfl rfl rfl rfl J.ext⟩
theorem jA{r:Bool}(h:fK=some r):Pf PP 6 [] (.bool r):=Pf.eJ (wS r h _) rfl .nil
noncomputable def eI(v1:(List aA))(x2:aA)(e3:Str):Option Bool:=
 ((jB v1)>>=fun r4=>
 ((if r4=true then some true
 else some (decide ((x2.effect.length:Int)>(100))):Option Bool)>>=fun c5=>
 ((if c5=true then some true
 else some (decide ((e3.length:Int)>(100))):Option Bool)>>=fun c6=>
 ((if c6=true then some true
 else((jE v1)>>=fun r8=>
 some (r8 !=(0))):Option Bool)>>=fun c7=>
 (if c7=true then((fK)>>=fun r9=>
 some r9)
 else((cJ v1 x2)>>=fun r10=>
 (if(r10.2 !=(0))=true then((if((r10.1.length:Int)==(0))=true then((fK)>>=fun r12=>
 some r12)
 else some false:Option Bool)>>=fun c11=>
 some c11)
 else((cZ r10.1 x2.effect x2.instance_)>>=fun r13=>
 ((if(r13.2 !=(0))=true then some true
 else some (!((r13.1.effect==x2.effect)&&((r13.1.instance_==x2.instance_)&&((r13.1.marker==x2.marker)&&true)))):Option Bool)>>=fun c14=>
 ((if c14=true then some true
 else some ((r10.1.length:Int) !=(IntKind.wrap .i64 ((v1.length:Int)+(1)))):Option Bool)>>=fun c15=>
 ((if c15=true then some true
 else((bU r10.1)>>=fun r17=>
 some (r17 !=(0))):Option Bool)>>=fun c16=>
 (if c16=true then some false
 else(((if(x2.instance_==(0))=true then((bW r10.1 x2.effect)>>=fun r19=>
 ((if(r19.2 !=(0))=true then some true
 else((cH r19.1 v1)>>=fun r21=>
 some (!r21)):Option Bool)>>=fun c20=>
 (if c20=true then some (.ret false)
 else some (.nx ()))))
 else some (.nx ())):Option (Ctl Bool Unit))>>=fun o18=>
 (match o18 with
 | .ret q22=>some q22
 | .nx q23=>((if(e3==x2.effect)=true then some true
 else((fD e3)>>=fun r27=>
 some (!r27)):Option Bool)>>=fun c26=>
 (if c26=true then((fK)>>=fun r28=>
 some r28)
 else((bW r10.1 e3)>>=fun r29=>
 ((bW v1 e3)>>=fun r30=>
 ((cJ r30.1 x2)>>=fun r31=>
 ((if(r29.2==(0))=true then some (r30.2==(0))
 else some false:Option Bool)>>=fun c32=>
 ((if c32=true then some (r31.2==(0))
 else some false:Option Bool)>>=fun c33=>
 ((if c33=true then((cH r29.1 r31.1)>>=fun r35=>
 some r35)
 else some false:Option Bool)>>=fun c34=>
 ((if c34=true then((fK)>>=fun r37=>
 some r37)
 else some false:Option Bool)>>=fun c36=>
 some c36)))))))))))))))))))))))
theorem nP: ∀(v1:(List aA))(x2:aA)(e3:Str)(r:Bool),eI v1 x2 e3=some r→ ∀s:ASt,Fc PP (.func 4) [(slA 3<|v1.map aB),(aF x2),(.str e3)] s (dQ s<|.bool r):=by
 intro v1 x2 e3 r u;unfold eI at u;intro s;refine bN rfl rfl rfl ?_;have J:=St.clean s;generalize aV s=σ1 at J⊢;refine aD<|aE<|wu rfl<|wu rfl<|aC<|aD<|aD<|aE<|wu rfl ?_;obtain⟨r4,hr4,u⟩:=bs u;refine wcD (v5 hr4) rfl rfl (.cons rfl .nil)<|wu rfl ?_;obtain⟨c5,hc5,u⟩:=bs u;refine aO 5 [(0,(slA 3<|v1.map aB)),(2,(.str e3)),(4,(.a8 (aF x2) 0)),(26,(.bool c5))] σ1 ?_<|fun e=> ?_
 ·refine aQ (t:=21) rfl (fun hc=> ?_)<|fun hc=> ?_
  ·replace hc5:=bI hc hc5;refine wu rfl<|wu rfl<|wu rfl<|wu rfl<|wu rfl<|aC ?_;cases hc5;exact Kept.mk rfl<|.cons rfl<|.cons rfl<|.cons rfl<|.cons rfl .nil
  ·replace hc5:=bH hc hc5;refine wu rfl<|wu rfl<|wu rfl<|wu rfl<|wu rfl<|aC ?_;cases hc5;exact Kept.mk rfl<|.cons rfl<|.cons rfl<|.cons rfl<|.cons rfl .nil
 ·refine wu rfl ?_;obtain⟨c6,hc6,u⟩:=bs u;refine aO 4 [(0,(slA 3<|v1.map aB)),(2,(.str e3)),(4,(.a8 (aF x2) 0)),(31,(.bool c6))] σ1 ?_<|fun e=> ?_
  ·refine aQ (t:=27) rfl (fun hc=> ?_)<|fun hc=> ?_
   ·replace hc6:=bI hc hc6;refine wu rfl<|wu rfl<|wu rfl<|wu rfl<|aC ?_;cases hc6;exact Kept.mk rfl<|.cons rfl<|.cons rfl<|.cons rfl<|.cons rfl .nil
   ·replace hc6:=bH hc hc6;refine wu rfl<|wu rfl<|wu rfl<|wu rfl<|aC ?_;cases hc6;exact Kept.mk rfl<|.cons rfl<|.cons rfl<|.cons rfl<|.cons rfl .nil
  ·refine wu rfl ?_;obtain⟨c7,hc7,u⟩:=bs u;refine aO 4 [(0,(slA 3<|v1.map aB)),(2,(.str e3)),(4,(.a8 (aF x2) 0)),(36,(.bool c7))] σ1 ?_<|fun e=> ?_
   ·refine aQ (t:=32) rfl (fun hc=> ?_)<|fun hc=> ?_
    ·replace hc7:=bI hc hc7;refine wu rfl<|wu rfl<|wu rfl<|wu rfl<|aC ?_;cases hc7;exact Kept.mk rfl<|.cons rfl<|.cons rfl<|.cons rfl<|.cons rfl .nil
    ·replace hc7:=bH hc hc7;refine wu rfl ?_;obtain⟨r8,hr8,hc7⟩:=bs hc7;refine wcD (wP hr8) rfl rfl (.cons rfl .nil)<|wu rfl<|wu rfl<|aC ?_;cases hc7;exact Kept.mk rfl<|.cons rfl<|.cons rfl<|.cons rfl<|.cons rfl .nil
   ·refine aC ?_;refine aJ u rfl (fun hc u=> ?_)<|fun hc u=> ?_
    ·refine aD<|aE ?_;obtain⟨r9,hr9,u⟩:=bs u;refine wcD (jA hr9) rfl rfl .nil<|wu rfl<|aC<|aL ?_;cases u;exact⟨rfl,_,fun _=>rfl,bB rfl rfl rfl rfl J.ext⟩
    ·refine aP<|aD<|aE<|wu rfl<|wu rfl ?_;obtain⟨r10,h10,u⟩:=bs u;refine wcD (fT h10) rfl rfl (.cons rfl<|.cons rfl .nil)<|wu rfl<|wu rfl<|wu rfl<|wu rfl<|wu rfl<|aC<|aD<|aD<|aE<|wu rfl<|wu rfl<|aC ?_;refine aJ u rfl (fun hc u=> ?_)<|fun hc u=> ?_
     ·refine aD<|aE<|wu rfl<|fS (f:=aB) (l:=r10.1) rfl (.no _)<|wu rfl<|wu rfl ?_;obtain⟨c11,h11,u⟩:=bs u;refine aO 2 [(51,(.bool c11))] σ1 ?_<|fun e=> ?_
      ·refine aQ (t:=49) rfl (fun hc=> ?_)<|fun hc=> ?_
       ·replace h11:=bI hc h11;obtain⟨r12,h12,h11⟩:=bs h11;refine wcD (jA h12) rfl rfl .nil<|wu rfl<|aC ?_;cases h11;exact Kept.mk rfl<|.cons rfl .nil
       ·replace h11:=bH hc h11;refine wu rfl<|wu rfl<|aC ?_;cases h11;exact Kept.mk rfl<|.cons rfl .nil
      ·refine wu rfl<|aC<|aL ?_;cases u;exact⟨rfl,_,fun _=>rfl,bB rfl rfl rfl rfl J.ext⟩
     ·refine aP<|aD<|aE<|wu rfl<|wu rfl<|wu rfl<|wu rfl<|wu rfl ?_;obtain⟨r13,h13,u⟩:=bs u;refine wcD (hZ h13) rfl rfl (.cons rfl<|.cons rfl<|.cons rfl .nil)<|wu rfl<|wu rfl<|wu rfl<|wu rfl<|wu rfl<|wu rfl<|aC<|aD<|aD<|aE<|wu rfl<|wu rfl<|wu rfl ?_;obtain⟨c14,h14,u⟩:=bs u;refine aO 4 [(0,(slA 3<|v1.map aB)),(2,(.str e3)),(4,(.a8 (aF x2) 0)),(7,(slA 3<|r10.1.map aB)),(67,(.bool c14))] σ1 ?_<|fun e=> ?_
      ·refine aQ (t:=63) rfl (fun hc=> ?_)<|fun hc=> ?_
       ·replace h14:=bI hc h14;refine wu rfl<|wu rfl<|wu rfl<|wu rfl<|aC ?_;cases h14;exact Kept.mk rfl<|.cons rfl<|.cons rfl<|.cons rfl<|.cons rfl<|.cons rfl .nil
       ·replace h14:=bH hc h14;refine wu rfl<|wu rfl<|wu rfl<|wu rfl<|aC ?_;cases h14;exact Kept.mk rfl<|.cons rfl<|.cons rfl<|.cons rfl<|.cons rfl<|.cons rfl .nil
      ·refine wu rfl ?_;obtain⟨c15,h15,u⟩:=bs u;refine aO 7 [(0,(slA 3<|v1.map aB)),(2,(.str e3)),(4,(.a8 (aF x2) 0)),(7,(slA 3<|r10.1.map aB)),(75,(.bool c15))] σ1 ?_<|fun e=> ?_
       ·refine aQ (t:=68) rfl (fun hc=> ?_)<|fun hc=> ?_
        ·replace h15:=bI hc h15;refine wu rfl<|wu rfl<|wu rfl<|wu rfl<|wu rfl<|wu rfl<|wu rfl<|aC ?_;cases h15;exact Kept.mk rfl<|.cons rfl<|.cons rfl<|.cons rfl<|.cons rfl<|.cons rfl .nil
        ·replace h15:=bH hc h15;refine wu rfl<|fS (f:=aB) (l:=r10.1) rfl (.no _)<|wu rfl<|fS (f:=aB) (l:=v1) rfl (.no _)<|wu rfl<|wu rfl<|wu rfl<|aC ?_;cases h15;exact Kept.mk rfl<|.cons rfl<|.cons rfl<|.cons rfl<|.cons rfl<|.cons rfl .nil
       ·refine wu rfl ?_;obtain⟨c16,h16,u⟩:=bs u;refine aO 4 [(0,(slA 3<|v1.map aB)),(2,(.str e3)),(4,(.a8 (aF x2) 0)),(7,(slA 3<|r10.1.map aB)),(80,(.bool c16))] σ1 ?_<|fun e=> ?_
        ·refine aQ (t:=76) rfl (fun hc=> ?_)<|fun hc=> ?_
         ·replace h16:=bI hc h16;refine wu rfl<|wu rfl<|wu rfl<|wu rfl<|aC ?_;cases h16;exact Kept.mk rfl<|.cons rfl<|.cons rfl<|.cons rfl<|.cons rfl<|.cons rfl .nil
         ·replace h16:=bH hc h16;refine wu rfl ?_;obtain⟨r17,h17,h16⟩:=bs h16;refine wcD (dR h17) rfl rfl (.cons rfl .nil)<|wu rfl<|wu rfl<|aC ?_;cases h16;exact Kept.mk rfl<|.cons rfl<|.cons rfl<|.cons rfl<|.cons rfl<|.cons rfl .nil
        ·refine aC ?_;refine aJ u rfl (fun hc u=> ?_)<|fun hc u=> ?_
         ·refine aD<|aE<|wu rfl<|aC<|aL ?_;cases u;exact⟨rfl,_,fun _=>rfl,bB rfl rfl rfl rfl J.ext⟩
         ·refine aP<|aD<|aD<|aE<|wu rfl<|wu rfl<|wu rfl<|aC ?_;obtain⟨o18,h18,u⟩:=bs u;refine Wk.mono (Q:=fun ex fr s'=>(match o18 with| .ret oq0=>ex= .ret∧tU PP Code.c4 (VQ (.bool oq0)<|Ext [] [] s) ex fr s'| .nx oq1=>ex= .normal∧ ∃(e:Env),fr=⟨gP e [(0,(slA 3<|v1.map aB)),(2,(.str e3)),(4,(.a8 (aF x2) 0)),(7,(slA 3<|r10.1.map aB))],[]⟩∧σ1=s')) ?_ ?_
          ·refine aJ h18 rfl (fun hc h18=> ?_)<|fun hc h18=> ?_
           ·refine aD<|aE<|wu rfl<|wu rfl<|wu rfl ?_;obtain⟨r19,h19,h18⟩:=bs h18;refine wcD (fW h19) rfl rfl (.cons rfl<|.cons rfl .nil)<|wu rfl<|wu rfl<|wu rfl<|wu rfl<|wu rfl<|aC<|aD<|aE<|wu rfl<|wu rfl<|wu rfl ?_;obtain⟨c20,h20,h18⟩:=bs h18;refine aO 5 [(0,(slA 3<|v1.map aB)),(2,(.str e3)),(4,(.a8 (aF x2) 0)),(7,(slA 3<|r10.1.map aB)),(98,(.bool c20))] σ1 ?_<|fun e=> ?_
            ·refine aQ (t:=93) rfl (fun hc=> ?_)<|fun hc=> ?_
             ·replace h20:=bI hc h20;refine wu rfl<|wu rfl<|wu rfl<|wu rfl<|wu rfl<|aC ?_;cases h20;exact Kept.mk rfl<|.cons rfl<|.cons rfl<|.cons rfl<|.cons rfl<|.cons rfl .nil
             ·replace h20:=bH hc h20;refine wu rfl<|wu rfl ?_;obtain⟨r21,h21,h20⟩:=bs h20;refine wcD (gM h21) rfl rfl (.cons rfl<|.cons rfl .nil)<|wu rfl<|wu rfl<|aC ?_;cases h20;exact Kept.mk rfl<|.cons rfl<|.cons rfl<|.cons rfl<|.cons rfl<|.cons rfl .nil
            ·refine aC ?_;refine aJ h18 rfl (fun hc h18=> ?_)<|fun hc h18=> ?_
             ·refine aD<|aE<|wu rfl<|aC<|aL ?_;cases h18;exact⟨rfl,⟨rfl,_,fun _=>rfl,bB rfl rfl rfl rfl J.ext⟩⟩
             ·refine aP ?_;cases h18;exact⟨rfl,_,frE<|.cons rfl<|.cons rfl<|.cons rfl<|.cons rfl .nil,rfl⟩
           ·refine aP ?_;cases h18;exact⟨rfl,_,frE<|.cons rfl<|.cons rfl<|.cons rfl<|.cons rfl .nil,rfl⟩
          ·rintro _ _ _ hq
           rcases o18 with q22|q23
           ·obtain⟨rfl,hq⟩:=hq;cases u;exact hq
           ·obtain⟨rfl,e25,rfl,rfl⟩:=hq;refine aD<|aD<|aE<|wu rfl<|wu rfl<|wu rfl<|wu rfl<|wu rfl ?_;obtain⟨c26,h26,u⟩:=bs u;refine aO 4 [(0,(slA 3<|v1.map aB)),(2,(.str e3)),(4,(.a8 (aF x2) 0)),(7,(slA 3<|r10.1.map aB)),(107,(.bool c26))] σ1 ?_<|fun e=> ?_
            ·refine aQ (t:=103) rfl (fun hc=> ?_)<|fun hc=> ?_
             ·replace h26:=bI hc h26;refine wu rfl<|wu rfl<|wu rfl<|wu rfl<|aC ?_;cases h26;exact Kept.mk rfl<|.cons rfl<|.cons rfl<|.cons rfl<|.cons rfl<|.cons rfl .nil
             ·replace h26:=bH hc h26;refine wu rfl ?_;obtain⟨r27,h27,h26⟩:=bs h26;refine wcD (lW h27) rfl rfl (.cons rfl .nil)<|wu rfl<|wu rfl<|aC ?_;cases h26;exact Kept.mk rfl<|.cons rfl<|.cons rfl<|.cons rfl<|.cons rfl<|.cons rfl .nil
            ·refine aC ?_;refine aJ u rfl (fun hc u=> ?_)<|fun hc u=> ?_
             ·refine aD<|aE ?_;obtain⟨r28,h28,u⟩:=bs u;refine wcD (jA h28) rfl rfl .nil<|wu rfl<|aC<|aL ?_;cases u;exact⟨rfl,_,fun _=>rfl,bB rfl rfl rfl rfl J.ext⟩
             ·refine aP<|aD<|aE<|wu rfl<|wu rfl ?_;obtain⟨r29,h29,u⟩:=bs u;refine wcD (fW h29) rfl rfl (.cons rfl<|.cons rfl .nil)<|wu rfl<|wu rfl<|wu rfl<|wu rfl<|wu rfl<|aC<|aD<|aE<|wu rfl<|wu rfl ?_;obtain⟨r30,h30,u⟩:=bs u;refine wcD (fW h30) rfl rfl (.cons rfl<|.cons rfl .nil)<|wu rfl<|wu rfl<|wu rfl<|wu rfl<|wu rfl<|aC<|aD<|aE<|wu rfl<|wu rfl ?_;obtain⟨r31,h31,u⟩:=bs u;refine wcD (fT h31) rfl rfl (.cons rfl<|.cons rfl .nil)<|wu rfl<|wu rfl<|wu rfl<|wu rfl<|wu rfl<|aC<|aD<|aE<|wu rfl<|wu rfl<|wu rfl ?_;obtain⟨c32,h32,u⟩:=bs u;refine aO 3 [(13,(slA 3<|r29.1.map aB)),(17,(slA 3<|r31.1.map aB)),(18,(.int .i64 r31.2)),(132,(.bool c32))] σ1 ?_<|fun e=> ?_
              ·refine aQ (t:=129) rfl (fun hc=> ?_)<|fun hc=> ?_
               ·replace h32:=bI hc h32;refine wu rfl<|wu rfl<|wu rfl<|aC ?_;cases h32;exact Kept.mk rfl<|.cons rfl<|.cons rfl<|.cons rfl<|.cons rfl .nil
               ·replace h32:=bH hc h32;refine wu rfl<|wu rfl<|wu rfl<|aC ?_;cases h32;exact Kept.mk rfl<|.cons rfl<|.cons rfl<|.cons rfl<|.cons rfl .nil
              ·refine wu rfl ?_;obtain⟨c33,h33,u⟩:=bs u;refine aO 3 [(13,(slA 3<|r29.1.map aB)),(17,(slA 3<|r31.1.map aB)),(136,(.bool c33))] σ1 ?_<|fun e=> ?_
               ·refine aQ (t:=133) rfl (fun hc=> ?_)<|fun hc=> ?_
                ·replace h33:=bI hc h33;refine wu rfl<|wu rfl<|wu rfl<|aC ?_;cases h33;exact Kept.mk rfl<|.cons rfl<|.cons rfl<|.cons rfl .nil
                ·replace h33:=bH hc h33;refine wu rfl<|wu rfl<|wu rfl<|aC ?_;cases h33;exact Kept.mk rfl<|.cons rfl<|.cons rfl<|.cons rfl .nil
               ·refine wu rfl ?_;obtain⟨c34,h34,u⟩:=bs u;refine aO 4 [(141,(.bool c34))] σ1 ?_<|fun e=> ?_
                ·refine aQ (t:=137) rfl (fun hc=> ?_)<|fun hc=> ?_
                 ·replace h34:=bI hc h34;refine wu rfl<|wu rfl ?_;obtain⟨r35,h35,h34⟩:=bs h34;refine wcD (gM h35) rfl rfl (.cons rfl<|.cons rfl .nil)<|wu rfl<|aC ?_;cases h34;exact Kept.mk rfl<|.cons rfl .nil
                 ·replace h34:=bH hc h34;refine wu rfl<|wu rfl<|wu rfl<|wu rfl<|aC ?_;cases h34;exact Kept.mk rfl<|.cons rfl .nil
                ·refine wu rfl ?_;obtain⟨c36,h36,u⟩:=bs u;refine aO 2 [(144,(.bool c36))] σ1 ?_<|fun e=> ?_
                 ·refine aQ (t:=142) rfl (fun hc=> ?_)<|fun hc=> ?_
                  ·replace h36:=bI hc h36;obtain⟨r37,h37,h36⟩:=bs h36;refine wcD (jA h37) rfl rfl .nil<|wu rfl<|aC ?_;cases h36;exact Kept.mk rfl<|.cons rfl .nil
                  ·replace h36:=bH hc h36;refine wu rfl<|wu rfl<|aC ?_;cases h36;exact Kept.mk rfl<|.cons rfl .nil
                 ·refine wu rfl<|aC<|aL ?_;cases u;exact⟨rfl,_,fun _=>rfl,bB rfl rfl rfl rfl J.ext⟩
theorem nQ{v1:(List aA)}{x2:aA}{e3:Str}{r:Bool}(h:eI v1 x2 e3=some r):Pf PP 4 [(slA 3<|v1.map aB),(aF x2),(.str e3)] (.bool r):=Pf.eJ (nP v1 x2 e3 r h _) rfl (.cons (fU<|b8 aX _)<|.cons (bV _)<|.cons ⟨rfl,rfl⟩ .nil)
end Go.Proofs.Ytfcfnkffgiklpaa
set_option maxRecDepth 100000
namespace Go.Proofs.Ytfcfnkffgiklpaa
open Go Go.Fw
theorem wrap64{x:Int}(h: -9223372036854775808≤x)(h':x<9223372036854775808):IntKind.wrap .i64 x=x:=by
 show(if decide (x%18446744073709551616≥9223372036854775808)=true then x%18446744073709551616-18446744073709551616 else x%18446744073709551616)=x;split<;>rename_i hd
 ·have:=of_decide_eq_true hd;omega
 ·have:=of_decide_eq_false (Bool.eq_false_iff.2 hd);omega
theorem aEo{α:Type}(pre:List α)(y:α)(suf:List α):idx (pre++y::suf) (pre.length:Int)=some y:=by
 unfold idx;rw [if_pos (by omega)];simp
theorem aCo{α:Type}{l:List α}(hl:l.length<4611686018427387904){C:Nat→List α→Prop}
(h0: ∀hd:decide ((l.length:Int)<(l.length:Int))=false,C l.length [])
(h1: ∀(k:Nat)(y:α)(r:List α),l.drop k=y::r→k<l.length→y∈l→decide ((k:Int)<(l.length:Int))=true→idx l (k:Int)=some y→IntKind.wrap .i64 ((k:Int)+1)=((k+1:Nat):Int)→C (k+1) r→C k (y::r)):
  ∀(n k:Nat),k+n=l.length→C k (l.drop k):=by
 intro n
 induction n with
 |zero=>
  intro k hk;have:k=l.length:=by omega
  subst this;rw [List.drop_length];exact h0 (decide_eq_false (by omega))
 |succ n ih=>
  intro k hk;have hlt:k<l.length:=by omega
  have hd:l.drop k=l[k]::l.drop (k+1):=List.drop_eq_getElem_cons hlt;rw [hd];refine h1 k _ _ hd hlt (List.getElem_mem hlt) (decide_eq_true (by omega)) ?_ ?_ (ih (k+1) (by omega))
  ·unfold idx;rw [if_pos (by omega)];simp [hlt]
  ·rw [wrap64 (by omega) (by omega)];omega
theorem mS{α:Type}{l:List α}(hl:l.length<4611686018427387904){C:Nat→List α→Prop}
(h0: ∀hd:decide ((l.length:Int)<(l.length:Int))=false,C l.length [])
(h1: ∀(k:Nat)(y:α)(r:List α),l.drop k=y::r→k<l.length→y∈l→decide ((k:Int)<(l.length:Int))=true→idx l (k:Int)=some y→IntKind.wrap .i64 ((k:Int)+1)=((k+1:Nat):Int)→C (k+1) r→C k (y::r)):C 0 l:=by
 have:=aCo hl h0 h1 l.length 0 (by omega);rwa [List.drop_zero] at this
def mK(c:Nat):Int:=
 if c=32∨c=9∨c=10 then 1 else if c=95∨(97≤c∧c≤122) then 2 else if 65≤c∧c≤90 then 3 else if 48≤c∧c≤57 then 4 else 0
def jQ(c:UInt8):Bool:=(97≤c.toNat&&c.toNat≤122)||(65≤c.toNat&&c.toNat≤90)||(48≤c.toNat&&c.toNat≤57)||c.toNat==95
set_option maxRecDepth 100000 in
theorem aAH: ∀n<256,((97≤n&&n≤122)||(65≤n&&n≤90)||(48≤n&&n≤57)||n==95)=(decide (n≤127)&&decide (2≤mK n)):=by decide
theorem zL(c:UInt8):jQ c=(decide (c.toNat≤127)&&decide (2≤mK c.toNat)):=aAH _ c.toNat_lt
def isWord(s:List UInt8)(first:Int):Bool:=
 match s with
 | []=>false
 |c::_=>decide (s.length≤12)&&decide (mK c.toNat=first)&&s.all jQ
def eY(s:List UInt8):Bool:=isWord s 3
theorem nT(n:Nat):fV (n:Int)=some (mK n):=by
 have e1: ∀k:Nat,((n:Int)==(k:Int))=decide (n=k):=fun k=>by
  by_cases h:n=k
  ·subst h;simp
  ·rw [decide_eq_false h];simp;omega
 have e2: ∀k:Nat,decide ((k:Int)≤(n:Int))=decide (k≤n):=fun k=>by simp
 have e3: ∀k:Nat,decide ((n:Int)≤(k:Int))=decide (n≤k):=fun k=>by simp
 have h32:((n:Int)==32)=decide (n=32):=e1 32;have h9:((n:Int)==9)=decide (n=9):=e1 9;have h10:((n:Int)==10)=decide (n=10):=e1 10;have h95:((n:Int)==95)=decide (n=95):=e1 95;have l97:decide ((97:Int)≤(n:Int))=decide (97≤n):=e2 97;have l65:decide ((65:Int)≤(n:Int))=decide (65≤n):=e2 65;have l48:decide ((48:Int)≤(n:Int))=decide (48≤n):=e2 48;have l122:decide ((n:Int)≤(122:Int))=decide (n≤122):=e3 122;have l90:decide ((n:Int)≤(90:Int))=decide (n≤90):=e3 90;have l57:decide ((n:Int)≤(57:Int))=decide (n≤57):=e3 57;unfold fV mK;rw [h32,h9,h10,h95,l97,l122,l65,l90,l48,l57];by_cases a1:n=32
 ·simp [a1]
 by_cases a2:n=9
 ·simp [a2]
 by_cases a3:n=10
 ·simp [a3]
 by_cases a4:n=95
 ·simp [a4]
 by_cases b1:97≤n<;>by_cases b2:n≤122<;>by_cases c1:65≤n<;>by_cases c2:n≤90<;>by_cases d1:48≤n<;>by_cases d2:n≤57<;>simp [a1,a2,a3,a4,b1,b2,c1,c2,d1,d2]
theorem aCF{t:Str}{pos:Nat}{b:UInt8}(h:t[pos]?=some b)(hb:b.toNat<128):rune t pos=(b.toNat,1):=aDN h hb
theorem aBA{t:Str}{pos:Nat}{b:UInt8}(h:t[pos]?=some b)(hb: ¬b.toNat<128):128≤(rune t pos).1:=aCp h hb
theorem aDh(b:UInt8):IntKind.wrap .u8 (b.toNat:Int)=(b.toNat:Int):=by
 have:=b.toNat_lt;show(if(false&&decide ((b.toNat:Int)%256≥128))=true then(b.toNat:Int)%256-256 else(b.toNat:Int)%256)=(b.toNat:Int)
 rw [Bool.false_and,if_neg (by decide)];omega
theorem kI(s:Str): ∀(n k:Nat),k+n=s.length→dZ s k=some (if(s.drop k).all jQ=true then .nx () else .ret false)
 |0,k,h=>by
  have:k=s.length:=by omega
  subst this;rw [dZ,List.drop_length,if_neg (by simp)]
  rfl
 |n+1,k,h=>by
  have hk:k<s.length:=by omega
  have ih:=kI s n (k+1) (by omega);have hg:s[k]?=some s[k]:=List.getElem?_eq_getElem hk;rw [List.drop_eq_getElem_cons hk,List.all_cons,zL,dZ,if_pos (decide_eq_true hk)];by_cases hb:(s[k]).toNat<128
  ·have e1:decide ((((s[k]).toNat:Nat):Int)>127)=false:=decide_eq_false (by omega);have e2:decide ((s[k]).toNat≤127)=true:=decide_eq_true (by omega);rw [aCF hg hb];simp only [e1,e2,Bool.false_eq_true,if_false,aDh,nT,Option.bind_eq_bind,Option.bind_some,Bool.true_and];by_cases h2:mK (s[k]).toNat<2
   ·rw [decide_eq_true h2,decide_eq_false (p:=2≤mK (s[k]).toNat) (by omega)];simp
   ·rw [decide_eq_false h2,decide_eq_true (p:=2≤mK (s[k]).toNat) (by omega)];simpa [nf] using ih
  ·have hh:=aBA hg hb;have e1:decide ((((rune s k).1:Nat):Int)>127)=true:=decide_eq_true (by omega);have e2:decide ((s[k]).toNat≤127)=false:=decide_eq_false (by omega);simp [e1,e2]
theorem u4{α:Type}(c:α)(r:List α):idx (c::r) 0=some c:=rfl
theorem tX(s:Str)(first:Int):g5 s first=some (isWord s first):=by
 rw [g5];cases s with
 |nil=>rfl
 |cons c r=>
  have e0:((c::r:Str)==([]:Str))=false:=rfl;have hw:=kI (c::r) (c::r).length 0 (by omega);rw [List.drop_zero] at hw;rw [e0,u4];by_cases hl:(c::r).length≤12
  ·have e1:decide ((((c::r).length:Nat):Int)>12)=false:=decide_eq_false (by omega);simp only [e1,Bool.false_eq_true,if_false,nT,Option.bind_eq_bind,Option.bind_some,isWord,decide_eq_true hl,Bool.true_and,hw];by_cases hf:mK c.toNat=first
   ·rw [hf];cases hA:(c::r).all jQ<;>simp
   ·simp [hf]
  ·have e1:decide ((((c::r).length:Nat):Int)>12)=true:=decide_eq_true (by omega);simp only [e1,Bool.false_eq_true,if_false,if_true,Option.bind_eq_bind,Option.bind_some,isWord,decide_eq_false hl,Bool.false_and]
theorem kY(s:Str):dW s=some (eY s):=by rw [dW,tX];rfl
theorem aCv(a b:Nat):decide ((a:Int)≤(b:Int))=decide (a≤b):=by simp
theorem aDv(a b:Nat):decide ((a:Int)≥(b:Int))=decide (b≤a):=by simp
theorem sY(s:Str)(hl:s.length<4611686018427387904):eP s 0=some (if s.all jQ=true then .nx () else .ret false):=by
 refine mS (C:=fun k r=>eP s (k:Int)=some (if r.all jQ=true then .nx () else .ret false)) hl (fun hd=> ?_) fun k y r _ _ _ hlt hi hw ih=> ?_
 ·rw [eP,hd];rfl
 ·rw [eP,if_pos hlt,hi,hw,List.all_cons];have a1:decide (((y.toNat:Nat):Int)≥97)=decide (97≤y.toNat):=aDv _ 97;have a2:decide (((y.toNat:Nat):Int)≤122)=decide (y.toNat≤122):=aCv _ 122;have a3:decide (((y.toNat:Nat):Int)≥65)=decide (65≤y.toNat):=aDv _ 65;have a4:decide (((y.toNat:Nat):Int)≤90)=decide (y.toNat≤90):=aCv _ 90;have a5:decide (((y.toNat:Nat):Int)≥48)=decide (48≤y.toNat):=aDv _ 48;have a6:decide (((y.toNat:Nat):Int)≤57)=decide (y.toNat≤57):=aCv _ 57;have a7:(((y.toNat:Nat):Int)==95)=(y.toNat==95):=by
   by_cases h:y.toNat=95
   ·rw [h];rfl
   ·rw [beq_eq_false_iff_ne.2 h];simp;omega
  simp only [a1,a2,a3,a4,a5,a6,a7,Option.bind_eq_bind,Option.bind_some];have hn:jQ y=(((decide (97≤y.toNat)&&decide (y.toNat≤122))||(decide (65≤y.toNat)&&decide (y.toNat≤90)))||(decide (48≤y.toNat)&&decide (y.toNat≤57))||(y.toNat==95)):=rfl;rw [hn];generalize decide (97≤y.toNat)=b1;generalize decide (y.toNat≤122)=b2;generalize decide (65≤y.toNat)=b3;generalize decide (y.toNat≤90)=b4;generalize decide (48≤y.toNat)=b5;generalize decide (y.toNat≤57)=b6;generalize (y.toNat==95)=b7;cases b1<;>cases b2<;>cases b3<;>cases b4<;>cases b5<;>cases b6<;>cases b7<;>first|exact ih|rfl
def w7(c:UInt8)(lo hi:Nat)(under:Bool):Bool:=(decide (lo≤c.toNat)&&decide (c.toNat≤hi))||(under&&c.toNat==95)
def aFe(s:Str)(lo hi:Nat)(under:Bool):Bool:=match s with| []=>false|c::_=>decide (s.length≤12)&&w7 c lo hi under&&s.all jQ
theorem y1(s:Str)(lo hi:Nat)(under:Bool)(hl:s.length<4611686018427387904):jI s (lo:Int) (hi:Int) under=some (aFe s lo hi under):=by
 rw [jI,rU];cases s with
 |nil=>rfl
 |cons c r=>
  have e1:decide ((1:Int)≤(((c::r).length:Nat):Int))=true:=decide_eq_true (by simp;omega);have e2:decide ((((c::r).length:Nat):Int)≤12)=decide ((c::r).length≤12):=aCv _ 12;have a3:decide (((c.toNat:Nat):Int)≥(lo:Int))=decide (lo≤c.toNat):=aDv _ _;have a4:decide (((c.toNat:Nat):Int)≤(hi:Int))=decide (c.toNat≤hi):=aCv _ _;have a7:(((c.toNat:Nat):Int)==95)=(c.toNat==95):=by
   by_cases h:c.toNat=95
   ·rw [h];rfl
   ·rw [beq_eq_false_iff_ne.2 h];simp;omega
  have hw:=sY (c::r) hl;rw [u4];simp only [e1,e2,a3,a4,a7,if_true,hw,Option.bind_eq_bind,Option.bind_some,aFe,w7];generalize decide ((c::r).length≤12)=b1;generalize decide (lo≤c.toNat)=b2;generalize decide (c.toNat≤hi)=b3;generalize (c.toNat==95)=b4;generalize (c::r).all jQ=b5;cases under<;>cases b1<;>cases b2<;>cases b3<;>cases b4<;>cases b5<;>rfl
set_option maxRecDepth 100000 in
theorem zA: ∀n<256,((decide (65≤n)&&decide (n≤90))||(false&&n==95))=decide (mK n=3):=by decide
theorem mY(s:Str)(hl:s.length<4611686018427387904):fD s=some (eY s):=by
 have h:=y1 s 65 90 false hl;rw [fD];show(jI s ((65:Nat):Int) ((90:Nat):Int) false).bind (fun r2=>some r2)=_;rw [h];unfold eY isWord;cases s with
 |nil=>rfl
 |cons c r=>
  show some (decide ((c::r).length≤12)&&w7 c 65 90 false&&(c::r).all jQ)=some (decide ((c::r).length≤12)&&decide (mK c.toNat=3)&&(c::r).all jQ);rw [←zA _ c.toNat_lt];rfl
theorem nJ: ∀a:Str,Op.bytesLess a a=false
 | []=>rfl
 |x::a=>by
  have: ¬x<x:=by rw [UInt8.lt_iff_toNat_lt];omega
  simp [Op.bytesLess,nJ a,this]
theorem yF: ∀{a b c:Str},Op.bytesLess a b=true→Op.bytesLess b c=true→Op.bytesLess a c=true
 |_,[],_,h,_=>by simp [Op.bytesLess] at h
 |_,_::_,[],_,h=>by simp [Op.bytesLess] at h
 | [],_::_,_::_,_,_=>rfl
 |x::a,y::b,z::c,h1,h2=>by
  simp only [Op.bytesLess,Bool.or_eq_true,Bool.and_eq_true,decide_eq_true_eq,beq_iff_eq,UInt8.lt_iff_toNat_lt] at h1 h2⊢;rcases h1 with h1|⟨rfl,h1⟩
  ·rcases h2 with h2|⟨rfl,h2⟩
   ·exact .inl (by omega)
   ·exact .inl h1
  ·rcases h2 with h2|⟨rfl,h2⟩
   ·exact .inl h2
   ·exact .inr ⟨rfl,yF h1 h2⟩
theorem w6: ∀{a b:Str},Op.bytesLess a b=false→Op.bytesLess b a=false→a=b
 | [],[],_,_=>rfl
 | [],_::_,h,_=>by simp [Op.bytesLess] at h
 |_::_,[],_,h=>by simp [Op.bytesLess] at h
 |x::a,y::b,h1,h2=>by
  simp only [Op.bytesLess,Bool.or_eq_false_iff,decide_eq_false_iff_not,UInt8.lt_iff_toNat_lt] at h1 h2;have hxy:x=y:=UInt8.toNat_inj.1 (by omega);subst hxy;have e:(x==x)=true:=by simp
  simp only [e,Bool.true_and] at h1 h2;rw [w6 h1.2 h2.2]
def ltE(a b:aA):Bool:=Op.bytesLess a.effect b.effect||(a.effect==b.effect&&decide (a.instance_<b.instance_))
def okA(a b:aA):Bool:=ltE a b||(!ltE b a&&decide (b.marker<a.marker))
theorem n5(a:aA):ltE a a=false:=by simp [ltE,nJ]
theorem gY{a b c:aA}(h1:ltE a b=true)(h2:ltE b c=true):ltE a c=true:=by
 simp only [ltE,Bool.or_eq_true,Bool.and_eq_true,decide_eq_true_eq,beq_iff_eq] at h1 h2⊢;rcases h1 with h1|⟨e1,h1⟩
 ·rcases h2 with h2|⟨e2,h2⟩
  ·exact .inl (yF h1 h2)
  ·exact .inl (by rw [←e2];exact h1)
 ·rcases h2 with h2|⟨e2,h2⟩
  ·exact .inl (by rw [e1];exact h2)
  ·exact .inr ⟨e1.trans e2,by omega⟩
theorem uP{a b:aA}(h:ltE a b=true):ltE b a=false:=by
 cases q:ltE b a with
 |false=>rfl
 |true=>have:=gY h q;rw [n5] at this;cases this
theorem nI{a b:aA}(h1:ltE a b=false)(h2:ltE b a=false):a.effect=b.effect∧a.instance_=b.instance_:=by
 simp only [ltE,Bool.or_eq_false_iff,Bool.and_eq_false_iff,decide_eq_false_iff_not,beq_eq_false_iff_ne] at h1 h2;have e:=w6 h1.1 h2.1;refine⟨e,?_⟩;rcases h1.2 with h|h
 ·exact absurd e h
 ·rcases h2.2 with k|k
  ·exact absurd e.symm k
  ·omega
theorem g7{a a' b:aA}(h1:a.effect=a'.effect)(h2:a.instance_=a'.instance_):ltE a b=ltE a' b∧ltE b a=ltE b a':=by simp only [ltE,h1,h2,and_self]
theorem p6{a b c:aA}(h1:ltE b a=false)(h2:ltE c b=false):ltE c a=false:=by
 cases q:ltE c a with
 |false=>rfl
 |true=>
  cases q1:ltE a b with
  |true=>have:=gY q q1;rw [h2] at this;cases this
  |false=>
   obtain⟨e1,e2⟩:=nI q1 h1;have:=(g7 (b:=c) e1 e2).2;rw [q] at this;rw [←this] at h2;cases h2
theorem pE{a b:aA}(h:okA a b=true):ltE b a=false:=by
 simp only [okA,Bool.or_eq_true,Bool.and_eq_true,Bool.not_eq_true'] at h;rcases h with h|h
 ·exact uP h
 ·exact h.1
theorem aBj{a b c:aA}(h1:okA a b=true)(h2:okA b c=true):okA a c=true:=by
 have n1:=pE h1;have n2:=pE h2;have n3:=p6 n1 n2;simp only [okA,Bool.or_eq_true,Bool.and_eq_true,Bool.not_eq_true',decide_eq_true_eq] at h1 h2⊢;rcases h1 with h1|⟨_,h1⟩
 ·rcases h2 with h2|⟨_,h2⟩
  ·exact .inl (gY h1 h2)
  ·cases q:ltE b c with
   |true=>exact .inl (gY h1 q)
   |false=>
    obtain⟨e1,e2⟩:=nI q n2;exact .inl (by rw [←(g7 (b:=a) e1 e2).2];exact h1)
 ·cases q:ltE a b with
  |true=>
   rcases h2 with h2|⟨_,h2⟩
   ·exact .inl (gY q h2)
   ·cases q2:ltE b c with
    |true=>exact .inl (gY q q2)
    |false=>
     obtain⟨e1,e2⟩:=nI q2 n2;exact .inl (by rw [←(g7 (b:=a) e1 e2).2];exact q)
  |false=>
   obtain⟨e1,e2⟩:=nI q n1;rcases h2 with h2|⟨_,h2⟩
   ·exact .inl (by rw [(g7 (b:=c) e1 e2).1];exact h2)
   ·exact .inr ⟨n3,by omega⟩
def aCN(x y:Int):Int:=if x<y then-1 else if y<x then 1 else 0
theorem mO(x y:Int):fG x y=some (aCN x y):=by
 have e1:(x !=x)=false:=by simp
 have e2:(y !=y)=false:=by simp
 rw [fG,g8,g8,e1,e2];unfold aCN;by_cases h:x<y
 ·simp [h]
 ·by_cases k:y<x
  ·simp [h,k]
  ·simp [h,k]
def aEm(x y:Str):Int:=if Op.bytesLess x y=true then-1 else if Op.bytesLess y x=true then 1 else 0
theorem qW(x y:Str):dJ x y=some (aEm x y):=by
 have e1:(x==x)=true:=by simp
 have e2:(y==y)=true:=by simp
 rw [dJ,dU,dU,e1,e2];unfold aEm;cases h:Op.bytesLess x y with
 |true=>simp
 |false=>
  cases k:Op.bytesLess y x with
  |true=>
   have hne:(x==y)=false:=by
    rw [beq_eq_false_iff_ne];rintro rfl;rw [nJ] at k;cases k
   simp [hne]
  |false=>
   have:=w6 h k;subst this;simp
theorem vG(a b:Int):oB [a,b]=some (if a≠0 then a else b):=by
 rw [oB,hY];have i0:idx [a,b] 0=some a:=rfl;have d0:decide ((0:Int)<(([a,b]:List Int).length:Int))=true:=rfl;have w0:IntKind.wrap .i64 ((0:Int)+1)=1:=by decide
 rw [d0,i0,w0];by_cases h:a=0
 ·subst h;have e:((0:Int) !=0)=false:=rfl;simp only [if_true,Option.bind_eq_bind,Option.bind_some,e,Bool.false_eq_true,if_false,nf];rw [hY];have i1:idx [(0:Int),b] 1=some b:=rfl;have d1:decide ((1:Int)<(([(0:Int),b]:List Int).length:Int))=true:=rfl;have w1:IntKind.wrap .i64 ((1:Int)+1)=2:=by decide
  rw [d1,i1,w1];by_cases k:b=0
  ·subst k;have e:((0:Int) !=0)=false:=rfl;simp only [if_true,Option.bind_eq_bind,Option.bind_some,e,Bool.false_eq_true,if_false,nf];rw [hY];have d2:decide ((2:Int)<(([(0:Int),0]:List Int).length:Int))=false:=rfl;rw [d2]
   rfl
  ·have e:(b !=0)=true:=by simpa using k
   simp only [if_true,Option.bind_eq_bind,Option.bind_some,e];simp
 ·have e:(a !=0)=true:=by simpa using h
  simp only [if_true,Option.bind_eq_bind,Option.bind_some,e];simp [h]
def yY(a b:aA):Int:=if ltE a b=true then-1 else if ltE b a=true then 1 else 0
theorem rZ(a b:aA):cQ a b=some (yY a b):=by
 rw [cQ,qW,mO];simp only [Option.bind_eq_bind,Option.bind_some,vG]
 congr 1
 unfold yY aEm aCN ltE;cases h:Op.bytesLess a.effect b.effect with
 |true=>simp
 |false=>
  cases k:Op.bytesLess b.effect a.effect with
  |true=>
   have hne:(a.effect==b.effect)=false:=by
    rw [beq_eq_false_iff_ne];intro e;rw [e,nJ] at k;cases k
   simp [hne]
  |false=>
   have e:=w6 h k;simp [e]
theorem aEg(q y:aA):decide ((if yY q y≠0 then yY q y else aCN y.marker q.marker)≥0)= !okA q y:=by
 unfold yY okA aCN;cases h:ltE q y with
 |true=>simp
 |false=>
  cases k:ltE y q with
  |true=>simp
  |false=>
   by_cases m:y.marker<q.marker
   ·simp [m]
   ·by_cases m2:q.marker<y.marker
    ·simp [m,m2]
    ·simp [m,m2]
theorem aDg(a b:aA):jK a b=some (ltE a b):=by
 rw [jK];unfold ltE;cases Op.bytesLess a.effect b.effect<;>cases (a.effect==b.effect)<;>rfl
theorem aDR(q y:aA):(ltE y q||(!ltE q y&&decide (y.marker≥q.marker)))= !okA q y:=by
 unfold okA;cases h:ltE q y with
 |true=>rw [uP h];rfl
 |false=>
  cases k:ltE y q with
  |true=>rfl
  |false=>
   by_cases m:y.marker<q.marker
   ·simp [m]
   ·simp [m];omega
def vS(y:aA):Bool:=decide (y.instance_<0)||decide (y.marker<0)
def lU:Option aA→List aA→Ctl Int Unit
 |_,[]=> .nx ()
 |p,y::r=>if eY y.effect=true then(if vS y=true then .ret 1 else if(match p with|some q=> !okA q y|none=>false)=true then .ret 1 else lU (some y) r) else .ret 4
def gF(v:List aA):Int:=if v.length>200 then 3 else match lU none v with| .ret q=>q| .nx _=>0
def p7(l:List aA)(k:Nat):Option aA:=match k with|0=>none|k+1=>l[k]?
theorem prev_next{l:List aA}{k:Nat}{y:aA}{r:List aA}(h:l.drop k=y::r):p7 l (k+1)=some y:=by
 show l[k]?=some y;have:(l.drop k)[0]?=some y:=by rw [h];rfl
 rw [List.getElem?_drop] at this;simpa using this
theorem yC{l:List aA}{k:Nat}(hk:k+1<l.length)(hl:l.length<4611686018427387904): ∃q,p7 l (k+1)=some q∧idx l (IntKind.wrap .i64 (((k+1:Nat):Int)-1))=some q:=by
 have hk':k<l.length:=by omega
 refine⟨l[k],List.getElem?_eq_getElem hk',?_⟩;rw [wrap64 (by omega) (by omega)];unfold idx;rw [if_pos (by omega)];have:(((k+1:Nat):Int)-1).toNat=k:=by omega
 rw [this];exact List.getElem?_eq_getElem hk'
theorem jS(v:List aA):bU v=some (gF v):=by
 rw [bU];unfold gF;by_cases hl:v.length>200
 ·have:decide ((v.length:Int)>200)=true:=decide_eq_true (by omega);rw [this,if_pos hl];rfl
 ·have:decide ((v.length:Int)>200)=false:=decide_eq_false (by omega);rw [this,if_neg hl];have hlen:v.length<4611686018427387904:=by omega
  have key:bP v 0=some (lU none v):=by
   refine mS (C:=fun k r=>bP v (k:Int)=some (lU (p7 v k) r)) hlen (fun hd=> ?_) fun k y r hd hk _ hlt hi hw ih=> ?_
   ·rw [bP,hd];rfl
   ·rw [bP,if_pos hlt,hi,hw];rw [prev_next hd] at ih;simp only [Option.bind_eq_bind,Option.bind_some,kY,lU];cases hu:eY y.effect with
    |false=>rfl
    |true=>
     simp only [Bool.not_true,Bool.false_eq_true,if_false,if_true];have hn:(if decide (y.instance_<0)=true then some true else some (decide (y.marker<0)):Option Bool)=some (vS y):=by
      unfold vS;cases decide (y.instance_<0)<;>rfl
     rw [hn];simp only [Option.bind_some];cases vS y with
     |true=>rfl
     |false=>
      simp only [Bool.false_eq_true,if_false];cases k with
      |zero=>
       have:decide (((0:Nat):Int)>0)=false:=rfl;rw [this];simp only [Bool.false_eq_true,if_false,Option.bind_some,p7,nf];exact ih
      |succ k=>
       obtain⟨q,h1,h2⟩:=yC hk hlen;have:decide (((k+1:Nat):Int)>0)=true:=decide_eq_true (by omega);rw [this,h2,h1];simp only [if_true,Option.bind_some,rZ,mO,vG,aEg,nf];rcases Bool.eq_false_or_eq_true (okA q y) with hq|hq
       ·simp only [hq,Bool.not_true,Bool.false_eq_true,if_false];exact ih
       ·simp only [hq,Bool.not_false,if_true]
  rw [key];simp only [Bool.false_eq_true,if_false,Option.bind_eq_bind,Option.bind_some];cases lU none v<;>rfl
theorem u6(v:List aA)(hs: ∀y∈v,y.effect.length≤100):jE v=some (gF v):=by
 rw [jE];unfold gF;by_cases hl:v.length>200
 ·have:decide ((v.length:Int)>200)=true:=decide_eq_true (by omega);rw [this,if_pos hl];rfl
 ·have:decide ((v.length:Int)>200)=false:=decide_eq_false (by omega);rw [this,if_neg hl];have hlen:v.length<4611686018427387904:=by omega
  have key:dN v 0=some (lU none v):=by
   refine mS (C:=fun k r=>dN v (k:Int)=some (lU (p7 v k) r)) hlen (fun hd=> ?_) fun k y r hd hk hm hlt hi hw ih=> ?_
   ·rw [dN,hd];rfl
   ·rw [dN,if_pos hlt,hi,hw];rw [prev_next hd] at ih;simp only [Option.bind_eq_bind,Option.bind_some,mY y.effect (by have:=hs y hm;omega),lU];cases hu:eY y.effect with
    |false=>rfl
    |true=>
     simp only [Bool.not_true,Bool.false_eq_true,if_false,if_true];have hn:(if decide (y.instance_<0)=true then some true else some (decide (y.marker<0)):Option Bool)=some (vS y):=by
      unfold vS;cases decide (y.instance_<0)<;>rfl
     rw [hn];simp only [Option.bind_some];cases vS y with
     |true=>rfl
     |false=>
      simp only [Bool.false_eq_true,if_false];cases k with
      |zero=>
       have:decide (((0:Nat):Int)>0)=false:=rfl;rw [this];simp only [Bool.false_eq_true,if_false,Option.bind_some,p7,nf];exact ih
      |succ k=>
       obtain⟨q,h1,h2⟩:=yC hk hlen;have:decide (((k+1:Nat):Int)>0)=true:=decide_eq_true (by omega);rw [this,h2,h1];simp only [if_true,Option.bind_some,aDg,nf];have hb:((if ltE y q=true then some true else(if(!ltE q y)=true then some (decide (y.marker≥q.marker)) else some false).bind fun c16=>some c16).bind fun c16=>some c16)=some (!okA q y):=by
        rw [←aDR q y];cases ltE y q<;>cases ltE q y<;>rfl
       rw [hb];rcases Bool.eq_false_or_eq_true (okA q y) with hq|hq
       ·simp only [hq,Bool.not_true,Bool.false_eq_true,if_false,Option.bind_some];exact ih
       ·simp only [hq,Bool.not_false,if_true,Option.bind_some]
  rw [key];simp only [Bool.false_eq_true,if_false,Option.bind_eq_bind,Option.bind_some];cases lU none v<;>rfl
def yT(y:aA):Prop:=eY y.effect=true∧vS y=false
structure Valid(v:List aA):Prop where
 len:v.length≤200
 yT: ∀y∈v,yT y
 ok:v.Pairwise fun a b=>okA a b=true
theorem wB: ∀(p:Option aA)(v:List aA),lU p v= .nx ()↔(∀y∈v,yT y)∧v.Pairwise (fun a b=>okA a b=true)∧ ∀q,p=some q→ ∀y∈v,okA q y=true
 |p,[]=>by simp [lU]
 |p,y::r=>by
  have ih:=wB (some y) r;unfold lU;cases hu:eY y.effect with
  |false=>
   simp only [Bool.false_eq_true,if_false,reduceCtorEq,false_iff]
   rintro ⟨h,_⟩
   have:=(h y (by simp)).1;rw [hu] at this;cases this
  |true=>
   cases hn:vS y with
   |true=>
    simp only [if_true,reduceCtorEq,false_iff]
    rintro ⟨h,_⟩
    have:=(h y (by simp)).2;rw [hn] at this;cases this
   |false=>
    simp only [if_true,Bool.false_eq_true,if_false];have hg:yT y:=⟨hu,hn⟩
    have core:(∀q,p=some q→okA q y=true)→(lU (some y) r= .nx ()↔(∀z∈y::r,yT z)∧(y::r).Pairwise (fun a b=>okA a b=true)∧ ∀q,p=some q→ ∀z∈y::r,okA q z=true):=by
     intro hq;rw [ih];constructor
     ·rintro ⟨h1,h2,h3⟩
      refine⟨fun z hz=> ?_,List.pairwise_cons.2 ⟨fun z hz=>h3 y rfl z hz,h2⟩,fun q hp z hz=> ?_⟩
      ·rcases List.mem_cons.1 hz with rfl|hz
       ·exact hg
       ·exact h1 z hz
      ·rcases List.mem_cons.1 hz with rfl|hz
       ·exact hq q hp
       ·exact aBj (hq q hp) (h3 y rfl z hz)
     ·rintro ⟨h1,h2,h3⟩
      rw [List.pairwise_cons] at h2;exact⟨fun z hz=>h1 z (List.mem_cons_of_mem _ hz),h2.2,fun q hp z hz=>by cases hp;exact h2.1 z hz⟩
    cases p with
    |none=>
     simp only [Bool.false_eq_true,if_false];exact core (fun q h=>by cases h)
    |some q=>
     rcases Bool.eq_false_or_eq_true (okA q y) with hq|hq
     ·simp only [hq,Bool.not_true,Bool.false_eq_true,if_false];exact core (fun q' h=>by cases h;exact hq)
     ·simp only [hq,Bool.not_false,if_true,reduceCtorEq,false_iff]
      rintro ⟨_,_,h3⟩
      have:=h3 q rfl y (by simp);rw [hq] at this;cases this
theorem rJ: ∀(p:Option aA)(v:List aA)(q:Int),lU p v= .ret q→q=1∨q=4
 |p,[],q,h=>by simp [lU] at h
 |p,y::r,q,h=>by
  unfold lU at h;split at h
  ·split at h
   ·cases h;exact .inl rfl
   ·rename_i h1 h2;cases p with
    |none=>
     simp only [Bool.false_eq_true,if_false] at h;exact rJ _ _ _ h
    |some q0=>
     rcases Bool.eq_false_or_eq_true (okA q0 y) with hq|hq
     ·simp only [hq,Bool.not_true,Bool.false_eq_true,if_false] at h;exact rJ _ _ _ h
     ·simp only [hq,Bool.not_false,if_true] at h;cases h;exact .inl rfl
  ·cases h;exact .inr rfl
theorem gV(v:List aA):gF v=0↔Valid v:=by
 unfold gF;by_cases hl:v.length>200
 ·rw [if_pos hl];constructor
  ·intro h;cases h
  ·intro h;have:=h.len;omega
 ·rw [if_neg hl];cases h:lU none v with
  |ret q=>
   constructor
   ·intro h0;have:=rJ _ _ _ h;simp only at h0;omega
   ·intro hv;have:=(wB none v).2 ⟨hv.yT,hv.ok,fun q h=>by cases h⟩;rw [this] at h;cases h
  |nx u=>
   constructor
   ·intro _;obtain⟨h1,h2,_⟩:=(wB none v).1 h;exact⟨by omega,h1,h2⟩
   ·intro _;rfl
theorem Valid.sub{v w:List aA}(h:Valid v)(hs:w.Sublist v):Valid w:=
 ⟨Nat.le_trans hs.length_le h.len,fun y hy=>h.yT y (hs.mem hy),h.ok.sublist hs⟩
abbrev pre(v:List aA)(x:aA):List aA:=v.takeWhile (ltE · x)
abbrev suf(v:List aA)(x:aA):List aA:=v.dropWhile (ltE · x)
theorem j0(v:List aA)(x:aA):pre v x++suf v x=v:=List.takeWhile_append_dropWhile
theorem aCI{p:aA→Bool}: ∀{l:List aA}{y:aA},y∈l.takeWhile p→p y=true
 | [],_,h=>by simp at h
 |z::r,y,h=>by
  rw [List.takeWhile_cons] at h;split at h
  ·rename_i hz;rcases List.mem_cons.1 h with rfl|h
   ·exact hz
   ·exact aCI h
  ·simp at h
theorem aAw{v:List aA}{x y:aA}(h:y∈pre v x):ltE y x=true:=aCI (p:=(ltE · x)) h
theorem wN{x:aA}: ∀{v:List aA},v.Pairwise (fun a b=>okA a b=true)→ ∀y∈suf v x,ltE y x=false
 | [],_,y,hy=>by simp at hy
 |z::r,hp,y,hy=>by
  rw [List.pairwise_cons] at hp;unfold suf at hy;rw [List.dropWhile_cons] at hy;split at hy
  ·exact wN hp.2 y hy
  ·rename_i hz;have hz:ltE z x=false:=by simpa using hz
   rcases List.mem_cons.1 hy with rfl|hy
   ·exact hz
   ·exact p6 hz (pE (hp.1 y hy))
theorem n4{x:aA}: ∀{p s:List aA},(∀y∈p,ltE y x=true)→(∀y∈s,ltE y x=false)→pre (p++s) x=p∧suf (p++s) x=s
 | [],s,_,hs=>by
  cases s with
  |nil=>exact⟨rfl,rfl⟩
  |cons z r=>
   have:=hs z (by simp);simp [pre,suf,List.takeWhile_cons,List.dropWhile_cons,this]
 |z::p,s,hp,hs=>by
  have hz:=hp z (by simp);obtain⟨h1,h2⟩:=n4 (p:=p) (fun y hy=>hp y (by simp [hy])) hs;simp only [pre,suf] at h1 h2;simp [pre,suf,List.takeWhile_cons,List.dropWhile_cons,hz,h1,h2]
theorem aAM{x:Int}(h:0≤x)(h':x<18446744073709551616):IntKind.wrap .u64 x=x:=by
 show(if(false&&decide (x%18446744073709551616≥9223372036854775808))=true then x%18446744073709551616-18446744073709551616 else x%18446744073709551616)=x;rw [Bool.false_and,if_neg (by decide)];omega
theorem aEq(i j:Nat)(h:i+j<4611686018427387904):IntKind.wrap .i64 (IntKind.wrap .u64 ((IntKind.wrap .u64 (IntKind.wrap .i64 ((i:Int)+(j:Int)))).fdiv (2^(min (Int.toNat (1)) (IntKind.bits .u64)))))=(((i+j)/2:Nat):Int):=by
 have a1:IntKind.wrap .i64 ((i:Int)+(j:Int))=(i:Int)+(j:Int):=wrap64 (by omega) (by omega);have a2:IntKind.wrap .u64 ((i:Int)+(j:Int))=(i:Int)+(j:Int):=aAM (by omega) (by omega);rw [a1,a2];have e:(2^(min (Int.toNat (1)) (IntKind.bits .u64)):Int)=2:=by decide
 rw [e];have e2:((i:Int)+(j:Int)).fdiv 2=(((i+j)/2:Nat):Int):=by
  rw [Int.fdiv_eq_ediv_of_nonneg _ (by omega)];omega
 rw [e2,aAM (by omega) (by omega),wrap64 (by omega) (by omega)]
theorem aEw(v:List aA)(x y:aA)(i:Nat)(h:v[i]?=some y):cI (i:Int) v x=some (!ltE y x):=by
 rw [cI];have:idx v (i:Int)=some y:=by unfold idx;rw [if_pos (by omega)];exact h
 rw [this];simp only [Option.bind_eq_bind,Option.bind_some,rZ]
 congr 1
 unfold yY;cases h1:ltE y x with
 |true=>rfl
 |false=>cases ltE x y<;>rfl
theorem qE(v:List aA)(x:aA)(hv:v.length<2305843009213693952)(p:Nat)(hp:p≤v.length)(h1: ∀i y,v[i]?=some y→i<p→ltE y x=true)(h2: ∀i y,v[i]?=some y→p≤i→ltE y x=false):
  ∀(n i j:Nat),j-i≤n→i≤p→p≤j→j≤v.length→bG v x (i:Int) (j:Int)=some (p:Int)
 |n,i,j,hn,hi,hj,hjl=>by
  by_cases hij:i<j
  ·have hd:decide ((i:Int)<(j:Int))=true:=decide_eq_true (by omega);rw [bG,if_pos hd,aEq i j (by omega)];have hm:(i+j)/2<v.length:=by omega
   have hg:v[(i+j)/2]?=some v[(i+j)/2]:=List.getElem?_eq_getElem hm;rw [aEw v x _ _ hg];simp only [Option.bind_eq_bind,Option.bind_some,nf,Bool.not_not];cases n with
   |zero=>omega
   |succ n=>
    by_cases hc:(i+j)/2<p
    ·rw [h1 _ _ hg hc];simp only [if_true];have e:IntKind.wrap .i64 ((((i+j)/2:Nat):Int)+1)=(((i+j)/2+1:Nat):Int):=by
      rw [wrap64 (by omega) (by omega)];omega
     rw [e];exact qE v x hv p hp h1 h2 n _ j (by omega) (by omega) hj hjl
    ·rw [h2 _ _ hg (by omega)];simp only [Bool.false_eq_true,if_false];exact qE v x hv p hp h1 h2 n i _ (by omega) hi (by omega) (by omega)
  ·have hd:decide ((i:Int)<(j:Int))=false:=decide_eq_false (by omega);rw [bG,hd];have:i=p:=by omega
   rw [this];rfl
theorem aEs{v:List aA}{x:aA}(hp:v.Pairwise fun a b=>okA a b=true):(∀i y,v[i]?=some y→i<(pre v x).length→ltE y x=true)∧ ∀i y,v[i]?=some y→(pre v x).length≤i→ltE y x=false:=by
 have e:=j0 v x;refine⟨fun i y h hi=> ?_,fun i y h hi=> ?_⟩
 ·rw [←e,List.getElem?_append_left hi] at h;exact aAw (List.mem_of_getElem? h)
 ·rw [←e,List.getElem?_append_right hi] at h;exact wN hp y (List.mem_of_getElem? h)
theorem z4(v:List aA)(x:aA):(pre v x).length≤v.length:=by
 have:=congrArg List.length (j0 v x);rw [List.length_append] at this;omega
theorem rT{v:List aA}(hv:Valid v)(x:aA):cR v x=some ((pre v x).length:Int):=by
 have hl:=hv.len;obtain⟨h1,h2⟩:=aEs (x:=x) hv.ok;have h:=qE v x (by omega) _ (z4 v x) h1 h2 v.length 0 v.length (by omega) (by omega) (z4 v x) (Nat.le_refl _);rw [cR,fE];show(bG v x ((0:Nat):Int) (v.length:Int)).bind (fun o7=>some o7)>>=(fun r3=>some r3)=_;rw [h];rfl
def dG(v:List aA)(x:aA):List aA:=pre v x++x::suf v x
theorem aB0(v:List aA)(x:aA):(dG v x).length=v.length+1:=by
 have:=congrArg List.length (j0 v x);rw [List.length_append] at this;simp only [dG,List.length_append,List.length_cons];omega
theorem oZ(v:List aA)(x:aA):v.take (pre v x).length=pre v x∧v.drop (pre v x).length=suf v x:=by
 have e:=j0 v x;have h1:(pre v x++suf v x).take (pre v x).length=pre v x:=List.take_left' rfl;have h2:(pre v x++suf v x).drop (pre v x).length=suf v x:=List.drop_left' rfl;generalize pre v x=p at e h1 h2⊢;generalize suf v x=s at e h1 h2⊢;subst e;exact⟨h1,h2⟩
theorem xO{v:List aA}(hv:Valid v)(x:aA):dL v x=some (dG v x):=by
 have hl:=hv.len;unfold dL;rw [rT hv x];have hp:=z4 v x;simp only;rw [if_pos ⟨by omega,by omega,by omega⟩];have:(((pre v x).length:Int)).toNat=(pre v x).length:=by omega
 rw [this,(oZ v x).1,(oZ v x).2]
 rfl
def wA(v:List aA)(x:aA):List aA×Int:=
 if gF v≠0 then([],gF v) else if gF (dG v x)≠0 then([],gF (dG v x)) else(dG v x,0)
theorem mV(v:List aA)(x:aA):cJ v x=some (wA v x):=by
 rw [cJ,jS];unfold wA;by_cases h:gF v=0
 ·have hv:=(gV v).1 h;have e:(gF v !=0)=false:=by rw [h];rfl
  simp only [Option.bind_eq_bind,Option.bind_some,e,Bool.false_eq_true,if_false,xO hv x,jS,h,ne_eq,not_true,if_false];by_cases k:gF (dG v x)=0
  ·simp [k]
  ·simp [k]
 ·simp [h]
def isE(e:Str)(n:Int)(y:aA):Bool:=y.effect==e&&y.instance_==n
theorem aAd(e:Str)(n m:Int)(y:aA):isE e n y=(!ltE y ⟨e,n,m⟩&& !ltE ⟨e,n,m⟩ y):=by
 cases h:isE e n y with
 |true=>
  simp only [isE,Bool.and_eq_true,beq_iff_eq] at h;have h1:=(g7 (a:=y) (a':=⟨e,n,m⟩) (b:=⟨e,n,m⟩) h.1 h.2)
  rw [h1.1,h1.2,n5];rfl
 |false=>
  cases h1:ltE y ⟨e,n,m⟩ with
  |true=>rfl
  |false=>
   cases h2:ltE ⟨e,n,m⟩ y with
   |true=>rfl
   |false=>
    obtain⟨k1,k2⟩:=nI h1 h2;simp only at k1 k2;simp [isE,k1,k2] at h
def sW:aA:=⟨[],0,0⟩
def mQ(e:Str)(n:Int)(l:List aA):Option aA:=match l with| []=>none|z::_=>if isE e n z=true then some z else none
theorem zM{v:List aA}(hv:Valid v)(e:Str)(n:Int):dB v e n=some (match mQ e n (suf v ⟨e,n,0⟩) with|some z=>(z,true)|none=>(sW,false)):=by
 rw [dB,rT hv];have hs:=j0 v ⟨e,n,0⟩;cases hq:suf v ⟨e,n,0⟩ with
 |nil=>
  have e1:(pre v ⟨e,n,0⟩).length=v.length:=by
   have:=congrArg List.length hs;rw [List.length_append,hq] at this;simpa using this
  simp only [Option.bind_eq_bind,Option.bind_some,e1];simp [mQ,sW]
 |cons z r=>
  have e1:(pre v ⟨e,n,0⟩).length+(r.length+1)=v.length:=by
   have:=congrArg List.length hs;rw [List.length_append,hq] at this;simpa using this
  have e2:(((pre v ⟨e,n,0⟩).length:Int)==(v.length:Int))=false:=by
   rw [beq_eq_false_iff_ne];omega
  have e3:idx v ((pre v ⟨e,n,0⟩).length:Int)=some z:=by
   have:=aEo (pre v ⟨e,n,0⟩) z r;rwa [←hq,hs] at this
  have e4:(yY z ⟨e,n,0⟩ !=0)= !isE e n z:=by
   rw [aAd e n 0];unfold yY;cases ltE z ⟨e,n,0⟩<;>cases ltE ⟨e,n,0⟩ z<;>rfl
  simp only [Option.bind_eq_bind,Option.bind_some,e2,e3,Bool.false_eq_true,if_false,rZ,e4,mQ];rcases Bool.eq_false_or_eq_true (isE e n z) with h|h
  ·simp [h]
  ·simp [h,sW]
def uM(v:List aA)(e:Str)(n:Int):aA×Int:=
 if gF v≠0 then(sW,gF v) else match mQ e n (suf v ⟨e,n,0⟩) with|some z=>(z,0)|none=>(sW,6)
theorem uK(v:List aA)(e:Str)(n:Int):cZ v e n=some (uM v e n):=by
 rw [cZ,jS];unfold uM;by_cases h:gF v=0
 ·have hv:=(gV v).1 h;have e0:(gF v !=0)=false:=by rw [h];rfl
  simp only [Option.bind_eq_bind,Option.bind_some,e0,Bool.false_eq_true,if_false,zM hv,h,ne_eq,not_true,if_false];cases mQ e n (suf v ⟨e,n,0⟩) with
  |none=>rfl
  |some z=>rfl
 ·simp [h,sW]
def iY(v:List aA)(e:Str):List aA:=match mQ e 0 (suf v ⟨e,0,0⟩) with|some _=>pre v ⟨e,0,0⟩++(suf v ⟨e,0,0⟩).drop 1|none=>v
theorem aBQ(v:List aA)(x:aA):v.drop ((pre v x).length+1)=(suf v x).drop 1:=by
 rw [←(oZ v x).2,List.drop_drop]
theorem zY{v:List aA}(hv:Valid v)(e:Str):eF v e=some (iY v e):=by
 have hl:=hv.len;unfold eF iY;rw [zM hv,rT hv];cases hq:mQ e 0 (suf v ⟨e,0,0⟩) with
 |none=>simp only;rw [if_pos (by omega)]
 |some z=>
  have hlt:(pre v ⟨e,0,0⟩).length<v.length:=by
   have:=congrArg List.length (j0 v ⟨e,0,0⟩);rw [List.length_append] at this;cases hs:suf v ⟨e,0,0⟩ with
   |nil=>rw [hs] at hq;cases hq
   |cons y r=>rw [hs] at this;simp at this;omega
  simp only;have e1:(((pre v ⟨e,0,0⟩).length:Int)).toNat=(pre v ⟨e,0,0⟩).length:=by omega
  rw [if_pos (by omega),if_pos ⟨by omega,by omega⟩,e1,(oZ v _).1,aBQ]
def yS(v:List aA)(e:Str):List aA×Int:=if gF v≠0 then([],gF v) else if eY e=true then(iY v e,0) else([],4)
theorem qJ(v:List aA)(e:Str):bW v e=some (yS v e):=by
 rw [bW,jS];unfold yS;by_cases h:gF v=0
 ·have hv:=(gV v).1 h;have e0:(gF v==0)=true:=by rw [h];rfl
  simp only [Option.bind_eq_bind,Option.bind_some,e0,if_true,kY,h,ne_eq,not_true,if_false,zY hv];cases eY e<;>rfl
 ·have e0:(gF v==0)=false:=by rw [beq_eq_false_iff_ne];exact h
  simp [e0,h]
theorem eqE(y z:aA):((y.effect==z.effect)&&((y.instance_==z.instance_)&&((y.marker==z.marker)&&true)))=true↔y=z:=by
 cases y;cases z;simp
theorem xV(y:aA):((y.effect==y.effect)&&((y.instance_==y.instance_)&&((y.marker==y.marker)&&true)))=true:=(eqE y y).2 rfl
theorem qB(l:List aA)(hl:l.length<4611686018427387904):cH l l=some true:=by
 have key:bR l l 0=some (.nx ()):=by
  refine mS (C:=fun k _=>bR l l (k:Int)=some (.nx ())) hl (fun hd=> ?_) fun k y r _ _ _ hlt hi hw ih=> ?_
  ·rw [bR,hd];rfl
  ·rw [bR,if_pos hlt,hi,hw];simp only [Option.bind_eq_bind,Option.bind_some,xV,Bool.not_true,Bool.false_eq_true,if_false,nf];exact ih
 rw [cH,key];have:((l.length:Int) !=(l.length:Int))=false:=by simp
 rw [this];rfl
theorem aCs(v:List aA): ∃b,jB v=some b∧(b=false→v.length≤300∧ ∀y∈v,y.effect.length≤100):=by
 rw [jB];by_cases hl:v.length>300
 ·have:decide ((v.length:Int)>300)=true:=decide_eq_true (by omega);rw [this];exact⟨true,rfl,fun h=>by cases h⟩
 ·have:decide ((v.length:Int)>300)=false:=decide_eq_false (by omega);rw [this];have key:bX v 0=some (.ret true)∨(bX v 0=some (.nx ())∧ ∀y∈v,y.effect.length≤100):=by
   refine mS (l:=v) (C:=fun k r=>bX v (k:Int)=some (.ret true)∨(bX v (k:Int)=some (.nx ())∧ ∀y∈r,List.length (aA.effect y)≤100)) (by omega) (fun hd=> ?_) fun k y r _ _ _ hlt hi hw ih=> ?_
   ·exact .inr ⟨by rw [bX,hd];rfl,by simp⟩
   ·have e:bX v (k:Int)=if decide ((y.effect.length:Int)>100)=true then some (.ret true) else bX v ((k+1:Nat):Int):=by
     rw [bX,if_pos hlt,hi,hw];simp only [Option.bind_eq_bind,Option.bind_some,nf]
    rw [e];by_cases h:y.effect.length>100
    ·rw [if_pos (decide_eq_true (by omega))];exact .inl rfl
    ·rw [if_neg (by simp;omega)];rcases ih with ih|⟨ih,h2⟩
     ·exact .inl ih
     ·refine .inr ⟨ih,fun z hz=> ?_⟩;rcases List.mem_cons.1 hz with rfl|hz
      ·omega
      ·exact h2 z hz
  rcases key with key|⟨key,h2⟩
  ·rw [key];exact⟨true,rfl,fun h=>by cases h⟩
  ·rw [key];exact⟨false,rfl,fun _=>⟨by omega,h2⟩⟩
theorem iK:fK=some true:=by
 have e1:wA [⟨[69],0,1⟩,⟨[70],0,0⟩] ⟨[69],0,2⟩=([⟨[69],0,2⟩,⟨[69],0,1⟩,⟨[70],0,0⟩],0):=by kernel_rfl
 have e2:uM [⟨[69],0,2⟩,⟨[69],0,1⟩,⟨[70],0,0⟩] [69] 0=(⟨[69],0,2⟩,0):=by kernel_rfl
 have e3:uM [⟨[69],0,2⟩,⟨[69],0,1⟩,⟨[70],0,0⟩] [69] 3=(sW,6):=by kernel_rfl
 rw [fK];simp only [cP,Option.bind_eq_bind,Option.bind_some,mV,uK,e1,e2,e3];rw [qB _ (by decide)]
 rfl
theorem aBi{p s:List aA}{x:aA}(h:Valid (p++x::s)): ∀y∈s,okA x y=true:=by
 have:=(List.pairwise_append.1 h.ok).2.1;exact(List.pairwise_cons.1 this).1
theorem aCc{l:List aA}{x:aA}{p s:List aA}(e:l=p++s)(h1: ∀y∈p,ltE y x=true)(h2: ∀y∈s,ltE y x=false):pre l x=p∧suf l x=s:=by
 subst e;exact n4 h1 h2
theorem m7{l:List aA}(hl:Valid l){e:Str}{p s:List aA}{z:aA}(h:l=p++z::s)(hp: ∀y∈p,isE e 0 y=false)(hz:isE e 0 z=true):iY l e=p++s:=by
 have hz':=hz;rw [aAd e 0 0] at hz';simp only [Bool.and_eq_true,Bool.not_eq_true'] at hz';have hk: ∀y∈p,ltE y ⟨e,0,0⟩=true:=by
  intro y hy;have h1:=hp y hy;rw [aAd e 0 0] at h1;have hyz:okA y z=true:=by
   have:=hl.ok;rw [h,List.pairwise_append] at this;exact this.2.2 y hy z (by simp)
  cases q:ltE y ⟨e,0,0⟩ with
  |true=>rfl
  |false=>
   rw [q] at h1;simp only [Bool.not_false,Bool.true_and,Bool.not_eq_false'] at h1;have:=pE hyz;cases q2:ltE y z with
   |true=>rw [gY h1 q2] at hz';exact absurd hz'.2 (by simp)
   |false=>
    obtain⟨k1,k2⟩:=nI q2 this;rw [(g7 (b:=⟨e,0,0⟩) k1 k2).2,hz'.2] at h1;cases h1
 have hs: ∀y∈z::s,ltE y ⟨e,0,0⟩=false:=by
  intro y hy;rcases List.mem_cons.1 hy with rfl|hy
  ·exact hz'.1
  ·exact p6 hz'.1 (pE (aBi (h▸hl) y hy))
 obtain⟨c1,c2⟩:=aCc h hk hs;unfold iY;rw [c1,c2];simp [mQ,hz]
theorem yE{l:List aA}{e:Str}(h: ∀y∈l,isE e 0 y=false):iY l e=l:=by
 unfold iY;cases hq:suf l ⟨e,0,0⟩ with
 |nil=>rfl
 |cons z r=>
  have:z∈l:=(List.dropWhile_sublist (l:=l) (ltE · ⟨e,0,0⟩)).mem (by rw [show l.dropWhile (ltE · ⟨e,0,0⟩)=z::r from hq];simp);simp [mQ,h z this]
theorem aEU{x:aA}{e:Str}(h:e≠x.effect):isE e 0 x=false:=by
 unfold isE;have:(x.effect==e)=false:=by rw [beq_eq_false_iff_ne];exact fun q=>h q.symm
 rw [this];rfl
theorem mX(p:aA→Bool): ∀l:List aA,(∀y∈l,p y=false)∨ ∃a z b,l=a++z::b∧(∀y∈a,p y=false)∧p z=true
 | []=> .inl (by simp)
 |y::r=>by
  cases h:p y with
  |true=>exact .inr ⟨[],y,r,rfl,by simp,h⟩
  |false=>
   rcases mX p r with k|⟨a,z,b,k1,k2,k3⟩
   ·exact .inl (fun z hz=>by rcases List.mem_cons.1 hz with rfl|hz;exact h;exact k z hz)
   ·exact .inr ⟨y::a,z,b,by rw [k1];rfl,fun z hz=>by rcases List.mem_cons.1 hz with rfl|hz;exact h;exact k2 z hz,k3⟩
theorem aDi{v:List aA}{x:aA}(hv:Valid v)(ha:Valid (dG v x)){e:Str}(he:e≠x.effect):iY (dG v x) e=dG (iY v e) x∧(iY v e).Sublist v∧(iY (dG v x) e).Sublist (dG v x):=by
 have hps:=j0 v x;have hpre: ∀y∈pre v x,ltE y x=true:=fun y hy=>aAw hy;have hsuf: ∀y∈suf v x,ltE y x=false:=wN hv.ok;have hx:=aEU he;have ins_of: ∀p s:List aA,(∀y∈p,ltE y x=true)→(∀y∈s,ltE y x=false)→dG (p++s) x=p++x::s:=fun p s h1 h2=>by
  obtain⟨c1,c2⟩:=n4 h1 h2;unfold dG;rw [c1,c2]
 rcases mX (isE e 0) (pre v x) with h1|⟨a,z,b,h1,h2,h3⟩
 ·rcases mX (isE e 0) (suf v x) with k1|⟨a,z,b,k1,k2,k3⟩
  ·have r1:iY v e=v:=yE (fun y hy=>by rw [←hps] at hy;rcases List.mem_append.1 hy with hy|hy;exact h1 y hy;exact k1 y hy);have r2:iY (dG v x) e=dG v x:=yE (fun y hy=>by
    simp only [dG,List.mem_append,List.mem_cons] at hy;rcases hy with hy|rfl|hy
    ·exact h1 y hy
    ·exact hx
    ·exact k1 y hy)
   rw [r1,r2];exact⟨rfl,.refl _,.refl _⟩
  ·have ev:v=(pre v x++a)++z::b:=by rw [List.append_assoc,←k1,hps]
   have ei:dG v x=(pre v x++x::a)++z::b:=by
    show pre v x++x::suf v x=_;rw [k1];simp
   have r1:iY v e=(pre v x++a)++b:=m7 hv ev (fun y hy=>by rcases List.mem_append.1 hy with hy|hy;exact h1 y hy;exact k2 y hy) k3;have r2:iY (dG v x) e=(pre v x++x::a)++b:=m7 ha ei (fun y hy=>by
    simp only [List.mem_append,List.mem_cons] at hy;rcases hy with hy|rfl|hy
    ·exact h1 y hy
    ·exact hx
    ·exact k2 y hy) k3
   have hab: ∀y∈a++b,ltE y x=false:=fun y hy=>hsuf y (by rw [k1];simp only [List.mem_append,List.mem_cons] at hy⊢;rcases hy with hy|hy;exact .inl hy;exact .inr (.inr hy));have r3:=ins_of (pre v x) (a++b) hpre hab;refine⟨?_,?_,?_⟩
   ·rw [r1,r2,List.append_assoc (pre v x) a b,r3];simp
   ·rw [r1];conv=>rhs;rw [ev]
    exact(List.Sublist.refl _).append (List.sublist_cons_self _ _)
   ·rw [r2];conv=>rhs;rw [ei]
    exact(List.Sublist.refl _).append (List.sublist_cons_self _ _)
 ·have ev:v=a++z::(b++suf v x):=by
   conv=>lhs;rw [←hps,h1]
   simp
  have ei:dG v x=a++z::(b++x::suf v x):=by
   show pre v x++x::suf v x=_;rw [h1];simp
  have r1:iY v e=a++(b++suf v x):=m7 hv ev h2 h3;have r2:iY (dG v x) e=a++(b++x::suf v x):=m7 ha ei h2 h3;have hab: ∀y∈a++b,ltE y x=true:=fun y hy=>hpre y (by rw [h1];simp only [List.mem_append,List.mem_cons] at hy⊢;rcases hy with hy|hy;exact .inl hy;exact .inr (.inr hy));have r3:=ins_of (a++b) (suf v x) hab hsuf;refine⟨?_,?_,?_⟩
  ·rw [r1,r2,←List.append_assoc a b (x::suf v x),←List.append_assoc a b (suf v x),r3]
  ·rw [r1];conv=>rhs;rw [ev]
   exact(List.Sublist.refl _).append (List.sublist_cons_self _ _)
  ·rw [r2];conv=>rhs;rw [ei]
   exact(List.Sublist.refl _).append (List.sublist_cons_self _ _)
theorem aDU(v:List aA)(x:aA)(hv:Valid v):pre (dG v x) x=pre v x∧suf (dG v x) x=x::suf v x:=
 aCc (l:=dG v x) rfl (fun y hy=>aAw hy) (fun y hy=>by
  rcases List.mem_cons.1 hy with rfl|hy
  ·exact n5 _
  ·exact wN hv.ok y hy)
theorem aDL(l:List aA)(x:aA)(m:Int):pre l ⟨x.effect,x.instance_,m⟩=pre l x∧suf l ⟨x.effect,x.instance_,m⟩=suf l x:=by
 have:(ltE · ⟨x.effect,x.instance_,m⟩)=(ltE · x):=funext fun y=>(g7 (a:=⟨x.effect,x.instance_,m⟩) (a':=x) (b:=y) rfl rfl).2;exact⟨congrArg (l.takeWhile ·) this,congrArg (l.dropWhile ·) this⟩
theorem aBs(v:List aA)(x:aA)(e:Str):eI v x e=some true:=by
 obtain⟨b,hb,hs⟩:=aCs v;rw [eI,hb];cases b with
 |true=>simp [iK]
 |false=>
  obtain⟨hl,hs⟩:=hs rfl;by_cases hx:x.effect.length>100
  ·have:decide ((x.effect.length:Int)>100)=true:=decide_eq_true (by omega);simp [this,iK]
  ·have h1:decide ((x.effect.length:Int)>100)=false:=decide_eq_false (by omega);by_cases he:e.length>100
   ·have:decide ((e.length:Int)>100)=true:=decide_eq_true (by omega);simp [h1,this,iK]
   ·have h2:decide ((e.length:Int)>100)=false:=decide_eq_false (by omega);by_cases hc:gF v=0
    ·have hv:=(gV v).1 hc;have e0:(gF v !=0)=false:=by rw [hc];rfl
     simp only [Bool.false_eq_true,if_false,Option.bind_eq_bind,Option.bind_some,h1,h2,u6 v hs,e0,mV];have hins:wA v x=if gF (dG v x)≠0 then([],gF (dG v x)) else(dG v x,0):=by
      unfold wA;rw [if_neg (by simpa using hc)]
     by_cases hi:gF (dG v x)=0
     ·have ha:=(gV _).1 hi;have hins:wA v x=(dG v x,0):=by rw [hins,if_neg (by simpa using hi)]
      have hlen:=aB0 v x;have hal:=ha.len;obtain⟨c1,c2⟩:=aDU v x hv;obtain⟨d1,d2⟩:=aDL (dG v x) x 0;have hself:isE x.effect x.instance_ x=true:=by simp [isE]
      have hfind:uM (dG v x) x.effect x.instance_=(x,0):=by
       unfold uM;rw [if_neg (by simpa using hi),d2,c2];simp [mQ,hself]
      have hw:IntKind.wrap .i64 ((v.length:Int)+1)=(((dG v x).length:Nat):Int):=by
       rw [wrap64 (by omega) (by omega)];omega
      have hne:((((dG v x).length:Nat):Int) !=(((dG v x).length:Nat):Int))=false:=by simp
      have z0:((0:Int) !=0)=false:=rfl;have hxg:eY x.effect=true:=(ha.yT x (by simp [dG])).1;simp only [hins,z0,Bool.false_eq_true,if_false,uK,hfind,Option.bind_some,xV,Bool.not_true,hw,hne,jS,hi];have hrem:x.instance_=0→yS (dG v x) x.effect=(v,0):=by
       intro hz;unfold yS;rw [if_neg (by simpa using hi),if_pos hxg];have:iY (dG v x) x.effect=v:=by
        have d1':pre (dG v x) ⟨x.effect,0,0⟩=pre v x:=by rw [←c1,←d1,hz]
        have d2':suf (dG v x) ⟨x.effect,0,0⟩=x::suf v x:=by rw [←c2,←d2,hz]
        unfold iY;rw [d1',d2'];have:isE x.effect 0 x=true:=by rw [←hz];exact hself
        simp only [mQ,this,if_true,List.drop_succ_cons,List.drop_zero];exact j0 v x
       rw [this]
      have hmid:((if(x.instance_==(0))=true then((bW (dG v x) x.effect).bind fun r19=>((if(r19.2 !=(0))=true then some true else((cH r19.1 v).bind fun r21=>some (!r21)):Option Bool).bind fun c20=>(if c20=true then some (.ret false) else some (.nx ())))) else some (.nx ())):Option (Ctl Bool Unit))=some (.nx ()):=by
       cases hz:(x.instance_==0) with
       |false=>rfl
       |true=>
        rw [qJ,hrem (by simpa using hz)];simp only [if_true,Option.bind_some,z0,Bool.false_eq_true,if_false,qB v (by omega),Bool.not_true]
      rw [hmid];simp only [Option.bind_some];by_cases hxe:e=x.effect
      ·have:(e==x.effect)=true:=by rw [hxe];simp
       simp [this,iK]
      ·have e1:(e==x.effect)=false:=by rw [beq_eq_false_iff_ne];exact hxe
       rw [mY e (by omega)];simp only [e1,Bool.false_eq_true,if_false,Option.bind_some];cases hu:eY e with
       |false=>simp [iK]
       |true=>
        obtain⟨q1,q2,q3⟩:=aDi hv ha hxe;have vr:=hv.sub q2;have va:=ha.sub q3;have m1:yS (dG v x) e=(iY (dG v x) e,0):=by unfold yS;rw [if_neg (by simpa using hi),if_pos hu]
        have m2:yS v e=(iY v e,0):=by unfold yS;rw [if_neg (by simpa using hc),if_pos hu]
        have m3:wA (iY v e) x=(dG (iY v e) x,0):=by
         unfold wA;rw [if_neg (by simpa using (gV _).2 vr),if_neg];rw [←q1];simpa using (gV _).2 va
        have hll:=va.len;simp only [Bool.not_true,Bool.false_eq_true,if_false,Option.bind_some,qJ,mV,m1,m2,m3,beq_self_eq_true,if_true,←q1,qB _ (show(iY (dG v x) e).length<4611686018427387904 by omega),iK]
     ·have hins:wA v x=([],gF (dG v x)):=by rw [hins,if_pos hi]
      have z1:(gF (dG v x) !=0)=true:=by simpa using hi
      simp [hins,z1,iK]
    ·have e0:(gF v !=0)=true:=by simpa using hc
     simp [h1,h2,u6 v hs,e0,iK]
theorem aBP{v0:AV}{b:Bool}(h:gZ v0=some (.bool b)):v0= .bool b:=by
 cases v0 with
 |tuple vs=>simp only [gZ] at h;split at h<;>cases h
 |agg cs=>simp only [gZ,eK] at h;split at h<;>cases h
 |slice sz xs o=>cases o<;>cases h
 |bool c=>cases h;rfl
 |_=>cases h
end Go.Proofs.Ytfcfnkffgiklpaa
namespace Go.Fw
open Go
section
variable {P : Program}
inductive uJ(P:Program):List TypeId→List (List AV)→Prop
 |nil:uJ P [] []
 |cons {t:TypeId} {ts:List TypeId} {c:List AV} {cs:List (List AV)} (h:TyC P t c) (r:uJ P ts cs):uJ P (t::ts) (c::cs)
theorem xZ: ∀{fs:List Field}{css:List (List AV)},css.length=fs.length→(∀(i:Nat)(f:Field)(cs:List AV),fs[i]?=some f→css[i]?=some cs→TyC P f.type cs)→uJ P (fs.map (·.type)) css
 | [],css,hl,_=>by
  have:css= []:=List.length_eq_zero_iff.1 hl;subst this;exact .nil
 |f::fs,[],hl,_=>by simp at hl
 |f::fs,c::css,hl,h=> .cons (h 0 f c rfl rfl) (xZ (by simpa using hl) fun i g cs hg hc=>h (i+1) g cs (by simpa using hg) (by simpa using hc))
theorem TyC.aAr{t:TypeId}{fs:Array Field}{cs:List AV}(hu:P.underlying t=some (.struct fs))(h:TyC P t cs): ∃css,cs=css.flatten∧uJ P (fs.toList.map (·.type)) css:=by
 cases h with
 |struct h hl hc=>
  rw [hu] at h;cases h;exact⟨_,rfl,xZ (by simpa using hl) fun i f cs hf hcs=>hc i f cs (by simpa using hf) hcs⟩
 |bool b h=>rw [hu] at h;cases h
 |int h hn=>rw [hu] at h;cases h
 |str s h hs=>rw [hu] at h;cases h
 |aBY h=>rw [hu] at h;cases h
 |ptr h hc=>rw [hu] at h;cases h
 |slice h hl hc=>rw [hu] at h;cases h
 |array h hl hc=>rw [hu] at h;cases h
theorem TyC.aDt{t:TypeId}{k:IntKind}{cs:List AV}(hu:P.underlying t=some (.int k))(h:TyC P t cs): ∃n,cs= [.int k n]∧k.wrap n=n:=by
 cases h with
 |int h hn=>rw [hu] at h;cases h;exact⟨_,rfl,hn⟩
 |bool b h=>rw [hu] at h;cases h
 |str s h hs=>rw [hu] at h;cases h
 |aBY h=>rw [hu] at h;cases h
 |ptr h hc=>rw [hu] at h;cases h
 |slice h hl hc=>rw [hu] at h;cases h
 |struct h hl hc=>rw [hu] at h;cases h
 |array h hl hc=>rw [hu] at h;cases h
theorem TyC.aDS{t:TypeId}{cs:List AV}(hu:P.underlying t=some .string)(h:TyC P t cs): ∃s,cs= [.str s]∧s.length≤maxLen:=by
 cases h with
 |str s h hs=>exact⟨_,rfl,hs⟩
 |bool b h=>rw [hu] at h;cases h
 |int h hn=>rw [hu] at h;cases h
 |aBY h=>rw [hu] at h;cases h
 |ptr h hc=>rw [hu] at h;cases h
 |slice h hl hc=>rw [hu] at h;cases h
 |struct h hl hc=>rw [hu] at h;cases h
 |array h hl hc=>rw [hu] at h;cases h
theorem TyC.aBU{t e:TypeId}{cs:List AV}(hu:P.underlying t=some (.slice e))(h:TyC P t cs): ∃css:List (List AV),cs= [slA (P.cellsOf e) (css.map (mkV P e))]∧css.length≤maxLen∧ ∀c∈css,TyC P e c:=by
 cases h with
 |slice h hl hc=>rw [hu] at h;cases h;exact⟨_,rfl,hl,hc⟩
 |bool b h=>rw [hu] at h;cases h
 |int h hn=>rw [hu] at h;cases h
 |str s h hs=>rw [hu] at h;cases h
 |aBY h=>rw [hu] at h;cases h
 |ptr h hc=>rw [hu] at h;cases h
 |struct h hl hc=>rw [hu] at h;cases h
 |array h hl hc=>rw [hu] at h;cases h
theorem aDC{e:TypeId}{fs:Array Field}(he:P.underlying e=some (.struct fs))(c:List AV):mkV P e c= .agg c:=by simp [mkV,fY,he]
end
inductive KT where
 |bool
 |int (k:IntKind)
 |str
 |slice (e:TypeId)
 |ptr (e:TypeId)
 |struct (us:List TypeId)
 |array (n:Nat) (e:TypeId)
def kTy(P:Program)(t:TypeId):Option KT:=
 match P.underlying t with
 |some .bool=>some .bool
 |some (.int k)=>some (.int k)
 |some .string=>some .str
 |some (.slice e)=>some (.slice e)
 |some (.pointer e)=>some (.ptr e)
 |some (.struct fs)=>some (.struct (fs.toList.map (·.type)))
 |some (.array n e)=>some (.array n e)
 |_=>none
section
variable {P : Program} {t : TypeId}
theorem aDK{k:IntKind}(h:kTy P t=some (.int k)):P.underlying t=some (.int k):=by
 unfold kTy at h;split at h<;>cases h;assumption
theorem aDP(h:kTy P t=some .str):P.underlying t=some .string:=by
 unfold kTy at h;split at h<;>cases h;assumption
theorem aBK{e:TypeId}(h:kTy P t=some (.slice e)):P.underlying t=some (.slice e):=by
 unfold kTy at h;split at h<;>cases h;assumption
theorem tO{us:List TypeId}(h:kTy P t=some (.struct us)): ∃fs,P.underlying t=some (.struct fs)∧fs.toList.map (·.type)=us:=by
 unfold kTy at h;split at h<;>cases h;exact⟨_,by assumption,rfl⟩
mutual
def msr:AV→Nat
 | .slice _ xs _=>vR xs+1
 | .agg cs=>vR cs+1
 | .a8 v _=>msr v+1
 |_=>1
def vR:List AV→Nat
 | []=>0
 |v::r=>msr v+vR r
end
theorem zQ: ∀{l:List AV}{v:AV},v∈l→msr v≤vR l
 |x::r,v,h=>by
  simp only [vR];rcases List.mem_cons.1 h with rfl|h
  ·omega
  ·have:=zQ h;omega
def RdM{α:Type}(m:Nat)(P:Program)(t:TypeId)(g:α→List AV):Prop:= ∀cs,TyC P t cs→vR cs<m→ ∃x,cs=g x
theorem aEQ{k:IntKind}(h:kTy P t=some (.int k))(m:Nat):RdM m P t fun n=> [.int k n]:=fun cs hc _=>by
 obtain⟨n,rfl,_⟩:=hc.aDt (aDK h);exact⟨n,rfl⟩
theorem aEC(h:kTy P t=some .str)(m:Nat):RdM m P t fun s=> [.str s]:=fun cs hc _=>by
 obtain⟨n,rfl,_⟩:=hc.aDS (aDP h);exact⟨n,rfl⟩
theorem aDx{e:TypeId}{cs:List AV}(h:TyC P e cs):vR cs≤msr (mkV P e cs):=by
 unfold mkV;split
 ·rename_i ha;obtain⟨a,rfl,_⟩:=h.lone ha;simp [vR]
 ·simp only [msr];omega
theorem aEV{α:Type}{g:α→List AV}{f:α→AV}{e:TypeId}{sz:Nat}(h:kTy P t=some (.slice e))(hs:P.cellsOf e=sz)(hf: ∀x,mkV P e (g x)=f x){m:Nat}(hg:RdM m P e g):RdM (m+1) P t fun l:List α=> [slA sz (l.map f)]:=fun cs hc hm=>by
 obtain⟨css,rfl,_,hall⟩:=hc.aBU (aBK h);simp only [slA,vR,msr] at hm;have: ∀c∈css,∃x:α,mkV P e c=f x:=fun c hc=>by
  have h1:=aDx (hall c hc);have h2:=zQ (List.mem_map.2 ⟨c,hc,rfl⟩:mkV P e c∈css.map (mkV P e));obtain⟨x,rfl⟩:=hg c (hall c hc) (by omega);exact⟨x,hf x⟩
 have key: ∀{css:List (List AV)},(∀c∈css,∃x:α,mkV P e c=f x)→ ∃l:List α,css.map (mkV P e)=l.map f:=by
  intro css
  induction css with
  |nil=>intro _;exact⟨[],rfl⟩
  |cons c css ih=>
   intro h;obtain⟨x,hx⟩:=h c (List.mem_cons_self ..);obtain⟨l,h1⟩:=ih fun c hc=>h c (List.mem_cons_of_mem _ hc);exact⟨x::l,by simp [hx,h1]⟩
 obtain⟨l,hl⟩:=key this;exact⟨l,by rw [hl,hs]⟩
theorem aBS{us:List TypeId}(h:kTy P t=some (.struct us)){cs:List AV}(hc:TyC P t cs): ∃css,cs=css.flatten∧uJ P us css:=by
 obtain⟨fs,h1,rfl⟩:=tO h;exact hc.aAr h1
theorem xI{k:KT}(h:kTy P t=some k)(hk:match k with| .struct _=>False| .array _ _=>False|_=>True)(a:AV):mkV P t [a]=a:=by
 unfold kTy at h;unfold mkV fY;split at h<;>cases h<;>first|(simp_all;done)|cases hk
theorem aCY{us:List TypeId}(h:kTy P t=some (.struct us))(cs:List AV):mkV P t cs= .agg cs:=by
 obtain⟨fs,h1,rfl⟩:=tO h;exact aDC h1 cs
theorem RdM.val{α:Type}{g:α→List AV}{f:α→AV}(hg: ∀m,RdM m P t g)(hf: ∀x,mkV P t (g x)=f x){cs:List AV}(h:TyC P t cs): ∃x,mkV P t cs=f x:=by
 obtain⟨x,rfl⟩:=hg _ cs h (Nat.lt_succ_self _);exact⟨x,hf x⟩
end
end Go.Fw
set_option maxRecDepth 100000
namespace Go.Proofs.Ytfcfnkffgiklpaa
open Go Go.Fw
theorem rd9(m:Nat):RdM m Try.prog 9 (fun x:Str=> [(.str x)]):=aEC (by kernel_rfl) m
theorem rd3(m:Nat):RdM m Try.prog 3 (fun x:Int=> [(.int .i64 x)]):=aEQ (by kernel_rfl) m
theorem aFd(m:Nat):RdM m Try.prog 24 (fun x:aA=> [(.str x.effect),(.int .i64 x.instance_),(.int .i64 x.marker)]):=fun cs hc hm=>by
 obtain⟨css,rfl,h⟩:=aBS (us:= [9,3,3]) (by kernel_rfl) hc;cases h with|cons h0 h=>
 cases h with|cons h1 h=>
 cases h with|cons h2 h=>
 cases h;obtain⟨x0,rfl⟩:=rd9 _ _ h0 (Nat.lt_succ_self _);obtain⟨x1,rfl⟩:=rd3 _ _ h1 (Nat.lt_succ_self _);obtain⟨x2,rfl⟩:=rd3 _ _ h2 (Nat.lt_succ_self _);exact⟨⟨x0,x1,x2⟩,rfl⟩
theorem aFn(m:Nat):RdM m Try.prog 22 (fun x:(List aA)=> [(slA 3 (x.map aB))]):=fun cs hc hm=>aEV (by kernel_rfl) (by kernel_rfl) (fun x=>aCY (us:= [9,3,3]) (by kernel_rfl) _) (aFd m) cs hc (Nat.lt_succ_of_lt hm)
theorem aFo{cs:List AV}(h:TyC Try.prog 22 cs): ∃x:(List aA),mkV Try.prog 22 cs=(aFm 3 aB) x:=RdM.val aFn (fun x=>xI (k:= .slice 24) (by kernel_rfl) trivial _) h
theorem aFl{cs:List AV}(h:TyC Try.prog 24 cs): ∃x:aA,mkV Try.prog 24 cs=aB x:=RdM.val aFd (fun x=>aCY (us:= [9,3,3]) (by kernel_rfl) _) h
theorem rv9{cs:List AV}(h:TyC Try.prog 9 cs): ∃x:Str,mkV Try.prog 9 cs=AV.str x:=RdM.val rd9 (fun x=>xI (k:= .str) (by kernel_rfl) trivial _) h
end Go.Proofs.Ytfcfnkffgiklpaa
set_option maxRecDepth 100000
namespace Go.Proofs.Ytfcfnkffgiklpaa.Code
open Go Go.Fw
theorem fk{P:Program}{k:Nat}{fn:Func}{a:AF}(h:Hint)(h1:P.funcs[k]?=some fn)(h2:mP P h fn=some a)(h3:(gA fn.ntmps false a.body&& !(fn.name== "runtime.NumGoroutine"))=true):eW P k a:=by
 simp only [Bool.and_eq_true,Bool.not_eq_true'] at h3;exact⟨fn,h,h1,h2,h3.1,h3.2⟩
theorem fd{k:Nat}{h:Hint}(h2:(match Try.prog.funcs[k]? with|some fn=>(mP Try.prog h fn).isSome&&gA fn.ntmps false (ck h fn).body&& !(fn.name== "runtime.NumGoroutine")|none=>false)=true):eW Try.prog k (cD k h):=by
 unfold cD;cases hf:Try.prog.funcs[k]? with
 |none=>rw [hf] at h2;cases h2
 |some fn=>
  rw [hf] at h2;simp only [Bool.and_eq_true,Bool.not_eq_true'] at h2;refine⟨fn,h,hf,?_,h2.1.2,h2.2⟩;show mP Try.prog h fn=some (ck h fn);unfold ck;cases hc:mP Try.prog h fn with
  |none=>rw [hc] at h2;exact absurd h2.1.1 (by decide)
  |some a=>rfl
theorem q3:eW Try.prog 3 c3:=fk ⟨[5],[19,17],[109,91,81,76,74,70,63,56,50,44,38,34,22],[],[],[]⟩ Try.func3 (by kernel_rfl) (by kernel_rfl)
theorem q4:eW Try.prog 4 c4:=fk ⟨[4],[9],[143,140,124,118,112,108,105,96,88,78,58,50,41,37,34,20],[],[],[]⟩ Try.func4 (by kernel_rfl) (by kernel_rfl)
theorem q5:eW Try.prog 5 c5:=fk hz Try.func5 (by kernel_rfl) (by kernel_rfl)
theorem q6:eW Try.prog 6 c6:=fk ⟨[],[6,4],[40,26,21,16,10,12,15],[],[49,38,36,34],[]⟩ Try.func6 (by kernel_rfl) (by kernel_rfl)
theorem q7:eW Try.prog 7 c7:=fk ⟨[3],[],[18,16,10],[],[],[]⟩ Try.func7 (by kernel_rfl) (by kernel_rfl)
theorem q8:eW Try.prog 8 c8:=fk ⟨[3],[],[18,16,10],[],[],[]⟩ Try.func8 (by kernel_rfl) (by kernel_rfl)
theorem q9:eW Try.prog 9 c9:=fk ⟨[],[],[21,13,8],[],[],[]⟩ Try.func9 (by kernel_rfl) (by kernel_rfl)
theorem q10:eW Try.prog 10 c10:=fk ⟨[],[],[17,13,8],[],[],[]⟩ Try.func10 (by kernel_rfl) (by kernel_rfl)
theorem q11:eW Try.prog 11 c11:=fk ⟨[],[9],[21,12],[],[],[]⟩ Try.func11 (by kernel_rfl) (by kernel_rfl)
theorem q12:eW Try.prog 12 c12:=fk ⟨[],[],[19,11],[],[],[]⟩ Try.func12 (by kernel_rfl) (by kernel_rfl)
theorem q13:eW Try.prog 13 c13:=fk ⟨[],[4],[50,48,18],[],[39],[]⟩ Try.func13 (by kernel_rfl) (by kernel_rfl)
theorem q14:eW Try.prog 14 c14:=fk ⟨[],[],[57,46,18],[],[],[]⟩ Try.func14 (by kernel_rfl) (by kernel_rfl)
theorem q15:eW Try.prog 15 c15:=fk hz Try.func15 (by kernel_rfl) (by kernel_rfl)
theorem q16:eW Try.prog 16 c16:=fk ⟨[],[],[4],[],[],[]⟩ Try.func16 (by kernel_rfl) (by kernel_rfl)
theorem q17:eW Try.prog 17 c17:=fk hz Try.func17 (by kernel_rfl) (by kernel_rfl)
theorem q19:eW Try.prog 19 c19:=fk ⟨[3],[],[16],[24],[],[]⟩ Try.func19 (by kernel_rfl) (by kernel_rfl)
theorem q20:eW Try.prog 20 c20:=fk ⟨[],[],[4],[],[],[]⟩ Try.func20 (by kernel_rfl) (by kernel_rfl)
theorem q22:eW Try.prog 22 c22:=fk ⟨[],[],[8],[],[],[]⟩ Try.func22 (by kernel_rfl) (by kernel_rfl)
theorem q23:eW Try.prog 23 c23:=fk ⟨[],[8],[26,15],[],[],[]⟩ Try.func23 (by kernel_rfl) (by kernel_rfl)
theorem q24:eW Try.prog 24 c24:=fk hz Try.func24 (by kernel_rfl) (by kernel_rfl)
theorem q25:eW Try.prog 25 c25:=fk hz Try.func25 (by kernel_rfl) (by kernel_rfl)
theorem q26:eW Try.prog 26 c26:=fk ⟨[3,2],[],[16,14],[],[9],[]⟩ Try.func26 (by kernel_rfl) (by kernel_rfl)
theorem q27:eW Try.prog 27 c27:=fk ⟨[],[],[10,8],[],[],[]⟩ Try.func27 (by kernel_rfl) (by kernel_rfl)
theorem q28:eW Try.prog 28 c28:=fk ⟨[3,2],[],[],[],[],[]⟩ Try.func28 (by kernel_rfl) (by kernel_rfl)
theorem q29:eW Try.prog 29 c29:=fk ⟨[],[],[13],[],[],[]⟩ Try.func29 (by kernel_rfl) (by kernel_rfl)
theorem q32:eW Try.prog 32 c32:=fk ⟨[3,2],[],[8],[],[],[]⟩ Try.func32 (by kernel_rfl) (by kernel_rfl)
theorem q33:eW Try.prog 33 c33:=fk ⟨[],[],[31,17],[],[],[]⟩ Try.func33 (by kernel_rfl) (by kernel_rfl)
theorem q35:eW Try.prog 35 c35:=fk ⟨[],[],[10,8],[],[],[]⟩ Try.func35 (by kernel_rfl) (by kernel_rfl)
theorem q36:eW Try.prog 36 c36:=fk hz Try.func36 (by kernel_rfl) (by kernel_rfl)
theorem q37:eW Try.prog 37 c37:=fk hz Try.func37 (by kernel_rfl) (by kernel_rfl)
theorem q40:eW Try.prog 40 c40:=fk ⟨[],[],[20],[],[],[]⟩ Try.func40 (by kernel_rfl) (by kernel_rfl)
theorem q41:eW Try.prog 41 c41:=fk ⟨[],[],[10],[],[],[]⟩ Try.func41 (by kernel_rfl) (by kernel_rfl)
theorem q42:eW Try.prog 42 c42:=fk hz Try.func42 (by kernel_rfl) (by kernel_rfl)
theorem q43:eW Try.prog 43 c43:=fk hz Try.func43 (by kernel_rfl) (by kernel_rfl)
theorem aC1:tab.list= [(3,c3),(4,c4),(5,c5),(6,c6),(7,c7),(8,c8),(9,c9),(10,c10),(11,c11),(12,c12),(13,c13),(14,c14),(15,c15),(16,c16),(17,c17),(19,c19),(20,c20),(22,c22),(23,c23),(24,c24),(25,c25),(26,c26),(27,c27),(28,c28),(29,c29),(32,c32),(33,c33),(35,c35),(36,c36),(37,c37),(40,c40),(41,c41),(42,c42),(43,c43)]:=by kernel_rfl
theorem aEi: ∀p∈tab.list,eW Try.prog p.1 p.2:=by
 rw [aC1];exact aEn<|.cons q3<|.cons q4<|.cons q5<|.cons q6<|.cons q7<|.cons q8<|.cons q9<|.cons q10<|.cons q11<|.cons q12<|.cons q13<|.cons q14<|.cons q15<|.cons q16<|.cons q17<|.cons q19<|.cons q20<|.cons q22<|.cons q23<|.cons q24<|.cons q25<|.cons q26<|.cons q27<|.cons q28<|.cons q29<|.cons q32<|.cons q33<|.cons q35<|.cons q36<|.cons q37<|.cons q40<|.cons q41<|.cons q42<|.cons q43<|.nil
end Go.Proofs.Ytfcfnkffgiklpaa.Code
set_option maxRecDepth 100000
namespace Go.Proofs.Ytfcfnkffgiklpaa
open Go Go.Fw
theorem p9: ∀avs,Typed Try.prog [22,24,9] avs→ ∃n s',(cC PP n).call (.func 4) avs dE=some (.ret (.bool true),s'):=by
 intro avs h;cases h with|cons h1 h=>
 cases h with|cons h2 h=>
 cases h with|cons h3 h=>
 cases h;obtain⟨v,hv⟩:=aFo h1;obtain⟨x,hx⟩:=aFl h2;obtain⟨e,he⟩:=rv9 h3;rw [hv,hx,he];have hp:=nQ (aBs v x e);obtain⟨⟨r,s'⟩,N,⟨v0,h1,h2⟩,h3⟩:=hp.ev.out;simp only at h1;subst h1;refine⟨N,s',(h3 N (Nat.le_refl _)).trans ?_⟩
 congr 3
 exact aBP h2
end Go.Proofs.Ytfcfnkffgiklpaa
namespace Go.Proofs.Ytfcfnkffgiklpaa
open Go Go.Fw
theorem aD1:POk Try.prog PP:=by
 have h:=aBE (P:=Try.prog) (t:=Code.tab) (gl:=gl0) Code.aEi (by kernel_rfl) (by kernel_rfl);exact⟨h.fn,h.kA,h.mixed⟩
theorem aDr:rX Try.prog PP:=aCG aD1.kA rfl
end Go.Proofs.Ytfcfnkffgiklpaa
namespace Go.Proofs.Ytfcfnkffgiklpaa
open Go Go.Fw Go.ChangeShapes Go.WideShapes Go.ChangeAt Go.RowKit
set_option maxRecDepth 100000
theorem qH:ownKnob Try.prog.godebug=none:=by kernel_rfl
def gU:List TypeId:= [22,24,9,3]
theorem nO(os:Os)(started:os.Started)(H:Type)(enc:TypeId×Value→H):
  ReturnsInHanded {} Try.checked os 4 .any (fun w args=>(Rows.evidenceLawsSpec.pre enc Try.prog Try.f4 Rows.evidenceLawsRow.domain false w args∧laidMetH Try.prog Rows.evidenceLawsRow.laid w)∧sizedMet enc Try.prog Try.f4 (OpenSpec.ofChange Rows.evidenceLawsSpec) false w args)
   (Rows.evidenceLawsSpec.post enc Try.prog Try.f4 false true false false):=by
 refine returnsInHanded_of_change_and (C:=Try.checked) (X:=fun w _=>laidMetH Try.prog Rows.evidenceLawsRow.laid w) (fun _ _ _ hh h=>h.of_heap hh) qH started (by kernel_rfl) Try.func4
  (ChangeSpec.witness_shaped (enc:=enc) (C:=Try.checked) (os:=os) (X:=fun w _=>laidMetH Try.prog Rows.evidenceLawsRow.laid w) false (World.laidAll Try.prog os Rows.evidenceLawsRow.laid) #[.slice none 0 0,.agg #[.string ⟨#[]⟩,.int .i64 0,.int .i64 0],.string ⟨#[]⟩] 8 (World.laidAll_os _ _ _)
   (World.shaped_of_ZipB (by kernel_rfl) (by kernel_rfl)) (by kernel_rfl) (by kernel_rfl) (by kernel_rfl)
   (by rw [MakeChecks.laidMetH_plain _ _ _ (by kernel_rfl)];exact laidMet_laidAll _ (by kernel_rfl) (by kernel_rfl))) ?_
 intro W base args ds gs before hval0 hW hc _ hL _;have hval: ∀(j:Nat) t v,Try.f4.params[j]?=some t→args[j]?=some v→Value.okWide Try.prog W .any base t v:=hval0;have hL2:laidMetH Try.prog Rows.evidenceLawsRow.laid W:=hL;rw [MakeChecks.laidMetH_plain _ _ _ (by kernel_rfl)] at hL2;obtain⟨lps,hLV,_⟩:=hL2;have hts:gU.all (yU Try.prog gU)=true:=by kernel_rfl
 have hg:cS (PP) (G0 W):=fun g=>aAU hts (by kernel_rfl) (by kernel_rfl) hLV g;exact wL (P:=Try.prog) (P':=PP) (ts:=gU) aD1 aDr (f:=4) (fn:=Try.f4) (af:=Code.c4) (by kernel_rfl) hts (by kernel_rfl) (by kernel_rfl) (by kernel_rfl) (tb:=4) (by kernel_rfl) (by kernel_rfl) (s:=Rows.evidenceLawsSpec) rfl
  (fun ds hl=>by
   have hl':ds.length=3:=hl
   match ds,hl' with
   | [d0,d1,d2],_=>simp [Rows.evidenceLawsSpec])
  (fun avs h=>p9 avs h) hval hW hg
theorem evidenceLaws_holds:Rows.EvidenceLawsSaid:=
 OpenClaim.holds_of_wide 4 Try.f4 rfl rfl rfl rfl rfl rfl rfl ⟨rfl,rfl,rfl,rfl,rfl⟩ rfl rfl rfl rfl rfl (by kernel_rfl) Try.func4 (by kernel_rfl)
  (of_decide_eq_true (by kernel_rfl)) (by unfold Func.isWrapper;first|(rw [if_pos (by decide+kernel)];kernel_rfl)|(rw [if_neg (by decide+kernel)];exact⟨rfl,rfl⟩))
  (fun os started H enc _=>by rw [OpenClaim.pre_eq_preRow];exact nO os started H enc)
end Go.Proofs.Ytfcfnkffgiklpaa
