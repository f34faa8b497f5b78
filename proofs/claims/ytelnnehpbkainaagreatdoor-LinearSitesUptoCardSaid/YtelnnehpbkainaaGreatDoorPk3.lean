/- Our own framework, the program's cooked code, and the proofs that a claim leans on: joined and shortened by a program of the prover's own. -/
import Derived.Test.YtelnnehpbkainaaGreatDoorPk2
set_option linter.unusedVariables false
set_option linter.unusedSimpArgs false
set_option maxRecDepth 100000
set_option maxHeartbeats 4000000
set_option synthInstance.maxSize 10000
namespace Go.Proofs.YtelnnehpbkainaaGreatDoor
open Go Go.Fw
noncomputable def mK(c1:Int):Option Int:=
 ((if(c1==(32))=true then some true
 else some (c1==(9)):Option Bool)>>=fun c2=>
 ((if c2=true then some true
 else some (c1==(10)):Option Bool)>>=fun c3=>
 (if c3=true then some (1)
 else((if(c1==(95))=true then some true
 else((if(decide ((97)≤c1))=true then some (decide (c1≤(122)))
 else some false:Option Bool)>>=fun c5=>
 some c5):Option Bool)>>=fun c4=>
 (if c4=true then some (2)
 else((if(decide ((65)≤c1))=true then some (decide (c1≤(90)))
 else some false:Option Bool)>>=fun c6=>
 (if c6=true then some (3)
 else((if(decide ((48)≤c1))=true then some (decide (c1≤(57)))
 else some false:Option Bool)>>=fun c7=>
 (if c7=true then some (4)
 else some (0))))))))))
theorem aDi: ∀(c1:Int)(r:Int),mK c1=some r→ ∀s:ASt,Fc PP (.func 164) [(.int .u8 c1)] s (dZ s<|.i r):=by
 intro c1 r u;unfold mK at u;intro s;refine bZ rfl rfl rfl ?_;have J:=St.clean s;generalize aT s=σ1 at J⊢;refine aD<|aE<|wu rfl<|aB<|aD<|aQ<|aD<|aE<|wu rfl<|wu rfl<|wu rfl ?_;obtain⟨c2,hc2,u⟩:=bs u;refine bF 3 [(0,(.int .u8 c1)),(9,(.bool c2))] σ1 ?_<|fun e=> ?_
 ·refine bE (t:=6) rfl (fun hc=> ?_)<|fun hc=> ?_
  ·replace hc2:=bP hc hc2;refine wu rfl<|wu rfl<|wu rfl<|aB ?_;cases hc2;exact Kept.mk rfl<|.cons rfl<|.cons rfl .nil
  ·replace hc2:=bO hc hc2;refine wu rfl<|wu rfl<|wu rfl<|aB ?_;cases hc2;exact Kept.mk rfl<|.cons rfl<|.cons rfl .nil
 ·refine wu rfl ?_;obtain⟨c3,hc3,u⟩:=bs u;refine bF 3 [(0,(.int .u8 c1)),(13,(.bool c3))] σ1 ?_<|fun e=> ?_
  ·refine bE (t:=10) rfl (fun hc=> ?_)<|fun hc=> ?_
   ·replace hc3:=bP hc hc3;refine wu rfl<|wu rfl<|wu rfl<|aB ?_;cases hc3;exact Kept.mk rfl<|.cons rfl<|.cons rfl .nil
   ·replace hc3:=bO hc hc3;refine wu rfl<|wu rfl<|wu rfl<|aB ?_;cases hc3;exact Kept.mk rfl<|.cons rfl<|.cons rfl .nil
  ·refine wu rfl<|aB ?_;refine aH u rfl (fun hc u=> ?_)<|fun hc u=> ?_
   ·refine aD<|aE<|wu rfl<|aB<|aL ?_;cases u;exact⟨rfl,_,fun _=>rfl,bK rfl rfl rfl rfl J.ext⟩
   ·refine aD<|aE<|wu rfl<|wu rfl<|wu rfl ?_;obtain⟨c4,hc4,u⟩:=bs u;refine bF 7 [(0,(.int .u8 c1)),(24,(.bool c4))] σ1 ?_<|fun e=> ?_
    ·refine bE (t:=17) rfl (fun hc=> ?_)<|fun hc=> ?_
     ·replace hc4:=bP hc hc4;refine wu rfl<|wu rfl<|wu rfl<|wu rfl<|wu rfl<|wu rfl<|wu rfl<|aB ?_;cases hc4;exact Kept.mk rfl<|.cons rfl<|.cons rfl .nil
     ·replace hc4:=bO hc hc4
      iterate 3 refine wu rfl ?_
      obtain⟨c5,hc5,hc4⟩:=bs hc4;refine bF 3 [(0,(.int .u8 c1)),(17,(.bool false)),(23,(.bool c5))] σ1 ?_<|fun e=> ?_
      ·refine bE (t:=20) rfl (fun hc=> ?_)<|fun hc=> ?_
       ·replace hc5:=bP hc hc5;refine wu rfl<|wu rfl<|wu rfl<|aB ?_;cases hc5;exact Kept.mk rfl<|.cons rfl<|.cons rfl<|.cons rfl .nil
       ·replace hc5:=bO hc hc5;refine wu rfl<|wu rfl<|wu rfl<|aB ?_;cases hc5;exact Kept.mk rfl<|.cons rfl<|.cons rfl<|.cons rfl .nil
      ·refine wu rfl<|aB ?_;cases hc4;exact Kept.mk rfl<|.cons rfl<|.cons rfl .nil
    ·refine wu rfl<|aB ?_;refine aH u rfl (fun hc u=> ?_)<|fun hc u=> ?_
     ·refine aD<|aE<|wu rfl<|aB<|aL ?_;cases u;exact⟨rfl,_,fun _=>rfl,bK rfl rfl rfl rfl J.ext⟩
     ·refine aD<|aE<|wu rfl<|wu rfl<|wu rfl ?_;obtain⟨c6,hc6,u⟩:=bs u;refine bF 3 [(0,(.int .u8 c1)),(31,(.bool c6))] σ1 ?_<|fun e=> ?_
      ·refine bE (t:=28) rfl (fun hc=> ?_)<|fun hc=> ?_
       ·replace hc6:=bP hc hc6;refine wu rfl<|wu rfl<|wu rfl<|aB ?_;cases hc6;exact Kept.mk rfl<|.cons rfl<|.cons rfl .nil
       ·replace hc6:=bO hc hc6;refine wu rfl<|wu rfl<|wu rfl<|aB ?_;cases hc6;exact Kept.mk rfl<|.cons rfl<|.cons rfl .nil
      ·refine wu rfl<|aB ?_;refine aH u rfl (fun hc u=> ?_)<|fun hc u=> ?_
       ·refine aD<|aE<|wu rfl<|aB<|aL ?_;cases u;exact⟨rfl,_,fun _=>rfl,bK rfl rfl rfl rfl J.ext⟩
       ·refine aD<|aE<|wu rfl<|wu rfl<|wu rfl ?_;obtain⟨c7,hc7,u⟩:=bs u;refine bF 3 [(38,(.bool c7))] σ1 ?_<|fun e=> ?_
        ·refine bE (t:=35) rfl (fun hc=> ?_)<|fun hc=> ?_
         ·replace hc7:=bP hc hc7;refine wu rfl<|wu rfl<|wu rfl<|aB ?_;cases hc7;exact Kept.mk rfl<|.cons rfl .nil
         ·replace hc7:=bO hc hc7;refine wu rfl<|wu rfl<|wu rfl<|aB ?_;cases hc7;exact Kept.mk rfl<|.cons rfl .nil
        ·refine wu rfl<|aB ?_;refine aH u rfl (fun hc u=> ?_)<|fun hc u=> ?_
         ·refine aD<|aE<|wu rfl<|aB<|aL ?_;cases u;exact⟨rfl,_,fun _=>rfl,bK rfl rfl rfl rfl J.ext⟩
         ·refine aN<|aD<|aE<|wu rfl<|aB<|aL ?_;cases u;exact⟨rfl,_,fun _=>rfl,bK rfl rfl rfl rfl J.ext⟩
theorem xK{c1:Int}{r:Int}(h:mK c1=some r):Pf PP 164 [(.int .u8 c1)] (.i r):=Pf.fG (aDi c1 r h _) rfl (.cons ⟨rfl,rfl⟩ .nil)
noncomputable def iX(s1:Str)(x9:Nat):Option (Ctl Bool Unit):=
 (if decide (x9<s1.length)=true then((if(decide (((rune s1 x9).1:Int)>(127)))=true then some true
 else((mK (IntKind.wrap .u8 ((rune s1 x9).1:Int)))>>=fun r12=>
 some (decide (r12<(2)))):Option Bool)>>=fun c11=>
 (if c11=true then some (.ret false)
 else iX (nf s1) (x9+(rune s1 x9).2)))
 else some (.nx ()))
 partial_fixpoint
abbrev uQ(s1:Str)(x9:Nat)(o:(Ctl Bool Unit)):Prop:= ∀(e:Env)(s sv:ASt)(β7:Nat),St [] [] s sv [(β7,.iter s1 x9)] []→Wk PP none Code.aNo ⟨bB e [(22,(.iter β7))],[]⟩ sv (fun ex fr s'=>(match o with| .ret oq0=>ex= .ret∧rP PP Code.aPh (VQ (.bool oq0)<|Ext [] [] s) ex fr s'| .nx oq1=>ex= .exit 0∧ ∃(e:Env),fr=⟨bB e [],[]⟩∧St [] [] s s' [] []))
theorem aAa: ∀(s1:Str)(x9:Nat)(o:(Ctl Bool Unit)),iX s1 x9=some o→uQ s1 x9 o:=by
 refine iX.partial_correctness (uQ) ?_;intro _f ih_lexer_word_l0 s1 x9 o u;intro e s sv β7 J;refine dC<|aD<|aE ?_;refine aMm 0 rfl J rfl rfl (fun hc σ10 J=> ?_)<|fun hc=> ?_
 ·replace u:=bP hc u;refine wu rfl<|aB<|aD<|aC7 rfl<|aN<|aQ<|aD<|aE<|wu rfl<|wu rfl<|aB<|aD<|aE<|wu rfl<|wu rfl<|wu rfl ?_;obtain⟨c11,h11,u⟩:=bs u;refine bF 5 [(22,(.iter β7)),(33,(.bool c11))] σ10 ?_<|fun e=> ?_
  ·refine bE (t:=28) rfl (fun hc=> ?_)<|fun hc=> ?_
   ·replace h11:=bP hc h11;refine wu rfl<|wu rfl<|wu rfl<|wu rfl<|wu rfl<|aB ?_;cases h11;exact Kept.mk rfl<|.cons rfl<|.cons rfl .nil
   ·replace h11:=bO hc h11;refine wu rfl<|wu rfl ?_;obtain⟨r12,h12,h11⟩:=bs h11;refine wcD (xK h12) rfl rfl (.cons rfl .nil)<|wu rfl<|wu rfl<|aB ?_;cases h11;exact Kept.mk rfl<|.cons rfl<|.cons rfl .nil
  ·refine aB ?_;refine aH u rfl (fun hc u=> ?_)<|fun hc u=> ?_
   ·refine aD<|aE<|wu rfl<|aB<|aL ?_;cases u;exact⟨rfl,⟨rfl,_,fun _=>rfl,bK rfl rfl rfl rfl J.ext⟩⟩
   ·refine aN ?_;exact eL (fun e=>ih_lexer_word_l0 _ _ _ u e s _ β7 J) (.cons rfl .nil)<|fun _ _ _ h=>h
 ·replace u:=bO hc u;refine wu rfl<|aB<|aD<|aAw rfl<|dR ?_;cases u;exact⟨rfl,_,frE .nil,(J.tJ 0)⟩
noncomputable def mP(s1:Str)(first2:Int):Option Bool:=
 ((if(s1==([]:Str))=true then some true
 else some (decide ((s1.length:Int)>(12))):Option Bool)>>=fun c3=>
 ((if c3=true then some true
 else((idx s1 (0))>>=fun b5=>
 ((mK (b5.toNat:Int))>>=fun r6=>
 some (r6 !=first2))):Option Bool)>>=fun c4=>
 (if c4=true then some false
 else((iX s1 0)>>=fun o13=>
 (match o13 with
 | .ret q14=>some q14
 | .nx q15=>some true)))))
theorem aDn: ∀(s1:Str)(first2:Int)(r:Bool),mP s1 first2=some r→ ∀s:ASt,Fc PP (.func 109) [(.str s1),(.i first2)] s (dZ s<|.bool r):=by
 intro s1 first2 r u;unfold mP at u;intro s;refine bZ rfl rfl rfl ?_;have J:=St.clean s;generalize aT s=σ1 at J⊢;refine aD<|aE<|wu rfl<|aB<|aD<|aD<|aE<|wu rfl<|wu rfl<|wu rfl ?_;obtain⟨c3,hc3,u⟩:=bs u;refine bF 4 [(0,(.str s1)),(1,(.i first2)),(13,(.bool c3))] σ1 ?_<|fun e=> ?_
 ·refine bE (t:=9) rfl (fun hc=> ?_)<|fun hc=> ?_
  ·replace hc3:=bP hc hc3;refine wu rfl<|wu rfl<|wu rfl<|wu rfl<|aB ?_;cases hc3;exact Kept.mk rfl<|.cons rfl<|.cons rfl<|.cons rfl .nil
  ·replace hc3:=bO hc hc3;refine wu rfl<|wu rfl<|wu rfl<|wu rfl<|aB ?_;cases hc3;exact Kept.mk rfl<|.cons rfl<|.cons rfl<|.cons rfl .nil
 ·refine wu rfl ?_;obtain⟨c4,hc4,u⟩:=bs u;refine bF 6 [(0,(.str s1)),(20,(.bool c4))] σ1 ?_<|fun e=> ?_
  ·refine bE (t:=14) rfl (fun hc=> ?_)<|fun hc=> ?_
   ·replace hc4:=bP hc hc4;refine wu rfl<|wu rfl<|wu rfl<|wu rfl<|wu rfl<|wu rfl<|aB ?_;cases hc4;exact Kept.mk rfl<|.cons rfl<|.cons rfl .nil
   ·replace hc4:=bO hc hc4;refine wu rfl ?_;obtain⟨b5,hb5,hc4⟩:=bs hc4;refine aRp rfl rfl rfl hb5 ?_;obtain⟨r6,hr6,hc4⟩:=bs hc4;refine wcD (xK hr6) rfl rfl (.cons rfl .nil)<|wu rfl<|wu rfl<|wu rfl<|aB ?_;cases hc4;exact Kept.mk rfl<|.cons rfl<|.cons rfl .nil
  ·refine aB ?_;refine aH u rfl (fun hc u=> ?_)<|fun hc u=> ?_
   ·refine aD<|aE<|wu rfl<|aB<|aL ?_;cases u;exact⟨rfl,_,fun _=>rfl,bK rfl rfl rfl rfl J.ext⟩
   ·refine aN<|aD<|aD<|aE<|wu rfl ?_;refine aKL rfl J rfl<|fun β7 σ8 J=> ?_;refine aB<|aQ ?_;obtain⟨o13,h13,u⟩:=bs u;refine eL (fun e=>aAa _ _ _ h13 e s _ β7 J) (.cons rfl .nil) ?_
    rintro _ _ _ hq
    rcases o13 with q14|q15
    ·obtain⟨rfl,hq⟩:=hq;cases u;exact hq
    ·obtain⟨rfl,e17,rfl,J⟩:=hq;refine aD<|aE<|wu rfl<|aB<|aL ?_;cases u;exact⟨rfl,_,fun _=>rfl,bK rfl rfl rfl rfl J.ext⟩
theorem xC{s1:Str}{first2:Int}{r:Bool}(h:mP s1 first2=some r):Pf PP 109 [(.str s1),(.i first2)] (.bool r):=Pf.fG (aDn s1 first2 r h _) rfl (.cons ⟨rfl,rfl⟩<|.cons ⟨rfl,rfl⟩ .nil)
noncomputable def kK(s1:Str):Option Bool:=
 ((mP s1 (3))>>=fun r2=>
 some r2)
theorem aAd: ∀(s1:Str)(r:Bool),kK s1=some r→ ∀s:ASt,Fc PP (.func 194) [(.str s1)] s (dZ s<|.bool r):=by
 intro s1 r u;unfold kK at u;intro s;refine bZ rfl rfl rfl ?_;have J:=St.clean s;generalize aT s=σ1 at J⊢;refine aD<|aE<|wu rfl<|aB<|aD<|aE<|wu rfl ?_;obtain⟨r2,hr2,u⟩:=bs u;refine wcD (xC hr2) rfl rfl (.cons rfl<|.cons rfl .nil)<|wu rfl<|aB<|aL ?_;cases u;exact⟨rfl,_,fun _=>rfl,bK rfl rfl rfl rfl J.ext⟩
theorem aAK{s1:Str}{r:Bool}(h:kK s1=some r):Pf PP 194 [(.str s1)] (.bool r):=Pf.fG (aAd s1 r h _) rfl (.cons ⟨rfl,rfl⟩ .nil)
noncomputable def kX(s1:Str):Option Bool:=
 ((mP s1 (2))>>=fun r2=>
 ((if r2=true then((sP s1)>>=fun r4=>
 some (!r4))
 else some false:Option Bool)>>=fun c3=>
 some c3))
theorem aCn: ∀(s1:Str)(r:Bool),kX s1=some r→ ∀s:ASt,Fc PP (.func 77) [(.str s1)] s (dZ s<|.bool r):=by
 intro s1 r u;unfold kX at u;intro s;refine bZ rfl rfl rfl ?_;have J:=St.clean s;generalize aT s=σ1 at J⊢;refine aD<|aE<|wu rfl<|aB<|aD<|aE<|wu rfl ?_;obtain⟨r2,hr2,u⟩:=bs u;refine wcD (xC hr2) rfl rfl (.cons rfl<|.cons rfl .nil)<|wu rfl ?_;obtain⟨c3,hc3,u⟩:=bs u;refine bF 4 [(9,(.bool c3))] σ1 ?_<|fun e=> ?_
 ·refine bE (t:=5) rfl (fun hc=> ?_)<|fun hc=> ?_
  ·replace hc3:=bP hc hc3;refine wu rfl ?_;obtain⟨r4,hr4,hc3⟩:=bs hc3;refine wcD (z7 hr4) rfl rfl (.cons rfl .nil)<|wu rfl<|wu rfl<|aB ?_;cases hc3;exact Kept.mk rfl<|.cons rfl .nil
  ·replace hc3:=bO hc hc3;refine wu rfl<|wu rfl<|wu rfl<|wu rfl<|aB ?_;cases hc3;exact Kept.mk rfl<|.cons rfl .nil
 ·refine wu rfl<|aB<|aL ?_;cases u;exact⟨rfl,_,fun _=>rfl,bK rfl rfl rfl rfl J.ext⟩
theorem vK{s1:Str}{r:Bool}(h:kX s1=some r):Pf PP 77 [(.str s1)] (.bool r):=Pf.fG (aCn s1 r h _) rfl (.cons ⟨rfl,rfl⟩ .nil)
mutual
noncomputable def nJ (e1:Expr) (f2:Int) (f3:aG):Option (Bool×aG):=
 ((fD e1 f2 (0) f3.left f3.deep)>>=fun o13=>
 (match o13 with
 | .ret q14=>some q14
 | .nx q15=>((fH e1 f2 (0) q15.1 q15.2)>>=fun o28=>
 (match o28 with
 | .ret q29=>some q29
 | .nx q30=>some (true,(aG.mk q30.1 q30.2))))))
 partial_fixpoint
noncomputable def fH (e1:Expr) (f2:Int) (x19:Int) (c20:Int) (c21:Int):Option (Ctl (Bool×aG)<|Int×Int):=
 (if(decide (x19<(e1.aO.length:Int)))=true then((idx e1.aO x19)>>=fun y22=>
 ((bS y22.body (nf f2) (aG.mk c20 c21))>>=fun r23=>
 (if(!r23.1)=true then some (.ret (false,(aG.mk r23.2.left r23.2.deep)))
 else fH (nf e1) (nf f2) (IntKind.wrap .i64 (x19+(1))) r23.2.left r23.2.deep)))
 else some (.nx (c20,c21)))
 partial_fixpoint
noncomputable def bS (x1:Expr) (x2:Int) (x3:aG):Option (Bool×aG):=
 ((cO (nf x1) (IntKind.wrap .i64 (x2+(1))) (nf x3))>>=fun r4=>
 some (r4.1,(aG.mk r4.2.left r4.2.deep)))
 partial_fixpoint
noncomputable def cO (e1:Expr) (depth2:Int) (m3:aG):Option (Bool×aG):=
 ((if(decide ((IntKind.wrap .i64 (m3.left-(1)))<(0)))=true then some true
 else some (decide (depth2>(200))):Option Bool)>>=fun c6=>
 (if c6=true then some (false,(aG.mk (IntKind.wrap .i64 (m3.left-(1))) (max m3.deep depth2)))
 else((nJ (nf e1) (nf depth2) (aG.mk (IntKind.wrap .i64 (m3.left-(1))) (max m3.deep depth2)))>>=fun r7=>
 some (r7.1,(aG.mk r7.2.left r7.2.deep)))))
 partial_fixpoint
noncomputable def fD (e1:Expr) (f2:Int) (x4:Int) (c5:Int) (c6:Int):Option (Ctl (Bool×aG)<|Int×Int):=
 (if(decide (x4<(e1.l.length:Int)))=true then((idx e1.l x4)>>=fun y7=>
 ((bS (nf y7) (nf f2) (aG.mk c5 c6))>>=fun r8=>
 (if(!r8.1)=true then some (.ret (false,(aG.mk r8.2.left r8.2.deep)))
 else fD (nf e1) (nf f2) (IntKind.wrap .i64 (x4+(1))) r8.2.left r8.2.deep)))
 else some (.nx (c5,c6)))
 partial_fixpoint
end
abbrev tE(e1:Expr)(f2:Int)(f3:aG)(r:(Bool×aG)):Prop:= ∀(s:ASt)(β1:Nat),Kn s [(β1,.cells [(.i f3.left),(.i f3.deep)] true)] []→Fc PP (.func 192) [(aR e1),(.func 193 [] [(.aF (.ptr β1 0) 0),(.aF (.i f2) 0)])] s (lV s [β1] [] (.bool r.1) (fun a:Unit=> [(β1,.cells [(.i r.2.left),(.i r.2.deep)] true)]) (fun a:Unit=> []) (fun a:Unit=>True))
abbrev p5(e1:Expr)(f2:Int)(x19:Int)(c20:Int)(c21:Int)(o:(Ctl (Bool×aG)<|Int×Int)):Prop:= ∀(e:Env)(s sv:ASt)(β1:Nat),St [β1] [] s sv [(β1,.cells [(.i c20),(.i c21)] true)] []→Wk PP none Code.aIz ⟨bB e [(1,(.func 193 [] [(.aF (.ptr β1 0) 0),(.aF (.i f2) 0)])),(22,(slA 9<|e1.aO.map aZ)),(23,(.i (e1.aO.length:Int))),(24,(.i x19))],[]⟩ sv (fun ex fr s'=>(match o with| .ret oq0=>ex= .ret∧rP PP Code.aIn (VQ (.bool oq0.1)<|RX s [β1] [] (fun a:Unit=> [(β1,.cells [(.i oq0.2.left),(.i oq0.2.deep)] true)]) (fun a:Unit=> []) (fun a:Unit=>True)) ex fr s'| .nx oq1=>ex= .exit 2∧ ∃(e:Env),fr=⟨bB e [],[]⟩∧St [β1] [] s s' [(β1,.cells [(.i oq1.1),(.i oq1.2)] true)] []))
abbrev lE(x1:Expr)(x2:Int)(x3:aG)(r:(Bool×aG)):Prop:= ∀(s:ASt)(β1:Nat),Kn s [(β1,.cells [(.i x3.left),(.i x3.deep)] true)] []→Fc PP (.func 193) [(aR x1),(.aF (.ptr β1 0) 0),(.aF (.i x2) 0)] s (lV s [β1] [] (.bool r.1) (fun a:Unit=> [(β1,.cells [(.i r.2.left),(.i r.2.deep)] true)]) (fun a:Unit=> []) (fun a:Unit=>True))
abbrev jA(e1:Expr)(depth2:Int)(m3:aG)(r:(Bool×aG)):Prop:= ∀(s:ASt)(β1:Nat),Kn s [(β1,.cells [(.i m3.left),(.i m3.deep)] true)] []→Fc PP (.func 147) [(.ptr β1 0),(aR e1),(.i depth2)] s (lV s [β1] [] (.bool r.1) (fun a:Unit=> [(β1,.cells [(.i r.2.left),(.i r.2.deep)] true)]) (fun a:Unit=> []) (fun a:Unit=>True))
abbrev pZ(e1:Expr)(f2:Int)(x4:Int)(c5:Int)(c6:Int)(o:(Ctl (Bool×aG)<|Int×Int)):Prop:= ∀(e:Env)(s sv:ASt)(β1:Nat),St [β1] [] s sv [(β1,.cells [(.i c5),(.i c6)] true)] []→Wk PP none Code.aID ⟨bB e [(1,(.func 193 [] [(.aF (.ptr β1 0) 0),(.aF (.i f2) 0)])),(2,(.aF (aR e1) 0)),(10,(slA 7<|e1.l.map aP)),(11,(.i (e1.l.length:Int))),(12,(.i x4))],[]⟩ sv (fun ex fr s'=>(match o with| .ret oq0=>ex= .ret∧rP PP Code.aIn (VQ (.bool oq0.1)<|RX s [β1] [] (fun a:Unit=> [(β1,.cells [(.i oq0.2.left),(.i oq0.2.deep)] true)]) (fun a:Unit=> []) (fun a:Unit=>True)) ex fr s'| .nx oq1=>ex= .exit 0∧ ∃(e:Env),fr=⟨bB e [(1,(.func 193 [] [(.aF (.ptr β1 0) 0),(.aF (.i f2) 0)])),(2,(.aF (aR e1) 0))],[]⟩∧St [β1] [] s s' [(β1,.cells [(.i oq1.1),(.i oq1.2)] true)] []))
theorem yN:(∀(e1:Expr)(f2:Int)(f3:aG)(r:(Bool×aG)),nJ e1 f2 f3=some r→tE e1 f2 f3 r)∧
  (∀(e1:Expr)(f2:Int)(x19:Int)(c20:Int)(c21:Int)(o:(Ctl (Bool×aG)<|Int×Int)),fH e1 f2 x19 c20 c21=some o→p5 e1 f2 x19 c20 c21 o)∧
  (∀(x1:Expr)(x2:Int)(x3:aG)(r:(Bool×aG)),bS x1 x2 x3=some r→lE x1 x2 x3 r)∧
  (∀(e1:Expr)(depth2:Int)(m3:aG)(r:(Bool×aG)),cO e1 depth2 m3=some r→jA e1 depth2 m3 r)∧
  (∀(e1:Expr)(f2:Int)(x4:Int)(c5:Int)(c6:Int)(o:(Ctl (Bool×aG)<|Int×Int)),fD e1 f2 x4 c5 c6=some o→pZ e1 f2 x4 c5 c6 o):=by
 refine nJ.mutual_partial_correctness tE p5 lE jA pZ ?_ ?_ ?_ ?_ ?_
 ·intro _f0 _f1 ih_syntax_each_s0_l1 ih_syntax_each_s0_l0 e1 f2 f3 r u;intro s β1 hK;refine pO hK (fun _=>rfl) (fun _=>aDb) rfl rfl rfl ?_;have J:=hK.start;generalize aT s=σ1 at J⊢;refine aD<|aE<|wu rfl<|wu rfl<|aB<|aD<|aD<|aE<|wu rfl<|wu rfl<|cG (f:=aP) (l:=e1.l) rfl (.no _)<|wu rfl<|aB<|aQ ?_;obtain⟨o13,h13,u⟩:=bs u;refine eL (fun e=>ih_syntax_each_s0_l0 _ _ _ _ _ _ h13 e s _ β1 J) (.cons rfl<|.cons rfl<|.cons rfl<|.cons rfl<|.cons rfl .nil) ?_
  rintro _ _ _ hq
  rcases o13 with q14|q15
  ·obtain⟨rfl,hq⟩:=hq;cases u;exact hq
  ·obtain⟨rfl,e17,rfl,J⟩:=hq;refine aD<|aD<|aE<|wu rfl<|wu rfl<|cG (f:=aZ) (l:=e1.aO) rfl (.no _)<|wu rfl<|aB<|aQ ?_;obtain⟨o28,h28,u⟩:=bs u;refine eL (fun e=>ih_syntax_each_s0_l1 _ _ _ _ _ _ h28 e s _ β1 J) (.cons rfl<|.cons rfl<|.cons rfl<|.cons rfl .nil) ?_
   rintro _ _ _ hq
   rcases o28 with q29|q30
   ·obtain⟨rfl,hq⟩:=hq;cases u;exact hq
   ·obtain⟨rfl,e32,rfl,J⟩:=hq;refine aD<|aE<|wu rfl<|aB<|aL ?_;cases u;exact⟨rfl,_,fun _=>rfl,bK rfl rfl rfl rfl ⟨(),trivial,J⟩⟩
 ·intro _f0 _f1 ih_syntax_each_s0_l1 ih_syntax_measure_take_1_s0 e1 f2 x19 c20 c21 o u;intro e s sv β1 J;refine dC<|aD<|aE<|wu rfl<|aB<|aD ?_;refine aH u rfl (fun hc u=> ?_)<|fun hc u=> ?_
  ·refine aN<|aD<|aQ<|aD<|aE ?_;obtain⟨y22,h22,u⟩:=bs u;refine j5 (f:=aZ) rfl (.no _) rfl h22 (nN _)<|wu rfl<|wu rfl<|wu rfl<|aB<|aD<|aE<|wu rfl<|wu rfl<|wu rfl ?_;obtain⟨r23,h23,u⟩:=bs u;refine cA rfl (bs1:= [(β1,.cells [(.i c20),(.i c21)] true)]) (bs2:= []) (gs1:= []) (gs2:= []) rfl J (fun hK=>ih_syntax_measure_take_1_s0 _ _ _ _ h23 _ β1 hK) rfl rfl (fun _=>rfl) rfl (by exact(.cons rfl .nil)) rfl<|fun σ24 a25 hF J=> ?_;refine wu rfl<|aB ?_;refine aH u rfl (fun hc u=> ?_)<|fun hc u=> ?_
   ·refine aD<|aE<|wu rfl<|aB<|aL ?_;cases u;exact⟨rfl,⟨rfl,_,fun _=>rfl,bK rfl rfl rfl rfl ⟨(),trivial,J⟩⟩⟩
   ·refine aN<|aE<|wu rfl<|wu rfl<|aB ?_;exact eL (fun e=>ih_syntax_each_s0_l1 _ _ _ _ _ _ u e s _ β1 J) (.cons rfl<|.cons rfl<|.cons rfl<|.cons rfl .nil)<|fun _ _ _ h=>h
  ·refine dR ?_;cases u;exact⟨rfl,_,frE .nil,J⟩
 ·intro _f0 ih_syntax_measure_take_s0 x1 x2 x3 r u;intro s β1 hK;refine pO hK (fun _=>rfl) (fun _=>aDb) rfl rfl rfl ?_;have J:=hK.start;generalize aT s=σ1 at J⊢;refine aD<|aE<|wu rfl<|wu rfl<|aB<|aD<|aE<|wu rfl<|wu rfl<|wu rfl<|wu rfl ?_;obtain⟨r4,hr4,u⟩:=bs u;refine cA rfl (bs1:= [(β1,.cells [(.i x3.left),(.i x3.deep)] true)]) (bs2:= []) (gs1:= []) (gs2:= []) rfl J (fun hK=>ih_syntax_measure_take_s0 _ _ _ _ hr4 _ β1 hK) rfl rfl (fun _=>rfl) rfl (by exact(.cons rfl<|.cons rfl<|.cons rfl .nil)) rfl<|fun σ5 a6 hF J=> ?_;refine wu rfl<|aB<|aL ?_;cases u;exact⟨rfl,_,fun _=>rfl,bK rfl rfl rfl rfl ⟨(),trivial,J⟩⟩
 ·intro _f0 ih_syntax_each_s0 e1 depth2 m3 r u;intro s β1 hK;refine pO hK (fun _=>rfl) (fun _=>aDb) rfl rfl rfl ?_;have J:=hK.start;generalize aT s=σ1 at J⊢;refine aD<|aE<|wu rfl<|wu rfl<|wu rfl<|wu rfl<|aB<|aD<|aE<|wu rfl<|wu rfl<|wu rfl<|j1 0 rfl J rfl rfl rfl<|wu rfl<|wu rfl<|wu rfl ?_;refine bV (ds':= [(.i<|IntKind.wrap .i64<|m3.left-(1))]) (cs':= [(.i<|IntKind.wrap .i64<|m3.left-(1)),(.i m3.deep)]) 0 rfl J rfl rfl rfl rfl rfl (Nat.le_of_ble_eq_true rfl) (.cons (tkN rfl) .nil) (by kernel_rfl)<|fun σ4 J=> ?_;refine aB<|aD<|aE<|wu rfl<|wu rfl<|wu rfl<|wu rfl<|j1 0 rfl J rfl rfl rfl<|wu rfl<|wu rfl<|wu rfl<|wu rfl ?_;refine bV (ds':= [(.i<|max m3.deep depth2)]) (cs':= [(.i<|IntKind.wrap .i64<|m3.left-(1)),(.i<|max m3.deep depth2)]) 0 rfl J rfl rfl rfl rfl rfl (Nat.le_of_ble_eq_true rfl) (.cons (tkN rfl) .nil) (by kernel_rfl)<|fun σ5 J=> ?_;refine aB<|aD<|aD<|aE<|wu rfl<|wu rfl<|wu rfl<|j1 0 rfl J rfl rfl rfl<|wu rfl<|wu rfl ?_;obtain⟨c6,hc6,u⟩:=bs u;refine bF 3 [(3,(.aF (.ptr β1 0) 0)),(4,(.aF (aR e1) 0)),(5,(.aF (.i depth2) 0)),(31,(.bool c6))] σ5 ?_<|fun e=> ?_
  ·refine bE (t:=28) rfl (fun hc=> ?_)<|fun hc=> ?_
   ·replace hc6:=bP hc hc6;refine wu rfl<|wu rfl<|wu rfl<|aB ?_;cases hc6;exact Kept.mk rfl<|.cons rfl<|.cons rfl<|.cons rfl<|.cons rfl .nil
   ·replace hc6:=bO hc hc6;refine wu rfl<|wu rfl<|wu rfl<|aB ?_;cases hc6;exact Kept.mk rfl<|.cons rfl<|.cons rfl<|.cons rfl<|.cons rfl .nil
  ·refine aB ?_;refine aH u rfl (fun hc u=> ?_)<|fun hc u=> ?_
   ·refine aD<|aE<|wu rfl<|aB<|aL ?_;cases u;exact⟨rfl,_,fun _=>rfl,bK rfl rfl rfl rfl ⟨(),trivial,J⟩⟩
   ·refine aN<|aD<|aE<|wu rfl<|wu rfl ?_;obtain⟨r7,hr7,u⟩:=bs u;refine cA rfl (bs1:= [(β1,.cells [(.i<|IntKind.wrap .i64<|m3.left-(1)),(.i<|max m3.deep depth2)] true)]) (bs2:= []) (gs1:= []) (gs2:= []) rfl J (fun hK=>ih_syntax_each_s0 _ _ _ _ hr7 _ β1 hK) rfl rfl (fun _=>rfl) rfl (by exact(.cons rfl<|.cons rfl .nil)) rfl<|fun σ8 a9 hF J=> ?_;refine wu rfl<|aB<|aL ?_;cases u;exact⟨rfl,_,fun _=>rfl,bK rfl rfl rfl rfl ⟨(),trivial,J⟩⟩
 ·intro _f0 _f1 ih_syntax_measure_take_1_s0 ih_syntax_each_s0_l0 e1 f2 x4 c5 c6 o u;intro e s sv β1 J;refine dC<|aD<|aE<|wu rfl<|aB<|aD ?_;refine aH u rfl (fun hc u=> ?_)<|fun hc u=> ?_
  ·refine aN<|aD<|aQ<|aD<|aE ?_;obtain⟨y7,hy7,u⟩:=bs u;refine j5 (f:=aP) rfl (.no _) rfl hy7 (iD _)<|wu rfl<|wu rfl<|wu rfl<|aB<|aD<|aE<|wu rfl<|wu rfl ?_;obtain⟨r8,hr8,u⟩:=bs u;refine cA rfl (bs1:= [(β1,.cells [(.i c5),(.i c6)] true)]) (bs2:= []) (gs1:= []) (gs2:= []) rfl J (fun hK=>ih_syntax_measure_take_1_s0 _ _ _ _ hr8 _ β1 hK) rfl rfl (fun _=>rfl) rfl (by exact(.cons rfl .nil)) rfl<|fun σ9 a10 hF J=> ?_;refine wu rfl<|aB ?_;refine aH u rfl (fun hc u=> ?_)<|fun hc u=> ?_
   ·refine aD<|aE<|wu rfl<|aB<|aL ?_;cases u;exact⟨rfl,⟨rfl,_,fun _=>rfl,bK rfl rfl rfl rfl ⟨(),trivial,J⟩⟩⟩
   ·refine aN<|aE<|wu rfl<|wu rfl<|aB ?_;exact eL (fun e=>ih_syntax_each_s0_l0 _ _ _ _ _ _ u e s _ β1 J) (.cons rfl<|.cons rfl<|.cons rfl<|.cons rfl<|.cons rfl .nil)<|fun _ _ _ h=>h
  ·refine dR ?_;cases u;exact⟨rfl,_,frE<|.cons rfl<|.cons rfl .nil,J⟩
theorem rQ: ∀(e1:Expr)(depth2:Int)(m3:aG)(r:(Bool×aG)),cO e1 depth2 m3=some r→jA e1 depth2 m3 r:=yN.2.2.2.1
noncomputable def gU(n1:Int)(l2:Int)(hi3:Int):Option Bool:=
 ((if(decide (l2≤n1))=true then some (decide (n1≤hi3))
 else some false:Option Bool)>>=fun c4=>
 some c4)
theorem aBd: ∀(n1:Int)(l2:Int)(hi3:Int)(r:Bool),gU n1 l2 hi3=some r→ ∀s:ASt,Fc PP (.func 212) [(.i n1),(.i l2),(.i hi3)] s (dZ s<|.bool r):=by
 intro n1 l2 hi3 r u;unfold gU at u;intro s;refine bZ rfl rfl rfl ?_;have J:=St.clean s;generalize aT s=σ1 at J⊢;refine aD<|aE<|wu rfl<|aB<|aD<|aE<|wu rfl<|wu rfl<|wu rfl<|wu rfl ?_;obtain⟨c4,hc4,u⟩:=bs u;refine bF 4 [(14,(.bool c4))] σ1 ?_<|fun e=> ?_
 ·refine bE (t:=10) rfl (fun hc=> ?_)<|fun hc=> ?_
  ·replace hc4:=bP hc hc4;refine wu rfl<|wu rfl<|wu rfl<|wu rfl<|aB ?_;cases hc4;exact Kept.mk rfl<|.cons rfl .nil
  ·replace hc4:=bO hc hc4;refine wu rfl<|wu rfl<|wu rfl<|wu rfl<|aB ?_;cases hc4;exact Kept.mk rfl<|.cons rfl .nil
 ·refine wu rfl<|aB<|aL ?_;cases u;exact⟨rfl,_,fun _=>rfl,bK rfl rfl rfl rfl J.ext⟩
theorem mI{n1:Int}{l2:Int}{hi3:Int}{r:Bool}(h:gU n1 l2 hi3=some r):Pf PP 212 [(.i n1),(.i l2),(.i hi3)] (.bool r):=Pf.fG (aBd n1 l2 hi3 r h _) rfl (.cons ⟨rfl,rfl⟩<|.cons ⟨rfl,rfl⟩<|.cons ⟨rfl,rfl⟩ .nil)
noncomputable def eT(s1:(List Str))(v2:Str)(x3:Int):Option (Ctl Int Unit):=
 (if(decide (x3<(s1.length:Int)))=true then((idx s1 x3)>>=fun y4=>
 (if(v2==y4)=true then some (.ret x3)
 else eT (nf s1) (nf v2) (IntKind.wrap .i64 (x3+(1)))))
 else some (.nx ()))
 partial_fixpoint
abbrev nZ(s1:(List Str))(v2:Str)(x3:Int)(o:(Ctl Int Unit)):Prop:= ∀(e:Env)(s sv:ASt),St [] [] s sv [] []→Wk PP none Code.aNx ⟨bB e [(0,(slA 1<|s1.map AV.str)),(1,(.str v2)),(7,(.i (s1.length:Int))),(8,(.i x3))],[]⟩ sv (fun ex fr s'=>(match o with| .ret oq0=>ex= .ret∧rP PP Code.aN8 (VQ (.i oq0)<|Ext [] [] s) ex fr s'| .nx oq1=>ex= .exit 0∧ ∃(e:Env),fr=⟨bB e [],[]⟩∧sv=s'))
theorem tM: ∀(s1:(List Str))(v2:Str)(x3:Int)(o:(Ctl Int Unit)),eT s1 v2 x3=some o→nZ s1 v2 x3 o:=by
 refine eT.partial_correctness (nZ) ?_;intro _f ih_slices_Index_g175_l0 s1 v2 x3 o u;intro e s sv J;refine dC<|aD<|aE<|wu rfl<|aB<|aD ?_;refine aH u rfl (fun hc u=> ?_)<|fun hc u=> ?_
 ·refine aN<|aD<|aQ<|aD<|aE<|wu rfl<|wu rfl<|aB<|aD<|aE<|wu rfl<|wu rfl<|wu rfl ?_;obtain⟨y4,hy4,u⟩:=bs u;refine j5 (f:=AV.str) rfl (.no _) rfl hy4 rfl<|wu rfl<|wu rfl<|aB ?_;refine aH u rfl (fun hc u=> ?_)<|fun hc u=> ?_
  ·refine aD<|aE<|wu rfl<|wu rfl<|aB<|aL ?_;cases u;exact⟨rfl,⟨rfl,_,fun _=>rfl,bK rfl rfl rfl rfl J.ext⟩⟩
  ·refine aN<|aE<|wu rfl<|wu rfl<|aB ?_;exact eL (fun e=>ih_slices_Index_g175_l0 _ _ _ _ u e s _ J) (.cons rfl<|.cons rfl<|.cons rfl<|.cons rfl .nil)<|fun _ _ _ h=>h
 ·refine dR ?_;cases u;exact⟨rfl,_,frE .nil,rfl⟩
noncomputable def gG(s1:(List Str))(v2:Str):Option Int:=
 ((eT s1 v2 (0))>>=fun o5=>
 (match o5 with
 | .ret q6=>some q6
 | .nx q7=>some (-1)))
theorem vB: ∀(s1:(List Str))(v2:Str)(r:Int),gG s1 v2=some r→ ∀s:ASt,Fc PP (.func 175) [(slA 1<|s1.map AV.str),(.str v2)] s (dZ s<|.i r):=by
 intro s1 v2 r u;unfold gG at u;intro s;refine bZ rfl rfl rfl ?_;have J:=St.clean s;generalize aT s=σ1 at J⊢;refine aD<|aE<|wu rfl<|aB<|aD<|aD<|aE<|wu rfl<|cG (f:=AV.str) (l:=s1) rfl (.no _)<|wu rfl<|aB<|aQ ?_;obtain⟨o5,ho5,u⟩:=bs u;refine eL (fun e=>tM _ _ _ _ ho5 e s _ J) (.cons rfl<|.cons rfl<|.cons rfl<|.cons rfl .nil) ?_
 rintro _ _ _ hq
 rcases o5 with q6|q7
 ·obtain⟨rfl,hq⟩:=hq;cases u;exact hq
 ·obtain⟨rfl,e9,rfl,rfl⟩:=hq;refine aD<|aE<|wu rfl<|aB<|aL ?_;cases u;exact⟨rfl,_,fun _=>rfl,bK rfl rfl rfl rfl J.ext⟩
theorem v5{s1:(List Str)}{v2:Str}{r:Int}(h:gG s1 v2=some r):Pf PP 175 [(slA 1<|s1.map AV.str),(.str v2)] (.i r):=Pf.fG (vB s1 v2 r h _) rfl (.cons (sO<|fV (fun _=>rfl) _)<|.cons ⟨rfl,rfl⟩ .nil)
noncomputable def cN(s1:(List Str))(v2:Str):Option Bool:=
 ((gG s1 v2)>>=fun r3=>
 some (decide (r3≥(0))))
theorem tC: ∀(s1:(List Str))(v2:Str)(r:Bool),cN s1 v2=some r→ ∀s:ASt,Fc PP (.func 127) [(slA 1<|s1.map AV.str),(.str v2)] s (dZ s<|.bool r):=by
 intro s1 v2 r u;unfold cN at u;intro s;refine bZ rfl rfl rfl ?_;have J:=St.clean s;generalize aT s=σ1 at J⊢;refine aD<|aE<|wu rfl<|aB<|aD<|aE<|wu rfl<|wu rfl ?_;obtain⟨r3,hr3,u⟩:=bs u;refine wcD (v5 hr3) rfl rfl (.cons rfl<|.cons rfl .nil)<|wu rfl<|wu rfl<|aB<|aL ?_;cases u;exact⟨rfl,_,fun _=>rfl,bK rfl rfl rfl rfl J.ext⟩
theorem jN{s1:(List Str)}{v2:Str}{r:Bool}(h:cN s1 v2=some r):Pf PP 127 [(slA 1<|s1.map AV.str),(.str v2)] (.bool r):=Pf.fG (tC s1 v2 r h _) rfl (.cons (sO<|fV (fun _=>rfl) _)<|.cons ⟨rfl,rfl⟩ .nil)
noncomputable def lK(s1:Str)(c2:Int):Option Bool:=
 (if(c2==(1))=true then((kX s1)>>=fun r3=>
 some r3)
 else(if(c2==(2))=true then((kK s1)>>=fun r4=>
 some r4)
 else(if(c2==(3))=true then((if(s1==([43]:Str))=true then some true
 else some (s1==([45]:Str)):Option Bool)>>=fun c5=>
 ((if c5=true then some true
 else some (s1==([42]:Str)):Option Bool)>>=fun c6=>
 ((if c6=true then some true
 else some (s1==([60]:Str)):Option Bool)>>=fun c7=>
 ((if c7=true then some true
 else some (s1==([61,61]:Str)):Option Bool)>>=fun c8=>
 some c8))))
 else some (s1==([]:Str)))))
theorem aEQ: ∀(s1:Str)(c2:Int)(r:Bool),lK s1 c2=some r→ ∀s:ASt,Fc PP (.func 149) [(.str s1),(.i c2)] s (dZ s<|.bool r):=by
 intro s1 c2 r u;unfold lK at u;intro s;refine bZ rfl rfl rfl ?_;have J:=St.clean s;generalize aT s=σ1 at J⊢;refine aD<|aE<|wu rfl<|aB<|aD<|aD<|aE<|wu rfl<|aB<|aQ<|aD<|aE<|wu rfl<|wu rfl ?_;refine aB ?_;refine aH u rfl (fun hc u=> ?_)<|fun hc u=> ?_
 ·refine aD<|aE<|wu rfl ?_;obtain⟨r3,hr3,u⟩:=bs u;refine wcD (vK hr3) rfl rfl (.cons rfl .nil)<|wu rfl<|aB<|aL ?_;cases u;exact⟨rfl,_,fun _=>rfl,bK rfl rfl rfl rfl J.ext⟩
 ·refine aD<|aE<|wu rfl<|wu rfl<|aB ?_;refine aH u rfl (fun hc u=> ?_)<|fun hc u=> ?_
  ·refine aD<|aE<|wu rfl ?_;obtain⟨r4,hr4,u⟩:=bs u;refine wcD (aAK hr4) rfl rfl (.cons rfl .nil)<|wu rfl<|aB<|aL ?_;cases u;exact⟨rfl,_,fun _=>rfl,bK rfl rfl rfl rfl J.ext⟩
  ·refine aD<|aE<|wu rfl<|wu rfl<|aB ?_;refine aH u rfl (fun hc u=> ?_)<|fun hc u=> ?_
   ·refine aD<|aE<|wu rfl<|wu rfl<|wu rfl ?_;obtain⟨c5,hc5,u⟩:=bs u;refine bF 3 [(0,(.str s1)),(21,(.bool c5))] σ1 ?_<|fun e=> ?_
    ·refine bE (t:=18) rfl (fun hc=> ?_)<|fun hc=> ?_
     ·replace hc5:=bP hc hc5;refine wu rfl<|wu rfl<|wu rfl<|aB ?_;cases hc5;exact Kept.mk rfl<|.cons rfl<|.cons rfl .nil
     ·replace hc5:=bO hc hc5;refine wu rfl<|wu rfl<|wu rfl<|aB ?_;cases hc5;exact Kept.mk rfl<|.cons rfl<|.cons rfl .nil
    ·refine wu rfl ?_;obtain⟨c6,hc6,u⟩:=bs u;refine bF 3 [(0,(.str s1)),(25,(.bool c6))] σ1 ?_<|fun e=> ?_
     ·refine bE (t:=22) rfl (fun hc=> ?_)<|fun hc=> ?_
      ·replace hc6:=bP hc hc6;refine wu rfl<|wu rfl<|wu rfl<|aB ?_;cases hc6;exact Kept.mk rfl<|.cons rfl<|.cons rfl .nil
      ·replace hc6:=bO hc hc6;refine wu rfl<|wu rfl<|wu rfl<|aB ?_;cases hc6;exact Kept.mk rfl<|.cons rfl<|.cons rfl .nil
     ·refine wu rfl ?_;obtain⟨c7,hc7,u⟩:=bs u;refine bF 3 [(0,(.str s1)),(29,(.bool c7))] σ1 ?_<|fun e=> ?_
      ·refine bE (t:=26) rfl (fun hc=> ?_)<|fun hc=> ?_
       ·replace hc7:=bP hc hc7;refine wu rfl<|wu rfl<|wu rfl<|aB ?_;cases hc7;exact Kept.mk rfl<|.cons rfl<|.cons rfl .nil
       ·replace hc7:=bO hc hc7;refine wu rfl<|wu rfl<|wu rfl<|aB ?_;cases hc7;exact Kept.mk rfl<|.cons rfl<|.cons rfl .nil
      ·refine wu rfl ?_;obtain⟨c8,hc8,u⟩:=bs u;refine bF 3 [(33,(.bool c8))] σ1 ?_<|fun e=> ?_
       ·refine bE (t:=30) rfl (fun hc=> ?_)<|fun hc=> ?_
        ·replace hc8:=bP hc hc8;refine wu rfl<|wu rfl<|wu rfl<|aB ?_;cases hc8;exact Kept.mk rfl<|.cons rfl .nil
        ·replace hc8:=bO hc hc8;refine wu rfl<|wu rfl<|wu rfl<|aB ?_;cases hc8;exact Kept.mk rfl<|.cons rfl .nil
       ·refine wu rfl<|aB<|aL ?_;cases u;exact⟨rfl,_,fun _=>rfl,bK rfl rfl rfl rfl J.ext⟩
   ·refine aN<|aD<|aE<|wu rfl<|wu rfl<|wu rfl<|aB<|aL ?_;cases u;exact⟨rfl,_,fun _=>rfl,bK rfl rfl rfl rfl J.ext⟩
theorem p8{s1:Str}{c2:Int}{r:Bool}(h:lK s1 c2=some r):Pf PP 149 [(.str s1),(.i c2)] (.bool r):=Pf.fG (aEQ s1 c2 r h _) rfl (.cons ⟨rfl,rfl⟩<|.cons ⟨rfl,rfl⟩ .nil)
noncomputable def dS(l1:(List Str))(c2:Int)(x3:Int):Option (Ctl Int Unit):=
 (if(decide (x3<(l1.length:Int)))=true then((idx l1 x3)>>=fun y4=>
 ((lK y4 c2)>>=fun r5=>
 (if(!r5)=true then some (.ret (4))
 else((cut l1 (0) x3)>>=fun l6=>
 ((cN l6 y4)>>=fun r7=>
 (if r7=true then some (.ret (5))
 else dS (nf l1) (nf c2) (IntKind.wrap .i64 (x3+(1)))))))))
 else some (.nx ()))
 partial_fixpoint
abbrev pG(l1:(List Str))(c2:Int)(x3:Int)(o:(Ctl Int Unit)):Prop:= ∀(e:Env)(s sv:ASt),St [] [] s sv [] []→Wk PP none Code.aMt ⟨bB e [(0,(slA 1<|l1.map AV.str)),(1,(.i c2)),(7,(slA 1<|l1.map AV.str)),(8,(.i (l1.length:Int))),(9,(.i x3))],[]⟩ sv (fun ex fr s'=>(match o with| .ret oq0=>ex= .ret∧rP PP Code.aO3 (VQ (.i oq0)<|Ext [] [] s) ex fr s'| .nx oq1=>ex= .exit 0∧ ∃(e:Env),fr=⟨bB e [],[]⟩∧sv=s'))
theorem u5: ∀(l1:(List Str))(c2:Int)(x3:Int)(o:(Ctl Int Unit)),dS l1 c2 x3=some o→pG l1 c2 x3 o:=by
 refine dS.partial_correctness (pG) ?_;intro _f ih_syntax_distinct_l0 l1 c2 x3 o u;intro e s sv J;refine dC<|aD<|aE<|wu rfl<|aB<|aD ?_;refine aH u rfl (fun hc u=> ?_)<|fun hc u=> ?_
 ·refine aN<|aD<|aQ<|aD<|aE<|wu rfl ?_;obtain⟨y4,hy4,u⟩:=bs u;refine j5 (f:=AV.str) rfl (.no _) rfl hy4 rfl<|wu rfl<|wu rfl<|wu rfl<|aB<|aQ<|aD<|aE<|wu rfl<|wu rfl ?_;obtain⟨r5,hr5,u⟩:=bs u;refine wcD (p8 hr5) rfl rfl (.cons rfl<|.cons rfl .nil)<|wu rfl<|wu rfl<|aB ?_;refine aH u rfl (fun hc u=> ?_)<|fun hc u=> ?_
  ·refine aD<|aE<|wu rfl<|aB<|aL ?_;cases u;exact⟨rfl,⟨rfl,_,fun _=>rfl,bK rfl rfl rfl rfl J.ext⟩⟩
  ·refine aD<|aE<|wu rfl<|wu rfl ?_;obtain⟨l6,hl6,u⟩:=bs u;refine uI (f:=AV.str) (lo':=(0)) (hi':=x3) rfl (.no _) (.inl ⟨rfl,rfl⟩) (.inr ⟨_,rfl⟩) (by rfl) hl6 ?_;refine wu rfl ?_;obtain⟨r7,hr7,u⟩:=bs u;refine wcD (jN hr7) rfl rfl (.cons rfl<|.cons rfl .nil)<|wu rfl<|aB ?_;refine aH u rfl (fun hc u=> ?_)<|fun hc u=> ?_
   ·refine aD<|aE<|wu rfl<|aB<|aL ?_;cases u;exact⟨rfl,⟨rfl,_,fun _=>rfl,bK rfl rfl rfl rfl J.ext⟩⟩
   ·refine aN<|aE<|wu rfl<|wu rfl<|aB ?_;exact eL (fun e=>ih_syntax_distinct_l0 _ _ _ _ u e s _ J) (.cons rfl<|.cons rfl<|.cons rfl<|.cons rfl<|.cons rfl .nil)<|fun _ _ _ h=>h
 ·refine dR ?_;cases u;exact⟨rfl,_,frE .nil,rfl⟩
noncomputable def dU(l1:(List Str))(c2:Int):Option Int:=
 ((dS l1 c2 (0))>>=fun o8=>
 (match o8 with
 | .ret q9=>some q9
 | .nx q10=>some (0)))
theorem yE: ∀(l1:(List Str))(c2:Int)(r:Int),dU l1 c2=some r→ ∀s:ASt,Fc PP (.func 190) [(slA 1<|l1.map AV.str),(.i c2)] s (dZ s<|.i r):=by
 intro l1 c2 r u;unfold dU at u;intro s;refine bZ rfl rfl rfl ?_;have J:=St.clean s;generalize aT s=σ1 at J⊢;refine aD<|aE<|wu rfl<|aB<|aD<|aD<|aE<|wu rfl<|cG (f:=AV.str) (l:=l1) rfl (.no _)<|wu rfl<|aB<|aQ ?_;obtain⟨o8,ho8,u⟩:=bs u;refine eL (fun e=>u5 _ _ _ _ ho8 e s _ J) (.cons rfl<|.cons rfl<|.cons rfl<|.cons rfl<|.cons rfl .nil) ?_
 rintro _ _ _ hq
 rcases o8 with q9|q10
 ·obtain⟨rfl,hq⟩:=hq;cases u;exact hq
 ·obtain⟨rfl,e12,rfl,rfl⟩:=hq;refine aD<|aE<|wu rfl<|aB<|aL ?_;cases u;exact⟨rfl,_,fun _=>rfl,bK rfl rfl rfl rfl J.ext⟩
theorem mM{l1:(List Str)}{c2:Int}{r:Int}(h:dU l1 c2=some r):Pf PP 190 [(slA 1<|l1.map AV.str),(.i c2)] (.i r):=Pf.fG (yE l1 c2 r h _) rfl (.cons (sO<|fV (fun _=>rfl) _)<|.cons ⟨rfl,rfl⟩ .nil)
noncomputable def mJ(b1:Arm)(x2:Arm):Option Bool:=
 some (b1.op==x2.op)
theorem x8: ∀(b1:Arm)(x2:Arm)(r:Bool),mJ b1 x2=some r→ ∀s:ASt,Fc PP (.func 231) [(nC b1),(.aF (nC x2) 0)] s (dZ s<|.bool r):=by
 intro b1 x2 r u;unfold mJ at u;intro s;refine bZ rfl rfl rfl ?_;have J:=St.clean s;generalize aT s=σ1 at J⊢;refine aD<|aE<|wu rfl<|wu rfl<|aB<|aD<|aE<|wu rfl<|wu rfl<|wu rfl<|wu rfl<|wu rfl<|wu rfl<|aB ?_;refine aL ?_;cases u;exact⟨rfl,_,fun _=>rfl,bK rfl rfl rfl rfl J.ext⟩
theorem xM{b1:Arm}{x2:Arm}{r:Bool}(h:mJ b1 x2=some r):Pf PP 231 [(nC b1),(.aF (nC x2) 0)] (.bool r):=Pf.fG (x8 b1 x2 r h _) rfl (.cons (aBE _)<|.cons (zZ<|aBE _) .nil)
noncomputable def cV(s1:(List Arm))(f2:Arm)(x3:Int):Option (Ctl Int Unit):=
 (if(decide (x3<(s1.length:Int)))=true then((idx s1 x3)>>=fun y4=>
 ((mJ y4 f2)>>=fun r5=>
 (if r5=true then some (.ret x3)
 else cV (nf s1) (nf f2) (IntKind.wrap .i64 (x3+(1))))))
 else some (.nx ()))
 partial_fixpoint
abbrev jW(s1:(List Arm))(f2:Arm)(x3:Int)(o:(Ctl Int Unit)):Prop:= ∀(e:Env)(s sv:ASt),St [] [] s sv [] []→Wk PP none Code.aNZ ⟨bB e [(0,(slA 9<|s1.map aZ)),(1,(.func 231 [] [(.aF (nC f2) 0)])),(7,(.i (s1.length:Int))),(8,(.i x3))],[]⟩ sv (fun ex fr s'=>(match o with| .ret oq0=>ex= .ret∧rP PP Code.aO7 (VQ (.i oq0)<|Ext [] [] s) ex fr s'| .nx oq1=>ex= .exit 0∧ ∃(e:Env),fr=⟨bB e [],[]⟩∧St [] [] s s' [] []))
theorem oH: ∀(s1:(List Arm))(f2:Arm)(x3:Int)(o:(Ctl Int Unit)),cV s1 f2 x3=some o→jW s1 f2 x3 o:=by
 refine cV.partial_correctness (jW) ?_;intro _f ih_slices_IndexFunc_g244_s0_l0 s1 f2 x3 o u;intro e s sv J;refine dC<|aD<|aE<|wu rfl<|aB<|aD ?_;refine aH u rfl (fun hc u=> ?_)<|fun hc u=> ?_
 ·refine aN<|aD<|aQ<|aD<|aE<|wu rfl<|wu rfl<|aB<|aD<|aE<|wu rfl<|wu rfl<|wu rfl ?_;obtain⟨y4,hy4,u⟩:=bs u;refine j5 (f:=aZ) rfl (.no _) rfl hy4 (nN _)<|wu rfl ?_;obtain⟨r5,hr5,u⟩:=bs u;refine wcC (xM hr5) rfl rfl (.cons rfl .nil) rfl<|aB ?_;refine aH u rfl (fun hc u=> ?_)<|fun hc u=> ?_
  ·refine aD<|aE<|wu rfl<|wu rfl<|aB<|aL ?_;cases u;exact⟨rfl,⟨rfl,_,fun _=>rfl,bK rfl rfl rfl rfl J.ext⟩⟩
  ·refine aN<|aE<|wu rfl<|wu rfl<|aB ?_;exact eL (fun e=>ih_slices_IndexFunc_g244_s0_l0 _ _ _ _ u e s _ J) (.cons rfl<|.cons rfl<|.cons rfl<|.cons rfl .nil)<|fun _ _ _ h=>h
 ·refine dR ?_;cases u;exact⟨rfl,_,frE .nil,J⟩
noncomputable def dN(s1:(List Arm))(f2:Arm):Option Int:=
 ((cV s1 f2 (0))>>=fun o6=>
 (match o6 with
 | .ret q7=>some q7
 | .nx q8=>some (-1)))
theorem qF: ∀(s1:(List Arm))(f2:Arm)(r:Int),dN s1 f2=some r→ ∀s:ASt,Fc PP (.func 244) [(slA 9<|s1.map aZ),(.func 231 [] [(.aF (nC f2) 0)])] s (dZ s<|.i r):=by
 intro s1 f2 r u;unfold dN at u;intro s;refine bZ rfl rfl rfl ?_;have J:=St.clean s;generalize aT s=σ1 at J⊢;refine aD<|aE<|wu rfl<|aB<|aD<|aD<|aE<|wu rfl<|cG (f:=aZ) (l:=s1) rfl (.no _)<|wu rfl<|aB<|aQ ?_;obtain⟨o6,ho6,u⟩:=bs u;refine eL (fun e=>oH _ _ _ _ ho6 e s _ J) (.cons rfl<|.cons rfl<|.cons rfl<|.cons rfl .nil) ?_
 rintro _ _ _ hq
 rcases o6 with q7|q8
 ·obtain⟨rfl,hq⟩:=hq;cases u;exact hq
 ·obtain⟨rfl,e10,rfl,J⟩:=hq;refine aD<|aE<|wu rfl<|aB<|aL ?_;cases u;exact⟨rfl,_,fun _=>rfl,bK rfl rfl rfl rfl J.ext⟩
theorem p9{s1:(List Arm)}{f2:Arm}{r:Int}(h:dN s1 f2=some r):Pf PP 244 [(slA 9<|s1.map aZ),(.func 231 [] [(.aF (nC f2) 0)])] (.i r):=Pf.fG (qF s1 f2 r h _) rfl (.cons (sO<|fV aEr _)<|.cons (aIX .nil<|.cons (zZ<|aBE _) .nil) .nil)
noncomputable def cW(s1:(List Arm))(f2:Arm):Option Bool:=
 ((dN s1 f2)>>=fun r3=>
 some (decide (r3≥(0))))
theorem oT: ∀(s1:(List Arm))(f2:Arm)(r:Bool),cW s1 f2=some r→ ∀s:ASt,Fc PP (.func 230) [(slA 9<|s1.map aZ),(.func 231 [] [(.aF (nC f2) 0)])] s (dZ s<|.bool r):=by
 intro s1 f2 r u;unfold cW at u;intro s;refine bZ rfl rfl rfl ?_;have J:=St.clean s;generalize aT s=σ1 at J⊢;refine aD<|aE<|wu rfl<|aB<|aD<|aE<|wu rfl<|wu rfl ?_;obtain⟨r3,hr3,u⟩:=bs u;refine wcD (p9 hr3) rfl rfl (.cons rfl<|.cons rfl .nil)<|wu rfl<|wu rfl<|aB<|aL ?_;cases u;exact⟨rfl,_,fun _=>rfl,bK rfl rfl rfl rfl J.ext⟩
theorem oS{s1:(List Arm)}{f2:Arm}{r:Bool}(h:cW s1 f2=some r):Pf PP 230 [(slA 9<|s1.map aZ),(.func 231 [] [(.aF (nC f2) 0)])] (.bool r):=Pf.fG (oT s1 f2 r h _) rfl (.cons (sO<|fV aEr _)<|.cons (aIX .nil<|.cons (zZ<|aBE _) .nil) .nil)
noncomputable def oJ(e1:Expr)(i2:Int):Option Int:=
 ((idx e1.aO i2)>>=fun y3=>
 (((if(e1.kind==(11))=true then some ((2),(decide ((y3.names.length:Int)≤(4))))
 else(if(i2==(0))=true then((if((y3.names.length:Int)==(1))=true then some (y3.op==([114,101,116,117,114,110]:Str))
 else some false:Option Bool)>>=fun c5=>
 some ((0),c5))
 else some ((1),((y3.names.length:Int)==(2))))):Option (Int×Bool))>>=fun o4=>
 (if(!o4.2)=true then some (7)
 else((if(o4.1 !=(0))=true then((lK y3.op o4.1)>>=fun r9=>
 some (!r9))
 else some false:Option Bool)>>=fun c8=>
 (if c8=true then some (4)
 else((dU y3.names (1))>>=fun r10=>
 (if(r10 !=(0))=true then some r10
 else((cut e1.aO (0) i2)>>=fun l11=>
 ((cW l11 y3)>>=fun r12=>
 (if r12=true then some (5)
 else some (0)))))))))))
theorem aC5: ∀(e1:Expr)(i2:Int)(r:Int),oJ e1 i2=some r→ ∀s:ASt,Fc PP (.func 213) [(aR e1),(.i i2)] s (dZ s<|.i r):=by
 intro e1 i2 r u;unfold oJ at u;intro s;refine bZ rfl rfl rfl ?_;have J:=St.clean s;generalize aT s=σ1 at J⊢;refine aD<|aE<|wu rfl<|wu rfl<|aB<|aD<|aE<|wu rfl<|wu rfl<|wu rfl ?_;obtain⟨y3,hy3,u⟩:=bs u;refine j5 (f:=aZ) rfl (.no _) rfl hy3 (nN _)<|wu rfl<|wu rfl<|wu rfl<|aB<|aD<|aE<|wu rfl<|wu rfl<|cG (f:=AV.str) (l:=y3.names) rfl (.no _)<|wu rfl<|wu rfl<|wu rfl<|aB ?_;refine aD<|aQ<|aD<|aE<|wu rfl<|wu rfl<|wu rfl<|wu rfl<|aB ?_;obtain⟨o4,ho4,u⟩:=bs u;refine Wk.mono (Q:=fun ex fr s'=>ex= .normal∧ ∃(e:Env),fr=⟨bB e [(1,(.i i2)),(2,(.aF (aR e1) 0)),(5,(.aF (nC y3) 0)),(6,(.i o4.1)),(7,(.bool o4.2))],[]⟩∧σ1=s') ?_ ?_
 ·refine aH ho4 rfl (fun hc ho4=> ?_)<|fun hc ho4=> ?_
  ·refine aE<|wu rfl<|wu rfl<|cG (f:=AV.str) (l:=y3.names) rfl (.no _)<|wu rfl<|wu rfl<|wu rfl<|aB ?_;cases ho4;exact⟨rfl,_,frE<|.cons rfl<|.cons rfl<|.cons rfl<|.cons rfl<|.cons rfl .nil,rfl⟩
  ·refine aD<|aE<|wu rfl<|wu rfl<|wu rfl<|aB ?_;refine aH ho4 rfl (fun hc ho4=> ?_)<|fun hc ho4=> ?_
   ·refine aE<|wu rfl<|wu rfl<|cG (f:=AV.str) (l:=y3.names) rfl (.no _)<|wu rfl<|wu rfl ?_;obtain⟨c5,hc5,ho4⟩:=bs ho4;refine bF 4 [(1,(.i i2)),(2,(.aF (aR e1) 0)),(5,(.aF (nC y3) 0)),(37,(.bool c5))] σ1 ?_<|fun e=> ?_
    ·refine bE (t:=33) rfl (fun hc=> ?_)<|fun hc=> ?_
     ·replace hc5:=bP hc hc5;refine wu rfl<|wu rfl<|wu rfl<|wu rfl<|aB ?_;cases hc5;exact Kept.mk rfl<|.cons rfl<|.cons rfl<|.cons rfl<|.cons rfl .nil
     ·replace hc5:=bO hc hc5;refine wu rfl<|wu rfl<|wu rfl<|wu rfl<|aB ?_;cases hc5;exact Kept.mk rfl<|.cons rfl<|.cons rfl<|.cons rfl<|.cons rfl .nil
    ·refine wu rfl<|wu rfl<|aB ?_;cases ho4;exact⟨rfl,_,frE<|.cons rfl<|.cons rfl<|.cons rfl<|.cons rfl<|.cons rfl .nil,rfl⟩
   ·refine aN ?_;cases ho4;exact⟨rfl,_,frE<|.cons rfl<|.cons rfl<|.cons rfl<|.cons rfl<|.cons rfl .nil,rfl⟩
 ·rintro _ _ _ hq
  obtain⟨rfl,e7,rfl,rfl⟩:=hq;refine aD<|aD<|aE<|wu rfl<|wu rfl<|aB ?_;refine aH u rfl (fun hc u=> ?_)<|fun hc u=> ?_
  ·refine aD<|aE<|wu rfl<|aB<|aL ?_;cases u;exact⟨rfl,_,fun _=>rfl,bK rfl rfl rfl rfl J.ext⟩
  ·refine aN<|aD<|aD<|aE<|wu rfl<|wu rfl<|wu rfl ?_;obtain⟨c8,hc8,u⟩:=bs u;refine bF 6 [(1,(.i i2)),(2,(.aF (aR e1) 0)),(5,(.aF (nC y3) 0)),(48,(.bool c8))] σ1 ?_<|fun e=> ?_
   ·refine bE (t:=42) rfl (fun hc=> ?_)<|fun hc=> ?_
    ·replace hc8:=bP hc hc8
     iterate 3 refine wu rfl ?_
     obtain⟨r9,hr9,hc8⟩:=bs hc8;refine wcD (p8 hr9) rfl rfl (.cons rfl<|.cons rfl .nil)<|wu rfl<|wu rfl<|aB ?_;cases hc8;exact Kept.mk rfl<|.cons rfl<|.cons rfl<|.cons rfl<|.cons rfl .nil
    ·replace hc8:=bO hc hc8;refine wu rfl<|wu rfl<|wu rfl<|wu rfl<|wu rfl<|wu rfl<|aB ?_;cases hc8;exact Kept.mk rfl<|.cons rfl<|.cons rfl<|.cons rfl<|.cons rfl .nil
   ·refine aB ?_;refine aH u rfl (fun hc u=> ?_)<|fun hc u=> ?_
    ·refine aD<|aE<|wu rfl<|aB<|aL ?_;cases u;exact⟨rfl,_,fun _=>rfl,bK rfl rfl rfl rfl J.ext⟩
    ·refine aN<|aD<|aD<|aE<|wu rfl<|wu rfl ?_;obtain⟨r10,h10,u⟩:=bs u;refine wcD (mM h10) rfl rfl (.cons rfl<|.cons rfl .nil)<|wu rfl<|aB<|aD<|aE<|wu rfl<|wu rfl<|aB ?_;refine aH u rfl (fun hc u=> ?_)<|fun hc u=> ?_
     ·refine aD<|aE<|wu rfl<|wu rfl<|aB<|aL ?_;cases u;exact⟨rfl,_,fun _=>rfl,bK rfl rfl rfl rfl J.ext⟩
     ·refine aN<|aD<|aD<|aE<|wu rfl<|wu rfl<|wu rfl ?_;obtain⟨l11,h11,u⟩:=bs u;refine uI (f:=aZ) (lo':=(0)) (hi':=i2) rfl (.no _) (.inl ⟨rfl,rfl⟩) (.inr ⟨_,rfl⟩) (by rfl) h11 ?_;refine wu rfl ?_;obtain⟨r12,h12,u⟩:=bs u;refine wcD (oS h12) rfl rfl (.cons rfl<|.cons rfl .nil)<|aB ?_;refine aH u rfl (fun hc u=> ?_)<|fun hc u=> ?_
      ·refine aD<|aE<|wu rfl<|aB<|aL ?_;cases u;exact⟨rfl,_,fun _=>rfl,bK rfl rfl rfl rfl J.ext⟩
      ·refine aN<|aD<|aE<|wu rfl<|aB<|aL ?_;cases u;exact⟨rfl,_,fun _=>rfl,bK rfl rfl rfl rfl J.ext⟩
theorem aC9{e1:Expr}{i2:Int}{r:Int}(h:oJ e1 i2=some r):Pf PP 213 [(aR e1),(.i i2)] (.i r):=Pf.fG (aC5 e1 i2 r h _) rfl (.cons (gQ _)<|.cons ⟨rfl,rfl⟩ .nil)
noncomputable def eI(e1:Expr)(y3:a0)(x20:Int):Option (Ctl Int Unit):=
 (if(decide (x20<(e1.aO.length:Int)))=true then((oJ e1 x20)>>=fun r21=>
 (if(r21 !=(0))=true then some (.ret r21)
 else eI (nf e1) (nf y3) (IntKind.wrap .i64 (x20+(1)))))
 else some (.nx ()))
 partial_fixpoint
abbrev tB(e1:Expr)(y3:a0)(x20:Int)(o:(Ctl Int Unit)):Prop:= ∀(e:Env)(s sv:ASt),St [] [] s sv [] []→Wk PP none Code.aNu ⟨bB e [(1,(.aF (aR e1) 0)),(3,(.aF (fK y3) 0)),(108,(.i (e1.aO.length:Int))),(109,(.i x20))],[]⟩ sv (fun ex fr s'=>(match o with| .ret oq0=>ex= .ret∧rP PP Code.aOP (VQ (.i oq0)<|Ext [] [] s) ex fr s'| .nx oq1=>ex= .exit 1∧ ∃(e:Env),fr=⟨bB e [(1,(.aF (aR e1) 0)),(3,(.aF (fK y3) 0))],[]⟩∧sv=s'))
theorem z5: ∀(e1:Expr)(y3:a0)(x20:Int)(o:(Ctl Int Unit)),eI e1 y3 x20=some o→tB e1 y3 x20 o:=by
 refine eI.partial_correctness (tB) ?_;intro _f ih_syntax_node_l0 e1 y3 x20 o u;intro e s sv J;refine dC<|aD<|aE<|wu rfl<|aB<|aD ?_;refine aH u rfl (fun hc u=> ?_)<|fun hc u=> ?_
 ·refine aN<|aD<|aQ<|aD<|aE<|wu rfl<|wu rfl<|aB<|aD<|aE<|wu rfl<|wu rfl ?_;obtain⟨r21,h21,u⟩:=bs u;refine wcD (aC9 h21) rfl rfl (.cons rfl<|.cons rfl .nil)<|wu rfl<|aB<|aD<|aE<|wu rfl<|wu rfl<|aB ?_;refine aH u rfl (fun hc u=> ?_)<|fun hc u=> ?_
  ·refine aD<|aE<|wu rfl<|wu rfl<|aB<|aL ?_;cases u;exact⟨rfl,⟨rfl,_,fun _=>rfl,bK rfl rfl rfl rfl J.ext⟩⟩
  ·refine aN<|aE<|wu rfl<|wu rfl<|aB ?_;exact eL (fun e=>ih_syntax_node_l0 _ _ _ _ u e s _ J) (.cons rfl<|.cons rfl<|.cons rfl<|.cons rfl .nil)<|fun _ _ _ h=>h
 ·refine dR ?_;cases u;exact⟨rfl,_,frE<|.cons rfl<|.cons rfl .nil,rfl⟩
noncomputable def eB(e1:Expr):Option Int:=
 ((gU e1.kind (0) (19))>>=fun r2=>
 (if(!r2)=true then some (1)
 else((idx jI e1.kind)>>=fun y3=>
 ((gU e1.n y3.low y3.high)>>=fun r4=>
 (if(!r4)=true then some (1)
 else((lK e1.s y3.s)>>=fun r5=>
 ((if(!r5)=true then some true
 else((lK e1.t y3.t)>>=fun r7=>
 some (!r7)):Option Bool)>>=fun c6=>
 (if c6=true then some (4)
 else((gU (e1.names.length:Int) y3.names (IntKind.wrap .i64 (y3.names+y3.more)))>>=fun r8=>
 ((if(!r8)=true then some true
 else((gU (e1.l.length:Int) y3.parts (IntKind.wrap .i64 (y3.parts+y3.plus)))>>=fun r10=>
 some (!r10)):Option Bool)>>=fun c9=>
 (if c9=true then some (7)
 else((if(!y3.aO)=true then some (decide ((e1.aO.length:Int)>(0)))
 else some false:Option Bool)>>=fun c11=>
 ((if c11=true then some true
 else some (decide ((e1.aO.length:Int)>(9))):Option Bool)>>=fun c12=>
 (if c12=true then some (7)
 else(((if(e1.kind==(17))=true then some (1)
 else some (e1.names.length:Int)):Option Int)>>=fun o13=>
 ((cut e1.names (0) o13)>>=fun l16=>
 ((dU l16 (1))>>=fun r17=>
 (if(r17 !=(0))=true then some r17
 else((cut e1.names o13 (e1.names.length:Int))>>=fun l18=>
 ((dU l18 (2))>>=fun r19=>
 (if(r19 !=(0))=true then some r19
 else((eI e1 y3 (0))>>=fun o22=>
 (match o22 with
 | .ret q23=>some q23
 | .nx q24=>((if(e1.kind !=(11))=true then some y3.aO
 else some false:Option Bool)>>=fun c27=>
 ((if c27=true then some ((e1.aO.length:Int)==(0))
 else some false:Option Bool)>>=fun c28=>
 (if c28=true then some (7)
 else some (0)))))))))))))))))))))))))))
theorem aCg: ∀(e1:Expr)(r:Int),eB e1=some r→ ∀s:ASt,Fc PP (.func 195) [(aR e1)] s (dZ s<|.i r):=by
 intro e1 r u;unfold eB at u;intro s;refine bZ rfl rfl rfl ?_;have J:=St.clean s;generalize aT s=σ1 at J⊢;refine aD<|aE<|wu rfl<|wu rfl<|aB<|aD<|aD<|aE<|wu rfl<|wu rfl ?_;obtain⟨r2,hr2,u⟩:=bs u;refine wcD (mI hr2) rfl rfl (.cons rfl<|.cons rfl<|.cons rfl .nil)<|wu rfl<|aB ?_;refine aH u rfl (fun hc u=> ?_)<|fun hc u=> ?_
 ·refine aD<|aE<|wu rfl<|aB<|aL ?_;cases u;exact⟨rfl,_,fun _=>rfl,bK rfl rfl rfl rfl J.ext⟩
 ·refine aN<|aD<|aE<|wu rfl<|wu rfl ?_;obtain⟨y3,hy3,u⟩:=bs u;refine aQ3 rfl rfl rfl hy3 (by rfl) ?_;refine aQc (f:=uX) rfl rfl wT (fun _=>rfl) hy3 ?_;refine wu rfl<|wu rfl<|aB<|aD<|aQ<|aD<|aE<|wu rfl<|wu rfl<|wu rfl<|wu rfl<|wu rfl<|wu rfl ?_;obtain⟨r4,hr4,u⟩:=bs u;refine wcD (mI hr4) rfl rfl (.cons rfl<|.cons rfl<|.cons rfl .nil)<|wu rfl<|wu rfl<|aB ?_;refine aH u rfl (fun hc u=> ?_)<|fun hc u=> ?_
  ·refine aD<|aE<|wu rfl<|aB<|aL ?_;cases u;exact⟨rfl,_,fun _=>rfl,bK rfl rfl rfl rfl J.ext⟩
  ·refine aD<|aE<|wu rfl<|wu rfl<|wu rfl<|wu rfl ?_;obtain⟨r5,hr5,u⟩:=bs u;refine wcD (p8 hr5) rfl rfl (.cons rfl<|.cons rfl .nil)<|wu rfl<|wu rfl ?_;obtain⟨c6,hc6,u⟩:=bs u;refine bF 7 [(1,(.aF (aR e1) 0)),(3,(.aF (fK y3) 0)),(40,(.bool c6))] σ1 ?_<|fun e=> ?_
   ·refine bE (t:=33) rfl (fun hc=> ?_)<|fun hc=> ?_
    ·replace hc6:=bP hc hc6;refine wu rfl<|wu rfl<|wu rfl<|wu rfl<|wu rfl<|wu rfl<|wu rfl<|aB ?_;cases hc6;exact Kept.mk rfl<|.cons rfl<|.cons rfl<|.cons rfl .nil
    ·replace hc6:=bO hc hc6
     iterate 4 refine wu rfl ?_
     obtain⟨r7,hr7,hc6⟩:=bs hc6;refine wcD (p8 hr7) rfl rfl (.cons rfl<|.cons rfl .nil)<|wu rfl<|wu rfl<|aB ?_;cases hc6;exact Kept.mk rfl<|.cons rfl<|.cons rfl<|.cons rfl .nil
   ·refine wu rfl<|aB ?_;refine aH u rfl (fun hc u=> ?_)<|fun hc u=> ?_
    ·refine aD<|aE<|wu rfl<|aB<|aL ?_;cases u;exact⟨rfl,_,fun _=>rfl,bK rfl rfl rfl rfl J.ext⟩
    ·refine aD<|aE<|wu rfl<|wu rfl<|cG (f:=AV.str) (l:=e1.names) rfl (.no _)<|wu rfl<|wu rfl<|wu rfl<|wu rfl<|wu rfl<|wu rfl<|wu rfl ?_;obtain⟨r8,hr8,u⟩:=bs u;refine wcD (mI hr8) rfl rfl (.cons rfl<|.cons rfl<|.cons rfl .nil)<|wu rfl<|wu rfl ?_;obtain⟨c9,hc9,u⟩:=bs u;refine bF 13 [(1,(.aF (aR e1) 0)),(3,(.aF (fK y3) 0)),(67,(.bool c9))] σ1 ?_<|fun e=> ?_
     ·refine bE (t:=54) rfl (fun hc=> ?_)<|fun hc=> ?_
      ·replace hc9:=bP hc hc9;refine wu rfl<|wu rfl<|wu rfl<|wu rfl<|wu rfl<|wu rfl<|wu rfl<|wu rfl<|wu rfl<|wu rfl<|wu rfl<|wu rfl<|wu rfl<|aB ?_;cases hc9;exact Kept.mk rfl<|.cons rfl<|.cons rfl<|.cons rfl .nil
      ·replace hc9:=bO hc hc9;refine wu rfl<|wu rfl<|cG (f:=aP) (l:=e1.l) rfl (.no _)<|wu rfl<|wu rfl<|wu rfl<|wu rfl<|wu rfl<|wu rfl<|wu rfl ?_;obtain⟨r10,h10,hc9⟩:=bs hc9;refine wcD (mI h10) rfl rfl (.cons rfl<|.cons rfl<|.cons rfl .nil)<|wu rfl<|wu rfl<|aB ?_;cases hc9;exact Kept.mk rfl<|.cons rfl<|.cons rfl<|.cons rfl .nil
     ·refine wu rfl<|aB ?_;refine aH u rfl (fun hc u=> ?_)<|fun hc u=> ?_
      ·refine aD<|aE<|wu rfl<|aB<|aL ?_;cases u;exact⟨rfl,_,fun _=>rfl,bK rfl rfl rfl rfl J.ext⟩
      ·refine aD<|aE<|wu rfl<|wu rfl<|wu rfl<|wu rfl ?_;obtain⟨c11,h11,u⟩:=bs u;refine bF 5 [(1,(.aF (aR e1) 0)),(3,(.aF (fK y3) 0)),(77,(.bool c11))] σ1 ?_<|fun e=> ?_
       ·refine bE (t:=72) rfl (fun hc=> ?_)<|fun hc=> ?_
        ·replace h11:=bP hc h11;refine wu rfl<|wu rfl<|cG (f:=aZ) (l:=e1.aO) rfl (.no _)<|wu rfl<|wu rfl<|aB ?_;cases h11;exact Kept.mk rfl<|.cons rfl<|.cons rfl<|.cons rfl .nil
        ·replace h11:=bO hc h11;refine wu rfl<|wu rfl<|wu rfl<|wu rfl<|wu rfl<|aB ?_;cases h11;exact Kept.mk rfl<|.cons rfl<|.cons rfl<|.cons rfl .nil
       ·refine wu rfl ?_;obtain⟨c12,h12,u⟩:=bs u;refine bF 5 [(1,(.aF (aR e1) 0)),(3,(.aF (fK y3) 0)),(83,(.bool c12))] σ1 ?_<|fun e=> ?_
        ·refine bE (t:=78) rfl (fun hc=> ?_)<|fun hc=> ?_
         ·replace h12:=bP hc h12;refine wu rfl<|wu rfl<|wu rfl<|wu rfl<|wu rfl<|aB ?_;cases h12;exact Kept.mk rfl<|.cons rfl<|.cons rfl<|.cons rfl .nil
         ·replace h12:=bO hc h12;refine wu rfl<|wu rfl<|cG (f:=aZ) (l:=e1.aO) rfl (.no _)<|wu rfl<|wu rfl<|aB ?_;cases h12;exact Kept.mk rfl<|.cons rfl<|.cons rfl<|.cons rfl .nil
        ·refine wu rfl<|aB ?_;refine aH u rfl (fun hc u=> ?_)<|fun hc u=> ?_
         ·refine aD<|aE<|wu rfl<|aB<|aL ?_;cases u;exact⟨rfl,_,fun _=>rfl,bK rfl rfl rfl rfl J.ext⟩
         ·refine aN<|aD<|aE<|wu rfl<|wu rfl<|cG (f:=AV.str) (l:=e1.names) rfl (.no _)<|wu rfl<|aB<|aD<|aD<|aE<|wu rfl<|wu rfl<|wu rfl ?_;refine aB ?_;obtain⟨o13,h13,u⟩:=bs u;refine Wk.mono (Q:=fun ex fr s'=>ex= .normal∧ ∃(e:Env),fr=⟨bB e [(1,(.aF (aR e1) 0)),(3,(.aF (fK y3) 0)),(4,(.i o13))],[]⟩∧σ1=s') ?_ ?_
          ·refine aH h13 rfl (fun hc h13=> ?_)<|fun hc h13=> ?_
           ·refine aE<|wu rfl<|aB ?_;cases h13;exact⟨rfl,_,frE<|.cons rfl<|.cons rfl<|.cons rfl .nil,rfl⟩
           ·refine aN ?_;cases h13;exact⟨rfl,_,frE<|.cons rfl<|.cons rfl<|.cons rfl .nil,rfl⟩
          ·rintro _ _ _ hq
           obtain⟨rfl,e15,rfl,rfl⟩:=hq;refine aD<|aD<|aE<|wu rfl<|wu rfl<|wu rfl ?_;obtain⟨l16,h16,u⟩:=bs u;refine uI (f:=AV.str) (lo':=(0)) (hi':=o13) rfl (.no _) (.inl ⟨rfl,rfl⟩) (.inr ⟨_,rfl⟩) (by rfl) h16 ?_;obtain⟨r17,h17,u⟩:=bs u;refine wcD (mM h17) rfl rfl (.cons rfl<|.cons rfl .nil)<|wu rfl<|aB<|aD<|aE<|wu rfl<|wu rfl<|aB ?_;refine aH u rfl (fun hc u=> ?_)<|fun hc u=> ?_
           ·refine aD<|aE<|wu rfl<|wu rfl<|aB<|aL ?_;cases u;exact⟨rfl,_,fun _=>rfl,bK rfl rfl rfl rfl J.ext⟩
           ·refine aN<|aD<|aD<|aE<|wu rfl<|wu rfl<|wu rfl ?_;obtain⟨l18,h18,u⟩:=bs u;refine uI (f:=AV.str) (lo':=o13) (hi':=(e1.names.length:Int)) rfl (.no _) (.inr ⟨_,rfl⟩) (.inl ⟨rfl,rfl⟩) (by rfl) h18 ?_;obtain⟨r19,h19,u⟩:=bs u;refine wcD (mM h19) rfl rfl (.cons rfl<|.cons rfl .nil)<|wu rfl<|aB<|aD<|aE<|wu rfl<|wu rfl<|aB ?_;refine aH u rfl (fun hc u=> ?_)<|fun hc u=> ?_
            ·refine aD<|aE<|wu rfl<|wu rfl<|aB<|aL ?_;cases u;exact⟨rfl,_,fun _=>rfl,bK rfl rfl rfl rfl J.ext⟩
            ·refine aN<|aD<|aD<|aE<|wu rfl<|wu rfl<|cG (f:=aZ) (l:=e1.aO) rfl (.no _)<|wu rfl<|aB<|aQ ?_;obtain⟨o22,h22,u⟩:=bs u;refine eL (fun e=>z5 _ _ _ _ h22 e s _ J) (.cons rfl<|.cons rfl<|.cons rfl<|.cons rfl .nil) ?_
             rintro _ _ _ hq
             rcases o22 with q23|q24
             ·obtain⟨rfl,hq⟩:=hq;cases u;exact hq
             ·obtain⟨rfl,e26,rfl,rfl⟩:=hq;refine aD<|aD<|aE<|wu rfl<|wu rfl<|wu rfl<|wu rfl ?_;obtain⟨c27,h27,u⟩:=bs u;refine bF 3 [(1,(.aF (aR e1) 0)),(125,(.bool c27))] σ1 ?_<|fun e=> ?_
              ·refine bE (t:=122) rfl (fun hc=> ?_)<|fun hc=> ?_
               ·replace h27:=bP hc h27;refine wu rfl<|wu rfl<|wu rfl<|aB ?_;cases h27;exact Kept.mk rfl<|.cons rfl<|.cons rfl .nil
               ·replace h27:=bO hc h27;refine wu rfl<|wu rfl<|wu rfl<|aB ?_;cases h27;exact Kept.mk rfl<|.cons rfl<|.cons rfl .nil
              ·refine wu rfl ?_;obtain⟨c28,h28,u⟩:=bs u;refine bF 5 [(131,(.bool c28))] σ1 ?_<|fun e=> ?_
               ·refine bE (t:=126) rfl (fun hc=> ?_)<|fun hc=> ?_
                ·replace h28:=bP hc h28;refine wu rfl<|wu rfl<|cG (f:=aZ) (l:=e1.aO) rfl (.no _)<|wu rfl<|wu rfl<|aB ?_;cases h28;exact Kept.mk rfl<|.cons rfl .nil
                ·replace h28:=bO hc h28;refine wu rfl<|wu rfl<|wu rfl<|wu rfl<|wu rfl<|aB ?_;cases h28;exact Kept.mk rfl<|.cons rfl .nil
               ·refine aB ?_;refine aH u rfl (fun hc u=> ?_)<|fun hc u=> ?_
                ·refine aD<|aE<|wu rfl<|aB<|aL ?_;cases u;exact⟨rfl,_,fun _=>rfl,bK rfl rfl rfl rfl J.ext⟩
                ·refine aN<|aD<|aE<|wu rfl<|aB<|aL ?_;cases u;exact⟨rfl,_,fun _=>rfl,bK rfl rfl rfl rfl J.ext⟩
theorem aCP{e1:Expr}{r:Int}(h:eB e1=some r):Pf PP 195 [(aR e1)] (.i r):=Pf.fG (aCg e1 r h _) rfl (.cons (gQ _) .nil)
mutual
noncomputable def nY (e1:Expr) (f2:Int):Option (Bool×Int):=
 ((fE e1 (0) f2)>>=fun o11=>
 (match o11 with
 | .ret q12=>some q12
 | .nx q13=>((eZ e1 (0) q13)>>=fun o25=>
 (match o25 with
 | .ret q26=>some q26
 | .nx q27=>some (true,q27)))))
 partial_fixpoint
noncomputable def eZ (e1:Expr) (x17:Int) (c18:Int):Option (Ctl (Bool×Int) Int):=
 (if(decide (x17<(e1.aO.length:Int)))=true then((idx e1.aO x17)>>=fun y19=>
 ((iN y19.body (nf c18))>>=fun r20=>
 (if(!r20.1)=true then some (.ret (false,r20.2))
 else eZ (nf e1) (IntKind.wrap .i64 (x17+(1))) r20.2)))
 else some (.nx c18))
 partial_fixpoint
noncomputable def iN (x1:Expr) (x2:Int):Option (Bool×Int):=
 ((iV (nf x1))>>=fun r3=>
 some ((r3==(0)),r3))
 partial_fixpoint
noncomputable def iV (e1:Expr):Option Int:=
 ((eB e1)>>=fun r2=>
 (if(r2==(0))=true then((nY (nf e1) (nf r2))>>=fun r6=>
 some r6.2)
 else some r2))
 partial_fixpoint
noncomputable def fE (e1:Expr) (x3:Int) (c4:Int):Option (Ctl (Bool×Int) Int):=
 (if(decide (x3<(e1.l.length:Int)))=true then((idx e1.l x3)>>=fun y5=>
 ((iN (nf y5) (nf c4))>>=fun r6=>
 (if(!r6.1)=true then some (.ret (false,r6.2))
 else fE (nf e1) (IntKind.wrap .i64 (x3+(1))) r6.2)))
 else some (.nx c4))
 partial_fixpoint
end
abbrev tA(e1:Expr)(f2:Int)(r:(Bool×Int)):Prop:= ∀(s:ASt)(β1:Nat),Kn s [(β1,.cells [(.i f2)] true)] []→Fc PP (.func 192) [(aR e1),(.func 196 [] [(.ptr β1 0)])] s (lV s [β1] [] (.bool r.1) (fun a:Unit=> [(β1,.cells [(.i r.2)] true)]) (fun a:Unit=> []) (fun a:Unit=>True))
abbrev pY(e1:Expr)(x17:Int)(c18:Int)(o:(Ctl (Bool×Int) Int)):Prop:= ∀(e:Env)(s sv:ASt)(β1:Nat),St [β1] [] s sv [(β1,.cells [(.i c18)] true)] []→Wk PP none Code.aIz ⟨bB e [(1,(.func 196 [] [(.ptr β1 0)])),(22,(slA 9<|e1.aO.map aZ)),(23,(.i (e1.aO.length:Int))),(24,(.i x17))],[]⟩ sv (fun ex fr s'=>(match o with| .ret oq0=>ex= .ret∧rP PP Code.aIn (VQ (.bool oq0.1)<|RX s [β1] [] (fun a:Unit=> [(β1,.cells [(.i oq0.2)] true)]) (fun a:Unit=> []) (fun a:Unit=>True)) ex fr s'| .nx oq1=>ex= .exit 2∧ ∃(e:Env),fr=⟨bB e [],[]⟩∧St [β1] [] s s' [(β1,.cells [(.i oq1)] true)] []))
abbrev pU(x1:Expr)(x2:Int)(r:(Bool×Int)):Prop:= ∀(s:ASt)(β1:Nat),Kn s [(β1,.cells [(.i x2)] true)] []→Fc PP (.func 196) [(aR x1),(.ptr β1 0)] s (lV s [β1] [] (.bool r.1) (fun a:Unit=> [(β1,.cells [(.i r.2)] true)]) (fun a:Unit=> []) (fun a:Unit=>True))
abbrev qY(e1:Expr)(r:Int):Prop:= ∀s:ASt,Fc PP (.func 150) [(aR e1)] s (dZ s<|.i r)
abbrev pV(e1:Expr)(x3:Int)(c4:Int)(o:(Ctl (Bool×Int) Int)):Prop:= ∀(e:Env)(s sv:ASt)(β1:Nat),St [β1] [] s sv [(β1,.cells [(.i c4)] true)] []→Wk PP none Code.aID ⟨bB e [(1,(.func 196 [] [(.ptr β1 0)])),(2,(.aF (aR e1) 0)),(10,(slA 7<|e1.l.map aP)),(11,(.i (e1.l.length:Int))),(12,(.i x3))],[]⟩ sv (fun ex fr s'=>(match o with| .ret oq0=>ex= .ret∧rP PP Code.aIn (VQ (.bool oq0.1)<|RX s [β1] [] (fun a:Unit=> [(β1,.cells [(.i oq0.2)] true)]) (fun a:Unit=> []) (fun a:Unit=>True)) ex fr s'| .nx oq1=>ex= .exit 0∧ ∃(e:Env),fr=⟨bB e [(1,(.func 196 [] [(.ptr β1 0)])),(2,(.aF (aR e1) 0))],[]⟩∧St [β1] [] s s' [(β1,.cells [(.i oq1)] true)] []))
theorem uV{e1:Expr}{r:Int}(h: ∀s:ASt,Fc PP (.func 150) [(aR e1)] s<|dZ s<|.i r):Pf PP 150 [(aR e1)] (.i r):=Pf.fG (h _) rfl (.cons (gQ _) .nil)
theorem xY:(∀(e1:Expr)(f2:Int)(r:(Bool×Int)),nY e1 f2=some r→tA e1 f2 r)∧
  (∀(e1:Expr)(x17:Int)(c18:Int)(o:(Ctl (Bool×Int) Int)),eZ e1 x17 c18=some o→pY e1 x17 c18 o)∧
  (∀(x1:Expr)(x2:Int)(r:(Bool×Int)),iN x1 x2=some r→pU x1 x2 r)∧
  (∀(e1:Expr)(r:Int),iV e1=some r→qY e1 r)∧
  (∀(e1:Expr)(x3:Int)(c4:Int)(o:(Ctl (Bool×Int) Int)),fE e1 x3 c4=some o→pV e1 x3 c4 o):=by
 refine nY.mutual_partial_correctness tA pY pU qY pV ?_ ?_ ?_ ?_ ?_
 ·intro _f0 _f1 ih_syntax_each_s1_l1 ih_syntax_each_s1_l0 e1 f2 r u;intro s β1 hK;refine pO hK (fun _=>rfl) (fun _=>aDb) rfl rfl rfl ?_;have J:=hK.start;generalize aT s=σ1 at J⊢;refine aD<|aE<|wu rfl<|wu rfl<|aB<|aD<|aD<|aE<|wu rfl<|wu rfl<|cG (f:=aP) (l:=e1.l) rfl (.no _)<|wu rfl<|aB<|aQ ?_;obtain⟨o11,h11,u⟩:=bs u;refine eL (fun e=>ih_syntax_each_s1_l0 _ _ _ _ h11 e s _ β1 J) (.cons rfl<|.cons rfl<|.cons rfl<|.cons rfl<|.cons rfl .nil) ?_
  rintro _ _ _ hq
  rcases o11 with q12|q13
  ·obtain⟨rfl,hq⟩:=hq;cases u;exact hq
  ·obtain⟨rfl,e15,rfl,J⟩:=hq;refine aD<|aD<|aE<|wu rfl<|wu rfl<|cG (f:=aZ) (l:=e1.aO) rfl (.no _)<|wu rfl<|aB<|aQ ?_;obtain⟨o25,h25,u⟩:=bs u;refine eL (fun e=>ih_syntax_each_s1_l1 _ _ _ _ h25 e s _ β1 J) (.cons rfl<|.cons rfl<|.cons rfl<|.cons rfl .nil) ?_
   rintro _ _ _ hq
   rcases o25 with q26|q27
   ·obtain⟨rfl,hq⟩:=hq;cases u;exact hq
   ·obtain⟨rfl,e29,rfl,J⟩:=hq;refine aD<|aE<|wu rfl<|aB<|aL ?_;cases u;exact⟨rfl,_,fun _=>rfl,bK rfl rfl rfl rfl ⟨(),trivial,J⟩⟩
 ·intro _f0 _f1 ih_syntax_each_s1_l1 ih_syntax_nodes_1_s0 e1 x17 c18 o u;intro e s sv β1 J;refine dC<|aD<|aE<|wu rfl<|aB<|aD ?_;refine aH u rfl (fun hc u=> ?_)<|fun hc u=> ?_
  ·refine aN<|aD<|aQ<|aD<|aE ?_;obtain⟨y19,h19,u⟩:=bs u;refine j5 (f:=aZ) rfl (.no _) rfl h19 (nN _)<|wu rfl<|wu rfl<|wu rfl<|aB<|aD<|aE<|wu rfl<|wu rfl<|wu rfl ?_;obtain⟨r20,h20,u⟩:=bs u;refine cA rfl (bs1:= [(β1,.cells [(.i c18)] true)]) (bs2:= []) (gs1:= []) (gs2:= []) rfl J (fun hK=>ih_syntax_nodes_1_s0 _ _ _ h20 _ β1 hK) rfl rfl (fun _=>rfl) rfl (by exact(.cons rfl .nil)) rfl<|fun σ21 a22 hF J=> ?_;refine wu rfl<|aB ?_;refine aH u rfl (fun hc u=> ?_)<|fun hc u=> ?_
   ·refine aD<|aE<|wu rfl<|aB<|aL ?_;cases u;exact⟨rfl,⟨rfl,_,fun _=>rfl,bK rfl rfl rfl rfl ⟨(),trivial,J⟩⟩⟩
   ·refine aN<|aE<|wu rfl<|wu rfl<|aB ?_;exact eL (fun e=>ih_syntax_each_s1_l1 _ _ _ _ u e s _ β1 J) (.cons rfl<|.cons rfl<|.cons rfl<|.cons rfl .nil)<|fun _ _ _ h=>h
  ·refine dR ?_;cases u;exact⟨rfl,_,frE .nil,J⟩
 ·intro _f0 ih_syntax_nodes x1 x2 r u;intro s β1 hK;refine pO hK (fun _=>rfl) (fun _=>aDb) rfl rfl rfl ?_;have J:=hK.start;generalize aT s=σ1 at J⊢;refine aD<|aE<|wu rfl<|wu rfl<|aB<|aD<|aE<|wu rfl ?_;obtain⟨r3,hr3,u⟩:=bs u;refine wcD (uV<|ih_syntax_nodes _ _ hr3) rfl rfl (.cons rfl .nil) ?_;refine bV (ds':= [(.i r3)]) (cs':= [(.i r3)]) 0 rfl J rfl rfl rfl rfl rfl (Nat.le_of_ble_eq_true rfl) (.cons (tkN rfl) .nil) (by kernel_rfl)<|fun σ4 J=> ?_;refine aB<|aD<|aE<|j1 0 rfl J rfl rfl rfl<|wu rfl<|wu rfl<|aB<|aL ?_;cases u;exact⟨rfl,_,fun _=>rfl,bK rfl rfl rfl rfl ⟨(),trivial,J⟩⟩
 ·intro _f0 ih_syntax_each_s1 e1 r u;intro s;refine bZ rfl rfl rfl ?_;have J:=St.clean s;generalize aT s=σ1 at J⊢;refine aD<|aE<|wu rfl<|wu rfl<|aB<|aD<|aE<|wu rfl ?_;obtain⟨r2,hr2,u⟩:=bs u;refine wcD (aCP hr2) rfl rfl (.cons rfl .nil) ?_;refine kG rfl J rfl<|fun β3 σ4 J=> ?_;refine bV (ds':= [(.i r2)]) (cs':= [(.i r2)]) 0 rfl J rfl rfl rfl rfl rfl (Nat.le_of_ble_eq_true rfl) (.cons (tkN rfl) .nil) (by kernel_rfl)<|fun σ5 J=> ?_;refine aB<|aD<|aD<|aE<|j1 0 rfl J rfl rfl rfl<|wu rfl<|aB ?_;refine aH u rfl (fun hc u=> ?_)<|fun hc u=> ?_
  ·refine aE<|wu rfl<|wu rfl ?_;obtain⟨r6,hr6,u⟩:=bs u;refine cA rfl (bs1:= [(β3,.cells [(.i r2)] true)]) (bs2:= []) (gs1:= []) (gs2:= []) rfl J (fun hK=>ih_syntax_each_s1 _ _ _ hr6 _ β3 hK) rfl rfl (fun _=>rfl) rfl (by exact(.cons rfl<|.cons rfl .nil)) rfl<|fun σ7 a8 hF J=> ?_;refine aB<|aD<|aE<|j1 0 rfl J rfl rfl rfl<|wu rfl<|aB<|aL ?_;cases u;exact⟨rfl,_,fun _=>rfl,bK rfl rfl rfl rfl J.ext⟩
  ·refine aN<|aD<|aE<|j1 0 rfl J rfl rfl rfl<|wu rfl<|aB<|aL ?_;cases u;exact⟨rfl,_,fun _=>rfl,bK rfl rfl rfl rfl J.ext⟩
 ·intro _f0 _f1 ih_syntax_nodes_1_s0 ih_syntax_each_s1_l0 e1 x3 c4 o u;intro e s sv β1 J;refine dC<|aD<|aE<|wu rfl<|aB<|aD ?_;refine aH u rfl (fun hc u=> ?_)<|fun hc u=> ?_
  ·refine aN<|aD<|aQ<|aD<|aE ?_;obtain⟨y5,hy5,u⟩:=bs u;refine j5 (f:=aP) rfl (.no _) rfl hy5 (iD _)<|wu rfl<|wu rfl<|wu rfl<|aB<|aD<|aE<|wu rfl<|wu rfl ?_;obtain⟨r6,hr6,u⟩:=bs u;refine cA rfl (bs1:= [(β1,.cells [(.i c4)] true)]) (bs2:= []) (gs1:= []) (gs2:= []) rfl J (fun hK=>ih_syntax_nodes_1_s0 _ _ _ hr6 _ β1 hK) rfl rfl (fun _=>rfl) rfl (by exact(.cons rfl .nil)) rfl<|fun σ7 a8 hF J=> ?_;refine wu rfl<|aB ?_;refine aH u rfl (fun hc u=> ?_)<|fun hc u=> ?_
   ·refine aD<|aE<|wu rfl<|aB<|aL ?_;cases u;exact⟨rfl,⟨rfl,_,fun _=>rfl,bK rfl rfl rfl rfl ⟨(),trivial,J⟩⟩⟩
   ·refine aN<|aE<|wu rfl<|wu rfl<|aB ?_;exact eL (fun e=>ih_syntax_each_s1_l0 _ _ _ _ u e s _ β1 J) (.cons rfl<|.cons rfl<|.cons rfl<|.cons rfl<|.cons rfl .nil)<|fun _ _ _ h=>h
  ·refine dR ?_;cases u;exact⟨rfl,_,frE<|.cons rfl<|.cons rfl .nil,J⟩
theorem aBp: ∀(e1:Expr)(r:Int),iV e1=some r→qY e1 r:=xY.2.2.2.1
theorem aBv{e1:Expr}{r:Int}(h:iV e1=some r):Pf PP 150 [(aR e1)] (.i r):=uV (aBp e1 r h)
noncomputable def kE(e1:Expr):Option (aG×Int):=
 ((cO e1 (1) (aG.mk ((aG.mk (3000) (0)).left) ((aG.mk (3000) (0)).deep)))>>=fun r7=>
 (if(!r7.1)=true then some ((aG.mk ((aG.mk r7.2.left r7.2.deep).left) ((aG.mk r7.2.left r7.2.deep).deep)),(3))
 else((iV e1)>>=fun r13=>
 some ((aG.mk ((aG.mk r7.2.left r7.2.deep).left) ((aG.mk r7.2.left r7.2.deep).deep)),r13))))
theorem yS: ∀(e1:Expr)(r:(aG×Int)),kE e1=some r→ ∀s:ASt,Fc PP (.func 113) [(aR e1)] s (dZ s<|.tuple [(iP r.1),(.i r.2)]):=by
 intro e1 r u;unfold kE at u;intro s;refine bZ rfl rfl rfl ?_;have J:=St.clean s;generalize aT s=σ1 at J⊢;refine aD<|aE<|wu rfl ?_;refine kG rfl J rfl<|fun β2 σ3 J=> ?_;refine wu rfl<|aB<|aD<|aE ?_;refine wgv (v:=(iP<|aG.mk (3000)<|0)) rfl rfl (by kernel_rfl) ?_;refine kG rfl J rfl<|fun β4 σ5 J=> ?_;refine bV (ds':= [(.i (aG.mk (3000)<|0).left),(.i (aG.mk (3000)<|0).deep)]) (cs':= [(.i (aG.mk (3000)<|0).left),(.i (aG.mk (3000)<|0).deep)]) 0 rfl J rfl rfl rfl rfl rfl (Nat.le_of_ble_eq_true rfl) (.cons (tkN rfl)<|.cons (tkN rfl) .nil) (by kernel_rfl)<|fun σ6 J=> ?_;refine aB<|aD<|aD<|aE<|wu rfl ?_;obtain⟨r7,hr7,u⟩:=bs u;refine cA rfl (bs1:= [(β4,.cells [(.i (aG.mk (3000)<|0).left),(.i (aG.mk (3000)<|0).deep)] true)]) (bs2:= [(β2,.cells [(.i<|0),(.i<|0)] true)]) (gs1:= []) (gs2:= []) rfl J (fun hK=>rQ _ _ _ _ hr7 _ β4 hK) rfl rfl (fun _=>rfl) rfl (by exact(.cons rfl<|.cons rfl<|.cons rfl .nil)) rfl<|fun σ8 a9 hF J=> ?_;refine wu rfl<|aB ?_;refine aH u rfl (fun hc u=> ?_)<|fun hc u=> ?_
 ·refine aD<|aE<|aAz (us:= [(.i r7.2.left),(.i r7.2.deep)]) (ws:= [(.i r7.2.left),(.i r7.2.deep)]) 0 rfl J rfl rfl (Nat.le_of_ble_eq_true rfl) rfl (.cons rfl<|.cons rfl .nil) ?_;refine bV (ds':= [(.i (aG.mk r7.2.left r7.2.deep).left),(.i (aG.mk r7.2.left r7.2.deep).deep)]) (cs':= [(.i (aG.mk r7.2.left r7.2.deep).left),(.i (aG.mk r7.2.left r7.2.deep).deep)]) 1 rfl J rfl rfl rfl rfl rfl (Nat.le_of_ble_eq_true rfl) (.cons (tkN rfl)<|.cons (tkN rfl) .nil) (by kernel_rfl)<|fun σ12 J=> ?_;refine wu rfl<|aB<|aL ?_;cases u;exact⟨rfl,_,fun _=>rfl,fN (tX.eq<|.cons (wQ (us:= [(.i (aG.mk r7.2.left r7.2.deep).left),(.i (aG.mk r7.2.left r7.2.deep).deep)]) J 1 rfl rfl (Nat.le_of_ble_eq_true rfl) rfl<|.cons rfl<|.cons rfl .nil)<|.cons rfl .nil) (.cons rfl<|.cons rfl .nil) J.ext⟩
 ·refine aN<|aD<|aE<|aAz (us:= [(.i r7.2.left),(.i r7.2.deep)]) (ws:= [(.i r7.2.left),(.i r7.2.deep)]) 0 rfl J rfl rfl (Nat.le_of_ble_eq_true rfl) rfl (.cons rfl<|.cons rfl .nil)<|wu rfl ?_;obtain⟨r13,h13,u⟩:=bs u;refine wcD (aBv h13) rfl rfl (.cons rfl .nil) ?_;refine bV (ds':= [(.i (aG.mk r7.2.left r7.2.deep).left),(.i (aG.mk r7.2.left r7.2.deep).deep)]) (cs':= [(.i (aG.mk r7.2.left r7.2.deep).left),(.i (aG.mk r7.2.left r7.2.deep).deep)]) 1 rfl J rfl rfl rfl rfl rfl (Nat.le_of_ble_eq_true rfl) (.cons (tkN rfl)<|.cons (tkN rfl) .nil) (by kernel_rfl)<|fun σ14 J=> ?_;refine wu rfl<|aB<|aL ?_;cases u;exact⟨rfl,_,fun _=>rfl,fN (tX.eq<|.cons (wQ (us:= [(.i (aG.mk r7.2.left r7.2.deep).left),(.i (aG.mk r7.2.left r7.2.deep).deep)]) J 1 rfl rfl (Nat.le_of_ble_eq_true rfl) rfl<|.cons rfl<|.cons rfl .nil)<|.cons rfl .nil) (.cons rfl<|.cons rfl .nil) J.ext⟩
theorem yJ{e1:Expr}{r:(aG×Int)}(h:kE e1=some r):Pf PP 113 [(aR e1)] (.tuple [(iP r.1),(.i r.2)]):=Pf.fG (yS e1 r h _) (yR<|.cons (yF _).2<|.cons rfl<|.nil) (.cons (gQ _) .nil)
noncomputable def j9(e1:Expr):Option Int:=
 ((kE e1)>>=fun r2=>
 some r2.2)
theorem aBq: ∀(e1:Expr)(r:Int),j9 e1=some r→ ∀s:ASt,Fc PP (.func 81) [(aR e1)] s (dZ s<|.i r):=by
 intro e1 r u;unfold j9 at u;intro s;refine bZ rfl rfl rfl ?_;have J:=St.clean s;generalize aT s=σ1 at J⊢;refine aD<|aE<|wu rfl<|wu rfl<|aB<|aD<|aE<|wu rfl ?_;obtain⟨r2,hr2,u⟩:=bs u;refine wcD (yJ hr2) rfl rfl (.cons rfl .nil)<|wu rfl<|wu rfl<|wu rfl<|wu rfl<|wu rfl<|wu rfl<|aB<|aD<|aE<|wu rfl<|wu rfl<|aB<|aL ?_;cases u;exact⟨rfl,_,fun _=>rfl,bK rfl rfl rfl rfl J.ext⟩
theorem aBn{e1:Expr}{r:Int}(h:j9 e1=some r):Pf PP 81 [(aR e1)] (.i r):=Pf.fG (aBq e1 r h _) rfl (.cons (gQ _) .nil)
noncomputable def gB(e1:Expr)(k2:Str):Option Int:=
 ((j9 e1)>>=fun r3=>
 (if(r3 !=(0))=true then some r3
 else((kX k2)>>=fun r4=>
 (if(!r4)=true then some (4)
 else some (0)))))
theorem zX: ∀(e1:Expr)(k2:Str)(r:Int),gB e1 k2=some r→ ∀s:ASt,Fc PP (.func 46) [(aR e1),(.str k2)] s (dZ s<|.i r):=by
 intro e1 k2 r u;unfold gB at u;intro s;refine bZ rfl rfl rfl ?_;have J:=St.clean s;generalize aT s=σ1 at J⊢;refine aD<|aE<|wu rfl<|wu rfl<|aB<|aD<|aD<|aE<|wu rfl ?_;obtain⟨r3,hr3,u⟩:=bs u;refine wcD (aBn hr3) rfl rfl (.cons rfl .nil)<|wu rfl<|aB<|aD<|aE<|wu rfl<|wu rfl<|aB ?_;refine aH u rfl (fun hc u=> ?_)<|fun hc u=> ?_
 ·refine aD<|aE<|wu rfl<|wu rfl<|aB<|aL ?_;cases u;exact⟨rfl,_,fun _=>rfl,bK rfl rfl rfl rfl J.ext⟩
 ·refine aN<|aD<|aD<|aE<|wu rfl ?_;obtain⟨r4,hr4,u⟩:=bs u;refine wcD (vK hr4) rfl rfl (.cons rfl .nil)<|wu rfl<|aB ?_;refine aH u rfl (fun hc u=> ?_)<|fun hc u=> ?_
  ·refine aD<|aE<|wu rfl<|aB<|aL ?_;cases u;exact⟨rfl,_,fun _=>rfl,bK rfl rfl rfl rfl J.ext⟩
  ·refine aN<|aD<|aE<|wu rfl<|aB<|aL ?_;cases u;exact⟨rfl,_,fun _=>rfl,bK rfl rfl rfl rfl J.ext⟩
theorem nG{e1:Expr}{k2:Str}{r:Int}(h:gB e1 k2=some r):Pf PP 46 [(aR e1),(.str k2)] (.i r):=Pf.fG (zX e1 k2 r h _) rfl (.cons (gQ _)<|.cons ⟨rfl,rfl⟩ .nil)
noncomputable def oF(p1:(List Int))(e2:Int):Option ((List Int)×Int):=
 some (p1,e2)
theorem wY: ∀(p1:(List Int))(e2:Int)(r:((List Int)×Int)),oF p1 e2=some r→ ∀(s:ASt)(β1:Nat)(β2:Nat)(ρ1:AV),Sl 1 ρ1 (p1.map<|AV.i)→Kn s [(β1,.cells [ρ1] true),(β2,.cells [(.i e2)] true)] []→aMC PP 83 [(.ptr β1 0),(.ptr β2 0)] .ret s (aOM s [β1,β2] [] (fun a:AV=> [(β1,.cells [a] true),(β2,.cells [(.i r.2)] true)]) (fun a:AV=> []) (fun a:AV=>Sl 1 a (r.1.map<|AV.i))):=by
 intro p1 e2 r u;unfold oF at u;intro s β1 β2 ρ1 hρ1 hK;refine aKs hK (fun _=>rfl) (fun _=>aDb) rfl rfl ?_;have J:=hK.start;generalize aT s=σ1 at J⊢;refine aLB<|aMX rfl rfl ?_;refine aRH (fun _ _=>rfl) ?_;refine aQ<|aD<|aE<|wu rfl<|aB<|aC7 rfl<|aE<|wu rfl<|aB ?_;cases u;have J:=J.aM 1 rfl;have J:=J.aM 1 rfl;exact⟨rfl,rfl,rfl,rfl,⟨ρ1,hρ1,J⟩⟩
noncomputable def oU(x3:j3)(p1:(List Int))(e2:Int):Option ((List Int)×Int):=
 some (x3.path,(10))
theorem wU: ∀(x3:j3)(p1:(List Int))(e2:Int)(r:((List Int)×Int)),oU x3 p1 e2=some r→ ∀(s:ASt)(β1:Nat)(β2:Nat)(ρ1:AV),Sl 1 ρ1 (p1.map<|AV.i)→Kn s [(β1,.cells [ρ1] true),(β2,.cells [(.i e2)] true)] []→aMC PP 83 [(.ptr β1 0),(.ptr β2 0)] (.pan<|nX<|.wV x3) s (aOM s [β1,β2] [] (fun a:AV=> [(β1,.cells [a] true),(β2,.cells [(.i r.2)] true)]) (fun a:AV=> []) (fun a:AV=>Sl 1 a (r.1.map<|AV.i))):=by
 intro x3 p1 e2 r u;unfold oU at u;intro s β1 β2 ρ1 hρ1 hK;refine aKs hK (fun _=>rfl) (fun _=>aDb) rfl rfl ?_;have J:=hK.start;generalize aT s=σ1 at J⊢;refine aLB<|aMX rfl rfl ?_;refine aRH (fun _ _=>rfl) ?_;refine aQ<|aD<|aE<|wu rfl<|aB<|aAw rfl<|aD<|aE<|wu rfl<|wu rfl<|wu rfl<|aB<|aC7 rfl<|aD ?_;refine aE<|wu rfl<|wu rfl<|aB<|aE<|wu rfl<|wu rfl<|wu rfl<|wu rfl<|wu rfl ?_;refine bV (ds':= [(slA 1<|x3.path.map<|AV.i)]) (cs':= [(slA 1<|x3.path.map<|AV.i)]) 0 rfl J rfl rfl rfl rfl rfl (Nat.le_of_ble_eq_true rfl) (.cons (tkN rfl) .nil) (by kernel_rfl)<|fun σ4 J=> ?_;refine wu rfl ?_;refine bV (ds':= [(.i<|10)]) (cs':= [(.i<|10)]) 1 rfl J rfl rfl rfl rfl rfl (Nat.le_of_ble_eq_true rfl) (.cons (tkN rfl) .nil) (by kernel_rfl)<|fun σ5 J=> ?_;refine aB ?_;cases u;have J:=J.aM 1 rfl;have J:=J.aM 1 rfl;exact⟨rfl,rfl,rfl,rfl,⟨(slA 1<|x3.path.map<|AV.i),(.no _),J⟩⟩
noncomputable def dP(s1:aC)(i2:Int)(x3:Str):Option Bool:=
 (if(decide (i2≥(s1.expr.l.length:Int)))=true then((idx s1.expr.aO (IntKind.wrap .i64 (i2-(s1.expr.l.length:Int))))>>=fun y4=>
 ((cN y4.names x3)>>=fun r5=>
 some r5))
 else(if(s1.expr.kind==(4))=true then((idx s1.expr.names (0))>>=fun y6=>
 some (y6==x3))
 else(if(s1.expr.kind==(6))=true then((if(i2==(1))=true then((idx s1.expr.names (0))>>=fun y8=>
 some (y8==x3))
 else some false:Option Bool)>>=fun c7=>
 some c7)
 else(if(s1.expr.kind==(17))=true then((if(i2==(2))=true then((idx s1.expr.names (0))>>=fun y10=>
 some (y10==x3))
 else some false:Option Bool)>>=fun c9=>
 some c9)
 else(if(s1.expr.kind==(7))=true then((cut s1.expr.names (0) (IntKind.wrap .i64 ((2)-i2)))>>=fun l11=>
 ((cN l11 x3)>>=fun r12=>
 some r12))
 else some false)))))
theorem u7: ∀(s1:aC)(i2:Int)(x3:Str)(r:Bool),dP s1 i2 x3=some r→ ∀s:ASt,Fc PP (.func 117) [(aA s1),(.i i2),(.str x3)] s (dZ s<|.bool r):=by
 intro s1 i2 x3 r u;unfold dP at u;intro s;refine bZ rfl rfl rfl ?_;have J:=St.clean s;generalize aT s=σ1 at J⊢;refine aD<|aE<|wu rfl<|wu rfl<|aB<|aD<|aD<|aE<|wu rfl<|wu rfl<|wu rfl<|wu rfl<|cG (f:=aP) (l:=s1.expr.l) rfl (.no _)<|wu rfl ?_;refine aB ?_;refine aH u rfl (fun hc u=> ?_)<|fun hc u=> ?_
 ·refine aD<|aE<|wu rfl<|wu rfl<|wu rfl<|wu rfl<|wu rfl<|wu rfl<|wu rfl<|cG (f:=aP) (l:=s1.expr.l) rfl (.no _)<|wu rfl ?_;obtain⟨y4,hy4,u⟩:=bs u;refine j5 (f:=aZ) rfl (.no _) rfl hy4 (nN _)<|wu rfl<|wu rfl<|wu rfl ?_;obtain⟨r5,hr5,u⟩:=bs u;refine wcD (jN hr5) rfl rfl (.cons rfl<|.cons rfl .nil)<|wu rfl<|aB<|aL ?_;cases u;exact⟨rfl,_,fun _=>rfl,bK rfl rfl rfl rfl J.ext⟩
 ·refine aN<|aD<|aD<|aE<|wu rfl<|wu rfl<|wu rfl<|aB<|aQ<|aD<|aE<|wu rfl<|wu rfl<|aB ?_;refine aH u rfl (fun hc u=> ?_)<|fun hc u=> ?_
  ·refine aD<|aE<|wu rfl<|wu rfl<|wu rfl ?_;obtain⟨y6,hy6,u⟩:=bs u;refine j5 (f:=AV.str) rfl (.no _) rfl hy6 rfl<|wu rfl<|wu rfl<|wu rfl<|wu rfl<|aB<|aL ?_;cases u;exact⟨rfl,_,fun _=>rfl,bK rfl rfl rfl rfl J.ext⟩
  ·refine aD<|aE<|wu rfl<|wu rfl<|aB ?_;refine aH u rfl (fun hc u=> ?_)<|fun hc u=> ?_
   ·refine aD<|aE<|wu rfl<|wu rfl<|wu rfl ?_;obtain⟨c7,hc7,u⟩:=bs u;refine bF 8 [(51,(.bool c7))] σ1 ?_<|fun e=> ?_
    ·refine bE (t:=43) rfl (fun hc=> ?_)<|fun hc=> ?_
     ·replace hc7:=bP hc hc7
      iterate 3 refine wu rfl ?_
      obtain⟨y8,hy8,hc7⟩:=bs hc7;refine j5 (f:=AV.str) rfl (.no _) rfl hy8 rfl<|wu rfl<|wu rfl<|wu rfl<|wu rfl<|aB ?_;cases hc7;exact Kept.mk rfl<|.cons rfl .nil
     ·replace hc7:=bO hc hc7;refine wu rfl<|wu rfl<|wu rfl<|wu rfl<|wu rfl<|wu rfl<|wu rfl<|wu rfl<|aB ?_;cases hc7;exact Kept.mk rfl<|.cons rfl .nil
    ·refine wu rfl<|aB<|aL ?_;cases u;exact⟨rfl,_,fun _=>rfl,bK rfl rfl rfl rfl J.ext⟩
   ·refine aD<|aE<|wu rfl<|wu rfl<|aB ?_;refine aH u rfl (fun hc u=> ?_)<|fun hc u=> ?_
    ·refine aD<|aE<|wu rfl<|wu rfl<|wu rfl ?_;obtain⟨c9,hc9,u⟩:=bs u;refine bF 8 [(64,(.bool c9))] σ1 ?_<|fun e=> ?_
     ·refine bE (t:=56) rfl (fun hc=> ?_)<|fun hc=> ?_
      ·replace hc9:=bP hc hc9
       iterate 3 refine wu rfl ?_
       obtain⟨y10,h10,hc9⟩:=bs hc9;refine j5 (f:=AV.str) rfl (.no _) rfl h10 rfl<|wu rfl<|wu rfl<|wu rfl<|wu rfl<|aB ?_;cases hc9;exact Kept.mk rfl<|.cons rfl .nil
      ·replace hc9:=bO hc hc9;refine wu rfl<|wu rfl<|wu rfl<|wu rfl<|wu rfl<|wu rfl<|wu rfl<|wu rfl<|aB ?_;cases hc9;exact Kept.mk rfl<|.cons rfl .nil
     ·refine wu rfl<|aB<|aL ?_;cases u;exact⟨rfl,_,fun _=>rfl,bK rfl rfl rfl rfl J.ext⟩
    ·refine aD<|aE<|wu rfl<|wu rfl<|aB ?_;refine aH u rfl (fun hc u=> ?_)<|fun hc u=> ?_
     ·refine aD<|aE<|wu rfl<|wu rfl<|wu rfl<|wu rfl<|wu rfl ?_;obtain⟨l11,h11,u⟩:=bs u;refine uI (f:=AV.str) (lo':=(0)) (hi':=(IntKind.wrap .i64<|(2)-i2)) rfl (.no _) (.inl ⟨rfl,rfl⟩) (.inr ⟨_,rfl⟩) (by rfl) h11 ?_;refine wu rfl ?_;obtain⟨r12,h12,u⟩:=bs u;refine wcD (jN h12) rfl rfl (.cons rfl<|.cons rfl .nil)<|wu rfl<|aB<|aL ?_;cases u;exact⟨rfl,_,fun _=>rfl,bK rfl rfl rfl rfl J.ext⟩
     ·refine aN<|aD<|aE<|wu rfl<|aB<|aL ?_;cases u;exact⟨rfl,_,fun _=>rfl,bK rfl rfl rfl rfl J.ext⟩
theorem iW{s1:aC}{i2:Int}{x3:Str}{r:Bool}(h:dP s1 i2 x3=some r):Pf PP 117 [(aA s1),(.i i2),(.str x3)] (.bool r):=Pf.fG (u7 s1 i2 x3 r h _) rfl (.cons (eK _)<|.cons ⟨rfl,rfl⟩<|.cons ⟨rfl,rfl⟩ .nil)
noncomputable def g9(s1:aC)(x2:Str):Option Bool:=
 ((if(s1.expr.s==x2)=true then((if(s1.expr.kind==(0))=true then some true
 else some (s1.expr.kind==(18)):Option Bool)>>=fun c4=>
 ((if c4=true then some true
 else some (s1.expr.kind==(19)):Option Bool)>>=fun c5=>
 some c5))
 else some false:Option Bool)>>=fun c3=>
 some c3)
theorem zJ: ∀(s1:aC)(x2:Str)(r:Bool),g9 s1 x2=some r→ ∀s:ASt,Fc PP (.func 114) [(aA s1),(.str x2)] s (dZ s<|.bool r):=by
 intro s1 x2 r u;unfold g9 at u;intro s;refine bZ rfl rfl rfl ?_;have J:=St.clean s;generalize aT s=σ1 at J⊢;refine aD<|aE<|wu rfl<|wu rfl<|aB<|aD<|aE<|wu rfl<|wu rfl<|wu rfl<|wu rfl<|wu rfl<|wu rfl ?_;obtain⟨c3,hc3,u⟩:=bs u;refine bF 17 [(27,(.bool c3))] σ1 ?_<|fun e=> ?_
 ·refine bE (t:=10) rfl (fun hc=> ?_)<|fun hc=> ?_
  ·replace hc3:=bP hc hc3
   iterate 5 refine wu rfl ?_
   obtain⟨c4,hc4,hc3⟩:=bs hc3;refine bF 5 [(2,(.aF (aA s1) 0)),(10,(.bool true)),(20,(.bool c4))] σ1 ?_<|fun e=> ?_
   ·refine bE (t:=15) rfl (fun hc=> ?_)<|fun hc=> ?_
    ·replace hc4:=bP hc hc4;refine wu rfl<|wu rfl<|wu rfl<|wu rfl<|wu rfl<|aB ?_;cases hc4;exact Kept.mk rfl<|.cons rfl<|.cons rfl<|.cons rfl .nil
    ·replace hc4:=bO hc hc4;refine wu rfl<|wu rfl<|wu rfl<|wu rfl<|wu rfl<|aB ?_;cases hc4;exact Kept.mk rfl<|.cons rfl<|.cons rfl<|.cons rfl .nil
   ·refine wu rfl ?_;obtain⟨c5,hc5,hc3⟩:=bs hc3;refine bF 5 [(10,(.bool true)),(26,(.bool c5))] σ1 ?_<|fun e=> ?_
    ·refine bE (t:=21) rfl (fun hc=> ?_)<|fun hc=> ?_
     ·replace hc5:=bP hc hc5;refine wu rfl<|wu rfl<|wu rfl<|wu rfl<|wu rfl<|aB ?_;cases hc5;exact Kept.mk rfl<|.cons rfl<|.cons rfl .nil
     ·replace hc5:=bO hc hc5;refine wu rfl<|wu rfl<|wu rfl<|wu rfl<|wu rfl<|aB ?_;cases hc5;exact Kept.mk rfl<|.cons rfl<|.cons rfl .nil
    ·refine wu rfl<|aB ?_;cases hc3;exact Kept.mk rfl<|.cons rfl .nil
  ·replace hc3:=bO hc hc3
   iterate 17 refine wu rfl ?_
   refine aB ?_;cases hc3;exact Kept.mk rfl<|.cons rfl .nil
 ·refine wu rfl<|aB<|aL ?_;cases u;exact⟨rfl,_,fun _=>rfl,bK rfl rfl rfl rfl J.ext⟩
theorem rU{s1:aC}{x2:Str}{r:Bool}(h:g9 s1 x2=some r):Pf PP 114 [(aA s1),(.str x2)] (.bool r):=Pf.fG (zJ s1 x2 r h _) rfl (.cons (eK _)<|.cons ⟨rfl,rfl⟩ .nil)
noncomputable def aX(s1:aC)(i2:Int):Option aC:=
 (if(decide (i2<(s1.expr.l.length:Int)))=true then((idx s1.expr.l i2)>>=fun y8=>
 ((gY s1.path i2)>>=fun r10=>
 some (aC.mk (Expr.mk ((aC.mk y8 r10).expr.kind) ((aC.mk y8 r10).expr.n) ((aC.mk y8 r10).expr.s) ((aC.mk y8 r10).expr.t) ((aC.mk y8 r10).expr.names) ((aC.mk y8 r10).expr.l) ((aC.mk y8 r10).expr.aO)) ((aC.mk y8 r10).path))))
 else((idx s1.expr.aO (IntKind.wrap .i64 (i2-(s1.expr.l.length:Int))))>>=fun y12=>
 ((gY s1.path i2)>>=fun r14=>
 some (aC.mk (Expr.mk ((aC.mk y12.body r14).expr.kind) ((aC.mk y12.body r14).expr.n) ((aC.mk y12.body r14).expr.s) ((aC.mk y12.body r14).expr.t) ((aC.mk y12.body r14).expr.names) ((aC.mk y12.body r14).expr.l) ((aC.mk y12.body r14).expr.aO)) ((aC.mk y12.body r14).path)))))
theorem w7: ∀(s1:aC)(i2:Int)(r:aC),aX s1 i2=some r→ ∀s:ASt,Fc PP (.func 169) [(aA s1),(.i i2)] s (dZ s<|aA r):=by
 intro s1 i2 r u;unfold aX at u;intro s;refine bZ rfl rfl rfl ?_;have J:=St.clean s;generalize aT s=σ1 at J⊢;refine aD<|aE<|wu rfl ?_;refine kG rfl J rfl<|fun β3 σ4 J=> ?_;refine aB<|aD<|aE ?_;refine wgv (v:=(.agg [(.i<|0),(.i<|0),(.str ([]:Str)),(.str ([]:Str)),(.slice 0 (([]:(List Str)).map AV.str) .full),(.slice 0 (([]:(List Expr)).map aP) .full),(.slice 0 (([]:(List Arm)).map aZ) .full)])) rfl rfl (by kernel_rfl) ?_;refine kG rfl J rfl<|fun β5 σ6 J=> ?_;refine bV (ds':= [(.i<|0),(.i<|0),(.str ([]:Str)),(.str ([]:Str)),(.slice 0 (([]:(List Str)).map AV.str) .full),(.slice 0 (([]:(List Expr)).map aP) .full),(.slice 0 (([]:(List Arm)).map aZ) .full)]) (cs':= [(.i<|0),(.i<|0),(.str ([]:Str)),(.str ([]:Str)),(.slice 0 (([]:(List Str)).map AV.str) .full),(.slice 0 (([]:(List Expr)).map aP) .full),(.slice 0 (([]:(List Arm)).map aZ) .full)]) 0 rfl J rfl rfl rfl rfl rfl (Nat.le_of_ble_eq_true rfl) (.cons (tkN rfl)<|.cons (tkN rfl)<|.cons (tkN rfl)<|.cons (tkN rfl)<|.cons (tkN rfl)<|.cons (tkN rfl)<|.cons (tkN rfl) .nil) (by kernel_rfl)<|fun σ7 J=> ?_;refine aB<|aD<|aD<|aE<|wu rfl<|wu rfl<|wu rfl<|wu rfl<|cG (f:=aP) (l:=s1.expr.l) rfl (.no _)<|wu rfl<|aB ?_;refine aH u rfl (fun hc u=> ?_)<|fun hc u=> ?_
 ·refine aE<|wu rfl<|wu rfl<|wu rfl<|wu rfl ?_;obtain⟨y8,hy8,u⟩:=bs u;refine j5 (f:=aP) rfl (.no _) rfl hy8 (iD _)<|wu rfl ?_;refine bV (ds':= [(.i y8.kind),(.i y8.n),(.str y8.s),(.str y8.t),(slA 1<|y8.names.map AV.str),(slA 7<|y8.l.map aP),(slA 9<|y8.aO.map aZ)]) (cs':= [(.i y8.kind),(.i y8.n),(.str y8.s),(.str y8.t),(slA 1<|y8.names.map AV.str),(slA 7<|y8.l.map aP),(slA 9<|y8.aO.map aZ)]) 0 rfl J rfl rfl rfl rfl rfl (Nat.le_of_ble_eq_true rfl) (.cons (tkN rfl)<|.cons (tkN rfl)<|.cons (tkN rfl)<|.cons (tkN rfl)<|.cons (tkN rfl)<|.cons (tkN rfl)<|.cons (tkN rfl) .nil) (by kernel_rfl)<|fun σ9 J=> ?_;refine aB<|aD<|aE<|aAz (us:= [(.i y8.kind),(.i y8.n),(.str y8.s),(.str y8.t),(slA 1<|y8.names.map AV.str),(slA 7<|y8.l.map aP),(slA 9<|y8.aO.map aZ)]) (ws:= [(.i y8.kind),(.i y8.n),(.str y8.s),(.str y8.t),(slA 1<|y8.names.map AV.str),(slA 7<|y8.l.map aP),(slA 9<|y8.aO.map aZ)]) 0 rfl J rfl rfl (Nat.le_of_ble_eq_true rfl) rfl (.cons rfl<|.cons rfl<|.cons rfl<|.cons rfl<|.cons rfl<|.cons rfl<|.cons rfl .nil)<|wu rfl<|wu rfl<|wu rfl ?_;obtain⟨r10,h10,u⟩:=bs u;refine wcD (tD h10) rfl rfl (.cons rfl<|.cons rfl .nil) ?_;refine wgv (v:=(aA<|aC.mk y8 r10)) rfl rfl (by kernel_rfl) ?_;refine bV (ds':= [(.i (aC.mk y8 r10).expr.kind),(.i (aC.mk y8 r10).expr.n),(.str (aC.mk y8 r10).expr.s),(.str (aC.mk y8 r10).expr.t),(slA 1<|(aC.mk y8 r10).expr.names.map AV.str),(slA 7<|(aC.mk y8 r10).expr.l.map aP),(slA 9<|(aC.mk y8 r10).expr.aO.map aZ),(slA 1<|(aC.mk y8 r10).path.map<|AV.i)]) (cs':= [(.i (aC.mk y8 r10).expr.kind),(.i (aC.mk y8 r10).expr.n),(.str (aC.mk y8 r10).expr.s),(.str (aC.mk y8 r10).expr.t),(slA 1<|(aC.mk y8 r10).expr.names.map AV.str),(slA 7<|(aC.mk y8 r10).expr.l.map aP),(slA 9<|(aC.mk y8 r10).expr.aO.map aZ),(slA 1<|(aC.mk y8 r10).path.map<|AV.i)]) 1 rfl J rfl rfl rfl rfl rfl (Nat.le_of_ble_eq_true rfl) (.cons (tkN rfl)<|.cons (tkN rfl)<|.cons (tkN rfl)<|.cons (tkN rfl)<|.cons (tkN rfl)<|.cons (tkN rfl)<|.cons (tkN rfl)<|.cons (tkN rfl) .nil) (by kernel_rfl)<|fun σ11 J=> ?_;refine aB<|aL ?_;cases u;exact⟨rfl,_,fun _=>rfl,bK (tX.eq<|.cons (wQ (us:= [(.i (aC.mk y8 r10).expr.kind),(.i (aC.mk y8 r10).expr.n),(.str (aC.mk y8 r10).expr.s),(.str (aC.mk y8 r10).expr.t),(slA 1<|(aC.mk y8 r10).expr.names.map AV.str),(slA 7<|(aC.mk y8 r10).expr.l.map aP),(slA 9<|(aC.mk y8 r10).expr.aO.map aZ),(slA 1<|(aC.mk y8 r10).path.map<|AV.i)]) J 1 rfl rfl (Nat.le_of_ble_eq_true rfl) rfl<|.cons rfl<|.cons rfl<|.cons rfl<|.cons rfl<|.cons rfl<|.cons rfl<|.cons rfl<|.cons rfl .nil) .nil) rfl rfl rfl J.ext⟩
 ·refine aE<|wu rfl<|wu rfl<|wu rfl<|wu rfl<|wu rfl<|wu rfl<|wu rfl<|cG (f:=aP) (l:=s1.expr.l) rfl (.no _)<|wu rfl ?_;obtain⟨y12,h12,u⟩:=bs u;refine j5 (f:=aZ) rfl (.no _) rfl h12 (nN _)<|wu rfl<|wu rfl ?_;refine bV (ds':= [(.i y12.body.kind),(.i y12.body.n),(.str y12.body.s),(.str y12.body.t),(slA 1<|y12.body.names.map AV.str),(slA 7<|y12.body.l.map aP),(slA 9<|y12.body.aO.map aZ)]) (cs':= [(.i y12.body.kind),(.i y12.body.n),(.str y12.body.s),(.str y12.body.t),(slA 1<|y12.body.names.map AV.str),(slA 7<|y12.body.l.map aP),(slA 9<|y12.body.aO.map aZ)]) 0 rfl J rfl rfl rfl rfl rfl (Nat.le_of_ble_eq_true rfl) (.cons (tkN rfl)<|.cons (tkN rfl)<|.cons (tkN rfl)<|.cons (tkN rfl)<|.cons (tkN rfl)<|.cons (tkN rfl)<|.cons (tkN rfl) .nil) (by kernel_rfl)<|fun σ13 J=> ?_;refine aB<|aD<|aE<|aAz (us:= [(.i y12.body.kind),(.i y12.body.n),(.str y12.body.s),(.str y12.body.t),(slA 1<|y12.body.names.map AV.str),(slA 7<|y12.body.l.map aP),(slA 9<|y12.body.aO.map aZ)]) (ws:= [(.i y12.body.kind),(.i y12.body.n),(.str y12.body.s),(.str y12.body.t),(slA 1<|y12.body.names.map AV.str),(slA 7<|y12.body.l.map aP),(slA 9<|y12.body.aO.map aZ)]) 0 rfl J rfl rfl (Nat.le_of_ble_eq_true rfl) rfl (.cons rfl<|.cons rfl<|.cons rfl<|.cons rfl<|.cons rfl<|.cons rfl<|.cons rfl .nil)<|wu rfl<|wu rfl<|wu rfl ?_;obtain⟨r14,h14,u⟩:=bs u;refine wcD (tD h14) rfl rfl (.cons rfl<|.cons rfl .nil) ?_;refine wgv (v:=(aA<|aC.mk y12.body r14)) rfl rfl (by kernel_rfl) ?_;refine bV (ds':= [(.i (aC.mk y12.body r14).expr.kind),(.i (aC.mk y12.body r14).expr.n),(.str (aC.mk y12.body r14).expr.s),(.str (aC.mk y12.body r14).expr.t),(slA 1<|(aC.mk y12.body r14).expr.names.map AV.str),(slA 7<|(aC.mk y12.body r14).expr.l.map aP),(slA 9<|(aC.mk y12.body r14).expr.aO.map aZ),(slA 1<|(aC.mk y12.body r14).path.map<|AV.i)]) (cs':= [(.i (aC.mk y12.body r14).expr.kind),(.i (aC.mk y12.body r14).expr.n),(.str (aC.mk y12.body r14).expr.s),(.str (aC.mk y12.body r14).expr.t),(slA 1<|(aC.mk y12.body r14).expr.names.map AV.str),(slA 7<|(aC.mk y12.body r14).expr.l.map aP),(slA 9<|(aC.mk y12.body r14).expr.aO.map aZ),(slA 1<|(aC.mk y12.body r14).path.map<|AV.i)]) 1 rfl J rfl rfl rfl rfl rfl (Nat.le_of_ble_eq_true rfl) (.cons (tkN rfl)<|.cons (tkN rfl)<|.cons (tkN rfl)<|.cons (tkN rfl)<|.cons (tkN rfl)<|.cons (tkN rfl)<|.cons (tkN rfl)<|.cons (tkN rfl) .nil) (by kernel_rfl)<|fun σ15 J=> ?_;refine aB<|aL ?_;cases u;exact⟨rfl,_,fun _=>rfl,bK (tX.eq<|.cons (wQ (us:= [(.i (aC.mk y12.body r14).expr.kind),(.i (aC.mk y12.body r14).expr.n),(.str (aC.mk y12.body r14).expr.s),(.str (aC.mk y12.body r14).expr.t),(slA 1<|(aC.mk y12.body r14).expr.names.map AV.str),(slA 7<|(aC.mk y12.body r14).expr.l.map aP),(slA 9<|(aC.mk y12.body r14).expr.aO.map aZ),(slA 1<|(aC.mk y12.body r14).path.map<|AV.i)]) J 1 rfl rfl (Nat.le_of_ble_eq_true rfl) rfl<|.cons rfl<|.cons rfl<|.cons rfl<|.cons rfl<|.cons rfl<|.cons rfl<|.cons rfl<|.cons rfl .nil) .nil) rfl rfl rfl J.ext⟩
theorem bR{s1:aC}{i2:Int}{r:aC}(h:aX s1 i2=some r):Pf PP 169 [(aA s1),(.i i2)] (aA r):=Pf.fG (w7 s1 i2 r h _) ((eK _).2) (.cons (eK _)<|.cons ⟨rfl,rfl⟩ .nil)
noncomputable def bA(s1:aC):Option aC:=
 some s1
theorem vJ: ∀(s1:aC)(r:aC),bA s1=some r→ ∀s:ASt,Fc PP (.func 116) [(aA s1)] s (dZ s<|.func 168 [] [(.aF (aA r) 0)]):=by
 intro s1 r u;unfold bA at u;intro s;refine bZ rfl rfl rfl ?_;have J:=St.clean s;generalize aT s=σ1 at J⊢;refine aD<|aE<|wu rfl<|wu rfl<|aB<|aD<|aE<|wu rfl<|wu rfl<|aB<|aL ?_;cases u;exact⟨rfl,_,fun _=>rfl,bK rfl rfl rfl rfl J.ext⟩
theorem gD{s1:aC}{r:aC}(h:bA s1=some r):Pf PP 116 [(aA s1)] (.func 168 [] [(.aF (aA r) 0)]):=Pf.fG (vJ s1 r h _) ((aIX .nil<|.cons (zZ<|eK _) .nil).2) (.cons (eK _) .nil)
mutual
noncomputable def dG (s1:aC) (x2:Str):Option ((List Int)×Bool):=
 ((g9 s1 x2)>>=fun r7=>
 (if r7=true then some (s1.path,true)
 else((bA s1)>>=fun r10=>
 ((hU (nf s1) (nf x2) (nf r10) (nf false) ([]:(List Int)))>>=fun r32=>
 (if(r32.1==(none:Option Nat))=true then some (([]:(List Int)),false)
 else(if(r32.1==(some 0))=true then some (r32.2.2,r32.2.1)
 else none))))))
 partial_fixpoint
noncomputable def hU (s1:aC) (x2:Str) (r10:aC) (x16:Bool) (x17:(List Int)):Option ((Option Nat)×Bool×(List Int)):=
 ((cU s1 x2 r10 (0) none x16 x17)>>=fun o1041=>
 (match o1041 with
 | .ret q1042=>some q1042
 | .nx q1043=>some (q1043.1,q1043.2.1,q1043.2.2)))
 partial_fixpoint
noncomputable def cU (s1:aC) (x2:Str) (r10:aC) (x1032:Int) (c1033:(Option Nat)) (x1034:Bool) (x1035:(List Int)):Option (Ctl ((Option Nat)×Bool×(List Int))<|(Option Nat)×Bool×(List Int)):=
 (if(decide (x1032<(IntKind.wrap .i64 ((r10.expr.l.length:Int)+(r10.expr.aO.length:Int)))))=true then((aX r10 x1032)>>=fun r1036=>
 (if(c1033==(none:Option Nat))=true then((hJ (nf s1) (nf x2) (nf r10) (nf x1032) (nf r1036) (nf x1034) (nf x1035))>>=fun r1037=>
 (if(!r1037.1.isNone)=true then some (.ret (r1037.1,r1037.2.1,r1037.2.2))
 else cU (nf s1) (nf x2) (nf r10) (IntKind.wrap .i64 (x1032+(1))) r1037.1 r1037.2.1 r1037.2.2))
 else none))
 else some (.nx (c1033,x1034,x1035)))
 partial_fixpoint
noncomputable def hJ (s1:aC) (x2:Str) (r10:aC) (x18:Int) (x19:aC) (x16:Bool) (x17:(List Int)):Option ((Option Nat)×Bool×(List Int)):=
 ((dP s1 x18 x2)>>=fun r22=>
 (if r22=true then some ((none:Option Nat),x16,x17)
 else((dG (nf x19) (nf x2))>>=fun r25=>
 (if r25.2=true then some ((some 0),true,r25.1)
 else some ((none:Option Nat),x16,x17)))))
 partial_fixpoint
end
abbrev kV(s1:aC)(x2:Str)(r:((List Int)×Bool)):Prop:= ∀s:ASt,Fc PP (.func 170) [(aA s1),(.str x2)] s (dZ s<|.tuple [(slA 1<|r.1.map<|AV.i),(.bool r.2)])
abbrev m4(s1:aC)(x2:Str)(r10:aC)(x16:Bool)(x17:(List Int))(r:((Option Nat)×Bool×(List Int))):Prop:= ∀(s:ASt)(ε11:Env)(κ13:Nat)(ℓ12:Nat)(β5:Nat)(β3:Nat)(or0_1:AV),Sl 1 or0_1 (x17.map<|AV.i)→Kn s [(ℓ12,.loop ⟨eA none,bD none,bB ε11 [(2,(.aF (aA s1) 0)),(3,(.aF (.str x2) 0)),(4,(.ptr β3 0)),(5,(.ptr β5 0)),(16,(.func 168 [] [(.aF (aA r10) 0)]))],κ13,[17,18],Code.iI,Code.iU⟩),(β5,.cells [(.bool x16)] true),(β3,.cells [or0_1] true)] []→Fc PP (.func 168) [(.yield ℓ12),(.aF (aA r10) 0)] s (lV s [ℓ12,β5,β3] [] (.tuple []) (fun a:AV=> [(ℓ12,.loop ⟨eA r.1,bD r.1,bB ε11 [(2,(.aF (aA s1) 0)),(3,(.aF (.str x2) 0)),(4,(.ptr β3 0)),(5,(.ptr β5 0)),(16,(.func 168 [] [(.aF (aA r10) 0)]))],κ13,[17,18],Code.iI,Code.iU⟩),(β5,.cells [(.bool r.2.1)] true),(β3,.cells [a] true)]) (fun a:AV=> []) (fun a:AV=>Sl 1 a (r.2.2.map<|AV.i)))
abbrev lB(s1:aC)(x2:Str)(r10:aC)(x1032:Int)(c1033:(Option Nat))(x1034:Bool)(x1035:(List Int))(o:(Ctl ((Option Nat)×Bool×(List Int))<|(Option Nat)×Bool×(List Int))):Prop:= ∀(e:Env)(s sv:ASt)(ε11:Env)(κ13:Nat)(or0_1:AV)(ℓ12:Nat)(β5:Nat)(β3:Nat)(ow0_1:AV),Sl 1 ow0_1 (x1035.map<|AV.i)→St [ℓ12,β5,β3] [] s sv [(ℓ12,.loop ⟨eA c1033,bD c1033,bB ε11 [(2,(.aF (aA s1) 0)),(3,(.aF (.str x2) 0)),(4,(.ptr β3 0)),(5,(.ptr β5 0)),(16,(.func 168 [] [(.aF (aA r10) 0)]))],κ13,[17,18],Code.iI,Code.iU⟩),(β5,.cells [(.bool x1034)] true),(β3,.cells [ow0_1] true)] []→Wk PP none Code.aAo ⟨bB e [(0,(.yield ℓ12)),(1,(.aF (aA r10) 0)),(12,(.i<|IntKind.wrap .i64<|(r10.expr.l.length:Int)+(r10.expr.aO.length:Int))),(13,(.i x1032))],[]⟩ sv (fun ex fr s'=>(match o with| .ret oq0=>ex= .ret∧rP PP Code.aFN (VQ (.tuple [])<|RX s [ℓ12,β5,β3] [] (fun a:AV=> [(ℓ12,.loop ⟨eA oq0.1,bD oq0.1,bB ε11 [(2,(.aF (aA s1) 0)),(3,(.aF (.str x2) 0)),(4,(.ptr β3 0)),(5,(.ptr β5 0)),(16,(.func 168 [] [(.aF (aA r10) 0)]))],κ13,[17,18],Code.iI,Code.iU⟩),(β5,.cells [(.bool oq0.2.1)] true),(β3,.cells [a] true)]) (fun a:AV=> []) (fun a:AV=>Sl 1 a (oq0.2.2.map<|AV.i))) ex fr s'| .nx oq1=>ex= .exit 0∧ ∃(pw1:AV)(e:Env),fr=⟨bB e [],[]⟩∧Sl 1 pw1 (oq1.2.2.map<|AV.i)∧St [ℓ12,β5,β3] [] s s' [(ℓ12,.loop ⟨eA oq1.1,bD oq1.1,bB ε11 [(2,(.aF (aA s1) 0)),(3,(.aF (.str x2) 0)),(4,(.ptr β3 0)),(5,(.ptr β5 0)),(16,(.func 168 [] [(.aF (aA r10) 0)]))],κ13,[17,18],Code.iI,Code.iU⟩),(β5,.cells [(.bool oq1.2.1)] true),(β3,.cells [pw1] true)] []))
abbrev mV(s1:aC)(x2:Str)(r10:aC)(x18:Int)(x19:aC)(x16:Bool)(x17:(List Int))(r:((Option Nat)×Bool×(List Int))):Prop:= ∀(s:ASt)(ε11:Env)(κ13:Nat)(ℓ12:Nat)(β5:Nat)(β3:Nat)(or0_1:AV),Sl 1 or0_1 (x17.map<|AV.i)→Kn s [(ℓ12,.loop ⟨eA none,bD none,bB ε11 [(2,(.aF (aA s1) 0)),(3,(.aF (.str x2) 0)),(4,(.ptr β3 0)),(5,(.ptr β5 0)),(16,(.func 168 [] [(.aF (aA r10) 0)]))],κ13,[17,18],Code.iI,Code.iU⟩),(β5,.cells [(.bool x16)] true),(β3,.cells [or0_1] true)] []→Fc PP (.yield ℓ12) [(.i x18),(aA x19)] s (lV s [ℓ12,β5,β3] [] (.bool r.1.isNone) (fun a:AV=> [(ℓ12,.loop ⟨eA r.1,bD r.1,bB ε11 [(2,(.aF (aA s1) 0)),(3,(.aF (.str x2) 0)),(4,(.ptr β3 0)),(5,(.ptr β5 0)),(16,(.func 168 [] [(.aF (aA r10) 0)]))],κ13,[17,18],Code.iI,Code.iU⟩),(β5,.cells [(.bool r.2.1)] true),(β3,.cells [a] true)]) (fun a:AV=> []) (fun a:AV=>Sl 1 a (r.2.2.map<|AV.i)))
theorem oB{s1:aC}{x2:Str}{r:((List Int)×Bool)}(h: ∀s:ASt,Fc PP (.func 170) [(aA s1),(.str x2)] s<|dZ s<|.tuple [(slA 1<|r.1.map<|AV.i),(.bool r.2)]):Pf PP 170 [(aA s1),(.str x2)] (.tuple [(slA 1<|r.1.map<|AV.i),(.bool r.2)]):=Pf.fG (h _) (yR<|.cons (pS (fun _=>rfl) _)<|.cons rfl<|.nil) (.cons (eK _)<|.cons ⟨rfl,rfl⟩ .nil)
theorem uH:(∀(s1:aC)(x2:Str)(r:((List Int)×Bool)),dG s1 x2=some r→kV s1 x2 r)∧
  (∀(s1:aC)(x2:Str)(r10:aC)(x16:Bool)(x17:(List Int))(r:((Option Nat)×Bool×(List Int))),hU s1 x2 r10 x16 x17=some r→m4 s1 x2 r10 x16 x17 r)∧
  (∀(s1:aC)(x2:Str)(r10:aC)(x1032:Int)(c1033:(Option Nat))(x1034:Bool)(x1035:(List Int))(o:(Ctl ((Option Nat)×Bool×(List Int))<|(Option Nat)×Bool×(List Int))),cU s1 x2 r10 x1032 c1033 x1034 x1035=some o→lB s1 x2 r10 x1032 c1033 x1034 x1035 o)∧
  (∀(s1:aC)(x2:Str)(r10:aC)(x18:Int)(x19:aC)(x16:Bool)(x17:(List Int))(r:((Option Nat)×Bool×(List Int))),hJ s1 x2 r10 x18 x19 x16 x17=some r→mV s1 x2 r10 x18 x19 x16 x17 r):=by
 refine dG.mutual_partial_correctness kV m4 lB mV ?_ ?_ ?_ ?_
 ·intro _f0 ih_linear_spot_occurs_i0 s1 x2 r u;intro s;refine bZ rfl rfl rfl ?_;have J:=St.clean s;generalize aT s=σ1 at J⊢;refine aD<|aE<|wu rfl<|wu rfl ?_;refine kG rfl J rfl<|fun β3 σ4 J=> ?_;refine kG rfl J rfl<|fun β5 σ6 J=> ?_;refine aB<|aD<|aD<|aE<|wu rfl<|wu rfl ?_;obtain⟨r7,hr7,u⟩:=bs u;refine wcD (rU hr7) rfl rfl (.cons rfl<|.cons rfl .nil)<|aB ?_;refine aH u rfl (fun hc u=> ?_)<|fun hc u=> ?_
  ·refine aD<|aE<|wu rfl<|wu rfl ?_;refine bV (ds':= [(slA 1<|s1.path.map<|AV.i)]) (cs':= [(slA 1<|s1.path.map<|AV.i)]) 1 rfl J rfl rfl rfl rfl rfl (Nat.le_of_ble_eq_true rfl) (.cons (tkN rfl) .nil) (by kernel_rfl)<|fun σ8 J=> ?_;refine bV (ds':= [(.bool true)]) (cs':= [(.bool true)]) 0 rfl J rfl rfl rfl rfl rfl (Nat.le_of_ble_eq_true rfl) (.cons (tkN rfl) .nil) (by kernel_rfl)<|fun σ9 J=> ?_;refine aB<|aL ?_;cases u;exact⟨rfl,_,fun _=>rfl,fN (tX.eq<|.cons (lT J 1 rfl rfl rfl)<|.cons (lT J 0 rfl rfl rfl) .nil) (.cons rfl<|.cons rfl .nil) J.ext⟩
  ·refine aN<|aD<|aD<|aE<|wu rfl ?_;obtain⟨r10,h10,u⟩:=bs u;refine wcD (gD h10) rfl rfl (.cons rfl .nil)<|aB<|aQ ?_;refine aCF (S:= [(2,(.aF (aA s1) 0)),(3,(.aF (.str x2) 0)),(4,(.ptr β3 0)),(5,(.ptr β5 0)),(16,(.func 168 [] [(.aF (aA r10) 0)]))]) (.cons rfl<|.cons rfl<|.cons rfl<|.cons rfl<|.cons rfl .nil)<|fun ε11=> ?_;obtain⟨κ13,ℓ12,σ14,hl15,J⟩:=vN (params:= [17,18]) (assign:=Code.iI) (body:=Code.iU) (fr:=⟨bB ε11 [(2,(.aF (aA s1) 0)),(3,(.aF (.str x2) 0)),(4,(.ptr β3 0)),(5,(.ptr β5 0)),(16,(.func 168 [] [(.aF (aA r10) 0)]))],[]⟩) J;refine wC hl15 rfl rfl ?_;obtain⟨r32,h32,u⟩:=bs u;have J:=J.aM 3 rfl;have J:=J.aM 3 rfl;have J:=J.aM 2 rfl;rcases Bool.eq_false_or_eq_true (r32.1==(none:Option Nat)) with hc|hc
   ·replace u:=bP hc u;refine oO (bs1:= [(ℓ12,.loop ⟨eA none,bD none,bB ε11 [(2,(.aF (aA s1) 0)),(3,(.aF (.str x2) 0)),(4,(.ptr β3 0)),(5,(.ptr β5 0)),(16,(.func 168 [] [(.aF (aA r10) 0)]))],κ13,[17,18],Code.iI,Code.iU⟩),(β5,.cells [(.bool false)] true),(β3,.cells [(.slice 0 (([]:(List Int)).map<|AV.i) .full)] true)]) (bs2:= [(κ13,.qZ)]) (gs1:= []) (gs2:= []) (pd:=r32.1) (ex:= .normal) J (fun hK=>ih_linear_spot_occurs_i0 _ _ _ _ _ _ h32 _ ε11 κ13 ℓ12 β5 β3 (.slice 0 (([]:(List Int)).map<|AV.i) .full) (.full<|.inr rfl) hK) rfl rfl (fun _=>rfl) (by rw [eq_of_beq hc];rfl)<|fun σ33 a34 hF J=> ?_;have h35:=hF;refine aD<|aE ?_;refine bV (ds':= [(.slice 0 (([]:(List Int)).map<|AV.i) .full)]) (cs':= [(.slice 0 (([]:(List Int)).map<|AV.i) .full)]) 1 rfl J rfl rfl rfl rfl rfl (Nat.le_of_ble_eq_true rfl) (.cons (tkN rfl) .nil) (by kernel_rfl)<|fun σ36 J=> ?_;refine bV (ds':= [(.bool false)]) (cs':= [(.bool false)]) 0 rfl J rfl rfl rfl rfl rfl (Nat.le_of_ble_eq_true rfl) (.cons (tkN rfl) .nil) (by kernel_rfl)<|fun σ37 J=> ?_;refine aB<|aL ?_;cases u;obtain⟨σ38,J,h39⟩:=J.mark 2 rfl;exact⟨rfl,σ38,(h39<|fun _=>rfl),fN (tX.eq<|.cons (lT J 1 rfl rfl rfl)<|.cons (lT J 0 rfl rfl rfl) .nil) (.cons rfl<|.cons rfl .nil) J.ext⟩
   ·replace u:=bO hc u;rcases Bool.eq_false_or_eq_true (r32.1==(some 0)) with hc|hc
    ·replace u:=bP hc u;refine oO (bs1:= [(ℓ12,.loop ⟨eA none,bD none,bB ε11 [(2,(.aF (aA s1) 0)),(3,(.aF (.str x2) 0)),(4,(.ptr β3 0)),(5,(.ptr β5 0)),(16,(.func 168 [] [(.aF (aA r10) 0)]))],κ13,[17,18],Code.iI,Code.iU⟩),(β5,.cells [(.bool false)] true),(β3,.cells [(.slice 0 (([]:(List Int)).map<|AV.i) .full)] true)]) (bs2:= [(κ13,.qZ)]) (gs1:= []) (gs2:= []) (pd:=r32.1) (ex:= .ret) J (fun hK=>ih_linear_spot_occurs_i0 _ _ _ _ _ _ h32 _ ε11 κ13 ℓ12 β5 β3 (.slice 0 (([]:(List Int)).map<|AV.i) .full) (.full<|.inr rfl) hK) rfl rfl (fun _=>rfl) (by rw [eq_of_beq hc];rfl)<|fun σ40 a41 hF J=> ?_;have h42:=hF;cases u;obtain⟨σ43,J,h44⟩:=J.mark 2 rfl;exact⟨rfl,σ43,(h44<|fun _=>rfl),fN (tX.eq<|.cons (lT J 1 rfl rfl rfl)<|.cons (lT J 0 rfl rfl rfl) .nil) (.cons (h42).fix<|.cons rfl .nil) J.ext⟩
    ·replace u:=bO hc u;cases u
 ·intro _f0 ih_linear_spot_occurs_i0_l0 s1 x2 r10 x16 x17 r u;intro s ε11 κ13 ℓ12 β5 β3 or0_1 hor0_1 hK;refine pO hK (fun _=>rfl) (fun _=>aDb) rfl rfl rfl ?_;have J:=hK.start;generalize aT s=σ1 at J⊢;refine aD<|aE<|wu rfl<|wu rfl<|wu rfl<|cG (f:=aP) (l:=r10.expr.l) rfl (.no _)<|wu rfl<|wu rfl<|wu rfl<|cG (f:=aZ) (l:=r10.expr.aO) rfl (.no _)<|wu rfl<|wu rfl<|aB<|aQ ?_;obtain⟨o1041,h1041,u⟩:=bs u;have J:=J.aM 2 rfl;have J:=J.aM 2 rfl;have J:=J.aM 2 rfl;refine eL (fun e=>ih_linear_spot_occurs_i0_l0 _ _ _ _ _ _ _ _ h1041 e s _ ε11 κ13 or0_1 ℓ12 β5 β3 or0_1 hor0_1 J) (.cons rfl<|.cons rfl<|.cons rfl<|.cons rfl .nil) ?_
  rintro _ _ _ hq
  rcases o1041 with q1042|q1043
  ·obtain⟨rfl,hq⟩:=hq;cases u;exact hq
  ·obtain⟨rfl,w1044_1,e1045,rfl,hw1044_1,J⟩:=hq;cases u;have J:=J.aM 2 rfl;have J:=J.aM 2 rfl;have J:=J.aM 2 rfl;exact⟨rfl,_,fun _=>rfl,gJ rfl ⟨w1044_1,hw1044_1,J⟩⟩
 ·intro _f0 _f1 ih_linear_spot_occurs_i0_l0 ih_linear_spot_occurs_r0 s1 x2 r10 x1032 c1033 x1034 x1035 o u;intro e s sv ε11 κ13 or0_1 ℓ12 β5 β3 ow0_1 how0_1 J;refine dC<|aD<|aE<|wu rfl<|aB<|aD ?_;refine aH u rfl (fun hc u=> ?_)<|fun hc u=> ?_
  ·refine aN<|aD<|aQ<|aD<|aE<|wu rfl<|wu rfl<|aB<|aD<|aE<|wu rfl<|wu rfl<|wu rfl<|wu rfl ?_;obtain⟨r1036,h1036,u⟩:=bs u;refine wcD (bR h1036) rfl rfl (.cons rfl<|.cons rfl .nil) ?_;rcases Bool.eq_false_or_eq_true (c1033==(none:Option Nat)) with hc|hc
   ·replace u:=bP hc u;have J:=J.yZ (b1:= .loop ⟨eA none,bD none,bB ε11 [(2,(.aF (aA s1) 0)),(3,(.aF (.str x2) 0)),(4,(.ptr β3 0)),(5,(.ptr β5 0)),(16,(.func 168 [] [(.aF (aA r10) 0)]))],κ13,[17,18],Code.iI,Code.iU⟩) 0 rfl (by rw [eq_of_beq hc]);obtain⟨r1037,h1037,u⟩:=bs u;have J:=J.aM 2 rfl;have J:=J.aM 2 rfl;have J:=J.aM 2 rfl;refine cA rfl (bs1:= [(ℓ12,.loop ⟨eA none,bD none,bB ε11 [(2,(.aF (aA s1) 0)),(3,(.aF (.str x2) 0)),(4,(.ptr β3 0)),(5,(.ptr β5 0)),(16,(.func 168 [] [(.aF (aA r10) 0)]))],κ13,[17,18],Code.iI,Code.iU⟩),(β5,.cells [(.bool x1034)] true),(β3,.cells [ow0_1] true)]) (bs2:= []) (gs1:= []) (gs2:= []) rfl J (fun hK=>ih_linear_spot_occurs_r0 _ _ _ _ _ _ _ _ h1037 _ ε11 κ13 ℓ12 β5 β3 ow0_1 how0_1 hK) rfl rfl (fun _=>rfl) rfl (by exact(.cons rfl<|.cons rfl .nil)) rfl<|fun σ1038 a1039 hF J=> ?_;have h1040:=hF;refine wu rfl<|aB ?_;refine aH u rfl (fun hc u=> ?_)<|fun hc u=> ?_
    ·refine aL ?_;cases u;have J:=J.aM 2 rfl;have J:=J.aM 2 rfl;have J:=J.aM 2 rfl;exact⟨rfl,⟨rfl,_,fun _=>rfl,gJ rfl ⟨a1039,h1040,J⟩⟩⟩
    ·refine aN<|aE<|wu rfl<|wu rfl<|aB ?_;have J:=J.aM 2 rfl;have J:=J.aM 2 rfl;have J:=J.aM 2 rfl;exact eL (fun e=>ih_linear_spot_occurs_i0_l0 _ _ _ _ _ _ _ _ u e s _ ε11 κ13 or0_1 ℓ12 β5 β3 a1039 h1040 J) (.cons rfl<|.cons rfl<|.cons rfl<|.cons rfl .nil)<|fun _ _ _ h=>h
   ·replace u:=bO hc u;cases u
  ·refine dR ?_;cases u;have J:=J.aM 2 rfl;have J:=J.aM 2 rfl;have J:=J.aM 2 rfl;exact⟨rfl,ow0_1,_,frE .nil,how0_1,J⟩
 ·intro _f0 ih_linear_spot_occurs s1 x2 r10 x18 x19 x16 x17 r u;intro s ε11 κ13 ℓ12 β5 β3 or0_1 hor0_1 hK;refine aLb.reg rfl ?_;refine wB (lp:=⟨.ready,none,bB ε11 [(2,(.aF (aA s1) 0)),(3,(.aF (.str x2) 0)),(4,(.ptr β3 0)),(5,(.ptr β5 0)),(16,(.func 168 [] [(.aF (aA r10) 0)]))],κ13,[17,18],Code.iI,Code.iU⟩) (hK.b _<|.head _) rfl rfl ?_;have J:=hK.st;refine aD<|aE<|wu rfl<|aB<|aE<|wu rfl<|wu rfl<|aB ?_;obtain⟨σ20,hr21,J⟩:=J.iS 0 rfl rfl;refine⟨rfl,rfl,σ20,hr21,?_⟩;refine aQ<|aD<|aD<|aE<|wu rfl<|wu rfl<|wu rfl ?_;obtain⟨r22,h22,u⟩:=bs u;refine wcD (iW h22) rfl rfl (.cons rfl<|.cons rfl<|.cons rfl .nil)<|aB ?_;refine aH u rfl (fun hc u=> ?_)<|fun hc u=> ?_
  ·refine dR ?_;cases u;obtain⟨σ23,hs24,J⟩:=J.dW 0 rfl (fun lp=>{lp with st:= .ready,pend:=none});have J:=J.aM 2 rfl;have J:=J.aM 2 rfl;have J:=J.aM 2 rfl;exact⟨rfl,σ23,hs24,rfl,or0_1,hor0_1,J⟩
  ·refine aN<|aD<|aE<|wu rfl<|wu rfl ?_;obtain⟨r25,h25,u⟩:=bs u;refine wcD (oB<|ih_linear_spot_occurs _ _ _ h25) rfl rfl (.cons rfl<|.cons rfl .nil)<|wu rfl<|wu rfl<|wu rfl<|wu rfl<|wu rfl<|aB<|aD<|aE<|wu rfl<|aB ?_;refine aH u rfl (fun hc u=> ?_)<|fun hc u=> ?_
   ·refine aD<|aE<|wu rfl ?_;refine bV (ds':= [(slA 1<|r25.1.map<|AV.i)]) (cs':= [(slA 1<|r25.1.map<|AV.i)]) 2 rfl J rfl rfl rfl rfl rfl (Nat.le_of_ble_eq_true rfl) (.cons (tkN rfl) .nil) (by kernel_rfl)<|fun σ26 J=> ?_;refine bV (ds':= [(.bool true)]) (cs':= [(.bool true)]) 1 rfl J rfl rfl rfl rfl rfl (Nat.le_of_ble_eq_true rfl) (.cons (tkN rfl) .nil) (by kernel_rfl)<|fun σ27 J=> ?_;refine aB<|aL ?_;cases u;obtain⟨σ28,hs29,J⟩:=J.dW 0 rfl (fun lp=>{lp with st:= .done,pend:=some .ret});have J:=J.aM 2 rfl;have J:=J.aM 2 rfl;have J:=J.aM 2 rfl;exact⟨rfl,σ28,hs29,rfl,(slA 1<|r25.1.map<|AV.i),(.no _),J⟩
   ·refine aN ?_;cases u;obtain⟨σ30,hs31,J⟩:=J.dW 0 rfl (fun lp=>{lp with st:= .ready,pend:=none});have J:=J.aM 2 rfl;have J:=J.aM 2 rfl;have J:=J.aM 2 rfl;exact⟨rfl,σ30,hs31,rfl,or0_1,hor0_1,J⟩
theorem u3: ∀(s1:aC)(x2:Str)(r:((List Int)×Bool)),dG s1 x2=some r→kV s1 x2 r:=uH.1
theorem oA{s1:aC}{x2:Str}{r:((List Int)×Bool)}(h:dG s1 x2=some r):Pf PP 170 [(aA s1),(.str x2)] (.tuple [(slA 1<|r.1.map<|AV.i),(.bool r.2)]):=oB (u3 s1 x2 r h)
noncomputable def gC(p1:(List Int))(is2:Bool):Option (Ctl Unit Pan):=
 (if is2=true then some (.nx (.wV (j3.mk p1)))
 else some (.ret ()))
theorem cP: ∀(p1:(List Int))(is2:Bool)(r:(Ctl Unit Pan)),gC p1 is2=some r→ ∀(s:ASt),Kn s [] []→Fc PP (.func 137) [(slA 1<|p1.map<|AV.i),(.bool is2)] s (wZ r (fun q=>lV s [] [] (.tuple []) (fun a:Unit=> []) (fun a:Unit=> []) (fun a:Unit=>True))<|fun p=>u4 s [] [] (nX p)):=by
 intro p1 is2 r u;unfold gC at u;intro s hK;refine sR r (v:=fun q:Unit=>(.tuple [])) (bs:=fun(q:Unit)=>(fun a:Unit=> [])) (gs:=fun(q:Unit)=>(fun a:Unit=> [])) (fs:=fun(q:Unit)=>(fun a:Unit=>True)) hK (fun _ _=>rfl) (fun _ _=>aDb) rfl rfl rfl ?_;have J:=hK.start;generalize aT s=σ1 at J⊢;refine aD<|aE<|wu rfl<|aB ?_;refine aH u rfl (fun hc u=> ?_)<|fun hc u=> ?_
 ·refine aE<|wu rfl ?_;refine wgv (v:=(qS<|j3.mk p1)) rfl rfl (by kernel_rfl) ?_;refine wu rfl<|aFF rfl rfl ?_;cases u;exact⟨rfl,_,fun _=>rfl,J.ext⟩
 ·refine aN ?_;cases u;exact⟨rfl,_,fun _=>rfl,gJ rfl ⟨(),trivial,J⟩⟩
noncomputable def fB(s1:aC)(c2:Str)(r7:((List<|List Int)×Int×Int))(r14:aC)(x21:Int)(x22:aC)(c20:(List<|List Int)):Option (Ctl ((Option Nat)×(List<|List Int)) Pan):=
 ((if(x21==(0))=true then some true
 else((dP s1 x21 c2)>>=fun r26=>
 some r26):Option Bool)>>=fun c25=>
 (if c25=true then some (.ret ((none:Option Nat),c20))
 else((dG x22 c2)>>=fun r29=>
 ((gC r29.1 r29.2)>>=fun o30=>
 (match o30 with
 | .ret r30=>some (.ret ((none:Option Nat),c20))
 | .nx p35=>some (.nx p35))))))
theorem jZ: ∀(s1:aC)(c2:Str)(r7:((List<|List Int)×Int×Int))(r14:aC)(x21:Int)(x22:aC)(c20:(List<|List Int))(r:(Ctl ((Option Nat)×(List<|List Int)) Pan)),fB s1 c2 r7 r14 x21 x22 c20=some r→ ∀(s:ASt)(ε15:Env)(κ17:Nat)(ℓ16:Nat)(β1:Nat)(or0_1:AV),Kn s [(ℓ16,.loop ⟨eA none,bD none,bB ε15 [(2,(.aF (.ptr β1 0) 0)),(3,(.aF (aA s1) 0)),(11,(.func 168 [] [(.aF (aA r14) 0)]))],κ17,[12,13],Code.fF,Code.eX⟩),(β1,.cells [(.str c2),or0_1,(.i r7.2.1),(.i r7.2.2)] true)] [(or0_1,1,(c20.map<|aU 1<|AV.i))]→Fc PP (.yield ℓ16) [(.i x21),(aA x22)] s (wZ r (fun q=>lV s [ℓ16,β1] (cL [(or0_1,1,(c20.map<|aU 1<|AV.i))]) (.bool q.1.isNone) (fun a:AV=> [(ℓ16,.loop ⟨eA q.1,bD q.1,bB ε15 [(2,(.aF (.ptr β1 0) 0)),(3,(.aF (aA s1) 0)),(11,(.func 168 [] [(.aF (aA r14) 0)]))],κ17,[12,13],Code.fF,Code.eX⟩),(β1,.cells [(.str c2),a,(.i r7.2.1),(.i r7.2.2)] true)]) (fun a:AV=> [(a,1,(q.2.map<|aU 1<|AV.i))]) (fun a:AV=>True))<|fun p=>u4 s [ℓ16,β1] (cL [(or0_1,1,(c20.map<|aU 1<|AV.i))]) (nX p)):=by
 intro s1 c2 r7 r14 x21 x22 c20 r u;unfold fB at u;intro s ε15 κ17 ℓ16 β1 or0_1 hK;refine aEP r (b:=fun q:((Option Nat)×(List<|List Int))=>q.1.isNone) (bs:=fun(q:((Option Nat)×(List<|List Int)))=>(fun a:AV=> [(ℓ16,.loop ⟨eA q.1,bD q.1,bB ε15 [(2,(.aF (.ptr β1 0) 0)),(3,(.aF (aA s1) 0)),(11,(.func 168 [] [(.aF (aA r14) 0)]))],κ17,[12,13],Code.fF,Code.eX⟩),(β1,.cells [(.str c2),a,(.i r7.2.1),(.i r7.2.2)] true)])) (gs:=fun(q:((Option Nat)×(List<|List Int)))=>(fun a:AV=> [(a,1,(q.2.map<|aU 1<|AV.i))])) (fs:=fun(q:((Option Nat)×(List<|List Int)))=>(fun a:AV=>True)) rfl ?_;refine wB (lp:=⟨.ready,none,bB ε15 [(2,(.aF (.ptr β1 0) 0)),(3,(.aF (aA s1) 0)),(11,(.func 168 [] [(.aF (aA r14) 0)]))],κ17,[12,13],Code.fF,Code.eX⟩) (hK.b _<|.head _) rfl rfl ?_;have J:=hK.st;refine aD<|aE<|wu rfl<|aB<|aE<|wu rfl<|wu rfl<|aB ?_;obtain⟨σ23,hr24,J⟩:=J.iS 0 rfl rfl;refine⟨rfl,rfl,σ23,hr24,?_⟩;refine aQ<|aD<|aD<|aE<|wu rfl<|wu rfl<|wu rfl ?_;obtain⟨c25,h25,u⟩:=bs u;refine bF 8 [(2,(.aF (.ptr β1 0) 0)),(5,(.aF (aA x22) 0)),(24,(.bool c25))] σ23 ?_<|fun e=> ?_
 ·refine bE (t:=16) rfl (fun hc=> ?_)<|fun hc=> ?_
  ·replace h25:=bP hc h25;refine wu rfl<|wu rfl<|wu rfl<|wu rfl<|wu rfl<|wu rfl<|wu rfl<|wu rfl<|aB ?_;cases h25;exact Kept.mk rfl<|.cons rfl<|.cons rfl<|.cons rfl .nil
  ·replace h25:=bO hc h25;refine wu rfl<|wu rfl<|wu rfl<|wu rfl<|wu rfl<|j1 1 rfl J rfl rfl rfl ?_;obtain⟨r26,h26,h25⟩:=bs h25;refine wcD (iW h26) rfl rfl (.cons rfl<|.cons rfl<|.cons rfl .nil)<|wu rfl<|aB ?_;cases h25;exact Kept.mk rfl<|.cons rfl<|.cons rfl<|.cons rfl .nil
 ·refine aB ?_;refine aH u rfl (fun hc u=> ?_)<|fun hc u=> ?_
  ·refine dR ?_;cases u;obtain⟨σ27,hs28,J⟩:=J.dW 0 rfl (fun lp=>{lp with st:= .ready,pend:=none});have J:=J.aM 1 rfl;have J:=J.aM 1 rfl;exact⟨rfl,σ27,hs28,rfl,or0_1,trivial,J⟩
  ·refine aN<|aE<|wu rfl<|wu rfl<|wu rfl<|wu rfl<|j1 1 rfl J rfl rfl rfl ?_;obtain⟨r29,h29,u⟩:=bs u;refine wcD (oA h29) rfl rfl (.cons rfl<|.cons rfl .nil)<|wu rfl<|wu rfl ?_;obtain⟨o30,ho30,u⟩:=bs u;rcases o30 with r30|p35
   ·refine cA rfl (bs1:= []) (bs2:= [(ℓ16,.loop ⟨.busy,none,bB ε15 [(2,(.aF (.ptr β1 0) 0)),(3,(.aF (aA s1) 0)),(11,(.func 168 [] [(.aF (aA r14) 0)]))],κ17,[12,13],Code.fF,Code.eX⟩),(β1,.cells [(.str c2),or0_1,(.i r7.2.1),(.i r7.2.2)] true)]) (gs1:= []) (gs2:= [(or0_1,1,(c20.map<|aU 1<|AV.i))]) rfl J (fun hK=>cP _ _ _ ho30 _ hK) rfl rfl (fun _=>rfl) rfl (by exact(.cons rfl<|.cons rfl .nil)) rfl<|fun σ31 a32 hF J=> ?_;refine aB ?_;cases u;obtain⟨σ37,hs38,J⟩:=J.dW 0 rfl (fun lp=>{lp with st:= .ready,pend:=none});have J:=J.aM 1 rfl;have J:=J.aM 1 rfl;exact⟨rfl,σ37,hs38,rfl,or0_1,trivial,J⟩
   ·refine gS (bs1:= []) (bs2:= [(ℓ16,.loop ⟨.busy,none,bB ε15 [(2,(.aF (.ptr β1 0) 0)),(3,(.aF (aA s1) 0)),(11,(.func 168 [] [(.aF (aA r14) 0)]))],κ17,[12,13],Code.fF,Code.eX⟩),(β1,.cells [(.str c2),or0_1,(.i r7.2.1),(.i r7.2.2)] true)]) (gs1:= []) (gs2:= [(or0_1,1,(c20.map<|aU 1<|AV.i))]) rfl J (fun hK=>cP _ _ _ ho30 _ hK) rfl rfl rfl (by exact(.cons rfl<|.cons rfl .nil)) rfl<|fun σ36 J=> ?_;cases u;exact⟨rfl,rfl,J.ext⟩
noncomputable def bI(s1:aC)(c2:Str)(r7:((List<|List Int)×Int×Int))(r14:aC)(c20:(List<|List Int))(x1039:Int)(c1040:(Option Nat))(c1041:(List<|List Int)):Option (Ctl ((Option Nat)×(List<|List Int))<|Ctl Pan<|(Option Nat)×(List<|List Int)):=
 (if(decide (x1039<(IntKind.wrap .i64 ((r14.expr.l.length:Int)+(r14.expr.aO.length:Int)))))=true then((aX r14 x1039)>>=fun r1042=>
 (if(c1040==(none:Option Nat))=true then((fB s1 c2 r7 r14 x1039 r1042 c1041)>>=fun o1043=>
 (match o1043 with
 | .ret r1043=>(if(!r1043.1.isNone)=true then some (.ret (r1043.1,r1043.2))
 else bI (nf s1) (nf c2) (nf r7) (nf r14) (nf c20) (IntKind.wrap .i64 (x1039+(1))) r1043.1 r1043.2)
 | .nx p1046=>some (.nx (.ret p1046))))
 else none))
 else some (.nx (.nx (c1040,c1041))))
 partial_fixpoint
abbrev jD(s1:aC)(c2:Str)(r7:((List<|List Int)×Int×Int))(r14:aC)(c20:(List<|List Int))(x1039:Int)(c1040:(Option Nat))(c1041:(List<|List Int))(o:(Ctl ((Option Nat)×(List<|List Int))<|Ctl Pan<|(Option Nat)×(List<|List Int))):Prop:= ∀(e:Env)(s sv:ASt)(ε15:Env)(κ17:Nat)(or0_1:AV)(ℓ16:Nat)(β1:Nat)(ow0_1:AV),St [ℓ16,β1] (cL [(or0_1,1,(c20.map<|aU 1<|AV.i))]) s sv [(ℓ16,.loop ⟨eA c1040,bD c1040,bB ε15 [(2,(.aF (.ptr β1 0) 0)),(3,(.aF (aA s1) 0)),(11,(.func 168 [] [(.aF (aA r14) 0)]))],κ17,[12,13],Code.fF,Code.eX⟩),(β1,.cells [(.str c2),ow0_1,(.i r7.2.1),(.i r7.2.2)] true)] [(ow0_1,1,(c1041.map<|aU 1<|AV.i))]→Wk PP none Code.aAo ⟨bB e [(0,(.yield ℓ16)),(1,(.aF (aA r14) 0)),(12,(.i<|IntKind.wrap .i64<|(r14.expr.l.length:Int)+(r14.expr.aO.length:Int))),(13,(.i x1039))],[]⟩ sv (fun ex fr s'=>(match o with| .ret oq0=>ex= .ret∧rP PP Code.aFN (VQ (.tuple [])<|RX s [ℓ16,β1] (cL [(or0_1,1,(c20.map<|aU 1<|AV.i))]) (fun a:AV=> [(ℓ16,.loop ⟨eA oq0.1,bD oq0.1,bB ε15 [(2,(.aF (.ptr β1 0) 0)),(3,(.aF (aA s1) 0)),(11,(.func 168 [] [(.aF (aA r14) 0)]))],κ17,[12,13],Code.fF,Code.eX⟩),(β1,.cells [(.str c2),a,(.i r7.2.1),(.i r7.2.2)] true)]) (fun a:AV=> [(a,1,(oq0.2.map<|aU 1<|AV.i))]) (fun a:AV=>True)) ex fr s'| .nx oq1=>(match oq1 with| .ret oq2=>aK6 (nX oq2) (Ext [ℓ16,β1] (cL [(or0_1,1,(c20.map<|aU 1<|AV.i))]) s) ex fr s'| .nx oq3=>ex= .exit 0∧ ∃(pw1:AV)(e:Env),fr=⟨bB e [],[]⟩∧St [ℓ16,β1] (cL [(or0_1,1,(c20.map<|aU 1<|AV.i))]) s s' [(ℓ16,.loop ⟨eA oq3.1,bD oq3.1,bB ε15 [(2,(.aF (.ptr β1 0) 0)),(3,(.aF (aA s1) 0)),(11,(.func 168 [] [(.aF (aA r14) 0)]))],κ17,[12,13],Code.fF,Code.eX⟩),(β1,.cells [(.str c2),pw1,(.i r7.2.1),(.i r7.2.2)] true)] [(pw1,1,(oq3.2.map<|aU 1<|AV.i))])))
theorem nK: ∀(s1:aC)(c2:Str)(r7:((List<|List Int)×Int×Int))(r14:aC)(c20:(List<|List Int))(x1039:Int)(c1040:(Option Nat))(c1041:(List<|List Int))(o:(Ctl ((Option Nat)×(List<|List Int))<|Ctl Pan<|(Option Nat)×(List<|List Int))),bI s1 c2 r7 r14 c20 x1039 c1040 c1041=some o→jD s1 c2 r7 r14 c20 x1039 c1040 c1041 o:=by
 refine bI.partial_correctness (jD) ?_;intro _f ih_linear_clause_around_s0_i0_l0 s1 c2 r7 r14 c20 x1039 c1040 c1041 o u;intro e s sv ε15 κ17 or0_1 ℓ16 β1 ow0_1 J;refine dC<|aD<|aE<|wu rfl<|aB<|aD ?_;refine aH u rfl (fun hc u=> ?_)<|fun hc u=> ?_
 ·refine aN<|aD<|aQ<|aD<|aE<|wu rfl<|wu rfl<|aB<|aD<|aE<|wu rfl<|wu rfl<|wu rfl<|wu rfl ?_;obtain⟨r1042,h1042,u⟩:=bs u;refine wcD (bR h1042) rfl rfl (.cons rfl<|.cons rfl .nil) ?_;rcases Bool.eq_false_or_eq_true (c1040==(none:Option Nat)) with hc|hc
  ·replace u:=bP hc u;have J:=J.yZ (b1:= .loop ⟨eA none,bD none,bB ε15 [(2,(.aF (.ptr β1 0) 0)),(3,(.aF (aA s1) 0)),(11,(.func 168 [] [(.aF (aA r14) 0)]))],κ17,[12,13],Code.fF,Code.eX⟩) 0 rfl (by rw [eq_of_beq hc]);obtain⟨o1043,h1043,u⟩:=bs u;have J:=J.aM 1 rfl;have J:=J.aM 1 rfl;rcases o1043 with r1043|p1046
   ·refine cA rfl (bs1:= [(ℓ16,.loop ⟨eA none,bD none,bB ε15 [(2,(.aF (.ptr β1 0) 0)),(3,(.aF (aA s1) 0)),(11,(.func 168 [] [(.aF (aA r14) 0)]))],κ17,[12,13],Code.fF,Code.eX⟩),(β1,.cells [(.str c2),ow0_1,(.i r7.2.1),(.i r7.2.2)] true)]) (bs2:= []) (gs1:= [(ow0_1,1,(c1041.map<|aU 1<|AV.i))]) (gs2:= []) rfl J (fun hK=>jZ _ _ _ _ _ _ _ _ h1043 _ ε15 κ17 ℓ16 β1 ow0_1 hK) rfl rfl (fun _=>rfl) rfl (by exact(.cons rfl<|.cons rfl .nil)) rfl<|fun σ1044 a1045 hF J=> ?_;refine wu rfl<|aB ?_;refine aH u rfl (fun hc u=> ?_)<|fun hc u=> ?_
    ·refine aL ?_;cases u;have J:=J.aM 1 rfl;have J:=J.aM 1 rfl;exact⟨rfl,⟨rfl,_,fun _=>rfl,gJ rfl ⟨a1045,trivial,J⟩⟩⟩
    ·refine aN<|aE<|wu rfl<|wu rfl<|aB ?_;have J:=J.aM 1 rfl;have J:=J.aM 1 rfl;exact eL (fun e=>ih_linear_clause_around_s0_i0_l0 _ _ _ _ _ _ _ _ _ u e s _ ε15 κ17 or0_1 ℓ16 β1 a1045 J) (.cons rfl<|.cons rfl<|.cons rfl<|.cons rfl .nil)<|fun _ _ _ h=>h
   ·refine gS (bs1:= [(ℓ16,.loop ⟨eA none,bD none,bB ε15 [(2,(.aF (.ptr β1 0) 0)),(3,(.aF (aA s1) 0)),(11,(.func 168 [] [(.aF (aA r14) 0)]))],κ17,[12,13],Code.fF,Code.eX⟩),(β1,.cells [(.str c2),ow0_1,(.i r7.2.1),(.i r7.2.2)] true)]) (bs2:= []) (gs1:= [(ow0_1,1,(c1041.map<|aU 1<|AV.i))]) (gs2:= []) rfl J (fun hK=>jZ _ _ _ _ _ _ _ _ h1043 _ ε15 κ17 ℓ16 β1 ow0_1 hK) rfl rfl rfl (by exact(.cons rfl<|.cons rfl .nil)) rfl<|fun σ1047 J=> ?_;cases u;exact⟨rfl,_,fun _=>rfl,J.ext⟩
  ·replace u:=bO hc u;cases u
 ·refine dR ?_;cases u;have J:=J.aM 1 rfl;have J:=J.aM 1 rfl;exact⟨rfl,ow0_1,_,frE .nil,J⟩
noncomputable def eY(s1:aC)(c2:Str)(r7:((List<|List Int)×Int×Int))(r14:aC)(c20:(List<|List Int)):Option (Ctl ((Option Nat)×(List<|List Int)) Pan):=
 ((bI s1 c2 r7 r14 c20 (0) none c20)>>=fun o1048=>
 (match o1048 with
 | .ret q1049=>some (.ret q1049)
 | .nx q1050=>(match q1050 with
 | .ret q1051=>some (.nx q1051)
 | .nx q1052=>some (.ret (q1052.1,q1052.2)))))
theorem j0: ∀(s1:aC)(c2:Str)(r7:((List<|List Int)×Int×Int))(r14:aC)(c20:(List<|List Int))(r:(Ctl ((Option Nat)×(List<|List Int)) Pan)),eY s1 c2 r7 r14 c20=some r→ ∀(s:ASt)(ε15:Env)(κ17:Nat)(ℓ16:Nat)(β1:Nat)(or0_1:AV),Kn s [(ℓ16,.loop ⟨eA none,bD none,bB ε15 [(2,(.aF (.ptr β1 0) 0)),(3,(.aF (aA s1) 0)),(11,(.func 168 [] [(.aF (aA r14) 0)]))],κ17,[12,13],Code.fF,Code.eX⟩),(β1,.cells [(.str c2),or0_1,(.i r7.2.1),(.i r7.2.2)] true)] [(or0_1,1,(c20.map<|aU 1<|AV.i))]→Fc PP (.func 168) [(.yield ℓ16),(.aF (aA r14) 0)] s (wZ r (fun q=>lV s [ℓ16,β1] (cL [(or0_1,1,(c20.map<|aU 1<|AV.i))]) (.tuple []) (fun a:AV=> [(ℓ16,.loop ⟨eA q.1,bD q.1,bB ε15 [(2,(.aF (.ptr β1 0) 0)),(3,(.aF (aA s1) 0)),(11,(.func 168 [] [(.aF (aA r14) 0)]))],κ17,[12,13],Code.fF,Code.eX⟩),(β1,.cells [(.str c2),a,(.i r7.2.1),(.i r7.2.2)] true)]) (fun a:AV=> [(a,1,(q.2.map<|aU 1<|AV.i))]) (fun a:AV=>True))<|fun p=>u4 s [ℓ16,β1] (cL [(or0_1,1,(c20.map<|aU 1<|AV.i))]) (nX p)):=by
 intro s1 c2 r7 r14 c20 r u;unfold eY at u;intro s ε15 κ17 ℓ16 β1 or0_1 hK;refine sR r (v:=fun q:((Option Nat)×(List<|List Int))=>(.tuple [])) (bs:=fun(q:((Option Nat)×(List<|List Int)))=>(fun a:AV=> [(ℓ16,.loop ⟨eA q.1,bD q.1,bB ε15 [(2,(.aF (.ptr β1 0) 0)),(3,(.aF (aA s1) 0)),(11,(.func 168 [] [(.aF (aA r14) 0)]))],κ17,[12,13],Code.fF,Code.eX⟩),(β1,.cells [(.str c2),a,(.i r7.2.1),(.i r7.2.2)] true)])) (gs:=fun(q:((Option Nat)×(List<|List Int)))=>(fun a:AV=> [(a,1,(q.2.map<|aU 1<|AV.i))])) (fs:=fun(q:((Option Nat)×(List<|List Int)))=>(fun a:AV=>True)) hK (fun _ _=>rfl) (fun _ a q hq=>by
  simp only [List.mem_cons,List.not_mem_nil,or_false] at hq;subst hq;exact⟨_,(.tail _ (.head _)),_,_,rfl,(.tail _ (.head _))⟩) rfl rfl rfl ?_
 have J:=hK.start;generalize aT s=σ1 at J⊢;refine aD<|aE<|wu rfl<|wu rfl<|wu rfl<|cG (f:=aP) (l:=r14.expr.l) rfl (.no _)<|wu rfl<|wu rfl<|wu rfl<|cG (f:=aZ) (l:=r14.expr.aO) rfl (.no _)<|wu rfl<|wu rfl<|aB<|aQ ?_;obtain⟨o1048,h1048,u⟩:=bs u;have J:=J.aM 1 rfl;have J:=J.aM 1 rfl;refine eL (fun e=>nK _ _ _ _ _ _ _ _ _ h1048 e s _ ε15 κ17 or0_1 ℓ16 β1 or0_1 J) (.cons rfl<|.cons rfl<|.cons rfl<|.cons rfl .nil) ?_
 rintro _ _ _ hq
 rcases o1048 with q1049|q1050
 ·obtain⟨rfl,hq⟩:=hq;cases u;exact hq
 ·rcases q1050 with q1051|q1052
  ·obtain⟨rfl,hq⟩:=hq;cases u;exact⟨rfl,hq⟩
  ·obtain⟨rfl,w1053_1,e1054,rfl,J⟩:=hq;cases u;have J:=J.aM 1 rfl;have J:=J.aM 1 rfl;exact⟨rfl,_,fun _=>rfl,gJ rfl ⟨w1053_1,trivial,J⟩⟩
noncomputable def iE(s1:(List Int))(v2:Int)(x3:Int):Option (Ctl Int Unit):=
 (if(decide (x3<(s1.length:Int)))=true then((idx s1 x3)>>=fun y4=>
 (if(v2==y4)=true then some (.ret x3)
 else iE (nf s1) (nf v2) (IntKind.wrap .i64 (x3+(1)))))
 else some (.nx ()))
 partial_fixpoint
abbrev sB(s1:(List Int))(v2:Int)(x3:Int)(o:(Ctl Int Unit)):Prop:= ∀(e:Env)(s sv:ASt),St [] [] s sv [] []→Wk PP none Code.aME ⟨bB e [(0,(slA 1<|s1.map<|AV.i)),(1,(.i v2)),(7,(.i (s1.length:Int))),(8,(.i x3))],[]⟩ sv (fun ex fr s'=>(match o with| .ret oq0=>ex= .ret∧rP PP Code.aN9 (VQ (.i oq0)<|Ext [] [] s) ex fr s'| .nx oq1=>ex= .exit 0∧ ∃(e:Env),fr=⟨bB e [],[]⟩∧sv=s'))
theorem yT: ∀(s1:(List Int))(v2:Int)(x3:Int)(o:(Ctl Int Unit)),iE s1 v2 x3=some o→sB s1 v2 x3 o:=by
 refine iE.partial_correctness (sB) ?_;intro _f ih_slices_Index_l0 s1 v2 x3 o u;intro e s sv J;refine dC<|aD<|aE<|wu rfl<|aB<|aD ?_;refine aH u rfl (fun hc u=> ?_)<|fun hc u=> ?_
 ·refine aN<|aD<|aQ<|aD<|aE<|wu rfl<|wu rfl<|aB<|aD<|aE<|wu rfl<|wu rfl<|wu rfl ?_;obtain⟨y4,hy4,u⟩:=bs u;refine j5 (f:=(AV.i)) rfl (.no _) rfl hy4 rfl<|wu rfl<|wu rfl<|aB ?_;refine aH u rfl (fun hc u=> ?_)<|fun hc u=> ?_
  ·refine aD<|aE<|wu rfl<|wu rfl<|aB<|aL ?_;cases u;exact⟨rfl,⟨rfl,_,fun _=>rfl,bK rfl rfl rfl rfl J.ext⟩⟩
  ·refine aN<|aE<|wu rfl<|wu rfl<|aB ?_;exact eL (fun e=>ih_slices_Index_l0 _ _ _ _ u e s _ J) (.cons rfl<|.cons rfl<|.cons rfl<|.cons rfl .nil)<|fun _ _ _ h=>h
 ·refine dR ?_;cases u;exact⟨rfl,_,frE .nil,rfl⟩
noncomputable def lJ(s1:(List Int))(v2:Int):Option Int:=
 ((iE s1 v2 (0))>>=fun o5=>
 (match o5 with
 | .ret q6=>some q6
 | .nx q7=>some (-1)))
theorem aBw: ∀(s1:(List Int))(v2:Int)(r:Int),lJ s1 v2=some r→ ∀s:ASt,Fc PP (.func 167) [(slA 1<|s1.map<|AV.i),(.i v2)] s (dZ s<|.i r):=by
 intro s1 v2 r u;unfold lJ at u;intro s;refine bZ rfl rfl rfl ?_;have J:=St.clean s;generalize aT s=σ1 at J⊢;refine aD<|aE<|wu rfl<|aB<|aD<|aD<|aE<|wu rfl<|cG (f:=(AV.i)) (l:=s1) rfl (.no _)<|wu rfl<|aB<|aQ ?_;obtain⟨o5,ho5,u⟩:=bs u;refine eL (fun e=>yT _ _ _ _ ho5 e s _ J) (.cons rfl<|.cons rfl<|.cons rfl<|.cons rfl .nil) ?_
 rintro _ _ _ hq
 rcases o5 with q6|q7
 ·obtain⟨rfl,hq⟩:=hq;cases u;exact hq
 ·obtain⟨rfl,e9,rfl,rfl⟩:=hq;refine aD<|aE<|wu rfl<|aB<|aL ?_;cases u;exact⟨rfl,_,fun _=>rfl,bK rfl rfl rfl rfl J.ext⟩
theorem aBh{s1:(List Int)}{v2:Int}{r:Int}(h:lJ s1 v2=some r):Pf PP 167 [(slA 1<|s1.map<|AV.i),(.i v2)] (.i r):=Pf.fG (aBw s1 v2 r h _) rfl (.cons (sO<|fV (fun _=>rfl) _)<|.cons ⟨rfl,rfl⟩ .nil)
noncomputable def iB(s1:(List Int))(v2:Int):Option Bool:=
 ((lJ s1 v2)>>=fun r3=>
 some (decide (r3≥(0))))
theorem xN: ∀(s1:(List Int))(v2:Int)(r:Bool),iB s1 v2=some r→ ∀s:ASt,Fc PP (.func 115) [(slA 1<|s1.map<|AV.i),(.i v2)] s (dZ s<|.bool r):=by
 intro s1 v2 r u;unfold iB at u;intro s;refine bZ rfl rfl rfl ?_;have J:=St.clean s;generalize aT s=σ1 at J⊢;refine aD<|aE<|wu rfl<|aB<|aD<|aE<|wu rfl<|wu rfl ?_;obtain⟨r3,hr3,u⟩:=bs u;refine wcD (aBh hr3) rfl rfl (.cons rfl<|.cons rfl .nil)<|wu rfl<|wu rfl<|aB<|aL ?_;cases u;exact⟨rfl,_,fun _=>rfl,bK rfl rfl rfl rfl J.ext⟩
theorem yG{s1:(List Int)}{v2:Int}{r:Bool}(h:iB s1 v2=some r):Pf PP 115 [(slA 1<|s1.map<|AV.i),(.i v2)] (.bool r):=Pf.fG (xN s1 v2 r h _) rfl (.cons (sO<|fV (fun _=>rfl) _)<|.cons ⟨rfl,rfl⟩ .nil)
mutual
noncomputable def cM (s1:aC) (k2:Str) (hi3:Bool) (w4:Bool):Option ((List Int)×Bool):=
 ((if(!hi3)=true then((g9 s1 k2)>>=fun r10=>
 some r10)
 else some false:Option Bool)>>=fun c9=>
 ((if c9=true then some true
 else((if(!w4)=true then((iB fC s1.expr.kind)>>=fun r13=>
 some (!r13))
 else some false:Option Bool)>>=fun c12=>
 some c12):Option Bool)>>=fun c11=>
 (if c11=true then some (s1.path,true)
 else((bA s1)>>=fun r16=>
 ((jH (nf s1) (nf k2) (nf hi3) (nf w4) (nf r16) (nf false) ([]:(List Int)))>>=fun r38=>
 (if(r38.1==(none:Option Nat))=true then some (([]:(List Int)),false)
 else(if(r38.1==(some 0))=true then some (r38.2.2,r38.2.1)
 else none)))))))
 partial_fixpoint
noncomputable def jH (s1:aC) (k2:Str) (hi3:Bool) (w4:Bool) (r16:aC) (x22:Bool) (x23:(List Int)):Option ((Option Nat)×Bool×(List Int)):=
 ((dJ s1 k2 hi3 w4 r16 (0) none x22 x23)>>=fun o1047=>
 (match o1047 with
 | .ret q1048=>some q1048
 | .nx q1049=>some (q1049.1,q1049.2.1,q1049.2.2)))
 partial_fixpoint
noncomputable def dJ (s1:aC) (k2:Str) (hi3:Bool) (w4:Bool) (r16:aC) (x1038:Int) (c1039:(Option Nat)) (x1040:Bool) (x1041:(List Int)):Option (Ctl ((Option Nat)×Bool×(List Int))<|(Option Nat)×Bool×(List Int)):=
 (if(decide (x1038<(IntKind.wrap .i64 ((r16.expr.l.length:Int)+(r16.expr.aO.length:Int)))))=true then((aX r16 x1038)>>=fun r1042=>
 (if(c1039==(none:Option Nat))=true then((jG (nf s1) (nf k2) (nf hi3) (nf w4) (nf r16) (nf x1038) (nf r1042) (nf x1040) (nf x1041))>>=fun r1043=>
 (if(!r1043.1.isNone)=true then some (.ret (r1043.1,r1043.2.1,r1043.2.2))
 else dJ (nf s1) (nf k2) (nf hi3) (nf w4) (nf r16) (IntKind.wrap .i64 (x1038+(1))) r1043.1 r1043.2.1 r1043.2.2))
 else none))
 else some (.nx (c1039,x1040,x1041)))
 partial_fixpoint
noncomputable def jG (s1:aC) (k2:Str) (hi3:Bool) (w4:Bool) (r16:aC) (x24:Int) (x25:aC) (x22:Bool) (x23:(List Int)):Option ((Option Nat)×Bool×(List Int)):=
 ((if hi3=true then some true
 else((dP s1 x24 k2)>>=fun r29=>
 some r29):Option Bool)>>=fun c28=>
 ((if w4=true then some true
 else some (s1.expr.kind==(4)):Option Bool)>>=fun c30=>
 ((cM (nf x25) (nf k2) (nf c28) (nf c30))>>=fun r31=>
 (if r31.2=true then some ((some 0),true,r31.1)
 else some ((none:Option Nat),x22,x23)))))
 partial_fixpoint
end
abbrev mQ(s1:aC)(k2:Str)(hi3:Bool)(w4:Bool)(r:((List Int)×Bool)):Prop:= ∀s:ASt,Fc PP (.func 82) [(aA s1),(.str k2),(.bool hi3),(.bool w4)] s (dZ s<|.tuple [(slA 1<|r.1.map<|AV.i),(.bool r.2)])
abbrev oD(s1:aC)(k2:Str)(hi3:Bool)(w4:Bool)(r16:aC)(x22:Bool)(x23:(List Int))(r:((Option Nat)×Bool×(List Int))):Prop:= ∀(s:ASt)(ε17:Env)(κ19:Nat)(ℓ18:Nat)(β7:Nat)(β5:Nat)(or0_1:AV),Sl 1 or0_1 (x23.map<|AV.i)→Kn s [(ℓ18,.loop ⟨eA none,bD none,bB ε17 [(4,(.aF (aA s1) 0)),(5,(.aF (.str k2) 0)),(6,(.aF (.bool hi3) 0)),(7,(.aF (.bool w4) 0)),(8,(.ptr β5 0)),(9,(.ptr β7 0)),(36,(.func 168 [] [(.aF (aA r16) 0)]))],κ19,[37,38],Code.kN,Code.kQ⟩),(β7,.cells [(.bool x22)] true),(β5,.cells [or0_1] true)] []→Fc PP (.func 168) [(.yield ℓ18),(.aF (aA r16) 0)] s (lV s [ℓ18,β7,β5] [] (.tuple []) (fun a:AV=> [(ℓ18,.loop ⟨eA r.1,bD r.1,bB ε17 [(4,(.aF (aA s1) 0)),(5,(.aF (.str k2) 0)),(6,(.aF (.bool hi3) 0)),(7,(.aF (.bool w4) 0)),(8,(.ptr β5 0)),(9,(.ptr β7 0)),(36,(.func 168 [] [(.aF (aA r16) 0)]))],κ19,[37,38],Code.kN,Code.kQ⟩),(β7,.cells [(.bool r.2.1)] true),(β5,.cells [a] true)]) (fun a:AV=> []) (fun a:AV=>Sl 1 a (r.2.2.map<|AV.i)))
abbrev mE(s1:aC)(k2:Str)(hi3:Bool)(w4:Bool)(r16:aC)(x1038:Int)(c1039:(Option Nat))(x1040:Bool)(x1041:(List Int))(o:(Ctl ((Option Nat)×Bool×(List Int))<|(Option Nat)×Bool×(List Int))):Prop:= ∀(e:Env)(s sv:ASt)(ε17:Env)(κ19:Nat)(or0_1:AV)(ℓ18:Nat)(β7:Nat)(β5:Nat)(ow0_1:AV),Sl 1 ow0_1 (x1041.map<|AV.i)→St [ℓ18,β7,β5] [] s sv [(ℓ18,.loop ⟨eA c1039,bD c1039,bB ε17 [(4,(.aF (aA s1) 0)),(5,(.aF (.str k2) 0)),(6,(.aF (.bool hi3) 0)),(7,(.aF (.bool w4) 0)),(8,(.ptr β5 0)),(9,(.ptr β7 0)),(36,(.func 168 [] [(.aF (aA r16) 0)]))],κ19,[37,38],Code.kN,Code.kQ⟩),(β7,.cells [(.bool x1040)] true),(β5,.cells [ow0_1] true)] []→Wk PP none Code.aAo ⟨bB e [(0,(.yield ℓ18)),(1,(.aF (aA r16) 0)),(12,(.i<|IntKind.wrap .i64<|(r16.expr.l.length:Int)+(r16.expr.aO.length:Int))),(13,(.i x1038))],[]⟩ sv (fun ex fr s'=>(match o with| .ret oq0=>ex= .ret∧rP PP Code.aFN (VQ (.tuple [])<|RX s [ℓ18,β7,β5] [] (fun a:AV=> [(ℓ18,.loop ⟨eA oq0.1,bD oq0.1,bB ε17 [(4,(.aF (aA s1) 0)),(5,(.aF (.str k2) 0)),(6,(.aF (.bool hi3) 0)),(7,(.aF (.bool w4) 0)),(8,(.ptr β5 0)),(9,(.ptr β7 0)),(36,(.func 168 [] [(.aF (aA r16) 0)]))],κ19,[37,38],Code.kN,Code.kQ⟩),(β7,.cells [(.bool oq0.2.1)] true),(β5,.cells [a] true)]) (fun a:AV=> []) (fun a:AV=>Sl 1 a (oq0.2.2.map<|AV.i))) ex fr s'| .nx oq1=>ex= .exit 0∧ ∃(pw1:AV)(e:Env),fr=⟨bB e [],[]⟩∧Sl 1 pw1 (oq1.2.2.map<|AV.i)∧St [ℓ18,β7,β5] [] s s' [(ℓ18,.loop ⟨eA oq1.1,bD oq1.1,bB ε17 [(4,(.aF (aA s1) 0)),(5,(.aF (.str k2) 0)),(6,(.aF (.bool hi3) 0)),(7,(.aF (.bool w4) 0)),(8,(.ptr β5 0)),(9,(.ptr β7 0)),(36,(.func 168 [] [(.aF (aA r16) 0)]))],κ19,[37,38],Code.kN,Code.kQ⟩),(β7,.cells [(.bool oq1.2.1)] true),(β5,.cells [pw1] true)] []))
abbrev n9(s1:aC)(k2:Str)(hi3:Bool)(w4:Bool)(r16:aC)(x24:Int)(x25:aC)(x22:Bool)(x23:(List Int))(r:((Option Nat)×Bool×(List Int))):Prop:= ∀(s:ASt)(ε17:Env)(κ19:Nat)(ℓ18:Nat)(β7:Nat)(β5:Nat)(or0_1:AV),Sl 1 or0_1 (x23.map<|AV.i)→Kn s [(ℓ18,.loop ⟨eA none,bD none,bB ε17 [(4,(.aF (aA s1) 0)),(5,(.aF (.str k2) 0)),(6,(.aF (.bool hi3) 0)),(7,(.aF (.bool w4) 0)),(8,(.ptr β5 0)),(9,(.ptr β7 0)),(36,(.func 168 [] [(.aF (aA r16) 0)]))],κ19,[37,38],Code.kN,Code.kQ⟩),(β7,.cells [(.bool x22)] true),(β5,.cells [or0_1] true)] []→Fc PP (.yield ℓ18) [(.i x24),(aA x25)] s (lV s [ℓ18,β7,β5] [] (.bool r.1.isNone) (fun a:AV=> [(ℓ18,.loop ⟨eA r.1,bD r.1,bB ε17 [(4,(.aF (aA s1) 0)),(5,(.aF (.str k2) 0)),(6,(.aF (.bool hi3) 0)),(7,(.aF (.bool w4) 0)),(8,(.ptr β5 0)),(9,(.ptr β7 0)),(36,(.func 168 [] [(.aF (aA r16) 0)]))],κ19,[37,38],Code.kN,Code.kQ⟩),(β7,.cells [(.bool r.2.1)] true),(β5,.cells [a] true)]) (fun a:AV=> []) (fun a:AV=>Sl 1 a (r.2.2.map<|AV.i)))
theorem p4{s1:aC}{k2:Str}{hi3:Bool}{w4:Bool}{r:((List Int)×Bool)}(h: ∀s:ASt,Fc PP (.func 82) [(aA s1),(.str k2),(.bool hi3),(.bool w4)] s<|dZ s<|.tuple [(slA 1<|r.1.map<|AV.i),(.bool r.2)]):Pf PP 82 [(aA s1),(.str k2),(.bool hi3),(.bool w4)] (.tuple [(slA 1<|r.1.map<|AV.i),(.bool r.2)]):=Pf.fG (h _) (yR<|.cons (pS (fun _=>rfl) _)<|.cons rfl<|.nil) (.cons (eK _)<|.cons ⟨rfl,rfl⟩<|.cons ⟨rfl,rfl⟩<|.cons ⟨rfl,rfl⟩ .nil)
theorem v8:(∀(s1:aC)(k2:Str)(hi3:Bool)(w4:Bool)(r:((List Int)×Bool)),cM s1 k2 hi3 w4=some r→mQ s1 k2 hi3 w4 r)∧
  (∀(s1:aC)(k2:Str)(hi3:Bool)(w4:Bool)(r16:aC)(x22:Bool)(x23:(List Int))(r:((Option Nat)×Bool×(List Int))),jH s1 k2 hi3 w4 r16 x22 x23=some r→oD s1 k2 hi3 w4 r16 x22 x23 r)∧
  (∀(s1:aC)(k2:Str)(hi3:Bool)(w4:Bool)(r16:aC)(x1038:Int)(c1039:(Option Nat))(x1040:Bool)(x1041:(List Int))(o:(Ctl ((Option Nat)×Bool×(List Int))<|(Option Nat)×Bool×(List Int))),dJ s1 k2 hi3 w4 r16 x1038 c1039 x1040 x1041=some o→mE s1 k2 hi3 w4 r16 x1038 c1039 x1040 x1041 o)∧
  (∀(s1:aC)(k2:Str)(hi3:Bool)(w4:Bool)(r16:aC)(x24:Int)(x25:aC)(x22:Bool)(x23:(List Int))(r:((Option Nat)×Bool×(List Int))),jG s1 k2 hi3 w4 r16 x24 x25 x22 x23=some r→n9 s1 k2 hi3 w4 r16 x24 x25 x22 x23 r):=by
 refine cM.mutual_partial_correctness mQ oD mE n9 ?_ ?_ ?_ ?_
 ·intro _f0 ih_linear_spot_loud_i0 s1 k2 hi3 w4 r u;intro s;refine bZ rfl rfl rfl ?_;have J:=St.clean s;generalize aT s=σ1 at J⊢;refine aD<|aE<|wu rfl<|wu rfl<|wu rfl<|wu rfl ?_;refine kG rfl J rfl<|fun β5 σ6 J=> ?_;refine kG rfl J rfl<|fun β7 σ8 J=> ?_;refine aB<|aD<|aD<|aE<|wu rfl<|wu rfl<|wu rfl ?_;obtain⟨c9,hc9,u⟩:=bs u;refine bF 4 [(4,(.aF (aA s1) 0)),(5,(.aF (.str k2) 0)),(6,(.aF (.bool hi3) 0)),(7,(.aF (.bool w4) 0)),(8,(.ptr β5 0)),(9,(.ptr β7 0)),(20,(.bool c9))] σ8 ?_<|fun e=> ?_
  ·refine bE (t:=16) rfl (fun hc=> ?_)<|fun hc=> ?_
   ·replace hc9:=bP hc hc9;refine wu rfl<|wu rfl ?_;obtain⟨r10,h10,hc9⟩:=bs hc9;refine wcD (rU h10) rfl rfl (.cons rfl<|.cons rfl .nil)<|wu rfl<|aB ?_;cases hc9;exact Kept.mk rfl<|.cons rfl<|.cons rfl<|.cons rfl<|.cons rfl<|.cons rfl<|.cons rfl<|.cons rfl .nil
   ·replace hc9:=bO hc hc9;refine wu rfl<|wu rfl<|wu rfl<|wu rfl<|aB ?_;cases hc9;exact Kept.mk rfl<|.cons rfl<|.cons rfl<|.cons rfl<|.cons rfl<|.cons rfl<|.cons rfl<|.cons rfl .nil
  ·refine wu rfl ?_;obtain⟨c11,h11,u⟩:=bs u;refine bF 11 [(4,(.aF (aA s1) 0)),(5,(.aF (.str k2) 0)),(6,(.aF (.bool hi3) 0)),(7,(.aF (.bool w4) 0)),(8,(.ptr β5 0)),(9,(.ptr β7 0)),(32,(.bool c11))] σ8 ?_<|fun e=> ?_
   ·refine bE (t:=21) rfl (fun hc=> ?_)<|fun hc=> ?_
    ·replace h11:=bP hc h11;refine wu rfl<|wu rfl<|wu rfl<|wu rfl<|wu rfl<|wu rfl<|wu rfl<|wu rfl<|wu rfl<|wu rfl<|wu rfl<|aB ?_;cases h11;exact Kept.mk rfl<|.cons rfl<|.cons rfl<|.cons rfl<|.cons rfl<|.cons rfl<|.cons rfl<|.cons rfl .nil
    ·replace h11:=bO hc h11
     iterate 3 refine wu rfl ?_
     obtain⟨c12,h12,h11⟩:=bs h11;refine bF 7 [(4,(.aF (aA s1) 0)),(5,(.aF (.str k2) 0)),(6,(.aF (.bool hi3) 0)),(7,(.aF (.bool w4) 0)),(8,(.ptr β5 0)),(9,(.ptr β7 0)),(21,(.bool false)),(31,(.bool c12))] σ8 ?_<|fun e=> ?_
     ·refine bE (t:=24) rfl (fun hc=> ?_)<|fun hc=> ?_
      ·replace h12:=bP hc h12;refine wgv (v:=(slA 1<|fC.map<|AV.i)) rfl rfl (by kernel_rfl) ?_
       iterate 3 refine wu rfl ?_
       obtain⟨r13,h13,h12⟩:=bs h12;refine wcD (yG h13) rfl rfl (.cons rfl<|.cons rfl .nil)<|wu rfl<|wu rfl<|aB ?_;cases h12;exact Kept.mk rfl<|.cons rfl<|.cons rfl<|.cons rfl<|.cons rfl<|.cons rfl<|.cons rfl<|.cons rfl<|.cons rfl .nil
      ·replace h12:=bO hc h12;refine wu rfl<|wu rfl<|wu rfl<|wu rfl<|wu rfl<|wu rfl<|wu rfl<|aB ?_;cases h12;exact Kept.mk rfl<|.cons rfl<|.cons rfl<|.cons rfl<|.cons rfl<|.cons rfl<|.cons rfl<|.cons rfl<|.cons rfl .nil
     ·refine wu rfl<|aB ?_;cases h11;exact Kept.mk rfl<|.cons rfl<|.cons rfl<|.cons rfl<|.cons rfl<|.cons rfl<|.cons rfl<|.cons rfl .nil
   ·refine aB ?_;refine aH u rfl (fun hc u=> ?_)<|fun hc u=> ?_
    ·refine aD<|aE<|wu rfl<|wu rfl ?_;refine bV (ds':= [(slA 1<|s1.path.map<|AV.i)]) (cs':= [(slA 1<|s1.path.map<|AV.i)]) 1 rfl J rfl rfl rfl rfl rfl (Nat.le_of_ble_eq_true rfl) (.cons (tkN rfl) .nil) (by kernel_rfl)<|fun σ14 J=> ?_;refine bV (ds':= [(.bool true)]) (cs':= [(.bool true)]) 0 rfl J rfl rfl rfl rfl rfl (Nat.le_of_ble_eq_true rfl) (.cons (tkN rfl) .nil) (by kernel_rfl)<|fun σ15 J=> ?_;refine aB<|aL ?_;cases u;exact⟨rfl,_,fun _=>rfl,fN (tX.eq<|.cons (lT J 1 rfl rfl rfl)<|.cons (lT J 0 rfl rfl rfl) .nil) (.cons rfl<|.cons rfl .nil) J.ext⟩
    ·refine aN<|aD<|aD<|aE<|wu rfl ?_;obtain⟨r16,h16,u⟩:=bs u;refine wcD (gD h16) rfl rfl (.cons rfl .nil)<|aB<|aQ ?_;refine aCF (S:= [(4,(.aF (aA s1) 0)),(5,(.aF (.str k2) 0)),(6,(.aF (.bool hi3) 0)),(7,(.aF (.bool w4) 0)),(8,(.ptr β5 0)),(9,(.ptr β7 0)),(36,(.func 168 [] [(.aF (aA r16) 0)]))]) (.cons rfl<|.cons rfl<|.cons rfl<|.cons rfl<|.cons rfl<|.cons rfl<|.cons rfl .nil)<|fun ε17=> ?_;obtain⟨κ19,ℓ18,σ20,hl21,J⟩:=vN (params:= [37,38]) (assign:=Code.kN) (body:=Code.kQ) (fr:=⟨bB ε17 [(4,(.aF (aA s1) 0)),(5,(.aF (.str k2) 0)),(6,(.aF (.bool hi3) 0)),(7,(.aF (.bool w4) 0)),(8,(.ptr β5 0)),(9,(.ptr β7 0)),(36,(.func 168 [] [(.aF (aA r16) 0)]))],[]⟩) J;refine wC hl21 rfl rfl ?_;obtain⟨r38,h38,u⟩:=bs u;have J:=J.aM 3 rfl;have J:=J.aM 3 rfl;have J:=J.aM 2 rfl;rcases Bool.eq_false_or_eq_true (r38.1==(none:Option Nat)) with hc|hc
     ·replace u:=bP hc u;refine oO (bs1:= [(ℓ18,.loop ⟨eA none,bD none,bB ε17 [(4,(.aF (aA s1) 0)),(5,(.aF (.str k2) 0)),(6,(.aF (.bool hi3) 0)),(7,(.aF (.bool w4) 0)),(8,(.ptr β5 0)),(9,(.ptr β7 0)),(36,(.func 168 [] [(.aF (aA r16) 0)]))],κ19,[37,38],Code.kN,Code.kQ⟩),(β7,.cells [(.bool false)] true),(β5,.cells [(.slice 0 (([]:(List Int)).map<|AV.i) .full)] true)]) (bs2:= [(κ19,.qZ)]) (gs1:= []) (gs2:= []) (pd:=r38.1) (ex:= .normal) J (fun hK=>ih_linear_spot_loud_i0 _ _ _ _ _ _ _ _ h38 _ ε17 κ19 ℓ18 β7 β5 (.slice 0 (([]:(List Int)).map<|AV.i) .full) (.full<|.inr rfl) hK) rfl rfl (fun _=>rfl) (by rw [eq_of_beq hc];rfl)<|fun σ39 a40 hF J=> ?_;have h41:=hF;refine aD<|aE ?_;refine bV (ds':= [(.slice 0 (([]:(List Int)).map<|AV.i) .full)]) (cs':= [(.slice 0 (([]:(List Int)).map<|AV.i) .full)]) 1 rfl J rfl rfl rfl rfl rfl (Nat.le_of_ble_eq_true rfl) (.cons (tkN rfl) .nil) (by kernel_rfl)<|fun σ42 J=> ?_;refine bV (ds':= [(.bool false)]) (cs':= [(.bool false)]) 0 rfl J rfl rfl rfl rfl rfl (Nat.le_of_ble_eq_true rfl) (.cons (tkN rfl) .nil) (by kernel_rfl)<|fun σ43 J=> ?_;refine aB<|aL ?_;cases u;obtain⟨σ44,J,h45⟩:=J.mark 2 rfl;exact⟨rfl,σ44,(h45<|fun _=>rfl),fN (tX.eq<|.cons (lT J 1 rfl rfl rfl)<|.cons (lT J 0 rfl rfl rfl) .nil) (.cons rfl<|.cons rfl .nil) J.ext⟩
     ·replace u:=bO hc u;rcases Bool.eq_false_or_eq_true (r38.1==(some 0)) with hc|hc
      ·replace u:=bP hc u;refine oO (bs1:= [(ℓ18,.loop ⟨eA none,bD none,bB ε17 [(4,(.aF (aA s1) 0)),(5,(.aF (.str k2) 0)),(6,(.aF (.bool hi3) 0)),(7,(.aF (.bool w4) 0)),(8,(.ptr β5 0)),(9,(.ptr β7 0)),(36,(.func 168 [] [(.aF (aA r16) 0)]))],κ19,[37,38],Code.kN,Code.kQ⟩),(β7,.cells [(.bool false)] true),(β5,.cells [(.slice 0 (([]:(List Int)).map<|AV.i) .full)] true)]) (bs2:= [(κ19,.qZ)]) (gs1:= []) (gs2:= []) (pd:=r38.1) (ex:= .ret) J (fun hK=>ih_linear_spot_loud_i0 _ _ _ _ _ _ _ _ h38 _ ε17 κ19 ℓ18 β7 β5 (.slice 0 (([]:(List Int)).map<|AV.i) .full) (.full<|.inr rfl) hK) rfl rfl (fun _=>rfl) (by rw [eq_of_beq hc];rfl)<|fun σ46 a47 hF J=> ?_;have h48:=hF;cases u;obtain⟨σ49,J,h50⟩:=J.mark 2 rfl;exact⟨rfl,σ49,(h50<|fun _=>rfl),fN (tX.eq<|.cons (lT J 1 rfl rfl rfl)<|.cons (lT J 0 rfl rfl rfl) .nil) (.cons (h48).fix<|.cons rfl .nil) J.ext⟩
      ·replace u:=bO hc u;cases u
 ·intro _f0 ih_linear_spot_loud_i0_l0 s1 k2 hi3 w4 r16 x22 x23 r u;intro s ε17 κ19 ℓ18 β7 β5 or0_1 hor0_1 hK;refine pO hK (fun _=>rfl) (fun _=>aDb) rfl rfl rfl ?_;have J:=hK.start;generalize aT s=σ1 at J⊢;refine aD<|aE<|wu rfl<|wu rfl<|wu rfl<|cG (f:=aP) (l:=r16.expr.l) rfl (.no _)<|wu rfl<|wu rfl<|wu rfl<|cG (f:=aZ) (l:=r16.expr.aO) rfl (.no _)<|wu rfl<|wu rfl<|aB<|aQ ?_;obtain⟨o1047,h1047,u⟩:=bs u;have J:=J.aM 2 rfl;have J:=J.aM 2 rfl;have J:=J.aM 2 rfl;refine eL (fun e=>ih_linear_spot_loud_i0_l0 _ _ _ _ _ _ _ _ _ _ h1047 e s _ ε17 κ19 or0_1 ℓ18 β7 β5 or0_1 hor0_1 J) (.cons rfl<|.cons rfl<|.cons rfl<|.cons rfl .nil) ?_
  rintro _ _ _ hq
  rcases o1047 with q1048|q1049
  ·obtain⟨rfl,hq⟩:=hq;cases u;exact hq
  ·obtain⟨rfl,w1050_1,e1051,rfl,hw1050_1,J⟩:=hq;cases u;have J:=J.aM 2 rfl;have J:=J.aM 2 rfl;have J:=J.aM 2 rfl;exact⟨rfl,_,fun _=>rfl,gJ rfl ⟨w1050_1,hw1050_1,J⟩⟩
 ·intro _f0 _f1 ih_linear_spot_loud_i0_l0 ih_linear_spot_loud_r0 s1 k2 hi3 w4 r16 x1038 c1039 x1040 x1041 o u;intro e s sv ε17 κ19 or0_1 ℓ18 β7 β5 ow0_1 how0_1 J;refine dC<|aD<|aE<|wu rfl<|aB<|aD ?_;refine aH u rfl (fun hc u=> ?_)<|fun hc u=> ?_
  ·refine aN<|aD<|aQ<|aD<|aE<|wu rfl<|wu rfl<|aB<|aD<|aE<|wu rfl<|wu rfl<|wu rfl<|wu rfl ?_;obtain⟨r1042,h1042,u⟩:=bs u;refine wcD (bR h1042) rfl rfl (.cons rfl<|.cons rfl .nil) ?_;rcases Bool.eq_false_or_eq_true (c1039==(none:Option Nat)) with hc|hc
   ·replace u:=bP hc u;have J:=J.yZ (b1:= .loop ⟨eA none,bD none,bB ε17 [(4,(.aF (aA s1) 0)),(5,(.aF (.str k2) 0)),(6,(.aF (.bool hi3) 0)),(7,(.aF (.bool w4) 0)),(8,(.ptr β5 0)),(9,(.ptr β7 0)),(36,(.func 168 [] [(.aF (aA r16) 0)]))],κ19,[37,38],Code.kN,Code.kQ⟩) 0 rfl (by rw [eq_of_beq hc]);obtain⟨r1043,h1043,u⟩:=bs u;have J:=J.aM 2 rfl;have J:=J.aM 2 rfl;have J:=J.aM 2 rfl;refine cA rfl (bs1:= [(ℓ18,.loop ⟨eA none,bD none,bB ε17 [(4,(.aF (aA s1) 0)),(5,(.aF (.str k2) 0)),(6,(.aF (.bool hi3) 0)),(7,(.aF (.bool w4) 0)),(8,(.ptr β5 0)),(9,(.ptr β7 0)),(36,(.func 168 [] [(.aF (aA r16) 0)]))],κ19,[37,38],Code.kN,Code.kQ⟩),(β7,.cells [(.bool x1040)] true),(β5,.cells [ow0_1] true)]) (bs2:= []) (gs1:= []) (gs2:= []) rfl J (fun hK=>ih_linear_spot_loud_r0 _ _ _ _ _ _ _ _ _ _ h1043 _ ε17 κ19 ℓ18 β7 β5 ow0_1 how0_1 hK) rfl rfl (fun _=>rfl) rfl (by exact(.cons rfl<|.cons rfl .nil)) rfl<|fun σ1044 a1045 hF J=> ?_;have h1046:=hF;refine wu rfl<|aB ?_;refine aH u rfl (fun hc u=> ?_)<|fun hc u=> ?_
    ·refine aL ?_;cases u;have J:=J.aM 2 rfl;have J:=J.aM 2 rfl;have J:=J.aM 2 rfl;exact⟨rfl,⟨rfl,_,fun _=>rfl,gJ rfl ⟨a1045,h1046,J⟩⟩⟩
    ·refine aN<|aE<|wu rfl<|wu rfl<|aB ?_;have J:=J.aM 2 rfl;have J:=J.aM 2 rfl;have J:=J.aM 2 rfl;exact eL (fun e=>ih_linear_spot_loud_i0_l0 _ _ _ _ _ _ _ _ _ _ u e s _ ε17 κ19 or0_1 ℓ18 β7 β5 a1045 h1046 J) (.cons rfl<|.cons rfl<|.cons rfl<|.cons rfl .nil)<|fun _ _ _ h=>h
   ·replace u:=bO hc u;cases u
  ·refine dR ?_;cases u;have J:=J.aM 2 rfl;have J:=J.aM 2 rfl;have J:=J.aM 2 rfl;exact⟨rfl,ow0_1,_,frE .nil,how0_1,J⟩
 ·intro _f0 ih_linear_spot_loud s1 k2 hi3 w4 r16 x24 x25 x22 x23 r u;intro s ε17 κ19 ℓ18 β7 β5 or0_1 hor0_1 hK;refine aLb.reg rfl ?_;refine wB (lp:=⟨.ready,none,bB ε17 [(4,(.aF (aA s1) 0)),(5,(.aF (.str k2) 0)),(6,(.aF (.bool hi3) 0)),(7,(.aF (.bool w4) 0)),(8,(.ptr β5 0)),(9,(.ptr β7 0)),(36,(.func 168 [] [(.aF (aA r16) 0)]))],κ19,[37,38],Code.kN,Code.kQ⟩) (hK.b _<|.head _) rfl rfl ?_;have J:=hK.st;refine aD<|aE<|wu rfl<|aB<|aE<|wu rfl<|wu rfl<|aB ?_;obtain⟨σ26,hr27,J⟩:=J.iS 0 rfl rfl;refine⟨rfl,rfl,σ26,hr27,?_⟩;refine aQ<|aD<|aE<|wu rfl<|wu rfl<|wu rfl<|wu rfl ?_;obtain⟨c28,h28,u⟩:=bs u;refine bF 5 [(4,(.aF (aA s1) 0)),(7,(.aF (.bool w4) 0)),(8,(.ptr β5 0)),(9,(.ptr β7 0)),(40,(aA x25)),(41,(.str k2)),(48,(.bool c28))] σ26 ?_<|fun e=> ?_
  ·refine bE (t:=43) rfl (fun hc=> ?_)<|fun hc=> ?_
   ·replace h28:=bP hc h28;refine wu rfl<|wu rfl<|wu rfl<|wu rfl<|wu rfl<|aB ?_;cases h28;exact Kept.mk rfl<|.cons rfl<|.cons rfl<|.cons rfl<|.cons rfl<|.cons rfl<|.cons rfl<|.cons rfl .nil
   ·replace h28:=bO hc h28
    iterate 3 refine wu rfl ?_
    obtain⟨r29,h29,h28⟩:=bs h28;refine wcD (iW h29) rfl rfl (.cons rfl<|.cons rfl<|.cons rfl .nil)<|wu rfl<|aB ?_;cases h28;exact Kept.mk rfl<|.cons rfl<|.cons rfl<|.cons rfl<|.cons rfl<|.cons rfl<|.cons rfl<|.cons rfl .nil
  ·refine wu rfl<|wu rfl ?_;obtain⟨c30,h30,u⟩:=bs u;refine bF 5 [(8,(.ptr β5 0)),(9,(.ptr β7 0)),(40,(aA x25)),(41,(.str k2)),(48,(.bool c28)),(55,(.bool c30))] σ26 ?_<|fun e=> ?_
   ·refine bE (t:=50) rfl (fun hc=> ?_)<|fun hc=> ?_
    ·replace h30:=bP hc h30;refine wu rfl<|wu rfl<|wu rfl<|wu rfl<|wu rfl<|aB ?_;cases h30;exact Kept.mk rfl<|.cons rfl<|.cons rfl<|.cons rfl<|.cons rfl<|.cons rfl<|.cons rfl .nil
    ·replace h30:=bO hc h30;refine wu rfl<|wu rfl<|wu rfl<|wu rfl<|wu rfl<|aB ?_;cases h30;exact Kept.mk rfl<|.cons rfl<|.cons rfl<|.cons rfl<|.cons rfl<|.cons rfl<|.cons rfl .nil
   ·obtain⟨r31,h31,u⟩:=bs u;refine wcD (p4<|ih_linear_spot_loud _ _ _ _ _ h31) rfl rfl (.cons rfl<|.cons rfl<|.cons rfl<|.cons rfl .nil)<|wu rfl<|wu rfl<|wu rfl<|wu rfl<|wu rfl<|aB<|aD<|aE<|wu rfl<|aB ?_;refine aH u rfl (fun hc u=> ?_)<|fun hc u=> ?_
    ·refine aD<|aE<|wu rfl ?_;refine bV (ds':= [(slA 1<|r31.1.map<|AV.i)]) (cs':= [(slA 1<|r31.1.map<|AV.i)]) 2 rfl J rfl rfl rfl rfl rfl (Nat.le_of_ble_eq_true rfl) (.cons (tkN rfl) .nil) (by kernel_rfl)<|fun σ32 J=> ?_;refine bV (ds':= [(.bool true)]) (cs':= [(.bool true)]) 1 rfl J rfl rfl rfl rfl rfl (Nat.le_of_ble_eq_true rfl) (.cons (tkN rfl) .nil) (by kernel_rfl)<|fun σ33 J=> ?_;refine aB<|aL ?_;cases u;obtain⟨σ34,hs35,J⟩:=J.dW 0 rfl (fun lp=>{lp with st:= .done,pend:=some .ret});have J:=J.aM 2 rfl;have J:=J.aM 2 rfl;have J:=J.aM 2 rfl;exact⟨rfl,σ34,hs35,rfl,(slA 1<|r31.1.map<|AV.i),(.no _),J⟩
    ·refine aN ?_;cases u;obtain⟨σ36,hs37,J⟩:=J.dW 0 rfl (fun lp=>{lp with st:= .ready,pend:=none});have J:=J.aM 2 rfl;have J:=J.aM 2 rfl;have J:=J.aM 2 rfl;exact⟨rfl,σ36,hs37,rfl,or0_1,hor0_1,J⟩
theorem wX: ∀(s1:aC)(k2:Str)(hi3:Bool)(w4:Bool)(r:((List Int)×Bool)),cM s1 k2 hi3 w4=some r→mQ s1 k2 hi3 w4 r:=v8.1
theorem gO{s1:aC}{k2:Str}{hi3:Bool}{w4:Bool}{r:((List Int)×Bool)}(h:cM s1 k2 hi3 w4=some r):Pf PP 82 [(aA s1),(.str k2),(.bool hi3),(.bool w4)] (.tuple [(slA 1<|r.1.map<|AV.i),(.bool r.2)]):=p4 (wX s1 k2 hi3 w4 r h)
noncomputable def fX(s1:aC)(c2:Str)(c4:Int)(c5:Int)(r6:aC)(x13:Int)(x14:aC)(c12:(List<|List Int)):Option (Ctl ((Option Nat)×(List<|List Int)) Pan):=
 ((cM x14 c2 false false)>>=fun r17=>
 ((gC r17.1 r17.2)>>=fun o18=>
 (match o18 with
 | .ret r18=>some (.ret ((none:Option Nat),c12))
 | .nx p23=>some (.nx p23))))
theorem kP: ∀(s1:aC)(c2:Str)(c4:Int)(c5:Int)(r6:aC)(x13:Int)(x14:aC)(c12:(List<|List Int))(r:(Ctl ((Option Nat)×(List<|List Int)) Pan)),fX s1 c2 c4 c5 r6 x13 x14 c12=some r→ ∀(s:ASt)(ε7:Env)(κ9:Nat)(ℓ8:Nat)(β1:Nat)(or0_1:AV),Kn s [(ℓ8,.loop ⟨eA none,bD none,bB ε7 [(2,(.aF (.ptr β1 0) 0)),(3,(.aF (aA s1) 0)),(7,(.func 168 [] [(.aF (aA r6) 0)]))],κ9,[8,9],Code.e5,Code.fI⟩),(β1,.cells [(.str c2),or0_1,(.i c4),(.i c5)] true)] [(or0_1,1,(c12.map<|aU 1<|AV.i))]→Fc PP (.yield ℓ8) [(.i x13),(aA x14)] s (wZ r (fun q=>lV s [ℓ8,β1] (cL [(or0_1,1,(c12.map<|aU 1<|AV.i))]) (.bool q.1.isNone) (fun a:AV=> [(ℓ8,.loop ⟨eA q.1,bD q.1,bB ε7 [(2,(.aF (.ptr β1 0) 0)),(3,(.aF (aA s1) 0)),(7,(.func 168 [] [(.aF (aA r6) 0)]))],κ9,[8,9],Code.e5,Code.fI⟩),(β1,.cells [(.str c2),a,(.i c4),(.i c5)] true)]) (fun a:AV=> [(a,1,(q.2.map<|aU 1<|AV.i))]) (fun a:AV=>True))<|fun p=>u4 s [ℓ8,β1] (cL [(or0_1,1,(c12.map<|aU 1<|AV.i))]) (nX p)):=by
 intro s1 c2 c4 c5 r6 x13 x14 c12 r u;unfold fX at u;intro s ε7 κ9 ℓ8 β1 or0_1 hK;refine aEP r (b:=fun q:((Option Nat)×(List<|List Int))=>q.1.isNone) (bs:=fun(q:((Option Nat)×(List<|List Int)))=>(fun a:AV=> [(ℓ8,.loop ⟨eA q.1,bD q.1,bB ε7 [(2,(.aF (.ptr β1 0) 0)),(3,(.aF (aA s1) 0)),(7,(.func 168 [] [(.aF (aA r6) 0)]))],κ9,[8,9],Code.e5,Code.fI⟩),(β1,.cells [(.str c2),a,(.i c4),(.i c5)] true)])) (gs:=fun(q:((Option Nat)×(List<|List Int)))=>(fun a:AV=> [(a,1,(q.2.map<|aU 1<|AV.i))])) (fs:=fun(q:((Option Nat)×(List<|List Int)))=>(fun a:AV=>True)) rfl ?_;refine wB (lp:=⟨.ready,none,bB ε7 [(2,(.aF (.ptr β1 0) 0)),(3,(.aF (aA s1) 0)),(7,(.func 168 [] [(.aF (aA r6) 0)]))],κ9,[8,9],Code.e5,Code.fI⟩) (hK.b _<|.head _) rfl rfl ?_;have J:=hK.st;refine aE<|wu rfl<|wu rfl<|aB ?_;obtain⟨σ15,hr16,J⟩:=J.iS 0 rfl rfl;refine⟨rfl,rfl,σ15,hr16,?_⟩;refine aQ<|aE<|wu rfl<|wu rfl<|wu rfl<|wu rfl<|j1 1 rfl J rfl rfl rfl ?_;obtain⟨r17,h17,u⟩:=bs u;refine wcD (gO h17) rfl rfl (.cons rfl<|.cons rfl<|.cons rfl<|.cons rfl .nil)<|wu rfl<|wu rfl ?_;obtain⟨o18,ho18,u⟩:=bs u;rcases o18 with r18|p23
 ·refine cA rfl (bs1:= []) (bs2:= [(ℓ8,.loop ⟨.busy,none,bB ε7 [(2,(.aF (.ptr β1 0) 0)),(3,(.aF (aA s1) 0)),(7,(.func 168 [] [(.aF (aA r6) 0)]))],κ9,[8,9],Code.e5,Code.fI⟩),(β1,.cells [(.str c2),or0_1,(.i c4),(.i c5)] true)]) (gs1:= []) (gs2:= [(or0_1,1,(c12.map<|aU 1<|AV.i))]) rfl J (fun hK=>cP _ _ _ ho18 _ hK) rfl rfl (fun _=>rfl) rfl (by exact(.cons rfl<|.cons rfl .nil)) rfl<|fun σ19 a20 hF J=> ?_;refine aB ?_;cases u;obtain⟨σ25,hs26,J⟩:=J.dW 0 rfl (fun lp=>{lp with st:= .ready,pend:=none});have J:=J.aM 1 rfl;have J:=J.aM 1 rfl;exact⟨rfl,σ25,hs26,rfl,or0_1,trivial,J⟩
 ·refine gS (bs1:= []) (bs2:= [(ℓ8,.loop ⟨.busy,none,bB ε7 [(2,(.aF (.ptr β1 0) 0)),(3,(.aF (aA s1) 0)),(7,(.func 168 [] [(.aF (aA r6) 0)]))],κ9,[8,9],Code.e5,Code.fI⟩),(β1,.cells [(.str c2),or0_1,(.i c4),(.i c5)] true)]) (gs1:= []) (gs2:= [(or0_1,1,(c12.map<|aU 1<|AV.i))]) rfl J (fun hK=>cP _ _ _ ho18 _ hK) rfl rfl rfl (by exact(.cons rfl<|.cons rfl .nil)) rfl<|fun σ24 J=> ?_;cases u;exact⟨rfl,rfl,J.ext⟩
noncomputable def bQ(s1:aC)(c2:Str)(c4:Int)(c5:Int)(r6:aC)(c12:(List<|List Int))(x1027:Int)(c1028:(Option Nat))(c1029:(List<|List Int)):Option (Ctl ((Option Nat)×(List<|List Int))<|Ctl Pan<|(Option Nat)×(List<|List Int)):=
 (if(decide (x1027<(IntKind.wrap .i64 ((r6.expr.l.length:Int)+(r6.expr.aO.length:Int)))))=true then((aX r6 x1027)>>=fun r1030=>
 (if(c1028==(none:Option Nat))=true then((fX s1 c2 c4 c5 r6 x1027 r1030 c1029)>>=fun o1031=>
 (match o1031 with
 | .ret r1031=>(if(!r1031.1.isNone)=true then some (.ret (r1031.1,r1031.2))
 else bQ (nf s1) (nf c2) (nf c4) (nf c5) (nf r6) (nf c12) (IntKind.wrap .i64 (x1027+(1))) r1031.1 r1031.2)
 | .nx p1034=>some (.nx (.ret p1034))))
 else none))
 else some (.nx (.nx (c1028,c1029))))
 partial_fixpoint
abbrev j2(s1:aC)(c2:Str)(c4:Int)(c5:Int)(r6:aC)(c12:(List<|List Int))(x1027:Int)(c1028:(Option Nat))(c1029:(List<|List Int))(o:(Ctl ((Option Nat)×(List<|List Int))<|Ctl Pan<|(Option Nat)×(List<|List Int))):Prop:= ∀(e:Env)(s sv:ASt)(ε7:Env)(κ9:Nat)(or0_1:AV)(ℓ8:Nat)(β1:Nat)(ow0_1:AV),St [ℓ8,β1] (cL [(or0_1,1,(c12.map<|aU 1<|AV.i))]) s sv [(ℓ8,.loop ⟨eA c1028,bD c1028,bB ε7 [(2,(.aF (.ptr β1 0) 0)),(3,(.aF (aA s1) 0)),(7,(.func 168 [] [(.aF (aA r6) 0)]))],κ9,[8,9],Code.e5,Code.fI⟩),(β1,.cells [(.str c2),ow0_1,(.i c4),(.i c5)] true)] [(ow0_1,1,(c1029.map<|aU 1<|AV.i))]→Wk PP none Code.aAo ⟨bB e [(0,(.yield ℓ8)),(1,(.aF (aA r6) 0)),(12,(.i<|IntKind.wrap .i64<|(r6.expr.l.length:Int)+(r6.expr.aO.length:Int))),(13,(.i x1027))],[]⟩ sv (fun ex fr s'=>(match o with| .ret oq0=>ex= .ret∧rP PP Code.aFN (VQ (.tuple [])<|RX s [ℓ8,β1] (cL [(or0_1,1,(c12.map<|aU 1<|AV.i))]) (fun a:AV=> [(ℓ8,.loop ⟨eA oq0.1,bD oq0.1,bB ε7 [(2,(.aF (.ptr β1 0) 0)),(3,(.aF (aA s1) 0)),(7,(.func 168 [] [(.aF (aA r6) 0)]))],κ9,[8,9],Code.e5,Code.fI⟩),(β1,.cells [(.str c2),a,(.i c4),(.i c5)] true)]) (fun a:AV=> [(a,1,(oq0.2.map<|aU 1<|AV.i))]) (fun a:AV=>True)) ex fr s'| .nx oq1=>(match oq1 with| .ret oq2=>aK6 (nX oq2) (Ext [ℓ8,β1] (cL [(or0_1,1,(c12.map<|aU 1<|AV.i))]) s) ex fr s'| .nx oq3=>ex= .exit 0∧ ∃(pw1:AV)(e:Env),fr=⟨bB e [],[]⟩∧St [ℓ8,β1] (cL [(or0_1,1,(c12.map<|aU 1<|AV.i))]) s s' [(ℓ8,.loop ⟨eA oq3.1,bD oq3.1,bB ε7 [(2,(.aF (.ptr β1 0) 0)),(3,(.aF (aA s1) 0)),(7,(.func 168 [] [(.aF (aA r6) 0)]))],κ9,[8,9],Code.e5,Code.fI⟩),(β1,.cells [(.str c2),pw1,(.i c4),(.i c5)] true)] [(pw1,1,(oq3.2.map<|aU 1<|AV.i))])))
theorem oR: ∀(s1:aC)(c2:Str)(c4:Int)(c5:Int)(r6:aC)(c12:(List<|List Int))(x1027:Int)(c1028:(Option Nat))(c1029:(List<|List Int))(o:(Ctl ((Option Nat)×(List<|List Int))<|Ctl Pan<|(Option Nat)×(List<|List Int))),bQ s1 c2 c4 c5 r6 c12 x1027 c1028 c1029=some o→j2 s1 c2 c4 c5 r6 c12 x1027 c1028 c1029 o:=by
 refine bQ.partial_correctness (j2) ?_;intro _f ih_linear_clause_site_s0_i0_l0 s1 c2 c4 c5 r6 c12 x1027 c1028 c1029 o u;intro e s sv ε7 κ9 or0_1 ℓ8 β1 ow0_1 J;refine dC<|aD<|aE<|wu rfl<|aB<|aD ?_;refine aH u rfl (fun hc u=> ?_)<|fun hc u=> ?_
 ·refine aN<|aD<|aQ<|aD<|aE<|wu rfl<|wu rfl<|aB<|aD<|aE<|wu rfl<|wu rfl<|wu rfl<|wu rfl ?_;obtain⟨r1030,h1030,u⟩:=bs u;refine wcD (bR h1030) rfl rfl (.cons rfl<|.cons rfl .nil) ?_;rcases Bool.eq_false_or_eq_true (c1028==(none:Option Nat)) with hc|hc
  ·replace u:=bP hc u;have J:=J.yZ (b1:= .loop ⟨eA none,bD none,bB ε7 [(2,(.aF (.ptr β1 0) 0)),(3,(.aF (aA s1) 0)),(7,(.func 168 [] [(.aF (aA r6) 0)]))],κ9,[8,9],Code.e5,Code.fI⟩) 0 rfl (by rw [eq_of_beq hc]);obtain⟨o1031,h1031,u⟩:=bs u;have J:=J.aM 1 rfl;have J:=J.aM 1 rfl;rcases o1031 with r1031|p1034
   ·refine cA rfl (bs1:= [(ℓ8,.loop ⟨eA none,bD none,bB ε7 [(2,(.aF (.ptr β1 0) 0)),(3,(.aF (aA s1) 0)),(7,(.func 168 [] [(.aF (aA r6) 0)]))],κ9,[8,9],Code.e5,Code.fI⟩),(β1,.cells [(.str c2),ow0_1,(.i c4),(.i c5)] true)]) (bs2:= []) (gs1:= [(ow0_1,1,(c1029.map<|aU 1<|AV.i))]) (gs2:= []) rfl J (fun hK=>kP _ _ _ _ _ _ _ _ _ h1031 _ ε7 κ9 ℓ8 β1 ow0_1 hK) rfl rfl (fun _=>rfl) rfl (by exact(.cons rfl<|.cons rfl .nil)) rfl<|fun σ1032 a1033 hF J=> ?_;refine wu rfl<|aB ?_;refine aH u rfl (fun hc u=> ?_)<|fun hc u=> ?_
    ·refine aL ?_;cases u;have J:=J.aM 1 rfl;have J:=J.aM 1 rfl;exact⟨rfl,⟨rfl,_,fun _=>rfl,gJ rfl ⟨a1033,trivial,J⟩⟩⟩
    ·refine aN<|aE<|wu rfl<|wu rfl<|aB ?_;have J:=J.aM 1 rfl;have J:=J.aM 1 rfl;exact eL (fun e=>ih_linear_clause_site_s0_i0_l0 _ _ _ _ _ _ _ _ _ _ u e s _ ε7 κ9 or0_1 ℓ8 β1 a1033 J) (.cons rfl<|.cons rfl<|.cons rfl<|.cons rfl .nil)<|fun _ _ _ h=>h
   ·refine gS (bs1:= [(ℓ8,.loop ⟨eA none,bD none,bB ε7 [(2,(.aF (.ptr β1 0) 0)),(3,(.aF (aA s1) 0)),(7,(.func 168 [] [(.aF (aA r6) 0)]))],κ9,[8,9],Code.e5,Code.fI⟩),(β1,.cells [(.str c2),ow0_1,(.i c4),(.i c5)] true)]) (bs2:= []) (gs1:= [(ow0_1,1,(c1029.map<|aU 1<|AV.i))]) (gs2:= []) rfl J (fun hK=>kP _ _ _ _ _ _ _ _ _ h1031 _ ε7 κ9 ℓ8 β1 ow0_1 hK) rfl rfl rfl (by exact(.cons rfl<|.cons rfl .nil)) rfl<|fun σ1035 J=> ?_;cases u;exact⟨rfl,_,fun _=>rfl,J.ext⟩
  ·replace u:=bO hc u;cases u
 ·refine dR ?_;cases u;have J:=J.aM 1 rfl;have J:=J.aM 1 rfl;exact⟨rfl,ow0_1,_,frE .nil,J⟩
noncomputable def fY(s1:aC)(c2:Str)(c4:Int)(c5:Int)(r6:aC)(c12:(List<|List Int)):Option (Ctl ((Option Nat)×(List<|List Int)) Pan):=
 ((bQ s1 c2 c4 c5 r6 c12 (0) none c12)>>=fun o1036=>
 (match o1036 with
 | .ret q1037=>some (.ret q1037)
 | .nx q1038=>(match q1038 with
 | .ret q1039=>some (.nx q1039)
 | .nx q1040=>some (.ret (q1040.1,q1040.2)))))
theorem kT: ∀(s1:aC)(c2:Str)(c4:Int)(c5:Int)(r6:aC)(c12:(List<|List Int))(r:(Ctl ((Option Nat)×(List<|List Int)) Pan)),fY s1 c2 c4 c5 r6 c12=some r→ ∀(s:ASt)(ε7:Env)(κ9:Nat)(ℓ8:Nat)(β1:Nat)(or0_1:AV),Kn s [(ℓ8,.loop ⟨eA none,bD none,bB ε7 [(2,(.aF (.ptr β1 0) 0)),(3,(.aF (aA s1) 0)),(7,(.func 168 [] [(.aF (aA r6) 0)]))],κ9,[8,9],Code.e5,Code.fI⟩),(β1,.cells [(.str c2),or0_1,(.i c4),(.i c5)] true)] [(or0_1,1,(c12.map<|aU 1<|AV.i))]→Fc PP (.func 168) [(.yield ℓ8),(.aF (aA r6) 0)] s (wZ r (fun q=>lV s [ℓ8,β1] (cL [(or0_1,1,(c12.map<|aU 1<|AV.i))]) (.tuple []) (fun a:AV=> [(ℓ8,.loop ⟨eA q.1,bD q.1,bB ε7 [(2,(.aF (.ptr β1 0) 0)),(3,(.aF (aA s1) 0)),(7,(.func 168 [] [(.aF (aA r6) 0)]))],κ9,[8,9],Code.e5,Code.fI⟩),(β1,.cells [(.str c2),a,(.i c4),(.i c5)] true)]) (fun a:AV=> [(a,1,(q.2.map<|aU 1<|AV.i))]) (fun a:AV=>True))<|fun p=>u4 s [ℓ8,β1] (cL [(or0_1,1,(c12.map<|aU 1<|AV.i))]) (nX p)):=by
 intro s1 c2 c4 c5 r6 c12 r u;unfold fY at u;intro s ε7 κ9 ℓ8 β1 or0_1 hK;refine sR r (v:=fun q:((Option Nat)×(List<|List Int))=>(.tuple [])) (bs:=fun(q:((Option Nat)×(List<|List Int)))=>(fun a:AV=> [(ℓ8,.loop ⟨eA q.1,bD q.1,bB ε7 [(2,(.aF (.ptr β1 0) 0)),(3,(.aF (aA s1) 0)),(7,(.func 168 [] [(.aF (aA r6) 0)]))],κ9,[8,9],Code.e5,Code.fI⟩),(β1,.cells [(.str c2),a,(.i c4),(.i c5)] true)])) (gs:=fun(q:((Option Nat)×(List<|List Int)))=>(fun a:AV=> [(a,1,(q.2.map<|aU 1<|AV.i))])) (fs:=fun(q:((Option Nat)×(List<|List Int)))=>(fun a:AV=>True)) hK (fun _ _=>rfl) (fun _ a q hq=>by
  simp only [List.mem_cons,List.not_mem_nil,or_false] at hq;subst hq;exact⟨_,(.tail _ (.head _)),_,_,rfl,(.tail _ (.head _))⟩) rfl rfl rfl ?_
 have J:=hK.start;generalize aT s=σ1 at J⊢;refine aD<|aE<|wu rfl<|wu rfl<|wu rfl<|cG (f:=aP) (l:=r6.expr.l) rfl (.no _)<|wu rfl<|wu rfl<|wu rfl<|cG (f:=aZ) (l:=r6.expr.aO) rfl (.no _)<|wu rfl<|wu rfl<|aB<|aQ ?_;obtain⟨o1036,h1036,u⟩:=bs u;have J:=J.aM 1 rfl;have J:=J.aM 1 rfl;refine eL (fun e=>oR _ _ _ _ _ _ _ _ _ _ h1036 e s _ ε7 κ9 or0_1 ℓ8 β1 or0_1 J) (.cons rfl<|.cons rfl<|.cons rfl<|.cons rfl .nil) ?_
 rintro _ _ _ hq
 rcases o1036 with q1037|q1038
 ·obtain⟨rfl,hq⟩:=hq;cases u;exact hq
 ·rcases q1038 with q1039|q1040
  ·obtain⟨rfl,hq⟩:=hq;cases u;exact⟨rfl,hq⟩
  ·obtain⟨rfl,w1041_1,e1042,rfl,J⟩:=hq;cases u;have J:=J.aM 1 rfl;have J:=J.aM 1 rfl;exact⟨rfl,_,fun _=>rfl,gJ rfl ⟨w1041_1,trivial,J⟩⟩
noncomputable def eE(s1:aC)(c2:Str)(c3:(List<|List Int))(c4:Int)(c5:Int):Option (Ctl ((List<|List Int)×Int×Int) Pan):=
 ((bA s1)>>=fun r6=>
 ((fY s1 c2 c4 c5 r6 c3)>>=fun o27=>
 (match o27 with
 | .ret r27=>(if(r27.1==(none:Option Nat))=true then((app 24 r27.2 [s1.path])>>=fun l30=>
 (if(s1.expr.kind==(18))=true then some (.ret (l30,(IntKind.wrap .i64 (c4+(1))),c5))
 else some (.ret (l30,c4,(IntKind.wrap .i64 (c5+(1)))))))
 else none)
 | .nx p40=>some (.nx p40))))
theorem gA: ∀(s1:aC)(c2:Str)(c3:(List<|List Int))(c4:Int)(c5:Int)(r:(Ctl ((List<|List Int)×Int×Int) Pan)),eE s1 c2 c3 c4 c5=some r→ ∀(s:ASt)(β1:Nat)(ρ1:AV),Kn s [(β1,.cells [(.str c2),ρ1,(.i c4),(.i c5)] true)] [(ρ1,1,(c3.map<|aU 1<|AV.i))]→Fc PP (.func 119) [(.ptr β1 0),(aA s1)] s (wZ r (fun q=>lV s [β1] (cL [(ρ1,1,(c3.map<|aU 1<|AV.i))]) (.tuple []) (fun a:AV=> [(β1,.cells [(.str c2),a,(.i q.2.1),(.i q.2.2)] true)]) (fun a:AV=> [(a,1,(q.1.map<|aU 1<|AV.i))]) (fun a:AV=>True))<|fun p=>u4 s [β1] (cL [(ρ1,1,(c3.map<|aU 1<|AV.i))]) (nX p)):=by
 intro s1 c2 c3 c4 c5 r u;unfold eE at u;intro s β1 ρ1 hK;refine sR r (v:=fun q:((List<|List Int)×Int×Int)=>(.tuple [])) (bs:=fun(q:((List<|List Int)×Int×Int))=>(fun a:AV=> [(β1,.cells [(.str c2),a,(.i q.2.1),(.i q.2.2)] true)])) (gs:=fun(q:((List<|List Int)×Int×Int))=>(fun a:AV=> [(a,1,(q.1.map<|aU 1<|AV.i))])) (fs:=fun(q:((List<|List Int)×Int×Int))=>(fun a:AV=>True)) hK (fun _ _=>rfl) (fun _ a q hq=>by
  simp only [List.mem_cons,List.not_mem_nil,or_false] at hq;subst hq;exact⟨_,(.head _),_,_,rfl,(.tail _ (.head _))⟩) rfl rfl rfl ?_
 have J:=hK.start;generalize aT s=σ1 at J⊢;refine aD<|aE<|wu rfl<|wu rfl<|aB<|aD<|aD<|aE<|wu rfl ?_;obtain⟨r6,hr6,u⟩:=bs u;refine wcD (gD hr6) rfl rfl (.cons rfl .nil)<|aB<|aQ ?_;refine aCF (S:= [(2,(.aF (.ptr β1 0) 0)),(3,(.aF (aA s1) 0)),(7,(.func 168 [] [(.aF (aA r6) 0)]))]) (.cons rfl<|.cons rfl<|.cons rfl .nil)<|fun ε7=> ?_;obtain⟨κ9,ℓ8,σ10,hl11,J⟩:=vN (params:= [8,9]) (assign:=Code.e5) (body:=Code.fI) (fr:=⟨bB ε7 [(2,(.aF (.ptr β1 0) 0)),(3,(.aF (aA s1) 0)),(7,(.func 168 [] [(.aF (aA r6) 0)]))],[]⟩) J;refine wC hl11 rfl rfl ?_;obtain⟨o27,h27,u⟩:=bs u;have J:=J.aM 2 rfl;have J:=J.aM 1 rfl;rcases o27 with r27|p40
 ·rcases Bool.eq_false_or_eq_true (r27.1==(none:Option Nat)) with hc|hc
  ·replace u:=bP hc u;refine oO (bs1:= [(ℓ8,.loop ⟨eA none,bD none,bB ε7 [(2,(.aF (.ptr β1 0) 0)),(3,(.aF (aA s1) 0)),(7,(.func 168 [] [(.aF (aA r6) 0)]))],κ9,[8,9],Code.e5,Code.fI⟩),(β1,.cells [(.str c2),ρ1,(.i c4),(.i c5)] true)]) (bs2:= [(κ9,.qZ)]) (gs1:= [(ρ1,1,(c3.map<|aU 1<|AV.i))]) (gs2:= []) (pd:=r27.1) (ex:= .normal) J (fun hK=>kT _ _ _ _ _ _ _ h27 _ ε7 κ9 ℓ8 β1 ρ1 hK) rfl rfl (fun _=>rfl) (by rw [eq_of_beq hc];rfl)<|fun σ28 a29 hF J=> ?_;refine aD<|aE<|wu rfl<|wu rfl<|wu rfl<|wu rfl<|j1 0 rfl J rfl rfl rfl<|wu rfl<|wu rfl ?_;refine aJQ (f:=(aU 1<|AV.i)) (l:= [s1.path]) rfl (.cons rfl .nil) rfl (fun _=>rfl) rfl rfl (by decide) ?_;obtain⟨l30,h30,u⟩:=bs u;have h32:=(J.slG 0 rfl)
   refine aIG (f:=(aU 1<|AV.i)) (xs:=r27.2) (ys:= [s1.path]) rfl J rfl (.full<|.inl rfl) h30 (by decide)<|fun w30 σ31 J=> ?_;refine wu rfl<|wu rfl ?_;refine bV (ds':= [w30]) (cs':= [(.str c2),w30,(.i c4),(.i c5)]) 0 rfl J rfl rfl ((J.slG 0 rfl)).cells ((J.slG 0 rfl)).box rfl (Nat.le_of_ble_eq_true rfl) (.cons (J.tkG 0 rfl) .nil) (by kernel_rfl)<|fun σ33 J=> ?_;refine aB<|aD<|aE<|wu rfl<|wu rfl<|wu rfl<|wu rfl<|aB ?_;refine aH u rfl (fun hc u=> ?_)<|fun hc u=> ?_
   ·refine aE<|wu rfl<|wu rfl<|wu rfl<|wu rfl<|j1 0 rfl J rfl rfl rfl<|wu rfl<|wu rfl<|wu rfl<|wu rfl ?_;refine bV (ds':= [(.i<|IntKind.wrap .i64<|c4+(1))]) (cs':= [(.str c2),w30,(.i<|IntKind.wrap .i64<|c4+(1)),(.i c5)]) 0 rfl J rfl rfl rfl rfl rfl (Nat.le_of_ble_eq_true rfl) (.cons (tkN rfl) .nil) (by kernel_rfl)<|fun σ34 J=> ?_;refine aB ?_;cases u;obtain⟨σ35,J,h36⟩:=J.mark 1 rfl;exact⟨rfl,σ35,(h36<|fun _=>rfl),gJ rfl ⟨w30,trivial,(J.tJ 1)⟩⟩
   ·refine aE<|wu rfl<|wu rfl<|wu rfl<|wu rfl<|j1 0 rfl J rfl rfl rfl<|wu rfl<|wu rfl<|wu rfl<|wu rfl ?_;refine bV (ds':= [(.i<|IntKind.wrap .i64<|c5+(1))]) (cs':= [(.str c2),w30,(.i c4),(.i<|IntKind.wrap .i64<|c5+(1))]) 0 rfl J rfl rfl rfl rfl rfl (Nat.le_of_ble_eq_true rfl) (.cons (tkN rfl) .nil) (by kernel_rfl)<|fun σ37 J=> ?_;refine aB ?_;cases u;obtain⟨σ38,J,h39⟩:=J.mark 1 rfl;exact⟨rfl,σ38,(h39<|fun _=>rfl),gJ rfl ⟨w30,trivial,(J.tJ 1)⟩⟩
  ·replace u:=bO hc u;cases u
 ·refine aAb (bs1:= [(ℓ8,.loop ⟨eA none,bD none,bB ε7 [(2,(.aF (.ptr β1 0) 0)),(3,(.aF (aA s1) 0)),(7,(.func 168 [] [(.aF (aA r6) 0)]))],κ9,[8,9],Code.e5,Code.fI⟩),(β1,.cells [(.str c2),ρ1,(.i c4),(.i c5)] true)]) (bs2:= [(κ9,.qZ)]) (gs1:= [(ρ1,1,(c3.map<|aU 1<|AV.i))]) (gs2:= []) J (fun hK=>kT _ _ _ _ _ _ _ h27 _ ε7 κ9 ℓ8 β1 ρ1 hK) rfl rfl<|fun σ41 J=> ?_;cases u;obtain⟨σ42,J,h43⟩:=J.mark 0 rfl;exact⟨rfl,σ42,(h43<|fun _=>rfl),J.ext⟩
noncomputable def dQ(s1:aC)(c2:Str)(c3:(List<|List Int))(c4:Int)(c5:Int):Option Bool:=
 ((if(s1.expr.kind==(18))=true then some true
 else some (s1.expr.kind==(19)):Option Bool)>>=fun c6=>
 ((if c6=true then some (s1.expr.s==c2)
 else some false:Option Bool)>>=fun c7=>
 some c7))
theorem lF: ∀(s1:aC)(c2:Str)(c3:(List<|List Int))(c4:Int)(c5:Int)(r:Bool),dQ s1 c2 c3 c4 c5=some r→ ∀(s:ASt)(β1:Nat)(ρ1:AV),Kn s [(β1,.cells [(.str c2),ρ1,(.i c4),(.i c5)] true)] [(ρ1,1,(c3.map<|aU 1<|AV.i))]→Fc PP (.func 118) [(.ptr β1 0),(aA s1)] s (lV s [β1] (cL [(ρ1,1,(c3.map<|aU 1<|AV.i))]) (.bool r) (fun a:AV=> [(β1,.cells [(.str c2),a,(.i c4),(.i c5)] true)]) (fun a:AV=> [(a,1,(c3.map<|aU 1<|AV.i))]) (fun a:AV=>True)):=by
 intro s1 c2 c3 c4 c5 r u;unfold dQ at u;intro s β1 ρ1 hK;refine pO hK (fun _=>rfl) (fun a q hq=>by
  simp only [List.mem_cons,List.not_mem_nil,or_false] at hq;subst hq;exact⟨_,(.head _),_,_,rfl,(.tail _ (.head _))⟩) rfl rfl rfl ?_
 have J:=hK.start;generalize aT s=σ1 at J⊢;refine aD<|aE<|wu rfl<|wu rfl<|aB<|aD<|aE<|wu rfl<|wu rfl<|wu rfl<|wu rfl<|wu rfl ?_;obtain⟨c6,hc6,u⟩:=bs u;refine bF 5 [(0,(.ptr β1 0)),(3,(.aF (aA s1) 0)),(14,(.bool c6))] σ1 ?_<|fun e=> ?_
 ·refine bE (t:=9) rfl (fun hc=> ?_)<|fun hc=> ?_
  ·replace hc6:=bP hc hc6;refine wu rfl<|wu rfl<|wu rfl<|wu rfl<|wu rfl<|aB ?_;cases hc6;exact Kept.mk rfl<|.cons rfl<|.cons rfl<|.cons rfl .nil
  ·replace hc6:=bO hc hc6;refine wu rfl<|wu rfl<|wu rfl<|wu rfl<|wu rfl<|aB ?_;cases hc6;exact Kept.mk rfl<|.cons rfl<|.cons rfl<|.cons rfl .nil
 ·refine wu rfl ?_;obtain⟨c7,hc7,u⟩:=bs u;refine bF 9 [(24,(.bool c7))] σ1 ?_<|fun e=> ?_
  ·refine bE (t:=15) rfl (fun hc=> ?_)<|fun hc=> ?_
   ·replace hc7:=bP hc hc7;refine wu rfl<|wu rfl<|wu rfl<|wu rfl<|wu rfl<|wu rfl<|j1 0 rfl J rfl rfl rfl<|wu rfl<|wu rfl<|aB ?_;cases hc7;exact Kept.mk rfl<|.cons rfl .nil
   ·replace hc7:=bO hc hc7;refine wu rfl<|wu rfl<|wu rfl<|wu rfl<|wu rfl<|wu rfl<|wu rfl<|wu rfl<|wu rfl<|aB ?_;cases hc7;exact Kept.mk rfl<|.cons rfl .nil
  ·refine wu rfl<|aB<|aL ?_;cases u;exact⟨rfl,_,fun _=>rfl,bK rfl rfl rfl rfl ⟨ρ1,trivial,J⟩⟩
noncomputable def gX(x1:aC)(x2:Str)(x3:(List<|List Int))(x4:Int)(x5:Int):Option ((List Int)×Bool):=
 ((cM x1 x2 false false)>>=fun r6=>
 some (r6.1,r6.2))
theorem rS: ∀(x1:aC)(x2:Str)(x3:(List<|List Int))(x4:Int)(x5:Int)(r:((List Int)×Bool)),gX x1 x2 x3 x4 x5=some r→ ∀(s:ASt)(β1:Nat)(ρ1:AV),Kn s [(β1,.cells [(.str x2),ρ1,(.i x4),(.i x5)] true)] [(ρ1,1,(x3.map<|aU 1<|AV.i))]→Fc PP (.func 172) [(.aF (aA x1) 0),(.aF (.ptr β1 0) 0)] s (lV s [β1] (cL [(ρ1,1,(x3.map<|aU 1<|AV.i))]) (.tuple [(slA 1<|r.1.map<|AV.i),(.bool r.2)]) (fun a:AV=> [(β1,.cells [(.str x2),a,(.i x4),(.i x5)] true)]) (fun a:AV=> [(a,1,(x3.map<|aU 1<|AV.i))]) (fun a:AV=>True)):=by
 intro x1 x2 x3 x4 x5 r u;unfold gX at u;intro s β1 ρ1 hK;refine pO hK (fun _=>rfl) (fun a q hq=>by
  simp only [List.mem_cons,List.not_mem_nil,or_false] at hq;subst hq;exact⟨_,(.head _),_,_,rfl,(.tail _ (.head _))⟩) rfl rfl rfl ?_
 have J:=hK.start;generalize aT s=σ1 at J⊢;refine aD<|aE<|wu rfl<|wu rfl<|aB<|aD<|aE<|wu rfl<|wu rfl<|wu rfl<|wu rfl<|j1 0 rfl J rfl rfl rfl ?_;obtain⟨r6,hr6,u⟩:=bs u;refine wcD (gO hr6) rfl rfl (.cons rfl<|.cons rfl<|.cons rfl<|.cons rfl .nil)<|wu rfl<|wu rfl<|wu rfl<|wu rfl<|aB<|aL ?_;cases u;exact⟨rfl,_,fun _=>rfl,fN rfl (.cons rfl<|.cons rfl .nil) ⟨ρ1,trivial,J⟩⟩
noncomputable def gW(x1:aC)(x2:Str)(x3:(List<|List Int))(x4:Int)(x5:Int):Option ((List Int)×Bool):=
 ((idx x1.expr.names (0))>>=fun y6=>
 some (x1.path,(y6==x2)))
theorem rT: ∀(x1:aC)(x2:Str)(x3:(List<|List Int))(x4:Int)(x5:Int)(r:((List Int)×Bool)),gW x1 x2 x3 x4 x5=some r→ ∀(s:ASt)(β1:Nat)(ρ1:AV),Kn s [(β1,.cells [(.str x2),ρ1,(.i x4),(.i x5)] true)] [(ρ1,1,(x3.map<|aU 1<|AV.i))]→Fc PP (.func 173) [(.aF (aA x1) 0),(.aF (.ptr β1 0) 0)] s (lV s [β1] (cL [(ρ1,1,(x3.map<|aU 1<|AV.i))]) (.tuple [(slA 1<|r.1.map<|AV.i),(.bool r.2)]) (fun a:AV=> [(β1,.cells [(.str x2),a,(.i x4),(.i x5)] true)]) (fun a:AV=> [(a,1,(x3.map<|aU 1<|AV.i))]) (fun a:AV=>True)):=by
 intro x1 x2 x3 x4 x5 r u;unfold gW at u;intro s β1 ρ1 hK;refine pO hK (fun _=>rfl) (fun a q hq=>by
  simp only [List.mem_cons,List.not_mem_nil,or_false] at hq;subst hq;exact⟨_,(.head _),_,_,rfl,(.tail _ (.head _))⟩) rfl rfl rfl ?_
 have J:=hK.start;generalize aT s=σ1 at J⊢;refine aD<|aE<|wu rfl<|wu rfl<|aB<|aD<|aE<|wu rfl<|wu rfl<|wu rfl<|wu rfl<|wu rfl ?_;obtain⟨y6,hy6,u⟩:=bs u;refine j5 (f:=AV.str) rfl (.no _) rfl hy6 rfl<|wu rfl<|wu rfl<|wu rfl<|wu rfl<|j1 0 rfl J rfl rfl rfl<|wu rfl<|wu rfl<|wu rfl<|aB<|aL ?_;cases u;exact⟨rfl,_,fun _=>rfl,fN rfl (.cons rfl<|.cons rfl .nil) ⟨ρ1,trivial,J⟩⟩
noncomputable def mF(l1:aC)(l2:aC)(l3:Str)(l4:(List<|List Int))(l5:Int)(l6:Int):Option ((List Int)×Bool):=
 ((gX l1 l3 l4 l5 l6)>>=fun r7=>
 (if r7.2=true then some (r7.1,true)
 else((gW l2 l3 l4 l5 l6)>>=fun r12=>
 (if r12.2=true then some (r12.1,true)
 else some (([]:(List Int)),false)))))
theorem xR: ∀(l1:aC)(l2:aC)(l3:Str)(l4:(List<|List Int))(l5:Int)(l6:Int)(r:((List Int)×Bool)),mF l1 l2 l3 l4 l5 l6=some r→ ∀(s:ASt)(β1:Nat)(ρ1:AV),Kn s [(β1,.cells [(.str l3),ρ1,(.i l5),(.i l6)] true)] [(ρ1,1,(l4.map<|aU 1<|AV.i))]→Fc PP (.func 171) [(slA 1 [(.func 172 [] [(.aF (aA l1) 0),(.aF (.ptr β1 0) 0)]),(.func 173 [] [(.aF (aA l2) 0),(.aF (.ptr β1 0) 0)])])] s (lV s [β1] (cL [(ρ1,1,(l4.map<|aU 1<|AV.i))]) (.tuple [(slA 1<|r.1.map<|AV.i),(.bool r.2)]) (fun a:AV=> [(β1,.cells [(.str l3),a,(.i l5),(.i l6)] true)]) (fun a:AV=> [(a,1,(l4.map<|aU 1<|AV.i))]) (fun a:AV=>True)):=by
 intro l1 l2 l3 l4 l5 l6 r u;unfold mF at u;intro s β1 ρ1 hK;refine pO hK (fun _=>rfl) (fun a q hq=>by
  simp only [List.mem_cons,List.not_mem_nil,or_false] at hq;subst hq;exact⟨_,(.head _),_,_,rfl,(.tail _ (.head _))⟩) rfl rfl rfl ?_
 have J:=hK.start;generalize aT s=σ1 at J⊢;refine aD<|aE<|wu rfl<|wu rfl<|aB<|aD<|aD<|aE<|wu rfl ?_;refine wgv (v:=(.i<|2)) rfl rfl (by kernel_rfl) ?_;refine wu rfl<|aB<|aQ<|dC<|aD<|aE ?_;refine wgv (v:=(.bool true)) rfl rfl (by kernel_rfl) ?_;refine aB<|aD<|aC7 rfl<|aN<|aD<|aQ<|aD<|aE ?_;refine wgv (v:=(.aF (.func 172 [] [(.aF (aA l1) 0),(.aF (.ptr β1 0) 0)]) 0)) rfl rfl (by kernel_rfl) ?_;refine wu rfl<|wu rfl<|aB<|aD<|aE<|wu rfl ?_;obtain⟨r7,hr7,u⟩:=bs u;refine cA rfl (bs1:= [(β1,.cells [(.str l3),ρ1,(.i l5),(.i l6)] true)]) (bs2:= []) (gs1:= [(ρ1,1,(l4.map<|aU 1<|AV.i))]) (gs2:= []) rfl J (fun hK=>rS _ _ _ _ _ _ hr7 _ β1 ρ1 hK) rfl rfl (fun _=>rfl) rfl (by exact .nil) rfl<|fun σ8 a9 hF J=> ?_;refine wu rfl<|wu rfl<|wu rfl<|wu rfl<|wu rfl<|aB<|aD<|aE<|wu rfl<|aB ?_;refine aH u rfl (fun hc u=> ?_)<|fun hc u=> ?_
 ·refine aD<|aE<|wu rfl<|wu rfl<|wu rfl<|aB<|aL ?_;cases u;exact⟨rfl,_,fun _=>rfl,fN rfl (.cons rfl<|.cons rfl .nil) ⟨a9,trivial,J⟩⟩
 ·refine aN<|aE ?_;refine wgv (v:=(.i<|1)) rfl rfl (by kernel_rfl) ?_;refine wu rfl<|aB<|dC<|aD<|aE ?_;refine wgv (v:=(.bool true)) rfl rfl (by kernel_rfl) ?_;refine aB<|aD<|aC7 rfl<|aN<|aD<|aQ<|aD<|aE ?_;refine wgv (v:=(.aF (.func 173 [] [(.aF (aA l2) 0),(.aF (.ptr β1 0) 0)]) 0)) rfl rfl (by kernel_rfl) ?_;refine wu rfl<|wu rfl<|aB<|aD<|aE<|wu rfl ?_;obtain⟨r12,h12,u⟩:=bs u;refine cA rfl (bs1:= [(β1,.cells [(.str l3),a9,(.i l5),(.i l6)] true)]) (bs2:= []) (gs1:= [(a9,1,(l4.map<|aU 1<|AV.i))]) (gs2:= []) rfl J (fun hK=>rT _ _ _ _ _ _ h12 _ β1 a9 hK) rfl rfl (fun _=>rfl) rfl (by exact .nil) rfl<|fun σ13 a14 hF J=> ?_;refine wu rfl<|wu rfl<|wu rfl<|wu rfl<|wu rfl<|aB<|aD<|aE<|wu rfl<|aB ?_;refine aH u rfl (fun hc u=> ?_)<|fun hc u=> ?_
  ·refine aD<|aE<|wu rfl<|wu rfl<|wu rfl<|aB<|aL ?_;cases u;exact⟨rfl,_,fun _=>rfl,fN rfl (.cons rfl<|.cons rfl .nil) ⟨a14,trivial,J⟩⟩
  ·refine aN<|aE ?_;refine wgv (v:=(.i<|2)) rfl rfl (by kernel_rfl) ?_;refine wu rfl<|aB<|dC<|aD<|aE ?_;refine wgv (v:=(.bool false)) rfl rfl (by kernel_rfl) ?_;refine aB<|aD<|aAw rfl<|dR<|aD<|aE<|wu rfl<|aB<|aD<|aE<|wu rfl<|wu rfl<|wu rfl<|aB ?_;refine aL ?_;cases u;exact⟨rfl,_,fun _=>rfl,fN rfl (.cons rfl<|.cons rfl .nil) ⟨a14,trivial,J⟩⟩
mutual
noncomputable def dB (s1:aC) (c2:Str) (c3:(List<|List Int)) (c4:Int) (c5:Int):Option (Ctl ((List<|List Int)×Int×Int) Pan):=
 ((aX s1 (0))>>=fun r6=>
 ((bW (nf r6) (nf c2) (nf c3) (nf c4) (nf c5))>>=fun or7=>
 (match or7 with
 | .ret r7=>((bA s1)>>=fun r14=>
 ((eY s1 c2 r7 r14 r7.1)>>=fun o39=>
 (match o39 with
 | .ret r39=>(if(r39.1==(none:Option Nat))=true then some (.ret (r39.2,r7.2.1,r7.2.2))
 else none)
 | .nx p44=>some (.nx p44))))
 | .nx p12=>some (.nx p12))))
 partial_fixpoint
noncomputable def bW (s1:aC) (c2:Str) (c3:(List<|List Int)) (c4:Int) (c5:Int):Option (Ctl ((List<|List Int)×Int×Int) Pan):=
 ((dQ s1 c2 c3 c4 c5)>>=fun r6=>
 (if r6=true then((eE s1 c2 c3 c4 c5)>>=fun o11=>
 (match o11 with
 | .ret r11=>some (.ret (r11.1,r11.2.1,r11.2.2))
 | .nx p16=>some (.nx p16)))
 else(if(s1.expr.kind==(6))=true then((iQ (nf s1) (nf c2) (nf c3) (nf c4) (nf c5))>>=fun o26=>
 (match o26 with
 | .ret r26=>some (.ret (r26.1,r26.2.1,r26.2.2))
 | .nx p31=>some (.nx p31)))
 else(if(s1.expr.kind==(8))=true then((gF (nf s1) (nf c2) (nf c3) (nf c4) (nf c5))>>=fun o34=>
 (match o34 with
 | .ret r34=>some (.ret (r34.1,r34.2.1,r34.2.2))
 | .nx p39=>some (.nx p39)))
 else(if(s1.expr.kind==(11))=true then((gV (nf s1) (nf c2) (nf c3) (nf c4) (nf c5))>>=fun o42=>
 (match o42 with
 | .ret r42=>some (.ret (r42.1,r42.2.1,r42.2.2))
 | .nx p47=>some (.nx p47)))
 else(if(s1.expr.kind==(14))=true then((dB (nf s1) (nf c2) (nf c3) (nf c4) (nf c5))>>=fun o50=>
 (match o50 with
 | .ret r50=>some (.ret (r50.1,r50.2.1,r50.2.2))
 | .nx p55=>some (.nx p55)))
 else(if(s1.expr.kind==(15))=true then((dB (nf s1) (nf c2) (nf c3) (nf c4) (nf c5))>>=fun o58=>
 (match o58 with
 | .ret r58=>some (.ret (r58.1,r58.2.1,r58.2.2))
 | .nx p63=>some (.nx p63)))
 else(if(s1.expr.kind==(16))=true then((dB (nf s1) (nf c2) (nf c3) (nf c4) (nf c5))>>=fun o66=>
 (match o66 with
 | .ret r66=>some (.ret (r66.1,r66.2.1,r66.2.2))
 | .nx p71=>some (.nx p71)))
 else some (.nx (.wV (j3.mk s1.path)))))))))))
 partial_fixpoint
noncomputable def gV (s1:aC) (c2:Str) (c3:(List<|List Int)) (c4:Int) (c5:Int):Option (Ctl ((List<|List Int)×Int×Int) Pan):=
 ((aX s1 (0))>>=fun r6=>
 ((cM r6 c2 false false)>>=fun r7=>
 ((gC r7.1 r7.2)>>=fun or8=>
 (match or8 with
 | .ret r8=>((bA s1)>>=fun r15=>
 ((iA (nf s1) (nf c2) (nf r15) (nf c3) (nf c4) (nf c5))>>=fun o47=>
 (match o47 with
 | .ret r47=>(if(r47.1==(none:Option Nat))=true then some (.ret (r47.2.1,r47.2.2.1,r47.2.2.2))
 else none)
 | .nx p52=>some (.nx p52))))
 | .nx p13=>some (.nx p13)))))
 partial_fixpoint
noncomputable def iA (s1:aC) (c2:Str) (r15:aC) (c21:(List<|List Int)) (c22:Int) (c23:Int):Option (Ctl ((Option Nat)×(List<|List Int)×Int×Int) Pan):=
 ((bX s1 c2 r15 c21 (0) none c21 c22 c23)>>=fun o1058=>
 (match o1058 with
 | .ret q1059=>some (.ret q1059)
 | .nx q1060=>(match q1060 with
 | .ret q1061=>some (.nx q1061)
 | .nx q1062=>some (.ret (q1062.1,q1062.2.1,q1062.2.2.1,q1062.2.2.2)))))
 partial_fixpoint
noncomputable def bX (s1:aC) (c2:Str) (r15:aC) (c21:(List<|List Int)) (x1047:Int) (c1048:(Option Nat)) (c1049:(List<|List Int)) (c1050:Int) (c1051:Int):Option (Ctl ((Option Nat)×(List<|List Int)×Int×Int)<|Ctl Pan<|(Option Nat)×(List<|List Int)×Int×Int):=
 (if(decide (x1047<(IntKind.wrap .i64 ((r15.expr.l.length:Int)+(r15.expr.aO.length:Int)))))=true then((aX r15 x1047)>>=fun r1052=>
 (if(c1048==(none:Option Nat))=true then((fQ (nf s1) (nf c2) (nf r15) (nf x1047) (nf r1052) (nf c1049) (nf c1050) (nf c1051))>>=fun o1053=>
 (match o1053 with
 | .ret r1053=>(if(!r1053.1.isNone)=true then some (.ret (r1053.1,r1053.2.1,r1053.2.2.1,r1053.2.2.2))
 else bX (nf s1) (nf c2) (nf r15) (nf c21) (IntKind.wrap .i64 (x1047+(1))) r1053.1 r1053.2.1 r1053.2.2.1 r1053.2.2.2)
 | .nx p1056=>some (.nx (.ret p1056))))
 else none))
 else some (.nx (.nx (c1048,c1049,c1050,c1051))))
 partial_fixpoint
noncomputable def fQ (s1:aC) (c2:Str) (r15:aC) (x24:Int) (x25:aC) (c21:(List<|List Int)) (c22:Int) (c23:Int):Option (Ctl ((Option Nat)×(List<|List Int)×Int×Int) Pan):=
 (if(x24==(0))=true then some (.ret ((none:Option Nat),c21,c22,c23))
 else((dP s1 x24 c2)>>=fun r30=>
 ((gC x25.path r30)>>=fun o31=>
 (match o31 with
 | .ret r31=>((bW (nf x25) (nf c2) (nf c21) (nf c22) (nf c23))>>=fun o38=>
 (match o38 with
 | .ret r38=>some (.ret ((none:Option Nat),r38.1,r38.2.1,r38.2.2))
 | .nx p43=>some (.nx p43)))
 | .nx p36=>some (.nx p36)))))
 partial_fixpoint
noncomputable def gF (s1:aC) (c2:Str) (c3:(List<|List Int)) (c4:Int) (c5:Int):Option (Ctl ((List<|List Int)×Int×Int) Pan):=
 ((aX s1 (0))>>=fun r6=>
 ((cM r6 c2 false false)>>=fun r7=>
 ((gC r7.1 r7.2)>>=fun or8=>
 (match or8 with
 | .ret r8=>((aX s1 (1))>>=fun r15=>
 ((bW (nf r15) (nf c2) (nf c3) (nf c4) (nf c5))>>=fun o16=>
 (match o16 with
 | .ret r16=>((aX s1 (2))>>=fun r23=>
 ((bW (nf r23) (nf c2) r16.1 r16.2.1 r16.2.2)>>=fun o24=>
 (match o24 with
 | .ret r24=>some (.ret (r24.1,r24.2.1,r24.2.2))
 | .nx p29=>some (.nx p29))))
 | .nx p21=>some (.nx p21))))
 | .nx p13=>some (.nx p13)))))
 partial_fixpoint
noncomputable def iQ (s1:aC) (c2:Str) (c3:(List<|List Int)) (c4:Int) (c5:Int):Option (Ctl ((List<|List Int)×Int×Int) Pan):=
 ((aX s1 (0))>>=fun r6=>
 ((aX s1 (1))>>=fun r7=>
 ((dQ r6 c2 c3 c4 c5)>>=fun r8=>
 (if r8=true then((eE r6 c2 c3 c4 c5)>>=fun o13=>
 (match o13 with
 | .ret r13=>((idx s1.expr.names (0))>>=fun y20=>
 (((if(!(y20==c2))=true then((dG r7 c2)>>=fun r22=>
 ((gC r22.1 r22.2)>>=fun o23=>
 (match o23 with
 | .ret r23=>some (.nx ())
 | .nx p28=>some (.ret p28))))
 else some (.nx ())):Option (Ctl Pan Unit))>>=fun o21=>
 (match o21 with
 | .ret q30=>some (.nx q30)
 | .nx q31=>some (.ret (r13.1,r13.2.1,r13.2.2)))))
 | .nx p18=>some (.nx p18)))
 else((mF r6 s1 c2 c3 c4 c5)>>=fun r35=>
 ((gC r35.1 r35.2)>>=fun o40=>
 (match o40 with
 | .ret r40=>((bW (nf r7) (nf c2) (nf c3) (nf c4) (nf c5))>>=fun o47=>
 (match o47 with
 | .ret r47=>some (.ret (r47.1,r47.2.1,r47.2.2))
 | .nx p52=>some (.nx p52)))
 | .nx p45=>some (.nx p45))))))))
 partial_fixpoint
end
abbrev lQ(s1:aC)(c2:Str)(c3:(List<|List Int))(c4:Int)(c5:Int)(r:(Ctl ((List<|List Int)×Int×Int) Pan)):Prop:= ∀(s:ASt)(β1:Nat)(ρ1:AV),Kn s [(β1,.cells [(.str c2),ρ1,(.i c4),(.i c5)] true)] [(ρ1,1,(c3.map<|aU 1<|AV.i))]→Fc PP (.func 123) [(.ptr β1 0),(aA s1)] s (wZ r (fun q=>lV s [β1] (cL [(ρ1,1,(c3.map<|aU 1<|AV.i))]) (.tuple []) (fun a:AV=> [(β1,.cells [(.str c2),a,(.i q.2.1),(.i q.2.2)] true)]) (fun a:AV=> [(a,1,(q.1.map<|aU 1<|AV.i))]) (fun a:AV=>True))<|fun p=>u4 s [β1] (cL [(ρ1,1,(c3.map<|aU 1<|AV.i))]) (nX p))
abbrev jT(s1:aC)(c2:Str)(c3:(List<|List Int))(c4:Int)(c5:Int)(r:(Ctl ((List<|List Int)×Int×Int) Pan)):Prop:= ∀(s:ASt)(β1:Nat)(ρ1:AV),Kn s [(β1,.cells [(.str c2),ρ1,(.i c4),(.i c5)] true)] [(ρ1,1,(c3.map<|aU 1<|AV.i))]→Fc PP (.func 84) [(.ptr β1 0),(aA s1)] s (wZ r (fun q=>lV s [β1] (cL [(ρ1,1,(c3.map<|aU 1<|AV.i))]) (.tuple []) (fun a:AV=> [(β1,.cells [(.str c2),a,(.i q.2.1),(.i q.2.2)] true)]) (fun a:AV=> [(a,1,(q.1.map<|aU 1<|AV.i))]) (fun a:AV=>True))<|fun p=>u4 s [β1] (cL [(ρ1,1,(c3.map<|aU 1<|AV.i))]) (nX p))
abbrev mD(s1:aC)(c2:Str)(c3:(List<|List Int))(c4:Int)(c5:Int)(r:(Ctl ((List<|List Int)×Int×Int) Pan)):Prop:= ∀(s:ASt)(β1:Nat)(ρ1:AV),Kn s [(β1,.cells [(.str c2),ρ1,(.i c4),(.i c5)] true)] [(ρ1,1,(c3.map<|aU 1<|AV.i))]→Fc PP (.func 122) [(.ptr β1 0),(aA s1)] s (wZ r (fun q=>lV s [β1] (cL [(ρ1,1,(c3.map<|aU 1<|AV.i))]) (.tuple []) (fun a:AV=> [(β1,.cells [(.str c2),a,(.i q.2.1),(.i q.2.2)] true)]) (fun a:AV=> [(a,1,(q.1.map<|aU 1<|AV.i))]) (fun a:AV=>True))<|fun p=>u4 s [β1] (cL [(ρ1,1,(c3.map<|aU 1<|AV.i))]) (nX p))
abbrev kO(s1:aC)(c2:Str)(r15:aC)(c21:(List<|List Int))(c22:Int)(c23:Int)(r:(Ctl ((Option Nat)×(List<|List Int)×Int×Int) Pan)):Prop:= ∀(s:ASt)(ε16:Env)(κ18:Nat)(ℓ17:Nat)(β1:Nat)(or0_1:AV),Kn s [(ℓ17,.loop ⟨eA none,bD none,bB ε16 [(2,(.aF (.ptr β1 0) 0)),(3,(.aF (aA s1) 0)),(17,(.func 168 [] [(.aF (aA r15) 0)]))],κ18,[18,19],Code.eH,Code.eG⟩),(β1,.cells [(.str c2),or0_1,(.i c22),(.i c23)] true)] [(or0_1,1,(c21.map<|aU 1<|AV.i))]→Fc PP (.func 168) [(.yield ℓ17),(.aF (aA r15) 0)] s (wZ r (fun q=>lV s [ℓ17,β1] (cL [(or0_1,1,(c21.map<|aU 1<|AV.i))]) (.tuple []) (fun a:AV=> [(ℓ17,.loop ⟨eA q.1,bD q.1,bB ε16 [(2,(.aF (.ptr β1 0) 0)),(3,(.aF (aA s1) 0)),(17,(.func 168 [] [(.aF (aA r15) 0)]))],κ18,[18,19],Code.eH,Code.eG⟩),(β1,.cells [(.str c2),a,(.i q.2.2.1),(.i q.2.2.2)] true)]) (fun a:AV=> [(a,1,(q.2.1.map<|aU 1<|AV.i))]) (fun a:AV=>True))<|fun p=>u4 s [ℓ17,β1] (cL [(or0_1,1,(c21.map<|aU 1<|AV.i))]) (nX p))
abbrev jR(s1:aC)(c2:Str)(r15:aC)(c21:(List<|List Int))(x1047:Int)(c1048:(Option Nat))(c1049:(List<|List Int))(c1050:Int)(c1051:Int)(o:(Ctl ((Option Nat)×(List<|List Int)×Int×Int)<|Ctl Pan<|(Option Nat)×(List<|List Int)×Int×Int)):Prop:= ∀(e:Env)(s sv:ASt)(ε16:Env)(κ18:Nat)(or0_1:AV)(ℓ17:Nat)(β1:Nat)(ow0_1:AV),St [ℓ17,β1] (cL [(or0_1,1,(c21.map<|aU 1<|AV.i))]) s sv [(ℓ17,.loop ⟨eA c1048,bD c1048,bB ε16 [(2,(.aF (.ptr β1 0) 0)),(3,(.aF (aA s1) 0)),(17,(.func 168 [] [(.aF (aA r15) 0)]))],κ18,[18,19],Code.eH,Code.eG⟩),(β1,.cells [(.str c2),ow0_1,(.i c1050),(.i c1051)] true)] [(ow0_1,1,(c1049.map<|aU 1<|AV.i))]→Wk PP none Code.aAo ⟨bB e [(0,(.yield ℓ17)),(1,(.aF (aA r15) 0)),(12,(.i<|IntKind.wrap .i64<|(r15.expr.l.length:Int)+(r15.expr.aO.length:Int))),(13,(.i x1047))],[]⟩ sv (fun ex fr s'=>(match o with| .ret oq0=>ex= .ret∧rP PP Code.aFN (VQ (.tuple [])<|RX s [ℓ17,β1] (cL [(or0_1,1,(c21.map<|aU 1<|AV.i))]) (fun a:AV=> [(ℓ17,.loop ⟨eA oq0.1,bD oq0.1,bB ε16 [(2,(.aF (.ptr β1 0) 0)),(3,(.aF (aA s1) 0)),(17,(.func 168 [] [(.aF (aA r15) 0)]))],κ18,[18,19],Code.eH,Code.eG⟩),(β1,.cells [(.str c2),a,(.i oq0.2.2.1),(.i oq0.2.2.2)] true)]) (fun a:AV=> [(a,1,(oq0.2.1.map<|aU 1<|AV.i))]) (fun a:AV=>True)) ex fr s'| .nx oq1=>(match oq1 with| .ret oq2=>aK6 (nX oq2) (Ext [ℓ17,β1] (cL [(or0_1,1,(c21.map<|aU 1<|AV.i))]) s) ex fr s'| .nx oq3=>ex= .exit 0∧ ∃(pw1:AV)(e:Env),fr=⟨bB e [],[]⟩∧St [ℓ17,β1] (cL [(or0_1,1,(c21.map<|aU 1<|AV.i))]) s s' [(ℓ17,.loop ⟨eA oq3.1,bD oq3.1,bB ε16 [(2,(.aF (.ptr β1 0) 0)),(3,(.aF (aA s1) 0)),(17,(.func 168 [] [(.aF (aA r15) 0)]))],κ18,[18,19],Code.eH,Code.eG⟩),(β1,.cells [(.str c2),pw1,(.i oq3.2.2.1),(.i oq3.2.2.2)] true)] [(pw1,1,(oq3.2.1.map<|aU 1<|AV.i))])))
abbrev kR(s1:aC)(c2:Str)(r15:aC)(x24:Int)(x25:aC)(c21:(List<|List Int))(c22:Int)(c23:Int)(r:(Ctl ((Option Nat)×(List<|List Int)×Int×Int) Pan)):Prop:= ∀(s:ASt)(ε16:Env)(κ18:Nat)(ℓ17:Nat)(β1:Nat)(or0_1:AV),Kn s [(ℓ17,.loop ⟨eA none,bD none,bB ε16 [(2,(.aF (.ptr β1 0) 0)),(3,(.aF (aA s1) 0)),(17,(.func 168 [] [(.aF (aA r15) 0)]))],κ18,[18,19],Code.eH,Code.eG⟩),(β1,.cells [(.str c2),or0_1,(.i c22),(.i c23)] true)] [(or0_1,1,(c21.map<|aU 1<|AV.i))]→Fc PP (.yield ℓ17) [(.i x24),(aA x25)] s (wZ r (fun q=>lV s [ℓ17,β1] (cL [(or0_1,1,(c21.map<|aU 1<|AV.i))]) (.bool q.1.isNone) (fun a:AV=> [(ℓ17,.loop ⟨eA q.1,bD q.1,bB ε16 [(2,(.aF (.ptr β1 0) 0)),(3,(.aF (aA s1) 0)),(17,(.func 168 [] [(.aF (aA r15) 0)]))],κ18,[18,19],Code.eH,Code.eG⟩),(β1,.cells [(.str c2),a,(.i q.2.2.1),(.i q.2.2.2)] true)]) (fun a:AV=> [(a,1,(q.2.1.map<|aU 1<|AV.i))]) (fun a:AV=>True))<|fun p=>u4 s [ℓ17,β1] (cL [(or0_1,1,(c21.map<|aU 1<|AV.i))]) (nX p))
abbrev lR(s1:aC)(c2:Str)(c3:(List<|List Int))(c4:Int)(c5:Int)(r:(Ctl ((List<|List Int)×Int×Int) Pan)):Prop:= ∀(s:ASt)(β1:Nat)(ρ1:AV),Kn s [(β1,.cells [(.str c2),ρ1,(.i c4),(.i c5)] true)] [(ρ1,1,(c3.map<|aU 1<|AV.i))]→Fc PP (.func 121) [(.ptr β1 0),(aA s1)] s (wZ r (fun q=>lV s [β1] (cL [(ρ1,1,(c3.map<|aU 1<|AV.i))]) (.tuple []) (fun a:AV=> [(β1,.cells [(.str c2),a,(.i q.2.1),(.i q.2.2)] true)]) (fun a:AV=> [(a,1,(q.1.map<|aU 1<|AV.i))]) (fun a:AV=>True))<|fun p=>u4 s [β1] (cL [(ρ1,1,(c3.map<|aU 1<|AV.i))]) (nX p))
abbrev n4(s1:aC)(c2:Str)(c3:(List<|List Int))(c4:Int)(c5:Int)(r:(Ctl ((List<|List Int)×Int×Int) Pan)):Prop:= ∀(s:ASt)(β1:Nat)(ρ1:AV),Kn s [(β1,.cells [(.str c2),ρ1,(.i c4),(.i c5)] true)] [(ρ1,1,(c3.map<|aU 1<|AV.i))]→Fc PP (.func 120) [(.ptr β1 0),(aA s1)] s (wZ r (fun q=>lV s [β1] (cL [(ρ1,1,(c3.map<|aU 1<|AV.i))]) (.tuple []) (fun a:AV=> [(β1,.cells [(.str c2),a,(.i q.2.1),(.i q.2.2)] true)]) (fun a:AV=> [(a,1,(q.1.map<|aU 1<|AV.i))]) (fun a:AV=>True))<|fun p=>u4 s [β1] (cL [(ρ1,1,(c3.map<|aU 1<|AV.i))]) (nX p))
theorem qD:(∀(s1:aC)(c2:Str)(c3:(List<|List Int))(c4:Int)(c5:Int)(r:(Ctl ((List<|List Int)×Int×Int) Pan)),dB s1 c2 c3 c4 c5=some r→lQ s1 c2 c3 c4 c5 r)∧
  (∀(s1:aC)(c2:Str)(c3:(List<|List Int))(c4:Int)(c5:Int)(r:(Ctl ((List<|List Int)×Int×Int) Pan)),bW s1 c2 c3 c4 c5=some r→jT s1 c2 c3 c4 c5 r)∧
  (∀(s1:aC)(c2:Str)(c3:(List<|List Int))(c4:Int)(c5:Int)(r:(Ctl ((List<|List Int)×Int×Int) Pan)),gV s1 c2 c3 c4 c5=some r→mD s1 c2 c3 c4 c5 r)∧
  (∀(s1:aC)(c2:Str)(r15:aC)(c21:(List<|List Int))(c22:Int)(c23:Int)(r:(Ctl ((Option Nat)×(List<|List Int)×Int×Int) Pan)),iA s1 c2 r15 c21 c22 c23=some r→kO s1 c2 r15 c21 c22 c23 r)∧
  (∀(s1:aC)(c2:Str)(r15:aC)(c21:(List<|List Int))(x1047:Int)(c1048:(Option Nat))(c1049:(List<|List Int))(c1050:Int)(c1051:Int)(o:(Ctl ((Option Nat)×(List<|List Int)×Int×Int)<|Ctl Pan<|(Option Nat)×(List<|List Int)×Int×Int)),bX s1 c2 r15 c21 x1047 c1048 c1049 c1050 c1051=some o→jR s1 c2 r15 c21 x1047 c1048 c1049 c1050 c1051 o)∧
  (∀(s1:aC)(c2:Str)(r15:aC)(x24:Int)(x25:aC)(c21:(List<|List Int))(c22:Int)(c23:Int)(r:(Ctl ((Option Nat)×(List<|List Int)×Int×Int) Pan)),fQ s1 c2 r15 x24 x25 c21 c22 c23=some r→kR s1 c2 r15 x24 x25 c21 c22 c23 r)∧
  (∀(s1:aC)(c2:Str)(c3:(List<|List Int))(c4:Int)(c5:Int)(r:(Ctl ((List<|List Int)×Int×Int) Pan)),gF s1 c2 c3 c4 c5=some r→lR s1 c2 c3 c4 c5 r)∧
  (∀(s1:aC)(c2:Str)(c3:(List<|List Int))(c4:Int)(c5:Int)(r:(Ctl ((List<|List Int)×Int×Int) Pan)),iQ s1 c2 c3 c4 c5=some r→n4 s1 c2 c3 c4 c5 r):=by
 refine dB.mutual_partial_correctness lQ jT mD kO jR kR lR n4 ?_ ?_ ?_ ?_ ?_ ?_ ?_ ?_
 ·intro _f0 ih_linear_clause_look_s0 s1 c2 c3 c4 c5 r u;intro s β1 ρ1 hK;refine sR r (v:=fun q:((List<|List Int)×Int×Int)=>(.tuple [])) (bs:=fun(q:((List<|List Int)×Int×Int))=>(fun a:AV=> [(β1,.cells [(.str c2),a,(.i q.2.1),(.i q.2.2)] true)])) (gs:=fun(q:((List<|List Int)×Int×Int))=>(fun a:AV=> [(a,1,(q.1.map<|aU 1<|AV.i))])) (fs:=fun(q:((List<|List Int)×Int×Int))=>(fun a:AV=>True)) hK (fun _ _=>rfl) (fun _ a q hq=>by
   simp only [List.mem_cons,List.not_mem_nil,or_false] at hq;subst hq;exact⟨_,(.head _),_,_,rfl,(.tail _ (.head _))⟩) rfl rfl rfl ?_
  have J:=hK.start;generalize aT s=σ1 at J⊢;refine aD<|aE<|wu rfl<|wu rfl<|aB<|vC<|aD<|aE<|wu rfl<|wu rfl ?_;obtain⟨r6,hr6,u⟩:=bs u;refine wcD (bR hr6) rfl rfl (.cons rfl<|.cons rfl .nil) ?_;obtain⟨or7,ho7,u⟩:=bs u;rcases or7 with r7|p12
  ·refine cA rfl (bs1:= [(β1,.cells [(.str c2),ρ1,(.i c4),(.i c5)] true)]) (bs2:= []) (gs1:= [(ρ1,1,(c3.map<|aU 1<|AV.i))]) (gs2:= []) rfl J (fun hK=>ih_linear_clause_look_s0 _ _ _ _ _ _ ho7 _ β1 ρ1 hK) rfl rfl (fun _=>rfl) rfl (by exact(.cons rfl<|.cons rfl .nil)) rfl<|fun σ8 a9 hF J=> ?_;refine aB<|aD<|aN<|aD<|aE<|wu rfl ?_;obtain⟨r14,h14,u⟩:=bs u;refine wcD (gD h14) rfl rfl (.cons rfl .nil)<|aB<|aQ ?_;refine aCF (S:= [(2,(.aF (.ptr β1 0) 0)),(3,(.aF (aA s1) 0)),(11,(.func 168 [] [(.aF (aA r14) 0)]))]) (.cons rfl<|.cons rfl<|.cons rfl .nil)<|fun ε15=> ?_;obtain⟨κ17,ℓ16,σ18,hl19,J⟩:=vN (params:= [12,13]) (assign:=Code.fF) (body:=Code.eX) (fr:=⟨bB ε15 [(2,(.aF (.ptr β1 0) 0)),(3,(.aF (aA s1) 0)),(11,(.func 168 [] [(.aF (aA r14) 0)]))],[]⟩) J;refine wC hl19 rfl rfl ?_;obtain⟨o39,h39,u⟩:=bs u;have J:=J.aM 2 rfl;have J:=J.aM 1 rfl;rcases o39 with r39|p44
   ·rcases Bool.eq_false_or_eq_true (r39.1==(none:Option Nat)) with hc|hc
    ·replace u:=bP hc u;refine oO (bs1:= [(ℓ16,.loop ⟨eA none,bD none,bB ε15 [(2,(.aF (.ptr β1 0) 0)),(3,(.aF (aA s1) 0)),(11,(.func 168 [] [(.aF (aA r14) 0)]))],κ17,[12,13],Code.fF,Code.eX⟩),(β1,.cells [(.str c2),a9,(.i r7.2.1),(.i r7.2.2)] true)]) (bs2:= [(κ17,.qZ)]) (gs1:= [(a9,1,(r7.1.map<|aU 1<|AV.i))]) (gs2:= []) (pd:=r39.1) (ex:= .normal) J (fun hK=>j0 _ _ _ _ _ _ h39 _ ε15 κ17 ℓ16 β1 a9 hK) rfl rfl (fun _=>rfl) (by rw [eq_of_beq hc];rfl)<|fun σ40 a41 hF J=> ?_;cases u;obtain⟨σ42,J,h43⟩:=J.mark 1 rfl;exact⟨rfl,σ42,(h43<|fun _=>rfl),gJ rfl ⟨a41,trivial,(J.tJ 1)⟩⟩
    ·replace u:=bO hc u;cases u
   ·refine aAb (bs1:= [(ℓ16,.loop ⟨eA none,bD none,bB ε15 [(2,(.aF (.ptr β1 0) 0)),(3,(.aF (aA s1) 0)),(11,(.func 168 [] [(.aF (aA r14) 0)]))],κ17,[12,13],Code.fF,Code.eX⟩),(β1,.cells [(.str c2),a9,(.i r7.2.1),(.i r7.2.2)] true)]) (bs2:= [(κ17,.qZ)]) (gs1:= [(a9,1,(r7.1.map<|aU 1<|AV.i))]) (gs2:= []) J (fun hK=>j0 _ _ _ _ _ _ h39 _ ε15 κ17 ℓ16 β1 a9 hK) rfl rfl<|fun σ45 J=> ?_;cases u;obtain⟨σ46,J,h47⟩:=J.mark 0 rfl;exact⟨rfl,σ46,(h47<|fun _=>rfl),J.ext⟩
  ·refine gS (bs1:= [(β1,.cells [(.str c2),ρ1,(.i c4),(.i c5)] true)]) (bs2:= []) (gs1:= [(ρ1,1,(c3.map<|aU 1<|AV.i))]) (gs2:= []) rfl J (fun hK=>ih_linear_clause_look_s0 _ _ _ _ _ _ ho7 _ β1 ρ1 hK) rfl rfl rfl (by exact(.cons rfl<|.cons rfl .nil)) rfl<|fun σ13 J=> ?_;cases u;exact⟨rfl,_,fun _=>rfl,J.ext⟩
 ·intro _f0 _f1 _f2 _f3 ih_linear_clause_around_s0 ih_linear_clause_match_s0 ih_linear_clause_branch_s0 ih_linear_clause_let_s0 s1 c2 c3 c4 c5 r u;intro s β1 ρ1 hK;refine sR r (v:=fun q:((List<|List Int)×Int×Int)=>(.tuple [])) (bs:=fun(q:((List<|List Int)×Int×Int))=>(fun a:AV=> [(β1,.cells [(.str c2),a,(.i q.2.1),(.i q.2.2)] true)])) (gs:=fun(q:((List<|List Int)×Int×Int))=>(fun a:AV=> [(a,1,(q.1.map<|aU 1<|AV.i))])) (fs:=fun(q:((List<|List Int)×Int×Int))=>(fun a:AV=>True)) hK (fun _ _=>rfl) (fun _ a q hq=>by
   simp only [List.mem_cons,List.not_mem_nil,or_false] at hq;subst hq;exact⟨_,(.head _),_,_,rfl,(.tail _ (.head _))⟩) rfl rfl rfl ?_
  have J:=hK.start;generalize aT s=σ1 at J⊢;refine aD<|aE<|wu rfl<|aB<|aD<|aD<|aE<|wu rfl<|wu rfl ?_;obtain⟨r6,hr6,u⟩:=bs u;refine cA rfl (bs1:= [(β1,.cells [(.str c2),ρ1,(.i c4),(.i c5)] true)]) (bs2:= []) (gs1:= [(ρ1,1,(c3.map<|aU 1<|AV.i))]) (gs2:= []) rfl J (fun hK=>lF _ _ _ _ _ _ hr6 _ β1 ρ1 hK) rfl rfl (fun _=>rfl) rfl (by exact(.cons rfl<|.cons rfl .nil)) rfl<|fun σ7 a8 hF J=> ?_;refine aB ?_;refine aH u rfl (fun hc u=> ?_)<|fun hc u=> ?_
  ·refine aD<|aE<|wu rfl<|wu rfl ?_;obtain⟨o11,ho11,u⟩:=bs u;rcases o11 with r11|p16
   ·refine cA rfl (bs1:= [(β1,.cells [(.str c2),a8,(.i c4),(.i c5)] true)]) (bs2:= []) (gs1:= [(a8,1,(c3.map<|aU 1<|AV.i))]) (gs2:= []) rfl J (fun hK=>gA _ _ _ _ _ _ ho11 _ β1 a8 hK) rfl rfl (fun _=>rfl) rfl (by exact(.cons rfl<|.cons rfl .nil)) rfl<|fun σ12 a13 hF J=> ?_;refine aB<|aL ?_;cases u;exact⟨rfl,_,fun _=>rfl,gJ rfl ⟨a13,trivial,J⟩⟩
   ·refine gS (bs1:= [(β1,.cells [(.str c2),a8,(.i c4),(.i c5)] true)]) (bs2:= []) (gs1:= [(a8,1,(c3.map<|aU 1<|AV.i))]) (gs2:= []) rfl J (fun hK=>gA _ _ _ _ _ _ ho11 _ β1 a8 hK) rfl rfl rfl (by exact(.cons rfl<|.cons rfl .nil)) rfl<|fun σ17 J=> ?_;cases u;exact⟨rfl,_,fun _=>rfl,J.ext⟩
  ·refine aN<|aD<|aE ?_;refine aLJ rfl J<|fun β18 σ19 J=> ?_;refine wu rfl<|wu rfl ?_;refine qP (es':= [((.i<|6),(.func 120 [(.ptr β1 0)] []))]) 0 rfl J rfl rfl rfl rfl rfl<|fun σ20 J=> ?_;refine wu rfl<|wu rfl ?_;refine qP (es':= [((.i<|6),(.func 120 [(.ptr β1 0)] [])),((.i<|8),(.func 121 [(.ptr β1 0)] []))]) 0 rfl J rfl rfl rfl rfl rfl<|fun σ21 J=> ?_;refine wu rfl<|wu rfl ?_;refine qP (es':= [((.i<|6),(.func 120 [(.ptr β1 0)] [])),((.i<|8),(.func 121 [(.ptr β1 0)] [])),((.i<|11),(.func 122 [(.ptr β1 0)] []))]) 0 rfl J rfl rfl rfl rfl rfl<|fun σ22 J=> ?_;refine wu rfl<|wu rfl ?_;refine qP (es':= [((.i<|6),(.func 120 [(.ptr β1 0)] [])),((.i<|8),(.func 121 [(.ptr β1 0)] [])),((.i<|11),(.func 122 [(.ptr β1 0)] [])),((.i<|14),(.func 123 [(.ptr β1 0)] []))]) 0 rfl J rfl rfl rfl rfl rfl<|fun σ23 J=> ?_;refine wu rfl<|wu rfl ?_;refine qP (es':= [((.i<|6),(.func 120 [(.ptr β1 0)] [])),((.i<|8),(.func 121 [(.ptr β1 0)] [])),((.i<|11),(.func 122 [(.ptr β1 0)] [])),((.i<|14),(.func 123 [(.ptr β1 0)] [])),((.i<|15),(.func 123 [(.ptr β1 0)] []))]) 0 rfl J rfl rfl rfl rfl rfl<|fun σ24 J=> ?_;refine wu rfl<|wu rfl ?_;refine qP (es':= [((.i<|6),(.func 120 [(.ptr β1 0)] [])),((.i<|8),(.func 121 [(.ptr β1 0)] [])),((.i<|11),(.func 122 [(.ptr β1 0)] [])),((.i<|14),(.func 123 [(.ptr β1 0)] [])),((.i<|15),(.func 123 [(.ptr β1 0)] [])),((.i<|16),(.func 123 [(.ptr β1 0)] []))]) 0 rfl J rfl rfl rfl rfl rfl<|fun σ25 J=> ?_
   iterate 4 refine wu rfl ?_
   rcases Bool.eq_false_or_eq_true (s1.expr.kind==(6)) with h33|h33
   ·replace u:=bP h33 u;refine wM 0 rfl J rfl rfl rfl (qK h33)<|wu rfl<|aB<|aD<|aD<|aE<|wu rfl<|wu rfl<|aB<|aAw rfl<|aN<|aE<|wu rfl<|wu rfl ?_;obtain⟨o26,ho26,u⟩:=bs u;have J:=J.aM 1 rfl;rcases o26 with r26|p31
    ·refine cA rfl (bs1:= [(β1,.cells [(.str c2),a8,(.i c4),(.i c5)] true)]) (bs2:= [(β18,.map [((.i<|6),(.func 120 [(.ptr β1 0)] [])),((.i<|8),(.func 121 [(.ptr β1 0)] [])),((.i<|11),(.func 122 [(.ptr β1 0)] [])),((.i<|14),(.func 123 [(.ptr β1 0)] [])),((.i<|15),(.func 123 [(.ptr β1 0)] [])),((.i<|16),(.func 123 [(.ptr β1 0)] []))])]) (gs1:= [(a8,1,(c3.map<|aU 1<|AV.i))]) (gs2:= []) rfl J (fun hK=>ih_linear_clause_let_s0 _ _ _ _ _ _ ho26 _ β1 a8 hK) rfl rfl (fun _=>rfl) rfl (by exact(.cons rfl .nil)) rfl<|fun σ27 a28 hF J=> ?_;refine aB ?_;cases u;exact⟨rfl,_,fun _=>rfl,gJ rfl ⟨a28,trivial,(J.tJ 1)⟩⟩
    ·refine gS (bs1:= [(β1,.cells [(.str c2),a8,(.i c4),(.i c5)] true)]) (bs2:= [(β18,.map [((.i<|6),(.func 120 [(.ptr β1 0)] [])),((.i<|8),(.func 121 [(.ptr β1 0)] [])),((.i<|11),(.func 122 [(.ptr β1 0)] [])),((.i<|14),(.func 123 [(.ptr β1 0)] [])),((.i<|15),(.func 123 [(.ptr β1 0)] [])),((.i<|16),(.func 123 [(.ptr β1 0)] []))])]) (gs1:= [(a8,1,(c3.map<|aU 1<|AV.i))]) (gs2:= []) rfl J (fun hK=>ih_linear_clause_let_s0 _ _ _ _ _ _ ho26 _ β1 a8 hK) rfl rfl rfl (by exact(.cons rfl .nil)) rfl<|fun σ32 J=> ?_;cases u;exact⟨rfl,_,fun _=>rfl,J.ext⟩
   ·replace u:=bO h33 u;rcases Bool.eq_false_or_eq_true (s1.expr.kind==(8)) with h41|h41
    ·replace u:=bP h41 u;refine wM 0 rfl J rfl rfl rfl (cS h33<|qK h41)<|wu rfl<|aB<|aD<|aD<|aE<|wu rfl<|wu rfl<|aB<|aAw rfl<|aN<|aE<|wu rfl<|wu rfl ?_;obtain⟨o34,ho34,u⟩:=bs u;have J:=J.aM 1 rfl;rcases o34 with r34|p39
     ·refine cA rfl (bs1:= [(β1,.cells [(.str c2),a8,(.i c4),(.i c5)] true)]) (bs2:= [(β18,.map [((.i<|6),(.func 120 [(.ptr β1 0)] [])),((.i<|8),(.func 121 [(.ptr β1 0)] [])),((.i<|11),(.func 122 [(.ptr β1 0)] [])),((.i<|14),(.func 123 [(.ptr β1 0)] [])),((.i<|15),(.func 123 [(.ptr β1 0)] [])),((.i<|16),(.func 123 [(.ptr β1 0)] []))])]) (gs1:= [(a8,1,(c3.map<|aU 1<|AV.i))]) (gs2:= []) rfl J (fun hK=>ih_linear_clause_branch_s0 _ _ _ _ _ _ ho34 _ β1 a8 hK) rfl rfl (fun _=>rfl) rfl (by exact(.cons rfl .nil)) rfl<|fun σ35 a36 hF J=> ?_;refine aB ?_;cases u;exact⟨rfl,_,fun _=>rfl,gJ rfl ⟨a36,trivial,(J.tJ 1)⟩⟩
     ·refine gS (bs1:= [(β1,.cells [(.str c2),a8,(.i c4),(.i c5)] true)]) (bs2:= [(β18,.map [((.i<|6),(.func 120 [(.ptr β1 0)] [])),((.i<|8),(.func 121 [(.ptr β1 0)] [])),((.i<|11),(.func 122 [(.ptr β1 0)] [])),((.i<|14),(.func 123 [(.ptr β1 0)] [])),((.i<|15),(.func 123 [(.ptr β1 0)] [])),((.i<|16),(.func 123 [(.ptr β1 0)] []))])]) (gs1:= [(a8,1,(c3.map<|aU 1<|AV.i))]) (gs2:= []) rfl J (fun hK=>ih_linear_clause_branch_s0 _ _ _ _ _ _ ho34 _ β1 a8 hK) rfl rfl rfl (by exact(.cons rfl .nil)) rfl<|fun σ40 J=> ?_;cases u;exact⟨rfl,_,fun _=>rfl,J.ext⟩
    ·replace u:=bO h41 u;rcases Bool.eq_false_or_eq_true (s1.expr.kind==(11)) with h49|h49
     ·replace u:=bP h49 u;refine wM 0 rfl J rfl rfl rfl (cS h33<|cS h41<|qK h49)<|wu rfl<|aB<|aD<|aD<|aE<|wu rfl<|wu rfl<|aB<|aAw rfl<|aN<|aE<|wu rfl<|wu rfl ?_;obtain⟨o42,ho42,u⟩:=bs u;have J:=J.aM 1 rfl;rcases o42 with r42|p47
      ·refine cA rfl (bs1:= [(β1,.cells [(.str c2),a8,(.i c4),(.i c5)] true)]) (bs2:= [(β18,.map [((.i<|6),(.func 120 [(.ptr β1 0)] [])),((.i<|8),(.func 121 [(.ptr β1 0)] [])),((.i<|11),(.func 122 [(.ptr β1 0)] [])),((.i<|14),(.func 123 [(.ptr β1 0)] [])),((.i<|15),(.func 123 [(.ptr β1 0)] [])),((.i<|16),(.func 123 [(.ptr β1 0)] []))])]) (gs1:= [(a8,1,(c3.map<|aU 1<|AV.i))]) (gs2:= []) rfl J (fun hK=>ih_linear_clause_match_s0 _ _ _ _ _ _ ho42 _ β1 a8 hK) rfl rfl (fun _=>rfl) rfl (by exact(.cons rfl .nil)) rfl<|fun σ43 a44 hF J=> ?_;refine aB ?_;cases u;exact⟨rfl,_,fun _=>rfl,gJ rfl ⟨a44,trivial,(J.tJ 1)⟩⟩
      ·refine gS (bs1:= [(β1,.cells [(.str c2),a8,(.i c4),(.i c5)] true)]) (bs2:= [(β18,.map [((.i<|6),(.func 120 [(.ptr β1 0)] [])),((.i<|8),(.func 121 [(.ptr β1 0)] [])),((.i<|11),(.func 122 [(.ptr β1 0)] [])),((.i<|14),(.func 123 [(.ptr β1 0)] [])),((.i<|15),(.func 123 [(.ptr β1 0)] [])),((.i<|16),(.func 123 [(.ptr β1 0)] []))])]) (gs1:= [(a8,1,(c3.map<|aU 1<|AV.i))]) (gs2:= []) rfl J (fun hK=>ih_linear_clause_match_s0 _ _ _ _ _ _ ho42 _ β1 a8 hK) rfl rfl rfl (by exact(.cons rfl .nil)) rfl<|fun σ48 J=> ?_;cases u;exact⟨rfl,_,fun _=>rfl,J.ext⟩
     ·replace u:=bO h49 u;rcases Bool.eq_false_or_eq_true (s1.expr.kind==(14)) with h57|h57
      ·replace u:=bP h57 u;refine wM 0 rfl J rfl rfl rfl (cS h33<|cS h41<|cS h49<|qK h57)<|wu rfl<|aB<|aD<|aD<|aE<|wu rfl<|wu rfl<|aB<|aAw rfl<|aN<|aE<|wu rfl<|wu rfl ?_;obtain⟨o50,ho50,u⟩:=bs u;have J:=J.aM 1 rfl;rcases o50 with r50|p55
       ·refine cA rfl (bs1:= [(β1,.cells [(.str c2),a8,(.i c4),(.i c5)] true)]) (bs2:= [(β18,.map [((.i<|6),(.func 120 [(.ptr β1 0)] [])),((.i<|8),(.func 121 [(.ptr β1 0)] [])),((.i<|11),(.func 122 [(.ptr β1 0)] [])),((.i<|14),(.func 123 [(.ptr β1 0)] [])),((.i<|15),(.func 123 [(.ptr β1 0)] [])),((.i<|16),(.func 123 [(.ptr β1 0)] []))])]) (gs1:= [(a8,1,(c3.map<|aU 1<|AV.i))]) (gs2:= []) rfl J (fun hK=>ih_linear_clause_around_s0 _ _ _ _ _ _ ho50 _ β1 a8 hK) rfl rfl (fun _=>rfl) rfl (by exact(.cons rfl .nil)) rfl<|fun σ51 a52 hF J=> ?_;refine aB ?_;cases u;exact⟨rfl,_,fun _=>rfl,gJ rfl ⟨a52,trivial,(J.tJ 1)⟩⟩
       ·refine gS (bs1:= [(β1,.cells [(.str c2),a8,(.i c4),(.i c5)] true)]) (bs2:= [(β18,.map [((.i<|6),(.func 120 [(.ptr β1 0)] [])),((.i<|8),(.func 121 [(.ptr β1 0)] [])),((.i<|11),(.func 122 [(.ptr β1 0)] [])),((.i<|14),(.func 123 [(.ptr β1 0)] [])),((.i<|15),(.func 123 [(.ptr β1 0)] [])),((.i<|16),(.func 123 [(.ptr β1 0)] []))])]) (gs1:= [(a8,1,(c3.map<|aU 1<|AV.i))]) (gs2:= []) rfl J (fun hK=>ih_linear_clause_around_s0 _ _ _ _ _ _ ho50 _ β1 a8 hK) rfl rfl rfl (by exact(.cons rfl .nil)) rfl<|fun σ56 J=> ?_;cases u;exact⟨rfl,_,fun _=>rfl,J.ext⟩
      ·replace u:=bO h57 u;rcases Bool.eq_false_or_eq_true (s1.expr.kind==(15)) with h65|h65
       ·replace u:=bP h65 u;refine wM 0 rfl J rfl rfl rfl (cS h33<|cS h41<|cS h49<|cS h57<|qK h65)<|wu rfl<|aB<|aD<|aD<|aE<|wu rfl<|wu rfl<|aB<|aAw rfl<|aN<|aE<|wu rfl<|wu rfl ?_;obtain⟨o58,ho58,u⟩:=bs u;have J:=J.aM 1 rfl;rcases o58 with r58|p63
        ·refine cA rfl (bs1:= [(β1,.cells [(.str c2),a8,(.i c4),(.i c5)] true)]) (bs2:= [(β18,.map [((.i<|6),(.func 120 [(.ptr β1 0)] [])),((.i<|8),(.func 121 [(.ptr β1 0)] [])),((.i<|11),(.func 122 [(.ptr β1 0)] [])),((.i<|14),(.func 123 [(.ptr β1 0)] [])),((.i<|15),(.func 123 [(.ptr β1 0)] [])),((.i<|16),(.func 123 [(.ptr β1 0)] []))])]) (gs1:= [(a8,1,(c3.map<|aU 1<|AV.i))]) (gs2:= []) rfl J (fun hK=>ih_linear_clause_around_s0 _ _ _ _ _ _ ho58 _ β1 a8 hK) rfl rfl (fun _=>rfl) rfl (by exact(.cons rfl .nil)) rfl<|fun σ59 a60 hF J=> ?_;refine aB ?_;cases u;exact⟨rfl,_,fun _=>rfl,gJ rfl ⟨a60,trivial,(J.tJ 1)⟩⟩
        ·refine gS (bs1:= [(β1,.cells [(.str c2),a8,(.i c4),(.i c5)] true)]) (bs2:= [(β18,.map [((.i<|6),(.func 120 [(.ptr β1 0)] [])),((.i<|8),(.func 121 [(.ptr β1 0)] [])),((.i<|11),(.func 122 [(.ptr β1 0)] [])),((.i<|14),(.func 123 [(.ptr β1 0)] [])),((.i<|15),(.func 123 [(.ptr β1 0)] [])),((.i<|16),(.func 123 [(.ptr β1 0)] []))])]) (gs1:= [(a8,1,(c3.map<|aU 1<|AV.i))]) (gs2:= []) rfl J (fun hK=>ih_linear_clause_around_s0 _ _ _ _ _ _ ho58 _ β1 a8 hK) rfl rfl rfl (by exact(.cons rfl .nil)) rfl<|fun σ64 J=> ?_;cases u;exact⟨rfl,_,fun _=>rfl,J.ext⟩
       ·replace u:=bO h65 u;rcases Bool.eq_false_or_eq_true (s1.expr.kind==(16)) with h73|h73
        ·replace u:=bP h73 u;refine wM 0 rfl J rfl rfl rfl (cS h33<|cS h41<|cS h49<|cS h57<|cS h65<|qK h73)<|wu rfl<|aB<|aD<|aD<|aE<|wu rfl<|wu rfl<|aB<|aAw rfl<|aN<|aE<|wu rfl<|wu rfl ?_;obtain⟨o66,ho66,u⟩:=bs u;have J:=J.aM 1 rfl;rcases o66 with r66|p71
         ·refine cA rfl (bs1:= [(β1,.cells [(.str c2),a8,(.i c4),(.i c5)] true)]) (bs2:= [(β18,.map [((.i<|6),(.func 120 [(.ptr β1 0)] [])),((.i<|8),(.func 121 [(.ptr β1 0)] [])),((.i<|11),(.func 122 [(.ptr β1 0)] [])),((.i<|14),(.func 123 [(.ptr β1 0)] [])),((.i<|15),(.func 123 [(.ptr β1 0)] [])),((.i<|16),(.func 123 [(.ptr β1 0)] []))])]) (gs1:= [(a8,1,(c3.map<|aU 1<|AV.i))]) (gs2:= []) rfl J (fun hK=>ih_linear_clause_around_s0 _ _ _ _ _ _ ho66 _ β1 a8 hK) rfl rfl (fun _=>rfl) rfl (by exact(.cons rfl .nil)) rfl<|fun σ67 a68 hF J=> ?_;refine aB ?_;cases u;exact⟨rfl,_,fun _=>rfl,gJ rfl ⟨a68,trivial,(J.tJ 1)⟩⟩
         ·refine gS (bs1:= [(β1,.cells [(.str c2),a8,(.i c4),(.i c5)] true)]) (bs2:= [(β18,.map [((.i<|6),(.func 120 [(.ptr β1 0)] [])),((.i<|8),(.func 121 [(.ptr β1 0)] [])),((.i<|11),(.func 122 [(.ptr β1 0)] [])),((.i<|14),(.func 123 [(.ptr β1 0)] [])),((.i<|15),(.func 123 [(.ptr β1 0)] [])),((.i<|16),(.func 123 [(.ptr β1 0)] []))])]) (gs1:= [(a8,1,(c3.map<|aU 1<|AV.i))]) (gs2:= []) rfl J (fun hK=>ih_linear_clause_around_s0 _ _ _ _ _ _ ho66 _ β1 a8 hK) rfl rfl rfl (by exact(.cons rfl .nil)) rfl<|fun σ72 J=> ?_;cases u;exact⟨rfl,_,fun _=>rfl,J.ext⟩
        ·replace u:=bO h73 u;refine aN7 0 rfl J rfl rfl rfl (cS h33<|cS h41<|cS h49<|cS h57<|cS h65<|cS h73 rfl)<|wu rfl<|aB<|aD<|aD<|aE<|wu rfl<|wu rfl<|aB<|aC7 rfl<|aE<|wu rfl<|wu rfl ?_;refine wgv (v:=(qS<|j3.mk s1.path)) rfl rfl (by kernel_rfl) ?_;refine wu rfl<|aFF rfl rfl ?_;cases u;exact⟨rfl,_,fun _=>rfl,J.ext⟩
 ·intro _f0 ih_linear_clause_match_s0_i0 s1 c2 c3 c4 c5 r u;intro s β1 ρ1 hK;refine sR r (v:=fun q:((List<|List Int)×Int×Int)=>(.tuple [])) (bs:=fun(q:((List<|List Int)×Int×Int))=>(fun a:AV=> [(β1,.cells [(.str c2),a,(.i q.2.1),(.i q.2.2)] true)])) (gs:=fun(q:((List<|List Int)×Int×Int))=>(fun a:AV=> [(a,1,(q.1.map<|aU 1<|AV.i))])) (fs:=fun(q:((List<|List Int)×Int×Int))=>(fun a:AV=>True)) hK (fun _ _=>rfl) (fun _ a q hq=>by
   simp only [List.mem_cons,List.not_mem_nil,or_false] at hq;subst hq;exact⟨_,(.head _),_,_,rfl,(.tail _ (.head _))⟩) rfl rfl rfl ?_
  have J:=hK.start;generalize aT s=σ1 at J⊢;refine aD<|aE<|wu rfl<|wu rfl<|aB<|aD<|aE<|wu rfl ?_;obtain⟨r6,hr6,u⟩:=bs u;refine wcD (bR hr6) rfl rfl (.cons rfl<|.cons rfl .nil)<|wu rfl<|wu rfl<|wu rfl<|j1 0 rfl J rfl rfl rfl ?_;obtain⟨r7,hr7,u⟩:=bs u;refine wcD (gO hr7) rfl rfl (.cons rfl<|.cons rfl<|.cons rfl<|.cons rfl .nil)<|wu rfl<|wu rfl ?_;obtain⟨or8,ho8,u⟩:=bs u;rcases or8 with r8|p13
  ·refine cA rfl (bs1:= []) (bs2:= [(β1,.cells [(.str c2),ρ1,(.i c4),(.i c5)] true)]) (gs1:= []) (gs2:= [(ρ1,1,(c3.map<|aU 1<|AV.i))]) rfl J (fun hK=>cP _ _ _ ho8 _ hK) rfl rfl (fun _=>rfl) rfl (by exact(.cons rfl<|.cons rfl .nil)) rfl<|fun σ9 a10 hF J=> ?_;refine aB<|aD<|aE<|wu rfl ?_;obtain⟨r15,h15,u⟩:=bs u;refine wcD (gD h15) rfl rfl (.cons rfl .nil)<|aB<|aQ ?_;refine aCF (S:= [(2,(.aF (.ptr β1 0) 0)),(3,(.aF (aA s1) 0)),(17,(.func 168 [] [(.aF (aA r15) 0)]))]) (.cons rfl<|.cons rfl<|.cons rfl .nil)<|fun ε16=> ?_;obtain⟨κ18,ℓ17,σ19,hl20,J⟩:=vN (params:= [18,19]) (assign:=Code.eH) (body:=Code.eG) (fr:=⟨bB ε16 [(2,(.aF (.ptr β1 0) 0)),(3,(.aF (aA s1) 0)),(17,(.func 168 [] [(.aF (aA r15) 0)]))],[]⟩) J;refine wC hl20 rfl rfl ?_;obtain⟨o47,hr47,u⟩:=bs u;have J:=J.aM 2 rfl;have J:=J.aM 1 rfl;rcases o47 with r47|p52
   ·rcases Bool.eq_false_or_eq_true (r47.1==(none:Option Nat)) with hc|hc
    ·replace u:=bP hc u;refine oO (bs1:= [(ℓ17,.loop ⟨eA none,bD none,bB ε16 [(2,(.aF (.ptr β1 0) 0)),(3,(.aF (aA s1) 0)),(17,(.func 168 [] [(.aF (aA r15) 0)]))],κ18,[18,19],Code.eH,Code.eG⟩),(β1,.cells [(.str c2),ρ1,(.i c4),(.i c5)] true)]) (bs2:= [(κ18,.qZ)]) (gs1:= [(ρ1,1,(c3.map<|aU 1<|AV.i))]) (gs2:= []) (pd:=r47.1) (ex:= .normal) J (fun hK=>ih_linear_clause_match_s0_i0 _ _ _ _ _ _ _ hr47 _ ε16 κ18 ℓ17 β1 ρ1 hK) rfl rfl (fun _=>rfl) (by rw [eq_of_beq hc];rfl)<|fun σ48 a49 hF J=> ?_;cases u;obtain⟨σ50,J,h51⟩:=J.mark 1 rfl;exact⟨rfl,σ50,(h51<|fun _=>rfl),gJ rfl ⟨a49,trivial,(J.tJ 1)⟩⟩
    ·replace u:=bO hc u;cases u
   ·refine aAb (bs1:= [(ℓ17,.loop ⟨eA none,bD none,bB ε16 [(2,(.aF (.ptr β1 0) 0)),(3,(.aF (aA s1) 0)),(17,(.func 168 [] [(.aF (aA r15) 0)]))],κ18,[18,19],Code.eH,Code.eG⟩),(β1,.cells [(.str c2),ρ1,(.i c4),(.i c5)] true)]) (bs2:= [(κ18,.qZ)]) (gs1:= [(ρ1,1,(c3.map<|aU 1<|AV.i))]) (gs2:= []) J (fun hK=>ih_linear_clause_match_s0_i0 _ _ _ _ _ _ _ hr47 _ ε16 κ18 ℓ17 β1 ρ1 hK) rfl rfl<|fun σ53 J=> ?_;cases u;obtain⟨σ54,J,h55⟩:=J.mark 0 rfl;exact⟨rfl,σ54,(h55<|fun _=>rfl),J.ext⟩
  ·refine gS (bs1:= []) (bs2:= [(β1,.cells [(.str c2),ρ1,(.i c4),(.i c5)] true)]) (gs1:= []) (gs2:= [(ρ1,1,(c3.map<|aU 1<|AV.i))]) rfl J (fun hK=>cP _ _ _ ho8 _ hK) rfl rfl rfl (by exact(.cons rfl<|.cons rfl .nil)) rfl<|fun σ14 J=> ?_;cases u;exact⟨rfl,_,fun _=>rfl,J.ext⟩
 ·intro _f0 ih_linear_clause_match_s0_i0_l0 s1 c2 r15 c21 c22 c23 r u;intro s ε16 κ18 ℓ17 β1 or0_1 hK;refine sR r (v:=fun q:((Option Nat)×(List<|List Int)×Int×Int)=>(.tuple [])) (bs:=fun(q:((Option Nat)×(List<|List Int)×Int×Int))=>(fun a:AV=> [(ℓ17,.loop ⟨eA q.1,bD q.1,bB ε16 [(2,(.aF (.ptr β1 0) 0)),(3,(.aF (aA s1) 0)),(17,(.func 168 [] [(.aF (aA r15) 0)]))],κ18,[18,19],Code.eH,Code.eG⟩),(β1,.cells [(.str c2),a,(.i q.2.2.1),(.i q.2.2.2)] true)])) (gs:=fun(q:((Option Nat)×(List<|List Int)×Int×Int))=>(fun a:AV=> [(a,1,(q.2.1.map<|aU 1<|AV.i))])) (fs:=fun(q:((Option Nat)×(List<|List Int)×Int×Int))=>(fun a:AV=>True)) hK (fun _ _=>rfl) (fun _ a q hq=>by
   simp only [List.mem_cons,List.not_mem_nil,or_false] at hq;subst hq;exact⟨_,(.tail _ (.head _)),_,_,rfl,(.tail _ (.head _))⟩) rfl rfl rfl ?_
  have J:=hK.start;generalize aT s=σ1 at J⊢;refine aD<|aE<|wu rfl<|wu rfl<|wu rfl<|cG (f:=aP) (l:=r15.expr.l) rfl (.no _)<|wu rfl<|wu rfl<|wu rfl<|cG (f:=aZ) (l:=r15.expr.aO) rfl (.no _)<|wu rfl<|wu rfl<|aB<|aQ ?_;obtain⟨o1058,h1058,u⟩:=bs u;have J:=J.aM 1 rfl;have J:=J.aM 1 rfl;refine eL (fun e=>ih_linear_clause_match_s0_i0_l0 _ _ _ _ _ _ _ _ _ _ h1058 e s _ ε16 κ18 or0_1 ℓ17 β1 or0_1 J) (.cons rfl<|.cons rfl<|.cons rfl<|.cons rfl .nil) ?_
  rintro _ _ _ hq
  rcases o1058 with q1059|q1060
  ·obtain⟨rfl,hq⟩:=hq;cases u;exact hq
  ·rcases q1060 with q1061|q1062
   ·obtain⟨rfl,hq⟩:=hq;cases u;exact⟨rfl,hq⟩
   ·obtain⟨rfl,w1063_1,e1064,rfl,J⟩:=hq;cases u;have J:=J.aM 1 rfl;have J:=J.aM 1 rfl;exact⟨rfl,_,fun _=>rfl,gJ rfl ⟨w1063_1,trivial,J⟩⟩
 ·intro _f0 _f1 ih_linear_clause_match_s0_i0_l0 ih_linear_clause_match_s0_r0 s1 c2 r15 c21 x1047 c1048 c1049 c1050 c1051 o u;intro e s sv ε16 κ18 or0_1 ℓ17 β1 ow0_1 J;refine dC<|aD<|aE<|wu rfl<|aB<|aD ?_;refine aH u rfl (fun hc u=> ?_)<|fun hc u=> ?_
  ·refine aN<|aD<|aQ<|aD<|aE<|wu rfl<|wu rfl<|aB<|aD<|aE<|wu rfl<|wu rfl<|wu rfl<|wu rfl ?_;obtain⟨r1052,h1052,u⟩:=bs u;refine wcD (bR h1052) rfl rfl (.cons rfl<|.cons rfl .nil) ?_;rcases Bool.eq_false_or_eq_true (c1048==(none:Option Nat)) with hc|hc
   ·replace u:=bP hc u;have J:=J.yZ (b1:= .loop ⟨eA none,bD none,bB ε16 [(2,(.aF (.ptr β1 0) 0)),(3,(.aF (aA s1) 0)),(17,(.func 168 [] [(.aF (aA r15) 0)]))],κ18,[18,19],Code.eH,Code.eG⟩) 0 rfl (by rw [eq_of_beq hc]);obtain⟨o1053,h1053,u⟩:=bs u;have J:=J.aM 1 rfl;have J:=J.aM 1 rfl;rcases o1053 with r1053|p1056
    ·refine cA rfl (bs1:= [(ℓ17,.loop ⟨eA none,bD none,bB ε16 [(2,(.aF (.ptr β1 0) 0)),(3,(.aF (aA s1) 0)),(17,(.func 168 [] [(.aF (aA r15) 0)]))],κ18,[18,19],Code.eH,Code.eG⟩),(β1,.cells [(.str c2),ow0_1,(.i c1050),(.i c1051)] true)]) (bs2:= []) (gs1:= [(ow0_1,1,(c1049.map<|aU 1<|AV.i))]) (gs2:= []) rfl J (fun hK=>ih_linear_clause_match_s0_r0 _ _ _ _ _ _ _ _ _ h1053 _ ε16 κ18 ℓ17 β1 ow0_1 hK) rfl rfl (fun _=>rfl) rfl (by exact(.cons rfl<|.cons rfl .nil)) rfl<|fun σ1054 a1055 hF J=> ?_;refine wu rfl<|aB ?_;refine aH u rfl (fun hc u=> ?_)<|fun hc u=> ?_
     ·refine aL ?_;cases u;have J:=J.aM 1 rfl;have J:=J.aM 1 rfl;exact⟨rfl,⟨rfl,_,fun _=>rfl,gJ rfl ⟨a1055,trivial,J⟩⟩⟩
     ·refine aN<|aE<|wu rfl<|wu rfl<|aB ?_;have J:=J.aM 1 rfl;have J:=J.aM 1 rfl;exact eL (fun e=>ih_linear_clause_match_s0_i0_l0 _ _ _ _ _ _ _ _ _ _ u e s _ ε16 κ18 or0_1 ℓ17 β1 a1055 J) (.cons rfl<|.cons rfl<|.cons rfl<|.cons rfl .nil)<|fun _ _ _ h=>h
    ·refine gS (bs1:= [(ℓ17,.loop ⟨eA none,bD none,bB ε16 [(2,(.aF (.ptr β1 0) 0)),(3,(.aF (aA s1) 0)),(17,(.func 168 [] [(.aF (aA r15) 0)]))],κ18,[18,19],Code.eH,Code.eG⟩),(β1,.cells [(.str c2),ow0_1,(.i c1050),(.i c1051)] true)]) (bs2:= []) (gs1:= [(ow0_1,1,(c1049.map<|aU 1<|AV.i))]) (gs2:= []) rfl J (fun hK=>ih_linear_clause_match_s0_r0 _ _ _ _ _ _ _ _ _ h1053 _ ε16 κ18 ℓ17 β1 ow0_1 hK) rfl rfl rfl (by exact(.cons rfl<|.cons rfl .nil)) rfl<|fun σ1057 J=> ?_;cases u;exact⟨rfl,_,fun _=>rfl,J.ext⟩
   ·replace u:=bO hc u;cases u
  ·refine dR ?_;cases u;have J:=J.aM 1 rfl;have J:=J.aM 1 rfl;exact⟨rfl,ow0_1,_,frE .nil,J⟩
 ·intro _f0 ih_linear_clause_look_s0 s1 c2 r15 x24 x25 c21 c22 c23 r u;intro s ε16 κ18 ℓ17 β1 or0_1 hK;refine aEP r (b:=fun q:((Option Nat)×(List<|List Int)×Int×Int)=>q.1.isNone) (bs:=fun(q:((Option Nat)×(List<|List Int)×Int×Int))=>(fun a:AV=> [(ℓ17,.loop ⟨eA q.1,bD q.1,bB ε16 [(2,(.aF (.ptr β1 0) 0)),(3,(.aF (aA s1) 0)),(17,(.func 168 [] [(.aF (aA r15) 0)]))],κ18,[18,19],Code.eH,Code.eG⟩),(β1,.cells [(.str c2),a,(.i q.2.2.1),(.i q.2.2.2)] true)])) (gs:=fun(q:((Option Nat)×(List<|List Int)×Int×Int))=>(fun a:AV=> [(a,1,(q.2.1.map<|aU 1<|AV.i))])) (fs:=fun(q:((Option Nat)×(List<|List Int)×Int×Int))=>(fun a:AV=>True)) rfl ?_;refine wB (lp:=⟨.ready,none,bB ε16 [(2,(.aF (.ptr β1 0) 0)),(3,(.aF (aA s1) 0)),(17,(.func 168 [] [(.aF (aA r15) 0)]))],κ18,[18,19],Code.eH,Code.eG⟩) (hK.b _<|.head _) rfl rfl ?_;have J:=hK.st;refine aD<|aE<|wu rfl<|aB<|aE<|wu rfl<|wu rfl<|aB ?_;obtain⟨σ26,hr27,J⟩:=J.iS 0 rfl rfl;refine⟨rfl,rfl,σ26,hr27,?_⟩;refine aQ<|aD<|aD<|aE<|wu rfl<|wu rfl<|aB ?_;refine aH u rfl (fun hc u=> ?_)<|fun hc u=> ?_
  ·refine dR ?_;cases u;obtain⟨σ28,hs29,J⟩:=J.dW 0 rfl (fun lp=>{lp with st:= .ready,pend:=none});have J:=J.aM 1 rfl;have J:=J.aM 1 rfl;exact⟨rfl,σ28,hs29,rfl,or0_1,trivial,J⟩
  ·refine aN<|aD<|aE<|wu rfl<|wu rfl<|wu rfl<|wu rfl<|wu rfl<|wu rfl<|wu rfl<|j1 1 rfl J rfl rfl rfl ?_;obtain⟨r30,h30,u⟩:=bs u;refine wcD (iW h30) rfl rfl (.cons rfl<|.cons rfl<|.cons rfl .nil) ?_;obtain⟨o31,ho31,u⟩:=bs u;rcases o31 with r31|p36
   ·refine cA rfl (bs1:= []) (bs2:= [(ℓ17,.loop ⟨.busy,none,bB ε16 [(2,(.aF (.ptr β1 0) 0)),(3,(.aF (aA s1) 0)),(17,(.func 168 [] [(.aF (aA r15) 0)]))],κ18,[18,19],Code.eH,Code.eG⟩),(β1,.cells [(.str c2),or0_1,(.i c22),(.i c23)] true)]) (gs1:= []) (gs2:= [(or0_1,1,(c21.map<|aU 1<|AV.i))]) rfl J (fun hK=>cP _ _ _ ho31 _ hK) rfl rfl (fun _=>rfl) rfl (by exact(.cons rfl<|.cons rfl .nil)) rfl<|fun σ32 a33 hF J=> ?_;refine aB<|aE<|wu rfl<|wu rfl ?_;obtain⟨o38,ho38,u⟩:=bs u;have J:=J.aM 1 rfl;rcases o38 with r38|p43
    ·refine cA rfl (bs1:= [(β1,.cells [(.str c2),or0_1,(.i c22),(.i c23)] true)]) (bs2:= [(ℓ17,.loop ⟨.busy,none,bB ε16 [(2,(.aF (.ptr β1 0) 0)),(3,(.aF (aA s1) 0)),(17,(.func 168 [] [(.aF (aA r15) 0)]))],κ18,[18,19],Code.eH,Code.eG⟩)]) (gs1:= [(or0_1,1,(c21.map<|aU 1<|AV.i))]) (gs2:= []) rfl J (fun hK=>ih_linear_clause_look_s0 _ _ _ _ _ _ ho38 _ β1 or0_1 hK) rfl rfl (fun _=>rfl) rfl (by exact(.cons rfl<|.cons rfl .nil)) rfl<|fun σ39 a40 hF J=> ?_;refine aB ?_;cases u;obtain⟨σ45,hs46,J⟩:=J.dW 1 rfl (fun lp=>{lp with st:= .ready,pend:=none});have J:=J.aM 1 rfl;exact⟨rfl,σ45,hs46,rfl,a40,trivial,J⟩
    ·refine gS (bs1:= [(β1,.cells [(.str c2),or0_1,(.i c22),(.i c23)] true)]) (bs2:= [(ℓ17,.loop ⟨.busy,none,bB ε16 [(2,(.aF (.ptr β1 0) 0)),(3,(.aF (aA s1) 0)),(17,(.func 168 [] [(.aF (aA r15) 0)]))],κ18,[18,19],Code.eH,Code.eG⟩)]) (gs1:= [(or0_1,1,(c21.map<|aU 1<|AV.i))]) (gs2:= []) rfl J (fun hK=>ih_linear_clause_look_s0 _ _ _ _ _ _ ho38 _ β1 or0_1 hK) rfl rfl rfl (by exact(.cons rfl<|.cons rfl .nil)) rfl<|fun σ44 J=> ?_;cases u;exact⟨rfl,rfl,J.ext⟩
   ·refine gS (bs1:= []) (bs2:= [(ℓ17,.loop ⟨.busy,none,bB ε16 [(2,(.aF (.ptr β1 0) 0)),(3,(.aF (aA s1) 0)),(17,(.func 168 [] [(.aF (aA r15) 0)]))],κ18,[18,19],Code.eH,Code.eG⟩),(β1,.cells [(.str c2),or0_1,(.i c22),(.i c23)] true)]) (gs1:= []) (gs2:= [(or0_1,1,(c21.map<|aU 1<|AV.i))]) rfl J (fun hK=>cP _ _ _ ho31 _ hK) rfl rfl rfl (by exact(.cons rfl<|.cons rfl .nil)) rfl<|fun σ37 J=> ?_;cases u;exact⟨rfl,rfl,J.ext⟩
 ·intro _f0 ih_linear_clause_look_s0 s1 c2 c3 c4 c5 r u;intro s β1 ρ1 hK;refine sR r (v:=fun q:((List<|List Int)×Int×Int)=>(.tuple [])) (bs:=fun(q:((List<|List Int)×Int×Int))=>(fun a:AV=> [(β1,.cells [(.str c2),a,(.i q.2.1),(.i q.2.2)] true)])) (gs:=fun(q:((List<|List Int)×Int×Int))=>(fun a:AV=> [(a,1,(q.1.map<|aU 1<|AV.i))])) (fs:=fun(q:((List<|List Int)×Int×Int))=>(fun a:AV=>True)) hK (fun _ _=>rfl) (fun _ a q hq=>by
   simp only [List.mem_cons,List.not_mem_nil,or_false] at hq;subst hq;exact⟨_,(.head _),_,_,rfl,(.tail _ (.head _))⟩) rfl rfl rfl ?_
  have J:=hK.start;generalize aT s=σ1 at J⊢;refine aD<|aE<|wu rfl<|aB<|aD<|aE<|wu rfl ?_;obtain⟨r6,hr6,u⟩:=bs u;refine wcD (bR hr6) rfl rfl (.cons rfl<|.cons rfl .nil)<|wu rfl<|wu rfl<|wu rfl<|j1 0 rfl J rfl rfl rfl ?_;obtain⟨r7,hr7,u⟩:=bs u;refine wcD (gO hr7) rfl rfl (.cons rfl<|.cons rfl<|.cons rfl<|.cons rfl .nil)<|wu rfl<|wu rfl ?_;obtain⟨or8,ho8,u⟩:=bs u;rcases or8 with r8|p13
  ·refine cA rfl (bs1:= []) (bs2:= [(β1,.cells [(.str c2),ρ1,(.i c4),(.i c5)] true)]) (gs1:= []) (gs2:= [(ρ1,1,(c3.map<|aU 1<|AV.i))]) rfl J (fun hK=>cP _ _ _ ho8 _ hK) rfl rfl (fun _=>rfl) rfl (by exact(.cons rfl<|.cons rfl .nil)) rfl<|fun σ9 a10 hF J=> ?_;refine aB<|aD<|aE<|wu rfl<|wu rfl ?_;obtain⟨r15,h15,u⟩:=bs u;refine wcD (bR h15) rfl rfl (.cons rfl<|.cons rfl .nil) ?_;obtain⟨o16,ho16,u⟩:=bs u;rcases o16 with r16|p21
   ·refine cA rfl (bs1:= [(β1,.cells [(.str c2),ρ1,(.i c4),(.i c5)] true)]) (bs2:= []) (gs1:= [(ρ1,1,(c3.map<|aU 1<|AV.i))]) (gs2:= []) rfl J (fun hK=>ih_linear_clause_look_s0 _ _ _ _ _ _ ho16 _ β1 ρ1 hK) rfl rfl (fun _=>rfl) rfl (by exact(.cons rfl<|.cons rfl .nil)) rfl<|fun σ17 a18 hF J=> ?_;refine aB<|aE<|wu rfl<|wu rfl ?_;obtain⟨r23,h23,u⟩:=bs u;refine wcD (bR h23) rfl rfl (.cons rfl<|.cons rfl .nil) ?_;obtain⟨o24,ho24,u⟩:=bs u;rcases o24 with r24|p29
    ·refine cA rfl (bs1:= [(β1,.cells [(.str c2),a18,(.i r16.2.1),(.i r16.2.2)] true)]) (bs2:= []) (gs1:= [(a18,1,(r16.1.map<|aU 1<|AV.i))]) (gs2:= []) rfl J (fun hK=>ih_linear_clause_look_s0 _ _ _ _ _ _ ho24 _ β1 a18 hK) rfl rfl (fun _=>rfl) rfl (by exact(.cons rfl<|.cons rfl .nil)) rfl<|fun σ25 a26 hF J=> ?_;refine aB ?_;cases u;exact⟨rfl,_,fun _=>rfl,gJ rfl ⟨a26,trivial,J⟩⟩
    ·refine gS (bs1:= [(β1,.cells [(.str c2),a18,(.i r16.2.1),(.i r16.2.2)] true)]) (bs2:= []) (gs1:= [(a18,1,(r16.1.map<|aU 1<|AV.i))]) (gs2:= []) rfl J (fun hK=>ih_linear_clause_look_s0 _ _ _ _ _ _ ho24 _ β1 a18 hK) rfl rfl rfl (by exact(.cons rfl<|.cons rfl .nil)) rfl<|fun σ30 J=> ?_;cases u;exact⟨rfl,_,fun _=>rfl,J.ext⟩
   ·refine gS (bs1:= [(β1,.cells [(.str c2),ρ1,(.i c4),(.i c5)] true)]) (bs2:= []) (gs1:= [(ρ1,1,(c3.map<|aU 1<|AV.i))]) (gs2:= []) rfl J (fun hK=>ih_linear_clause_look_s0 _ _ _ _ _ _ ho16 _ β1 ρ1 hK) rfl rfl rfl (by exact(.cons rfl<|.cons rfl .nil)) rfl<|fun σ22 J=> ?_;cases u;exact⟨rfl,_,fun _=>rfl,J.ext⟩
  ·refine gS (bs1:= []) (bs2:= [(β1,.cells [(.str c2),ρ1,(.i c4),(.i c5)] true)]) (gs1:= []) (gs2:= [(ρ1,1,(c3.map<|aU 1<|AV.i))]) rfl J (fun hK=>cP _ _ _ ho8 _ hK) rfl rfl rfl (by exact(.cons rfl<|.cons rfl .nil)) rfl<|fun σ14 J=> ?_;cases u;exact⟨rfl,_,fun _=>rfl,J.ext⟩
 ·intro _f0 ih_linear_clause_look_s0 s1 c2 c3 c4 c5 r u;intro s β1 ρ1 hK;refine sR r (v:=fun q:((List<|List Int)×Int×Int)=>(.tuple [])) (bs:=fun(q:((List<|List Int)×Int×Int))=>(fun a:AV=> [(β1,.cells [(.str c2),a,(.i q.2.1),(.i q.2.2)] true)])) (gs:=fun(q:((List<|List Int)×Int×Int))=>(fun a:AV=> [(a,1,(q.1.map<|aU 1<|AV.i))])) (fs:=fun(q:((List<|List Int)×Int×Int))=>(fun a:AV=>True)) hK (fun _ _=>rfl) (fun _ a q hq=>by
   simp only [List.mem_cons,List.not_mem_nil,or_false] at hq;subst hq;exact⟨_,(.head _),_,_,rfl,(.tail _ (.head _))⟩) rfl rfl rfl ?_
  have J:=hK.start;generalize aT s=σ1 at J⊢;refine aD<|aE<|wu rfl<|wu rfl<|aB<|aD<|aE<|wu rfl ?_;obtain⟨r6,hr6,u⟩:=bs u;refine wcD (bR hr6) rfl rfl (.cons rfl<|.cons rfl .nil)<|wu rfl ?_;obtain⟨r7,hr7,u⟩:=bs u;refine wcD (bR hr7) rfl rfl (.cons rfl<|.cons rfl .nil)<|wu rfl<|wu rfl<|wu rfl<|wu rfl<|aB<|aD<|aD<|aE<|wu rfl<|wu rfl ?_;obtain⟨r8,hr8,u⟩:=bs u;refine cA rfl (bs1:= [(β1,.cells [(.str c2),ρ1,(.i c4),(.i c5)] true)]) (bs2:= []) (gs1:= [(ρ1,1,(c3.map<|aU 1<|AV.i))]) (gs2:= []) rfl J (fun hK=>lF _ _ _ _ _ _ hr8 _ β1 ρ1 hK) rfl rfl (fun _=>rfl) rfl (by exact(.cons rfl<|.cons rfl .nil)) rfl<|fun σ9 a10 hF J=> ?_;refine aB ?_;refine aH u rfl (fun hc u=> ?_)<|fun hc u=> ?_
  ·refine aD<|aE<|wu rfl<|wu rfl ?_;obtain⟨o13,ho13,u⟩:=bs u;rcases o13 with r13|p18
   ·refine cA rfl (bs1:= [(β1,.cells [(.str c2),a10,(.i c4),(.i c5)] true)]) (bs2:= []) (gs1:= [(a10,1,(c3.map<|aU 1<|AV.i))]) (gs2:= []) rfl J (fun hK=>gA _ _ _ _ _ _ ho13 _ β1 a10 hK) rfl rfl (fun _=>rfl) rfl (by exact(.cons rfl<|.cons rfl .nil)) rfl<|fun σ14 a15 hF J=> ?_;refine aB<|aD<|aD<|aE<|wu rfl<|wu rfl<|wu rfl ?_;obtain⟨y20,h20,u⟩:=bs u;refine j5 (f:=AV.str) rfl (.no _) rfl h20 rfl<|wu rfl<|wu rfl<|wu rfl<|wu rfl<|j1 0 rfl J rfl rfl rfl<|wu rfl<|aB ?_;obtain⟨o21,h21,u⟩:=bs u;refine Wk.mono (Q:=fun ex fr s'=>(match o21 with| .ret oq0=>aK6 (nX oq0) (Ext [β1] (cL [(ρ1,1,(c3.map<|aU 1<|AV.i))]) s) ex fr s'| .nx oq1=>ex= .normal∧ ∃(e:Env),fr=⟨bB e [],[]⟩∧St [β1] (cL [(ρ1,1,(c3.map<|aU 1<|AV.i))]) s s' [(β1,.cells [(.str c2),a15,(.i r13.2.1),(.i r13.2.2)] true)] [(a15,1,(r13.1.map<|aU 1<|AV.i))])) ?_ ?_
    ·refine aH h21 rfl (fun hc h21=> ?_)<|fun hc h21=> ?_
     ·refine aE<|wu rfl<|wu rfl<|wu rfl<|wu rfl<|j1 0 rfl J rfl rfl rfl ?_;obtain⟨r22,h22,h21⟩:=bs h21;refine wcD (oA h22) rfl rfl (.cons rfl<|.cons rfl .nil)<|wu rfl<|wu rfl ?_;obtain⟨o23,ho23,h21⟩:=bs h21;rcases o23 with r23|p28
      ·refine cA rfl (bs1:= []) (bs2:= [(β1,.cells [(.str c2),a15,(.i r13.2.1),(.i r13.2.2)] true)]) (gs1:= []) (gs2:= [(a15,1,(r13.1.map<|aU 1<|AV.i))]) rfl J (fun hK=>cP _ _ _ ho23 _ hK) rfl rfl (fun _=>rfl) rfl (by exact(.cons rfl<|.cons rfl .nil)) rfl<|fun σ24 a25 hF J=> ?_;refine aB ?_;cases h21;exact⟨rfl,_,frE .nil,J⟩
      ·refine gS (bs1:= []) (bs2:= [(β1,.cells [(.str c2),a15,(.i r13.2.1),(.i r13.2.2)] true)]) (gs1:= []) (gs2:= [(a15,1,(r13.1.map<|aU 1<|AV.i))]) rfl J (fun hK=>cP _ _ _ ho23 _ hK) rfl rfl rfl (by exact(.cons rfl<|.cons rfl .nil)) rfl<|fun σ29 J=> ?_;cases h21;exact⟨rfl,_,fun _=>rfl,J.ext⟩
     ·refine aN ?_;cases h21;exact⟨rfl,_,frE .nil,J⟩
    ·rintro _ _ _ hq
     rcases o21 with q30|q31
     ·obtain⟨rfl,hq⟩:=hq;cases u;exact⟨rfl,hq⟩
     ·obtain⟨rfl,e33,rfl,J⟩:=hq;refine aL ?_;cases u;exact⟨rfl,_,fun _=>rfl,gJ rfl ⟨a15,trivial,J⟩⟩
   ·refine gS (bs1:= [(β1,.cells [(.str c2),a10,(.i c4),(.i c5)] true)]) (bs2:= []) (gs1:= [(a10,1,(c3.map<|aU 1<|AV.i))]) (gs2:= []) rfl J (fun hK=>gA _ _ _ _ _ _ ho13 _ β1 a10 hK) rfl rfl rfl (by exact(.cons rfl<|.cons rfl .nil)) rfl<|fun σ19 J=> ?_;cases u;exact⟨rfl,_,fun _=>rfl,J.ext⟩
  ·refine aN<|aD<|aE<|wu rfl<|wu rfl ?_;refine wgv (v:=(.slice 1 [(.func 172 [] [(.aF (aA r6) 0),(.aF (.ptr β1 0) 0)]),(.func 173 [] [(.aF (aA s1) 0),(.aF (.ptr β1 0) 0)])] .full)) rfl rfl (by kernel_rfl) ?_;obtain⟨r35,h35,u⟩:=bs u;refine cA rfl (bs1:= [(β1,.cells [(.str c2),a10,(.i c4),(.i c5)] true)]) (bs2:= []) (gs1:= [(a10,1,(c3.map<|aU 1<|AV.i))]) (gs2:= []) rfl J (fun hK=>xR _ _ _ _ _ _ _ h35 _ β1 a10 hK) rfl rfl (fun _=>rfl) rfl (by exact(.cons rfl .nil)) rfl<|fun σ36 a37 hF J=> ?_;refine wu rfl<|wu rfl<|wu rfl<|wu rfl<|wu rfl<|aB<|aD<|aE<|wu rfl<|wu rfl ?_;obtain⟨o40,ho40,u⟩:=bs u;rcases o40 with r40|p45
   ·refine cA rfl (bs1:= []) (bs2:= [(β1,.cells [(.str c2),a37,(.i c4),(.i c5)] true)]) (gs1:= []) (gs2:= [(a37,1,(c3.map<|aU 1<|AV.i))]) rfl J (fun hK=>cP _ _ _ ho40 _ hK) rfl rfl (fun _=>rfl) rfl (by exact(.cons rfl<|.cons rfl .nil)) rfl<|fun σ41 a42 hF J=> ?_;refine aB<|aE<|wu rfl<|wu rfl ?_;obtain⟨o47,ho47,u⟩:=bs u;rcases o47 with r47|p52
    ·refine cA rfl (bs1:= [(β1,.cells [(.str c2),a37,(.i c4),(.i c5)] true)]) (bs2:= []) (gs1:= [(a37,1,(c3.map<|aU 1<|AV.i))]) (gs2:= []) rfl J (fun hK=>ih_linear_clause_look_s0 _ _ _ _ _ _ ho47 _ β1 a37 hK) rfl rfl (fun _=>rfl) rfl (by exact(.cons rfl<|.cons rfl .nil)) rfl<|fun σ48 a49 hF J=> ?_;refine aB ?_;cases u;exact⟨rfl,_,fun _=>rfl,gJ rfl ⟨a49,trivial,J⟩⟩
    ·refine gS (bs1:= [(β1,.cells [(.str c2),a37,(.i c4),(.i c5)] true)]) (bs2:= []) (gs1:= [(a37,1,(c3.map<|aU 1<|AV.i))]) (gs2:= []) rfl J (fun hK=>ih_linear_clause_look_s0 _ _ _ _ _ _ ho47 _ β1 a37 hK) rfl rfl rfl (by exact(.cons rfl<|.cons rfl .nil)) rfl<|fun σ53 J=> ?_;cases u;exact⟨rfl,_,fun _=>rfl,J.ext⟩
   ·refine gS (bs1:= []) (bs2:= [(β1,.cells [(.str c2),a37,(.i c4),(.i c5)] true)]) (gs1:= []) (gs2:= [(a37,1,(c3.map<|aU 1<|AV.i))]) rfl J (fun hK=>cP _ _ _ ho40 _ hK) rfl rfl rfl (by exact(.cons rfl<|.cons rfl .nil)) rfl<|fun σ46 J=> ?_;cases u;exact⟨rfl,_,fun _=>rfl,J.ext⟩
theorem lZ: ∀(s1:aC)(c2:Str)(c3:(List<|List Int))(c4:Int)(c5:Int)(r:(Ctl ((List<|List Int)×Int×Int) Pan)),bW s1 c2 c3 c4 c5=some r→jT s1 c2 c3 c4 c5 r:=qD.2.1
noncomputable def kI(b1:aC)(k2:Str):Option ((Option kJ)×(List Int)×Int):=
 ((bW b1 k2 ([]:(List (List Int))) (0) (0))>>=fun or9=>
 (match or9 with
 | .ret r9=>(oF ([]:(List Int)) (0)>>=fun r18=>
 some ((some (kJ.mk k2 r9.1 (aGN.mk r9.2.1 r9.2.2))),r18.1,r18.2))
 | .nx p14=>(match p14 with
 | .wV x23=>(oU x23 ([]:(List Int)) (0)>>=fun r24=>
 some ((none:Option kJ),r24.1,r24.2))
 | .aR2 x23=>none)))
theorem lN: ∀(b1:aC)(k2:Str)(r:((Option kJ)×(List Int)×Int)),kI b1 k2=some r→ ∀s:ASt,Fc PP (.func 48) [(aA b1),(.str k2)] s (aOL s (fun a:(Nat×AV)=>(.tuple [(.ptr a.1 0),(slA 1<|r.2.1.map<|AV.i),(.i r.2.2)])) (fun a:(Nat×AV)=>nwB a.1 r.1 (fun c:kJ=> [(.str c.k),a.2,(.i c.xB.e0),(.i c.xB.e1)])) (fun a:(Nat×AV)=>nwG r.1 (fun c:kJ=> [(a.2,1,(c.sites.map<|aU 1<|AV.i))])) (fun a:(Nat×AV)=>True)):=by
 intro b1 k2 r u;unfold kI at u;intro s;refine aOD (fun _=>rfl) (fun _=>by simp only [m9,iO,Bool.true_or,Bool.or_true]) (fun _ h=>aRt h) rfl rfl rfl ?_;have J:=St.clean s;generalize aT s=σ1 at J⊢;refine aD<|aE<|wu rfl<|wv rfl ?_;refine kG rfl J rfl<|fun β3 σ4 J=> ?_;refine kG rfl J rfl<|fun β5 σ6 J=> ?_;refine aB<|aD<|aE<|aNK rfl (.cons rfl<|.cons rfl .nil) rfl<|aB<|aD<|aE<|wu rfl ?_;refine wgv (v:=(.agg [(.str k2),(.slice 0 (([]:(List<|List Int)).map<|aU 1<|AV.i) .full),(.i<|0),(.i<|0)])) rfl rfl (by kernel_rfl) ?_;refine aMe (cs:= [(.str k2),(.slice 0 (([]:(List<|List Int)).map<|aU 1<|AV.i) .full),(.i<|0),(.i<|0)]) rfl J rfl rfl (.cons (tkN rfl)<|.cons (tkN rfl)<|.cons (tkN rfl)<|.cons (tkN rfl) .nil)<|fun β7 σ8 J=> ?_;refine wu rfl<|aB<|aD<|aE<|wu rfl<|wu rfl ?_;obtain⟨or9,ho9,u⟩:=bs u;have J:=J.nil 0 1;rcases or9 with r9|p14
 ·refine cA rfl (bs1:= [(β7,.cells [(.str k2),(.slice 0 (([]:(List<|List Int)).map<|aU 1<|AV.i) .full),(.i<|0),(.i<|0)] true)]) (bs2:= [(β5,.cells [(.i<|0)] true),(β3,.cells [(.slice 0 (([]:(List Int)).map<|AV.i) .full)] true)]) (gs1:= [((.slice 0 (([]:(List<|List Int)).map<|aU 1<|AV.i) .full),1,(([]:(List<|List Int)).map<|aU 1<|AV.i))]) (gs2:= []) rfl J (fun hK=>lZ _ _ _ _ _ _ ho9 _ β7 (.slice 0 (([]:(List<|List Int)).map<|aU 1<|AV.i) .full) hK) rfl rfl (fun _=>rfl) rfl (by exact(.cons rfl<|.cons rfl .nil)) rfl<|fun σ10 a11 hF J=> ?_;refine aB<|aD<|aE<|wu rfl<|wu rfl ?_;refine bV (ds':= [(.slice 0 (([]:(List Int)).map<|AV.i) .full)]) (cs':= [(.slice 0 (([]:(List Int)).map<|AV.i) .full)]) 2 rfl J rfl rfl rfl rfl rfl (Nat.le_of_ble_eq_true rfl) (.cons (tkN rfl) .nil) (by kernel_rfl)<|fun σ16 J=> ?_;refine bV (ds':= [(.i<|0)]) (cs':= [(.i<|0)]) 1 rfl J rfl rfl rfl rfl rfl (Nat.le_of_ble_eq_true rfl) (.cons (tkN rfl) .nil) (by kernel_rfl)<|fun σ17 J=> ?_;refine aB<|aL ?_;obtain⟨r18,h18,u⟩:=bs u;have J:=J.aM 1 rfl;have J:=J.aM 2 rfl;refine aRI (bs1:= [(β3,.cells [(.slice 0 (([]:(List Int)).map<|AV.i) .full)] true),(β5,.cells [(.i<|0)] true)]) (bs2:= [(β7,.cells [(.str k2),a11,(.i r9.2.1),(.i r9.2.2)] true)]) (gs1:= []) (gs2:= [(a11,1,(r9.1.map<|aU 1<|AV.i))]) (m:= .ret) rfl rfl J (fun hK=>wY _ _ _ h18 _ β3 β5 (.slice 0 (([]:(List Int)).map<|AV.i) .full) (.full<|.inr rfl) hK) rfl rfl (fun _=>rfl)<|fun σ19 a20 hF J=> ?_;have h21:=hF;cases u;have hR:=J;have J:=J.aM 2 rfl;exact aPR (tX.eq<|.cons rfl<|.cons (lT hR 0 rfl rfl rfl)<|.cons (lT hR 1 rfl rfl rfl) .nil) (.cons rfl<|.cons (h21).fix<|.cons rfl .nil) ⟨(β7,a11),rfl,True.intro,(J.tJ 1)⟩
 ·refine gS (bs1:= [(β7,.cells [(.str k2),(.slice 0 (([]:(List<|List Int)).map<|aU 1<|AV.i) .full),(.i<|0),(.i<|0)] true)]) (bs2:= [(β5,.cells [(.i<|0)] true),(β3,.cells [(.slice 0 (([]:(List Int)).map<|AV.i) .full)] true)]) (gs1:= [((.slice 0 (([]:(List<|List Int)).map<|aU 1<|AV.i) .full),1,(([]:(List<|List Int)).map<|aU 1<|AV.i))]) (gs2:= []) rfl J (fun hK=>lZ _ _ _ _ _ _ ho9 _ β7 (.slice 0 (([]:(List<|List Int)).map<|aU 1<|AV.i) .full) hK) rfl rfl rfl (by exact(.cons rfl<|.cons rfl .nil)) rfl<|fun σ15 J=> ?_;rcases p14 with x23|x23
  ·obtain⟨r24,h24,u⟩:=bs u;have J:=J.aM 1 rfl;refine aRI (bs1:= [(β3,.cells [(.slice 0 (([]:(List Int)).map<|AV.i) .full)] true),(β5,.cells [(.i<|0)] true)]) (bs2:= []) (gs1:= []) (gs2:= []) (m:= .pan (nX<|.wV x23)) rfl rfl J (fun hK=>wU _ _ _ _ h24 _ β3 β5 (.slice 0 (([]:(List Int)).map<|AV.i) .full) (.full<|.inr rfl) hK) rfl rfl (fun _=>rfl)<|fun σ25 a26 hF J=> ?_;have h27:=hF;cases u;have hR:=J;exact aPR (tX.eq<|.cons rfl<|.cons (lT hR 0 rfl rfl rfl)<|.cons (lT hR 1 rfl rfl rfl) .nil) (.cons rfl<|.cons (h27).fix<|.cons rfl .nil) ⟨(β7,fA),rfl,True.intro,(J.tJ 0)⟩
  ·cases u
noncomputable def fZ(b1:Expr)(k2:Str):Option (Int×(List Int)×Int):=
 ((gB b1 k2)>>=fun r3=>
 (if(r3 !=(0))=true then some ((0),([]:(List Int)),r3)
 else((kI (aC.mk b1 ([]:(List Int))) k2)>>=fun r4=>
 (match r4 with
 |(none,r6,r7)=>(if(r7 !=(0))=true then some ((0),r6,r7)
 else none)
 |(some c5,r6,r7)=>(if(r7 !=(0))=true then some ((0),r6,r7)
 else((if(decide (c5.xB.e0>(0)))=true then some (decide (c5.xB.e1>(0)))
 else some false:Option Bool)>>=fun c12=>
 (if c12=true then some ((2),([]:(List Int)),(0))
 else(if(decide (c5.xB.e0>(0)))=true then some ((0),([]:(List Int)),(0))
 else(if(decide (c5.xB.e1>(0)))=true then some ((1),([]:(List Int)),(0))
 else some ((3),([]:(List Int)),(0)))))))))))
theorem aAI: ∀(b1:Expr)(k2:Str)(r:(Int×(List Int)×Int)),fZ b1 k2=some r→ ∀s:ASt,Fc PP (.func 15) [(aR b1),(.str k2)] s (dZ s<|.tuple [(.i r.1),(slA 1<|r.2.1.map<|AV.i),(.i r.2.2)]):=by
 intro b1 k2 r u;unfold fZ at u;intro s;refine bZ rfl rfl rfl ?_;have J:=St.clean s;generalize aT s=σ1 at J⊢;refine aD<|aE<|wu rfl<|wu rfl<|wu rfl<|wu rfl<|aB<|aD<|aD<|aE<|wu rfl<|wu rfl ?_;obtain⟨r3,hr3,u⟩:=bs u;refine wcD (nG hr3) rfl rfl (.cons rfl<|.cons rfl .nil)<|wu rfl<|aB<|aD<|aE<|wu rfl<|wu rfl<|aB ?_;refine aH u rfl (fun hc u=> ?_)<|fun hc u=> ?_
 ·refine aD<|aE<|wu rfl<|wu rfl<|wu rfl<|wu rfl<|aB<|aL ?_;cases u;exact⟨rfl,_,fun _=>rfl,fN rfl (.cons rfl<|.cons rfl<|.cons rfl .nil) J.ext⟩
 ·refine aN<|aD<|aE<|wu rfl ?_;refine wgv (v:=(.agg [(.i b1.kind),(.i b1.n),(.str b1.s),(.str b1.t),(slA 1<|b1.names.map AV.str),(slA 7<|b1.l.map aP),(slA 9<|b1.aO.map aZ),(.slice 0 (([]:(List Int)).map<|AV.i) .full)])) rfl rfl (by kernel_rfl) ?_;refine wu rfl ?_;obtain⟨r4,hr4,u⟩:=bs u;rcases r4 with ⟨_|c5,r6,r7⟩
  ·refine aEn rfl J (lN _ _ _ hr4 _) rfl (by exact(.cons rfl<|.cons rfl .nil)) rfl<|fun σ8 a11 hF J=> ?_;obtain⟨β9,a10⟩:=a11;replace J:St [] [] s σ8 [] []:=J;refine wu rfl<|wu rfl<|wu rfl<|wu rfl<|wu rfl<|wu rfl<|wu rfl<|aB<|aD<|aQ<|aD<|aE<|wu rfl<|wu rfl<|wu rfl ?_;refine aB ?_;refine aH u rfl (fun hc u=> ?_)<|fun hc u=> ?_
   ·refine aD<|aE<|wu rfl<|wu rfl<|wu rfl<|wu rfl<|wu rfl<|aB<|aL ?_;cases u;exact⟨rfl,_,fun _=>rfl,fN rfl (.cons rfl<|.cons rfl<|.cons rfl .nil) J.ext⟩
   ·refine aD<|aE<|wu rfl ?_;cases u
  ·refine aEn rfl J (lN _ _ _ hr4 _) rfl (by exact(.cons rfl<|.cons rfl .nil)) rfl<|fun σ8 a11 hF J=> ?_;obtain⟨β9,a10⟩:=a11;replace J:St [] [] s σ8 [(β9,.cells [(.str c5.k),a10,(.i c5.xB.e0),(.i c5.xB.e1)] true)] [(a10,1,(c5.sites.map<|aU 1<|AV.i))]:=J;refine wu rfl<|wu rfl<|wu rfl<|wu rfl<|wu rfl<|wu rfl<|wu rfl<|aB<|aD<|aQ<|aD<|aE<|wu rfl<|wu rfl<|wu rfl ?_;refine aB ?_;refine aH u rfl (fun hc u=> ?_)<|fun hc u=> ?_
   ·refine aD<|aE<|wu rfl<|wu rfl<|wu rfl<|wu rfl<|wu rfl<|aB<|aL ?_;cases u;exact⟨rfl,_,fun _=>rfl,fN rfl (.cons rfl<|.cons rfl<|.cons rfl .nil) J.ext⟩
   ·refine aD<|aE<|wu rfl<|wu rfl<|wu rfl<|wu rfl<|j1 0 rfl J rfl rfl rfl<|wu rfl<|wu rfl ?_;obtain⟨c12,h12,u⟩:=bs u;refine bF 7 [(8,(.ptr β9 0)),(44,(.bool c12))] σ8 ?_<|fun e=> ?_
    ·refine bE (t:=37) rfl (fun hc=> ?_)<|fun hc=> ?_
     ·replace h12:=bP hc h12;refine wu rfl<|wu rfl<|wu rfl<|wu rfl<|j1 0 rfl J rfl rfl rfl<|wu rfl<|wu rfl<|aB ?_;cases h12;exact Kept.mk rfl<|.cons rfl<|.cons rfl .nil
     ·replace h12:=bO hc h12;refine wu rfl<|wu rfl<|wu rfl<|wu rfl<|wu rfl<|wu rfl<|wu rfl<|aB ?_;cases h12;exact Kept.mk rfl<|.cons rfl<|.cons rfl .nil
    ·refine wu rfl<|aB ?_;refine aH u rfl (fun hc u=> ?_)<|fun hc u=> ?_
     ·refine aD<|aE<|wu rfl<|wu rfl<|wu rfl<|aB<|aL ?_;cases u;exact⟨rfl,_,fun _=>rfl,fN rfl (.cons rfl<|.cons rfl<|.cons rfl .nil) J.ext⟩
     ·refine aD<|aE<|wu rfl<|wu rfl<|wu rfl<|wu rfl<|j1 0 rfl J rfl rfl rfl<|wu rfl<|wu rfl<|aB ?_;refine aH u rfl (fun hc u=> ?_)<|fun hc u=> ?_
      ·refine aD<|aE<|wu rfl<|wu rfl<|wu rfl<|aB<|aL ?_;cases u;exact⟨rfl,_,fun _=>rfl,fN rfl (.cons rfl<|.cons rfl<|.cons rfl .nil) J.ext⟩
      ·refine aD<|aE<|wu rfl<|wu rfl<|wu rfl<|wu rfl<|j1 0 rfl J rfl rfl rfl<|wu rfl<|wu rfl<|aB ?_;refine aH u rfl (fun hc u=> ?_)<|fun hc u=> ?_
       ·refine aD<|aE<|wu rfl<|wu rfl<|wu rfl<|aB<|aL ?_;cases u;exact⟨rfl,_,fun _=>rfl,fN rfl (.cons rfl<|.cons rfl<|.cons rfl .nil) J.ext⟩
       ·refine aN<|aD<|aE<|wu rfl<|wu rfl<|wu rfl<|aB<|aL ?_;cases u;exact⟨rfl,_,fun _=>rfl,fN rfl (.cons rfl<|.cons rfl<|.cons rfl .nil) J.ext⟩
theorem aAH{b1:Expr}{k2:Str}{r:(Int×(List Int)×Int)}(h:fZ b1 k2=some r):Pf PP 15 [(aR b1),(.str k2)] (.tuple [(.i r.1),(slA 1<|r.2.1.map<|AV.i),(.i r.2.2)]):=Pf.fG (aAI b1 k2 r h _) (yR<|.cons rfl<|.cons (pS (fun _=>rfl) _)<|.cons rfl<|.nil) (.cons (gQ _)<|.cons ⟨rfl,rfl⟩ .nil)
noncomputable def iH(s1:aC)(k2:Str):Option Bool:=
 ((cM s1 k2 false false)>>=fun r3=>
 some (!r3.2))
theorem v3: ∀(s1:aC)(k2:Str)(r:Bool),iH s1 k2=some r→ ∀s:ASt,Fc PP (.func 47) [(aA s1),(.str k2)] s (dZ s<|.bool r):=by
 intro s1 k2 r u;unfold iH at u;intro s;refine bZ rfl rfl rfl ?_;have J:=St.clean s;generalize aT s=σ1 at J⊢;refine aD<|aE<|wu rfl<|wu rfl<|aB<|aD<|aE<|wu rfl<|wu rfl ?_;obtain⟨r3,hr3,u⟩:=bs u;refine wcD (gO hr3) rfl rfl (.cons rfl<|.cons rfl<|.cons rfl<|.cons rfl .nil)<|wu rfl<|wu rfl<|wu rfl<|wu rfl<|wu rfl<|aB<|aD<|aE<|wu rfl<|wu rfl<|wu rfl<|aB<|aL ?_;cases u;exact⟨rfl,_,fun _=>rfl,bK rfl rfl rfl rfl J.ext⟩
theorem wE{s1:aC}{k2:Str}{r:Bool}(h:iH s1 k2=some r):Pf PP 47 [(aA s1),(.str k2)] (.bool r):=Pf.fG (v3 s1 k2 r h _) rfl (.cons (eK _)<|.cons ⟨rfl,rfl⟩ .nil)
noncomputable def lL(e1:Expr)(k2:Str):Option (Bool×Int):=
 ((gB e1 k2)>>=fun r3=>
 (if(r3 !=(0))=true then some (false,r3)
 else((iH (aC.mk e1 ([]:(List Int))) k2)>>=fun r4=>
 some (r4,(0)))))
theorem aBi: ∀(e1:Expr)(k2:Str)(r:(Bool×Int)),lL e1 k2=some r→ ∀s:ASt,Fc PP (.func 13) [(aR e1),(.str k2)] s (dZ s<|.tuple [(.bool r.1),(.i r.2)]):=by
 intro e1 k2 r u;unfold lL at u;intro s;refine bZ rfl rfl rfl ?_;have J:=St.clean s;generalize aT s=σ1 at J⊢;refine aD<|aE<|wu rfl<|wu rfl<|wu rfl<|aB<|aD<|aD<|aE<|wu rfl<|wu rfl ?_;obtain⟨r3,hr3,u⟩:=bs u;refine wcD (nG hr3) rfl rfl (.cons rfl<|.cons rfl .nil)<|wu rfl<|aB<|aD<|aE<|wu rfl<|wu rfl<|aB ?_;refine aH u rfl (fun hc u=> ?_)<|fun hc u=> ?_
 ·refine aD<|aE<|wu rfl<|wu rfl<|wu rfl<|aB<|aL ?_;cases u;exact⟨rfl,_,fun _=>rfl,fN rfl (.cons rfl<|.cons rfl .nil) J.ext⟩
 ·refine aN<|aD<|aE<|wu rfl ?_;refine wgv (v:=(.agg [(.i e1.kind),(.i e1.n),(.str e1.s),(.str e1.t),(slA 1<|e1.names.map AV.str),(slA 7<|e1.l.map aP),(slA 9<|e1.aO.map aZ),(.slice 0 (([]:(List Int)).map<|AV.i) .full)])) rfl rfl (by kernel_rfl) ?_;refine wu rfl ?_;obtain⟨r4,hr4,u⟩:=bs u;refine wcD (wE hr4) rfl rfl (.cons rfl<|.cons rfl .nil)<|wu rfl<|wu rfl<|aB<|aL ?_;cases u;exact⟨rfl,_,fun _=>rfl,fN rfl (.cons rfl<|.cons rfl .nil) J.ext⟩
theorem aBu{e1:Expr}{k2:Str}{r:(Bool×Int)}(h:lL e1 k2=some r):Pf PP 13 [(aR e1),(.str k2)] (.tuple [(.bool r.1),(.i r.2)]):=Pf.fG (aBi e1 k2 r h _) (yR<|.cons rfl<|.cons rfl<|.nil) (.cons (gQ _)<|.cons ⟨rfl,rfl⟩ .nil)
noncomputable def iJ(b1:Expr)(k2:Str):Option ((List<|List Int)×Int):=
 ((gB b1 k2)>>=fun r3=>
 (if(r3 !=(0))=true then some (([]:(List (List Int))),r3)
 else((kI (aC.mk b1 ([]:(List Int))) k2)>>=fun r4=>
 (match r4 with
 |(none,r6,r7)=>(if(r7 !=(0))=true then some (([]:(List (List Int))),r7)
 else none)
 |(some c5,r6,r7)=>(if(r7 !=(0))=true then some (([]:(List (List Int))),r7)
 else some (c5.sites,(0)))))))
theorem aBx: ∀(b1:Expr)(k2:Str)(r:((List<|List Int)×Int)),iJ b1 k2=some r→ ∀s:ASt,Fc PP (.func 18) [(aR b1),(.str k2)] s (dZ s<|.tuple [(slA 1<|r.1.map<|aU 1<|AV.i),(.i r.2)]):=by
 intro b1 k2 r u;unfold iJ at u;intro s;refine bZ rfl rfl rfl ?_;have J:=St.clean s;generalize aT s=σ1 at J⊢;refine aD<|aE<|wu rfl<|wu rfl<|wu rfl<|aB<|aD<|aD<|aE<|wu rfl<|wu rfl ?_;obtain⟨r3,hr3,u⟩:=bs u;refine wcD (nG hr3) rfl rfl (.cons rfl<|.cons rfl .nil)<|wu rfl<|aB<|aD<|aE<|wu rfl<|wu rfl<|aB ?_;refine aH u rfl (fun hc u=> ?_)<|fun hc u=> ?_
 ·refine aD<|aE<|wu rfl<|wu rfl<|wu rfl<|aB<|aL ?_;cases u;exact⟨rfl,_,fun _=>rfl,fN rfl (.cons rfl<|.cons rfl .nil) J.ext⟩
 ·refine aN<|aD<|aE<|wu rfl ?_;refine wgv (v:=(.agg [(.i b1.kind),(.i b1.n),(.str b1.s),(.str b1.t),(slA 1<|b1.names.map AV.str),(slA 7<|b1.l.map aP),(slA 9<|b1.aO.map aZ),(.slice 0 (([]:(List Int)).map<|AV.i) .full)])) rfl rfl (by kernel_rfl) ?_;refine wu rfl ?_;obtain⟨r4,hr4,u⟩:=bs u;rcases r4 with ⟨_|c5,r6,r7⟩
  ·refine aEn rfl J (lN _ _ _ hr4 _) rfl (by exact(.cons rfl<|.cons rfl .nil)) rfl<|fun σ8 a11 hF J=> ?_;obtain⟨β9,a10⟩:=a11;replace J:St [] [] s σ8 [] []:=J;refine wu rfl<|wu rfl<|wu rfl<|wu rfl<|wu rfl<|wu rfl<|wu rfl<|aB<|aD<|aD<|aE<|wu rfl<|wu rfl<|aB ?_;refine aH u rfl (fun hc u=> ?_)<|fun hc u=> ?_
   ·refine aD<|aE<|wu rfl<|wu rfl<|wu rfl<|aB<|aL ?_;cases u;exact⟨rfl,_,fun _=>rfl,fN rfl (.cons rfl<|.cons rfl .nil) J.ext⟩
   ·refine aN<|aD<|aE<|wu rfl ?_;cases u
  ·refine aEn rfl J (lN _ _ _ hr4 _) rfl (by exact(.cons rfl<|.cons rfl .nil)) rfl<|fun σ8 a11 hF J=> ?_;obtain⟨β9,a10⟩:=a11;replace J:St [] [] s σ8 [(β9,.cells [(.str c5.k),a10,(.i c5.xB.e0),(.i c5.xB.e1)] true)] [(a10,1,(c5.sites.map<|aU 1<|AV.i))]:=J;refine wu rfl<|wu rfl<|wu rfl<|wu rfl<|wu rfl<|wu rfl<|wu rfl<|aB<|aD<|aD<|aE<|wu rfl<|wu rfl<|aB ?_;refine aH u rfl (fun hc u=> ?_)<|fun hc u=> ?_
   ·refine aD<|aE<|wu rfl<|wu rfl<|wu rfl<|aB<|aL ?_;cases u;exact⟨rfl,_,fun _=>rfl,fN rfl (.cons rfl<|.cons rfl .nil) J.ext⟩
   ·refine aN<|aD<|aE<|wu rfl<|wu rfl<|wu rfl<|j1 0 rfl J rfl rfl rfl<|wv rfl<|wu rfl<|aB<|aL ?_;cases u;exact⟨rfl,_,fun _=>rfl,fN rfl (.cons ((J.slG 0 rfl)).fix<|.cons rfl .nil) J.ext⟩
theorem aBl{b1:Expr}{k2:Str}{r:((List<|List Int)×Int)}(h:iJ b1 k2=some r):Pf PP 18 [(aR b1),(.str k2)] (.tuple [(slA 1<|r.1.map<|aU 1<|AV.i),(.i r.2)]):=Pf.fG (aBx b1 k2 r h _) (yR<|.cons (pS (aOq<|fun _=>rfl) _)<|.cons rfl<|.nil) (.cons (gQ _)<|.cons ⟨rfl,rfl⟩ .nil)
noncomputable def lH(l1:(List Str))(s2:Str)(i3:Int):Option (Ctl Int Unit):=
 (if(decide (i3<(l1.length:Int)))=true then((idx l1 i3)>>=fun y4=>
 (if(y4==s2)=true then some (.ret i3)
 else lH (nf l1) (nf s2) (IntKind.wrap .i64 (i3+(1)))))
 else some (.nx ()))
 partial_fixpoint
abbrev wA(l1:(List Str))(s2:Str)(i3:Int)(o:(Ctl Int Unit)):Prop:= ∀(e:Env)(s sv:ASt),St [] [] s sv [] []→Wk PP none Code.aPM ⟨bB e [(0,(slA 1<|l1.map AV.str)),(1,(.str s2)),(5,(.i i3))],[]⟩ sv (fun ex fr s'=>(match o with| .ret oq0=>ex= .ret∧rP PP Code.c98 (VQ (.i oq0)<|Ext [] [] s) ex fr s'| .nx oq1=>ex= .exit 0∧ ∃(e:Env),fr=⟨bB e [],[]⟩∧sv=s'))
theorem aBb: ∀(l1:(List Str))(s2:Str)(i3:Int)(o:(Ctl Int Unit)),lH l1 s2 i3=some o→wA l1 s2 i3 o:=by
 refine lH.partial_correctness (wA) ?_;intro _f ih_r01_Index_l0 l1 s2 i3 o u;intro e s sv J;refine dC<|aD<|aD<|aE<|wu rfl<|wu rfl<|cG (f:=AV.str) (l:=l1) rfl (.no _)<|wu rfl<|aB ?_;refine aH u rfl (fun hc u=> ?_)<|fun hc u=> ?_
 ·refine aN<|aD<|aQ<|aD<|aE<|wu rfl<|wu rfl ?_;obtain⟨y4,hy4,u⟩:=bs u;refine j5 (f:=AV.str) rfl (.no _) rfl hy4 rfl<|wu rfl<|wu rfl<|wu rfl<|aB ?_;refine aH u rfl (fun hc u=> ?_)<|fun hc u=> ?_
  ·refine aD<|aE<|wu rfl<|wu rfl<|aB<|aL ?_;cases u;exact⟨rfl,⟨rfl,_,fun _=>rfl,bK rfl rfl rfl rfl J.ext⟩⟩
  ·refine aN<|aE<|wu rfl<|wu rfl<|wu rfl<|aB ?_;exact eL (fun e=>ih_r01_Index_l0 _ _ _ _ u e s _ J) (.cons rfl<|.cons rfl<|.cons rfl .nil)<|fun _ _ _ h=>h
 ·refine dR ?_;cases u;exact⟨rfl,_,frE .nil,rfl⟩
noncomputable def qQ(l1:(List Str))(s2:Str):Option Int:=
 ((lH l1 s2 (0))>>=fun o5=>
 (match o5 with
 | .ret q6=>some q6
 | .nx q7=>some (-1)))
theorem aEF: ∀(l1:(List Str))(s2:Str)(r:Int),qQ l1 s2=some r→ ∀s:ASt,Fc PP (.func 98) [(slA 1<|l1.map AV.str),(.str s2)] s (dZ s<|.i r):=by
 intro l1 s2 r u;unfold qQ at u;intro s;refine bZ rfl rfl rfl ?_;have J:=St.clean s;generalize aT s=σ1 at J⊢;refine aD<|aE<|wu rfl<|aB<|aD<|aD<|aE<|wu rfl<|aB<|aQ ?_;obtain⟨o5,ho5,u⟩:=bs u;refine eL (fun e=>aBb _ _ _ _ ho5 e s _ J) (.cons rfl<|.cons rfl<|.cons rfl .nil) ?_
 rintro _ _ _ hq
 rcases o5 with q6|q7
 ·obtain⟨rfl,hq⟩:=hq;cases u;exact hq
 ·obtain⟨rfl,e9,rfl,rfl⟩:=hq;refine aD<|aE<|wu rfl<|aB<|aL ?_;cases u;exact⟨rfl,_,fun _=>rfl,bK rfl rfl rfl rfl J.ext⟩
theorem aET{l1:(List Str)}{s2:Str}{r:Int}(h:qQ l1 s2=some r):Pf PP 98 [(slA 1<|l1.map AV.str),(.str s2)] (.i r):=Pf.fG (aEF l1 s2 r h _) rfl (.cons (sO<|fV (fun _=>rfl) _)<|.cons ⟨rfl,rfl⟩ .nil)
noncomputable def oY(l1:(List Str))(s2:Str):Option Bool:=
 ((qQ l1 s2)>>=fun r3=>
 some (decide (r3≥(0))))
theorem aIl: ∀(l1:(List Str))(s2:Str)(r:Bool),oY l1 s2=some r→ ∀s:ASt,Fc PP (.func 63) [(slA 1<|l1.map AV.str),(.str s2)] s (dZ s<|.bool r):=by
 intro l1 s2 r u;unfold oY at u;intro s;refine bZ rfl rfl rfl ?_;have J:=St.clean s;generalize aT s=σ1 at J⊢;refine aD<|aE<|wu rfl<|aB<|aD<|aE<|wu rfl<|wu rfl ?_;obtain⟨r3,hr3,u⟩:=bs u;refine wcD (aET hr3) rfl rfl (.cons rfl<|.cons rfl .nil)<|wu rfl<|wu rfl<|aB<|aL ?_;cases u;exact⟨rfl,_,fun _=>rfl,bK rfl rfl rfl rfl J.ext⟩
theorem aI2{l1:(List Str)}{s2:Str}{r:Bool}(h:oY l1 s2=some r):Pf PP 63 [(slA 1<|l1.map AV.str),(.str s2)] (.bool r):=Pf.fG (aIl l1 s2 r h _) rfl (.cons (sO<|fV (fun _=>rfl) _)<|.cons ⟨rfl,rfl⟩ .nil)
noncomputable def sG(n1:Int)(l2:Int)(hi3:Int):Option Bool:=
 ((if(decide (l2≤n1))=true then some (decide (n1≤hi3))
 else some false:Option Bool)>>=fun c4=>
 some c4)
theorem aLn: ∀(n1:Int)(l2:Int)(hi3:Int)(r:Bool),sG n1 l2 hi3=some r→ ∀s:ASt,Fc PP (.func 61) [(.i n1),(.i l2),(.i hi3)] s (dZ s<|.bool r):=by
 intro n1 l2 hi3 r u;unfold sG at u;intro s;refine bZ rfl rfl rfl ?_;have J:=St.clean s;generalize aT s=σ1 at J⊢;refine aD<|aE<|wu rfl<|aB<|aD<|aE<|wu rfl<|wu rfl<|wu rfl<|wu rfl ?_;obtain⟨c4,hc4,u⟩:=bs u;refine bF 4 [(14,(.bool c4))] σ1 ?_<|fun e=> ?_
 ·refine bE (t:=10) rfl (fun hc=> ?_)<|fun hc=> ?_
  ·replace hc4:=bP hc hc4;refine wu rfl<|wu rfl<|wu rfl<|wu rfl<|aB ?_;cases hc4;exact Kept.mk rfl<|.cons rfl .nil
  ·replace hc4:=bO hc hc4;refine wu rfl<|wu rfl<|wu rfl<|wu rfl<|aB ?_;cases hc4;exact Kept.mk rfl<|.cons rfl .nil
 ·refine wu rfl<|aB<|aL ?_;cases u;exact⟨rfl,_,fun _=>rfl,bK rfl rfl rfl rfl J.ext⟩
theorem aLk{n1:Int}{l2:Int}{hi3:Int}{r:Bool}(h:sG n1 l2 hi3=some r):Pf PP 61 [(.i n1),(.i l2),(.i hi3)] (.bool r):=Pf.fG (aLn n1 l2 hi3 r h _) rfl (.cons ⟨rfl,rfl⟩<|.cons ⟨rfl,rfl⟩<|.cons ⟨rfl,rfl⟩ .nil)
noncomputable def mZ(s1:Str)(i13:Int):Option (Ctl Bool Unit):=
 (if(decide (i13<(s1.length:Int)))=true then((idx s1 i13)>>=fun b14=>
 ((if(decide ((b14.toNat:Int)≥(97)))=true then some (decide ((b14.toNat:Int)≤(122)))
 else some false:Option Bool)>>=fun c15=>
 ((if c15=true then some true
 else((if(decide ((b14.toNat:Int)≥(65)))=true then some (decide ((b14.toNat:Int)≤(90)))
 else some false:Option Bool)>>=fun c17=>
 some c17):Option Bool)>>=fun c16=>
 ((if c16=true then some true
 else((if(decide ((b14.toNat:Int)≥(48)))=true then some (decide ((b14.toNat:Int)≤(57)))
 else some false:Option Bool)>>=fun c19=>
 some c19):Option Bool)>>=fun c18=>
 ((if c18=true then some true
 else some ((b14.toNat:Int)==(95)):Option Bool)>>=fun c20=>
 (if(!c20)=true then some (.ret false)
 else mZ (nf s1) (IntKind.wrap .i64 (i13+(1)))))))))
 else some (.nx ()))
 partial_fixpoint
noncomputable def tG(s1:Str)(l2:Int)(hi3:Int)(under4:Bool):Option Bool:=
 ((sG (s1.length:Int) (1) (12))>>=fun r5=>
 ((if(!r5)=true then some true
 else((idx s1 (0))>>=fun b7=>
 ((if(decide ((b7.toNat:Int)≥l2))=true then((idx s1 (0))>>=fun b9=>
 some (decide ((b9.toNat:Int)≤hi3)))
 else some false:Option Bool)>>=fun c8=>
 ((if c8=true then some true
 else((if under4=true then((idx s1 (0))>>=fun b12=>
 some ((b12.toNat:Int)==(95)))
 else some false:Option Bool)>>=fun c11=>
 some c11):Option Bool)>>=fun c10=>
 some (!c10)))):Option Bool)>>=fun c6=>
 (if c6=true then some false
 else((mZ s1 (0))>>=fun o21=>
 (match o21 with
 | .ret q22=>some q22
 | .nx q23=>some true)))))
noncomputable def rW(s1:Str):Option Bool:=
 ((tG s1 (65) (90) false)>>=fun r2=>
 some r2)
noncomputable def tU:Option (List Str):=
 some [([102,117,110]:Str),([108,101,116]:Str),([114,101,99]:Str),([105,110]:Str),([105,102]:Str),([116,104,101,110]:Str),([101,108,115,101]:Str),([109,97,116,99,104]:Str),([100,111]:Str),([104,97,110,100,108,101]:Str),([115,104,97,108,108,111,119]:Str),([110,97,109,101,100]:Str),([109,97,115,107]:Str),([117,115,105,110,103]:Str),([99,108,111,115,101]:Str),([114,101,115,117,109,101]:Str),([100,114,111,112]:Str),([114,101,116,117,114,110]:Str),([116,114,117,101]:Str),([102,97,108,115,101]:Str),([100,97,116,97]:Str),([101,102,102,101,99,116]:Str),([111,110,99,101]:Str),([100,101,102]:Str),([109,97,105,110]:Str)]
noncomputable def wO(s1:Str):Option Bool:=
 ((tG s1 (97) (122) true)>>=fun r2=>
 ((if r2=true then((tU)>>=fun r4=>
 ((oY r4 s1)>>=fun r5=>
 some (!r5)))
 else some false:Option Bool)>>=fun c3=>
 some c3))
noncomputable def iM(e1:Expr)(o4:(List Expr))(i5:Int):Option (List Expr):=
 (if(decide (i5<(e1.aO.length:Int)))=true then((idx e1.aO i5)>>=fun y6=>
 ((app 120 o4 [y6.body])>>=fun l7=>
 iM (nf e1) l7 (IntKind.wrap .i64 (i5+(1)))))
 else some o4)
 partial_fixpoint
abbrev v9(e1:Expr)(o4:(List Expr))(i5:Int)(o:(List Expr)):Prop:= ∀(e:Env)(s sv:ASt)(ow0_1:AV),St [] [] s sv [] [(ow0_1,7,(o4.map aP))]→Wk PP none Code.aPN ⟨bB e [(1,(.aF (aR e1) 0)),(3,ow0_1),(4,(.i i5))],[]⟩ sv (fun ex fr s'=>ex= .exit 0∧ ∃(pw1:AV)(e:Env),fr=⟨bB e [(3,pw1)],[]⟩∧St [] [] s s' [] [(pw1,7,(o.map aP))])
theorem aBg: ∀(e1:Expr)(o4:(List Expr))(i5:Int)(o:(List Expr)),iM e1 o4 i5=some o→v9 e1 o4 i5 o:=by
 refine iM.partial_correctness (v9) ?_;intro _f ih_r02_Parts_l0 e1 o4 i5 o u;intro e s sv ow0_1 J;refine dC<|aD<|aD<|aE<|wu rfl<|wu rfl<|wu rfl<|cG (f:=aZ) (l:=e1.aO) rfl (.no _)<|wu rfl<|aB ?_;refine aH u rfl (fun hc u=> ?_)<|fun hc u=> ?_
 ·refine aN<|aD<|aQ<|aE<|wv rfl<|wu rfl<|wu rfl<|wu rfl ?_;obtain⟨y6,hy6,u⟩:=bs u;refine j5 (f:=aZ) rfl (.no _) rfl hy6 (nN _)<|wu rfl<|wu rfl ?_;refine aJQ (f:=aP) (l:= [y6.body]) rfl (.cons rfl .nil) (aMF [y6.body]) aPl rfl rfl (by decide) ?_;obtain⟨l7,hl7,u⟩:=bs u;refine aIG (f:=aP) (xs:=o4) (ys:= [y6.body]) rfl J rfl (.full<|.inl rfl) hl7 (by decide)<|fun wl7 σ8 J=> ?_;refine wv rfl<|aB<|aE<|wu rfl<|wu rfl<|wu rfl<|aB ?_;exact eL (fun e=>ih_r02_Parts_l0 _ _ _ _ u e s _ wl7 J) (.cons rfl<|.cons rfl<|.cons rfl .nil)<|fun _ _ _ h=>h
 ·refine dR ?_;cases u;exact⟨rfl,ow0_1,_,frE<|.cons rfl .nil,J⟩
noncomputable def m6(e1:Expr):Option (List Expr):=
 ((app 120 ([]:(List Expr)) e1.l)>>=fun l2=>
 ((iM e1 l2 (0))>>=fun o9=>
 some o9))
theorem aEp: ∀(e1:Expr)(r:(List Expr)),m6 e1=some r→ ∀s:ASt,Fc PP (.func 35) [(aR e1)] s (dZ s<|slA 7<|r.map aP):=by
 intro e1 r u;unfold m6 at u;intro s;refine bZ rfl rfl rfl ?_;have J:=St.clean s;generalize aT s=σ1 at J⊢;refine aD<|aE<|wu rfl<|wu rfl<|aB<|aD<|aE<|aQ4 (w:=(.slice 7 (([]:(List Expr)).map aP) .full)) rfl rfl rfl<|wu rfl<|wu rfl ?_;obtain⟨l2,hl2,u⟩:=bs u;have J:=J.nil 7 7;refine aIG (f:=aP) (xs:=([]:(List Expr))) (ys:=e1.l) rfl J rfl (.no _) hl2 (by decide)<|fun wl2 σ3 J=> ?_;refine wv rfl<|aB<|aD<|aD<|aE<|wu rfl<|aB<|aQ ?_;obtain⟨o9,ho9,u⟩:=bs u;refine eL (fun e=>aBg _ _ _ _ ho9 e s _ wl2 J) (.cons rfl<|.cons rfl<|.cons rfl .nil) ?_
 rintro _ _ _ hq
 obtain⟨rfl,w10_1,e11,rfl,J⟩:=hq;refine aD<|aE<|wv rfl<|wv rfl<|aB<|aL ?_;cases u;exact⟨rfl,_,fun _=>rfl,tP rfl (J.slG 0 rfl) J.ext⟩
theorem zB{e1:Expr}{r:(List Expr)}(h:m6 e1=some r):Pf PP 35 [(aR e1)] (slA 7<|r.map aP):=Pf.fG (aEp e1 r h _) (pS aEM _) (.cons (gQ _) .nil)
noncomputable def mT(e1:Expr)(i2:Int)(y3:Arm)(k20:Int):Option (Ctl Int Unit):=
 (if(decide (k20<i2))=true then((idx e1.aO k20)>>=fun y21=>
 (if(y21.op==y3.op)=true then some (.ret (5))
 else mT (nf e1) (nf i2) (nf y3) (IntKind.wrap .i64 (k20+(1)))))
 else some (.nx ()))
 partial_fixpoint
noncomputable def qL(s1:Str)(n2:Int):Option Bool:=
 (if(n2==(1))=true then((wO s1)>>=fun r3=>
 some r3)
 else(if(n2==(2))=true then((rW s1)>>=fun r4=>
 some r4)
 else(if(n2==(3))=true then((oY [([43]:Str),([45]:Str),([42]:Str),([60]:Str),([61,61]:Str)] s1)>>=fun r5=>
 some r5)
 else some (s1==([]:Str)))))
noncomputable def iG(l1:(List Str))(i2:Int):Option (Ctl Int Unit):=
 (if(decide (i2<(l1.length:Int)))=true then((idx l1 i2)>>=fun y3=>
 ((wO y3)>>=fun r4=>
 (if(!r4)=true then some (.ret (4))
 else((cut l1 (0) i2)>>=fun l5=>
 ((idx l1 i2)>>=fun y6=>
 ((oY l5 y6)>>=fun r7=>
 (if r7=true then some (.ret (5))
 else iG (nf l1) (IntKind.wrap .i64 (i2+(1))))))))))
 else some (.nx ()))
 partial_fixpoint
noncomputable def nT(l1:(List Str)):Option Int:=
 ((iG l1 (0))>>=fun o8=>
 (match o8 with
 | .ret q9=>some q9
 | .nx q10=>some (0)))
noncomputable def kW(e1:Expr)(i2:Int):Option (Ctl Int Unit):=
 (if(decide (i2<(e1.aO.length:Int)))=true then((idx e1.aO i2)>>=fun y3=>
 ((if(e1.kind !=(11))=true then some (i2==(0))
 else some false:Option Bool)>>=fun c4=>
 ((if c4=true then((if(!(y3.op==([114,101,116,117,114,110]:Str)))=true then some true
 else some ((y3.names.length:Int) !=(1)):Option Bool)>>=fun c6=>
 some c6)
 else some false:Option Bool)>>=fun c5=>
 ((if c5=true then some true
 else((if(e1.kind !=(11))=true then some (!c4)
 else some false:Option Bool)>>=fun c8=>
 ((if c8=true then some ((y3.names.length:Int) !=(2))
 else some false:Option Bool)>>=fun c9=>
 some c9)):Option Bool)>>=fun c7=>
 ((if c7=true then some true
 else((if(!(e1.kind !=(11)))=true then some (decide ((y3.names.length:Int)>(4)))
 else some false:Option Bool)>>=fun c11=>
 some c11):Option Bool)>>=fun c10=>
 (if c10=true then some (.ret (7))
 else((if(!c4)=true then((qL y3.op (2))>>=fun r13=>
 some (!r13))
 else some false:Option Bool)>>=fun c12=>
 ((if c12=true then some (!(e1.kind !=(11)))
 else some false:Option Bool)>>=fun c14=>
 ((if c14=true then some true
 else((if(!c4)=true then some (e1.kind !=(11))
 else some false:Option Bool)>>=fun c16=>
 ((if c16=true then((qL y3.op (1))>>=fun r18=>
 some (!r18))
 else some false:Option Bool)>>=fun c17=>
 some c17)):Option Bool)>>=fun c15=>
 (if c15=true then some (.ret (4))
 else((nT y3.names)>>=fun r19=>
 (if(r19 !=(0))=true then some (.ret r19)
 else((mT e1 i2 y3 (0))>>=fun o22=>
 (match o22 with
 | .ret q23=>some (.ret q23)
 | .nx q24=>kW (nf e1) (IntKind.wrap .i64 (i2+(1)))))))))))))))))
 else some (.nx ()))
 partial_fixpoint
noncomputable def aCW(e1:Expr):Option Int:=
 ((kW e1 (0))>>=fun o27=>
 (match o27 with
 | .ret q28=>some q28
 | .nx q29=>((if(e1.kind !=(11))=true then some ((e1.aO.length:Int)==(0))
 else some false:Option Bool)>>=fun c32=>
 (if c32=true then some (7)
 else some (0)))))
noncomputable def kA(e1:Expr)(i5:Int):Option (Ctl Int Unit):=
 (if(decide (i5<(e1.names.length:Int)))=true then((idx e1.names i5)>>=fun y6=>
 ((rW y6)>>=fun r7=>
 (if(!r7)=true then some (.ret (4))
 else((cut e1.names (1) i5)>>=fun l8=>
 ((idx e1.names i5)>>=fun y9=>
 ((oY l8 y9)>>=fun r10=>
 (if r10=true then some (.ret (5))
 else kA (nf e1) (IntKind.wrap .i64 (i5+(1))))))))))
 else some (.nx ()))
 partial_fixpoint
noncomputable def aAA(e1:Expr):Option Int:=
 (if(e1.kind !=(17))=true then((nT e1.names)>>=fun r2=>
 some r2)
 else((cut e1.names (0) (1))>>=fun l3=>
 ((nT l3)>>=fun r4=>
 (if(r4 !=(0))=true then some r4
 else((kA e1 (1))>>=fun o11=>
 (match o11 with
 | .ret q12=>some q12
 | .nx q13=>some (0)))))))
noncomputable def lD:Option (List aV):=
 some [(aV.mk (1) (0) (0) (0) false (0)<|0),(aV.mk (0) (0) (0) (0) false (-999999999)<|999999999),(aV.mk (0) (0) (0) (0) false (0)<|1),(aV.mk (0) (0) (0) (0) false (0)<|0),(aV.mk (0) (0) (1) (1) false (0)<|0),(aV.mk (0) (0) (0) (2) false (0)<|0),(aV.mk (0) (0) (1) (2) false (0)<|0),(aV.mk (0) (0) (2) (2) false (0)<|0),(aV.mk (0) (0) (0) (3) false (0)<|0),(aV.mk (3) (0) (0) (2) false (0)<|0),(aV.mk (2) (0) (0) (0) false (0)<|0),(aV.mk (0) (0) (0) (1) true (0)<|0),(aV.mk (1) (0) (0) (1) false (0)<|0),(aV.mk (1) (1) (0) (1) false (0)<|0),(aV.mk (2) (0) (0) (1) true (0)<|1),(aV.mk (2) (0) (1) (1) true (0)<|0),(aV.mk (2) (0) (0) (1) false (0)<|0),(aV.mk (0) (0) (1) (3) false (0)<|0),(aV.mk (1) (0) (0) (1) false (0)<|0),(aV.mk (1) (0) (0) (0) false (0)<|0)]
noncomputable def vQ(e1:Expr):Option Int:=
 ((lD)>>=fun r2=>
 ((sG e1.kind (0) (IntKind.wrap .i64 ((r2.length:Int)-(1))))>>=fun r3=>
 (if(!r3)=true then some (1)
 else((idx r2 e1.kind)>>=fun y4=>
 ((sG e1.n y4.low y4.high)>>=fun r5=>
 (if(!r5)=true then some (1)
 else((qL e1.s y4.s)>>=fun r6=>
 ((if(!r6)=true then some true
 else((qL e1.t y4.t)>>=fun r8=>
 some (!r8)):Option Bool)>>=fun c7=>
 (if c7=true then some (4)
 else((if((e1.names.length:Int)==y4.names)=true then some true
 else((if(e1.kind==(17))=true then some (decide ((e1.names.length:Int)≥(1)))
 else some false:Option Bool)>>=fun c10=>
 ((if c10=true then some (decide ((e1.names.length:Int)≤(13)))
 else some false:Option Bool)>>=fun c11=>
 some c11)):Option Bool)>>=fun c9=>
 ((if((e1.l.length:Int)==y4.l)=true then some true
 else((if(e1.kind==(10))=true then some (decide ((e1.l.length:Int)≤(4)))
 else some false:Option Bool)>>=fun c13=>
 some c13):Option Bool)>>=fun c12=>
 ((if(!c9)=true then some true
 else some (!c12):Option Bool)>>=fun c14=>
 ((if c14=true then some true
 else((if(!y4.aO)=true then some (decide ((e1.aO.length:Int)>(0)))
 else some false:Option Bool)>>=fun c16=>
 some c16):Option Bool)>>=fun c15=>
 ((if c15=true then some true
 else some (decide ((e1.aO.length:Int)>(9))):Option Bool)>>=fun c17=>
 (if c17=true then some (7)
 else((aAA e1)>>=fun r18=>
 (if(r18 !=(0))=true then some r18
 else(if y4.aO=true then((aCW e1)>>=fun r19=>
 some r19)
 else some (0)))))))))))))))))))
mutual
noncomputable def k9 (e1:Expr):Option Int:=
 ((vQ e1)>>=fun r2=>
 (if(r2 !=(0))=true then some r2
 else((m6 e1)>>=fun r3=>
 ((jS r3 (0))>>=fun o7=>
 (match o7 with
 | .ret q8=>some q8
 | .nx q9=>some (0))))))
 partial_fixpoint
noncomputable def jS (r3:(List Expr)) (i4:Int):Option (Ctl Int Unit):=
 (if(decide (i4<(r3.length:Int)))=true then((idx r3 i4)>>=fun y5=>
 ((k9 (nf y5))>>=fun r6=>
 (if(r6 !=(0))=true then some (.ret r6)
 else jS (nf r3) (IntKind.wrap .i64 (i4+(1))))))
 else some (.nx ()))
 partial_fixpoint
end
mutual
noncomputable def vG (e1:Expr) (n2:Int) (depth3:Int):Option Int:=
 (if(decide (depth3<(1)))=true then some (-1)
 else((fJ e1 depth3 (IntKind.wrap .i64 (n2-(1))) (0))>>=fun o11=>
 some o11))
 partial_fixpoint
noncomputable def fJ (e1:Expr) (depth3:Int) (nodes4:Int) (i5:Int):Option Int:=
 ((if(decide (i5<(IntKind.wrap .i64 ((e1.l.length:Int)+(e1.aO.length:Int)))))=true then some (decide (nodes4≥(0)))
 else some false:Option Bool)>>=fun c6=>
 (if c6=true then(if(decide (i5<(e1.l.length:Int)))=true then((idx e1.l i5)>>=fun y7=>
 ((vG (nf y7) (nf nodes4) (IntKind.wrap .i64 (depth3-(1))))>>=fun r8=>
 fJ (nf e1) (nf depth3) r8 (IntKind.wrap .i64 (i5+(1)))))
 else((idx e1.aO (IntKind.wrap .i64 (i5-(e1.l.length:Int))))>>=fun y9=>
 ((vG y9.body (nf nodes4) (IntKind.wrap .i64 (depth3-(1))))>>=fun r10=>
 fJ (nf e1) (nf depth3) r10 (IntKind.wrap .i64 (i5+(1))))))
 else some nodes4))
 partial_fixpoint
end
noncomputable def iF(e1:Expr):Option Int:=
 ((vG e1 (3000) (200))>>=fun r2=>
 (if(decide (r2<(0)))=true then some (3)
 else((k9 e1)>>=fun r3=>
 some r3)))
noncomputable def qJ(e1:Expr)(i2:Int):Option (List Str):=
 (if(decide (i2≥(e1.l.length:Int)))=true then((idx e1.aO (IntKind.wrap .i64 (i2-(e1.l.length:Int))))>>=fun y3=>
 some y3.names)
 else(if(e1.kind==(4))=true then some e1.names
 else(if(e1.kind==(6))=true then(if(i2==(1))=true then some e1.names
 else some ([]:(List Str)))
 else(if(e1.kind==(7))=true then((cut e1.names (0) (IntKind.wrap .i64 ((2)-i2)))>>=fun l4=>
 some l4)
 else(if(e1.kind==(17))=true then((if(i2==(2))=true then some (decide ((e1.names.length:Int)>(0)))
 else some false:Option Bool)>>=fun c5=>
 (if c5=true then((cut e1.names (0) (1))>>=fun l6=>
 some l6)
 else some ([]:(List Str))))
 else some ([]:(List Str)))))))
theorem aEI: ∀(e1:Expr)(i2:Int)(r:(List Str)),qJ e1 i2=some r→ ∀s:ASt,Fc PP (.func 64) [(aR e1),(.i i2)] s (dZ s<|slA 1<|r.map AV.str):=by
 intro e1 i2 r u;unfold qJ at u;intro s;refine bZ rfl rfl rfl ?_;have J:=St.clean s;generalize aT s=σ1 at J⊢;refine aD<|aE<|wu rfl<|wu rfl<|aB<|aD<|aD<|aE<|wu rfl<|wu rfl<|wu rfl<|cG (f:=aP) (l:=e1.l) rfl (.no _)<|wu rfl<|aB ?_;refine aH u rfl (fun hc u=> ?_)<|fun hc u=> ?_
 ·refine aD<|aE<|wu rfl<|wu rfl<|wu rfl<|wu rfl<|wu rfl<|cG (f:=aP) (l:=e1.l) rfl (.no _)<|wu rfl ?_;obtain⟨y3,hy3,u⟩:=bs u;refine j5 (f:=aZ) rfl (.no _) rfl hy3 (nN _)<|wu rfl<|wu rfl<|wu rfl<|aB<|aL ?_;cases u;exact⟨rfl,_,fun _=>rfl,tP rfl (.no _) J.ext⟩
 ·refine aN<|aD<|aD<|aE<|wu rfl<|wu rfl<|aB<|aQ<|aD<|aE<|wu rfl<|wu rfl<|aB ?_;refine aH u rfl (fun hc u=> ?_)<|fun hc u=> ?_
  ·refine aD<|aE<|wu rfl<|wu rfl<|wu rfl<|aB<|aL ?_;cases u;exact⟨rfl,_,fun _=>rfl,tP rfl (.no _) J.ext⟩
  ·refine aD<|aE<|wu rfl<|wu rfl<|aB ?_;refine aH u rfl (fun hc u=> ?_)<|fun hc u=> ?_
   ·refine aD<|aE<|wu rfl<|wu rfl<|aB ?_;refine aH u rfl (fun hc u=> ?_)<|fun hc u=> ?_
    ·refine aD<|aE<|wu rfl<|wu rfl<|wu rfl<|aB<|aL ?_;cases u;exact⟨rfl,_,fun _=>rfl,tP rfl (.no _) J.ext⟩
    ·refine aN<|aD<|aE<|wu rfl<|aB<|aL ?_;cases u;exact⟨rfl,_,fun _=>rfl,tP rfl (.full<|.inr rfl) J.ext⟩
   ·refine aD<|aE<|wu rfl<|wu rfl<|aB ?_;refine aH u rfl (fun hc u=> ?_)<|fun hc u=> ?_
    ·refine aD<|aE<|wu rfl<|wu rfl<|wu rfl<|wu rfl ?_;obtain⟨l4,hl4,u⟩:=bs u;refine uI (f:=AV.str) (lo':=(0)) (hi':=(IntKind.wrap .i64<|(2)-i2)) rfl (.no _) (.inl ⟨rfl,rfl⟩) (.inr ⟨_,rfl⟩) (by rfl) hl4 ?_;refine wu rfl<|aB<|aL ?_;cases u;exact⟨rfl,_,fun _=>rfl,tP rfl (.no _) J.ext⟩
    ·refine aD<|aE<|wu rfl<|wu rfl<|aB ?_;refine aH u rfl (fun hc u=> ?_)<|fun hc u=> ?_
     ·refine aD<|aE<|wu rfl<|wu rfl<|wu rfl ?_;obtain⟨c5,hc5,u⟩:=bs u;refine bF 5 [(2,(.aF (aR e1) 0)),(48,(.bool c5))] σ1 ?_<|fun e=> ?_
      ·refine bE (t:=43) rfl (fun hc=> ?_)<|fun hc=> ?_
       ·replace hc5:=bP hc hc5;refine wu rfl<|wu rfl<|cG (f:=AV.str) (l:=e1.names) rfl (.no _)<|wu rfl<|wu rfl<|aB ?_;cases hc5;exact Kept.mk rfl<|.cons rfl<|.cons rfl .nil
       ·replace hc5:=bO hc hc5;refine wu rfl<|wu rfl<|wu rfl<|wu rfl<|wu rfl<|aB ?_;cases hc5;exact Kept.mk rfl<|.cons rfl<|.cons rfl .nil
      ·refine aB ?_;refine aH u rfl (fun hc u=> ?_)<|fun hc u=> ?_
       ·refine aD<|aE<|wu rfl<|wu rfl ?_;obtain⟨l6,hl6,u⟩:=bs u;refine uI (f:=AV.str) (lo':=(0)) (hi':=(1)) rfl (.no _) (.inl ⟨rfl,rfl⟩) (.inr ⟨_,rfl⟩) (by rfl) hl6 ?_;refine wu rfl<|aB<|aL ?_;cases u;exact⟨rfl,_,fun _=>rfl,tP rfl (.no _) J.ext⟩
       ·refine aN<|aD<|aE<|wu rfl<|aB<|aL ?_;cases u;exact⟨rfl,_,fun _=>rfl,tP rfl (.full<|.inr rfl) J.ext⟩
     ·refine aN<|aD<|aE<|wu rfl<|aB<|aL ?_;cases u;exact⟨rfl,_,fun _=>rfl,tP rfl (.full<|.inr rfl) J.ext⟩
theorem aEE{e1:Expr}{i2:Int}{r:(List Str)}(h:qJ e1 i2=some r):Pf PP 64 [(aR e1),(.i i2)] (slA 1<|r.map AV.str):=Pf.fG (aEI e1 i2 r h _) (pS (fun _=>rfl) _) (.cons (gQ _)<|.cons ⟨rfl,rfl⟩ .nil)
noncomputable def oM(e1:Expr):Option Str:=
 ((if(e1.kind==(0))=true then some true
 else some (e1.kind==(18)):Option Bool)>>=fun c2=>
 ((if c2=true then some true
 else some (e1.kind==(19)):Option Bool)>>=fun c3=>
 (if c3=true then some e1.s
 else some ([]:Str))))
theorem aDh: ∀(e1:Expr)(r:Str),oM e1=some r→ ∀s:ASt,Fc PP (.func 62) [(aR e1)] s (dZ s<|.str r):=by
 intro e1 r u;unfold oM at u;intro s;refine bZ rfl rfl rfl ?_;have J:=St.clean s;generalize aT s=σ1 at J⊢;refine aD<|aE<|wu rfl<|wu rfl<|aB<|aD<|aD<|aE<|wu rfl<|wu rfl<|wu rfl<|wu rfl ?_;obtain⟨c2,hc2,u⟩:=bs u;refine bF 4 [(1,(.aF (aR e1) 0)),(10,(.bool c2))] σ1 ?_<|fun e=> ?_
 ·refine bE (t:=6) rfl (fun hc=> ?_)<|fun hc=> ?_
  ·replace hc2:=bP hc hc2;refine wu rfl<|wu rfl<|wu rfl<|wu rfl<|aB ?_;cases hc2;exact Kept.mk rfl<|.cons rfl<|.cons rfl .nil
  ·replace hc2:=bO hc hc2;refine wu rfl<|wu rfl<|wu rfl<|wu rfl<|aB ?_;cases hc2;exact Kept.mk rfl<|.cons rfl<|.cons rfl .nil
 ·refine wu rfl ?_;obtain⟨c3,hc3,u⟩:=bs u;refine bF 4 [(1,(.aF (aR e1) 0)),(15,(.bool c3))] σ1 ?_<|fun e=> ?_
  ·refine bE (t:=11) rfl (fun hc=> ?_)<|fun hc=> ?_
   ·replace hc3:=bP hc hc3;refine wu rfl<|wu rfl<|wu rfl<|wu rfl<|aB ?_;cases hc3;exact Kept.mk rfl<|.cons rfl<|.cons rfl .nil
   ·replace hc3:=bO hc hc3;refine wu rfl<|wu rfl<|wu rfl<|wu rfl<|aB ?_;cases hc3;exact Kept.mk rfl<|.cons rfl<|.cons rfl .nil
  ·refine aB ?_;refine aH u rfl (fun hc u=> ?_)<|fun hc u=> ?_
   ·refine aD<|aE<|wu rfl<|wu rfl<|wu rfl<|aB<|aL ?_;cases u;exact⟨rfl,_,fun _=>rfl,bK rfl rfl rfl rfl J.ext⟩
   ·refine aN<|aD<|aE<|wu rfl<|aB<|aL ?_;cases u;exact⟨rfl,_,fun _=>rfl,bK rfl rfl rfl rfl J.ext⟩
theorem aDk{e1:Expr}{r:Str}(h:oM e1=some r):Pf PP 62 [(aR e1)] (.str r):=Pf.fG (aDh e1 r h _) rfl (.cons (gQ _) .nil)
mutual
noncomputable def jB (e1:Expr) (x2:Str):Option Int:=
 ((oM e1)>>=fun r3=>
 (((if(r3==x2)=true then some (1)
 else some (0)):Option Int)>>=fun o4=>
 ((m6 e1)>>=fun r7=>
 ((eW e1 x2 r7 o4 (0))>>=fun o14=>
 some o14))))
 partial_fixpoint
noncomputable def eW (e1:Expr) (x2:Str) (r7:(List Expr)) (n8:Int) (i9:Int):Option Int:=
 (if(decide (i9<(r7.length:Int)))=true then((qJ e1 i9)>>=fun r10=>
 ((oY r10 x2)>>=fun r11=>
 (if(!r11)=true then((idx r7 i9)>>=fun y12=>
 ((jB (nf y12) (nf x2))>>=fun r13=>
 eW (nf e1) (nf x2) (nf r7) (IntKind.wrap .i64 (n8+r13)) (IntKind.wrap .i64 (i9+(1)))))
 else eW (nf e1) (nf x2) (nf r7) (nf n8) (IntKind.wrap .i64 (i9+(1))))))
 else some n8)
 partial_fixpoint
end
abbrev tY(e1:Expr)(x2:Str)(r:Int):Prop:= ∀s:ASt,Fc PP (.func 33) [(aR e1),(.str x2)] s (dZ s<|.i r)
abbrev uW(e1:Expr)(x2:Str)(r7:(List Expr))(n8:Int)(i9:Int)(o:Int):Prop:= ∀(e:Env)(s sv:ASt),St [] [] s sv [] []→Wk PP none Code.aPT ⟨bB e [(1,(.str x2)),(2,(.aF (aR e1) 0)),(5,(.i n8)),(6,(slA 7<|r7.map aP)),(7,(.i i9))],[]⟩ sv (fun ex fr s'=>ex= .exit 0∧ ∃(e:Env),fr=⟨bB e [(5,(.i o))],[]⟩∧sv=s')
theorem xA{e1:Expr}{x2:Str}{r:Int}(h: ∀s:ASt,Fc PP (.func 33) [(aR e1),(.str x2)] s<|dZ s<|.i r):Pf PP 33 [(aR e1),(.str x2)] (.i r):=Pf.fG (h _) rfl (.cons (gQ _)<|.cons ⟨rfl,rfl⟩ .nil)
theorem aCJ:(∀(e1:Expr)(x2:Str)(r:Int),jB e1 x2=some r→tY e1 x2 r)∧
  (∀(e1:Expr)(x2:Str)(r7:(List Expr))(n8:Int)(i9:Int)(o:Int),eW e1 x2 r7 n8 i9=some o→uW e1 x2 r7 n8 i9 o):=by
 refine jB.mutual_partial_correctness tY uW ?_ ?_
 ·intro _f0 ih_r03_UsesOf_l0 e1 x2 r u;intro s;refine bZ rfl rfl rfl ?_;have J:=St.clean s;generalize aT s=σ1 at J⊢;refine aD<|aE<|wu rfl<|wu rfl<|aB<|aD<|aE<|wu rfl<|aB<|aD<|aD<|aE<|wu rfl ?_;obtain⟨r3,hr3,u⟩:=bs u;refine wcD (aDk hr3) rfl rfl (.cons rfl .nil)<|wu rfl<|wu rfl<|aB ?_;obtain⟨o4,ho4,u⟩:=bs u;refine Wk.mono (Q:=fun ex fr s'=>ex= .normal∧ ∃(e:Env),fr=⟨bB e [(1,(.str x2)),(2,(.aF (aR e1) 0)),(5,(.i o4))],[]⟩∧σ1=s') ?_ ?_
  ·refine aH ho4 rfl (fun hc ho4=> ?_)<|fun hc ho4=> ?_
   ·refine aE<|wu rfl<|aB ?_;cases ho4;exact⟨rfl,_,frE<|.cons rfl<|.cons rfl<|.cons rfl .nil,rfl⟩
   ·refine aN ?_;cases ho4;exact⟨rfl,_,frE<|.cons rfl<|.cons rfl<|.cons rfl .nil,rfl⟩
  ·rintro _ _ _ hq
   obtain⟨rfl,e6,rfl,rfl⟩:=hq;refine aD<|aE<|wu rfl ?_;obtain⟨r7,hr7,u⟩:=bs u;refine wcD (zB hr7) rfl rfl (.cons rfl .nil)<|wu rfl<|aB<|aD<|aD<|aE<|wu rfl<|aB<|aQ ?_;obtain⟨o14,h14,u⟩:=bs u;refine eL (fun e=>ih_r03_UsesOf_l0 _ _ _ _ _ _ h14 e s _ J) (.cons rfl<|.cons rfl<|.cons rfl<|.cons rfl<|.cons rfl .nil) ?_
   rintro _ _ _ hq
   obtain⟨rfl,e16,rfl,rfl⟩:=hq;refine aD<|aE<|wu rfl<|wu rfl<|aB<|aL ?_;cases u;exact⟨rfl,_,fun _=>rfl,bK rfl rfl rfl rfl J.ext⟩
 ·intro _f0 _f1 ih_r03_UsesOf ih_r03_UsesOf_l0 e1 x2 r7 n8 i9 o u;intro e s sv J;refine dC<|aD<|aD<|aE<|wu rfl<|wu rfl<|cG (f:=aP) (l:=r7) rfl (.no _)<|wu rfl<|aB ?_;refine aH u rfl (fun hc u=> ?_)<|fun hc u=> ?_
  ·refine aN<|aD<|aQ<|aD<|aE<|wu rfl<|wu rfl ?_;obtain⟨r10,h10,u⟩:=bs u;refine wcD (aEE h10) rfl rfl (.cons rfl<|.cons rfl .nil)<|wu rfl ?_;obtain⟨r11,h11,u⟩:=bs u;refine wcD (aI2 h11) rfl rfl (.cons rfl<|.cons rfl .nil)<|wu rfl<|aB ?_;refine aH u rfl (fun hc u=> ?_)<|fun hc u=> ?_
   ·refine aE<|wu rfl<|wu rfl<|wu rfl ?_;obtain⟨y12,h12,u⟩:=bs u;refine j5 (f:=aP) rfl (.no _) rfl h12 (iD _)<|wu rfl<|wu rfl ?_;obtain⟨r13,h13,u⟩:=bs u;refine wcD (xA<|ih_r03_UsesOf _ _ _ h13) rfl rfl (.cons rfl<|.cons rfl .nil)<|wu rfl<|wu rfl<|aB<|aE<|wu rfl<|wu rfl<|wu rfl<|aB ?_;exact eL (fun e=>ih_r03_UsesOf_l0 _ _ _ _ _ _ u e s _ J) (.cons rfl<|.cons rfl<|.cons rfl<|.cons rfl<|.cons rfl .nil)<|fun _ _ _ h=>h
   ·refine aN<|aE<|wu rfl<|wu rfl<|wu rfl<|aB ?_;exact eL (fun e=>ih_r03_UsesOf_l0 _ _ _ _ _ _ u e s _ J) (.cons rfl<|.cons rfl<|.cons rfl<|.cons rfl<|.cons rfl .nil)<|fun _ _ _ h=>h
  ·refine dR ?_;cases u;exact⟨rfl,_,frE<|.cons rfl .nil,rfl⟩
theorem aDe: ∀(e1:Expr)(x2:Str)(r:Int),jB e1 x2=some r→tY e1 x2 r:=aCJ.1
theorem aDc{e1:Expr}{x2:Str}{r:Int}(h:jB e1 x2=some r):Pf PP 33 [(aR e1),(.str x2)] (.i r):=xA (aDe e1 x2 r h)
noncomputable def m7(p2:(List Int))(i7:Int)(e8:Expr):Option (Ctl (Expr×Bool) Expr):=
 (if(decide (i7<(p2.length:Int)))=true then((m6 e8)>>=fun r9=>
 ((idx p2 i7)>>=fun y10=>
 ((sG y10 (0) (IntKind.wrap .i64 ((r9.length:Int)-(1))))>>=fun r11=>
 (if(!r11)=true then some (.ret ((Expr.mk (0) (0) ([]:Str) ([]:Str) ([]:(List Str)) ([]:(List Expr)) ([]:(List Arm))),false))
 else((idx p2 i7)>>=fun y13=>
 ((idx r9 y13)>>=fun y14=>
 m7 (nf p2) (IntKind.wrap .i64 (i7+(1))) y14))))))
 else some (.nx e8))
 partial_fixpoint
abbrev aBa(p2:(List Int))(i7:Int)(e8:Expr)(o:(Ctl (Expr×Bool) Expr)):Prop:= ∀(e:Env)(s sv:ASt)(β5:Nat)(β3:Nat),St [] [] s sv [(β5,.cells [(.i<|0),(.i<|0),(.str ([]:Str)),(.str ([]:Str)),(.slice 0 (([]:(List Str)).map AV.str) .full),(.slice 0 (([]:(List Expr)).map aP) .full),(.slice 0 (([]:(List Arm)).map aZ) .full)] true),(β3,.cells [(.i e8.kind),(.i e8.n),(.str e8.s),(.str e8.t),(slA 1<|e8.names.map AV.str),(slA 7<|e8.l.map aP),(slA 9<|e8.aO.map aZ)] true)] []→Wk PP none Code.aPW ⟨bB e [(1,(slA 1<|p2.map<|AV.i)),(2,(.ptr β3 0)),(4,(.ptr β5 0)),(6,(.i i7))],[]⟩ sv (fun ex fr s'=>(match o with| .ret oq0=>ex= .ret∧rP PP Code.c32 (VQ (.tuple [(aR oq0.1),(.bool oq0.2)])<|Ext [] [] s) ex fr s'| .nx oq1=>ex= .exit 0∧ ∃(e:Env),fr=⟨bB e [(2,(.ptr β3 0)),(4,(.ptr β5 0))],[]⟩∧St [] [] s s' [(β5,.cells [(.i<|0),(.i<|0),(.str ([]:Str)),(.str ([]:Str)),(.slice 0 (([]:(List Str)).map AV.str) .full),(.slice 0 (([]:(List Expr)).map aP) .full),(.slice 0 (([]:(List Arm)).map aZ) .full)] true),(β3,.cells [(.i oq1.kind),(.i oq1.n),(.str oq1.s),(.str oq1.t),(slA 1<|oq1.names.map AV.str),(slA 7<|oq1.l.map aP),(slA 9<|oq1.aO.map aZ)] true)] []))
theorem aEJ: ∀(p2:(List Int))(i7:Int)(e8:Expr)(o:(Ctl (Expr×Bool) Expr)),m7 p2 i7 e8=some o→aBa p2 i7 e8 o:=by
 refine m7.partial_correctness (aBa) ?_;intro _f ih_r10_At_l0 p2 i7 e8 o u;intro e s sv β5 β3 J;refine dC<|aD<|aD<|aE<|wu rfl<|wu rfl<|cG (f:=(AV.i)) (l:=p2) rfl (.no _)<|wu rfl<|aB ?_;refine aH u rfl (fun hc u=> ?_)<|fun hc u=> ?_
 ·refine aN<|aD<|aQ<|aD<|aE<|aAz (us:= [(.i e8.kind),(.i e8.n),(.str e8.s),(.str e8.t),(slA 1<|e8.names.map AV.str),(slA 7<|e8.l.map aP),(slA 9<|e8.aO.map aZ)]) (ws:= [(.i e8.kind),(.i e8.n),(.str e8.s),(.str e8.t),(slA 1<|e8.names.map AV.str),(slA 7<|e8.l.map aP),(slA 9<|e8.aO.map aZ)]) 1 rfl J rfl rfl (Nat.le_of_ble_eq_true rfl) rfl (.cons rfl<|.cons rfl<|.cons rfl<|.cons rfl<|.cons rfl<|.cons rfl<|.cons rfl .nil) ?_;obtain⟨r9,hr9,u⟩:=bs u;refine wcD (zB hr9) rfl rfl (.cons rfl .nil)<|wu rfl<|aB<|aD<|aD<|aE<|wu rfl<|wu rfl ?_;obtain⟨y10,h10,u⟩:=bs u;refine j5 (f:=(AV.i)) rfl (.no _) rfl h10 rfl<|wu rfl<|wu rfl<|cG (f:=aP) (l:=r9) rfl (.no _)<|wu rfl ?_;obtain⟨r11,h11,u⟩:=bs u;refine wcD (aLk h11) rfl rfl (.cons rfl<|.cons rfl<|.cons rfl .nil)<|wu rfl<|aB ?_;refine aH u rfl (fun hc u=> ?_)<|fun hc u=> ?_
  ·refine aD<|aE ?_;refine wgv (v:=(.agg [(.i<|0),(.i<|0),(.str ([]:Str)),(.str ([]:Str)),(.slice 0 (([]:(List Str)).map AV.str) .full),(.slice 0 (([]:(List Expr)).map aP) .full),(.slice 0 (([]:(List Arm)).map aZ) .full)])) rfl rfl (by kernel_rfl) ?_;refine bV (ds':= [(.i<|0),(.i<|0),(.str ([]:Str)),(.str ([]:Str)),(.slice 0 (([]:(List Str)).map AV.str) .full),(.slice 0 (([]:(List Expr)).map aP) .full),(.slice 0 (([]:(List Arm)).map aZ) .full)]) (cs':= [(.i<|0),(.i<|0),(.str ([]:Str)),(.str ([]:Str)),(.slice 0 (([]:(List Str)).map AV.str) .full),(.slice 0 (([]:(List Expr)).map aP) .full),(.slice 0 (([]:(List Arm)).map aZ) .full)]) 0 rfl J rfl rfl rfl rfl rfl (Nat.le_of_ble_eq_true rfl) (.cons (tkN rfl)<|.cons (tkN rfl)<|.cons (tkN rfl)<|.cons (tkN rfl)<|.cons (tkN rfl)<|.cons (tkN rfl)<|.cons (tkN rfl) .nil) (by kernel_rfl)<|fun σ12 J=> ?_;refine wu rfl<|aB<|aL ?_;cases u;exact⟨rfl,⟨rfl,_,fun _=>rfl,fN (tX.eq<|.cons (wQ (us:= [(.i<|0),(.i<|0),(.str ([]:Str)),(.str ([]:Str)),(.slice 0 (([]:(List Str)).map AV.str) .full),(.slice 0 (([]:(List Expr)).map aP) .full),(.slice 0 (([]:(List Arm)).map aZ) .full)]) J 0 rfl rfl (Nat.le_of_ble_eq_true rfl) rfl<|.cons rfl<|.cons rfl<|.cons rfl<|.cons rfl<|.cons rfl<|.cons rfl<|.cons rfl .nil)<|.cons rfl .nil) (.cons rfl<|.cons rfl .nil) J.ext⟩⟩
  ·refine aN<|aE<|wu rfl<|wu rfl<|wu rfl ?_;obtain⟨y13,h13,u⟩:=bs u;refine j5 (f:=(AV.i)) rfl (.no _) rfl h13 rfl<|wu rfl ?_;obtain⟨y14,h14,u⟩:=bs u;refine j5 (f:=aP) rfl (.no _) rfl h14 (iD _)<|wu rfl ?_;refine bV (ds':= [(.i y14.kind),(.i y14.n),(.str y14.s),(.str y14.t),(slA 1<|y14.names.map AV.str),(slA 7<|y14.l.map aP),(slA 9<|y14.aO.map aZ)]) (cs':= [(.i y14.kind),(.i y14.n),(.str y14.s),(.str y14.t),(slA 1<|y14.names.map AV.str),(slA 7<|y14.l.map aP),(slA 9<|y14.aO.map aZ)]) 1 rfl J rfl rfl rfl rfl rfl (Nat.le_of_ble_eq_true rfl) (.cons (tkN rfl)<|.cons (tkN rfl)<|.cons (tkN rfl)<|.cons (tkN rfl)<|.cons (tkN rfl)<|.cons (tkN rfl)<|.cons (tkN rfl) .nil) (by kernel_rfl)<|fun σ15 J=> ?_;refine aB<|aE<|wu rfl<|wu rfl<|wu rfl<|aB ?_;have J:=J.aM 1 rfl;have J:=J.aM 1 rfl;exact eL (fun e=>ih_r10_At_l0 _ _ _ _ u e s _ β5 β3 J) (.cons rfl<|.cons rfl<|.cons rfl<|.cons rfl .nil)<|fun _ _ _ h=>h
 ·refine dR ?_;cases u;have J:=J.aM 1 rfl;have J:=J.aM 1 rfl;exact⟨rfl,_,frE<|.cons rfl<|.cons rfl .nil,J⟩
noncomputable def aAy(e1:Expr)(p2:(List Int)):Option (Expr×Bool):=
 ((m7 p2 (0) e1)>>=fun o16=>
 (match o16 with
 | .ret q17=>some q17
 | .nx q18=>some (q18,true)))
theorem aLt: ∀(e1:Expr)(p2:(List Int))(r:(Expr×Bool)),aAy e1 p2=some r→ ∀s:ASt,Fc PP (.func 32) [(aR e1),(slA 1<|p2.map<|AV.i)] s (dZ s<|.tuple [(aR r.1),(.bool r.2)]):=by
 intro e1 p2 r u;unfold aAy at u;intro s;refine bZ rfl rfl rfl ?_;have J:=St.clean s;generalize aT s=σ1 at J⊢;refine aD<|aE ?_;refine aMe (cs:= [(.i e1.kind),(.i e1.n),(.str e1.s),(.str e1.t),(slA 1<|e1.names.map AV.str),(slA 7<|e1.l.map aP),(slA 9<|e1.aO.map aZ)]) rfl J rfl rfl (.cons (tkN rfl)<|.cons (tkN rfl)<|.cons (tkN rfl)<|.cons (tkN rfl)<|.cons (tkN rfl)<|.cons (tkN rfl)<|.cons (tkN rfl) .nil)<|fun β3 σ4 J=> ?_;refine kG rfl J rfl<|fun β5 σ6 J=> ?_;refine wu rfl<|aB<|aD<|aD<|aE<|wu rfl<|aB<|aQ ?_;obtain⟨o16,h16,u⟩:=bs u;have J:=J.aM 1 rfl;have J:=J.aM 1 rfl;refine eL (fun e=>aEJ _ _ _ _ h16 e s _ β5 β3 J) (.cons rfl<|.cons rfl<|.cons rfl<|.cons rfl .nil) ?_
 rintro _ _ _ hq
 rcases o16 with q17|q18
 ·obtain⟨rfl,hq⟩:=hq;cases u;exact hq
 ·obtain⟨rfl,e20,rfl,J⟩:=hq;refine aD<|aE<|aAz (us:= [(.i q18.kind),(.i q18.n),(.str q18.s),(.str q18.t),(slA 1<|q18.names.map AV.str),(slA 7<|q18.l.map aP),(slA 9<|q18.aO.map aZ)]) (ws:= [(.i q18.kind),(.i q18.n),(.str q18.s),(.str q18.t),(slA 1<|q18.names.map AV.str),(slA 7<|q18.l.map aP),(slA 9<|q18.aO.map aZ)]) 1 rfl J rfl rfl (Nat.le_of_ble_eq_true rfl) rfl (.cons rfl<|.cons rfl<|.cons rfl<|.cons rfl<|.cons rfl<|.cons rfl<|.cons rfl .nil) ?_;refine bV (ds':= [(.i q18.kind),(.i q18.n),(.str q18.s),(.str q18.t),(slA 1<|q18.names.map AV.str),(slA 7<|q18.l.map aP),(slA 9<|q18.aO.map aZ)]) (cs':= [(.i q18.kind),(.i q18.n),(.str q18.s),(.str q18.t),(slA 1<|q18.names.map AV.str),(slA 7<|q18.l.map aP),(slA 9<|q18.aO.map aZ)]) 0 rfl J rfl rfl rfl rfl rfl (Nat.le_of_ble_eq_true rfl) (.cons (tkN rfl)<|.cons (tkN rfl)<|.cons (tkN rfl)<|.cons (tkN rfl)<|.cons (tkN rfl)<|.cons (tkN rfl)<|.cons (tkN rfl) .nil) (by kernel_rfl)<|fun σ22 J=> ?_;refine wu rfl<|aB<|aL ?_;cases u;exact⟨rfl,_,fun _=>rfl,fN (tX.eq<|.cons (wQ (us:= [(.i q18.kind),(.i q18.n),(.str q18.s),(.str q18.t),(slA 1<|q18.names.map AV.str),(slA 7<|q18.l.map aP),(slA 9<|q18.aO.map aZ)]) J 0 rfl rfl (Nat.le_of_ble_eq_true rfl) rfl<|.cons rfl<|.cons rfl<|.cons rfl<|.cons rfl<|.cons rfl<|.cons rfl<|.cons rfl .nil)<|.cons rfl .nil) (.cons rfl<|.cons rfl .nil) J.ext⟩
theorem aK4{e1:Expr}{p2:(List Int)}{r:(Expr×Bool)}(h:aAy e1 p2=some r):Pf PP 32 [(aR e1),(slA 1<|p2.map<|AV.i)] (.tuple [(aR r.1),(.bool r.2)]):=Pf.fG (aLt e1 p2 r h _) (yR<|.cons (gQ _).2<|.cons rfl<|.nil) (.cons (gQ _)<|.cons (sO<|fV (fun _=>rfl) _) .nil)
noncomputable def dH(e1:Expr)(k2:Str)(r3:(Int×(List Int)×Int))(r4:((List<|List Int)×Int))(r10:Int)(drops11:Int)(i12:Int):Option (Ctl Bool<|Int×Int):=
 (if(decide (i12<(r4.1.length:Int)))=true then((idx r4.1 i12)>>=fun y13=>
 ((aAy e1 y13)>>=fun r14=>
 ((if(!r14.2)=true then some true
 else some (!(r14.1.s==k2)):Option Bool)>>=fun c15=>
 ((if c15=true then some true
 else((if(r14.1.kind !=(18))=true then some (r14.1.kind !=(19))
 else some false:Option Bool)>>=fun c17=>
 some c17):Option Bool)>>=fun c16=>
 (if c16=true then some (.ret false)
 else(if(r14.1.kind==(18))=true then((idx r14.1.l (0))>>=fun y18=>
 ((lL y18 k2)>>=fun r19=>
 ((if(r19.2 !=(0))=true then some true
 else some (!r19.1):Option Bool)>>=fun c20=>
 (if c20=true then some (.ret false)
 else dH (nf e1) (nf k2) (nf r3) (nf r4) (IntKind.wrap .i64 (r10+(1))) (nf drops11) (IntKind.wrap .i64 (i12+(1)))))))
 else dH (nf e1) (nf k2) (nf r3) (nf r4) (nf r10) (IntKind.wrap .i64 (drops11+(1))) (IntKind.wrap .i64 (i12+(1)))))))))
 else some (.nx (r10,drops11)))
 partial_fixpoint
abbrev pD(e1:Expr)(k2:Str)(r3:(Int×(List Int)×Int))(r4:((List<|List Int)×Int))(r10:Int)(drops11:Int)(i12:Int)(o:(Ctl Bool<|Int×Int)):Prop:= ∀(e:Env)(s sv:ASt),St [] [] s sv [] []→Wk PP none Code.aRE ⟨bB e [(1,(.str k2)),(2,(.aF (aR e1) 0)),(5,(.i r3.1)),(6,(slA 1<|r3.2.1.map<|AV.i)),(8,(slA 1<|r4.1.map<|aU 1<|AV.i)),(10,(.i r10)),(11,(.i drops11)),(12,(.i i12))],[]⟩ sv (fun ex fr s'=>(match o with| .ret oq0=>ex= .ret∧rP PP Code.c7 (VQ (.bool oq0)<|Ext [] [] s) ex fr s'| .nx oq1=>ex= .exit 0∧ ∃(e:Env),fr=⟨bB e [(1,(.str k2)),(2,(.aF (aR e1) 0)),(5,(.i r3.1)),(6,(slA 1<|r3.2.1.map<|AV.i)),(8,(slA 1<|r4.1.map<|aU 1<|AV.i)),(10,(.i oq1.1)),(11,(.i oq1.2))],[]⟩∧sv=s'))
theorem u0: ∀(e1:Expr)(k2:Str)(r3:(Int×(List Int)×Int))(r4:((List<|List Int)×Int))(r10:Int)(drops11:Int)(i12:Int)(o:(Ctl Bool<|Int×Int)),dH e1 k2 r3 r4 r10 drops11 i12=some o→pD e1 k2 r3 r4 r10 drops11 i12 o:=by
 refine dH.partial_correctness (pD) ?_;intro _f ih_w10_LinearSites_l0 e1 k2 r3 r4 r10 drops11 i12 o u;intro e s sv J;refine dC<|aD<|aD<|aE<|wu rfl<|wu rfl<|cG (f:=(aU 1<|AV.i)) (l:=r4.1) rfl (.no _)<|wu rfl<|aB ?_;refine aH u rfl (fun hc u=> ?_)<|fun hc u=> ?_
 ·refine aN<|aD<|aQ<|aD<|aE<|wu rfl<|wu rfl<|wu rfl ?_;obtain⟨y13,h13,u⟩:=bs u;refine j5 (f:=(aU 1<|AV.i)) rfl (.no _) rfl h13 rfl<|wu rfl ?_;obtain⟨r14,h14,u⟩:=bs u;refine wcD (aK4 h14) rfl rfl (.cons rfl<|.cons rfl .nil)<|wu rfl<|wu rfl<|wu rfl<|wu rfl<|wu rfl<|wu rfl<|aB<|aD<|aD<|aE<|wu rfl<|wu rfl<|wu rfl ?_;obtain⟨c15,h15,u⟩:=bs u;refine bF 5 [(1,(.str k2)),(2,(.aF (aR e1) 0)),(5,(.i r3.1)),(6,(slA 1<|r3.2.1.map<|AV.i)),(8,(slA 1<|r4.1.map<|aU 1<|AV.i)),(10,(.i r10)),(11,(.i drops11)),(12,(.i i12)),(13,(.aF (aR r14.1) 0)),(77,(.bool c15))] sv ?_<|fun e=> ?_
  ·refine bE (t:=72) rfl (fun hc=> ?_)<|fun hc=> ?_
   ·replace h15:=bP hc h15;refine wu rfl<|wu rfl<|wu rfl<|wu rfl<|wu rfl<|aB ?_;cases h15;exact Kept.mk rfl<|.cons rfl<|.cons rfl<|.cons rfl<|.cons rfl<|.cons rfl<|.cons rfl<|.cons rfl<|.cons rfl<|.cons rfl<|.cons rfl .nil
   ·replace h15:=bO hc h15;refine wu rfl<|wu rfl<|wu rfl<|wu rfl<|wu rfl<|aB ?_;cases h15;exact Kept.mk rfl<|.cons rfl<|.cons rfl<|.cons rfl<|.cons rfl<|.cons rfl<|.cons rfl<|.cons rfl<|.cons rfl<|.cons rfl<|.cons rfl .nil
  ·refine wu rfl ?_;obtain⟨c16,h16,u⟩:=bs u;refine bF 9 [(1,(.str k2)),(2,(.aF (aR e1) 0)),(5,(.i r3.1)),(6,(slA 1<|r3.2.1.map<|AV.i)),(8,(slA 1<|r4.1.map<|aU 1<|AV.i)),(10,(.i r10)),(11,(.i drops11)),(12,(.i i12)),(13,(.aF (aR r14.1) 0)),(87,(.bool c16))] sv ?_<|fun e=> ?_
   ·refine bE (t:=78) rfl (fun hc=> ?_)<|fun hc=> ?_
    ·replace h16:=bP hc h16;refine wu rfl<|wu rfl<|wu rfl<|wu rfl<|wu rfl<|wu rfl<|wu rfl<|wu rfl<|wu rfl<|aB ?_;cases h16;exact Kept.mk rfl<|.cons rfl<|.cons rfl<|.cons rfl<|.cons rfl<|.cons rfl<|.cons rfl<|.cons rfl<|.cons rfl<|.cons rfl<|.cons rfl .nil
    ·replace h16:=bO hc h16
     iterate 4 refine wu rfl ?_
     obtain⟨c17,h17,h16⟩:=bs h16;refine bF 4 [(1,(.str k2)),(2,(.aF (aR e1) 0)),(5,(.i r3.1)),(6,(slA 1<|r3.2.1.map<|AV.i)),(8,(slA 1<|r4.1.map<|aU 1<|AV.i)),(10,(.i r10)),(11,(.i drops11)),(12,(.i i12)),(13,(.aF (aR r14.1) 0)),(78,(.bool false)),(86,(.bool c17))] sv ?_<|fun e=> ?_
     ·refine bE (t:=82) rfl (fun hc=> ?_)<|fun hc=> ?_
      ·replace h17:=bP hc h17;refine wu rfl<|wu rfl<|wu rfl<|wu rfl<|aB ?_;cases h17;exact Kept.mk rfl<|.cons rfl<|.cons rfl<|.cons rfl<|.cons rfl<|.cons rfl<|.cons rfl<|.cons rfl<|.cons rfl<|.cons rfl<|.cons rfl<|.cons rfl .nil
      ·replace h17:=bO hc h17;refine wu rfl<|wu rfl<|wu rfl<|wu rfl<|aB ?_;cases h17;exact Kept.mk rfl<|.cons rfl<|.cons rfl<|.cons rfl<|.cons rfl<|.cons rfl<|.cons rfl<|.cons rfl<|.cons rfl<|.cons rfl<|.cons rfl<|.cons rfl .nil
     ·refine wu rfl<|aB ?_;cases h16;exact Kept.mk rfl<|.cons rfl<|.cons rfl<|.cons rfl<|.cons rfl<|.cons rfl<|.cons rfl<|.cons rfl<|.cons rfl<|.cons rfl<|.cons rfl .nil
   ·refine aB ?_;refine aH u rfl (fun hc u=> ?_)<|fun hc u=> ?_
    ·refine aD<|aE<|wu rfl<|aB<|aL ?_;cases u;exact⟨rfl,⟨rfl,_,fun _=>rfl,bK rfl rfl rfl rfl J.ext⟩⟩
    ·refine aN<|aD<|aE<|wu rfl<|wu rfl<|wu rfl<|aB ?_;refine aH u rfl (fun hc u=> ?_)<|fun hc u=> ?_
     ·refine aD<|aE<|wu rfl<|wu rfl<|wu rfl<|aB<|aD<|aE<|wu rfl<|wu rfl ?_;obtain⟨y18,h18,u⟩:=bs u;refine j5 (f:=aP) rfl (.no _) rfl h18 (iD _)<|wu rfl<|wu rfl ?_;obtain⟨r19,h19,u⟩:=bs u;refine wcD (aBu h19) rfl rfl (.cons rfl<|.cons rfl .nil)<|wu rfl<|wu rfl<|wu rfl<|wu rfl<|wu rfl<|aB<|aD<|aE<|wu rfl<|wu rfl<|wu rfl ?_;obtain⟨c20,h20,u⟩:=bs u;refine bF 3 [(1,(.str k2)),(2,(.aF (aR e1) 0)),(5,(.i r3.1)),(6,(slA 1<|r3.2.1.map<|AV.i)),(8,(slA 1<|r4.1.map<|aU 1<|AV.i)),(10,(.i<|IntKind.wrap .i64<|r10+(1))),(11,(.i drops11)),(12,(.i i12)),(107,(.bool c20))] sv ?_<|fun e=> ?_
      ·refine bE (t:=104) rfl (fun hc=> ?_)<|fun hc=> ?_
       ·replace h20:=bP hc h20;refine wu rfl<|wu rfl<|wu rfl<|aB ?_;cases h20;exact Kept.mk rfl<|.cons rfl<|.cons rfl<|.cons rfl<|.cons rfl<|.cons rfl<|.cons rfl<|.cons rfl<|.cons rfl<|.cons rfl .nil
       ·replace h20:=bO hc h20;refine wu rfl<|wu rfl<|wu rfl<|aB ?_;cases h20;exact Kept.mk rfl<|.cons rfl<|.cons rfl<|.cons rfl<|.cons rfl<|.cons rfl<|.cons rfl<|.cons rfl<|.cons rfl<|.cons rfl .nil
      ·refine aB ?_;refine aH u rfl (fun hc u=> ?_)<|fun hc u=> ?_
       ·refine aD<|aE<|wu rfl<|aB<|aL ?_;cases u;exact⟨rfl,⟨rfl,_,fun _=>rfl,bK rfl rfl rfl rfl J.ext⟩⟩
       ·refine aN<|aE<|wu rfl<|wu rfl<|wu rfl<|aB ?_;exact eL (fun e=>ih_w10_LinearSites_l0 _ _ _ _ _ _ _ _ u e s _ J) (.cons rfl<|.cons rfl<|.cons rfl<|.cons rfl<|.cons rfl<|.cons rfl<|.cons rfl<|.cons rfl .nil)<|fun _ _ _ h=>h
     ·refine aE<|wu rfl<|wu rfl<|wu rfl<|aB<|aE<|wu rfl<|wu rfl<|wu rfl<|aB ?_;exact eL (fun e=>ih_w10_LinearSites_l0 _ _ _ _ _ _ _ _ u e s _ J) (.cons rfl<|.cons rfl<|.cons rfl<|.cons rfl<|.cons rfl<|.cons rfl<|.cons rfl<|.cons rfl .nil)<|fun _ _ _ h=>h
 ·refine dR ?_;cases u;exact⟨rfl,_,frE<|.cons rfl<|.cons rfl<|.cons rfl<|.cons rfl<|.cons rfl<|.cons rfl<|.cons rfl .nil,rfl⟩
noncomputable def gK(e1:Expr)(k2:Str):Option Bool:=
 ((fZ e1 k2)>>=fun r3=>
 ((iJ e1 k2)>>=fun r4=>
 ((if(r3.2.2 !=r4.2)=true then some true
 else((if(r3.2.2 !=(0))=true then some (decide ((r4.1.length:Int)>(0)))
 else some false:Option Bool)>>=fun c6=>
 some c6):Option Bool)>>=fun c5=>
 (if c5=true then some false
 else(if(r3.2.2 !=(0))=true then((if(r3.2.2==(10))=true then some true
 else some ((r3.2.1.length:Int)==(0)):Option Bool)>>=fun c7=>
 ((if c7=true then((wG)>>=fun r9=>
 some r9)
 else some false:Option Bool)>>=fun c8=>
 some c8))
 else((dH e1 k2 r3 r4 (0) (0) (0))>>=fun o21=>
 (match o21 with
 | .ret q22=>some q22
 | .nx q23=>((if(decide (q23.1>(0)))=true then some (decide (q23.2>(0)))
 else some false:Option Bool)>>=fun c26=>
 (((if c26=true then some (2)
 else(if(decide (q23.1>(0)))=true then some (0)
 else(if(decide (q23.2>(0)))=true then some (1)
 else some (3)))):Option Int)>>=fun o27=>
 ((if(r3.1==o27)=true then((jB e1 k2)>>=fun r31=>
 some (r31==(r4.1.length:Int)))
 else some false:Option Bool)>>=fun c30=>
 ((if c30=true then some ((r3.2.1.length:Int)==(0))
 else some false:Option Bool)>>=fun c32=>
 ((if c32=true then((wG)>>=fun r34=>
 some r34)
 else some false:Option Bool)>>=fun c33=>
 some c33))))))))))))
theorem x7: ∀(e1:Expr)(k2:Str)(r:Bool),gK e1 k2=some r→ ∀s:ASt,Fc PP (.func 7) [(aR e1),(.str k2)] s (dZ s<|.bool r):=by
 intro e1 k2 r u;unfold gK at u;intro s;refine bZ rfl rfl rfl ?_;have J:=St.clean s;generalize aT s=σ1 at J⊢;refine aD<|aE<|wu rfl<|wu rfl<|aB<|aD<|aE<|wu rfl<|wu rfl ?_;obtain⟨r3,hr3,u⟩:=bs u;refine wcD (aAH hr3) rfl rfl (.cons rfl<|.cons rfl .nil)<|wu rfl<|wu rfl<|wu rfl<|wu rfl<|wu rfl<|wu rfl<|wu rfl<|aB<|aD<|aE<|wu rfl<|wu rfl ?_;obtain⟨r4,hr4,u⟩:=bs u;refine wcD (aBl hr4) rfl rfl (.cons rfl<|.cons rfl .nil)<|wu rfl<|wu rfl<|wu rfl<|wu rfl<|wu rfl<|aB<|aD<|aD<|aE<|wu rfl<|wu rfl<|wu rfl<|wu rfl ?_;obtain⟨c5,hc5,u⟩:=bs u;refine bF 8 [(1,(.str k2)),(2,(.aF (aR e1) 0)),(5,(.i r3.1)),(6,(slA 1<|r3.2.1.map<|AV.i)),(7,(.i r3.2.2)),(8,(slA 1<|r4.1.map<|aU 1<|AV.i)),(42,(.bool c5))] σ1 ?_<|fun e=> ?_
 ·refine bE (t:=34) rfl (fun hc=> ?_)<|fun hc=> ?_
  ·replace hc5:=bP hc hc5;refine wu rfl<|wu rfl<|wu rfl<|wu rfl<|wu rfl<|wu rfl<|wu rfl<|wu rfl<|aB ?_;cases hc5;exact Kept.mk rfl<|.cons rfl<|.cons rfl<|.cons rfl<|.cons rfl<|.cons rfl<|.cons rfl<|.cons rfl .nil
  ·replace hc5:=bO hc hc5
   iterate 3 refine wu rfl ?_
   obtain⟨c6,hc6,hc5⟩:=bs hc5;refine bF 4 [(1,(.str k2)),(2,(.aF (aR e1) 0)),(5,(.i r3.1)),(6,(slA 1<|r3.2.1.map<|AV.i)),(7,(.i r3.2.2)),(8,(slA 1<|r4.1.map<|aU 1<|AV.i)),(34,(.bool false)),(41,(.bool c6))] σ1 ?_<|fun e=> ?_
   ·refine bE (t:=37) rfl (fun hc=> ?_)<|fun hc=> ?_
    ·replace hc6:=bP hc hc6;refine wu rfl<|cG (f:=(aU 1<|AV.i)) (l:=r4.1) rfl (.no _)<|wu rfl<|wu rfl<|aB ?_;cases hc6;exact Kept.mk rfl<|.cons rfl<|.cons rfl<|.cons rfl<|.cons rfl<|.cons rfl<|.cons rfl<|.cons rfl<|.cons rfl .nil
    ·replace hc6:=bO hc hc6;refine wu rfl<|wu rfl<|wu rfl<|wu rfl<|aB ?_;cases hc6;exact Kept.mk rfl<|.cons rfl<|.cons rfl<|.cons rfl<|.cons rfl<|.cons rfl<|.cons rfl<|.cons rfl<|.cons rfl .nil
   ·refine wu rfl<|aB ?_;cases hc5;exact Kept.mk rfl<|.cons rfl<|.cons rfl<|.cons rfl<|.cons rfl<|.cons rfl<|.cons rfl<|.cons rfl .nil
 ·refine aB ?_;refine aH u rfl (fun hc u=> ?_)<|fun hc u=> ?_
  ·refine aD<|aE<|wu rfl<|aB<|aL ?_;cases u;exact⟨rfl,_,fun _=>rfl,bK rfl rfl rfl rfl J.ext⟩
  ·refine aN<|aD<|aD<|aE<|wu rfl<|wu rfl<|aB ?_;refine aH u rfl (fun hc u=> ?_)<|fun hc u=> ?_
   ·refine aD<|aE<|wu rfl<|wu rfl<|wu rfl ?_;obtain⟨c7,hc7,u⟩:=bs u;refine bF 4 [(51,(.bool c7))] σ1 ?_<|fun e=> ?_
    ·refine bE (t:=47) rfl (fun hc=> ?_)<|fun hc=> ?_
     ·replace hc7:=bP hc hc7;refine wu rfl<|wu rfl<|wu rfl<|wu rfl<|aB ?_;cases hc7;exact Kept.mk rfl<|.cons rfl .nil
     ·replace hc7:=bO hc hc7;refine wu rfl<|cG (f:=(AV.i)) (l:=r3.2.1) rfl (.no _)<|wu rfl<|wu rfl<|aB ?_;cases hc7;exact Kept.mk rfl<|.cons rfl .nil
    ·refine wu rfl ?_;obtain⟨c8,hc8,u⟩:=bs u;refine bF 2 [(54,(.bool c8))] σ1 ?_<|fun e=> ?_
     ·refine bE (t:=52) rfl (fun hc=> ?_)<|fun hc=> ?_
      ·replace hc8:=bP hc hc8;obtain⟨r9,hr9,hc8⟩:=bs hc8;refine wcD (zV hr9) rfl rfl .nil<|wu rfl<|aB ?_;cases hc8;exact Kept.mk rfl<|.cons rfl .nil
      ·replace hc8:=bO hc hc8;refine wu rfl<|wu rfl<|aB ?_;cases hc8;exact Kept.mk rfl<|.cons rfl .nil
     ·refine wu rfl<|aB<|aL ?_;cases u;exact⟨rfl,_,fun _=>rfl,bK rfl rfl rfl rfl J.ext⟩
   ·refine aN<|aD<|aE<|wu rfl<|wu rfl<|aB<|aD<|aD<|aE<|wu rfl<|aB<|aQ ?_;obtain⟨o21,h21,u⟩:=bs u;refine eL (fun e=>u0 _ _ _ _ _ _ _ _ h21 e s _ J) (.cons rfl<|.cons rfl<|.cons rfl<|.cons rfl<|.cons rfl<|.cons rfl<|.cons rfl<|.cons rfl .nil) ?_
    rintro _ _ _ hq
    rcases o21 with q22|q23
    ·obtain⟨rfl,hq⟩:=hq;cases u;exact hq
    ·obtain⟨rfl,e25,rfl,rfl⟩:=hq;refine aD<|aE<|wu rfl<|aB<|aD<|aD<|aE<|wu rfl<|wu rfl<|wu rfl ?_;obtain⟨c26,h26,u⟩:=bs u;refine bF 3 [(1,(.str k2)),(2,(.aF (aR e1) 0)),(5,(.i r3.1)),(6,(slA 1<|r3.2.1.map<|AV.i)),(8,(slA 1<|r4.1.map<|aU 1<|AV.i)),(10,(.i q23.1)),(11,(.i q23.2)),(17,(.i<|3)),(115,(.bool c26))] σ1 ?_<|fun e=> ?_
     ·refine bE (t:=112) rfl (fun hc=> ?_)<|fun hc=> ?_
      ·replace h26:=bP hc h26;refine wu rfl<|wu rfl<|wu rfl<|aB ?_;cases h26;exact Kept.mk rfl<|.cons rfl<|.cons rfl<|.cons rfl<|.cons rfl<|.cons rfl<|.cons rfl<|.cons rfl<|.cons rfl<|.cons rfl .nil
      ·replace h26:=bO hc h26;refine wu rfl<|wu rfl<|wu rfl<|aB ?_;cases h26;exact Kept.mk rfl<|.cons rfl<|.cons rfl<|.cons rfl<|.cons rfl<|.cons rfl<|.cons rfl<|.cons rfl<|.cons rfl<|.cons rfl .nil
     ·refine aB ?_;obtain⟨o27,h27,u⟩:=bs u;refine Wk.mono (Q:=fun ex fr s'=>ex= .normal∧ ∃(e:Env),fr=⟨bB e [(1,(.str k2)),(2,(.aF (aR e1) 0)),(5,(.i r3.1)),(6,(slA 1<|r3.2.1.map<|AV.i)),(8,(slA 1<|r4.1.map<|aU 1<|AV.i)),(17,(.i o27))],[]⟩∧σ1=s') ?_ ?_
      ·refine aH h27 rfl (fun hc h27=> ?_)<|fun hc h27=> ?_
       ·refine aE<|wu rfl<|aB ?_;cases h27;exact⟨rfl,_,frE<|.cons rfl<|.cons rfl<|.cons rfl<|.cons rfl<|.cons rfl<|.cons rfl .nil,rfl⟩
       ·refine aD<|aE<|wu rfl<|wu rfl<|aB ?_;refine aH h27 rfl (fun hc h27=> ?_)<|fun hc h27=> ?_
        ·refine aE<|wu rfl<|aB ?_;cases h27;exact⟨rfl,_,frE<|.cons rfl<|.cons rfl<|.cons rfl<|.cons rfl<|.cons rfl<|.cons rfl .nil,rfl⟩
        ·refine aD<|aE<|wu rfl<|wu rfl<|aB ?_;refine aH h27 rfl (fun hc h27=> ?_)<|fun hc h27=> ?_
         ·refine aE<|wu rfl<|aB ?_;cases h27;exact⟨rfl,_,frE<|.cons rfl<|.cons rfl<|.cons rfl<|.cons rfl<|.cons rfl<|.cons rfl .nil,rfl⟩
         ·refine aN ?_;cases h27;exact⟨rfl,_,frE<|.cons rfl<|.cons rfl<|.cons rfl<|.cons rfl<|.cons rfl<|.cons rfl .nil,rfl⟩
      ·rintro _ _ _ hq
       obtain⟨rfl,e29,rfl,rfl⟩:=hq;refine aD<|aE<|wu rfl<|wu rfl<|wu rfl<|wu rfl ?_;obtain⟨c30,h30,u⟩:=bs u;refine bF 7 [(6,(slA 1<|r3.2.1.map<|AV.i)),(130,(.bool c30))] σ1 ?_<|fun e=> ?_
       ·refine bE (t:=123) rfl (fun hc=> ?_)<|fun hc=> ?_
        ·replace h30:=bP hc h30;refine wu rfl<|wu rfl ?_;obtain⟨r31,h31,h30⟩:=bs h30;refine wcD (aDc h31) rfl rfl (.cons rfl<|.cons rfl .nil)<|wu rfl<|cG (f:=(aU 1<|AV.i)) (l:=r4.1) rfl (.no _)<|wu rfl<|wu rfl<|aB ?_;cases h30;exact Kept.mk rfl<|.cons rfl<|.cons rfl .nil
        ·replace h30:=bO hc h30;refine wu rfl<|wu rfl<|wu rfl<|wu rfl<|wu rfl<|wu rfl<|wu rfl<|aB ?_;cases h30;exact Kept.mk rfl<|.cons rfl<|.cons rfl .nil
       ·refine wu rfl ?_;obtain⟨c32,h32,u⟩:=bs u;refine bF 4 [(135,(.bool c32))] σ1 ?_<|fun e=> ?_
        ·refine bE (t:=131) rfl (fun hc=> ?_)<|fun hc=> ?_
         ·replace h32:=bP hc h32;refine wu rfl<|cG (f:=(AV.i)) (l:=r3.2.1) rfl (.no _)<|wu rfl<|wu rfl<|aB ?_;cases h32;exact Kept.mk rfl<|.cons rfl .nil
         ·replace h32:=bO hc h32;refine wu rfl<|wu rfl<|wu rfl<|wu rfl<|aB ?_;cases h32;exact Kept.mk rfl<|.cons rfl .nil
        ·refine wu rfl ?_;obtain⟨c33,h33,u⟩:=bs u;refine bF 2 [(138,(.bool c33))] σ1 ?_<|fun e=> ?_
         ·refine bE (t:=136) rfl (fun hc=> ?_)<|fun hc=> ?_
          ·replace h33:=bP hc h33;obtain⟨r34,h34,h33⟩:=bs h33;refine wcD (zV h34) rfl rfl .nil<|wu rfl<|aB ?_;cases h33;exact Kept.mk rfl<|.cons rfl .nil
          ·replace h33:=bO hc h33;refine wu rfl<|wu rfl<|aB ?_;cases h33;exact Kept.mk rfl<|.cons rfl .nil
         ·refine wu rfl<|aB<|aL ?_;cases u;exact⟨rfl,_,fun _=>rfl,bK rfl rfl rfl rfl J.ext⟩
theorem xW{e1:Expr}{k2:Str}{r:Bool}(h:gK e1 k2=some r):Pf PP 7 [(aR e1),(.str k2)] (.bool r):=Pf.fG (x7 e1 k2 r h _) rfl (.cons (gQ _)<|.cons ⟨rfl,rfl⟩ .nil)
end Go.Proofs.YtelnnehpbkainaaGreatDoor
namespace Go.Proofs.YtelnnehpbkainaaGreatDoor
open Go Go.Fw
def uU(c:Nat):Int:=
 if c=32∨c=9∨c=10 then 1 else if c=95∨(97≤c∧c≤122) then 2 else if 65≤c∧c≤90 then 3 else if 48≤c∧c≤57 then 4 else 0
def nD(c:UInt8):Bool:=(97≤c.toNat&&c.toNat≤122)||(65≤c.toNat&&c.toNat≤90)||(48≤c.toNat&&c.toNat≤57)||c.toNat==95
set_option maxRecDepth 100000 in
theorem aIQ: ∀n<256,((97≤n&&n≤122)||(65≤n&&n≤90)||(48≤n&&n≤57)||n==95)=(decide (n≤127)&&decide (2≤uU n)):=by decide
theorem aF2(c:UInt8):nD c=(decide (c.toNat≤127)&&decide (2≤uU c.toNat)):=aIQ _ c.toNat_lt
def isWord(s:List UInt8)(first:Int):Bool:=
 match s with
 | []=>false
 |c::_=>decide (s.length≤12)&&decide (uU c.toNat=first)&&s.all nD
def nP(s:List UInt8):Bool:=isWord s 2&& !kws.contains s
def sY(s:List UInt8):Bool:=isWord s 3
end Go.Proofs.YtelnnehpbkainaaGreatDoor
