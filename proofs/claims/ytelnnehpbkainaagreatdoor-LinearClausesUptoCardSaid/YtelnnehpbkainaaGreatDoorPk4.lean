/- Our own framework, the program's cooked code, and the proofs that a claim leans on: joined and shortened by a program of the prover's own. -/
import Derived.Test.YtelnnehpbkainaaGreatDoorPk3
set_option linter.unusedVariables false
set_option linter.unusedSimpArgs false
set_option maxRecDepth 100000
set_option maxHeartbeats 4000000
set_option synthInstance.maxSize 10000
namespace Go.Proofs.YtelnnehpbkainaaGreatDoor
open Go Go.Fw
noncomputable def l9(b1:aE)(k2:Str):Option ((Option mA)×(List Int)×Int):=
 ((cK b1 k2 ([]:(List (List Int))) (0) (0))>>=fun or9=>
 (match or9 with
 | .ret r9=>(qP ([]:(List Int)) (0)>>=fun r18=>
 some ((some (mA.mk k2 r9.1 (aH3.mk r9.2.1 r9.2.2))),r18.1,r18.2))
 | .nx p14=>(match p14 with
 | .aAi x23=>(qL x23 ([]:(List Int)) (0)>>=fun r24=>
 some ((none:Option mA),r24.1,r24.2))
 | .aVn x23=>none)))
theorem nB: ∀(b1:aE)(k2:Str)(r:((Option mA)×(List Int)×Int)),l9 b1 k2=some r→ ∀s:ASt,Fc PP (.func 48) [(aD b1),(.str k2)] s (aRg s (fun a:(Nat×AV)=>(.tuple [(.ptr a.1 0),(slA 1<|r.2.1.map<|AV.i),(.i r.2.2)])) (fun a:(Nat×AV)=>nwB a.1 r.1 (fun c:mA=> [(.str c.k),a.2,(.i c.aAr.e0),(.i c.aAr.e1)])) (fun a:(Nat×AV)=>nwG r.1 (fun c:mA=> [(a.2,1,(c.sites.map<|a0 1<|AV.i))])) (fun a:(Nat×AV)=>True)):=by
 intro b1 k2 r u;unfold l9 at u;intro s;refine aR3 (fun _=>rfl) (fun _=>by simp only [pA,jX,Bool.true_or,Bool.or_true]) (fun _ h=>aVq h) rfl rfl rfl ?_;have J:=St.clean s;generalize aU s=σ1 at J⊢;refine aB<|aC<|wu rfl<|wv rfl ?_;refine lU rfl J rfl<|fun β3 σ4 J=> ?_;refine lU rfl J rfl<|fun β5 σ6 J=> ?_;refine aA<|aB<|aC<|aQq rfl (.cons rfl<|.cons rfl .nil) rfl<|aA<|aB<|aC<|wu rfl ?_;refine wgv (v:=(.agg [(.str k2),(.slice 0 (([]:(List<|List Int)).map<|a0 1<|AV.i) .full),(.i<|0),(.i<|0)])) rfl rfl (by kernel_rfl) ?_;refine aQv (cs:= [(.str k2),(.slice 0 (([]:(List<|List Int)).map<|a0 1<|AV.i) .full),(.i<|0),(.i<|0)]) rfl J rfl rfl (.cons (tkN rfl)<|.cons (tkN rfl)<|.cons (tkN rfl)<|.cons (tkN rfl) .nil)<|fun β7 σ8 J=> ?_;refine wu rfl<|aA<|aB<|aC<|wu rfl<|wu rfl ?_;obtain⟨or9,ho9,u⟩:=bs u;have J:=J.nil 0 1;rcases or9 with r9|p14
 ·refine cN rfl (bs1:= [(β7,.cells [(.str k2),(.slice 0 (([]:(List<|List Int)).map<|a0 1<|AV.i) .full),(.i<|0),(.i<|0)] true)]) (bs2:= [(β5,.cells [(.i<|0)] true),(β3,.cells [(.slice 0 (([]:(List Int)).map<|AV.i) .full)] true)]) (gs1:= [((.slice 0 (([]:(List<|List Int)).map<|a0 1<|AV.i) .full),1,(([]:(List<|List Int)).map<|a0 1<|AV.i))]) (gs2:= []) rfl J (fun hK=>n5 _ _ _ _ _ _ ho9 _ β7 (.slice 0 (([]:(List<|List Int)).map<|a0 1<|AV.i) .full) hK) rfl rfl (fun _=>rfl) rfl (by exact(.cons rfl<|.cons rfl .nil)) rfl<|fun σ10 a11 hF J=> ?_;refine aA<|aB<|aC<|wu rfl<|wu rfl ?_;refine cJ (ds':= [(.slice 0 (([]:(List Int)).map<|AV.i) .full)]) (cs':= [(.slice 0 (([]:(List Int)).map<|AV.i) .full)]) 2 rfl J rfl rfl rfl rfl rfl (Nat.le_of_ble_eq_true rfl) (.cons (tkN rfl) .nil) (by kernel_rfl)<|fun σ16 J=> ?_;refine cJ (ds':= [(.i<|0)]) (cs':= [(.i<|0)]) 1 rfl J rfl rfl rfl rfl rfl (Nat.le_of_ble_eq_true rfl) (.cons (tkN rfl) .nil) (by kernel_rfl)<|fun σ17 J=> ?_;refine aA<|aK ?_;obtain⟨r18,h18,u⟩:=bs u;have J:=J.aV 1 rfl;have J:=J.aV 2 rfl;refine aVk (bs1:= [(β3,.cells [(.slice 0 (([]:(List Int)).map<|AV.i) .full)] true),(β5,.cells [(.i<|0)] true)]) (bs2:= [(β7,.cells [(.str k2),a11,(.i r9.2.1),(.i r9.2.2)] true)]) (gs1:= []) (gs2:= [(a11,1,(r9.1.map<|a0 1<|AV.i))]) (m:= .ret) rfl rfl J (fun hK=>aAl _ _ _ h18 _ β3 β5 (.slice 0 (([]:(List Int)).map<|AV.i) .full) (.full<|.inr rfl) hK) rfl rfl (fun _=>rfl)<|fun σ19 a20 hF J=> ?_;have h21:=hF;cases u;have hR:=J;have J:=J.aV 2 rfl;exact aS1 (xC.eq<|.cons rfl<|.cons (nS hR 0 rfl rfl rfl)<|.cons (nS hR 1 rfl rfl rfl) .nil) (.cons rfl<|.cons (h21).fix<|.cons rfl .nil) ⟨(β7,a11),rfl,True.intro,(J.vC 1)⟩
 ·refine iR (bs1:= [(β7,.cells [(.str k2),(.slice 0 (([]:(List<|List Int)).map<|a0 1<|AV.i) .full),(.i<|0),(.i<|0)] true)]) (bs2:= [(β5,.cells [(.i<|0)] true),(β3,.cells [(.slice 0 (([]:(List Int)).map<|AV.i) .full)] true)]) (gs1:= [((.slice 0 (([]:(List<|List Int)).map<|a0 1<|AV.i) .full),1,(([]:(List<|List Int)).map<|a0 1<|AV.i))]) (gs2:= []) rfl J (fun hK=>n5 _ _ _ _ _ _ ho9 _ β7 (.slice 0 (([]:(List<|List Int)).map<|a0 1<|AV.i) .full) hK) rfl rfl rfl (by exact(.cons rfl<|.cons rfl .nil)) rfl<|fun σ15 J=> ?_;rcases p14 with x23|x23
  ·obtain⟨r24,h24,u⟩:=bs u;have J:=J.aV 1 rfl;refine aVk (bs1:= [(β3,.cells [(.slice 0 (([]:(List Int)).map<|AV.i) .full)] true),(β5,.cells [(.i<|0)] true)]) (bs2:= []) (gs1:= []) (gs2:= []) (m:= .pan (pG<|.aAi x23)) rfl rfl J (fun hK=>aAf _ _ _ _ h24 _ β3 β5 (.slice 0 (([]:(List Int)).map<|AV.i) .full) (.full<|.inr rfl) hK) rfl rfl (fun _=>rfl)<|fun σ25 a26 hF J=> ?_;have h27:=hF;cases u;have hR:=J;exact aS1 (xC.eq<|.cons rfl<|.cons (nS hR 0 rfl rfl rfl)<|.cons (nS hR 1 rfl rfl rfl) .nil) (.cons rfl<|.cons (h27).fix<|.cons rfl .nil) ⟨(β7,fW),rfl,True.intro,(J.vC 0)⟩
  ·cases u
noncomputable def fS(b1:Expr)(k2:Str):Option (Int×(List Int)×Int):=
 ((gX b1 k2)>>=fun r3=>
 (if(r3 !=(0))=true then some ((0),([]:(List Int)),r3)
 else((l9 (aE.mk b1 ([]:(List Int))) k2)>>=fun r4=>
 (match r4 with
 |(none,r6,r7)=>(if(r7 !=(0))=true then some ((0),r6,r7)
 else none)
 |(some c5,r6,r7)=>(if(r7 !=(0))=true then some ((0),r6,r7)
 else((if(decide (c5.aAr.e0>(0)))=true then some (decide (c5.aAr.e1>(0)))
 else some false:Option Bool)>>=fun c12=>
 (if c12=true then some ((2),([]:(List Int)),(0))
 else(if(decide (c5.aAr.e0>(0)))=true then some ((0),([]:(List Int)),(0))
 else(if(decide (c5.aAr.e1>(0)))=true then some ((1),([]:(List Int)),(0))
 else some ((3),([]:(List Int)),(0)))))))))))
theorem aCB: ∀(b1:Expr)(k2:Str)(r:(Int×(List Int)×Int)),fS b1 k2=some r→ ∀s:ASt,Fc PP (.func 15) [(aM b1),(.str k2)] s (bW s<|.tuple [(.i r.1),(slA 1<|r.2.1.map<|AV.i),(.i r.2.2)]):=by
 intro b1 k2 r u;unfold fS at u;intro s;refine bD rfl rfl rfl ?_;have J:=St.clean s;generalize aU s=σ1 at J⊢;refine aB<|aC<|wu rfl<|wu rfl<|wu rfl<|wu rfl<|aA<|aB<|aB<|aC<|wu rfl<|wu rfl ?_;obtain⟨r3,hr3,u⟩:=bs u;refine wcD (pJ hr3) rfl rfl (.cons rfl<|.cons rfl .nil)<|wu rfl<|aA<|aB<|aC<|wu rfl<|wu rfl<|aA ?_;refine aF u rfl (fun hc u=> ?_)<|fun hc u=> ?_
 ·refine aB<|aC<|wu rfl<|wu rfl<|wu rfl<|wu rfl<|aA<|aK ?_;cases u;exact⟨rfl,_,fun _=>rfl,dN rfl (.cons rfl<|.cons rfl<|.cons rfl .nil) J.ext⟩
 ·refine aJ<|aB<|aC<|wu rfl ?_;refine wgv (v:=(.agg [(.i b1.kind),(.i b1.n),(.str b1.s),(.str b1.t),(slA 1<|b1.names.map AV.str),(slA 7<|b1.l.map aP),(slA 9<|b1.aT.map aZ),(.slice 0 (([]:(List Int)).map<|AV.i) .full)])) rfl rfl (by kernel_rfl) ?_;refine wu rfl ?_;obtain⟨r4,hr4,u⟩:=bs u;rcases r4 with ⟨_|c5,r6,r7⟩
  ·refine aG2 rfl J (nB _ _ _ hr4 _) rfl (by exact(.cons rfl<|.cons rfl .nil)) rfl<|fun σ8 a11 hF J=> ?_;obtain⟨β9,a10⟩:=a11;replace J:St [] [] s σ8 [] []:=J;refine wu rfl<|wu rfl<|wu rfl<|wu rfl<|wu rfl<|wu rfl<|wu rfl<|aA<|aB<|aO<|aB<|aC<|wu rfl<|wu rfl<|wu rfl ?_;refine aA ?_;refine aF u rfl (fun hc u=> ?_)<|fun hc u=> ?_
   ·refine aB<|aC<|wu rfl<|wu rfl<|wu rfl<|wu rfl<|wu rfl<|aA<|aK ?_;cases u;exact⟨rfl,_,fun _=>rfl,dN rfl (.cons rfl<|.cons rfl<|.cons rfl .nil) J.ext⟩
   ·refine aB<|aC<|wu rfl ?_;cases u
  ·refine aG2 rfl J (nB _ _ _ hr4 _) rfl (by exact(.cons rfl<|.cons rfl .nil)) rfl<|fun σ8 a11 hF J=> ?_;obtain⟨β9,a10⟩:=a11;replace J:St [] [] s σ8 [(β9,.cells [(.str c5.k),a10,(.i c5.aAr.e0),(.i c5.aAr.e1)] true)] [(a10,1,(c5.sites.map<|a0 1<|AV.i))]:=J;refine wu rfl<|wu rfl<|wu rfl<|wu rfl<|wu rfl<|wu rfl<|wu rfl<|aA<|aB<|aO<|aB<|aC<|wu rfl<|wu rfl<|wu rfl ?_;refine aA ?_;refine aF u rfl (fun hc u=> ?_)<|fun hc u=> ?_
   ·refine aB<|aC<|wu rfl<|wu rfl<|wu rfl<|wu rfl<|wu rfl<|aA<|aK ?_;cases u;exact⟨rfl,_,fun _=>rfl,dN rfl (.cons rfl<|.cons rfl<|.cons rfl .nil) J.ext⟩
   ·refine aB<|aC<|wu rfl<|wu rfl<|wu rfl<|wu rfl<|lA 0 rfl J rfl rfl rfl<|wu rfl<|wu rfl ?_;obtain⟨c12,h12,u⟩:=bs u;refine aW 7 [(8,(.ptr β9 0)),(44,(.bool c12))] σ8 ?_<|fun e=> ?_
    ·refine aX (t:=37) rfl (fun hc=> ?_)<|fun hc=> ?_
     ·replace h12:=bE hc h12;refine wu rfl<|wu rfl<|wu rfl<|wu rfl<|lA 0 rfl J rfl rfl rfl<|wu rfl<|wu rfl<|aA ?_;cases h12;exact Kept.mk rfl<|.cons rfl<|.cons rfl .nil
     ·replace h12:=bC hc h12;refine wu rfl<|wu rfl<|wu rfl<|wu rfl<|wu rfl<|wu rfl<|wu rfl<|aA ?_;cases h12;exact Kept.mk rfl<|.cons rfl<|.cons rfl .nil
    ·refine wu rfl<|aA ?_;refine aF u rfl (fun hc u=> ?_)<|fun hc u=> ?_
     ·refine aB<|aC<|wu rfl<|wu rfl<|wu rfl<|aA<|aK ?_;cases u;exact⟨rfl,_,fun _=>rfl,dN rfl (.cons rfl<|.cons rfl<|.cons rfl .nil) J.ext⟩
     ·refine aB<|aC<|wu rfl<|wu rfl<|wu rfl<|wu rfl<|lA 0 rfl J rfl rfl rfl<|wu rfl<|wu rfl<|aA ?_;refine aF u rfl (fun hc u=> ?_)<|fun hc u=> ?_
      ·refine aB<|aC<|wu rfl<|wu rfl<|wu rfl<|aA<|aK ?_;cases u;exact⟨rfl,_,fun _=>rfl,dN rfl (.cons rfl<|.cons rfl<|.cons rfl .nil) J.ext⟩
      ·refine aB<|aC<|wu rfl<|wu rfl<|wu rfl<|wu rfl<|lA 0 rfl J rfl rfl rfl<|wu rfl<|wu rfl<|aA ?_;refine aF u rfl (fun hc u=> ?_)<|fun hc u=> ?_
       ·refine aB<|aC<|wu rfl<|wu rfl<|wu rfl<|aA<|aK ?_;cases u;exact⟨rfl,_,fun _=>rfl,dN rfl (.cons rfl<|.cons rfl<|.cons rfl .nil) J.ext⟩
       ·refine aJ<|aB<|aC<|wu rfl<|wu rfl<|wu rfl<|aA<|aK ?_;cases u;exact⟨rfl,_,fun _=>rfl,dN rfl (.cons rfl<|.cons rfl<|.cons rfl .nil) J.ext⟩
theorem aCj{b1:Expr}{k2:Str}{r:(Int×(List Int)×Int)}(h:fS b1 k2=some r):Pf PP 15 [(aM b1),(.str k2)] (.tuple [(.i r.1),(slA 1<|r.2.1.map<|AV.i),(.i r.2.2)]):=Pf.cB (aCB b1 k2 r h _) (rW<|.cons rfl<|.cons (iC (fun _=>rfl) _)<|.cons rfl<|.nil) (.cons (cC _)<|.cons ⟨rfl,rfl⟩ .nil)
noncomputable def j3(s1:aE)(k2:Str):Option Bool:=
 ((dB s1 k2 false false)>>=fun r3=>
 some (!r3.2))
theorem zD: ∀(s1:aE)(k2:Str)(r:Bool),j3 s1 k2=some r→ ∀s:ASt,Fc PP (.func 47) [(aD s1),(.str k2)] s (bW s<|.bool r):=by
 intro s1 k2 r u;unfold j3 at u;intro s;refine bD rfl rfl rfl ?_;have J:=St.clean s;generalize aU s=σ1 at J⊢;refine aB<|aC<|wu rfl<|wu rfl<|aA<|aB<|aC<|wu rfl<|wu rfl ?_;obtain⟨r3,hr3,u⟩:=bs u;refine wcD (iL hr3) rfl rfl (.cons rfl<|.cons rfl<|.cons rfl<|.cons rfl .nil)<|wu rfl<|wu rfl<|wu rfl<|wu rfl<|wu rfl<|aA<|aB<|aC<|wu rfl<|wu rfl<|wu rfl<|aA<|aK ?_;cases u;exact⟨rfl,_,fun _=>rfl,aY rfl rfl rfl rfl J.ext⟩
theorem yW{s1:aE}{k2:Str}{r:Bool}(h:j3 s1 k2=some r):Pf PP 47 [(aD s1),(.str k2)] (.bool r):=Pf.cB (zD s1 k2 r h _) rfl (.cons (fG _)<|.cons ⟨rfl,rfl⟩ .nil)
noncomputable def nH(e1:Expr)(k2:Str):Option (Bool×Int):=
 ((gX e1 k2)>>=fun r3=>
 (if(r3 !=(0))=true then some (false,r3)
 else((j3 (aE.mk e1 ([]:(List Int))) k2)>>=fun r4=>
 some (r4,(0)))))
theorem aDF: ∀(e1:Expr)(k2:Str)(r:(Bool×Int)),nH e1 k2=some r→ ∀s:ASt,Fc PP (.func 13) [(aM e1),(.str k2)] s (bW s<|.tuple [(.bool r.1),(.i r.2)]):=by
 intro e1 k2 r u;unfold nH at u;intro s;refine bD rfl rfl rfl ?_;have J:=St.clean s;generalize aU s=σ1 at J⊢;refine aB<|aC<|wu rfl<|wu rfl<|wu rfl<|aA<|aB<|aB<|aC<|wu rfl<|wu rfl ?_;obtain⟨r3,hr3,u⟩:=bs u;refine wcD (pJ hr3) rfl rfl (.cons rfl<|.cons rfl .nil)<|wu rfl<|aA<|aB<|aC<|wu rfl<|wu rfl<|aA ?_;refine aF u rfl (fun hc u=> ?_)<|fun hc u=> ?_
 ·refine aB<|aC<|wu rfl<|wu rfl<|wu rfl<|aA<|aK ?_;cases u;exact⟨rfl,_,fun _=>rfl,dN rfl (.cons rfl<|.cons rfl .nil) J.ext⟩
 ·refine aJ<|aB<|aC<|wu rfl ?_;refine wgv (v:=(.agg [(.i e1.kind),(.i e1.n),(.str e1.s),(.str e1.t),(slA 1<|e1.names.map AV.str),(slA 7<|e1.l.map aP),(slA 9<|e1.aT.map aZ),(.slice 0 (([]:(List Int)).map<|AV.i) .full)])) rfl rfl (by kernel_rfl) ?_;refine wu rfl ?_;obtain⟨r4,hr4,u⟩:=bs u;refine wcD (yW hr4) rfl rfl (.cons rfl<|.cons rfl .nil)<|wu rfl<|wu rfl<|aA<|aK ?_;cases u;exact⟨rfl,_,fun _=>rfl,dN rfl (.cons rfl<|.cons rfl .nil) J.ext⟩
theorem aDx{e1:Expr}{k2:Str}{r:(Bool×Int)}(h:nH e1 k2=some r):Pf PP 13 [(aM e1),(.str k2)] (.tuple [(.bool r.1),(.i r.2)]):=Pf.cB (aDF e1 k2 r h _) (rW<|.cons rfl<|.cons rfl<|.nil) (.cons (cC _)<|.cons ⟨rfl,rfl⟩ .nil)
noncomputable def gS(b1:Expr)(k2:Str):Option ((List<|List Int)×Int):=
 ((gX b1 k2)>>=fun r3=>
 (if(r3 !=(0))=true then some (([]:(List (List Int))),r3)
 else((l9 (aE.mk b1 ([]:(List Int))) k2)>>=fun r4=>
 (match r4 with
 |(none,r6,r7)=>(if(r7 !=(0))=true then some (([]:(List (List Int))),r7)
 else none)
 |(some c5,r6,r7)=>(if(r7 !=(0))=true then some (([]:(List (List Int))),r7)
 else some (c5.sites,(0)))))))
theorem aDv: ∀(b1:Expr)(k2:Str)(r:((List<|List Int)×Int)),gS b1 k2=some r→ ∀s:ASt,Fc PP (.func 18) [(aM b1),(.str k2)] s (bW s<|.tuple [(slA 1<|r.1.map<|a0 1<|AV.i),(.i r.2)]):=by
 intro b1 k2 r u;unfold gS at u;intro s;refine bD rfl rfl rfl ?_;have J:=St.clean s;generalize aU s=σ1 at J⊢;refine aB<|aC<|wu rfl<|wu rfl<|wu rfl<|aA<|aB<|aB<|aC<|wu rfl<|wu rfl ?_;obtain⟨r3,hr3,u⟩:=bs u;refine wcD (pJ hr3) rfl rfl (.cons rfl<|.cons rfl .nil)<|wu rfl<|aA<|aB<|aC<|wu rfl<|wu rfl<|aA ?_;refine aF u rfl (fun hc u=> ?_)<|fun hc u=> ?_
 ·refine aB<|aC<|wu rfl<|wu rfl<|wu rfl<|aA<|aK ?_;cases u;exact⟨rfl,_,fun _=>rfl,dN rfl (.cons rfl<|.cons rfl .nil) J.ext⟩
 ·refine aJ<|aB<|aC<|wu rfl ?_;refine wgv (v:=(.agg [(.i b1.kind),(.i b1.n),(.str b1.s),(.str b1.t),(slA 1<|b1.names.map AV.str),(slA 7<|b1.l.map aP),(slA 9<|b1.aT.map aZ),(.slice 0 (([]:(List Int)).map<|AV.i) .full)])) rfl rfl (by kernel_rfl) ?_;refine wu rfl ?_;obtain⟨r4,hr4,u⟩:=bs u;rcases r4 with ⟨_|c5,r6,r7⟩
  ·refine aG2 rfl J (nB _ _ _ hr4 _) rfl (by exact(.cons rfl<|.cons rfl .nil)) rfl<|fun σ8 a11 hF J=> ?_;obtain⟨β9,a10⟩:=a11;replace J:St [] [] s σ8 [] []:=J;refine wu rfl<|wu rfl<|wu rfl<|wu rfl<|wu rfl<|wu rfl<|wu rfl<|aA<|aB<|aB<|aC<|wu rfl<|wu rfl<|aA ?_;refine aF u rfl (fun hc u=> ?_)<|fun hc u=> ?_
   ·refine aB<|aC<|wu rfl<|wu rfl<|wu rfl<|aA<|aK ?_;cases u;exact⟨rfl,_,fun _=>rfl,dN rfl (.cons rfl<|.cons rfl .nil) J.ext⟩
   ·refine aJ<|aB<|aC<|wu rfl ?_;cases u
  ·refine aG2 rfl J (nB _ _ _ hr4 _) rfl (by exact(.cons rfl<|.cons rfl .nil)) rfl<|fun σ8 a11 hF J=> ?_;obtain⟨β9,a10⟩:=a11;replace J:St [] [] s σ8 [(β9,.cells [(.str c5.k),a10,(.i c5.aAr.e0),(.i c5.aAr.e1)] true)] [(a10,1,(c5.sites.map<|a0 1<|AV.i))]:=J;refine wu rfl<|wu rfl<|wu rfl<|wu rfl<|wu rfl<|wu rfl<|wu rfl<|aA<|aB<|aB<|aC<|wu rfl<|wu rfl<|aA ?_;refine aF u rfl (fun hc u=> ?_)<|fun hc u=> ?_
   ·refine aB<|aC<|wu rfl<|wu rfl<|wu rfl<|aA<|aK ?_;cases u;exact⟨rfl,_,fun _=>rfl,dN rfl (.cons rfl<|.cons rfl .nil) J.ext⟩
   ·refine aJ<|aB<|aC<|wu rfl<|wu rfl<|wu rfl<|lA 0 rfl J rfl rfl rfl<|wv rfl<|wu rfl<|aA<|aK ?_;cases u;exact⟨rfl,_,fun _=>rfl,dN rfl (.cons ((J.slG 0 rfl)).fix<|.cons rfl .nil) J.ext⟩
theorem aDu{b1:Expr}{k2:Str}{r:((List<|List Int)×Int)}(h:gS b1 k2=some r):Pf PP 18 [(aM b1),(.str k2)] (.tuple [(slA 1<|r.1.map<|a0 1<|AV.i),(.i r.2)]):=Pf.cB (aDv b1 k2 r h _) (rW<|.cons (iC (aBH<|fun _=>rfl) _)<|.cons rfl<|.nil) (.cons (cC _)<|.cons ⟨rfl,rfl⟩ .nil)
noncomputable def m7(l1:(List Str))(s2:Str)(i3:Int):Option (Ctl Int Unit):=
 (if(decide (i3<(l1.length:Int)))=true then((idx l1 i3)>>=fun y4=>
 (if(y4==s2)=true then some (.ret i3)
 else m7 (nf l1) (nf s2) (IntKind.wrap .i64 (i3+(1)))))
 else some (.nx ()))
 partial_fixpoint
abbrev yT(l1:(List Str))(s2:Str)(i3:Int)(o:(Ctl Int Unit)):Prop:= ∀(e:Env)(s sv:ASt),St [] [] s sv [] []→Wk PP none Code.aTf ⟨bB e [(0,(slA 1<|l1.map AV.str)),(1,(.str s2)),(5,(.i i3))],[]⟩ sv (fun ex fr s'=>(match o with| .ret oq0=>ex= .ret∧nQ PP Code.c98 (VQ (.i oq0)<|Ext [] [] s) ex fr s'| .nx oq1=>ex= .exit 0∧ ∃(e:Env),fr=⟨bB e [],[]⟩∧sv=s'))
theorem aDt: ∀(l1:(List Str))(s2:Str)(i3:Int)(o:(Ctl Int Unit)),m7 l1 s2 i3=some o→yT l1 s2 i3 o:=by
 refine m7.partial_correctness (yT) ?_;intro _f ih_r01_Index_l0 l1 s2 i3 o u;intro e s sv J;refine bM<|aB<|aB<|aC<|wu rfl<|wu rfl<|bI (f:=AV.str) (l:=l1) rfl (.no _)<|wu rfl<|aA ?_;refine aF u rfl (fun hc u=> ?_)<|fun hc u=> ?_
 ·refine aJ<|aB<|aO<|aB<|aC<|wu rfl<|wu rfl ?_;obtain⟨y4,hy4,u⟩:=bs u;refine bT (f:=AV.str) rfl (.no _) rfl hy4 rfl<|wu rfl<|wu rfl<|wu rfl<|aA ?_;refine aF u rfl (fun hc u=> ?_)<|fun hc u=> ?_
  ·refine aB<|aC<|wu rfl<|wu rfl<|aA<|aK ?_;cases u;exact⟨rfl,⟨rfl,_,fun _=>rfl,aY rfl rfl rfl rfl J.ext⟩⟩
  ·refine aJ<|aC<|wu rfl<|wu rfl<|wu rfl<|aA ?_;exact bV (fun e=>ih_r01_Index_l0 _ _ _ _ u e s _ J) (.cons rfl<|.cons rfl<|.cons rfl .nil)<|fun _ _ _ h=>h
 ·refine bY ?_;cases u;exact⟨rfl,_,frE .nil,rfl⟩
noncomputable def s6(l1:(List Str))(s2:Str):Option Int:=
 ((m7 l1 s2 (0))>>=fun o5=>
 (match o5 with
 | .ret q6=>some q6
 | .nx q7=>some (-1)))
theorem aHg: ∀(l1:(List Str))(s2:Str)(r:Int),s6 l1 s2=some r→ ∀s:ASt,Fc PP (.func 98) [(slA 1<|l1.map AV.str),(.str s2)] s (bW s<|.i r):=by
 intro l1 s2 r u;unfold s6 at u;intro s;refine bD rfl rfl rfl ?_;have J:=St.clean s;generalize aU s=σ1 at J⊢;refine aB<|aC<|wu rfl<|aA<|aB<|aB<|aC<|wu rfl<|aA<|aO ?_;obtain⟨o5,ho5,u⟩:=bs u;refine bV (fun e=>aDt _ _ _ _ ho5 e s _ J) (.cons rfl<|.cons rfl<|.cons rfl .nil) ?_
 rintro _ _ _ hq
 rcases o5 with q6|q7
 ·obtain⟨rfl,hq⟩:=hq;cases u;exact hq
 ·obtain⟨rfl,e9,rfl,rfl⟩:=hq;refine aB<|aC<|wu rfl<|aA<|aK ?_;cases u;exact⟨rfl,_,fun _=>rfl,aY rfl rfl rfl rfl J.ext⟩
theorem aHd{l1:(List Str)}{s2:Str}{r:Int}(h:s6 l1 s2=some r):Pf PP 98 [(slA 1<|l1.map AV.str),(.str s2)] (.i r):=Pf.cB (aHg l1 s2 r h _) rfl (.cons (j9<|cV (fun _=>rfl) _)<|.cons ⟨rfl,rfl⟩ .nil)
noncomputable def j0(l1:(List Str))(s2:Str):Option Bool:=
 ((s6 l1 s2)>>=fun r3=>
 some (decide (r3≥(0))))
theorem aL6: ∀(l1:(List Str))(s2:Str)(r:Bool),j0 l1 s2=some r→ ∀s:ASt,Fc PP (.func 63) [(slA 1<|l1.map AV.str),(.str s2)] s (bW s<|.bool r):=by
 intro l1 s2 r u;unfold j0 at u;intro s;refine bD rfl rfl rfl ?_;have J:=St.clean s;generalize aU s=σ1 at J⊢;refine aB<|aC<|wu rfl<|aA<|aB<|aC<|wu rfl<|wu rfl ?_;obtain⟨r3,hr3,u⟩:=bs u;refine wcD (aHd hr3) rfl rfl (.cons rfl<|.cons rfl .nil)<|wu rfl<|wu rfl<|aA<|aK ?_;cases u;exact⟨rfl,_,fun _=>rfl,aY rfl rfl rfl rfl J.ext⟩
theorem iA{l1:(List Str)}{s2:Str}{r:Bool}(h:j0 l1 s2=some r):Pf PP 63 [(slA 1<|l1.map AV.str),(.str s2)] (.bool r):=Pf.cB (aL6 l1 s2 r h _) rfl (.cons (j9<|cV (fun _=>rfl) _)<|.cons ⟨rfl,rfl⟩ .nil)
noncomputable def u4(n1:Int)(l2:Int)(hi3:Int):Option Bool:=
 ((if(decide (l2≤n1))=true then some (decide (n1≤hi3))
 else some false:Option Bool)>>=fun c4=>
 some c4)
theorem aNM: ∀(n1:Int)(l2:Int)(hi3:Int)(r:Bool),u4 n1 l2 hi3=some r→ ∀s:ASt,Fc PP (.func 61) [(.i n1),(.i l2),(.i hi3)] s (bW s<|.bool r):=by
 intro n1 l2 hi3 r u;unfold u4 at u;intro s;refine bD rfl rfl rfl ?_;have J:=St.clean s;generalize aU s=σ1 at J⊢;refine aB<|aC<|wu rfl<|aA<|aB<|aC<|wu rfl<|wu rfl<|wu rfl<|wu rfl ?_;obtain⟨c4,hc4,u⟩:=bs u;refine aW 4 [(14,(.bool c4))] σ1 ?_<|fun e=> ?_
 ·refine aX (t:=10) rfl (fun hc=> ?_)<|fun hc=> ?_
  ·replace hc4:=bE hc hc4;refine wu rfl<|wu rfl<|wu rfl<|wu rfl<|aA ?_;cases hc4;exact Kept.mk rfl<|.cons rfl .nil
  ·replace hc4:=bC hc hc4;refine wu rfl<|wu rfl<|wu rfl<|wu rfl<|aA ?_;cases hc4;exact Kept.mk rfl<|.cons rfl .nil
 ·refine wu rfl<|aA<|aK ?_;cases u;exact⟨rfl,_,fun _=>rfl,aY rfl rfl rfl rfl J.ext⟩
theorem z4{n1:Int}{l2:Int}{hi3:Int}{r:Bool}(h:u4 n1 l2 hi3=some r):Pf PP 61 [(.i n1),(.i l2),(.i hi3)] (.bool r):=Pf.cB (aNM n1 l2 hi3 r h _) rfl (.cons ⟨rfl,rfl⟩<|.cons ⟨rfl,rfl⟩<|.cons ⟨rfl,rfl⟩ .nil)
noncomputable def lI(s1:Str)(i13:Int):Option (Ctl Bool Unit):=
 (if(decide (i13<(s1.length:Int)))=true then((idx s1 i13)>>=fun b14=>
 ((if(decide ((b14.toNat:Int)≥(97)))=true then some (decide ((b14.toNat:Int)≤(122)))
 else some false:Option Bool)>>=fun c15=>
 ((if c15=true then some true
 else((if(decide ((b14.toNat:Int)≥(65)))=true then some (decide ((b14.toNat:Int)≤(90)))
 else some false:Option Bool)>>=fun c17=>
 some c17):Option Bool)>>=fun c16=>
 ((if c16=true then some true
 else((if(decide ((b14.toNat:Int)≥(48)))=true then some (decide ((b14.toNat:Int)≤(57)))
 else some false:Option Bool)>>=fun c19=>
 some c19):Option Bool)>>=fun c18=>
 ((if c18=true then some true
 else some ((b14.toNat:Int)==(95)):Option Bool)>>=fun c20=>
 (if(!c20)=true then some (.ret false)
 else lI (nf s1) (IntKind.wrap .i64 (i13+(1)))))))))
 else some (.nx ()))
 partial_fixpoint
abbrev aAz(s1:Str)(i13:Int)(o:(Ctl Bool Unit)):Prop:= ∀(e:Env)(s sv:ASt),St [] [] s sv [] []→Wk PP none Code.aS4 ⟨bB e [(0,(.str s1)),(9,(.i i13))],[]⟩ sv (fun ex fr s'=>(match o with| .ret oq0=>ex= .ret∧nQ PP Code.c75 (VQ (.bool oq0)<|Ext [] [] s) ex fr s'| .nx oq1=>ex= .exit 0∧ ∃(e:Env),fr=⟨bB e [],[]⟩∧sv=s'))
theorem aEw: ∀(s1:Str)(i13:Int)(o:(Ctl Bool Unit)),lI s1 i13=some o→aAz s1 i13 o:=by
 refine lI.partial_correctness (aAz) ?_;intro _f ih_r01_word_l0 s1 i13 o u;intro e s sv J;refine bM<|aB<|aB<|aC<|wu rfl<|wu rfl<|wu rfl<|wu rfl<|aA ?_;refine aF u rfl (fun hc u=> ?_)<|fun hc u=> ?_
 ·refine aJ<|aB<|aO<|aB<|aC<|wu rfl<|wu rfl ?_;obtain⟨b14,h14,u⟩:=bs u;refine aKn rfl rfl rfl h14 ?_;refine wu rfl<|aA<|aB<|aC<|wu rfl<|wu rfl<|wu rfl ?_;obtain⟨c15,h15,u⟩:=bs u;refine aW 3 [(0,(.str s1)),(9,(.i i13)),(10,(.int .u8 (b14.toNat:Int))),(50,(.bool c15))] sv ?_<|fun e=> ?_
  ·refine aX (t:=47) rfl (fun hc=> ?_)<|fun hc=> ?_
   ·replace h15:=bE hc h15;refine wu rfl<|wu rfl<|wu rfl<|aA ?_;cases h15;exact Kept.mk rfl<|.cons rfl<|.cons rfl<|.cons rfl<|.cons rfl .nil
   ·replace h15:=bC hc h15;refine wu rfl<|wu rfl<|wu rfl<|aA ?_;cases h15;exact Kept.mk rfl<|.cons rfl<|.cons rfl<|.cons rfl<|.cons rfl .nil
  ·refine wu rfl ?_;obtain⟨c16,h16,u⟩:=bs u;refine aW 7 [(0,(.str s1)),(9,(.i i13)),(10,(.int .u8 (b14.toNat:Int))),(58,(.bool c16))] sv ?_<|fun e=> ?_
   ·refine aX (t:=51) rfl (fun hc=> ?_)<|fun hc=> ?_
    ·replace h16:=bE hc h16;refine wu rfl<|wu rfl<|wu rfl<|wu rfl<|wu rfl<|wu rfl<|wu rfl<|aA ?_;cases h16;exact Kept.mk rfl<|.cons rfl<|.cons rfl<|.cons rfl<|.cons rfl .nil
    ·replace h16:=bC hc h16
     iterate 3 refine wu rfl ?_
     obtain⟨c17,h17,h16⟩:=bs h16;refine aW 3 [(0,(.str s1)),(9,(.i i13)),(10,(.int .u8 (b14.toNat:Int))),(51,(.bool false)),(57,(.bool c17))] sv ?_<|fun e=> ?_
     ·refine aX (t:=54) rfl (fun hc=> ?_)<|fun hc=> ?_
      ·replace h17:=bE hc h17;refine wu rfl<|wu rfl<|wu rfl<|aA ?_;cases h17;exact Kept.mk rfl<|.cons rfl<|.cons rfl<|.cons rfl<|.cons rfl<|.cons rfl .nil
      ·replace h17:=bC hc h17;refine wu rfl<|wu rfl<|wu rfl<|aA ?_;cases h17;exact Kept.mk rfl<|.cons rfl<|.cons rfl<|.cons rfl<|.cons rfl<|.cons rfl .nil
     ·refine wu rfl<|aA ?_;cases h16;exact Kept.mk rfl<|.cons rfl<|.cons rfl<|.cons rfl<|.cons rfl .nil
   ·refine wu rfl ?_;obtain⟨c18,h18,u⟩:=bs u;refine aW 7 [(0,(.str s1)),(9,(.i i13)),(10,(.int .u8 (b14.toNat:Int))),(66,(.bool c18))] sv ?_<|fun e=> ?_
    ·refine aX (t:=59) rfl (fun hc=> ?_)<|fun hc=> ?_
     ·replace h18:=bE hc h18;refine wu rfl<|wu rfl<|wu rfl<|wu rfl<|wu rfl<|wu rfl<|wu rfl<|aA ?_;cases h18;exact Kept.mk rfl<|.cons rfl<|.cons rfl<|.cons rfl<|.cons rfl .nil
     ·replace h18:=bC hc h18
      iterate 3 refine wu rfl ?_
      obtain⟨c19,h19,h18⟩:=bs h18;refine aW 3 [(0,(.str s1)),(9,(.i i13)),(10,(.int .u8 (b14.toNat:Int))),(59,(.bool false)),(65,(.bool c19))] sv ?_<|fun e=> ?_
      ·refine aX (t:=62) rfl (fun hc=> ?_)<|fun hc=> ?_
       ·replace h19:=bE hc h19;refine wu rfl<|wu rfl<|wu rfl<|aA ?_;cases h19;exact Kept.mk rfl<|.cons rfl<|.cons rfl<|.cons rfl<|.cons rfl<|.cons rfl .nil
       ·replace h19:=bC hc h19;refine wu rfl<|wu rfl<|wu rfl<|aA ?_;cases h19;exact Kept.mk rfl<|.cons rfl<|.cons rfl<|.cons rfl<|.cons rfl<|.cons rfl .nil
      ·refine wu rfl<|aA ?_;cases h18;exact Kept.mk rfl<|.cons rfl<|.cons rfl<|.cons rfl<|.cons rfl .nil
    ·refine wu rfl ?_;obtain⟨c20,h20,u⟩:=bs u;refine aW 3 [(0,(.str s1)),(9,(.i i13)),(70,(.bool c20))] sv ?_<|fun e=> ?_
     ·refine aX (t:=67) rfl (fun hc=> ?_)<|fun hc=> ?_
      ·replace h20:=bE hc h20;refine wu rfl<|wu rfl<|wu rfl<|aA ?_;cases h20;exact Kept.mk rfl<|.cons rfl<|.cons rfl<|.cons rfl .nil
      ·replace h20:=bC hc h20;refine wu rfl<|wu rfl<|wu rfl<|aA ?_;cases h20;exact Kept.mk rfl<|.cons rfl<|.cons rfl<|.cons rfl .nil
     ·refine wu rfl<|aA ?_;refine aF u rfl (fun hc u=> ?_)<|fun hc u=> ?_
      ·refine aB<|aC<|wu rfl<|aA<|aK ?_;cases u;exact⟨rfl,⟨rfl,_,fun _=>rfl,aY rfl rfl rfl rfl J.ext⟩⟩
      ·refine aJ<|aC<|wu rfl<|wu rfl<|wu rfl<|aA ?_;exact bV (fun e=>ih_r01_word_l0 _ _ _ u e s _ J) (.cons rfl<|.cons rfl .nil)<|fun _ _ _ h=>h
 ·refine bY ?_;cases u;exact⟨rfl,_,frE .nil,rfl⟩
noncomputable def pB(s1:Str)(l2:Int)(hi3:Int)(under4:Bool):Option Bool:=
 ((u4 (s1.length:Int) (1) (12))>>=fun r5=>
 ((if(!r5)=true then some true
 else((idx s1 (0))>>=fun b7=>
 ((if(decide ((b7.toNat:Int)≥l2))=true then((idx s1 (0))>>=fun b9=>
 some (decide ((b9.toNat:Int)≤hi3)))
 else some false:Option Bool)>>=fun c8=>
 ((if c8=true then some true
 else((if under4=true then((idx s1 (0))>>=fun b12=>
 some ((b12.toNat:Int)==(95)))
 else some false:Option Bool)>>=fun c11=>
 some c11):Option Bool)>>=fun c10=>
 some (!c10)))):Option Bool)>>=fun c6=>
 (if c6=true then some false
 else((lI s1 (0))>>=fun o21=>
 (match o21 with
 | .ret q22=>some q22
 | .nx q23=>some true)))))
theorem aKu: ∀(s1:Str)(l2:Int)(hi3:Int)(under4:Bool)(r:Bool),pB s1 l2 hi3 under4=some r→ ∀s:ASt,Fc PP (.func 75) [(.str s1),(.int .u8 l2),(.int .u8 hi3),(.bool under4)] s (bW s<|.bool r):=by
 intro s1 l2 hi3 under4 r u;unfold pB at u;intro s;refine bD rfl rfl rfl ?_;have J:=St.clean s;generalize aU s=σ1 at J⊢;refine aB<|aC<|wu rfl<|aA<|aB<|aB<|aC<|wu rfl<|wu rfl ?_;obtain⟨r5,hr5,u⟩:=bs u;refine wcD (z4 hr5) rfl rfl (.cons rfl<|.cons rfl<|.cons rfl .nil)<|wu rfl<|wu rfl ?_;obtain⟨c6,hc6,u⟩:=bs u;refine aW 20 [(0,(.str s1)),(35,(.bool c6))] σ1 ?_<|fun e=> ?_
 ·refine aX (t:=15) rfl (fun hc=> ?_)<|fun hc=> ?_
  ·replace hc6:=bE hc hc6
   iterate 20 refine wu rfl ?_
   refine aA ?_;cases hc6;exact Kept.mk rfl<|.cons rfl<|.cons rfl .nil
  ·replace hc6:=bC hc hc6;refine wu rfl ?_;obtain⟨b7,hb7,hc6⟩:=bs hc6;refine aKn rfl rfl rfl hb7 ?_
   iterate 3 refine wu rfl ?_
   obtain⟨c8,hc8,hc6⟩:=bs hc6;refine aW 5 [(0,(.str s1)),(3,(.bool under4)),(15,(.bool false)),(25,(.bool c8))] σ1 ?_<|fun e=> ?_
   ·refine aX (t:=20) rfl (fun hc=> ?_)<|fun hc=> ?_
    ·replace hc8:=bE hc hc8;refine wu rfl ?_;obtain⟨b9,hb9,hc8⟩:=bs hc8;refine aKn rfl rfl rfl hb9 ?_;refine wu rfl<|wu rfl<|wu rfl<|aA ?_;cases hc8;exact Kept.mk rfl<|.cons rfl<|.cons rfl<|.cons rfl<|.cons rfl .nil
    ·replace hc8:=bC hc hc8;refine wu rfl<|wu rfl<|wu rfl<|wu rfl<|wu rfl<|aA ?_;cases hc8;exact Kept.mk rfl<|.cons rfl<|.cons rfl<|.cons rfl<|.cons rfl .nil
   ·refine wu rfl ?_;obtain⟨c10,h10,hc6⟩:=bs hc6;refine aW 7 [(0,(.str s1)),(15,(.bool false)),(33,(.bool c10))] σ1 ?_<|fun e=> ?_
    ·refine aX (t:=26) rfl (fun hc=> ?_)<|fun hc=> ?_
     ·replace h10:=bE hc h10;refine wu rfl<|wu rfl<|wu rfl<|wu rfl<|wu rfl<|wu rfl<|wu rfl<|aA ?_;cases h10;exact Kept.mk rfl<|.cons rfl<|.cons rfl<|.cons rfl .nil
     ·replace h10:=bC hc h10;refine wu rfl<|wu rfl ?_;obtain⟨c11,h11,h10⟩:=bs h10;refine aW 4 [(0,(.str s1)),(15,(.bool false)),(26,(.bool false)),(32,(.bool c11))] σ1 ?_<|fun e=> ?_
      ·refine aX (t:=28) rfl (fun hc=> ?_)<|fun hc=> ?_
       ·replace h11:=bE hc h11;refine wu rfl ?_;obtain⟨b12,h12,h11⟩:=bs h11;refine aKn rfl rfl rfl h12 ?_;refine wu rfl<|wu rfl<|aA ?_;cases h11;exact Kept.mk rfl<|.cons rfl<|.cons rfl<|.cons rfl<|.cons rfl .nil
       ·replace h11:=bC hc h11;refine wu rfl<|wu rfl<|wu rfl<|wu rfl<|aA ?_;cases h11;exact Kept.mk rfl<|.cons rfl<|.cons rfl<|.cons rfl<|.cons rfl .nil
      ·refine wu rfl<|aA ?_;cases h10;exact Kept.mk rfl<|.cons rfl<|.cons rfl<|.cons rfl .nil
    ·refine wu rfl<|wu rfl<|aA ?_;cases hc6;exact Kept.mk rfl<|.cons rfl<|.cons rfl .nil
 ·refine aA ?_;refine aF u rfl (fun hc u=> ?_)<|fun hc u=> ?_
  ·refine aB<|aC<|wu rfl<|aA<|aK ?_;cases u;exact⟨rfl,_,fun _=>rfl,aY rfl rfl rfl rfl J.ext⟩
  ·refine aJ<|aB<|aB<|aC<|wu rfl<|aA<|aO ?_;obtain⟨o21,h21,u⟩:=bs u;refine bV (fun e=>aEw _ _ _ h21 e s _ J) (.cons rfl<|.cons rfl .nil) ?_
   rintro _ _ _ hq
   rcases o21 with q22|q23
   ·obtain⟨rfl,hq⟩:=hq;cases u;exact hq
   ·obtain⟨rfl,e25,rfl,rfl⟩:=hq;refine aB<|aC<|wu rfl<|aA<|aK ?_;cases u;exact⟨rfl,_,fun _=>rfl,aY rfl rfl rfl rfl J.ext⟩
theorem aCZ{s1:Str}{l2:Int}{hi3:Int}{under4:Bool}{r:Bool}(h:pB s1 l2 hi3 under4=some r):Pf PP 75 [(.str s1),(.int .u8 l2),(.int .u8 hi3),(.bool under4)] (.bool r):=Pf.cB (aKu s1 l2 hi3 under4 r h _) rfl (.cons ⟨rfl,rfl⟩<|.cons ⟨rfl,rfl⟩<|.cons ⟨rfl,rfl⟩<|.cons ⟨rfl,rfl⟩ .nil)
noncomputable def mN(s1:Str):Option Bool:=
 ((pB s1 (65) (90) false)>>=fun r2=>
 some r2)
theorem aEj: ∀(s1:Str)(r:Bool),mN s1=some r→ ∀s:ASt,Fc PP (.func 155) [(.str s1)] s (bW s<|.bool r):=by
 intro s1 r u;unfold mN at u;intro s;refine bD rfl rfl rfl ?_;have J:=St.clean s;generalize aU s=σ1 at J⊢;refine aB<|aC<|wu rfl<|aA<|aB<|aC<|wu rfl ?_;obtain⟨r2,hr2,u⟩:=bs u;refine wcD (aCZ hr2) rfl rfl (.cons rfl<|.cons rfl<|.cons rfl<|.cons rfl .nil)<|wu rfl<|aA<|aK ?_;cases u;exact⟨rfl,_,fun _=>rfl,aY rfl rfl rfl rfl J.ext⟩
theorem zH{s1:Str}{r:Bool}(h:mN s1=some r):Pf PP 155 [(.str s1)] (.bool r):=Pf.cB (aEj s1 r h _) rfl (.cons ⟨rfl,rfl⟩ .nil)
noncomputable def nE:Option (List Str):=
 some [([102,117,110]:Str),([108,101,116]:Str),([114,101,99]:Str),([105,110]:Str),([105,102]:Str),([116,104,101,110]:Str),([101,108,115,101]:Str),([109,97,116,99,104]:Str),([100,111]:Str),([104,97,110,100,108,101]:Str),([115,104,97,108,108,111,119]:Str),([110,97,109,101,100]:Str),([109,97,115,107]:Str),([117,115,105,110,103]:Str),([99,108,111,115,101]:Str),([114,101,115,117,109,101]:Str),([100,114,111,112]:Str),([114,101,116,117,114,110]:Str),([116,114,117,101]:Str),([102,97,108,115,101]:Str),([100,97,116,97]:Str),([101,102,102,101,99,116]:Str),([111,110,99,101]:Str),([100,101,102]:Str),([109,97,105,110]:Str)]
theorem aDk: ∀(r:(List Str)),nE=some r→ ∀s:ASt,Fc PP (.func 76) [] s (bW s<|slA 1<|r.map AV.str):=by
 intro r u;unfold nE at u;intro s;refine bD rfl rfl rfl ?_;have J:=St.clean s;generalize aU s=σ1 at J⊢;refine aB<|aC<|wu rfl<|aA<|aB<|aC ?_;refine mJ (f:=AV.str) (l:= [([102,117,110]:Str),([108,101,116]:Str),([114,101,99]:Str),([105,110]:Str),([105,102]:Str),([116,104,101,110]:Str),([101,108,115,101]:Str),([109,97,116,99,104]:Str),([100,111]:Str),([104,97,110,100,108,101]:Str),([115,104,97,108,108,111,119]:Str),([110,97,109,101,100]:Str),([109,97,115,107]:Str),([117,115,105,110,103]:Str),([99,108,111,115,101]:Str),([114,101,115,117,109,101]:Str),([100,114,111,112]:Str),([114,101,116,117,114,110]:Str),([116,114,117,101]:Str),([102,97,108,115,101]:Str),([100,97,116,97]:Str),([101,102,102,101,99,116]:Str),([111,110,99,101]:Str),([100,101,102]:Str),([109,97,105,110]:Str)]) rfl (.cons rfl<|.cons rfl<|.cons rfl<|.cons rfl<|.cons rfl<|.cons rfl<|.cons rfl<|.cons rfl<|.cons rfl<|.cons rfl<|.cons rfl<|.cons rfl<|.cons rfl<|.cons rfl<|.cons rfl<|.cons rfl<|.cons rfl<|.cons rfl<|.cons rfl<|.cons rfl<|.cons rfl<|.cons rfl<|.cons rfl<|.cons rfl<|.cons rfl .nil) rfl (fun _=>rfl) rfl rfl (by decide) ?_;refine wu rfl<|aA<|aK ?_;cases u;exact⟨rfl,_,fun _=>rfl,eJ rfl (.full<|.inl rfl) J.ext⟩
theorem aDo{r:(List Str)}(h:nE=some r):Pf PP 76 [] (slA 1<|r.map AV.str):=Pf.cB (aDk r h _) (iC (fun _=>rfl) _) .nil
noncomputable def nJ(s1:Str):Option Bool:=
 ((pB s1 (97) (122) true)>>=fun r2=>
 ((if r2=true then((nE)>>=fun r4=>
 ((j0 r4 s1)>>=fun r5=>
 some (!r5)))
 else some false:Option Bool)>>=fun c3=>
 some c3))
theorem aHj: ∀(s1:Str)(r:Bool),nJ s1=some r→ ∀s:ASt,Fc PP (.func 42) [(.str s1)] s (bW s<|.bool r):=by
 intro s1 r u;unfold nJ at u;intro s;refine bD rfl rfl rfl ?_;have J:=St.clean s;generalize aU s=σ1 at J⊢;refine aB<|aC<|wu rfl<|aA<|aB<|aC<|wu rfl ?_;obtain⟨r2,hr2,u⟩:=bs u;refine wcD (aCZ hr2) rfl rfl (.cons rfl<|.cons rfl<|.cons rfl<|.cons rfl .nil)<|wu rfl ?_;obtain⟨c3,hc3,u⟩:=bs u;refine aW 5 [(10,(.bool c3))] σ1 ?_<|fun e=> ?_
 ·refine aX (t:=5) rfl (fun hc=> ?_)<|fun hc=> ?_
  ·replace hc3:=bE hc hc3;obtain⟨r4,hr4,hc3⟩:=bs hc3;refine wcD (aDo hr4) rfl rfl .nil<|wu rfl ?_;obtain⟨r5,hr5,hc3⟩:=bs hc3;refine wcD (iA hr5) rfl rfl (.cons rfl<|.cons rfl .nil)<|wu rfl<|wu rfl<|aA ?_;cases hc3;exact Kept.mk rfl<|.cons rfl .nil
  ·replace hc3:=bC hc hc3;refine wu rfl<|wu rfl<|wu rfl<|wu rfl<|wu rfl<|aA ?_;cases hc3;exact Kept.mk rfl<|.cons rfl .nil
 ·refine wu rfl<|aA<|aK ?_;cases u;exact⟨rfl,_,fun _=>rfl,aY rfl rfl rfl rfl J.ext⟩
theorem sQ{s1:Str}{r:Bool}(h:nJ s1=some r):Pf PP 42 [(.str s1)] (.bool r):=Pf.cB (aHj s1 r h _) rfl (.cons ⟨rfl,rfl⟩ .nil)
noncomputable def gH(a1:(List Int))(b2:(List Int))(i3:Int):Option (Ctl Bool Unit):=
 (if(decide (i3<(a1.length:Int)))=true then((idx a1 i3)>>=fun y4=>
 ((idx b2 i3)>>=fun y5=>
 (if(y4 !=y5)=true then some (.ret false)
 else gH (nf a1) (nf b2) (IntKind.wrap .i64 (i3+(1))))))
 else some (.nx ()))
 partial_fixpoint
abbrev uD(a1:(List Int))(b2:(List Int))(i3:Int)(o:(Ctl Bool Unit)):Prop:= ∀(e:Env)(s sv:ASt),St [] [] s sv [] []→Wk PP none Code.aTl ⟨bB e [(0,(slA 1<|a1.map<|AV.i)),(1,(slA 1<|b2.map<|AV.i)),(5,(.i i3))],[]⟩ sv (fun ex fr s'=>(match o with| .ret oq0=>ex= .ret∧nQ PP Code.c17 (VQ (.bool oq0)<|Ext [] [] s) ex fr s'| .nx oq1=>ex= .exit 0∧ ∃(e:Env),fr=⟨bB e [],[]⟩∧sv=s'))
theorem aAQ: ∀(a1:(List Int))(b2:(List Int))(i3:Int)(o:(Ctl Bool Unit)),gH a1 b2 i3=some o→uD a1 b2 i3 o:=by
 refine gH.partial_correctness (uD) ?_;intro _f ih_r01_SameInts_l0 a1 b2 i3 o u;intro e s sv J;refine bM<|aB<|aB<|aC<|wu rfl<|wu rfl<|bI (f:=(AV.i)) (l:=a1) rfl (.no _)<|wu rfl<|aA ?_;refine aF u rfl (fun hc u=> ?_)<|fun hc u=> ?_
 ·refine aJ<|aB<|aO<|aB<|aC<|wu rfl<|wu rfl ?_;obtain⟨y4,hy4,u⟩:=bs u;refine bT (f:=(AV.i)) rfl (.no _) rfl hy4 rfl<|wu rfl<|wu rfl<|wu rfl ?_;obtain⟨y5,hy5,u⟩:=bs u;refine bT (f:=(AV.i)) rfl (.no _) rfl hy5 rfl<|wu rfl<|wu rfl<|aA ?_;refine aF u rfl (fun hc u=> ?_)<|fun hc u=> ?_
  ·refine aB<|aC<|wu rfl<|aA<|aK ?_;cases u;exact⟨rfl,⟨rfl,_,fun _=>rfl,aY rfl rfl rfl rfl J.ext⟩⟩
  ·refine aJ<|aC<|wu rfl<|wu rfl<|wu rfl<|aA ?_;exact bV (fun e=>ih_r01_SameInts_l0 _ _ _ _ u e s _ J) (.cons rfl<|.cons rfl<|.cons rfl .nil)<|fun _ _ _ h=>h
 ·refine bY ?_;cases u;exact⟨rfl,_,frE .nil,rfl⟩
noncomputable def lM(a1:(List Int))(b2:(List Int)):Option Bool:=
 (if((a1.length:Int) !=(b2.length:Int))=true then some false
 else((gH a1 b2 (0))>>=fun o6=>
 (match o6 with
 | .ret q7=>some q7
 | .nx q8=>some true)))
theorem aDw: ∀(a1:(List Int))(b2:(List Int))(r:Bool),lM a1 b2=some r→ ∀s:ASt,Fc PP (.func 17) [(slA 1<|a1.map<|AV.i),(slA 1<|b2.map<|AV.i)] s (bW s<|.bool r):=by
 intro a1 b2 r u;unfold lM at u;intro s;refine bD rfl rfl rfl ?_;have J:=St.clean s;generalize aU s=σ1 at J⊢;refine aB<|aC<|wu rfl<|aA<|aB<|aB<|aC<|wu rfl<|bI (f:=(AV.i)) (l:=a1) rfl (.no _)<|wu rfl<|bI (f:=(AV.i)) (l:=b2) rfl (.no _)<|wu rfl<|aA ?_;refine aF u rfl (fun hc u=> ?_)<|fun hc u=> ?_
 ·refine aB<|aC<|wu rfl<|aA<|aK ?_;cases u;exact⟨rfl,_,fun _=>rfl,aY rfl rfl rfl rfl J.ext⟩
 ·refine aJ<|aB<|aB<|aC<|wu rfl<|aA<|aO ?_;obtain⟨o6,ho6,u⟩:=bs u;refine bV (fun e=>aAQ _ _ _ _ ho6 e s _ J) (.cons rfl<|.cons rfl<|.cons rfl .nil) ?_
  rintro _ _ _ hq
  rcases o6 with q7|q8
  ·obtain⟨rfl,hq⟩:=hq;cases u;exact hq
  ·obtain⟨rfl,e10,rfl,rfl⟩:=hq;refine aB<|aC<|wu rfl<|aA<|aK ?_;cases u;exact⟨rfl,_,fun _=>rfl,aY rfl rfl rfl rfl J.ext⟩
theorem xG{a1:(List Int)}{b2:(List Int)}{r:Bool}(h:lM a1 b2=some r):Pf PP 17 [(slA 1<|a1.map<|AV.i),(slA 1<|b2.map<|AV.i)] (.bool r):=Pf.cB (aDw a1 b2 r h _) rfl (.cons (j9<|cV (fun _=>rfl) _)<|.cons (j9<|cV (fun _=>rfl) _) .nil)
noncomputable def gB(l1:(List Str))(s2:Str)(o3:(List Str))(i4:Int):Option (List Str):=
 (if(decide (i4<(l1.length:Int)))=true then((idx l1 i4)>>=fun y5=>
 (if(!(y5==s2))=true then((idx l1 i4)>>=fun y6=>
 ((app 16 o3 [y6])>>=fun l7=>
 gB (nf l1) (nf s2) l7 (IntKind.wrap .i64 (i4+(1)))))
 else gB (nf l1) (nf s2) (nf o3) (IntKind.wrap .i64 (i4+(1)))))
 else some o3)
 partial_fixpoint
abbrev vW(l1:(List Str))(s2:Str)(o3:(List Str))(i4:Int)(o:(List Str)):Prop:= ∀(e:Env)(s sv:ASt)(ow0_1:AV),St [] [] s sv [] [(ow0_1,1,(o3.map AV.str))]→Wk PP none Code.aS7 ⟨bB e [(0,(slA 1<|l1.map AV.str)),(1,(.str s2)),(5,ow0_1),(6,(.i i4))],[]⟩ sv (fun ex fr s'=>ex= .exit 0∧ ∃(pw1:AV)(e:Env),fr=⟨bB e [(5,pw1)],[]⟩∧St [] [] s s' [] [(pw1,1,(o.map AV.str))])
theorem aBx: ∀(l1:(List Str))(s2:Str)(o3:(List Str))(i4:Int)(o:(List Str)),gB l1 s2 o3 i4=some o→vW l1 s2 o3 i4 o:=by
 refine gB.partial_correctness (vW) ?_;intro _f ih_r01_Without_l0 l1 s2 o3 i4 o u;intro e s sv ow0_1 J;refine bM<|aB<|aB<|aC<|wu rfl<|wu rfl<|bI (f:=AV.str) (l:=l1) rfl (.no _)<|wu rfl<|aA ?_;refine aF u rfl (fun hc u=> ?_)<|fun hc u=> ?_
 ·refine aJ<|aB<|aO<|aB<|aC<|wu rfl<|wu rfl ?_;obtain⟨y5,hy5,u⟩:=bs u;refine bT (f:=AV.str) rfl (.no _) rfl hy5 rfl<|wu rfl<|wu rfl<|wu rfl<|aA ?_;refine aF u rfl (fun hc u=> ?_)<|fun hc u=> ?_
  ·refine aC<|wv rfl<|wu rfl<|wu rfl ?_;obtain⟨y6,hy6,u⟩:=bs u;refine bT (f:=AV.str) rfl (.no _) rfl hy6 rfl<|wu rfl ?_;refine mJ (f:=AV.str) (l:= [y6]) rfl (.cons rfl .nil) rfl (fun _=>rfl) rfl rfl (by decide) ?_;obtain⟨l7,hl7,u⟩:=bs u;refine wF (f:=AV.str) (xs:=o3) (ys:= [y6]) rfl J rfl (.full<|.inl rfl) hl7 (by decide)<|fun wl7 σ8 J=> ?_;refine wv rfl<|aA<|aC<|wu rfl<|wu rfl<|wu rfl<|aA ?_;exact bV (fun e=>ih_r01_Without_l0 _ _ _ _ _ u e s _ wl7 J) (.cons rfl<|.cons rfl<|.cons rfl<|.cons rfl .nil)<|fun _ _ _ h=>h
  ·refine aJ<|aC<|wu rfl<|wu rfl<|wu rfl<|aA ?_;exact bV (fun e=>ih_r01_Without_l0 _ _ _ _ _ u e s _ ow0_1 J) (.cons rfl<|.cons rfl<|.cons rfl<|.cons rfl .nil)<|fun _ _ _ h=>h
 ·refine bY ?_;cases u;exact⟨rfl,ow0_1,_,frE<|.cons rfl .nil,J⟩
noncomputable def oR(l1:(List Str))(s2:Str):Option (List Str):=
 ((gB l1 s2 ([]:(List Str)) (0))>>=fun o9=>
 some o9)
theorem aEA: ∀(l1:(List Str))(s2:Str)(r:(List Str)),oR l1 s2=some r→ ∀s:ASt,Fc PP (.func 73) [(slA 1<|l1.map AV.str),(.str s2)] s (bW s<|slA 1<|r.map AV.str):=by
 intro l1 s2 r u;unfold oR at u;intro s;refine bD rfl rfl rfl ?_;have J:=St.clean s;generalize aU s=σ1 at J⊢;refine aB<|aC<|wu rfl<|aA<|aB<|aC<|wu rfl<|aA<|aB<|aB<|aC<|wu rfl<|aA<|aO ?_;obtain⟨o9,ho9,u⟩:=bs u;have J:=J.nil 0 1;refine bV (fun e=>aBx _ _ _ _ _ ho9 e s _ (.slice 0 (([]:(List Str)).map AV.str) .full) J) (.cons rfl<|.cons rfl<|.cons rfl<|.cons rfl .nil) ?_
 rintro _ _ _ hq
 obtain⟨rfl,w10_1,e11,rfl,J⟩:=hq;refine aB<|aC<|wv rfl<|wv rfl<|aA<|aK ?_;cases u;exact⟨rfl,_,fun _=>rfl,eJ rfl (J.slG 0 rfl) J.ext⟩
theorem aEz{l1:(List Str)}{s2:Str}{r:(List Str)}(h:oR l1 s2=some r):Pf PP 73 [(slA 1<|l1.map AV.str),(.str s2)] (slA 1<|r.map AV.str):=Pf.cB (aEA l1 s2 r h _) (iC (fun _=>rfl) _) (.cons (j9<|cV (fun _=>rfl) _)<|.cons ⟨rfl,rfl⟩ .nil)
noncomputable def jP(e1:Expr)(o4:(List Expr))(i5:Int):Option (List Expr):=
 (if(decide (i5<(e1.aT.length:Int)))=true then((idx e1.aT i5)>>=fun y6=>
 ((app 120 o4 [y6.body])>>=fun l7=>
 jP (nf e1) l7 (IntKind.wrap .i64 (i5+(1)))))
 else some o4)
 partial_fixpoint
abbrev yU(e1:Expr)(o4:(List Expr))(i5:Int)(o:(List Expr)):Prop:= ∀(e:Env)(s sv:ASt)(ow0_1:AV),St [] [] s sv [] [(ow0_1,7,(o4.map aP))]→Wk PP none Code.aS8 ⟨bB e [(1,(.aG (aM e1) 0)),(3,ow0_1),(4,(.i i5))],[]⟩ sv (fun ex fr s'=>ex= .exit 0∧ ∃(pw1:AV)(e:Env),fr=⟨bB e [(3,pw1)],[]⟩∧St [] [] s s' [] [(pw1,7,(o.map aP))])
theorem aDg: ∀(e1:Expr)(o4:(List Expr))(i5:Int)(o:(List Expr)),jP e1 o4 i5=some o→yU e1 o4 i5 o:=by
 refine jP.partial_correctness (yU) ?_;intro _f ih_r02_Parts_l0 e1 o4 i5 o u;intro e s sv ow0_1 J;refine bM<|aB<|aB<|aC<|wu rfl<|wu rfl<|wu rfl<|bI (f:=aZ) (l:=e1.aT) rfl (.no _)<|wu rfl<|aA ?_;refine aF u rfl (fun hc u=> ?_)<|fun hc u=> ?_
 ·refine aJ<|aB<|aO<|aC<|wv rfl<|wu rfl<|wu rfl<|wu rfl ?_;obtain⟨y6,hy6,u⟩:=bs u;refine bT (f:=aZ) rfl (.no _) rfl hy6 (fD _)<|wu rfl<|wu rfl ?_;refine mJ (f:=aP) (l:= [y6.body]) rfl (.cons rfl .nil) (aQ5 [y6.body]) aSI rfl rfl (by decide) ?_;obtain⟨l7,hl7,u⟩:=bs u;refine wF (f:=aP) (xs:=o4) (ys:= [y6.body]) rfl J rfl (.full<|.inl rfl) hl7 (by decide)<|fun wl7 σ8 J=> ?_;refine wv rfl<|aA<|aC<|wu rfl<|wu rfl<|wu rfl<|aA ?_;exact bV (fun e=>ih_r02_Parts_l0 _ _ _ _ u e s _ wl7 J) (.cons rfl<|.cons rfl<|.cons rfl .nil)<|fun _ _ _ h=>h
 ·refine bY ?_;cases u;exact⟨rfl,ow0_1,_,frE<|.cons rfl .nil,J⟩
noncomputable def kU(e1:Expr):Option (List Expr):=
 ((app 120 ([]:(List Expr)) e1.l)>>=fun l2=>
 ((jP e1 l2 (0))>>=fun o9=>
 some o9))
theorem aGX: ∀(e1:Expr)(r:(List Expr)),kU e1=some r→ ∀s:ASt,Fc PP (.func 35) [(aM e1)] s (bW s<|slA 7<|r.map aP):=by
 intro e1 r u;unfold kU at u;intro s;refine bD rfl rfl rfl ?_;have J:=St.clean s;generalize aU s=σ1 at J⊢;refine aB<|aC<|wu rfl<|wu rfl<|aA<|aB<|aC<|aUs (w:=(.slice 7 (([]:(List Expr)).map aP) .full)) rfl rfl rfl<|wu rfl<|wu rfl ?_;obtain⟨l2,hl2,u⟩:=bs u;have J:=J.nil 7 7;refine wF (f:=aP) (xs:=([]:(List Expr))) (ys:=e1.l) rfl J rfl (.no _) hl2 (by decide)<|fun wl2 σ3 J=> ?_;refine wv rfl<|aA<|aB<|aB<|aC<|wu rfl<|aA<|aO ?_;obtain⟨o9,ho9,u⟩:=bs u;refine bV (fun e=>aDg _ _ _ _ ho9 e s _ wl2 J) (.cons rfl<|.cons rfl<|.cons rfl .nil) ?_
 rintro _ _ _ hq
 obtain⟨rfl,w10_1,e11,rfl,J⟩:=hq;refine aB<|aC<|wv rfl<|wv rfl<|aA<|aK ?_;cases u;exact⟨rfl,_,fun _=>rfl,eJ rfl (J.slG 0 rfl) J.ext⟩
theorem nG{e1:Expr}{r:(List Expr)}(h:kU e1=some r):Pf PP 35 [(aM e1)] (slA 7<|r.map aP):=Pf.cB (aGX e1 r h _) (iC aHf _) (.cons (cC _) .nil)
noncomputable def lK(e1:Expr)(i2:Int)(y3:Arm)(k20:Int):Option (Ctl Int Unit):=
 (if(decide (k20<i2))=true then((idx e1.aT k20)>>=fun y21=>
 (if(y21.op==y3.op)=true then some (.ret (5))
 else lK (nf e1) (nf i2) (nf y3) (IntKind.wrap .i64 (k20+(1)))))
 else some (.nx ()))
 partial_fixpoint
abbrev aAG(e1:Expr)(i2:Int)(y3:Arm)(k20:Int)(o:(Ctl Int Unit)):Prop:= ∀(e:Env)(s sv:ASt),St [] [] s sv [] []→Wk PP none Code.aQX ⟨bB e [(1,(.aG (aM e1) 0)),(3,(.bool<|e1.kind !=(11))),(4,(.i i2)),(5,(.aG (gJ y3) 0)),(8,(.i k20))],[]⟩ sv (fun ex fr s'=>(match o with| .ret oq0=>ex= .ret∧nQ PP Code.aQz (VQ (.i oq0)<|Ext [] [] s) ex fr s'| .nx oq1=>ex= .exit 2∧ ∃(e:Env),fr=⟨bB e [(1,(.aG (aM e1) 0)),(3,(.bool<|e1.kind !=(11))),(4,(.i i2))],[]⟩∧sv=s'))
theorem aFb: ∀(e1:Expr)(i2:Int)(y3:Arm)(k20:Int)(o:(Ctl Int Unit)),lK e1 i2 y3 k20=some o→aAG e1 i2 y3 k20 o:=by
 refine lK.partial_correctness (aAG) ?_;intro _f ih_r02_arms_l0 e1 i2 y3 k20 o u;intro e s sv J;refine bM<|aB<|aB<|aC<|wu rfl<|wu rfl<|wu rfl<|aA ?_;refine aF u rfl (fun hc u=> ?_)<|fun hc u=> ?_
 ·refine aJ<|aB<|aO<|aB<|aC<|wu rfl<|wu rfl<|wu rfl ?_;obtain⟨y21,h21,u⟩:=bs u;refine bT (f:=aZ) rfl (.no _) rfl h21 (fD _)<|wu rfl<|wu rfl<|wu rfl<|wu rfl<|wu rfl<|aA ?_;refine aF u rfl (fun hc u=> ?_)<|fun hc u=> ?_
  ·refine aB<|aC<|wu rfl<|aA<|aK ?_;cases u;exact⟨rfl,⟨rfl,_,fun _=>rfl,aY rfl rfl rfl rfl J.ext⟩⟩
  ·refine aJ<|aC<|wu rfl<|wu rfl<|wu rfl<|aA ?_;exact bV (fun e=>ih_r02_arms_l0 _ _ _ _ _ u e s _ J) (.cons rfl<|.cons rfl<|.cons rfl<|.cons rfl<|.cons rfl .nil)<|fun _ _ _ h=>h
 ·refine bY ?_;cases u;exact⟨rfl,_,frE<|.cons rfl<|.cons rfl<|.cons rfl .nil,rfl⟩
noncomputable def nA(s1:Str)(n2:Int):Option Bool:=
 (if(n2==(1))=true then((nJ s1)>>=fun r3=>
 some r3)
 else(if(n2==(2))=true then((mN s1)>>=fun r4=>
 some r4)
 else(if(n2==(3))=true then((j0 [([43]:Str),([45]:Str),([42]:Str),([60]:Str),([61,61]:Str)] s1)>>=fun r5=>
 some r5)
 else some (s1==([]:Str)))))
theorem aHE: ∀(s1:Str)(n2:Int)(r:Bool),nA s1 n2=some r→ ∀s:ASt,Fc PP (.func 160) [(.str s1),(.i n2)] s (bW s<|.bool r):=by
 intro s1 n2 r u;unfold nA at u;intro s;refine bD rfl rfl rfl ?_;have J:=St.clean s;generalize aU s=σ1 at J⊢;refine aB<|aC<|wu rfl<|aA<|aB<|aB<|aC<|wu rfl<|wu rfl<|aA ?_;refine aF u rfl (fun hc u=> ?_)<|fun hc u=> ?_
 ·refine aB<|aC<|wu rfl ?_;obtain⟨r3,hr3,u⟩:=bs u;refine wcD (sQ hr3) rfl rfl (.cons rfl .nil)<|wu rfl<|aA<|aK ?_;cases u;exact⟨rfl,_,fun _=>rfl,aY rfl rfl rfl rfl J.ext⟩
 ·refine aJ<|aB<|aB<|aC<|wu rfl<|wu rfl<|aA ?_;refine aF u rfl (fun hc u=> ?_)<|fun hc u=> ?_
  ·refine aB<|aC<|wu rfl ?_;obtain⟨r4,hr4,u⟩:=bs u;refine wcD (zH hr4) rfl rfl (.cons rfl .nil)<|wu rfl<|aA<|aK ?_;cases u;exact⟨rfl,_,fun _=>rfl,aY rfl rfl rfl rfl J.ext⟩
  ·refine aJ<|aB<|aB<|aC<|wu rfl<|wu rfl<|aA ?_;refine aF u rfl (fun hc u=> ?_)<|fun hc u=> ?_
   ·refine aB<|aC ?_;refine mJ (f:=AV.str) (l:= [([43]:Str),([45]:Str),([42]:Str),([60]:Str),([61,61]:Str)]) rfl (.cons rfl<|.cons rfl<|.cons rfl<|.cons rfl<|.cons rfl .nil) rfl (fun _=>rfl) rfl rfl (by decide) ?_;refine wu rfl ?_;obtain⟨r5,hr5,u⟩:=bs u;refine wcD (iA hr5) rfl rfl (.cons rfl<|.cons rfl .nil)<|wu rfl<|aA<|aK ?_;cases u;exact⟨rfl,_,fun _=>rfl,aY rfl rfl rfl rfl J.ext⟩
   ·refine aJ<|aB<|aC<|wu rfl<|wu rfl<|wu rfl<|aA<|aK ?_;cases u;exact⟨rfl,_,fun _=>rfl,aY rfl rfl rfl rfl J.ext⟩
theorem sI{s1:Str}{n2:Int}{r:Bool}(h:nA s1 n2=some r):Pf PP 160 [(.str s1),(.i n2)] (.bool r):=Pf.cB (aHE s1 n2 r h _) rfl (.cons ⟨rfl,rfl⟩<|.cons ⟨rfl,rfl⟩ .nil)
noncomputable def gF(l1:(List Str))(i2:Int):Option (Ctl Int Unit):=
 (if(decide (i2<(l1.length:Int)))=true then((idx l1 i2)>>=fun y3=>
 ((nJ y3)>>=fun r4=>
 (if(!r4)=true then some (.ret (4))
 else((cut l1 (0) i2)>>=fun l5=>
 ((idx l1 i2)>>=fun y6=>
 ((j0 l5 y6)>>=fun r7=>
 (if r7=true then some (.ret (5))
 else gF (nf l1) (IntKind.wrap .i64 (i2+(1))))))))))
 else some (.nx ()))
 partial_fixpoint
abbrev uO(l1:(List Str))(i2:Int)(o:(Ctl Int Unit)):Prop:= ∀(e:Env)(s sv:ASt),St [] [] s sv [] []→Wk PP none Code.aP2 ⟨bB e [(0,(slA 1<|l1.map AV.str)),(3,(.i i2))],[]⟩ sv (fun ex fr s'=>(match o with| .ret oq0=>ex= .ret∧nQ PP Code.aRv (VQ (.i oq0)<|Ext [] [] s) ex fr s'| .nx oq1=>ex= .exit 0∧ ∃(e:Env),fr=⟨bB e [],[]⟩∧sv=s'))
theorem aAX: ∀(l1:(List Str))(i2:Int)(o:(Ctl Int Unit)),gF l1 i2=some o→uO l1 i2 o:=by
 refine gF.partial_correctness (uO) ?_;intro _f ih_r02_distinct_l0 l1 i2 o u;intro e s sv J;refine bM<|aB<|aB<|aC<|wu rfl<|wu rfl<|bI (f:=AV.str) (l:=l1) rfl (.no _)<|wu rfl<|aA ?_;refine aF u rfl (fun hc u=> ?_)<|fun hc u=> ?_
 ·refine aJ<|aB<|aO<|aB<|aB<|aC<|wu rfl<|wu rfl ?_;obtain⟨y3,hy3,u⟩:=bs u;refine bT (f:=AV.str) rfl (.no _) rfl hy3 rfl<|wu rfl ?_;obtain⟨r4,hr4,u⟩:=bs u;refine wcD (sQ hr4) rfl rfl (.cons rfl .nil)<|wu rfl<|aA ?_;refine aF u rfl (fun hc u=> ?_)<|fun hc u=> ?_
  ·refine aB<|aC<|wu rfl<|aA<|aK ?_;cases u;exact⟨rfl,⟨rfl,_,fun _=>rfl,aY rfl rfl rfl rfl J.ext⟩⟩
  ·refine aJ<|aB<|aC<|wu rfl<|wu rfl ?_;obtain⟨l5,hl5,u⟩:=bs u;refine rA (f:=AV.str) (lo':=(0)) (hi':=i2) rfl (.no _) (.inl ⟨rfl,rfl⟩) (.inr ⟨_,rfl⟩) (by rfl) hl5 ?_;refine wu rfl<|wu rfl ?_;obtain⟨y6,hy6,u⟩:=bs u;refine bT (f:=AV.str) rfl (.no _) rfl hy6 rfl<|wu rfl ?_;obtain⟨r7,hr7,u⟩:=bs u;refine wcD (iA hr7) rfl rfl (.cons rfl<|.cons rfl .nil)<|aA ?_;refine aF u rfl (fun hc u=> ?_)<|fun hc u=> ?_
   ·refine aB<|aC<|wu rfl<|aA<|aK ?_;cases u;exact⟨rfl,⟨rfl,_,fun _=>rfl,aY rfl rfl rfl rfl J.ext⟩⟩
   ·refine aJ<|aC<|wu rfl<|wu rfl<|wu rfl<|aA ?_;exact bV (fun e=>ih_r02_distinct_l0 _ _ _ u e s _ J) (.cons rfl<|.cons rfl .nil)<|fun _ _ _ h=>h
 ·refine bY ?_;cases u;exact⟨rfl,_,frE .nil,rfl⟩
noncomputable def j7(l1:(List Str)):Option Int:=
 ((gF l1 (0))>>=fun o8=>
 (match o8 with
 | .ret q9=>some q9
 | .nx q10=>some (0)))
theorem aDG: ∀(l1:(List Str))(r:Int),j7 l1=some r→ ∀s:ASt,Fc PP (.func 156) [(slA 1<|l1.map AV.str)] s (bW s<|.i r):=by
 intro l1 r u;unfold j7 at u;intro s;refine bD rfl rfl rfl ?_;have J:=St.clean s;generalize aU s=σ1 at J⊢;refine aB<|aC<|wu rfl<|aA<|aB<|aB<|aC<|wu rfl<|aA<|aO ?_;obtain⟨o8,ho8,u⟩:=bs u;refine bV (fun e=>aAX _ _ _ ho8 e s _ J) (.cons rfl<|.cons rfl .nil) ?_
 rintro _ _ _ hq
 rcases o8 with q9|q10
 ·obtain⟨rfl,hq⟩:=hq;cases u;exact hq
 ·obtain⟨rfl,e12,rfl,rfl⟩:=hq;refine aB<|aC<|wu rfl<|aA<|aK ?_;cases u;exact⟨rfl,_,fun _=>rfl,aY rfl rfl rfl rfl J.ext⟩
theorem rT{l1:(List Str)}{r:Int}(h:j7 l1=some r):Pf PP 156 [(slA 1<|l1.map AV.str)] (.i r):=Pf.cB (aDG l1 r h _) rfl (.cons (j9<|cV (fun _=>rfl) _) .nil)
noncomputable def j4(e1:Expr)(i2:Int):Option (Ctl Int Unit):=
 (if(decide (i2<(e1.aT.length:Int)))=true then((idx e1.aT i2)>>=fun y3=>
 ((if(e1.kind !=(11))=true then some (i2==(0))
 else some false:Option Bool)>>=fun c4=>
 ((if c4=true then((if(!(y3.op==([114,101,116,117,114,110]:Str)))=true then some true
 else some ((y3.names.length:Int) !=(1)):Option Bool)>>=fun c6=>
 some c6)
 else some false:Option Bool)>>=fun c5=>
 ((if c5=true then some true
 else((if(e1.kind !=(11))=true then some (!c4)
 else some false:Option Bool)>>=fun c8=>
 ((if c8=true then some ((y3.names.length:Int) !=(2))
 else some false:Option Bool)>>=fun c9=>
 some c9)):Option Bool)>>=fun c7=>
 ((if c7=true then some true
 else((if(!(e1.kind !=(11)))=true then some (decide ((y3.names.length:Int)>(4)))
 else some false:Option Bool)>>=fun c11=>
 some c11):Option Bool)>>=fun c10=>
 (if c10=true then some (.ret (7))
 else((if(!c4)=true then((nA y3.op (2))>>=fun r13=>
 some (!r13))
 else some false:Option Bool)>>=fun c12=>
 ((if c12=true then some (!(e1.kind !=(11)))
 else some false:Option Bool)>>=fun c14=>
 ((if c14=true then some true
 else((if(!c4)=true then some (e1.kind !=(11))
 else some false:Option Bool)>>=fun c16=>
 ((if c16=true then((nA y3.op (1))>>=fun r18=>
 some (!r18))
 else some false:Option Bool)>>=fun c17=>
 some c17)):Option Bool)>>=fun c15=>
 (if c15=true then some (.ret (4))
 else((j7 y3.names)>>=fun r19=>
 (if(r19 !=(0))=true then some (.ret r19)
 else((lK e1 i2 y3 (0))>>=fun o22=>
 (match o22 with
 | .ret q23=>some (.ret q23)
 | .nx q24=>j4 (nf e1) (IntKind.wrap .i64 (i2+(1)))))))))))))))))
 else some (.nx ()))
 partial_fixpoint
abbrev aAy(e1:Expr)(i2:Int)(o:(Ctl Int Unit)):Prop:= ∀(e:Env)(s sv:ASt),St [] [] s sv [] []→Wk PP none Code.aQh ⟨bB e [(1,(.aG (aM e1) 0)),(3,(.bool<|e1.kind !=(11))),(4,(.i i2))],[]⟩ sv (fun ex fr s'=>(match o with| .ret oq0=>ex= .ret∧nQ PP Code.aQz (VQ (.i oq0)<|Ext [] [] s) ex fr s'| .nx oq1=>ex= .exit 0∧ ∃(e:Env),fr=⟨bB e [(1,(.aG (aM e1) 0)),(3,(.bool<|e1.kind !=(11)))],[]⟩∧sv=s'))
theorem aFf: ∀(e1:Expr)(i2:Int)(o:(Ctl Int Unit)),j4 e1 i2=some o→aAy e1 i2 o:=by
 refine j4.partial_correctness (aAy) ?_;intro _f ih_r02_arms_l1 e1 i2 o u;intro e s sv J;refine bM<|aB<|aB<|aC<|wu rfl<|wu rfl<|wu rfl<|bI (f:=aZ) (l:=e1.aT) rfl (.no _)<|wu rfl<|aA ?_;refine aF u rfl (fun hc u=> ?_)<|fun hc u=> ?_
 ·refine aJ<|aB<|aO<|aB<|aC<|wu rfl<|wu rfl<|wu rfl ?_;obtain⟨y3,hy3,u⟩:=bs u;refine bT (f:=aZ) rfl (.no _) rfl hy3 (fD _)<|wu rfl<|wu rfl<|wu rfl<|aA<|aB<|aC<|wu rfl<|wu rfl ?_;obtain⟨c4,hc4,u⟩:=bs u;refine aW 3 [(1,(.aG (aM e1) 0)),(3,(.bool<|e1.kind !=(11))),(4,(.i i2)),(5,(.aG (gJ y3) 0)),(28,(.bool c4))] sv ?_<|fun e=> ?_
  ·refine aX (t:=25) rfl (fun hc=> ?_)<|fun hc=> ?_
   ·replace hc4:=bE hc hc4;refine wu rfl<|wu rfl<|wu rfl<|aA ?_;cases hc4;exact Kept.mk rfl<|.cons rfl<|.cons rfl<|.cons rfl<|.cons rfl<|.cons rfl .nil
   ·replace hc4:=bC hc hc4;refine wu rfl<|wu rfl<|wu rfl<|aA ?_;cases hc4;exact Kept.mk rfl<|.cons rfl<|.cons rfl<|.cons rfl<|.cons rfl<|.cons rfl .nil
  ·refine wu rfl<|aA<|aB<|aB<|aC<|wu rfl<|wu rfl ?_;obtain⟨c5,hc5,u⟩:=bs u;refine aW 10 [(1,(.aG (aM e1) 0)),(3,(.bool<|e1.kind !=(11))),(4,(.i i2)),(5,(.aG (gJ y3) 0)),(6,(.bool c4)),(40,(.bool c5))] sv ?_<|fun e=> ?_
   ·refine aX (t:=30) rfl (fun hc=> ?_)<|fun hc=> ?_
    ·replace hc5:=bE hc hc5
     iterate 4 refine wu rfl ?_
     obtain⟨c6,hc6,hc5⟩:=bs hc5;refine aW 5 [(1,(.aG (aM e1) 0)),(3,(.bool<|e1.kind !=(11))),(4,(.i i2)),(5,(.aG (gJ y3) 0)),(6,(.bool c4)),(30,(.bool true)),(39,(.bool c6))] sv ?_<|fun e=> ?_
     ·refine aX (t:=34) rfl (fun hc=> ?_)<|fun hc=> ?_
      ·replace hc6:=bE hc hc6;refine wu rfl<|wu rfl<|wu rfl<|wu rfl<|wu rfl<|aA ?_;cases hc6;exact Kept.mk rfl<|.cons rfl<|.cons rfl<|.cons rfl<|.cons rfl<|.cons rfl<|.cons rfl<|.cons rfl .nil
      ·replace hc6:=bC hc hc6;refine wu rfl<|wu rfl<|bI (f:=AV.str) (l:=y3.names) rfl (.no _)<|wu rfl<|wu rfl<|aA ?_;cases hc6;exact Kept.mk rfl<|.cons rfl<|.cons rfl<|.cons rfl<|.cons rfl<|.cons rfl<|.cons rfl<|.cons rfl .nil
     ·refine wu rfl<|aA ?_;cases hc5;exact Kept.mk rfl<|.cons rfl<|.cons rfl<|.cons rfl<|.cons rfl<|.cons rfl<|.cons rfl .nil
    ·replace hc5:=bC hc hc5;refine wu rfl<|wu rfl<|wu rfl<|wu rfl<|wu rfl<|wu rfl<|wu rfl<|wu rfl<|wu rfl<|wu rfl<|aA ?_;cases hc5;exact Kept.mk rfl<|.cons rfl<|.cons rfl<|.cons rfl<|.cons rfl<|.cons rfl<|.cons rfl .nil
   ·refine wu rfl ?_;obtain⟨c7,hc7,u⟩:=bs u;refine aW 12 [(1,(.aG (aM e1) 0)),(3,(.bool<|e1.kind !=(11))),(4,(.i i2)),(5,(.aG (gJ y3) 0)),(6,(.bool c4)),(53,(.bool c7))] sv ?_<|fun e=> ?_
    ·refine aX (t:=41) rfl (fun hc=> ?_)<|fun hc=> ?_
     ·replace hc7:=bE hc hc7;refine wu rfl<|wu rfl<|wu rfl<|wu rfl<|wu rfl<|wu rfl<|wu rfl<|wu rfl<|wu rfl<|wu rfl<|wu rfl<|wu rfl<|aA ?_;cases hc7;exact Kept.mk rfl<|.cons rfl<|.cons rfl<|.cons rfl<|.cons rfl<|.cons rfl<|.cons rfl .nil
     ·replace hc7:=bC hc hc7;refine wu rfl<|wu rfl ?_;obtain⟨c8,hc8,hc7⟩:=bs hc7;refine aW 3 [(1,(.aG (aM e1) 0)),(3,(.bool<|e1.kind !=(11))),(4,(.i i2)),(5,(.aG (gJ y3) 0)),(6,(.bool c4)),(41,(.bool false)),(46,(.bool c8))] sv ?_<|fun e=> ?_
      ·refine aX (t:=43) rfl (fun hc=> ?_)<|fun hc=> ?_
       ·replace hc8:=bE hc hc8;refine wu rfl<|wu rfl<|wu rfl<|aA ?_;cases hc8;exact Kept.mk rfl<|.cons rfl<|.cons rfl<|.cons rfl<|.cons rfl<|.cons rfl<|.cons rfl<|.cons rfl .nil
       ·replace hc8:=bC hc hc8;refine wu rfl<|wu rfl<|wu rfl<|aA ?_;cases hc8;exact Kept.mk rfl<|.cons rfl<|.cons rfl<|.cons rfl<|.cons rfl<|.cons rfl<|.cons rfl<|.cons rfl .nil
      ·refine wu rfl ?_;obtain⟨c9,hc9,hc7⟩:=bs hc7;refine aW 5 [(1,(.aG (aM e1) 0)),(3,(.bool<|e1.kind !=(11))),(4,(.i i2)),(5,(.aG (gJ y3) 0)),(6,(.bool c4)),(41,(.bool false)),(52,(.bool c9))] sv ?_<|fun e=> ?_
       ·refine aX (t:=47) rfl (fun hc=> ?_)<|fun hc=> ?_
        ·replace hc9:=bE hc hc9;refine wu rfl<|wu rfl<|bI (f:=AV.str) (l:=y3.names) rfl (.no _)<|wu rfl<|wu rfl<|aA ?_;cases hc9;exact Kept.mk rfl<|.cons rfl<|.cons rfl<|.cons rfl<|.cons rfl<|.cons rfl<|.cons rfl<|.cons rfl .nil
        ·replace hc9:=bC hc hc9;refine wu rfl<|wu rfl<|wu rfl<|wu rfl<|wu rfl<|aA ?_;cases hc9;exact Kept.mk rfl<|.cons rfl<|.cons rfl<|.cons rfl<|.cons rfl<|.cons rfl<|.cons rfl<|.cons rfl .nil
       ·refine wu rfl<|aA ?_;cases hc7;exact Kept.mk rfl<|.cons rfl<|.cons rfl<|.cons rfl<|.cons rfl<|.cons rfl<|.cons rfl .nil
    ·refine wu rfl ?_;obtain⟨c10,h10,u⟩:=bs u;refine aW 9 [(1,(.aG (aM e1) 0)),(3,(.bool<|e1.kind !=(11))),(4,(.i i2)),(5,(.aG (gJ y3) 0)),(6,(.bool c4)),(63,(.bool c10))] sv ?_<|fun e=> ?_
     ·refine aX (t:=54) rfl (fun hc=> ?_)<|fun hc=> ?_
      ·replace h10:=bE hc h10;refine wu rfl<|wu rfl<|wu rfl<|wu rfl<|wu rfl<|wu rfl<|wu rfl<|wu rfl<|wu rfl<|aA ?_;cases h10;exact Kept.mk rfl<|.cons rfl<|.cons rfl<|.cons rfl<|.cons rfl<|.cons rfl<|.cons rfl .nil
      ·replace h10:=bC hc h10
       iterate 3 refine wu rfl ?_
       obtain⟨c11,h11,h10⟩:=bs h10;refine aW 5 [(1,(.aG (aM e1) 0)),(3,(.bool<|e1.kind !=(11))),(4,(.i i2)),(5,(.aG (gJ y3) 0)),(6,(.bool c4)),(54,(.bool false)),(62,(.bool c11))] sv ?_<|fun e=> ?_
       ·refine aX (t:=57) rfl (fun hc=> ?_)<|fun hc=> ?_
        ·replace h11:=bE hc h11;refine wu rfl<|wu rfl<|bI (f:=AV.str) (l:=y3.names) rfl (.no _)<|wu rfl<|wu rfl<|aA ?_;cases h11;exact Kept.mk rfl<|.cons rfl<|.cons rfl<|.cons rfl<|.cons rfl<|.cons rfl<|.cons rfl<|.cons rfl .nil
        ·replace h11:=bC hc h11;refine wu rfl<|wu rfl<|wu rfl<|wu rfl<|wu rfl<|aA ?_;cases h11;exact Kept.mk rfl<|.cons rfl<|.cons rfl<|.cons rfl<|.cons rfl<|.cons rfl<|.cons rfl<|.cons rfl .nil
       ·refine wu rfl<|aA ?_;cases h10;exact Kept.mk rfl<|.cons rfl<|.cons rfl<|.cons rfl<|.cons rfl<|.cons rfl<|.cons rfl .nil
     ·refine aA ?_;refine aF u rfl (fun hc u=> ?_)<|fun hc u=> ?_
      ·refine aB<|aC<|wu rfl<|aA<|aK ?_;cases u;exact⟨rfl,⟨rfl,_,fun _=>rfl,aY rfl rfl rfl rfl J.ext⟩⟩
      ·refine aJ<|aB<|aB<|aC<|wu rfl<|wu rfl<|wu rfl ?_;obtain⟨c12,h12,u⟩:=bs u;refine aW 5 [(1,(.aG (aM e1) 0)),(3,(.bool<|e1.kind !=(11))),(4,(.i i2)),(5,(.aG (gJ y3) 0)),(6,(.bool c4)),(71,(.bool c12))] sv ?_<|fun e=> ?_
       ·refine aX (t:=66) rfl (fun hc=> ?_)<|fun hc=> ?_
        ·replace h12:=bE hc h12;refine wu rfl<|wu rfl ?_;obtain⟨r13,h13,h12⟩:=bs h12;refine wcD (sI h13) rfl rfl (.cons rfl<|.cons rfl .nil)<|wu rfl<|wu rfl<|aA ?_;cases h12;exact Kept.mk rfl<|.cons rfl<|.cons rfl<|.cons rfl<|.cons rfl<|.cons rfl<|.cons rfl .nil
        ·replace h12:=bC hc h12;refine wu rfl<|wu rfl<|wu rfl<|wu rfl<|wu rfl<|aA ?_;cases h12;exact Kept.mk rfl<|.cons rfl<|.cons rfl<|.cons rfl<|.cons rfl<|.cons rfl<|.cons rfl .nil
       ·refine wu rfl ?_;obtain⟨c14,h14,u⟩:=bs u;refine aW 3 [(1,(.aG (aM e1) 0)),(3,(.bool<|e1.kind !=(11))),(4,(.i i2)),(5,(.aG (gJ y3) 0)),(6,(.bool c4)),(75,(.bool c14))] sv ?_<|fun e=> ?_
        ·refine aX (t:=72) rfl (fun hc=> ?_)<|fun hc=> ?_
         ·replace h14:=bE hc h14;refine wu rfl<|wu rfl<|wu rfl<|aA ?_;cases h14;exact Kept.mk rfl<|.cons rfl<|.cons rfl<|.cons rfl<|.cons rfl<|.cons rfl<|.cons rfl .nil
         ·replace h14:=bC hc h14;refine wu rfl<|wu rfl<|wu rfl<|aA ?_;cases h14;exact Kept.mk rfl<|.cons rfl<|.cons rfl<|.cons rfl<|.cons rfl<|.cons rfl<|.cons rfl .nil
        ·refine wu rfl ?_;obtain⟨c15,h15,u⟩:=bs u;refine aW 12 [(1,(.aG (aM e1) 0)),(3,(.bool<|e1.kind !=(11))),(4,(.i i2)),(5,(.aG (gJ y3) 0)),(88,(.bool c15))] sv ?_<|fun e=> ?_
         ·refine aX (t:=76) rfl (fun hc=> ?_)<|fun hc=> ?_
          ·replace h15:=bE hc h15;refine wu rfl<|wu rfl<|wu rfl<|wu rfl<|wu rfl<|wu rfl<|wu rfl<|wu rfl<|wu rfl<|wu rfl<|wu rfl<|wu rfl<|aA ?_;cases h15;exact Kept.mk rfl<|.cons rfl<|.cons rfl<|.cons rfl<|.cons rfl<|.cons rfl .nil
          ·replace h15:=bC hc h15
           iterate 3 refine wu rfl ?_
           obtain⟨c16,h16,h15⟩:=bs h15;refine aW 2 [(1,(.aG (aM e1) 0)),(3,(.bool<|e1.kind !=(11))),(4,(.i i2)),(5,(.aG (gJ y3) 0)),(76,(.bool false)),(81,(.bool c16))] sv ?_<|fun e=> ?_
           ·refine aX (t:=79) rfl (fun hc=> ?_)<|fun hc=> ?_
            ·replace h16:=bE hc h16;refine wu rfl<|wu rfl<|aA ?_;cases h16;exact Kept.mk rfl<|.cons rfl<|.cons rfl<|.cons rfl<|.cons rfl<|.cons rfl<|.cons rfl .nil
            ·replace h16:=bC hc h16;refine wu rfl<|wu rfl<|aA ?_;cases h16;exact Kept.mk rfl<|.cons rfl<|.cons rfl<|.cons rfl<|.cons rfl<|.cons rfl<|.cons rfl .nil
           ·refine wu rfl ?_;obtain⟨c17,h17,h15⟩:=bs h15;refine aW 5 [(1,(.aG (aM e1) 0)),(3,(.bool<|e1.kind !=(11))),(4,(.i i2)),(5,(.aG (gJ y3) 0)),(76,(.bool false)),(87,(.bool c17))] sv ?_<|fun e=> ?_
            ·refine aX (t:=82) rfl (fun hc=> ?_)<|fun hc=> ?_
             ·replace h17:=bE hc h17;refine wu rfl<|wu rfl ?_;obtain⟨r18,h18,h17⟩:=bs h17;refine wcD (sI h18) rfl rfl (.cons rfl<|.cons rfl .nil)<|wu rfl<|wu rfl<|aA ?_;cases h17;exact Kept.mk rfl<|.cons rfl<|.cons rfl<|.cons rfl<|.cons rfl<|.cons rfl<|.cons rfl .nil
             ·replace h17:=bC hc h17;refine wu rfl<|wu rfl<|wu rfl<|wu rfl<|wu rfl<|aA ?_;cases h17;exact Kept.mk rfl<|.cons rfl<|.cons rfl<|.cons rfl<|.cons rfl<|.cons rfl<|.cons rfl .nil
            ·refine wu rfl<|aA ?_;cases h15;exact Kept.mk rfl<|.cons rfl<|.cons rfl<|.cons rfl<|.cons rfl<|.cons rfl .nil
         ·refine aA ?_;refine aF u rfl (fun hc u=> ?_)<|fun hc u=> ?_
          ·refine aB<|aC<|wu rfl<|aA<|aK ?_;cases u;exact⟨rfl,⟨rfl,_,fun _=>rfl,aY rfl rfl rfl rfl J.ext⟩⟩
          ·refine aJ<|aB<|aB<|aC<|wu rfl<|wu rfl ?_;obtain⟨r19,h19,u⟩:=bs u;refine wcD (rT h19) rfl rfl (.cons rfl .nil)<|wu rfl<|aA<|aB<|aC<|wu rfl<|wu rfl<|aA ?_;refine aF u rfl (fun hc u=> ?_)<|fun hc u=> ?_
           ·refine aB<|aC<|wu rfl<|wu rfl<|aA<|aK ?_;cases u;exact⟨rfl,⟨rfl,_,fun _=>rfl,aY rfl rfl rfl rfl J.ext⟩⟩
           ·refine aJ<|aB<|aC<|wu rfl<|aA<|aO ?_;obtain⟨o22,h22,u⟩:=bs u;refine bV (fun e=>aFb _ _ _ _ _ h22 e s _ J) (.cons rfl<|.cons rfl<|.cons rfl<|.cons rfl<|.cons rfl .nil) ?_
            rintro _ _ _ hq
            rcases o22 with q23|q24
            ·obtain⟨rfl,hq⟩:=hq;cases u;exact⟨rfl,hq⟩
            ·obtain⟨rfl,e26,rfl,rfl⟩:=hq;refine aC<|wu rfl<|wu rfl<|wu rfl<|aA ?_;exact bV (fun e=>ih_r02_arms_l1 _ _ _ u e s _ J) (.cons rfl<|.cons rfl<|.cons rfl .nil)<|fun _ _ _ h=>h
 ·refine bY ?_;cases u;exact⟨rfl,_,frE<|.cons rfl<|.cons rfl .nil,rfl⟩
noncomputable def wB(e1:Expr):Option Int:=
 ((j4 e1 (0))>>=fun o27=>
 (match o27 with
 | .ret q28=>some q28
 | .nx q29=>((if(e1.kind !=(11))=true then some ((e1.aT.length:Int)==(0))
 else some false:Option Bool)>>=fun c32=>
 (if c32=true then some (7)
 else some (0)))))
theorem aJs: ∀(e1:Expr)(r:Int),wB e1=some r→ ∀s:ASt,Fc PP (.func 162) [(aM e1)] s (bW s<|.i r):=by
 intro e1 r u;unfold wB at u;intro s;refine bD rfl rfl rfl ?_;have J:=St.clean s;generalize aU s=σ1 at J⊢;refine aB<|aC<|wu rfl<|wu rfl<|aA<|aB<|aC<|wu rfl<|wu rfl<|wu rfl<|wu rfl<|aA<|aB<|aB ?_;refine aC<|wu rfl<|aA<|aO ?_;obtain⟨o27,h27,u⟩:=bs u;refine bV (fun e=>aFf _ _ _ h27 e s _ J) (.cons rfl<|.cons rfl<|.cons rfl .nil) ?_
 rintro _ _ _ hq
 rcases o27 with q28|q29
 ·obtain⟨rfl,hq⟩:=hq;cases u;exact hq
 ·obtain⟨rfl,e31,rfl,rfl⟩:=hq;refine aB<|aB<|aC<|wu rfl<|wu rfl ?_;obtain⟨c32,h32,u⟩:=bs u;refine aW 5 [(115,(.bool c32))] σ1 ?_<|fun e=> ?_
  ·refine aX (t:=110) rfl (fun hc=> ?_)<|fun hc=> ?_
   ·replace h32:=bE hc h32;refine wu rfl<|wu rfl<|bI (f:=aZ) (l:=e1.aT) rfl (.no _)<|wu rfl<|wu rfl<|aA ?_;cases h32;exact Kept.mk rfl<|.cons rfl .nil
   ·replace h32:=bC hc h32;refine wu rfl<|wu rfl<|wu rfl<|wu rfl<|wu rfl<|aA ?_;cases h32;exact Kept.mk rfl<|.cons rfl .nil
  ·refine aA ?_;refine aF u rfl (fun hc u=> ?_)<|fun hc u=> ?_
   ·refine aB<|aC<|wu rfl<|aA<|aK ?_;cases u;exact⟨rfl,_,fun _=>rfl,aY rfl rfl rfl rfl J.ext⟩
   ·refine aJ<|aB<|aC<|wu rfl<|aA<|aK ?_;cases u;exact⟨rfl,_,fun _=>rfl,aY rfl rfl rfl rfl J.ext⟩
theorem aKU{e1:Expr}{r:Int}(h:wB e1=some r):Pf PP 162 [(aM e1)] (.i r):=Pf.cB (aJs e1 r h _) rfl (.cons (cC _) .nil)
noncomputable def iM(e1:Expr)(i5:Int):Option (Ctl Int Unit):=
 (if(decide (i5<(e1.names.length:Int)))=true then((idx e1.names i5)>>=fun y6=>
 ((mN y6)>>=fun r7=>
 (if(!r7)=true then some (.ret (4))
 else((cut e1.names (1) i5)>>=fun l8=>
 ((idx e1.names i5)>>=fun y9=>
 ((j0 l8 y9)>>=fun r10=>
 (if r10=true then some (.ret (5))
 else iM (nf e1) (IntKind.wrap .i64 (i5+(1))))))))))
 else some (.nx ()))
 partial_fixpoint
abbrev yO(e1:Expr)(i5:Int)(o:(Ctl Int Unit)):Prop:= ∀(e:Env)(s sv:ASt),St [] [] s sv [] []→Wk PP none Code.aQZ ⟨bB e [(1,(.aG (aM e1) 0)),(4,(.i i5))],[]⟩ sv (fun ex fr s'=>(match o with| .ret oq0=>ex= .ret∧nQ PP Code.aRH (VQ (.i oq0)<|Ext [] [] s) ex fr s'| .nx oq1=>ex= .exit 0∧ ∃(e:Env),fr=⟨bB e [],[]⟩∧sv=s'))
theorem aDH: ∀(e1:Expr)(i5:Int)(o:(Ctl Int Unit)),iM e1 i5=some o→yO e1 i5 o:=by
 refine iM.partial_correctness (yO) ?_;intro _f ih_r02_names_l0 e1 i5 o u;intro e s sv J;refine bM<|aB<|aB<|aC<|wu rfl<|wu rfl<|wu rfl<|bI (f:=AV.str) (l:=e1.names) rfl (.no _)<|wu rfl<|aA ?_;refine aF u rfl (fun hc u=> ?_)<|fun hc u=> ?_
 ·refine aJ<|aB<|aO<|aB<|aB<|aC<|wu rfl<|wu rfl<|wu rfl ?_;obtain⟨y6,hy6,u⟩:=bs u;refine bT (f:=AV.str) rfl (.no _) rfl hy6 rfl<|wu rfl ?_;obtain⟨r7,hr7,u⟩:=bs u;refine wcD (zH hr7) rfl rfl (.cons rfl .nil)<|wu rfl<|aA ?_;refine aF u rfl (fun hc u=> ?_)<|fun hc u=> ?_
  ·refine aB<|aC<|wu rfl<|aA<|aK ?_;cases u;exact⟨rfl,⟨rfl,_,fun _=>rfl,aY rfl rfl rfl rfl J.ext⟩⟩
  ·refine aJ<|aB<|aC<|wu rfl<|wu rfl<|wu rfl ?_;obtain⟨l8,hl8,u⟩:=bs u;refine rA (f:=AV.str) (lo':=(1)) (hi':=i5) rfl (.no _) (.inr ⟨_,rfl⟩) (.inr ⟨_,rfl⟩) (by rfl) hl8 ?_
   iterate 3 refine wu rfl ?_
   obtain⟨y9,hy9,u⟩:=bs u;refine bT (f:=AV.str) rfl (.no _) rfl hy9 rfl<|wu rfl ?_;obtain⟨r10,h10,u⟩:=bs u;refine wcD (iA h10) rfl rfl (.cons rfl<|.cons rfl .nil)<|aA ?_;refine aF u rfl (fun hc u=> ?_)<|fun hc u=> ?_
   ·refine aB<|aC<|wu rfl<|aA<|aK ?_;cases u;exact⟨rfl,⟨rfl,_,fun _=>rfl,aY rfl rfl rfl rfl J.ext⟩⟩
   ·refine aJ<|aC<|wu rfl<|wu rfl<|wu rfl<|aA ?_;exact bV (fun e=>ih_r02_names_l0 _ _ _ u e s _ J) (.cons rfl<|.cons rfl .nil)<|fun _ _ _ h=>h
 ·refine bY ?_;cases u;exact⟨rfl,_,frE .nil,rfl⟩
noncomputable def tA(e1:Expr):Option Int:=
 (if(e1.kind !=(17))=true then((j7 e1.names)>>=fun r2=>
 some r2)
 else((cut e1.names (0) (1))>>=fun l3=>
 ((j7 l3)>>=fun r4=>
 (if(r4 !=(0))=true then some r4
 else((iM e1 (1))>>=fun o11=>
 (match o11 with
 | .ret q12=>some q12
 | .nx q13=>some (0)))))))
theorem aHm: ∀(e1:Expr)(r:Int),tA e1=some r→ ∀s:ASt,Fc PP (.func 161) [(aM e1)] s (bW s<|.i r):=by
 intro e1 r u;unfold tA at u;intro s;refine bD rfl rfl rfl ?_;have J:=St.clean s;generalize aU s=σ1 at J⊢;refine aB<|aC<|wu rfl<|wu rfl<|aA<|aB<|aB<|aC<|wu rfl<|wu rfl<|wu rfl<|aA ?_;refine aF u rfl (fun hc u=> ?_)<|fun hc u=> ?_
 ·refine aB<|aC<|wu rfl<|wu rfl ?_;obtain⟨r2,hr2,u⟩:=bs u;refine wcD (rT hr2) rfl rfl (.cons rfl .nil)<|wu rfl<|aA<|aK ?_;cases u;exact⟨rfl,_,fun _=>rfl,aY rfl rfl rfl rfl J.ext⟩
 ·refine aJ<|aB<|aB<|aC<|wu rfl<|wu rfl ?_;obtain⟨l3,hl3,u⟩:=bs u;refine rA (f:=AV.str) (lo':=(0)) (hi':=(1)) rfl (.no _) (.inl ⟨rfl,rfl⟩) (.inr ⟨_,rfl⟩) (by rfl) hl3 ?_;obtain⟨r4,hr4,u⟩:=bs u;refine wcD (rT hr4) rfl rfl (.cons rfl .nil)<|wu rfl<|aA<|aB<|aC<|wu rfl<|wu rfl<|aA ?_;refine aF u rfl (fun hc u=> ?_)<|fun hc u=> ?_
  ·refine aB<|aC<|wu rfl<|wu rfl<|aA<|aK ?_;cases u;exact⟨rfl,_,fun _=>rfl,aY rfl rfl rfl rfl J.ext⟩
  ·refine aJ<|aB<|aB<|aC<|wu rfl<|aA<|aO ?_;obtain⟨o11,h11,u⟩:=bs u;refine bV (fun e=>aDH _ _ _ h11 e s _ J) (.cons rfl<|.cons rfl .nil) ?_
   rintro _ _ _ hq
   rcases o11 with q12|q13
   ·obtain⟨rfl,hq⟩:=hq;cases u;exact hq
   ·obtain⟨rfl,e15,rfl,rfl⟩:=hq;refine aB<|aC<|wu rfl<|aA<|aK ?_;cases u;exact⟨rfl,_,fun _=>rfl,aY rfl rfl rfl rfl J.ext⟩
theorem aG4{e1:Expr}{r:Int}(h:tA e1=some r):Pf PP 161 [(aM e1)] (.i r):=Pf.cB (aHm e1 r h _) rfl (.cons (cC _) .nil)
noncomputable def jC:Option (List aH):=
 some [(aH.mk (1) (0) (0) (0) false (0)<|0),(aH.mk (0) (0) (0) (0) false (-999999999)<|999999999),(aH.mk (0) (0) (0) (0) false (0)<|1),(aH.mk (0) (0) (0) (0) false (0)<|0),(aH.mk (0) (0) (1) (1) false (0)<|0),(aH.mk (0) (0) (0) (2) false (0)<|0),(aH.mk (0) (0) (1) (2) false (0)<|0),(aH.mk (0) (0) (2) (2) false (0)<|0),(aH.mk (0) (0) (0) (3) false (0)<|0),(aH.mk (3) (0) (0) (2) false (0)<|0),(aH.mk (2) (0) (0) (0) false (0)<|0),(aH.mk (0) (0) (0) (1) true (0)<|0),(aH.mk (1) (0) (0) (1) false (0)<|0),(aH.mk (1) (1) (0) (1) false (0)<|0),(aH.mk (2) (0) (0) (1) true (0)<|1),(aH.mk (2) (0) (1) (1) true (0)<|0),(aH.mk (2) (0) (0) (1) false (0)<|0),(aH.mk (0) (0) (1) (3) false (0)<|0),(aH.mk (1) (0) (0) (1) false (0)<|0),(aH.mk (1) (0) (0) (0) false (0)<|0)]
theorem aFr: ∀(r:(List aH)),jC=some r→ ∀s:ASt,Fc PP (.func 159) [] s (bW s<|slA 7<|r.map eG):=by
 intro r u;unfold jC at u;intro s;refine bD rfl rfl rfl ?_;have J:=St.clean s;generalize aU s=σ1 at J⊢;refine aB<|aC<|wu rfl<|aA<|aB<|aC ?_;refine wgv (v:=(aR<|aH.mk (1) (0) (0) (0) false (0)<|0)) rfl rfl (by kernel_rfl) ?_;refine wgv (v:=(aR<|aH.mk (0) (0) (0) (0) false (-999999999)<|999999999)) rfl rfl (by kernel_rfl) ?_;refine wgv (v:=(aR<|aH.mk (0) (0) (0) (0) false (0)<|1)) rfl rfl (by kernel_rfl) ?_;refine wgv (v:=(aR<|aH.mk (0) (0) (0) (0) false (0)<|0)) rfl rfl (by kernel_rfl) ?_;refine wgv (v:=(aR<|aH.mk (0) (0) (1) (1) false (0)<|0)) rfl rfl (by kernel_rfl) ?_;refine wgv (v:=(aR<|aH.mk (0) (0) (0) (2) false (0)<|0)) rfl rfl (by kernel_rfl) ?_;refine wgv (v:=(aR<|aH.mk (0) (0) (1) (2) false (0)<|0)) rfl rfl (by kernel_rfl) ?_;refine wgv (v:=(aR<|aH.mk (0) (0) (2) (2) false (0)<|0)) rfl rfl (by kernel_rfl) ?_;refine wgv (v:=(aR<|aH.mk (0) (0) (0) (3) false (0)<|0)) rfl rfl (by kernel_rfl) ?_;refine wgv (v:=(aR<|aH.mk (3) (0) (0) (2) false (0)<|0)) rfl rfl (by kernel_rfl) ?_;refine wgv (v:=(aR<|aH.mk (2) (0) (0) (0) false (0)<|0)) rfl rfl (by kernel_rfl) ?_;refine wgv (v:=(aR<|aH.mk (0) (0) (0) (1) true (0)<|0)) rfl rfl (by kernel_rfl) ?_;refine wgv (v:=(aR<|aH.mk (1) (0) (0) (1) false (0)<|0)) rfl rfl (by kernel_rfl) ?_;refine wgv (v:=(aR<|aH.mk (1) (1) (0) (1) false (0)<|0)) rfl rfl (by kernel_rfl) ?_;refine wgv (v:=(aR<|aH.mk (2) (0) (0) (1) true (0)<|1)) rfl rfl (by kernel_rfl) ?_;refine wgv (v:=(aR<|aH.mk (2) (0) (1) (1) true (0)<|0)) rfl rfl (by kernel_rfl) ?_;refine wgv (v:=(aR<|aH.mk (2) (0) (0) (1) false (0)<|0)) rfl rfl (by kernel_rfl) ?_;refine wgv (v:=(aR<|aH.mk (0) (0) (1) (3) false (0)<|0)) rfl rfl (by kernel_rfl) ?_;refine wgv (v:=(aR<|aH.mk (1) (0) (0) (1) false (0)<|0)) rfl rfl (by kernel_rfl) ?_;refine wgv (v:=(aR<|aH.mk (1) (0) (0) (0) false (0)<|0)) rfl rfl (by kernel_rfl) ?_;refine mJ (f:=eG) (l:= [(aH.mk (1) (0) (0) (0) false (0)<|0),(aH.mk (0) (0) (0) (0) false (-999999999)<|999999999),(aH.mk (0) (0) (0) (0) false (0)<|1),(aH.mk (0) (0) (0) (0) false (0)<|0),(aH.mk (0) (0) (1) (1) false (0)<|0),(aH.mk (0) (0) (0) (2) false (0)<|0),(aH.mk (0) (0) (1) (2) false (0)<|0),(aH.mk (0) (0) (2) (2) false (0)<|0),(aH.mk (0) (0) (0) (3) false (0)<|0),(aH.mk (3) (0) (0) (2) false (0)<|0),(aH.mk (2) (0) (0) (0) false (0)<|0),(aH.mk (0) (0) (0) (1) true (0)<|0),(aH.mk (1) (0) (0) (1) false (0)<|0),(aH.mk (1) (1) (0) (1) false (0)<|0),(aH.mk (2) (0) (0) (1) true (0)<|1),(aH.mk (2) (0) (1) (1) true (0)<|0),(aH.mk (2) (0) (0) (1) false (0)<|0),(aH.mk (0) (0) (1) (3) false (0)<|0),(aH.mk (1) (0) (0) (1) false (0)<|0),(aH.mk (1) (0) (0) (0) false (0)<|0)]) rfl (.cons rfl<|.cons rfl<|.cons rfl<|.cons rfl<|.cons rfl<|.cons rfl<|.cons rfl<|.cons rfl<|.cons rfl<|.cons rfl<|.cons rfl<|.cons rfl<|.cons rfl<|.cons rfl<|.cons rfl<|.cons rfl<|.cons rfl<|.cons rfl<|.cons rfl<|.cons rfl .nil) rfl xV rfl rfl (by decide) ?_;refine wu rfl<|aA<|aK ?_;cases u;exact⟨rfl,_,fun _=>rfl,eJ rfl (.full<|.inl rfl) J.ext⟩
theorem aFD{r:(List aH)}(h:jC=some r):Pf PP 159 [] (slA 7<|r.map eG):=Pf.cB (aFr r h _) (iC xU _) .nil
noncomputable def rD(e1:Expr):Option Int:=
 ((jC)>>=fun r2=>
 ((u4 e1.kind (0) (IntKind.wrap .i64 ((r2.length:Int)-(1))))>>=fun r3=>
 (if(!r3)=true then some (1)
 else((idx r2 e1.kind)>>=fun y4=>
 ((u4 e1.n y4.low y4.high)>>=fun r5=>
 (if(!r5)=true then some (1)
 else((nA e1.s y4.s)>>=fun r6=>
 ((if(!r6)=true then some true
 else((nA e1.t y4.t)>>=fun r8=>
 some (!r8)):Option Bool)>>=fun c7=>
 (if c7=true then some (4)
 else((if((e1.names.length:Int)==y4.names)=true then some true
 else((if(e1.kind==(17))=true then some (decide ((e1.names.length:Int)≥(1)))
 else some false:Option Bool)>>=fun c10=>
 ((if c10=true then some (decide ((e1.names.length:Int)≤(13)))
 else some false:Option Bool)>>=fun c11=>
 some c11)):Option Bool)>>=fun c9=>
 ((if((e1.l.length:Int)==y4.l)=true then some true
 else((if(e1.kind==(10))=true then some (decide ((e1.l.length:Int)≤(4)))
 else some false:Option Bool)>>=fun c13=>
 some c13):Option Bool)>>=fun c12=>
 ((if(!c9)=true then some true
 else some (!c12):Option Bool)>>=fun c14=>
 ((if c14=true then some true
 else((if(!y4.aT)=true then some (decide ((e1.aT.length:Int)>(0)))
 else some false:Option Bool)>>=fun c16=>
 some c16):Option Bool)>>=fun c15=>
 ((if c15=true then some true
 else some (decide ((e1.aT.length:Int)>(9))):Option Bool)>>=fun c17=>
 (if c17=true then some (7)
 else((tA e1)>>=fun r18=>
 (if(r18 !=(0))=true then some r18
 else(if y4.aT=true then((wB e1)>>=fun r19=>
 some r19)
 else some (0)))))))))))))))))))
theorem aIO: ∀(e1:Expr)(r:Int),rD e1=some r→ ∀s:ASt,Fc PP (.func 104) [(aM e1)] s (bW s<|.i r):=by
 intro e1 r u;unfold rD at u;intro s;refine bD rfl rfl rfl ?_;have J:=St.clean s;generalize aU s=σ1 at J⊢;refine aB<|aC<|wu rfl<|wu rfl<|aA<|aB<|aC ?_;obtain⟨r2,hr2,u⟩:=bs u;refine wcD (aFD hr2) rfl rfl .nil<|wu rfl<|aA<|aB<|aB<|aC<|wu rfl<|wu rfl<|wu rfl<|bI (f:=eG) (l:=r2) rfl (.no _)<|wu rfl ?_;obtain⟨r3,hr3,u⟩:=bs u;refine wcD (z4 hr3) rfl rfl (.cons rfl<|.cons rfl<|.cons rfl .nil)<|wu rfl<|aA ?_;refine aF u rfl (fun hc u=> ?_)<|fun hc u=> ?_
 ·refine aB<|aC<|wu rfl<|aA<|aK ?_;cases u;exact⟨rfl,_,fun _=>rfl,aY rfl rfl rfl rfl J.ext⟩
 ·refine aJ<|aB<|aC<|wu rfl<|wu rfl<|wu rfl ?_;obtain⟨y4,hy4,u⟩:=bs u;refine bT (f:=eG) rfl (.no _) rfl hy4 rfl<|wu rfl<|wu rfl<|wu rfl<|aA<|aB<|aB<|aC<|wu rfl<|wu rfl<|wu rfl<|wu rfl<|wu rfl<|wu rfl ?_;obtain⟨r5,hr5,u⟩:=bs u;refine wcD (z4 hr5) rfl rfl (.cons rfl<|.cons rfl<|.cons rfl .nil)<|wu rfl<|aA ?_;refine aF u rfl (fun hc u=> ?_)<|fun hc u=> ?_
  ·refine aB<|aC<|wu rfl<|aA<|aK ?_;cases u;exact⟨rfl,_,fun _=>rfl,aY rfl rfl rfl rfl J.ext⟩
  ·refine aJ<|aB<|aB<|aC<|wu rfl<|wu rfl<|wu rfl<|wu rfl ?_;obtain⟨r6,hr6,u⟩:=bs u;refine wcD (sI hr6) rfl rfl (.cons rfl<|.cons rfl .nil)<|wu rfl<|wu rfl ?_;obtain⟨c7,hc7,u⟩:=bs u;refine aW 7 [(1,(.aG (aM e1) 0)),(4,(.aG (aR y4) 0)),(42,(.bool c7))] σ1 ?_<|fun e=> ?_
   ·refine aX (t:=35) rfl (fun hc=> ?_)<|fun hc=> ?_
    ·replace hc7:=bE hc hc7;refine wu rfl<|wu rfl<|wu rfl<|wu rfl<|wu rfl<|wu rfl<|wu rfl<|aA ?_;cases hc7;exact Kept.mk rfl<|.cons rfl<|.cons rfl<|.cons rfl .nil
    ·replace hc7:=bC hc hc7
     iterate 4 refine wu rfl ?_
     obtain⟨r8,hr8,hc7⟩:=bs hc7;refine wcD (sI hr8) rfl rfl (.cons rfl<|.cons rfl .nil)<|wu rfl<|wu rfl<|aA ?_;cases hc7;exact Kept.mk rfl<|.cons rfl<|.cons rfl<|.cons rfl .nil
   ·refine aA ?_;refine aF u rfl (fun hc u=> ?_)<|fun hc u=> ?_
    ·refine aB<|aC<|wu rfl<|aA<|aK ?_;cases u;exact⟨rfl,_,fun _=>rfl,aY rfl rfl rfl rfl J.ext⟩
    ·refine aJ<|aB<|aC<|wu rfl<|wu rfl<|bI (f:=AV.str) (l:=e1.names) rfl (.no _)<|wu rfl<|wu rfl<|wu rfl<|wu rfl ?_;obtain⟨c9,hc9,u⟩:=bs u;refine aW 16 [(1,(.aG (aM e1) 0)),(4,(.aG (aR y4) 0)),(65,(.bool c9))] σ1 ?_<|fun e=> ?_
     ·refine aX (t:=49) rfl (fun hc=> ?_)<|fun hc=> ?_
      ·replace hc9:=bE hc hc9
       iterate 16 refine wu rfl ?_
       refine aA ?_;cases hc9;exact Kept.mk rfl<|.cons rfl<|.cons rfl<|.cons rfl .nil
      ·replace hc9:=bC hc hc9
       iterate 4 refine wu rfl ?_
       obtain⟨c10,h10,hc9⟩:=bs hc9;refine aW 5 [(1,(.aG (aM e1) 0)),(4,(.aG (aR y4) 0)),(49,(.bool false)),(58,(.bool c10))] σ1 ?_<|fun e=> ?_
       ·refine aX (t:=53) rfl (fun hc=> ?_)<|fun hc=> ?_
        ·replace h10:=bE hc h10;refine wu rfl<|wu rfl<|bI (f:=AV.str) (l:=e1.names) rfl (.no _)<|wu rfl<|wu rfl<|aA ?_;cases h10;exact Kept.mk rfl<|.cons rfl<|.cons rfl<|.cons rfl<|.cons rfl .nil
        ·replace h10:=bC hc h10;refine wu rfl<|wu rfl<|wu rfl<|wu rfl<|wu rfl<|aA ?_;cases h10;exact Kept.mk rfl<|.cons rfl<|.cons rfl<|.cons rfl<|.cons rfl .nil
       ·refine wu rfl ?_;obtain⟨c11,h11,hc9⟩:=bs hc9;refine aW 5 [(1,(.aG (aM e1) 0)),(4,(.aG (aR y4) 0)),(49,(.bool false)),(64,(.bool c11))] σ1 ?_<|fun e=> ?_
        ·refine aX (t:=59) rfl (fun hc=> ?_)<|fun hc=> ?_
         ·replace h11:=bE hc h11;refine wu rfl<|wu rfl<|bI (f:=AV.str) (l:=e1.names) rfl (.no _)<|wu rfl<|wu rfl<|aA ?_;cases h11;exact Kept.mk rfl<|.cons rfl<|.cons rfl<|.cons rfl<|.cons rfl .nil
         ·replace h11:=bC hc h11;refine wu rfl<|wu rfl<|wu rfl<|wu rfl<|wu rfl<|aA ?_;cases h11;exact Kept.mk rfl<|.cons rfl<|.cons rfl<|.cons rfl<|.cons rfl .nil
        ·refine wu rfl<|aA ?_;cases hc9;exact Kept.mk rfl<|.cons rfl<|.cons rfl<|.cons rfl .nil
     ·refine wu rfl<|aA<|aB<|aC<|wu rfl<|wu rfl<|bI (f:=aP) (l:=e1.l) rfl (.no _)<|wu rfl<|wu rfl<|wu rfl<|wu rfl ?_;obtain⟨c12,h12,u⟩:=bs u;refine aW 10 [(1,(.aG (aM e1) 0)),(4,(.aG (aR y4) 0)),(5,(.bool c9)),(82,(.bool c12))] σ1 ?_<|fun e=> ?_
      ·refine aX (t:=72) rfl (fun hc=> ?_)<|fun hc=> ?_
       ·replace h12:=bE hc h12;refine wu rfl<|wu rfl<|wu rfl<|wu rfl<|wu rfl<|wu rfl<|wu rfl<|wu rfl<|wu rfl<|wu rfl<|aA ?_;cases h12;exact Kept.mk rfl<|.cons rfl<|.cons rfl<|.cons rfl<|.cons rfl .nil
       ·replace h12:=bC hc h12
        iterate 4 refine wu rfl ?_
        obtain⟨c13,h13,h12⟩:=bs h12;refine aW 5 [(1,(.aG (aM e1) 0)),(4,(.aG (aR y4) 0)),(5,(.bool c9)),(72,(.bool false)),(81,(.bool c13))] σ1 ?_<|fun e=> ?_
        ·refine aX (t:=76) rfl (fun hc=> ?_)<|fun hc=> ?_
         ·replace h13:=bE hc h13;refine wu rfl<|wu rfl<|bI (f:=aP) (l:=e1.l) rfl (.no _)<|wu rfl<|wu rfl<|aA ?_;cases h13;exact Kept.mk rfl<|.cons rfl<|.cons rfl<|.cons rfl<|.cons rfl<|.cons rfl .nil
         ·replace h13:=bC hc h13;refine wu rfl<|wu rfl<|wu rfl<|wu rfl<|wu rfl<|aA ?_;cases h13;exact Kept.mk rfl<|.cons rfl<|.cons rfl<|.cons rfl<|.cons rfl<|.cons rfl .nil
        ·refine wu rfl<|aA ?_;cases h12;exact Kept.mk rfl<|.cons rfl<|.cons rfl<|.cons rfl<|.cons rfl .nil
      ·refine wu rfl<|aA<|aB<|aB<|aC<|wu rfl<|wu rfl<|wu rfl ?_;obtain⟨c14,h14,u⟩:=bs u;refine aW 3 [(1,(.aG (aM e1) 0)),(4,(.aG (aR y4) 0)),(88,(.bool c14))] σ1 ?_<|fun e=> ?_
       ·refine aX (t:=85) rfl (fun hc=> ?_)<|fun hc=> ?_
        ·replace h14:=bE hc h14;refine wu rfl<|wu rfl<|wu rfl<|aA ?_;cases h14;exact Kept.mk rfl<|.cons rfl<|.cons rfl<|.cons rfl .nil
        ·replace h14:=bC hc h14;refine wu rfl<|wu rfl<|wu rfl<|aA ?_;cases h14;exact Kept.mk rfl<|.cons rfl<|.cons rfl<|.cons rfl .nil
       ·refine wu rfl ?_;obtain⟨c15,h15,u⟩:=bs u;refine aW 10 [(1,(.aG (aM e1) 0)),(4,(.aG (aR y4) 0)),(99,(.bool c15))] σ1 ?_<|fun e=> ?_
        ·refine aX (t:=89) rfl (fun hc=> ?_)<|fun hc=> ?_
         ·replace h15:=bE hc h15;refine wu rfl<|wu rfl<|wu rfl<|wu rfl<|wu rfl<|wu rfl<|wu rfl<|wu rfl<|wu rfl<|wu rfl<|aA ?_;cases h15;exact Kept.mk rfl<|.cons rfl<|.cons rfl<|.cons rfl .nil
         ·replace h15:=bC hc h15
          iterate 4 refine wu rfl ?_
          obtain⟨c16,h16,h15⟩:=bs h15;refine aW 5 [(1,(.aG (aM e1) 0)),(4,(.aG (aR y4) 0)),(89,(.bool false)),(98,(.bool c16))] σ1 ?_<|fun e=> ?_
          ·refine aX (t:=93) rfl (fun hc=> ?_)<|fun hc=> ?_
           ·replace h16:=bE hc h16;refine wu rfl<|wu rfl<|bI (f:=aZ) (l:=e1.aT) rfl (.no _)<|wu rfl<|wu rfl<|aA ?_;cases h16;exact Kept.mk rfl<|.cons rfl<|.cons rfl<|.cons rfl<|.cons rfl .nil
           ·replace h16:=bC hc h16;refine wu rfl<|wu rfl<|wu rfl<|wu rfl<|wu rfl<|aA ?_;cases h16;exact Kept.mk rfl<|.cons rfl<|.cons rfl<|.cons rfl<|.cons rfl .nil
          ·refine wu rfl<|aA ?_;cases h15;exact Kept.mk rfl<|.cons rfl<|.cons rfl<|.cons rfl .nil
        ·refine wu rfl ?_;obtain⟨c17,h17,u⟩:=bs u;refine aW 5 [(1,(.aG (aM e1) 0)),(4,(.aG (aR y4) 0)),(105,(.bool c17))] σ1 ?_<|fun e=> ?_
         ·refine aX (t:=100) rfl (fun hc=> ?_)<|fun hc=> ?_
          ·replace h17:=bE hc h17;refine wu rfl<|wu rfl<|wu rfl<|wu rfl<|wu rfl<|aA ?_;cases h17;exact Kept.mk rfl<|.cons rfl<|.cons rfl<|.cons rfl .nil
          ·replace h17:=bC hc h17;refine wu rfl<|wu rfl<|bI (f:=aZ) (l:=e1.aT) rfl (.no _)<|wu rfl<|wu rfl<|aA ?_;cases h17;exact Kept.mk rfl<|.cons rfl<|.cons rfl<|.cons rfl .nil
         ·refine aA ?_;refine aF u rfl (fun hc u=> ?_)<|fun hc u=> ?_
          ·refine aB<|aC<|wu rfl<|aA<|aK ?_;cases u;exact⟨rfl,_,fun _=>rfl,aY rfl rfl rfl rfl J.ext⟩
          ·refine aJ<|aB<|aB<|aC<|wu rfl ?_;obtain⟨r18,h18,u⟩:=bs u;refine wcD (aG4 h18) rfl rfl (.cons rfl .nil)<|wu rfl<|aA<|aB<|aC<|wu rfl<|wu rfl<|aA ?_;refine aF u rfl (fun hc u=> ?_)<|fun hc u=> ?_
           ·refine aB<|aC<|wu rfl<|wu rfl<|aA<|aK ?_;cases u;exact⟨rfl,_,fun _=>rfl,aY rfl rfl rfl rfl J.ext⟩
           ·refine aJ<|aB<|aB<|aC<|wu rfl<|wu rfl<|aA ?_;refine aF u rfl (fun hc u=> ?_)<|fun hc u=> ?_
            ·refine aB<|aC<|wu rfl ?_;obtain⟨r19,h19,u⟩:=bs u;refine wcD (aKU h19) rfl rfl (.cons rfl .nil)<|wu rfl<|aA<|aK ?_;cases u;exact⟨rfl,_,fun _=>rfl,aY rfl rfl rfl rfl J.ext⟩
            ·refine aJ<|aB<|aC<|wu rfl<|aA<|aK ?_;cases u;exact⟨rfl,_,fun _=>rfl,aY rfl rfl rfl rfl J.ext⟩
theorem aHL{e1:Expr}{r:Int}(h:rD e1=some r):Pf PP 104 [(aM e1)] (.i r):=Pf.cB (aIO e1 r h _) rfl (.cons (cC _) .nil)
mutual
noncomputable def g5 (e1:Expr):Option Int:=
 ((rD e1)>>=fun r2=>
 (if(r2 !=(0))=true then some r2
 else((kU e1)>>=fun r3=>
 ((iZ r3 (0))>>=fun o7=>
 (match o7 with
 | .ret q8=>some q8
 | .nx q9=>some (0))))))
 partial_fixpoint
noncomputable def iZ (r3:(List Expr)) (i4:Int):Option (Ctl Int Unit):=
 (if(decide (i4<(r3.length:Int)))=true then((idx r3 i4)>>=fun y5=>
 ((g5 (nf y5))>>=fun r6=>
 (if(r6 !=(0))=true then some (.ret r6)
 else iZ (nf r3) (IntKind.wrap .i64 (i4+(1))))))
 else some (.nx ()))
 partial_fixpoint
end
abbrev u3(e1:Expr)(r:Int):Prop:= ∀s:ASt,Fc PP (.func 70) [(aM e1)] s (bW s<|.i r)
abbrev vM(r3:(List Expr))(i4:Int)(o:(Ctl Int Unit)):Prop:= ∀(e:Env)(s sv:ASt),St [] [] s sv [] []→Wk PP none Code.aTh ⟨bB e [(4,(slA 7<|r3.map aP)),(5,(.i i4))],[]⟩ sv (fun ex fr s'=>(match o with| .ret oq0=>ex= .ret∧nQ PP Code.c70 (VQ (.i oq0)<|Ext [] [] s) ex fr s'| .nx oq1=>ex= .exit 0∧ ∃(e:Env),fr=⟨bB e [],[]⟩∧sv=s'))
theorem zB{e1:Expr}{r:Int}(h: ∀s:ASt,Fc PP (.func 70) [(aM e1)] s<|bW s<|.i r):Pf PP 70 [(aM e1)] (.i r):=Pf.cB (h _) rfl (.cons (cC _) .nil)
theorem aDA:(∀(e1:Expr)(r:Int),g5 e1=some r→u3 e1 r)∧
  (∀(r3:(List Expr))(i4:Int)(o:(Ctl Int Unit)),iZ r3 i4=some o→vM r3 i4 o):=by
 refine g5.mutual_partial_correctness u3 vM ?_ ?_
 ·intro _f0 ih_r02_checked_l0 e1 r u;intro s;refine bD rfl rfl rfl ?_;have J:=St.clean s;generalize aU s=σ1 at J⊢;refine aB<|aC<|wu rfl<|wu rfl<|aA<|aB<|aB<|aC<|wu rfl ?_;obtain⟨r2,hr2,u⟩:=bs u;refine wcD (aHL hr2) rfl rfl (.cons rfl .nil)<|wu rfl<|aA<|aB<|aC<|wu rfl<|wu rfl<|aA ?_;refine aF u rfl (fun hc u=> ?_)<|fun hc u=> ?_
  ·refine aB<|aC<|wu rfl<|wu rfl<|aA<|aK ?_;cases u;exact⟨rfl,_,fun _=>rfl,aY rfl rfl rfl rfl J.ext⟩
  ·refine aJ<|aB<|aC<|wu rfl ?_;obtain⟨r3,hr3,u⟩:=bs u;refine wcD (nG hr3) rfl rfl (.cons rfl .nil)<|wu rfl<|aA<|aB<|aB<|aC<|wu rfl<|aA<|aO ?_;obtain⟨o7,ho7,u⟩:=bs u;refine bV (fun e=>ih_r02_checked_l0 _ _ _ ho7 e s _ J) (.cons rfl<|.cons rfl .nil) ?_
   rintro _ _ _ hq
   rcases o7 with q8|q9
   ·obtain⟨rfl,hq⟩:=hq;cases u;exact hq
   ·obtain⟨rfl,e11,rfl,rfl⟩:=hq;refine aB<|aC<|wu rfl<|aA<|aK ?_;cases u;exact⟨rfl,_,fun _=>rfl,aY rfl rfl rfl rfl J.ext⟩
 ·intro _f0 _f1 ih_r02_checked ih_r02_checked_l0 r3 i4 o u;intro e s sv J;refine bM<|aB<|aB<|aC<|wu rfl<|wu rfl<|bI (f:=aP) (l:=r3) rfl (.no _)<|wu rfl<|aA ?_;refine aF u rfl (fun hc u=> ?_)<|fun hc u=> ?_
  ·refine aJ<|aB<|aO<|aB<|aC<|wu rfl<|wu rfl ?_;obtain⟨y5,hy5,u⟩:=bs u;refine bT (f:=aP) rfl (.no _) rfl hy5 (bN _)<|wu rfl ?_;obtain⟨r6,hr6,u⟩:=bs u;refine wcD (zB<|ih_r02_checked _ _ hr6) rfl rfl (.cons rfl .nil)<|wu rfl<|aA<|aB<|aC<|wu rfl<|wu rfl<|aA ?_;refine aF u rfl (fun hc u=> ?_)<|fun hc u=> ?_
   ·refine aB<|aC<|wu rfl<|wu rfl<|aA<|aK ?_;cases u;exact⟨rfl,⟨rfl,_,fun _=>rfl,aY rfl rfl rfl rfl J.ext⟩⟩
   ·refine aJ<|aC<|wu rfl<|wu rfl<|wu rfl<|aA ?_;exact bV (fun e=>ih_r02_checked_l0 _ _ _ u e s _ J) (.cons rfl<|.cons rfl .nil)<|fun _ _ _ h=>h
  ·refine bY ?_;cases u;exact⟨rfl,_,frE .nil,rfl⟩
theorem aFe: ∀(e1:Expr)(r:Int),g5 e1=some r→u3 e1 r:=aDA.1
theorem aD2{e1:Expr}{r:Int}(h:g5 e1=some r):Pf PP 70 [(aM e1)] (.i r):=zB (aFe e1 r h)
mutual
noncomputable def pF (e1:Expr) (n2:Int) (depth3:Int):Option Int:=
 (if(decide (depth3<(1)))=true then some (-1)
 else((fN e1 depth3 (IntKind.wrap .i64 (n2-(1))) (0))>>=fun o11=>
 some o11))
 partial_fixpoint
noncomputable def fN (e1:Expr) (depth3:Int) (nodes4:Int) (i5:Int):Option Int:=
 ((if(decide (i5<(IntKind.wrap .i64 ((e1.l.length:Int)+(e1.aT.length:Int)))))=true then some (decide (nodes4≥(0)))
 else some false:Option Bool)>>=fun c6=>
 (if c6=true then(if(decide (i5<(e1.l.length:Int)))=true then((idx e1.l i5)>>=fun y7=>
 ((pF (nf y7) (nf nodes4) (IntKind.wrap .i64 (depth3-(1))))>>=fun r8=>
 fN (nf e1) (nf depth3) r8 (IntKind.wrap .i64 (i5+(1)))))
 else((idx e1.aT (IntKind.wrap .i64 (i5-(e1.l.length:Int))))>>=fun y9=>
 ((pF y9.body (nf nodes4) (IntKind.wrap .i64 (depth3-(1))))>>=fun r10=>
 fN (nf e1) (nf depth3) r10 (IntKind.wrap .i64 (i5+(1))))))
 else some nodes4))
 partial_fixpoint
end
abbrev aAM(e1:Expr)(n2:Int)(depth3:Int)(r:Int):Prop:= ∀s:ASt,Fc PP (.func 69) [(aM e1),(.i n2),(.i depth3)] s (bW s<|.i r)
abbrev aAC(e1:Expr)(depth3:Int)(nodes4:Int)(i5:Int)(o:Int):Prop:= ∀(e:Env)(s sv:ASt),St [] [] s sv [] []→Wk PP none Code.aS2 ⟨bB e [(1,(.i nodes4)),(2,(.i depth3)),(3,(.aG (aM e1) 0)),(7,(.i<|IntKind.wrap .i64<|(e1.l.length:Int)+(e1.aT.length:Int))),(8,(.i i5))],[]⟩ sv (fun ex fr s'=>ex= .exit 0∧ ∃(e:Env),fr=⟨bB e [(1,(.i o))],[]⟩∧sv=s')
theorem yN{e1:Expr}{n2:Int}{depth3:Int}{r:Int}(h: ∀s:ASt,Fc PP (.func 69) [(aM e1),(.i n2),(.i depth3)] s<|bW s<|.i r):Pf PP 69 [(aM e1),(.i n2),(.i depth3)] (.i r):=Pf.cB (h _) rfl (.cons (cC _)<|.cons ⟨rfl,rfl⟩<|.cons ⟨rfl,rfl⟩ .nil)
theorem aHk:(∀(e1:Expr)(n2:Int)(depth3:Int)(r:Int),pF e1 n2 depth3=some r→aAM e1 n2 depth3 r)∧
  (∀(e1:Expr)(depth3:Int)(nodes4:Int)(i5:Int)(o:Int),fN e1 depth3 nodes4 i5=some o→aAC e1 depth3 nodes4 i5 o):=by
 refine pF.mutual_partial_correctness aAM aAC ?_ ?_
 ·intro _f0 ih_r02_left_l0 e1 n2 depth3 r u;intro s;refine bD rfl rfl rfl ?_;have J:=St.clean s;generalize aU s=σ1 at J⊢;refine aB<|aC<|wu rfl<|wu rfl<|aA<|aB<|aC<|wu rfl<|wu rfl<|wu rfl<|aA<|aB<|aB<|aC ?_;refine wu rfl<|wu rfl<|aA ?_;refine aF u rfl (fun hc u=> ?_)<|fun hc u=> ?_
  ·refine aB<|aC<|wu rfl<|aA<|aK ?_;cases u;exact⟨rfl,_,fun _=>rfl,aY rfl rfl rfl rfl J.ext⟩
  ·refine aJ<|aB<|aC<|wu rfl<|wu rfl<|bI (f:=aP) (l:=e1.l) rfl (.no _)<|wu rfl<|wu rfl<|bI (f:=aZ) (l:=e1.aT) rfl (.no _)<|wu rfl<|wu rfl<|aA<|aB<|aB ?_;refine aC<|wu rfl<|aA<|aO ?_;obtain⟨o11,h11,u⟩:=bs u;refine bV (fun e=>ih_r02_left_l0 _ _ _ _ _ h11 e s _ J) (.cons rfl<|.cons rfl<|.cons rfl<|.cons rfl<|.cons rfl .nil) ?_
   rintro _ _ _ hq
   obtain⟨rfl,e13,rfl,rfl⟩:=hq;refine aB<|aC<|wu rfl<|wu rfl<|aA<|aK ?_;cases u;exact⟨rfl,_,fun _=>rfl,aY rfl rfl rfl rfl J.ext⟩
 ·intro _f0 _f1 ih_r02_left ih_r02_left_l0 e1 depth3 nodes4 i5 o u;intro e s sv J;refine bM<|aB<|aB<|aC<|wu rfl<|wu rfl<|wu rfl<|wu rfl ?_;obtain⟨c6,hc6,u⟩:=bs u;refine aW 3 [(1,(.i nodes4)),(2,(.i depth3)),(3,(.aG (aM e1) 0)),(7,(.i<|IntKind.wrap .i64<|(e1.l.length:Int)+(e1.aT.length:Int))),(8,(.i i5)),(26,(.bool c6))] sv ?_<|fun e=> ?_
  ·refine aX (t:=23) rfl (fun hc=> ?_)<|fun hc=> ?_
   ·replace hc6:=bE hc hc6;refine wu rfl<|wu rfl<|wu rfl<|aA ?_;cases hc6;exact Kept.mk rfl<|.cons rfl<|.cons rfl<|.cons rfl<|.cons rfl<|.cons rfl<|.cons rfl .nil
   ·replace hc6:=bC hc hc6;refine wu rfl<|wu rfl<|wu rfl<|aA ?_;cases hc6;exact Kept.mk rfl<|.cons rfl<|.cons rfl<|.cons rfl<|.cons rfl<|.cons rfl<|.cons rfl .nil
  ·refine aA ?_;refine aF u rfl (fun hc u=> ?_)<|fun hc u=> ?_
   ·refine aJ<|aB<|aO<|aB<|aC<|wu rfl<|wu rfl<|wu rfl<|bI (f:=aP) (l:=e1.l) rfl (.no _)<|wu rfl<|aA ?_;refine aF u rfl (fun hc u=> ?_)<|fun hc u=> ?_
    ·refine aC<|wu rfl<|wu rfl<|wu rfl ?_;obtain⟨y7,hy7,u⟩:=bs u;refine bT (f:=aP) rfl (.no _) rfl hy7 (bN _)<|wu rfl<|wu rfl<|wu rfl<|wu rfl ?_;obtain⟨r8,hr8,u⟩:=bs u;refine wcD (yN<|ih_r02_left _ _ _ _ hr8) rfl rfl (.cons rfl<|.cons rfl<|.cons rfl .nil)<|wu rfl<|aA<|aC<|wu rfl<|wu rfl<|wu rfl<|aA ?_;exact bV (fun e=>ih_r02_left_l0 _ _ _ _ _ u e s _ J) (.cons rfl<|.cons rfl<|.cons rfl<|.cons rfl<|.cons rfl .nil)<|fun _ _ _ h=>h
    ·refine aC<|wu rfl<|wu rfl<|wu rfl<|wu rfl<|wu rfl<|bI (f:=aP) (l:=e1.l) rfl (.no _)<|wu rfl ?_;obtain⟨y9,hy9,u⟩:=bs u;refine bT (f:=aZ) rfl (.no _) rfl hy9 (fD _)<|wu rfl<|wu rfl<|wu rfl<|wu rfl<|wu rfl ?_;obtain⟨r10,h10,u⟩:=bs u;refine wcD (yN<|ih_r02_left _ _ _ _ h10) rfl rfl (.cons rfl<|.cons rfl<|.cons rfl .nil)<|wu rfl<|aA<|aC<|wu rfl<|wu rfl<|wu rfl<|aA ?_;exact bV (fun e=>ih_r02_left_l0 _ _ _ _ _ u e s _ J) (.cons rfl<|.cons rfl<|.cons rfl<|.cons rfl<|.cons rfl .nil)<|fun _ _ _ h=>h
   ·refine bY ?_;cases u;exact⟨rfl,_,frE<|.cons rfl .nil,rfl⟩
theorem aKE: ∀(e1:Expr)(n2:Int)(depth3:Int)(r:Int),pF e1 n2 depth3=some r→aAM e1 n2 depth3 r:=aHk.1
theorem aKT{e1:Expr}{n2:Int}{depth3:Int}{r:Int}(h:pF e1 n2 depth3=some r):Pf PP 69 [(aM e1),(.i n2),(.i depth3)] (.i r):=yN (aKE e1 n2 depth3 r h)
noncomputable def g8(e1:Expr):Option Int:=
 ((pF e1 (3000) (200))>>=fun r2=>
 (if(decide (r2<(0)))=true then some (3)
 else((g5 e1)>>=fun r3=>
 some r3)))
theorem aHy: ∀(e1:Expr)(r:Int),g8 e1=some r→ ∀s:ASt,Fc PP (.func 37) [(aM e1)] s (bW s<|.i r):=by
 intro e1 r u;unfold g8 at u;intro s;refine bD rfl rfl rfl ?_;have J:=St.clean s;generalize aU s=σ1 at J⊢;refine aB<|aC<|wu rfl<|wu rfl<|aA<|aB<|aB<|aC<|wu rfl ?_;obtain⟨r2,hr2,u⟩:=bs u;refine wcD (aKT hr2) rfl rfl (.cons rfl<|.cons rfl<|.cons rfl .nil)<|wu rfl<|aA ?_;refine aF u rfl (fun hc u=> ?_)<|fun hc u=> ?_
 ·refine aB<|aC<|wu rfl<|aA<|aK ?_;cases u;exact⟨rfl,_,fun _=>rfl,aY rfl rfl rfl rfl J.ext⟩
 ·refine aJ<|aB<|aC<|wu rfl ?_;obtain⟨r3,hr3,u⟩:=bs u;refine wcD (aD2 hr3) rfl rfl (.cons rfl .nil)<|wu rfl<|aA<|aK ?_;cases u;exact⟨rfl,_,fun _=>rfl,aY rfl rfl rfl rfl J.ext⟩
theorem aBM{e1:Expr}{r:Int}(h:g8 e1=some r):Pf PP 37 [(aM e1)] (.i r):=Pf.cB (aHy e1 r h _) rfl (.cons (cC _) .nil)
noncomputable def oY(e1:Expr)(i2:Int):Option (List Str):=
 (if(decide (i2≥(e1.l.length:Int)))=true then((idx e1.aT (IntKind.wrap .i64 (i2-(e1.l.length:Int))))>>=fun y3=>
 some y3.names)
 else(if(e1.kind==(4))=true then some e1.names
 else(if(e1.kind==(6))=true then(if(i2==(1))=true then some e1.names
 else some ([]:(List Str)))
 else(if(e1.kind==(7))=true then((cut e1.names (0) (IntKind.wrap .i64 ((2)-i2)))>>=fun l4=>
 some l4)
 else(if(e1.kind==(17))=true then((if(i2==(2))=true then some (decide ((e1.names.length:Int)>(0)))
 else some false:Option Bool)>>=fun c5=>
 (if c5=true then((cut e1.names (0) (1))>>=fun l6=>
 some l6)
 else some ([]:(List Str))))
 else some ([]:(List Str)))))))
theorem aHD: ∀(e1:Expr)(i2:Int)(r:(List Str)),oY e1 i2=some r→ ∀s:ASt,Fc PP (.func 64) [(aM e1),(.i i2)] s (bW s<|slA 1<|r.map AV.str):=by
 intro e1 i2 r u;unfold oY at u;intro s;refine bD rfl rfl rfl ?_;have J:=St.clean s;generalize aU s=σ1 at J⊢;refine aB<|aC<|wu rfl<|wu rfl<|aA<|aB<|aB<|aC<|wu rfl<|wu rfl<|wu rfl<|bI (f:=aP) (l:=e1.l) rfl (.no _)<|wu rfl<|aA ?_;refine aF u rfl (fun hc u=> ?_)<|fun hc u=> ?_
 ·refine aB<|aC<|wu rfl<|wu rfl<|wu rfl<|wu rfl<|wu rfl<|bI (f:=aP) (l:=e1.l) rfl (.no _)<|wu rfl ?_;obtain⟨y3,hy3,u⟩:=bs u;refine bT (f:=aZ) rfl (.no _) rfl hy3 (fD _)<|wu rfl<|wu rfl<|wu rfl<|aA<|aK ?_;cases u;exact⟨rfl,_,fun _=>rfl,eJ rfl (.no _) J.ext⟩
 ·refine aJ<|aB<|aB<|aC<|wu rfl<|wu rfl<|aA<|aO<|aB<|aC<|wu rfl<|wu rfl<|aA ?_;refine aF u rfl (fun hc u=> ?_)<|fun hc u=> ?_
  ·refine aB<|aC<|wu rfl<|wu rfl<|wu rfl<|aA<|aK ?_;cases u;exact⟨rfl,_,fun _=>rfl,eJ rfl (.no _) J.ext⟩
  ·refine aB<|aC<|wu rfl<|wu rfl<|aA ?_;refine aF u rfl (fun hc u=> ?_)<|fun hc u=> ?_
   ·refine aB<|aC<|wu rfl<|wu rfl<|aA ?_;refine aF u rfl (fun hc u=> ?_)<|fun hc u=> ?_
    ·refine aB<|aC<|wu rfl<|wu rfl<|wu rfl<|aA<|aK ?_;cases u;exact⟨rfl,_,fun _=>rfl,eJ rfl (.no _) J.ext⟩
    ·refine aJ<|aB<|aC<|wu rfl<|aA<|aK ?_;cases u;exact⟨rfl,_,fun _=>rfl,eJ rfl (.full<|.inr rfl) J.ext⟩
   ·refine aB<|aC<|wu rfl<|wu rfl<|aA ?_;refine aF u rfl (fun hc u=> ?_)<|fun hc u=> ?_
    ·refine aB<|aC<|wu rfl<|wu rfl<|wu rfl<|wu rfl ?_;obtain⟨l4,hl4,u⟩:=bs u;refine rA (f:=AV.str) (lo':=(0)) (hi':=(IntKind.wrap .i64<|(2)-i2)) rfl (.no _) (.inl ⟨rfl,rfl⟩) (.inr ⟨_,rfl⟩) (by rfl) hl4 ?_;refine wu rfl<|aA<|aK ?_;cases u;exact⟨rfl,_,fun _=>rfl,eJ rfl (.no _) J.ext⟩
    ·refine aB<|aC<|wu rfl<|wu rfl<|aA ?_;refine aF u rfl (fun hc u=> ?_)<|fun hc u=> ?_
     ·refine aB<|aC<|wu rfl<|wu rfl<|wu rfl ?_;obtain⟨c5,hc5,u⟩:=bs u;refine aW 5 [(2,(.aG (aM e1) 0)),(48,(.bool c5))] σ1 ?_<|fun e=> ?_
      ·refine aX (t:=43) rfl (fun hc=> ?_)<|fun hc=> ?_
       ·replace hc5:=bE hc hc5;refine wu rfl<|wu rfl<|bI (f:=AV.str) (l:=e1.names) rfl (.no _)<|wu rfl<|wu rfl<|aA ?_;cases hc5;exact Kept.mk rfl<|.cons rfl<|.cons rfl .nil
       ·replace hc5:=bC hc hc5;refine wu rfl<|wu rfl<|wu rfl<|wu rfl<|wu rfl<|aA ?_;cases hc5;exact Kept.mk rfl<|.cons rfl<|.cons rfl .nil
      ·refine aA ?_;refine aF u rfl (fun hc u=> ?_)<|fun hc u=> ?_
       ·refine aB<|aC<|wu rfl<|wu rfl ?_;obtain⟨l6,hl6,u⟩:=bs u;refine rA (f:=AV.str) (lo':=(0)) (hi':=(1)) rfl (.no _) (.inl ⟨rfl,rfl⟩) (.inr ⟨_,rfl⟩) (by rfl) hl6 ?_;refine wu rfl<|aA<|aK ?_;cases u;exact⟨rfl,_,fun _=>rfl,eJ rfl (.no _) J.ext⟩
       ·refine aJ<|aB<|aC<|wu rfl<|aA<|aK ?_;cases u;exact⟨rfl,_,fun _=>rfl,eJ rfl (.full<|.inr rfl) J.ext⟩
     ·refine aJ<|aB<|aC<|wu rfl<|aA<|aK ?_;cases u;exact⟨rfl,_,fun _=>rfl,eJ rfl (.full<|.inr rfl) J.ext⟩
theorem xA{e1:Expr}{i2:Int}{r:(List Str)}(h:oY e1 i2=some r):Pf PP 64 [(aM e1),(.i i2)] (slA 1<|r.map AV.str):=Pf.cB (aHD e1 i2 r h _) (iC (fun _=>rfl) _) (.cons (cC _)<|.cons ⟨rfl,rfl⟩ .nil)
noncomputable def mR(m2:(List Str))(l3:(List Str))(i4:Int)(o7:(List Str))(done8:Bool)(k9:Int):Option ((List Str)×Bool):=
 (if(decide (k9<(l3.length:Int)))=true then((if(!done8)=true then((idx m2 i4)>>=fun y11=>
 ((idx l3 k9)>>=fun y12=>
 some (Op.bytesLess y11 y12)))
 else some false:Option Bool)>>=fun c10=>
 (((if c10=true then((idx m2 i4)>>=fun y14=>
 ((app 16 o7 [y14])>>=fun l15=>
 some (l15,true)))
 else some (o7,done8)):Option ((List Str)×Bool))>>=fun o13=>
 ((idx l3 k9)>>=fun y20=>
 ((app 16 o13.1 [y20])>>=fun l21=>
 mR (nf m2) (nf l3) (nf i4) l21 o13.2 (IntKind.wrap .i64 (k9+(1)))))))
 else some (o7,done8))
 partial_fixpoint
abbrev aBL(m2:(List Str))(l3:(List Str))(i4:Int)(o7:(List Str))(done8:Bool)(k9:Int)(o:((List Str)×Bool)):Prop:= ∀(e:Env)(s sv:ASt)(ow1_1:AV)(ow0_1:AV),Sl 1 ow1_1 (l3.map AV.str)→St [] [] s sv [] [(ow0_1,1,(o7.map AV.str))]→Wk PP none Code.aQP ⟨bB e [(0,ow1_1),(1,(slA 1<|m2.map AV.str)),(5,(.i i4)),(6,ow0_1),(7,(.bool done8)),(8,(.i k9))],[]⟩ sv (fun ex fr s'=>ex= .exit 2∧ ∃(pw1:AV)(e:Env),fr=⟨bB e [(1,(slA 1<|m2.map AV.str)),(5,(.i i4)),(6,pw1),(7,(.bool o.2))],[]⟩∧St [] [] s s' [] [(pw1,1,(o.1.map AV.str))])
theorem aFR: ∀(m2:(List Str))(l3:(List Str))(i4:Int)(o7:(List Str))(done8:Bool)(k9:Int)(o:((List Str)×Bool)),mR m2 l3 i4 o7 done8 k9=some o→aBL m2 l3 i4 o7 done8 k9 o:=by
 refine mR.partial_correctness (aBL) ?_;intro _f ih_r03_add_l0 m2 l3 i4 o7 done8 k9 o u;intro e s sv ow1_1 ow0_1 how1_1 J;refine bM<|aB<|aB<|aC<|wu rfl<|wv rfl<|bI (f:=AV.str) (l:=l3) rfl how1_1<|wu rfl<|aA ?_;refine aF u rfl (fun hc u=> ?_)<|fun hc u=> ?_
 ·refine aJ<|aB<|aO<|aB<|aB<|aC<|wu rfl<|wu rfl<|wu rfl ?_;obtain⟨c10,h10,u⟩:=bs u;refine aW 10 [(0,ow1_1),(1,(slA 1<|m2.map AV.str)),(5,(.i i4)),(6,ow0_1),(7,(.bool done8)),(8,(.i k9)),(39,(.bool c10))] sv ?_<|fun e=> ?_
  ·refine aX (t:=29) rfl (fun hc=> ?_)<|fun hc=> ?_
   ·replace h10:=bE hc h10;refine wu rfl<|wu rfl ?_;obtain⟨y11,h11,h10⟩:=bs h10;refine bT (f:=AV.str) rfl (.no _) rfl h11 rfl<|wu rfl<|wv rfl<|wu rfl ?_;obtain⟨y12,h12,h10⟩:=bs h10;refine bT (f:=AV.str) rfl how1_1 rfl h12 rfl<|wu rfl<|wu rfl<|wu rfl<|aA ?_;cases h10;exact Kept.mk rfl<|.cons rfl<|.cons rfl<|.cons rfl<|.cons rfl<|.cons rfl<|.cons rfl<|.cons rfl .nil
   ·replace h10:=bC hc h10;refine wu rfl<|wu rfl<|wu rfl<|wu rfl<|wu rfl<|wu rfl<|wu rfl<|wu rfl<|wu rfl<|wu rfl<|aA ?_;cases h10;exact Kept.mk rfl<|.cons rfl<|.cons rfl<|.cons rfl<|.cons rfl<|.cons rfl<|.cons rfl<|.cons rfl .nil
  ·refine aA ?_;obtain⟨o13,h13,u⟩:=bs u;refine Wk.mono (Q:=fun ex fr s'=>ex= .normal∧ ∃(pw1:AV)(e:Env),fr=⟨bB e [(0,ow1_1),(1,(slA 1<|m2.map AV.str)),(5,(.i i4)),(6,pw1),(7,(.bool o13.2)),(8,(.i k9))],[]⟩∧St [] [] s s' [] [(pw1,1,(o13.1.map AV.str))]) ?_ ?_
   ·refine aF h13 rfl (fun hc h13=> ?_)<|fun hc h13=> ?_
    ·refine aB<|aC<|wv rfl<|wu rfl<|wu rfl ?_;obtain⟨y14,h14,h13⟩:=bs h13;refine bT (f:=AV.str) rfl (.no _) rfl h14 rfl<|wu rfl ?_;refine mJ (f:=AV.str) (l:= [y14]) rfl (.cons rfl .nil) rfl (fun _=>rfl) rfl rfl (by decide) ?_;obtain⟨l15,h15,h13⟩:=bs h13;refine wF (f:=AV.str) (xs:=o7) (ys:= [y14]) rfl J rfl (.full<|.inl rfl) h15 (by decide)<|fun w15 σ16 J=> ?_;refine wv rfl<|aA<|aC<|wu rfl<|aA ?_;cases h13;exact⟨rfl,w15,_,frE<|.cons rfl<|.cons rfl<|.cons rfl<|.cons rfl<|.cons rfl<|.cons rfl .nil,J⟩
    ·refine aJ ?_;cases h13;exact⟨rfl,ow0_1,_,frE<|.cons rfl<|.cons rfl<|.cons rfl<|.cons rfl<|.cons rfl<|.cons rfl .nil,J⟩
   ·rintro _ _ _ hq
    obtain⟨rfl,w17_1,e18,rfl,J⟩:=hq;refine aC<|wv rfl<|wv rfl<|wu rfl ?_;obtain⟨y20,h20,u⟩:=bs u;refine bT (f:=AV.str) rfl how1_1 rfl h20 rfl<|wu rfl ?_;refine mJ (f:=AV.str) (l:= [y20]) rfl (.cons rfl .nil) rfl (fun _=>rfl) rfl rfl (by decide) ?_;obtain⟨l21,h21,u⟩:=bs u;refine wF (f:=AV.str) (xs:=o13.1) (ys:= [y20]) rfl J rfl (.full<|.inl rfl) h21 (by decide)<|fun w21 σ22 J=> ?_;refine wv rfl<|aA<|aC<|wu rfl<|wu rfl<|wu rfl<|aA ?_;exact bV (fun e=>ih_r03_add_l0 _ _ _ _ _ _ _ u e s _ ow1_1 w21 how1_1 J) (.cons rfl<|.cons rfl<|.cons rfl<|.cons rfl<|.cons rfl<|.cons rfl .nil)<|fun _ _ _ h=>h
 ·refine bY ?_;cases u;exact⟨rfl,ow0_1,_,frE<|.cons rfl<|.cons rfl<|.cons rfl<|.cons rfl .nil,J⟩
noncomputable def kE(m2:(List Str))(l3:(List Str))(i4:Int):Option (List Str):=
 (if(decide (i4<(m2.length:Int)))=true then((idx m2 i4)>>=fun y5=>
 ((j0 l3 y5)>>=fun r6=>
 (if r6=true then kE (nf m2) (nf l3) (IntKind.wrap .i64 (i4+(1)))
 else((mR m2 l3 i4 ([]:(List Str)) false (0))>>=fun o23=>
 (if(!o23.2)=true then((idx m2 i4)>>=fun y27=>
 ((app 16 o23.1 [y27])>>=fun l28=>
 kE (nf m2) l28 (IntKind.wrap .i64 (i4+(1)))))
 else kE (nf m2) o23.1 (IntKind.wrap .i64 (i4+(1))))))))
 else some l3)
 partial_fixpoint
abbrev aB1(m2:(List Str))(l3:(List Str))(i4:Int)(o:(List Str)):Prop:= ∀(e:Env)(s sv:ASt)(ow1_1:AV),Sl 1 ow1_1 (l3.map AV.str)→St [] [] s sv [] []→Wk PP none Code.aPB ⟨bB e [(0,ow1_1),(1,(slA 1<|m2.map AV.str)),(5,(.i i4))],[]⟩ sv (fun ex fr s'=>ex= .exit 0∧ ∃(pw1:AV)(e:Env),fr=⟨bB e [(0,pw1)],[]⟩∧Sl 1 pw1 (o.map AV.str)∧St [] [] s s' [] [])
theorem aFH: ∀(m2:(List Str))(l3:(List Str))(i4:Int)(o:(List Str)),kE m2 l3 i4=some o→aB1 m2 l3 i4 o:=by
 refine kE.partial_correctness (aB1) ?_;intro _f ih_r03_add_l1 m2 l3 i4 o u;intro e s sv ow1_1 how1_1 J;refine bM<|aB<|aB<|aC<|wu rfl<|wu rfl<|bI (f:=AV.str) (l:=m2) rfl (.no _)<|wu rfl<|aA ?_;refine aF u rfl (fun hc u=> ?_)<|fun hc u=> ?_
 ·refine aJ<|aB<|aO<|aB<|aB<|aC<|wv rfl<|wu rfl<|wu rfl ?_;obtain⟨y5,hy5,u⟩:=bs u;refine bT (f:=AV.str) rfl (.no _) rfl hy5 rfl<|wu rfl ?_;obtain⟨r6,hr6,u⟩:=bs u;refine wcD (iA hr6) rfl rfl (.cons (how1_1).fix<|.cons rfl .nil)<|aA ?_;refine aF u rfl (fun hc u=> ?_)<|fun hc u=> ?_
  ·refine bY<|aC<|wu rfl<|wu rfl<|wu rfl<|aA ?_;exact bV (fun e=>ih_r03_add_l1 _ _ _ _ u e s _ ow1_1 how1_1 J) (.cons rfl<|.cons rfl<|.cons rfl .nil)<|fun _ _ _ h=>h
  ·refine aJ<|aB<|aC<|wu rfl<|aA<|aB<|aC<|wu rfl<|aA<|aB<|aB<|aC<|wu rfl<|aA ?_;refine aO ?_;obtain⟨o23,h23,u⟩:=bs u;have J:=J.nil 0 1;refine bV (fun e=>aFR _ _ _ _ _ _ _ h23 e s _ ow1_1 (.slice 0 (([]:(List Str)).map AV.str) .full) how1_1 J) (.cons rfl<|.cons rfl<|.cons rfl<|.cons rfl<|.cons rfl<|.cons rfl .nil) ?_
   rintro _ _ _ hq
   obtain⟨rfl,w24_1,e25,rfl,J⟩:=hq;refine aB<|aB<|aC<|wu rfl<|wu rfl<|aA ?_;refine aF u rfl (fun hc u=> ?_)<|fun hc u=> ?_
   ·refine aC<|wv rfl<|wu rfl<|wu rfl ?_;obtain⟨y27,h27,u⟩:=bs u;refine bT (f:=AV.str) rfl (.no _) rfl h27 rfl<|wu rfl ?_;refine mJ (f:=AV.str) (l:= [y27]) rfl (.cons rfl .nil) rfl (fun _=>rfl) rfl rfl (by decide) ?_;obtain⟨l28,h28,u⟩:=bs u;refine wF (f:=AV.str) (xs:=o23.1) (ys:= [y27]) rfl J rfl (.full<|.inl rfl) h28 (by decide)<|fun w28 σ29 J=> ?_;refine wv rfl<|aA<|aC<|wv rfl<|wv rfl<|aA<|aC<|wu rfl<|wu rfl<|wu rfl<|aA ?_;exact bV (fun e=>ih_r03_add_l1 _ _ _ _ u e s _ w28 (J.slG 0 rfl) (J.aSZ 0)) (.cons rfl<|.cons rfl<|.cons rfl .nil)<|fun _ _ _ h=>h
   ·refine aJ<|aC<|wv rfl<|wv rfl<|aA<|aC<|wu rfl<|wu rfl<|wu rfl<|aA ?_;exact bV (fun e=>ih_r03_add_l1 _ _ _ _ u e s _ w24_1 (J.slG 0 rfl) (J.aSZ 0)) (.cons rfl<|.cons rfl<|.cons rfl .nil)<|fun _ _ _ h=>h
 ·refine bY ?_;cases u;exact⟨rfl,ow1_1,_,frE<|.cons rfl .nil,how1_1,J⟩
noncomputable def zZ(l1:(List Str))(m2:(List Str)):Option (List Str):=
 ((kE m2 l1 (0))>>=fun o30=>
 some o30)
theorem aLP: ∀(l1:(List Str))(m2:(List Str))(r:(List Str)),zZ l1 m2=some r→ ∀s:ASt,Fc PP (.func 203) [(slA 1<|l1.map AV.str),(slA 1<|m2.map AV.str)] s (bW s<|slA 1<|r.map AV.str):=by
 intro l1 m2 r u;unfold zZ at u;intro s;refine bD rfl rfl rfl ?_;have J:=St.clean s;generalize aU s=σ1 at J⊢;refine aB<|aC<|wu rfl<|aA<|aB<|aB<|aC<|wu rfl<|aA<|aO ?_;obtain⟨o30,h30,u⟩:=bs u;refine bV (fun e=>aFH _ _ _ _ h30 e s _ (slA 1<|l1.map AV.str) (.no _) J) (.cons rfl<|.cons rfl<|.cons rfl .nil) ?_
 rintro _ _ _ hq
 obtain⟨rfl,w31_1,e32,rfl,hw31_1,J⟩:=hq;refine aB<|aC<|wv rfl<|wv rfl<|aA<|aK ?_;cases u;exact⟨rfl,_,fun _=>rfl,eJ rfl hw31_1 J.ext⟩
theorem aMa{l1:(List Str)}{m2:(List Str)}{r:(List Str)}(h:zZ l1 m2=some r):Pf PP 203 [(slA 1<|l1.map AV.str),(slA 1<|m2.map AV.str)] (slA 1<|r.map AV.str):=Pf.cB (aLP l1 m2 r h _) (iC (fun _=>rfl) _) (.cons (j9<|cV (fun _=>rfl) _)<|.cons (j9<|cV (fun _=>rfl) _) .nil)
noncomputable def jY(l2:(List Str))(l3:(List Str))(i4:Int):Option (List Str):=
 (if(decide (i4<(l2.length:Int)))=true then((idx l2 i4)>>=fun y5=>
 ((oR l3 y5)>>=fun r6=>
 jY (nf l2) r6 (IntKind.wrap .i64 (i4+(1)))))
 else some l3)
 partial_fixpoint
abbrev yE(l2:(List Str))(l3:(List Str))(i4:Int)(o:(List Str)):Prop:= ∀(e:Env)(s sv:ASt)(ow0_1:AV),Sl 1 ow0_1 (l3.map AV.str)→St [] [] s sv [] []→Wk PP none Code.aO9 ⟨bB e [(0,ow0_1),(1,(slA 1<|l2.map AV.str)),(5,(.i i4))],[]⟩ sv (fun ex fr s'=>ex= .exit 0∧ ∃(pw1:AV)(e:Env),fr=⟨bB e [(0,pw1)],[]⟩∧Sl 1 pw1 (o.map AV.str)∧sv=s')
theorem aDy: ∀(l2:(List Str))(l3:(List Str))(i4:Int)(o:(List Str)),jY l2 l3 i4=some o→yE l2 l3 i4 o:=by
 refine jY.partial_correctness (yE) ?_;intro _f ih_r03_minus_l0 l2 l3 i4 o u;intro e s sv ow0_1 how0_1 J;refine bM<|aB<|aB<|aC<|wu rfl<|wu rfl<|bI (f:=AV.str) (l:=l2) rfl (.no _)<|wu rfl<|aA ?_;refine aF u rfl (fun hc u=> ?_)<|fun hc u=> ?_
 ·refine aJ<|aB<|aO<|aC<|wv rfl<|wu rfl<|wu rfl ?_;obtain⟨y5,hy5,u⟩:=bs u;refine bT (f:=AV.str) rfl (.no _) rfl hy5 rfl<|wu rfl ?_;obtain⟨r6,hr6,u⟩:=bs u;refine wcD (aEz hr6) rfl rfl (.cons (how0_1).fix<|.cons rfl .nil)<|wu rfl<|aA<|aC<|wu rfl<|wu rfl<|wu rfl<|aA ?_;exact bV (fun e=>ih_r03_minus_l0 _ _ _ _ u e s _ (slA 1<|r6.map AV.str) (.no _) J) (.cons rfl<|.cons rfl<|.cons rfl .nil)<|fun _ _ _ h=>h
 ·refine bY ?_;cases u;exact⟨rfl,ow0_1,_,frE<|.cons rfl .nil,how0_1,rfl⟩
noncomputable def tB(l1:(List Str))(l2:(List Str)):Option (List Str):=
 ((jY l2 l1 (0))>>=fun o7=>
 some o7)
theorem aG3: ∀(l1:(List Str))(l2:(List Str))(r:(List Str)),tB l1 l2=some r→ ∀s:ASt,Fc PP (.func 204) [(slA 1<|l1.map AV.str),(slA 1<|l2.map AV.str)] s (bW s<|slA 1<|r.map AV.str):=by
 intro l1 l2 r u;unfold tB at u;intro s;refine bD rfl rfl rfl ?_;have J:=St.clean s;generalize aU s=σ1 at J⊢;refine aB<|aC<|wu rfl<|aA<|aB<|aB<|aC<|wu rfl<|aA<|aO ?_;obtain⟨o7,ho7,u⟩:=bs u;refine bV (fun e=>aDy _ _ _ _ ho7 e s _ (slA 1<|l1.map AV.str) (.no _) J) (.cons rfl<|.cons rfl<|.cons rfl .nil) ?_
 rintro _ _ _ hq
 obtain⟨rfl,w8_1,e9,rfl,hw8_1,rfl⟩:=hq;refine aB<|aC<|wv rfl<|wv rfl<|aA<|aK ?_;cases u;exact⟨rfl,_,fun _=>rfl,eJ rfl hw8_1 J.ext⟩
theorem aGR{l1:(List Str)}{l2:(List Str)}{r:(List Str)}(h:tB l1 l2=some r):Pf PP 204 [(slA 1<|l1.map AV.str),(slA 1<|l2.map AV.str)] (slA 1<|r.map AV.str):=Pf.cB (aG3 l1 l2 r h _) (iC (fun _=>rfl) _) (.cons (j9<|cV (fun _=>rfl) _)<|.cons (j9<|cV (fun _=>rfl) _) .nil)
noncomputable def mT(e1:Expr):Option Str:=
 ((if(e1.kind==(0))=true then some true
 else some (e1.kind==(18)):Option Bool)>>=fun c2=>
 ((if c2=true then some true
 else some (e1.kind==(19)):Option Bool)>>=fun c3=>
 (if c3=true then some e1.s
 else some ([]:Str))))
theorem aFJ: ∀(e1:Expr)(r:Str),mT e1=some r→ ∀s:ASt,Fc PP (.func 62) [(aM e1)] s (bW s<|.str r):=by
 intro e1 r u;unfold mT at u;intro s;refine bD rfl rfl rfl ?_;have J:=St.clean s;generalize aU s=σ1 at J⊢;refine aB<|aC<|wu rfl<|wu rfl<|aA<|aB<|aB<|aC<|wu rfl<|wu rfl<|wu rfl<|wu rfl ?_;obtain⟨c2,hc2,u⟩:=bs u;refine aW 4 [(1,(.aG (aM e1) 0)),(10,(.bool c2))] σ1 ?_<|fun e=> ?_
 ·refine aX (t:=6) rfl (fun hc=> ?_)<|fun hc=> ?_
  ·replace hc2:=bE hc hc2;refine wu rfl<|wu rfl<|wu rfl<|wu rfl<|aA ?_;cases hc2;exact Kept.mk rfl<|.cons rfl<|.cons rfl .nil
  ·replace hc2:=bC hc hc2;refine wu rfl<|wu rfl<|wu rfl<|wu rfl<|aA ?_;cases hc2;exact Kept.mk rfl<|.cons rfl<|.cons rfl .nil
 ·refine wu rfl ?_;obtain⟨c3,hc3,u⟩:=bs u;refine aW 4 [(1,(.aG (aM e1) 0)),(15,(.bool c3))] σ1 ?_<|fun e=> ?_
  ·refine aX (t:=11) rfl (fun hc=> ?_)<|fun hc=> ?_
   ·replace hc3:=bE hc hc3;refine wu rfl<|wu rfl<|wu rfl<|wu rfl<|aA ?_;cases hc3;exact Kept.mk rfl<|.cons rfl<|.cons rfl .nil
   ·replace hc3:=bC hc hc3;refine wu rfl<|wu rfl<|wu rfl<|wu rfl<|aA ?_;cases hc3;exact Kept.mk rfl<|.cons rfl<|.cons rfl .nil
  ·refine aA ?_;refine aF u rfl (fun hc u=> ?_)<|fun hc u=> ?_
   ·refine aB<|aC<|wu rfl<|wu rfl<|wu rfl<|aA<|aK ?_;cases u;exact⟨rfl,_,fun _=>rfl,aY rfl rfl rfl rfl J.ext⟩
   ·refine aJ<|aB<|aC<|wu rfl<|aA<|aK ?_;cases u;exact⟨rfl,_,fun _=>rfl,aY rfl rfl rfl rfl J.ext⟩
theorem uZ{e1:Expr}{r:Str}(h:mT e1=some r):Pf PP 62 [(aM e1)] (.str r):=Pf.cB (aFJ e1 r h _) rfl (.cons (cC _) .nil)
mutual
noncomputable def mQ (e1:Expr):Option (List Str):=
 ((mT e1)>>=fun r2=>
 (((if(!(r2==([]:Str)))=true then some [r2]
 else some ([]:(List Str))):Option (List Str))>>=fun o3=>
 ((kU e1)>>=fun r6=>
 ((iS e1 r6 o3 (0))>>=fun o14=>
 some o14))))
 partial_fixpoint
noncomputable def iS (e1:Expr) (r6:(List Expr)) (o7:(List Str)) (i8:Int):Option (List Str):=
 (if(decide (i8<(r6.length:Int)))=true then((idx r6 i8)>>=fun y9=>
 ((mQ (nf y9))>>=fun r10=>
 ((oY e1 i8)>>=fun r11=>
 ((tB r10 r11)>>=fun r12=>
 ((zZ o7 r12)>>=fun r13=>
 iS (nf e1) (nf r6) r13 (IntKind.wrap .i64 (i8+(1))))))))
 else some o7)
 partial_fixpoint
end
abbrev wJ(e1:Expr)(r:(List Str)):Prop:= ∀s:ASt,Fc PP (.func 174) [(aM e1)] s (bW s<|slA 1<|r.map AV.str)
abbrev xP(e1:Expr)(r6:(List Expr))(o7:(List Str))(i8:Int)(o:(List Str)):Prop:= ∀(e:Env)(s sv:ASt)(ow0_1:AV),Sl 1 ow0_1 (o7.map AV.str)→St [] [] s sv [] []→Wk PP none Code.aQc ⟨bB e [(1,(.aG (aM e1) 0)),(3,ow0_1),(5,(slA 7<|r6.map aP)),(6,(.i i8))],[]⟩ sv (fun ex fr s'=>ex= .exit 0∧ ∃(pw1:AV)(e:Env),fr=⟨bB e [(3,pw1)],[]⟩∧Sl 1 pw1 (o.map AV.str)∧sv=s')
theorem aAs{e1:Expr}{r:(List Str)}(h: ∀s:ASt,Fc PP (.func 174) [(aM e1)] s<|bW s<|slA 1<|r.map AV.str):Pf PP 174 [(aM e1)] (slA 1<|r.map AV.str):=Pf.cB (h _) (iC (fun _=>rfl) _) (.cons (cC _) .nil)
theorem aEh:(∀(e1:Expr)(r:(List Str)),mQ e1=some r→wJ e1 r)∧
  (∀(e1:Expr)(r6:(List Expr))(o7:(List Str))(i8:Int)(o:(List Str)),iS e1 r6 o7 i8=some o→xP e1 r6 o7 i8 o):=by
 refine mQ.mutual_partial_correctness wJ xP ?_ ?_
 ·intro _f0 ih_r03_FreeOf_l0 e1 r u;intro s;refine bD rfl rfl rfl ?_;have J:=St.clean s;generalize aU s=σ1 at J⊢;refine aB<|aC<|wu rfl<|wu rfl<|aA<|aB<|aC<|wu rfl<|aA<|aB<|aB<|aC<|wu rfl ?_;obtain⟨r2,hr2,u⟩:=bs u;refine wcD (uZ hr2) rfl rfl (.cons rfl .nil)<|wu rfl<|aA<|aB<|aC<|wu rfl<|wu rfl<|aA ?_;obtain⟨o3,ho3,u⟩:=bs u;refine Wk.mono (Q:=fun ex fr s'=>ex= .normal∧ ∃(pw1:AV)(e:Env),fr=⟨bB e [(1,(.aG (aM e1) 0)),(3,pw1)],[]⟩∧Sl 1 pw1 (o3.map AV.str)∧σ1=s') ?_ ?_
  ·refine aF ho3 rfl (fun hc ho3=> ?_)<|fun hc ho3=> ?_
   ·refine aC<|wu rfl ?_;refine mJ (f:=AV.str) (l:= [r2]) rfl (.cons rfl .nil) rfl (fun _=>rfl) rfl rfl (by decide) ?_;refine wu rfl<|aA ?_;cases ho3;exact⟨rfl,(.slice 1 ([r2].map AV.str) .full),_,frE<|.cons rfl<|.cons rfl .nil,(.full<|.inl rfl),rfl⟩
   ·refine aJ ?_;cases ho3;exact⟨rfl,(.slice 0 (([]:(List Str)).map AV.str) .full),_,frE<|.cons rfl<|.cons rfl .nil,(.full<|.inr rfl),rfl⟩
  ·rintro _ _ _ hq
   obtain⟨rfl,w4_1,e5,rfl,hw4_1,rfl⟩:=hq;refine aB<|aC<|wu rfl ?_;obtain⟨r6,hr6,u⟩:=bs u;refine wcD (nG hr6) rfl rfl (.cons rfl .nil)<|wu rfl<|aA<|aB<|aB<|aC<|wu rfl<|aA<|aO ?_;obtain⟨o14,h14,u⟩:=bs u;refine bV (fun e=>ih_r03_FreeOf_l0 _ _ _ _ _ h14 e s _ w4_1 hw4_1 J) (.cons rfl<|.cons rfl<|.cons rfl<|.cons rfl .nil) ?_
   rintro _ _ _ hq
   obtain⟨rfl,w15_1,e16,rfl,hw15_1,rfl⟩:=hq;refine aB<|aC<|wv rfl<|wv rfl<|aA<|aK ?_;cases u;exact⟨rfl,_,fun _=>rfl,eJ rfl hw15_1 J.ext⟩
 ·intro _f0 _f1 ih_r03_FreeOf ih_r03_FreeOf_l0 e1 r6 o7 i8 o u;intro e s sv ow0_1 how0_1 J;refine bM<|aB<|aB<|aC<|wu rfl<|wu rfl<|bI (f:=aP) (l:=r6) rfl (.no _)<|wu rfl<|aA ?_;refine aF u rfl (fun hc u=> ?_)<|fun hc u=> ?_
  ·refine aJ<|aB<|aO<|aC<|wv rfl<|wu rfl<|wu rfl ?_;obtain⟨y9,hy9,u⟩:=bs u;refine bT (f:=aP) rfl (.no _) rfl hy9 (bN _)<|wu rfl ?_;obtain⟨r10,h10,u⟩:=bs u;refine wcD (aAs<|ih_r03_FreeOf _ _ h10) rfl rfl (.cons rfl .nil)<|wu rfl<|wu rfl ?_;obtain⟨r11,h11,u⟩:=bs u;refine wcD (xA h11) rfl rfl (.cons rfl<|.cons rfl .nil) ?_;obtain⟨r12,h12,u⟩:=bs u;refine wcD (aGR h12) rfl rfl (.cons rfl<|.cons rfl .nil) ?_;obtain⟨r13,h13,u⟩:=bs u;refine wcD (aMa h13) rfl rfl (.cons (how0_1).fix<|.cons rfl .nil)<|wu rfl<|aA<|aC<|wu rfl<|wu rfl<|wu rfl<|aA ?_;exact bV (fun e=>ih_r03_FreeOf_l0 _ _ _ _ _ u e s _ (slA 1<|r13.map AV.str) (.no _) J) (.cons rfl<|.cons rfl<|.cons rfl<|.cons rfl .nil)<|fun _ _ _ h=>h
  ·refine bY ?_;cases u;exact⟨rfl,ow0_1,_,frE<|.cons rfl .nil,how0_1,rfl⟩
theorem aFU: ∀(e1:Expr)(r:(List Str)),mQ e1=some r→wJ e1 r:=aEh.1
theorem aFt{e1:Expr}{r:(List Str)}(h:mQ e1=some r):Pf PP 174 [(aM e1)] (slA 1<|r.map AV.str):=aAs (aFU e1 r h)
noncomputable def oS(p2:(List Int))(i7:Int)(e8:Expr):Option (Ctl (Expr×Bool) Expr):=
 (if(decide (i7<(p2.length:Int)))=true then((kU e8)>>=fun r9=>
 ((idx p2 i7)>>=fun y10=>
 ((u4 y10 (0) (IntKind.wrap .i64 ((r9.length:Int)-(1))))>>=fun r11=>
 (if(!r11)=true then some (.ret ((Expr.mk (0) (0) ([]:Str) ([]:Str) ([]:(List Str)) ([]:(List Expr)) ([]:(List Arm))),false))
 else((idx p2 i7)>>=fun y13=>
 ((idx r9 y13)>>=fun y14=>
 oS (nf p2) (IntKind.wrap .i64 (i7+(1))) y14))))))
 else some (.nx e8))
 partial_fixpoint
abbrev aCX(p2:(List Int))(i7:Int)(e8:Expr)(o:(Ctl (Expr×Bool) Expr)):Prop:= ∀(e:Env)(s sv:ASt)(β5:Nat)(β3:Nat),St [] [] s sv [(β5,.cells [(.i<|0),(.i<|0),(.str ([]:Str)),(.str ([]:Str)),(.slice 0 (([]:(List Str)).map AV.str) .full),(.slice 0 (([]:(List Expr)).map aP) .full),(.slice 0 (([]:(List Arm)).map aZ) .full)] true),(β3,.cells [(.i e8.kind),(.i e8.n),(.str e8.s),(.str e8.t),(slA 1<|e8.names.map AV.str),(slA 7<|e8.l.map aP),(slA 9<|e8.aT.map aZ)] true)] []→Wk PP none Code.aTe ⟨bB e [(1,(slA 1<|p2.map<|AV.i)),(2,(.ptr β3 0)),(4,(.ptr β5 0)),(6,(.i i7))],[]⟩ sv (fun ex fr s'=>(match o with| .ret oq0=>ex= .ret∧nQ PP Code.c32 (VQ (.tuple [(aM oq0.1),(.bool oq0.2)])<|Ext [] [] s) ex fr s'| .nx oq1=>ex= .exit 0∧ ∃(e:Env),fr=⟨bB e [(2,(.ptr β3 0)),(4,(.ptr β5 0))],[]⟩∧St [] [] s s' [(β5,.cells [(.i<|0),(.i<|0),(.str ([]:Str)),(.str ([]:Str)),(.slice 0 (([]:(List Str)).map AV.str) .full),(.slice 0 (([]:(List Expr)).map aP) .full),(.slice 0 (([]:(List Arm)).map aZ) .full)] true),(β3,.cells [(.i oq1.kind),(.i oq1.n),(.str oq1.s),(.str oq1.t),(slA 1<|oq1.names.map AV.str),(slA 7<|oq1.l.map aP),(slA 9<|oq1.aT.map aZ)] true)] []))
theorem aG5: ∀(p2:(List Int))(i7:Int)(e8:Expr)(o:(Ctl (Expr×Bool) Expr)),oS p2 i7 e8=some o→aCX p2 i7 e8 o:=by
 refine oS.partial_correctness (aCX) ?_;intro _f ih_r10_At_l0 p2 i7 e8 o u;intro e s sv β5 β3 J;refine bM<|aB<|aB<|aC<|wu rfl<|wu rfl<|bI (f:=(AV.i)) (l:=p2) rfl (.no _)<|wu rfl<|aA ?_;refine aF u rfl (fun hc u=> ?_)<|fun hc u=> ?_
 ·refine aJ<|aB<|aO<|aB<|aC<|aCF (us:= [(.i e8.kind),(.i e8.n),(.str e8.s),(.str e8.t),(slA 1<|e8.names.map AV.str),(slA 7<|e8.l.map aP),(slA 9<|e8.aT.map aZ)]) (ws:= [(.i e8.kind),(.i e8.n),(.str e8.s),(.str e8.t),(slA 1<|e8.names.map AV.str),(slA 7<|e8.l.map aP),(slA 9<|e8.aT.map aZ)]) 1 rfl J rfl rfl (Nat.le_of_ble_eq_true rfl) rfl (.cons rfl<|.cons rfl<|.cons rfl<|.cons rfl<|.cons rfl<|.cons rfl<|.cons rfl .nil) ?_;obtain⟨r9,hr9,u⟩:=bs u;refine wcD (nG hr9) rfl rfl (.cons rfl .nil)<|wu rfl<|aA<|aB<|aB<|aC<|wu rfl<|wu rfl ?_;obtain⟨y10,h10,u⟩:=bs u;refine bT (f:=(AV.i)) rfl (.no _) rfl h10 rfl<|wu rfl<|wu rfl<|bI (f:=aP) (l:=r9) rfl (.no _)<|wu rfl ?_;obtain⟨r11,h11,u⟩:=bs u;refine wcD (z4 h11) rfl rfl (.cons rfl<|.cons rfl<|.cons rfl .nil)<|wu rfl<|aA ?_;refine aF u rfl (fun hc u=> ?_)<|fun hc u=> ?_
  ·refine aB<|aC ?_;refine wgv (v:=(.agg [(.i<|0),(.i<|0),(.str ([]:Str)),(.str ([]:Str)),(.slice 0 (([]:(List Str)).map AV.str) .full),(.slice 0 (([]:(List Expr)).map aP) .full),(.slice 0 (([]:(List Arm)).map aZ) .full)])) rfl rfl (by kernel_rfl) ?_;refine cJ (ds':= [(.i<|0),(.i<|0),(.str ([]:Str)),(.str ([]:Str)),(.slice 0 (([]:(List Str)).map AV.str) .full),(.slice 0 (([]:(List Expr)).map aP) .full),(.slice 0 (([]:(List Arm)).map aZ) .full)]) (cs':= [(.i<|0),(.i<|0),(.str ([]:Str)),(.str ([]:Str)),(.slice 0 (([]:(List Str)).map AV.str) .full),(.slice 0 (([]:(List Expr)).map aP) .full),(.slice 0 (([]:(List Arm)).map aZ) .full)]) 0 rfl J rfl rfl rfl rfl rfl (Nat.le_of_ble_eq_true rfl) (.cons (tkN rfl)<|.cons (tkN rfl)<|.cons (tkN rfl)<|.cons (tkN rfl)<|.cons (tkN rfl)<|.cons (tkN rfl)<|.cons (tkN rfl) .nil) (by kernel_rfl)<|fun σ12 J=> ?_;refine wu rfl<|aA<|aK ?_;cases u;exact⟨rfl,⟨rfl,_,fun _=>rfl,dN (xC.eq<|.cons (z5 (us:= [(.i<|0),(.i<|0),(.str ([]:Str)),(.str ([]:Str)),(.slice 0 (([]:(List Str)).map AV.str) .full),(.slice 0 (([]:(List Expr)).map aP) .full),(.slice 0 (([]:(List Arm)).map aZ) .full)]) J 0 rfl rfl (Nat.le_of_ble_eq_true rfl) rfl<|.cons rfl<|.cons rfl<|.cons rfl<|.cons rfl<|.cons rfl<|.cons rfl<|.cons rfl .nil)<|.cons rfl .nil) (.cons rfl<|.cons rfl .nil) J.ext⟩⟩
  ·refine aJ<|aC<|wu rfl<|wu rfl<|wu rfl ?_;obtain⟨y13,h13,u⟩:=bs u;refine bT (f:=(AV.i)) rfl (.no _) rfl h13 rfl<|wu rfl ?_;obtain⟨y14,h14,u⟩:=bs u;refine bT (f:=aP) rfl (.no _) rfl h14 (bN _)<|wu rfl ?_;refine cJ (ds':= [(.i y14.kind),(.i y14.n),(.str y14.s),(.str y14.t),(slA 1<|y14.names.map AV.str),(slA 7<|y14.l.map aP),(slA 9<|y14.aT.map aZ)]) (cs':= [(.i y14.kind),(.i y14.n),(.str y14.s),(.str y14.t),(slA 1<|y14.names.map AV.str),(slA 7<|y14.l.map aP),(slA 9<|y14.aT.map aZ)]) 1 rfl J rfl rfl rfl rfl rfl (Nat.le_of_ble_eq_true rfl) (.cons (tkN rfl)<|.cons (tkN rfl)<|.cons (tkN rfl)<|.cons (tkN rfl)<|.cons (tkN rfl)<|.cons (tkN rfl)<|.cons (tkN rfl) .nil) (by kernel_rfl)<|fun σ15 J=> ?_;refine aA<|aC<|wu rfl<|wu rfl<|wu rfl<|aA ?_;have J:=J.aV 1 rfl;have J:=J.aV 1 rfl;exact bV (fun e=>ih_r10_At_l0 _ _ _ _ u e s _ β5 β3 J) (.cons rfl<|.cons rfl<|.cons rfl<|.cons rfl .nil)<|fun _ _ _ h=>h
 ·refine bY ?_;cases u;have J:=J.aV 1 rfl;have J:=J.aV 1 rfl;exact⟨rfl,_,frE<|.cons rfl<|.cons rfl .nil,J⟩
noncomputable def aCJ(e1:Expr)(p2:(List Int)):Option (Expr×Bool):=
 ((oS p2 (0) e1)>>=fun o16=>
 (match o16 with
 | .ret q17=>some q17
 | .nx q18=>some (q18,true)))
theorem aOw: ∀(e1:Expr)(p2:(List Int))(r:(Expr×Bool)),aCJ e1 p2=some r→ ∀s:ASt,Fc PP (.func 32) [(aM e1),(slA 1<|p2.map<|AV.i)] s (bW s<|.tuple [(aM r.1),(.bool r.2)]):=by
 intro e1 p2 r u;unfold aCJ at u;intro s;refine bD rfl rfl rfl ?_;have J:=St.clean s;generalize aU s=σ1 at J⊢;refine aB<|aC ?_;refine aQv (cs:= [(.i e1.kind),(.i e1.n),(.str e1.s),(.str e1.t),(slA 1<|e1.names.map AV.str),(slA 7<|e1.l.map aP),(slA 9<|e1.aT.map aZ)]) rfl J rfl rfl (.cons (tkN rfl)<|.cons (tkN rfl)<|.cons (tkN rfl)<|.cons (tkN rfl)<|.cons (tkN rfl)<|.cons (tkN rfl)<|.cons (tkN rfl) .nil)<|fun β3 σ4 J=> ?_;refine lU rfl J rfl<|fun β5 σ6 J=> ?_;refine wu rfl<|aA<|aB<|aB<|aC<|wu rfl<|aA<|aO ?_;obtain⟨o16,h16,u⟩:=bs u;have J:=J.aV 1 rfl;have J:=J.aV 1 rfl;refine bV (fun e=>aG5 _ _ _ _ h16 e s _ β5 β3 J) (.cons rfl<|.cons rfl<|.cons rfl<|.cons rfl .nil) ?_
 rintro _ _ _ hq
 rcases o16 with q17|q18
 ·obtain⟨rfl,hq⟩:=hq;cases u;exact hq
 ·obtain⟨rfl,e20,rfl,J⟩:=hq;refine aB<|aC<|aCF (us:= [(.i q18.kind),(.i q18.n),(.str q18.s),(.str q18.t),(slA 1<|q18.names.map AV.str),(slA 7<|q18.l.map aP),(slA 9<|q18.aT.map aZ)]) (ws:= [(.i q18.kind),(.i q18.n),(.str q18.s),(.str q18.t),(slA 1<|q18.names.map AV.str),(slA 7<|q18.l.map aP),(slA 9<|q18.aT.map aZ)]) 1 rfl J rfl rfl (Nat.le_of_ble_eq_true rfl) rfl (.cons rfl<|.cons rfl<|.cons rfl<|.cons rfl<|.cons rfl<|.cons rfl<|.cons rfl .nil) ?_;refine cJ (ds':= [(.i q18.kind),(.i q18.n),(.str q18.s),(.str q18.t),(slA 1<|q18.names.map AV.str),(slA 7<|q18.l.map aP),(slA 9<|q18.aT.map aZ)]) (cs':= [(.i q18.kind),(.i q18.n),(.str q18.s),(.str q18.t),(slA 1<|q18.names.map AV.str),(slA 7<|q18.l.map aP),(slA 9<|q18.aT.map aZ)]) 0 rfl J rfl rfl rfl rfl rfl (Nat.le_of_ble_eq_true rfl) (.cons (tkN rfl)<|.cons (tkN rfl)<|.cons (tkN rfl)<|.cons (tkN rfl)<|.cons (tkN rfl)<|.cons (tkN rfl)<|.cons (tkN rfl) .nil) (by kernel_rfl)<|fun σ22 J=> ?_;refine wu rfl<|aA<|aK ?_;cases u;exact⟨rfl,_,fun _=>rfl,dN (xC.eq<|.cons (z5 (us:= [(.i q18.kind),(.i q18.n),(.str q18.s),(.str q18.t),(slA 1<|q18.names.map AV.str),(slA 7<|q18.l.map aP),(slA 9<|q18.aT.map aZ)]) J 0 rfl rfl (Nat.le_of_ble_eq_true rfl) rfl<|.cons rfl<|.cons rfl<|.cons rfl<|.cons rfl<|.cons rfl<|.cons rfl<|.cons rfl .nil)<|.cons rfl .nil) (.cons rfl<|.cons rfl .nil) J.ext⟩
theorem aNP{e1:Expr}{p2:(List Int)}{r:(Expr×Bool)}(h:aCJ e1 p2=some r):Pf PP 32 [(aM e1),(slA 1<|p2.map<|AV.i)] (.tuple [(aM r.1),(.bool r.2)]):=Pf.cB (aOw e1 p2 r h _) (rW<|.cons (cC _).2<|.cons rfl<|.nil) (.cons (cC _)<|.cons (j9<|cV (fun _=>rfl) _) .nil)
noncomputable def tS(e1:Expr)(k2:Str):Option Bool:=
 ((mQ e1)>>=fun r3=>
 ((j0 r3 k2)>>=fun r4=>
 some r4))
theorem aLe: ∀(e1:Expr)(k2:Str)(r:Bool),tS e1 k2=some r→ ∀s:ASt,Fc PP (.func 124) [(aM e1),(.str k2)] s (bW s<|.bool r):=by
 intro e1 k2 r u;unfold tS at u;intro s;refine bD rfl rfl rfl ?_;have J:=St.clean s;generalize aU s=σ1 at J⊢;refine aB<|aC<|wu rfl<|wu rfl<|aA<|aB<|aC<|wu rfl ?_;obtain⟨r3,hr3,u⟩:=bs u;refine wcD (aFt hr3) rfl rfl (.cons rfl .nil)<|wu rfl ?_;obtain⟨r4,hr4,u⟩:=bs u;refine wcD (iA hr4) rfl rfl (.cons rfl<|.cons rfl .nil)<|wu rfl<|aA<|aK ?_;cases u;exact⟨rfl,_,fun _=>rfl,aY rfl rfl rfl rfl J.ext⟩
theorem aCQ{e1:Expr}{k2:Str}{r:Bool}(h:tS e1 k2=some r):Pf PP 124 [(aM e1),(.str k2)] (.bool r):=Pf.cB (aLe e1 k2 r h _) rfl (.cons (cC _)<|.cons ⟨rfl,rfl⟩ .nil)
noncomputable def iT(e1:Expr)(k2:Str)(is46:Bool)(i47:Int):Option Bool:=
 (if(decide (i47<(e1.aT.length:Int)))=true then((if is46=true then((idx e1.aT i47)>>=fun y49=>
 ((j0 y49.names k2)>>=fun r50=>
 ((if r50=true then some true
 else((idx e1.aT i47)>>=fun y52=>
 ((tS y52.body k2)>>=fun r53=>
 some (!r53))):Option Bool)>>=fun c51=>
 some c51)))
 else some false:Option Bool)>>=fun c48=>
 iT (nf e1) (nf k2) c48 (IntKind.wrap .i64 (i47+(1))))
 else some is46)
 partial_fixpoint
abbrev xJ(e1:Expr)(k2:Str)(is46:Bool)(i47:Int)(o:Bool):Prop:= ∀(e:Env)(s sv:ASt),St [] [] s sv [] []→Wk PP none Code.aTg ⟨bB e [(1,(.str k2)),(2,(.aG (aM e1) 0)),(7,(.bool is46)),(8,(.i i47))],[]⟩ sv (fun ex fr s'=>ex= .exit 3∧ ∃(e:Env),fr=⟨bB e [(7,(.bool o))],[]⟩∧sv=s')
theorem aB6: ∀(e1:Expr)(k2:Str)(is46:Bool)(i47:Int)(o:Bool),iT e1 k2 is46 i47=some o→xJ e1 k2 is46 i47 o:=by
 refine iT.partial_correctness (xJ) ?_;intro _f ih_r10_Linear_l1 e1 k2 is46 i47 o u;intro e s sv J;refine bM<|aB<|aB<|aC<|wu rfl<|wu rfl<|wu rfl<|bI (f:=aZ) (l:=e1.aT) rfl (.no _)<|wu rfl<|aA ?_;refine aF u rfl (fun hc u=> ?_)<|fun hc u=> ?_
 ·refine aJ<|aB<|aO<|aC<|wu rfl<|wu rfl ?_;obtain⟨c48,h48,u⟩:=bs u;refine aW 20 [(1,(.str k2)),(2,(.aG (aM e1) 0)),(8,(.i i47)),(162,(.bool c48))] sv ?_<|fun e=> ?_
  ·refine aX (t:=142) rfl (fun hc=> ?_)<|fun hc=> ?_
   ·replace h48:=bE hc h48
    iterate 3 refine wu rfl ?_
    obtain⟨y49,h49,h48⟩:=bs h48;refine bT (f:=aZ) rfl (.no _) rfl h49 (fD _)<|wu rfl<|wu rfl<|wu rfl ?_;obtain⟨r50,h50,h48⟩:=bs h48;refine wcD (iA h50) rfl rfl (.cons rfl<|.cons rfl .nil)<|wu rfl ?_;obtain⟨c51,h51,h48⟩:=bs h48;refine aW 10 [(1,(.str k2)),(2,(.aG (aM e1) 0)),(8,(.i i47)),(142,(.bool true)),(161,(.bool c51))] sv ?_<|fun e=> ?_
    ·refine aX (t:=151) rfl (fun hc=> ?_)<|fun hc=> ?_
     ·replace h51:=bE hc h51;refine wu rfl<|wu rfl<|wu rfl<|wu rfl<|wu rfl<|wu rfl<|wu rfl<|wu rfl<|wu rfl<|wu rfl<|aA ?_;cases h51;exact Kept.mk rfl<|.cons rfl<|.cons rfl<|.cons rfl<|.cons rfl<|.cons rfl .nil
     ·replace h51:=bC hc h51
      iterate 3 refine wu rfl ?_
      obtain⟨y52,h52,h51⟩:=bs h51;refine bT (f:=aZ) rfl (.no _) rfl h52 (fD _)<|wu rfl<|wu rfl<|wu rfl ?_;obtain⟨r53,h53,h51⟩:=bs h51;refine wcD (aCQ h53) rfl rfl (.cons rfl<|.cons rfl .nil)<|wu rfl<|wu rfl<|aA ?_;cases h51;exact Kept.mk rfl<|.cons rfl<|.cons rfl<|.cons rfl<|.cons rfl<|.cons rfl .nil
    ·refine wu rfl<|aA ?_;cases h48;exact Kept.mk rfl<|.cons rfl<|.cons rfl<|.cons rfl<|.cons rfl .nil
   ·replace h48:=bC hc h48
    iterate 20 refine wu rfl ?_
    refine aA ?_;cases h48;exact Kept.mk rfl<|.cons rfl<|.cons rfl<|.cons rfl<|.cons rfl .nil
  ·refine wu rfl<|aA<|aC<|wu rfl<|wu rfl<|wu rfl<|aA ?_;exact bV (fun e=>ih_r10_Linear_l1 _ _ _ _ _ u e s _ J) (.cons rfl<|.cons rfl<|.cons rfl<|.cons rfl .nil)<|fun _ _ _ h=>h
 ·refine bY ?_;cases u;exact⟨rfl,_,frE<|.cons rfl .nil,rfl⟩
noncomputable def vU(k1:Int):Option Bool:=
 (if(k1==(0))=true then(if(k1==(0))=true then some true
 else some false)
 else(if(k1==(1))=true then(if(k1==(1))=true then some true
 else some false)
 else(if(k1==(2))=true then(if(k1==(2))=true then some true
 else some false)
 else(if(k1==(3))=true then(if(k1==(3))=true then some true
 else some false)
 else(if(k1==(4))=true then(if(k1==(4))=true then some true
 else some false)
 else(if(k1==(6))=true then(if(k1==(6))=true then some true
 else some false)
 else(if(k1==(8))=true then(if(k1==(8))=true then some true
 else some false)
 else(if(k1==(9))=true then(if(k1==(9))=true then some true
 else some false)
 else(if(k1==(10))=true then(if(k1==(10))=true then some true
 else some false)
 else(if(k1==(11))=true then some true
 else some false))))))))))
theorem aHM: ∀(k1:Int)(r:Bool),vU k1=some r→ ∀s:ASt,Fc PP (.func 105) [(.i k1)] s (bW s<|.bool r):=by
 intro k1 r u;unfold vU at u;intro s;refine bD rfl rfl rfl ?_;have J:=St.clean s;generalize aU s=σ1 at J⊢;refine aB<|aC<|wu rfl<|aA<|aB<|aB<|aC<|wu rfl<|aA<|aO<|aB<|aB<|aC<|wu rfl ?_;refine wu rfl<|aA ?_;refine aF u rfl (fun hc u=> ?_)<|fun hc u=> ?_
 ·refine aJ ?_;refine aF u rfl (fun hc u=> ?_)<|fun hc u=> ?_
  ·refine aB<|aC<|wu rfl<|aA<|aK ?_;cases u;exact⟨rfl,_,fun _=>rfl,aY rfl rfl rfl rfl J.ext⟩
  ·refine aJ<|aB<|aC<|wu rfl<|aA<|aK ?_;cases u;exact⟨rfl,_,fun _=>rfl,aY rfl rfl rfl rfl J.ext⟩
 ·refine aB<|aC<|wu rfl<|wu rfl<|aA ?_;refine aF u rfl (fun hc u=> ?_)<|fun hc u=> ?_
  ·refine aJ ?_;refine aF u rfl (fun hc u=> ?_)<|fun hc u=> ?_
   ·refine aB<|aC<|wu rfl<|aA<|aK ?_;cases u;exact⟨rfl,_,fun _=>rfl,aY rfl rfl rfl rfl J.ext⟩
   ·refine aJ<|aB<|aC<|wu rfl<|aA<|aK ?_;cases u;exact⟨rfl,_,fun _=>rfl,aY rfl rfl rfl rfl J.ext⟩
  ·refine aB<|aC<|wu rfl<|wu rfl<|aA ?_;refine aF u rfl (fun hc u=> ?_)<|fun hc u=> ?_
   ·refine aJ ?_;refine aF u rfl (fun hc u=> ?_)<|fun hc u=> ?_
    ·refine aB<|aC<|wu rfl<|aA<|aK ?_;cases u;exact⟨rfl,_,fun _=>rfl,aY rfl rfl rfl rfl J.ext⟩
    ·refine aJ<|aB<|aC<|wu rfl<|aA<|aK ?_;cases u;exact⟨rfl,_,fun _=>rfl,aY rfl rfl rfl rfl J.ext⟩
   ·refine aB<|aC<|wu rfl<|wu rfl<|aA ?_;refine aF u rfl (fun hc u=> ?_)<|fun hc u=> ?_
    ·refine aJ ?_;refine aF u rfl (fun hc u=> ?_)<|fun hc u=> ?_
     ·refine aB<|aC<|wu rfl<|aA<|aK ?_;cases u;exact⟨rfl,_,fun _=>rfl,aY rfl rfl rfl rfl J.ext⟩
     ·refine aJ<|aB<|aC<|wu rfl<|aA<|aK ?_;cases u;exact⟨rfl,_,fun _=>rfl,aY rfl rfl rfl rfl J.ext⟩
    ·refine aB<|aC<|wu rfl<|wu rfl<|aA ?_;refine aF u rfl (fun hc u=> ?_)<|fun hc u=> ?_
     ·refine aJ ?_;refine aF u rfl (fun hc u=> ?_)<|fun hc u=> ?_
      ·refine aB<|aC<|wu rfl<|aA<|aK ?_;cases u;exact⟨rfl,_,fun _=>rfl,aY rfl rfl rfl rfl J.ext⟩
      ·refine aJ<|aB<|aC<|wu rfl<|aA<|aK ?_;cases u;exact⟨rfl,_,fun _=>rfl,aY rfl rfl rfl rfl J.ext⟩
     ·refine aB<|aC<|wu rfl<|wu rfl<|aA ?_;refine aF u rfl (fun hc u=> ?_)<|fun hc u=> ?_
      ·refine aJ ?_;refine aF u rfl (fun hc u=> ?_)<|fun hc u=> ?_
       ·refine aB<|aC<|wu rfl<|aA<|aK ?_;cases u;exact⟨rfl,_,fun _=>rfl,aY rfl rfl rfl rfl J.ext⟩
       ·refine aJ<|aB<|aC<|wu rfl<|aA<|aK ?_;cases u;exact⟨rfl,_,fun _=>rfl,aY rfl rfl rfl rfl J.ext⟩
      ·refine aB<|aC<|wu rfl<|wu rfl<|aA ?_;refine aF u rfl (fun hc u=> ?_)<|fun hc u=> ?_
       ·refine aJ ?_;refine aF u rfl (fun hc u=> ?_)<|fun hc u=> ?_
        ·refine aB<|aC<|wu rfl<|aA<|aK ?_;cases u;exact⟨rfl,_,fun _=>rfl,aY rfl rfl rfl rfl J.ext⟩
        ·refine aJ<|aB<|aC<|wu rfl<|aA<|aK ?_;cases u;exact⟨rfl,_,fun _=>rfl,aY rfl rfl rfl rfl J.ext⟩
       ·refine aB<|aC<|wu rfl<|wu rfl<|aA ?_;refine aF u rfl (fun hc u=> ?_)<|fun hc u=> ?_
        ·refine aJ ?_;refine aF u rfl (fun hc u=> ?_)<|fun hc u=> ?_
         ·refine aB<|aC<|wu rfl<|aA<|aK ?_;cases u;exact⟨rfl,_,fun _=>rfl,aY rfl rfl rfl rfl J.ext⟩
         ·refine aJ<|aB<|aC<|wu rfl<|aA<|aK ?_;cases u;exact⟨rfl,_,fun _=>rfl,aY rfl rfl rfl rfl J.ext⟩
        ·refine aB<|aC<|wu rfl<|wu rfl<|aA ?_;refine aF u rfl (fun hc u=> ?_)<|fun hc u=> ?_
         ·refine aJ ?_;refine aF u rfl (fun hc u=> ?_)<|fun hc u=> ?_
          ·refine aB<|aC<|wu rfl<|aA<|aK ?_;cases u;exact⟨rfl,_,fun _=>rfl,aY rfl rfl rfl rfl J.ext⟩
          ·refine aJ<|aB<|aC<|wu rfl<|aA<|aK ?_;cases u;exact⟨rfl,_,fun _=>rfl,aY rfl rfl rfl rfl J.ext⟩
         ·refine aC<|wu rfl<|wu rfl<|aA ?_;refine aF u rfl (fun hc u=> ?_)<|fun hc u=> ?_
          ·refine aB<|aC<|wu rfl<|aA<|aK ?_;cases u;exact⟨rfl,_,fun _=>rfl,aY rfl rfl rfl rfl J.ext⟩
          ·refine aJ<|aB<|aC<|wu rfl<|aA<|aK ?_;cases u;exact⟨rfl,_,fun _=>rfl,aY rfl rfl rfl rfl J.ext⟩
theorem aKQ{k1:Int}{r:Bool}(h:vU k1=some r):Pf PP 105 [(.i k1)] (.bool r):=Pf.cB (aHM k1 r h _) rfl (.cons ⟨rfl,rfl⟩ .nil)
noncomputable def dU(i1:Int)(p2:(List Int)):Option (List Int):=
 ((app 8 [i1] p2)>>=fun l3=>
 some l3)
theorem aHz: ∀(i1:Int)(p2:(List Int))(r:(List Int)),dU i1 p2=some r→ ∀s:ASt,Fc PP (.func 60) [(.i i1),(slA 1<|p2.map<|AV.i)] s (bW s<|slA 1<|r.map<|AV.i):=by
 intro i1 p2 r u;unfold dU at u;intro s;refine bD rfl rfl rfl ?_;have J:=St.clean s;generalize aU s=σ1 at J⊢;refine aB<|aC<|wu rfl<|aA<|aB<|aC<|wu rfl ?_;refine mJ (f:=(AV.i)) (l:= [i1]) rfl (.cons rfl .nil) rfl (fun _=>rfl) rfl rfl (by decide) ?_;refine wu rfl ?_;obtain⟨l3,hl3,u⟩:=bs u;have J:=J.full (sz:=1) ([i1].map<|AV.i);refine wF (f:=(AV.i)) (xs:= [i1]) (ys:=p2) rfl J rfl (.no _) hl3 (by decide)<|fun wl3 σ4 J=> ?_;refine wv rfl<|aA<|aK ?_;cases u;exact⟨rfl,_,fun _=>rfl,eJ rfl (J.slG 0 rfl) J.ext⟩
theorem dW{i1:Int}{p2:(List Int)}{r:(List Int)}(h:dU i1 p2=some r):Pf PP 60 [(.i i1),(slA 1<|p2.map<|AV.i)] (slA 1<|r.map<|AV.i):=Pf.cB (aHz i1 p2 r h _) (iC (fun _=>rfl) _) (.cons ⟨rfl,rfl⟩<|.cons (j9<|cV (fun _=>rfl) _) .nil)
mutual
noncomputable def kP (e1:Expr) (k2:Str):Option ((List Int)×Bool):=
 ((mT e1)>>=fun r3=>
 (if(r3==k2)=true then some (([]:(List Int)),true)
 else((kU e1)>>=fun r4=>
 ((jO e1 k2 r4 (0))>>=fun o11=>
 (match o11 with
 | .ret q12=>some q12
 | .nx q13=>some (([]:(List Int)),false))))))
 partial_fixpoint
noncomputable def jO (e1:Expr) (k2:Str) (r4:(List Expr)) (i5:Int):Option (Ctl ((List Int)×Bool) Unit):=
 (if(decide (i5<(r4.length:Int)))=true then((oY e1 i5)>>=fun r6=>
 ((j0 r6 k2)>>=fun r7=>
 (if r7=true then jO (nf e1) (nf k2) (nf r4) (IntKind.wrap .i64 (i5+(1)))
 else((idx r4 i5)>>=fun y8=>
 ((kP (nf y8) (nf k2))>>=fun r9=>
 (if r9.2=true then((dU i5 r9.1)>>=fun r10=>
 some (.ret (r10,true)))
 else jO (nf e1) (nf k2) (nf r4) (IntKind.wrap .i64 (i5+(1)))))))))
 else some (.nx ()))
 partial_fixpoint
end
abbrev zJ(e1:Expr)(k2:Str)(r:((List Int)×Bool)):Prop:= ∀s:ASt,Fc PP (.func 88) [(aM e1),(.str k2)] s (bW s<|.tuple [(slA 1<|r.1.map<|AV.i),(.bool r.2)])
abbrev zQ(e1:Expr)(k2:Str)(r4:(List Expr))(i5:Int)(o:(Ctl ((List Int)×Bool) Unit)):Prop:= ∀(e:Env)(s sv:ASt),St [] [] s sv [] []→Wk PP none Code.aS9 ⟨bB e [(1,(.str k2)),(2,(.aG (aM e1) 0)),(6,(slA 7<|r4.map aP)),(7,(.i i5))],[]⟩ sv (fun ex fr s'=>(match o with| .ret oq0=>ex= .ret∧nQ PP Code.c88 (VQ (.tuple [(slA 1<|oq0.1.map<|AV.i),(.bool oq0.2)])<|Ext [] [] s) ex fr s'| .nx oq1=>ex= .exit 0∧ ∃(e:Env),fr=⟨bB e [],[]⟩∧sv=s'))
theorem aBB{e1:Expr}{k2:Str}{r:((List Int)×Bool)}(h: ∀s:ASt,Fc PP (.func 88) [(aM e1),(.str k2)] s<|bW s<|.tuple [(slA 1<|r.1.map<|AV.i),(.bool r.2)]):Pf PP 88 [(aM e1),(.str k2)] (.tuple [(slA 1<|r.1.map<|AV.i),(.bool r.2)]):=Pf.cB (h _) (rW<|.cons (iC (fun _=>rfl) _)<|.cons rfl<|.nil) (.cons (cC _)<|.cons ⟨rfl,rfl⟩ .nil)
theorem aFv:(∀(e1:Expr)(k2:Str)(r:((List Int)×Bool)),kP e1 k2=some r→zJ e1 k2 r)∧
  (∀(e1:Expr)(k2:Str)(r4:(List Expr))(i5:Int)(o:(Ctl ((List Int)×Bool) Unit)),jO e1 k2 r4 i5=some o→zQ e1 k2 r4 i5 o):=by
 refine kP.mutual_partial_correctness zJ zQ ?_ ?_
 ·intro _f0 ih_r10_first_l0 e1 k2 r u;intro s;refine bD rfl rfl rfl ?_;have J:=St.clean s;generalize aU s=σ1 at J⊢;refine aB<|aC<|wu rfl<|wu rfl<|wu rfl<|aA<|aB<|aB<|aC<|wu rfl ?_;obtain⟨r3,hr3,u⟩:=bs u;refine wcD (uZ hr3) rfl rfl (.cons rfl .nil)<|wu rfl<|wu rfl<|aA ?_;refine aF u rfl (fun hc u=> ?_)<|fun hc u=> ?_
  ·refine aB<|aC<|wu rfl<|wu rfl<|aA<|aK ?_;cases u;exact⟨rfl,_,fun _=>rfl,dN rfl (.cons rfl<|.cons rfl .nil) J.ext⟩
  ·refine aJ<|aB<|aC<|wu rfl ?_;obtain⟨r4,hr4,u⟩:=bs u;refine wcD (nG hr4) rfl rfl (.cons rfl .nil)<|wu rfl<|aA<|aB<|aB<|aC<|wu rfl<|aA<|aO ?_;obtain⟨o11,h11,u⟩:=bs u;refine bV (fun e=>ih_r10_first_l0 _ _ _ _ _ h11 e s _ J) (.cons rfl<|.cons rfl<|.cons rfl<|.cons rfl .nil) ?_
   rintro _ _ _ hq
   rcases o11 with q12|q13
   ·obtain⟨rfl,hq⟩:=hq;cases u;exact hq
   ·obtain⟨rfl,e15,rfl,rfl⟩:=hq;refine aB<|aC<|wu rfl<|wu rfl<|aA<|aK ?_;cases u;exact⟨rfl,_,fun _=>rfl,dN rfl (.cons rfl<|.cons rfl .nil) J.ext⟩
 ·intro _f0 _f1 ih_r10_first ih_r10_first_l0 e1 k2 r4 i5 o u;intro e s sv J;refine bM<|aB<|aB<|aC<|wu rfl<|wu rfl<|bI (f:=aP) (l:=r4) rfl (.no _)<|wu rfl<|aA ?_;refine aF u rfl (fun hc u=> ?_)<|fun hc u=> ?_
  ·refine aJ<|aB<|aO<|aB<|aB<|aC<|wu rfl<|wu rfl ?_;obtain⟨r6,hr6,u⟩:=bs u;refine wcD (xA hr6) rfl rfl (.cons rfl<|.cons rfl .nil)<|wu rfl ?_;obtain⟨r7,hr7,u⟩:=bs u;refine wcD (iA hr7) rfl rfl (.cons rfl<|.cons rfl .nil)<|aA ?_;refine aF u rfl (fun hc u=> ?_)<|fun hc u=> ?_
   ·refine bY<|aC<|wu rfl<|wu rfl<|wu rfl<|aA ?_;exact bV (fun e=>ih_r10_first_l0 _ _ _ _ _ u e s _ J) (.cons rfl<|.cons rfl<|.cons rfl<|.cons rfl .nil)<|fun _ _ _ h=>h
   ·refine aJ<|aB<|aC<|wu rfl<|wu rfl ?_;obtain⟨y8,hy8,u⟩:=bs u;refine bT (f:=aP) rfl (.no _) rfl hy8 (bN _)<|wu rfl<|wu rfl ?_;obtain⟨r9,hr9,u⟩:=bs u;refine wcD (aBB<|ih_r10_first _ _ _ hr9) rfl rfl (.cons rfl<|.cons rfl .nil)<|wu rfl<|wu rfl<|wu rfl<|wu rfl<|wu rfl<|aA<|aB<|aC<|wu rfl<|aA ?_;refine aF u rfl (fun hc u=> ?_)<|fun hc u=> ?_
    ·refine aB<|aC<|wu rfl<|wu rfl ?_;obtain⟨r10,h10,u⟩:=bs u;refine wcD (dW h10) rfl rfl (.cons rfl<|.cons rfl .nil)<|wu rfl<|wu rfl<|aA<|aK ?_;cases u;exact⟨rfl,⟨rfl,_,fun _=>rfl,dN rfl (.cons rfl<|.cons rfl .nil) J.ext⟩⟩
    ·refine aJ<|aC<|wu rfl<|wu rfl<|wu rfl<|aA ?_;exact bV (fun e=>ih_r10_first_l0 _ _ _ _ _ u e s _ J) (.cons rfl<|.cons rfl<|.cons rfl<|.cons rfl .nil)<|fun _ _ _ h=>h
  ·refine bY ?_;cases u;exact⟨rfl,_,frE .nil,rfl⟩
theorem aGS: ∀(e1:Expr)(k2:Str)(r:((List Int)×Bool)),kP e1 k2=some r→zJ e1 k2 r:=aFv.1
theorem wN{e1:Expr}{k2:Str}{r:((List Int)×Bool)}(h:kP e1 k2=some r):Pf PP 88 [(aM e1),(.str k2)] (.tuple [(slA 1<|r.1.map<|AV.i),(.bool r.2)]):=aBB (aGS e1 k2 r h)
mutual
noncomputable def jT (e1:Expr) (k2:Str):Option ((List Int)×Bool):=
 ((vU e1.kind)>>=fun r3=>
 ((if(!r3)=true then some true
 else((if(!(k2==([]:Str)))=true then((mT e1)>>=fun r6=>
 some (r6==k2))
 else some false:Option Bool)>>=fun c5=>
 some c5):Option Bool)>>=fun c4=>
 (if c4=true then some (([]:(List Int)),true)
 else((kU e1)>>=fun r7=>
 ((mL e1 k2 r7 (0))>>=fun o22=>
 (match o22 with
 | .ret q23=>some q23
 | .nx q24=>some (([]:(List Int)),false)))))))
 partial_fixpoint
noncomputable def mL (e1:Expr) (k2:Str) (r7:(List Expr)) (i8:Int):Option (Ctl ((List Int)×Bool) Unit):=
 (if(decide (i8<(r7.length:Int)))=true then((oY e1 i8)>>=fun r9=>
 ((j0 r9 k2)>>=fun r10=>
 (((if r10=true then some ([]:Str)
 else some k2):Option Str)>>=fun o11=>
 (((if(e1.kind !=(4))=true then((idx r7 i8)>>=fun y15=>
 ((jT (nf y15) (nf o11))>>=fun r16=>
 some (r16.1,r16.2)))
 else(if(!(o11==([]:Str)))=true then((idx r7 i8)>>=fun y17=>
 ((kP y17 o11)>>=fun r18=>
 some (r18.1,r18.2)))
 else some (([]:(List Int)),false))):Option ((List Int)×Bool))>>=fun o14=>
 (if o14.2=true then((dU i8 o14.1)>>=fun r21=>
 some (.ret (r21,true)))
 else mL (nf e1) (nf k2) (nf r7) (IntKind.wrap .i64 (i8+(1))))))))
 else some (.nx ()))
 partial_fixpoint
end
abbrev aBc(e1:Expr)(k2:Str)(r:((List Int)×Bool)):Prop:= ∀s:ASt,Fc PP (.func 71) [(aM e1),(.str k2)] s (bW s<|.tuple [(slA 1<|r.1.map<|AV.i),(.bool r.2)])
abbrev aAq(e1:Expr)(k2:Str)(r7:(List Expr))(i8:Int)(o:(Ctl ((List Int)×Bool) Unit)):Prop:= ∀(e:Env)(s sv:ASt),St [] [] s sv [] []→Wk PP none Code.aTj ⟨bB e [(1,(.str k2)),(2,(.aG (aM e1) 0)),(6,(slA 7<|r7.map aP)),(7,(.i i8))],[]⟩ sv (fun ex fr s'=>(match o with| .ret oq0=>ex= .ret∧nQ PP Code.c71 (VQ (.tuple [(slA 1<|oq0.1.map<|AV.i),(.bool oq0.2)])<|Ext [] [] s) ex fr s'| .nx oq1=>ex= .exit 0∧ ∃(e:Env),fr=⟨bB e [],[]⟩∧sv=s'))
theorem aDe{e1:Expr}{k2:Str}{r:((List Int)×Bool)}(h: ∀s:ASt,Fc PP (.func 71) [(aM e1),(.str k2)] s<|bW s<|.tuple [(slA 1<|r.1.map<|AV.i),(.bool r.2)]):Pf PP 71 [(aM e1),(.str k2)] (.tuple [(slA 1<|r.1.map<|AV.i),(.bool r.2)]):=Pf.cB (h _) (rW<|.cons (iC (fun _=>rfl) _)<|.cons rfl<|.nil) (.cons (cC _)<|.cons ⟨rfl,rfl⟩ .nil)
theorem aGQ:(∀(e1:Expr)(k2:Str)(r:((List Int)×Bool)),jT e1 k2=some r→aBc e1 k2 r)∧
  (∀(e1:Expr)(k2:Str)(r7:(List Expr))(i8:Int)(o:(Ctl ((List Int)×Bool) Unit)),mL e1 k2 r7 i8=some o→aAq e1 k2 r7 i8 o):=by
 refine jT.mutual_partial_correctness aBc aAq ?_ ?_
 ·intro _f0 ih_r10_loud_l0 e1 k2 r u;intro s;refine bD rfl rfl rfl ?_;have J:=St.clean s;generalize aU s=σ1 at J⊢;refine aB<|aC<|wu rfl<|wu rfl<|wu rfl<|aA<|aB<|aB<|aC<|wu rfl<|wu rfl ?_;obtain⟨r3,hr3,u⟩:=bs u;refine wcD (aKQ hr3) rfl rfl (.cons rfl .nil)<|wu rfl<|wu rfl ?_;obtain⟨c4,hc4,u⟩:=bs u;refine aW 9 [(1,(.str k2)),(2,(.aG (aM e1) 0)),(24,(.bool c4))] σ1 ?_<|fun e=> ?_
  ·refine aX (t:=15) rfl (fun hc=> ?_)<|fun hc=> ?_
   ·replace hc4:=bE hc hc4;refine wu rfl<|wu rfl<|wu rfl<|wu rfl<|wu rfl<|wu rfl<|wu rfl<|wu rfl<|wu rfl<|aA ?_;cases hc4;exact Kept.mk rfl<|.cons rfl<|.cons rfl<|.cons rfl .nil
   ·replace hc4:=bC hc hc4
    iterate 3 refine wu rfl ?_
    obtain⟨c5,hc5,hc4⟩:=bs hc4;refine aW 5 [(1,(.str k2)),(2,(.aG (aM e1) 0)),(15,(.bool false)),(23,(.bool c5))] σ1 ?_<|fun e=> ?_
    ·refine aX (t:=18) rfl (fun hc=> ?_)<|fun hc=> ?_
     ·replace hc5:=bE hc hc5;refine wu rfl ?_;obtain⟨r6,hr6,hc5⟩:=bs hc5;refine wcD (uZ hr6) rfl rfl (.cons rfl .nil)<|wu rfl<|wu rfl<|wu rfl<|aA ?_;cases hc5;exact Kept.mk rfl<|.cons rfl<|.cons rfl<|.cons rfl<|.cons rfl .nil
     ·replace hc5:=bC hc hc5;refine wu rfl<|wu rfl<|wu rfl<|wu rfl<|wu rfl<|aA ?_;cases hc5;exact Kept.mk rfl<|.cons rfl<|.cons rfl<|.cons rfl<|.cons rfl .nil
    ·refine wu rfl<|aA ?_;cases hc4;exact Kept.mk rfl<|.cons rfl<|.cons rfl<|.cons rfl .nil
  ·refine aA ?_;refine aF u rfl (fun hc u=> ?_)<|fun hc u=> ?_
   ·refine aB<|aC<|wu rfl<|wu rfl<|aA<|aK ?_;cases u;exact⟨rfl,_,fun _=>rfl,dN rfl (.cons rfl<|.cons rfl .nil) J.ext⟩
   ·refine aJ<|aB<|aC<|wu rfl ?_;obtain⟨r7,hr7,u⟩:=bs u;refine wcD (nG hr7) rfl rfl (.cons rfl .nil)<|wu rfl<|aA<|aB<|aB<|aC<|wu rfl<|aA<|aO ?_;obtain⟨o22,h22,u⟩:=bs u;refine bV (fun e=>ih_r10_loud_l0 _ _ _ _ _ h22 e s _ J) (.cons rfl<|.cons rfl<|.cons rfl<|.cons rfl .nil) ?_
    rintro _ _ _ hq
    rcases o22 with q23|q24
    ·obtain⟨rfl,hq⟩:=hq;cases u;exact hq
    ·obtain⟨rfl,e26,rfl,rfl⟩:=hq;refine aB<|aC<|wu rfl<|wu rfl<|aA<|aK ?_;cases u;exact⟨rfl,_,fun _=>rfl,dN rfl (.cons rfl<|.cons rfl .nil) J.ext⟩
 ·intro _f0 _f1 ih_r10_loud ih_r10_loud_l0 e1 k2 r7 i8 o u;intro e s sv J;refine bM<|aB<|aB<|aC<|wu rfl<|wu rfl<|bI (f:=aP) (l:=r7) rfl (.no _)<|wu rfl<|aA ?_;refine aF u rfl (fun hc u=> ?_)<|fun hc u=> ?_
  ·refine aJ<|aB<|aO<|aB<|aC<|wu rfl<|wu rfl<|aA<|aB<|aB<|aC<|wu rfl<|wu rfl ?_;obtain⟨r9,hr9,u⟩:=bs u;refine wcD (xA hr9) rfl rfl (.cons rfl<|.cons rfl .nil)<|wu rfl ?_;obtain⟨r10,h10,u⟩:=bs u;refine wcD (iA h10) rfl rfl (.cons rfl<|.cons rfl .nil)<|aA ?_;obtain⟨o11,h11,u⟩:=bs u;refine Wk.mono (Q:=fun ex fr s'=>ex= .normal∧ ∃(e:Env),fr=⟨bB e [(1,(.str k2)),(2,(.aG (aM e1) 0)),(6,(slA 7<|r7.map aP)),(7,(.i i8)),(8,(.str o11))],[]⟩∧sv=s') ?_ ?_
   ·refine aF h11 rfl (fun hc h11=> ?_)<|fun hc h11=> ?_
    ·refine aC<|wu rfl<|aA ?_;cases h11;exact⟨rfl,_,frE<|.cons rfl<|.cons rfl<|.cons rfl<|.cons rfl<|.cons rfl .nil,rfl⟩
    ·refine aJ ?_;cases h11;exact⟨rfl,_,frE<|.cons rfl<|.cons rfl<|.cons rfl<|.cons rfl<|.cons rfl .nil,rfl⟩
   ·rintro _ _ _ hq
    obtain⟨rfl,e13,rfl,rfl⟩:=hq;refine aB<|aC<|wu rfl<|aA<|aB<|aC<|wu rfl<|aA<|aB<|aB<|aC<|wu rfl<|wu rfl<|wu rfl ?_;refine aA ?_;obtain⟨o14,h14,u⟩:=bs u;refine Wk.mono (Q:=fun ex fr s'=>ex= .normal∧ ∃(pw1:AV)(e:Env),fr=⟨bB e [(1,(.str k2)),(2,(.aG (aM e1) 0)),(6,(slA 7<|r7.map aP)),(7,(.i i8)),(9,pw1),(10,(.bool o14.2))],[]⟩∧Sl 1 pw1 (o14.1.map<|AV.i)∧sv=s') ?_ ?_
    ·refine aF h14 rfl (fun hc h14=> ?_)<|fun hc h14=> ?_
     ·refine aC<|wu rfl<|wu rfl ?_;obtain⟨y15,h15,h14⟩:=bs h14;refine bT (f:=aP) rfl (.no _) rfl h15 (bN _)<|wu rfl<|wu rfl ?_;obtain⟨r16,h16,h14⟩:=bs h14;refine wcD (aDe<|ih_r10_loud _ _ _ h16) rfl rfl (.cons rfl<|.cons rfl .nil)<|wu rfl<|wu rfl<|wu rfl<|wu rfl<|wu rfl<|aA ?_;cases h14;exact⟨rfl,(slA 1<|r16.1.map<|AV.i),_,frE<|.cons rfl<|.cons rfl<|.cons rfl<|.cons rfl<|.cons rfl<|.cons rfl .nil,(.no _),rfl⟩
     ·refine aB<|aC<|wu rfl<|wu rfl<|aA ?_;refine aF h14 rfl (fun hc h14=> ?_)<|fun hc h14=> ?_
      ·refine aC<|wu rfl<|wu rfl ?_;obtain⟨y17,h17,h14⟩:=bs h14;refine bT (f:=aP) rfl (.no _) rfl h17 (bN _)<|wu rfl<|wu rfl ?_;obtain⟨r18,h18,h14⟩:=bs h14;refine wcD (wN h18) rfl rfl (.cons rfl<|.cons rfl .nil)<|wu rfl<|wu rfl<|wu rfl<|wu rfl<|wu rfl<|aA ?_;cases h14;exact⟨rfl,(slA 1<|r18.1.map<|AV.i),_,frE<|.cons rfl<|.cons rfl<|.cons rfl<|.cons rfl<|.cons rfl<|.cons rfl .nil,(.no _),rfl⟩
      ·refine aJ ?_;cases h14;exact⟨rfl,(.slice 0 (([]:(List Int)).map<|AV.i) .full),_,frE<|.cons rfl<|.cons rfl<|.cons rfl<|.cons rfl<|.cons rfl<|.cons rfl .nil,(.full<|.inr rfl),rfl⟩
    ·rintro _ _ _ hq
     obtain⟨rfl,w19_1,e20,rfl,hw19_1,rfl⟩:=hq;refine aB<|aC<|wu rfl<|aA ?_;refine aF u rfl (fun hc u=> ?_)<|fun hc u=> ?_
     ·refine aB<|aC<|wu rfl<|wv rfl ?_;obtain⟨r21,h21,u⟩:=bs u;refine wcD (dW h21) rfl rfl (.cons rfl<|.cons (hw19_1).fix .nil)<|wu rfl<|wu rfl<|aA<|aK ?_;cases u;exact⟨rfl,⟨rfl,_,fun _=>rfl,dN rfl (.cons rfl<|.cons rfl .nil) J.ext⟩⟩
     ·refine aJ<|aC<|wu rfl<|wu rfl<|wu rfl<|aA ?_;exact bV (fun e=>ih_r10_loud_l0 _ _ _ _ _ u e s _ J) (.cons rfl<|.cons rfl<|.cons rfl<|.cons rfl .nil)<|fun _ _ _ h=>h
  ·refine bY ?_;cases u;exact⟨rfl,_,frE .nil,rfl⟩
theorem aJh: ∀(e1:Expr)(k2:Str)(r:((List Int)×Bool)),jT e1 k2=some r→aBc e1 k2 r:=aGQ.1
theorem rN{e1:Expr}{k2:Str}{r:((List Int)×Bool)}(h:jT e1 k2=some r):Pf PP 71 [(aM e1),(.str k2)] (.tuple [(slA 1<|r.1.map<|AV.i),(.bool r.2)]):=aDe (aJh e1 k2 r h)
noncomputable def iU(e1:Expr)(k2:Str):Option Bool:=
 ((jT e1 k2)>>=fun r3=>
 some (!r3.2))
theorem aEe: ∀(e1:Expr)(k2:Str)(r:Bool),iU e1 k2=some r→ ∀s:ASt,Fc PP (.func 38) [(aM e1),(.str k2)] s (bW s<|.bool r):=by
 intro e1 k2 r u;unfold iU at u;intro s;refine bD rfl rfl rfl ?_;have J:=St.clean s;generalize aU s=σ1 at J⊢;refine aB<|aC<|wu rfl<|wu rfl<|aA<|aB<|aC<|wu rfl<|wu rfl ?_;obtain⟨r3,hr3,u⟩:=bs u;refine wcD (rN hr3) rfl rfl (.cons rfl<|.cons rfl .nil)<|wu rfl<|wu rfl<|wu rfl<|wu rfl<|wu rfl<|aA<|aB<|aC<|wu rfl<|wu rfl<|wu rfl<|aA<|aK ?_;cases u;exact⟨rfl,_,fun _=>rfl,aY rfl rfl rfl rfl J.ext⟩
theorem mY{e1:Expr}{k2:Str}{r:Bool}(h:iU e1 k2=some r):Pf PP 38 [(aM e1),(.str k2)] (.bool r):=Pf.cB (aEe e1 k2 r h _) rfl (.cons (cC _)<|.cons ⟨rfl,rfl⟩ .nil)
noncomputable def pD(e1:Expr)(k2:Str):Option Bool:=
 ((if(e1.kind==(18))=true then some true
 else some (e1.kind==(19)):Option Bool)>>=fun c3=>
 ((if c3=true then some (e1.s==k2)
 else some false:Option Bool)>>=fun c4=>
 some c4))
theorem aJG: ∀(e1:Expr)(k2:Str)(r:Bool),pD e1 k2=some r→ ∀s:ASt,Fc PP (.func 86) [(aM e1),(.str k2)] s (bW s<|.bool r):=by
 intro e1 k2 r u;unfold pD at u;intro s;refine bD rfl rfl rfl ?_;have J:=St.clean s;generalize aU s=σ1 at J⊢;refine aB<|aC<|wu rfl<|wu rfl<|aA<|aB<|aC<|wu rfl<|wu rfl<|wu rfl<|wu rfl ?_;obtain⟨c3,hc3,u⟩:=bs u;refine aW 4 [(1,(.str k2)),(2,(.aG (aM e1) 0)),(12,(.bool c3))] σ1 ?_<|fun e=> ?_
 ·refine aX (t:=8) rfl (fun hc=> ?_)<|fun hc=> ?_
  ·replace hc3:=bE hc hc3;refine wu rfl<|wu rfl<|wu rfl<|wu rfl<|aA ?_;cases hc3;exact Kept.mk rfl<|.cons rfl<|.cons rfl<|.cons rfl .nil
  ·replace hc3:=bC hc hc3;refine wu rfl<|wu rfl<|wu rfl<|wu rfl<|aA ?_;cases hc3;exact Kept.mk rfl<|.cons rfl<|.cons rfl<|.cons rfl .nil
 ·refine wu rfl ?_;obtain⟨c4,hc4,u⟩:=bs u;refine aW 5 [(18,(.bool c4))] σ1 ?_<|fun e=> ?_
  ·refine aX (t:=13) rfl (fun hc=> ?_)<|fun hc=> ?_
   ·replace hc4:=bE hc hc4;refine wu rfl<|wu rfl<|wu rfl<|wu rfl<|wu rfl<|aA ?_;cases hc4;exact Kept.mk rfl<|.cons rfl .nil
   ·replace hc4:=bC hc hc4;refine wu rfl<|wu rfl<|wu rfl<|wu rfl<|wu rfl<|aA ?_;cases hc4;exact Kept.mk rfl<|.cons rfl .nil
  ·refine wu rfl<|aA<|aK ?_;cases u;exact⟨rfl,_,fun _=>rfl,aY rfl rfl rfl rfl J.ext⟩
theorem uJ{e1:Expr}{k2:Str}{r:Bool}(h:pD e1 k2=some r):Pf PP 86 [(aM e1),(.str k2)] (.bool r):=Pf.cB (aJG e1 k2 r h _) rfl (.cons (cC _)<|.cons ⟨rfl,rfl⟩ .nil)
noncomputable def rE(e1:Expr)(k2:Str):Option Bool:=
 ((pD e1 k2)>>=fun r3=>
 ((if r3=true then((if(e1.kind==(19))=true then some true
 else((idx e1.l (0))>>=fun y6=>
 ((iU y6 k2)>>=fun r7=>
 some r7)):Option Bool)>>=fun c5=>
 some c5)
 else some false:Option Bool)>>=fun c4=>
 some c4))
theorem aJp: ∀(e1:Expr)(k2:Str)(r:Bool),rE e1 k2=some r→ ∀s:ASt,Fc PP (.func 87) [(aM e1),(.str k2)] s (bW s<|.bool r):=by
 intro e1 k2 r u;unfold rE at u;intro s;refine bD rfl rfl rfl ?_;have J:=St.clean s;generalize aU s=σ1 at J⊢;refine aB<|aC<|wu rfl<|wu rfl<|aA<|aB<|aC<|wu rfl<|wu rfl ?_;obtain⟨r3,hr3,u⟩:=bs u;refine wcD (uJ hr3) rfl rfl (.cons rfl<|.cons rfl .nil)<|wu rfl ?_;obtain⟨c4,hc4,u⟩:=bs u;refine aW 12 [(20,(.bool c4))] σ1 ?_<|fun e=> ?_
 ·refine aX (t:=8) rfl (fun hc=> ?_)<|fun hc=> ?_
  ·replace hc4:=bE hc hc4
   iterate 4 refine wu rfl ?_
   obtain⟨c5,hc5,hc4⟩:=bs hc4;refine aW 7 [(8,(.bool true)),(19,(.bool c5))] σ1 ?_<|fun e=> ?_
   ·refine aX (t:=12) rfl (fun hc=> ?_)<|fun hc=> ?_
    ·replace hc5:=bE hc hc5;refine wu rfl<|wu rfl<|wu rfl<|wu rfl<|wu rfl<|wu rfl<|wu rfl<|aA ?_;cases hc5;exact Kept.mk rfl<|.cons rfl<|.cons rfl .nil
    ·replace hc5:=bC hc hc5;refine wu rfl<|wu rfl ?_;obtain⟨y6,hy6,hc5⟩:=bs hc5;refine bT (f:=aP) rfl (.no _) rfl hy6 (bN _)<|wu rfl<|wu rfl ?_;obtain⟨r7,hr7,hc5⟩:=bs hc5;refine wcD (mY hr7) rfl rfl (.cons rfl<|.cons rfl .nil)<|wu rfl<|aA ?_;cases hc5;exact Kept.mk rfl<|.cons rfl<|.cons rfl .nil
   ·refine wu rfl<|aA ?_;cases hc4;exact Kept.mk rfl<|.cons rfl .nil
  ·replace hc4:=bC hc hc4;refine wu rfl<|wu rfl<|wu rfl<|wu rfl<|wu rfl<|wu rfl<|wu rfl<|wu rfl<|wu rfl<|wu rfl<|wu rfl<|wu rfl<|aA ?_;cases hc4;exact Kept.mk rfl<|.cons rfl .nil
 ·refine wu rfl<|aA<|aK ?_;cases u;exact⟨rfl,_,fun _=>rfl,aY rfl rfl rfl rfl J.ext⟩
theorem zN{e1:Expr}{k2:Str}{r:Bool}(h:rE e1 k2=some r):Pf PP 87 [(aM e1),(.str k2)] (.bool r):=Pf.cB (aJp e1 k2 r h _) rfl (.cons (cC _)<|.cons ⟨rfl,rfl⟩ .nil)
mutual
noncomputable def eN (e1:Expr) (k2:Str):Option Bool:=
 (((if(e1.kind==(18))=true then some (e1.kind==(18))
 else some (e1.kind==(19))):Option Bool)>>=fun o3=>
 (if o3=true then((rE e1 k2)>>=fun r6=>
 some r6)
 else(if(e1.kind==(6))=true then((idx e1.l (0))>>=fun y7=>
 ((rE y7 k2)>>=fun r8=>
 (if r8=true then((idx e1.names (0))>>=fun y9=>
 ((if(y9==k2)=true then some true
 else((idx e1.l (1))>>=fun y11=>
 ((tS y11 k2)>>=fun r12=>
 some (!r12))):Option Bool)>>=fun c10=>
 some c10))
 else((idx e1.l (0))>>=fun y13=>
 ((iU y13 k2)>>=fun r14=>
 ((if r14=true then((idx e1.names (0))>>=fun y16=>
 some (!(y16==k2)))
 else some false:Option Bool)>>=fun c15=>
 ((if c15=true then((idx e1.l (1))>>=fun y18=>
 ((eN (nf y18) (nf k2))>>=fun r19=>
 some r19))
 else some false:Option Bool)>>=fun c17=>
 some c17)))))))
 else(if(e1.kind==(8))=true then((idx e1.l (0))>>=fun y20=>
 ((iU y20 k2)>>=fun r21=>
 ((if r21=true then((idx e1.l (1))>>=fun y23=>
 ((eN (nf y23) (nf k2))>>=fun r24=>
 some r24))
 else some false:Option Bool)>>=fun c22=>
 ((if c22=true then((idx e1.l (2))>>=fun y26=>
 ((eN (nf y26) (nf k2))>>=fun r27=>
 some r27))
 else some false:Option Bool)>>=fun c25=>
 some c25))))
 else(if(e1.kind==(11))=true then((idx e1.l (0))>>=fun y28=>
 ((iU y28 k2)>>=fun r29=>
 ((j8 e1 k2 r29 (0))>>=fun o38=>
 some o38)))
 else(((if(e1.kind==(14))=true then some (e1.kind==(14))
 else(if(e1.kind==(15))=true then some (e1.kind==(15))
 else some (e1.kind==(16)))):Option Bool)>>=fun o41=>
 (if o41=true then((idx e1.l (0))>>=fun y44=>
 ((eN (nf y44) (nf k2))>>=fun r45=>
 ((iT e1 k2 r45 (0))>>=fun o54=>
 some o54)))
 else some false)))))))
 partial_fixpoint
noncomputable def j8 (e1:Expr) (k2:Str) (is30:Bool) (i31:Int):Option Bool:=
 (if(decide (i31<(e1.aT.length:Int)))=true then((if is30=true then((idx e1.aT i31)>>=fun y33=>
 ((j0 y33.names k2)>>=fun r34=>
 some (!r34)))
 else some false:Option Bool)>>=fun c32=>
 ((if c32=true then((idx e1.aT i31)>>=fun y36=>
 ((eN y36.body (nf k2))>>=fun r37=>
 some r37))
 else some false:Option Bool)>>=fun c35=>
 j8 (nf e1) (nf k2) c35 (IntKind.wrap .i64 (i31+(1)))))
 else some is30)
 partial_fixpoint
end
abbrev xB(e1:Expr)(k2:Str)(r:Bool):Prop:= ∀s:ASt,Fc PP (.func 85) [(aM e1),(.str k2)] s (bW s<|.bool r)
abbrev xF(e1:Expr)(k2:Str)(is30:Bool)(i31:Int)(o:Bool):Prop:= ∀(e:Env)(s sv:ASt),St [] [] s sv [] []→Wk PP none Code.aSW ⟨bB e [(1,(.str k2)),(2,(.aG (aM e1) 0)),(5,(.bool is30)),(6,(.i i31))],[]⟩ sv (fun ex fr s'=>ex= .exit 1∧ ∃(e:Env),fr=⟨bB e [(5,(.bool o))],[]⟩∧sv=s')
theorem lZ{e1:Expr}{k2:Str}{r:Bool}(h: ∀s:ASt,Fc PP (.func 85) [(aM e1),(.str k2)] s<|bW s<|.bool r):Pf PP 85 [(aM e1),(.str k2)] (.bool r):=Pf.cB (h _) rfl (.cons (cC _)<|.cons ⟨rfl,rfl⟩ .nil)
theorem aDX:(∀(e1:Expr)(k2:Str)(r:Bool),eN e1 k2=some r→xB e1 k2 r)∧
  (∀(e1:Expr)(k2:Str)(is30:Bool)(i31:Int)(o:Bool),j8 e1 k2 is30 i31=some o→xF e1 k2 is30 i31 o):=by
 refine eN.mutual_partial_correctness xB xF ?_ ?_
 ·intro _f0 _f1 ih_r10_Linear ih_r10_Linear_l0 e1 k2 r u;intro s;refine bD rfl rfl rfl ?_;have J:=St.clean s;generalize aU s=σ1 at J⊢;refine aB<|aC<|wu rfl<|wu rfl<|aA<|aB<|aB<|aC<|wu rfl<|wu rfl<|aA<|aO<|aB<|aB ?_;refine aC<|wu rfl<|wu rfl<|aA ?_;obtain⟨o3,ho3,u⟩:=bs u;refine Wk.mono (Q:=fun ex fr s'=>ex= .normal∧ ∃(e:Env),fr=⟨bB e [(1,(.str k2)),(2,(.aG (aM e1) 0)),(10,(.i e1.kind)),(11,(.bool o3))],[]⟩∧σ1=s') ?_ ?_
  ·refine aF ho3 rfl (fun hc ho3=> ?_)<|fun hc ho3=> ?_
   ·refine aJ ?_;cases ho3;exact⟨rfl,_,frE<|.cons rfl<|.cons rfl<|.cons rfl<|.cons rfl .nil,rfl⟩
   ·refine aC<|wu rfl<|wu rfl<|aA ?_;cases ho3;exact⟨rfl,_,frE<|.cons rfl<|.cons rfl<|.cons rfl<|.cons rfl .nil,rfl⟩
  ·rintro _ _ _ hq
   obtain⟨rfl,e5,rfl,rfl⟩:=hq;refine aF u rfl (fun hc u=> ?_)<|fun hc u=> ?_
   ·refine aB<|aC<|wu rfl<|wu rfl ?_;obtain⟨r6,hr6,u⟩:=bs u;refine wcD (zN hr6) rfl rfl (.cons rfl<|.cons rfl .nil)<|wu rfl<|aA<|aK ?_;cases u;exact⟨rfl,_,fun _=>rfl,aY rfl rfl rfl rfl J.ext⟩
   ·refine aB<|aC<|wu rfl<|wu rfl<|aA ?_;refine aF u rfl (fun hc u=> ?_)<|fun hc u=> ?_
    ·refine aB<|aB<|aC<|wu rfl<|wu rfl ?_;obtain⟨y7,hy7,u⟩:=bs u;refine bT (f:=aP) rfl (.no _) rfl hy7 (bN _)<|wu rfl<|wu rfl ?_;obtain⟨r8,hr8,u⟩:=bs u;refine wcD (zN hr8) rfl rfl (.cons rfl<|.cons rfl .nil)<|aA ?_;refine aF u rfl (fun hc u=> ?_)<|fun hc u=> ?_
     ·refine aB<|aC<|wu rfl<|wu rfl ?_;obtain⟨y9,hy9,u⟩:=bs u;refine bT (f:=AV.str) rfl (.no _) rfl hy9 rfl<|wu rfl<|wu rfl<|wu rfl<|wu rfl ?_;obtain⟨c10,h10,u⟩:=bs u;refine aW 8 [(39,(.bool c10))] σ1 ?_<|fun e=> ?_
      ·refine aX (t:=31) rfl (fun hc=> ?_)<|fun hc=> ?_
       ·replace h10:=bE hc h10;refine wu rfl<|wu rfl<|wu rfl<|wu rfl<|wu rfl<|wu rfl<|wu rfl<|wu rfl<|aA ?_;cases h10;exact Kept.mk rfl<|.cons rfl .nil
       ·replace h10:=bC hc h10;refine wu rfl<|wu rfl ?_;obtain⟨y11,h11,h10⟩:=bs h10;refine bT (f:=aP) rfl (.no _) rfl h11 (bN _)<|wu rfl<|wu rfl ?_;obtain⟨r12,h12,h10⟩:=bs h10;refine wcD (aCQ h12) rfl rfl (.cons rfl<|.cons rfl .nil)<|wu rfl<|wu rfl<|aA ?_;cases h10;exact Kept.mk rfl<|.cons rfl .nil
      ·refine wu rfl<|aA<|aK ?_;cases u;exact⟨rfl,_,fun _=>rfl,aY rfl rfl rfl rfl J.ext⟩
     ·refine aJ<|aB<|aC<|wu rfl<|wu rfl ?_;obtain⟨y13,h13,u⟩:=bs u;refine bT (f:=aP) rfl (.no _) rfl h13 (bN _)<|wu rfl<|wu rfl ?_;obtain⟨r14,h14,u⟩:=bs u;refine wcD (mY h14) rfl rfl (.cons rfl<|.cons rfl .nil)<|wu rfl ?_;obtain⟨c15,h15,u⟩:=bs u;refine aW 7 [(1,(.str k2)),(2,(.aG (aM e1) 0)),(53,(.bool c15))] σ1 ?_<|fun e=> ?_
      ·refine aX (t:=46) rfl (fun hc=> ?_)<|fun hc=> ?_
       ·replace h15:=bE hc h15;refine wu rfl<|wu rfl ?_;obtain⟨y16,h16,h15⟩:=bs h15;refine bT (f:=AV.str) rfl (.no _) rfl h16 rfl<|wu rfl<|wu rfl<|wu rfl<|wu rfl<|aA ?_;cases h15;exact Kept.mk rfl<|.cons rfl<|.cons rfl<|.cons rfl .nil
       ·replace h15:=bC hc h15;refine wu rfl<|wu rfl<|wu rfl<|wu rfl<|wu rfl<|wu rfl<|wu rfl<|aA ?_;cases h15;exact Kept.mk rfl<|.cons rfl<|.cons rfl<|.cons rfl .nil
      ·refine wu rfl ?_;obtain⟨c17,h17,u⟩:=bs u;refine aW 7 [(61,(.bool c17))] σ1 ?_<|fun e=> ?_
       ·refine aX (t:=54) rfl (fun hc=> ?_)<|fun hc=> ?_
        ·replace h17:=bE hc h17;refine wu rfl<|wu rfl ?_;obtain⟨y18,h18,h17⟩:=bs h17;refine bT (f:=aP) rfl (.no _) rfl h18 (bN _)<|wu rfl<|wu rfl ?_;obtain⟨r19,h19,h17⟩:=bs h17;refine wcD (lZ<|ih_r10_Linear _ _ _ h19) rfl rfl (.cons rfl<|.cons rfl .nil)<|wu rfl<|aA ?_;cases h17;exact Kept.mk rfl<|.cons rfl .nil
        ·replace h17:=bC hc h17;refine wu rfl<|wu rfl<|wu rfl<|wu rfl<|wu rfl<|wu rfl<|wu rfl<|aA ?_;cases h17;exact Kept.mk rfl<|.cons rfl .nil
       ·refine wu rfl<|aA<|aK ?_;cases u;exact⟨rfl,_,fun _=>rfl,aY rfl rfl rfl rfl J.ext⟩
    ·refine aB<|aC<|wu rfl<|wu rfl<|aA ?_;refine aF u rfl (fun hc u=> ?_)<|fun hc u=> ?_
     ·refine aB<|aC<|wu rfl<|wu rfl ?_;obtain⟨y20,h20,u⟩:=bs u;refine bT (f:=aP) rfl (.no _) rfl h20 (bN _)<|wu rfl<|wu rfl ?_;obtain⟨r21,h21,u⟩:=bs u;refine wcD (mY h21) rfl rfl (.cons rfl<|.cons rfl .nil)<|wu rfl ?_;obtain⟨c22,h22,u⟩:=bs u;refine aW 7 [(1,(.str k2)),(2,(.aG (aM e1) 0)),(77,(.bool c22))] σ1 ?_<|fun e=> ?_
      ·refine aX (t:=70) rfl (fun hc=> ?_)<|fun hc=> ?_
       ·replace h22:=bE hc h22;refine wu rfl<|wu rfl ?_;obtain⟨y23,h23,h22⟩:=bs h22;refine bT (f:=aP) rfl (.no _) rfl h23 (bN _)<|wu rfl<|wu rfl ?_;obtain⟨r24,h24,h22⟩:=bs h22;refine wcD (lZ<|ih_r10_Linear _ _ _ h24) rfl rfl (.cons rfl<|.cons rfl .nil)<|wu rfl<|aA ?_;cases h22;exact Kept.mk rfl<|.cons rfl<|.cons rfl<|.cons rfl .nil
       ·replace h22:=bC hc h22;refine wu rfl<|wu rfl<|wu rfl<|wu rfl<|wu rfl<|wu rfl<|wu rfl<|aA ?_;cases h22;exact Kept.mk rfl<|.cons rfl<|.cons rfl<|.cons rfl .nil
      ·refine wu rfl ?_;obtain⟨c25,h25,u⟩:=bs u;refine aW 7 [(85,(.bool c25))] σ1 ?_<|fun e=> ?_
       ·refine aX (t:=78) rfl (fun hc=> ?_)<|fun hc=> ?_
        ·replace h25:=bE hc h25;refine wu rfl<|wu rfl ?_;obtain⟨y26,h26,h25⟩:=bs h25;refine bT (f:=aP) rfl (.no _) rfl h26 (bN _)<|wu rfl<|wu rfl ?_;obtain⟨r27,h27,h25⟩:=bs h25;refine wcD (lZ<|ih_r10_Linear _ _ _ h27) rfl rfl (.cons rfl<|.cons rfl .nil)<|wu rfl<|aA ?_;cases h25;exact Kept.mk rfl<|.cons rfl .nil
        ·replace h25:=bC hc h25;refine wu rfl<|wu rfl<|wu rfl<|wu rfl<|wu rfl<|wu rfl<|wu rfl<|aA ?_;cases h25;exact Kept.mk rfl<|.cons rfl .nil
       ·refine wu rfl<|aA<|aK ?_;cases u;exact⟨rfl,_,fun _=>rfl,aY rfl rfl rfl rfl J.ext⟩
     ·refine aB<|aC<|wu rfl<|wu rfl<|aA ?_;refine aF u rfl (fun hc u=> ?_)<|fun hc u=> ?_
      ·refine aB<|aC<|wu rfl<|wu rfl ?_;obtain⟨y28,h28,u⟩:=bs u;refine bT (f:=aP) rfl (.no _) rfl h28 (bN _)<|wu rfl<|wu rfl ?_;obtain⟨r29,h29,u⟩:=bs u;refine wcD (mY h29) rfl rfl (.cons rfl<|.cons rfl .nil)<|wu rfl<|aA<|aB<|aB<|aC<|wu rfl<|aA<|aO ?_;obtain⟨o38,h38,u⟩:=bs u;refine bV (fun e=>ih_r10_Linear_l0 _ _ _ _ _ h38 e s _ J) (.cons rfl<|.cons rfl<|.cons rfl<|.cons rfl .nil) ?_
       rintro _ _ _ hq
       obtain⟨rfl,e40,rfl,rfl⟩:=hq;refine aB<|aC<|wu rfl<|wu rfl<|aA<|aK ?_;cases u;exact⟨rfl,_,fun _=>rfl,aY rfl rfl rfl rfl J.ext⟩
      ·refine aB<|aB<|aC<|wu rfl<|wu rfl<|aA ?_;obtain⟨o41,h41,u⟩:=bs u;refine Wk.mono (Q:=fun ex fr s'=>ex= .normal∧ ∃(e:Env),fr=⟨bB e [(1,(.str k2)),(2,(.aG (aM e1) 0)),(124,(.bool o41))],[]⟩∧σ1=s') ?_ ?_
       ·refine aF h41 rfl (fun hc h41=> ?_)<|fun hc h41=> ?_
        ·refine aJ ?_;cases h41;exact⟨rfl,_,frE<|.cons rfl<|.cons rfl<|.cons rfl .nil,rfl⟩
        ·refine aB<|aC<|wu rfl<|wu rfl<|aA ?_;refine aF h41 rfl (fun hc h41=> ?_)<|fun hc h41=> ?_
         ·refine aJ ?_;cases h41;exact⟨rfl,_,frE<|.cons rfl<|.cons rfl<|.cons rfl .nil,rfl⟩
         ·refine aC<|wu rfl<|wu rfl<|aA ?_;cases h41;exact⟨rfl,_,frE<|.cons rfl<|.cons rfl<|.cons rfl .nil,rfl⟩
       ·rintro _ _ _ hq
        obtain⟨rfl,e43,rfl,rfl⟩:=hq;refine aF u rfl (fun hc u=> ?_)<|fun hc u=> ?_
        ·refine aB<|aC<|wu rfl<|wu rfl ?_;obtain⟨y44,h44,u⟩:=bs u;refine bT (f:=aP) rfl (.no _) rfl h44 (bN _)<|wu rfl<|wu rfl ?_;obtain⟨r45,h45,u⟩:=bs u;refine wcD (lZ<|ih_r10_Linear _ _ _ h45) rfl rfl (.cons rfl<|.cons rfl .nil)<|wu rfl<|aA<|aB<|aB<|aC<|wu rfl<|aA<|aO ?_;obtain⟨o54,h54,u⟩:=bs u;refine bV (fun e=>aB6 _ _ _ _ _ h54 e s _ J) (.cons rfl<|.cons rfl<|.cons rfl<|.cons rfl .nil) ?_
         rintro _ _ _ hq
         obtain⟨rfl,e56,rfl,rfl⟩:=hq;refine aB<|aC<|wu rfl<|wu rfl<|aA<|aK ?_;cases u;exact⟨rfl,_,fun _=>rfl,aY rfl rfl rfl rfl J.ext⟩
        ·refine aJ<|aB<|aC<|wu rfl<|aA<|aK ?_;cases u;exact⟨rfl,_,fun _=>rfl,aY rfl rfl rfl rfl J.ext⟩
 ·intro _f0 _f1 ih_r10_Linear ih_r10_Linear_l0 e1 k2 is30 i31 o u;intro e s sv J;refine bM<|aB<|aB<|aC<|wu rfl<|wu rfl<|wu rfl<|bI (f:=aZ) (l:=e1.aT) rfl (.no _)<|wu rfl<|aA ?_;refine aF u rfl (fun hc u=> ?_)<|fun hc u=> ?_
  ·refine aJ<|aB<|aO<|aC<|wu rfl<|wu rfl ?_;obtain⟨c32,h32,u⟩:=bs u;refine aW 10 [(1,(.str k2)),(2,(.aG (aM e1) 0)),(6,(.i i31)),(112,(.bool c32))] sv ?_<|fun e=> ?_
   ·refine aX (t:=102) rfl (fun hc=> ?_)<|fun hc=> ?_
    ·replace h32:=bE hc h32
     iterate 3 refine wu rfl ?_
     obtain⟨y33,h33,h32⟩:=bs h32;refine bT (f:=aZ) rfl (.no _) rfl h33 (fD _)<|wu rfl<|wu rfl<|wu rfl ?_;obtain⟨r34,h34,h32⟩:=bs h32;refine wcD (iA h34) rfl rfl (.cons rfl<|.cons rfl .nil)<|wu rfl<|wu rfl<|aA ?_;cases h32;exact Kept.mk rfl<|.cons rfl<|.cons rfl<|.cons rfl<|.cons rfl .nil
    ·replace h32:=bC hc h32;refine wu rfl<|wu rfl<|wu rfl<|wu rfl<|wu rfl<|wu rfl<|wu rfl<|wu rfl<|wu rfl<|wu rfl<|aA ?_;cases h32;exact Kept.mk rfl<|.cons rfl<|.cons rfl<|.cons rfl<|.cons rfl .nil
   ·refine wu rfl ?_;obtain⟨c35,h35,u⟩:=bs u;refine aW 9 [(1,(.str k2)),(2,(.aG (aM e1) 0)),(6,(.i i31)),(122,(.bool c35))] sv ?_<|fun e=> ?_
    ·refine aX (t:=113) rfl (fun hc=> ?_)<|fun hc=> ?_
     ·replace h35:=bE hc h35
      iterate 3 refine wu rfl ?_
      obtain⟨y36,h36,h35⟩:=bs h35;refine bT (f:=aZ) rfl (.no _) rfl h36 (fD _)<|wu rfl<|wu rfl<|wu rfl ?_;obtain⟨r37,h37,h35⟩:=bs h35;refine wcD (lZ<|ih_r10_Linear _ _ _ h37) rfl rfl (.cons rfl<|.cons rfl .nil)<|wu rfl<|aA ?_;cases h35;exact Kept.mk rfl<|.cons rfl<|.cons rfl<|.cons rfl<|.cons rfl .nil
     ·replace h35:=bC hc h35;refine wu rfl<|wu rfl<|wu rfl<|wu rfl<|wu rfl<|wu rfl<|wu rfl<|wu rfl<|wu rfl<|aA ?_;cases h35;exact Kept.mk rfl<|.cons rfl<|.cons rfl<|.cons rfl<|.cons rfl .nil
    ·refine wu rfl<|aA<|aC<|wu rfl<|wu rfl<|wu rfl<|aA ?_;exact bV (fun e=>ih_r10_Linear_l0 _ _ _ _ _ u e s _ J) (.cons rfl<|.cons rfl<|.cons rfl<|.cons rfl .nil)<|fun _ _ _ h=>h
  ·refine bY ?_;cases u;exact⟨rfl,_,frE<|.cons rfl .nil,rfl⟩
theorem aFE: ∀(e1:Expr)(k2:Str)(r:Bool),eN e1 k2=some r→xB e1 k2 r:=aDX.1
theorem rB{e1:Expr}{k2:Str}{r:Bool}(h:eN e1 k2=some r):Pf PP 85 [(aM e1),(.str k2)] (.bool r):=lZ (aFE e1 k2 r h)
noncomputable def mK(e1:Expr)(k2:Str)(i58:Int):Option (Ctl (List Int) Unit):=
 (if(decide (i58<(e1.aT.length:Int)))=true then((idx e1.aT i58)>>=fun y59=>
 ((kP y59.body k2)>>=fun r60=>
 ((if r60.2=true then((idx e1.aT i58)>>=fun y62=>
 ((j0 y62.names k2)>>=fun r63=>
 some (!r63)))
 else some false:Option Bool)>>=fun c61=>
 (if c61=true then((dU (IntKind.wrap .i64 ((1)+i58)) r60.1)>>=fun r64=>
 some (.ret r64))
 else mK (nf e1) (nf k2) (IntKind.wrap .i64 (i58+(1)))))))
 else some (.nx ()))
 partial_fixpoint
abbrev aAv(e1:Expr)(k2:Str)(i58:Int)(o:(Ctl (List Int) Unit)):Prop:= ∀(e:Env)(s sv:ASt),St [] [] s sv [] []→Wk PP none Code.aTi ⟨bB e [(1,(.str k2)),(2,(.aG (aM e1) 0)),(16,(.i i58))],[]⟩ sv (fun ex fr s'=>(match o with| .ret oq0=>ex= .ret∧nQ PP Code.c50 (VQ (slA 1<|oq0.map<|AV.i)<|Ext [] [] s) ex fr s'| .nx oq1=>ex= .exit 3∧ ∃(e:Env),fr=⟨bB e [],[]⟩∧sv=s'))
theorem aEo: ∀(e1:Expr)(k2:Str)(i58:Int)(o:(Ctl (List Int) Unit)),mK e1 k2 i58=some o→aAv e1 k2 i58 o:=by
 refine mK.partial_correctness (aAv) ?_;intro _f ih_r10_Flaw_l1 e1 k2 i58 o u;intro e s sv J;refine bM<|aB<|aB<|aC<|wu rfl<|wu rfl<|wu rfl<|bI (f:=aZ) (l:=e1.aT) rfl (.no _)<|wu rfl<|aA ?_;refine aF u rfl (fun hc u=> ?_)<|fun hc u=> ?_
 ·refine aJ<|aB<|aO<|aB<|aC<|wu rfl<|wu rfl<|wu rfl ?_;obtain⟨y59,h59,u⟩:=bs u;refine bT (f:=aZ) rfl (.no _) rfl h59 (fD _)<|wu rfl<|wu rfl<|wu rfl ?_;obtain⟨r60,h60,u⟩:=bs u;refine wcD (wN h60) rfl rfl (.cons rfl<|.cons rfl .nil)<|wu rfl<|wu rfl<|wu rfl<|wu rfl<|wu rfl<|aA<|aB<|aC<|wu rfl<|wu rfl ?_;obtain⟨c61,h61,u⟩:=bs u;refine aW 10 [(1,(.str k2)),(2,(.aG (aM e1) 0)),(16,(.i i58)),(17,(slA 1<|r60.1.map<|AV.i)),(230,(.bool c61))] sv ?_<|fun e=> ?_
  ·refine aX (t:=220) rfl (fun hc=> ?_)<|fun hc=> ?_
   ·replace h61:=bE hc h61
    iterate 3 refine wu rfl ?_
    obtain⟨y62,h62,h61⟩:=bs h61;refine bT (f:=aZ) rfl (.no _) rfl h62 (fD _)<|wu rfl<|wu rfl<|wu rfl ?_;obtain⟨r63,h63,h61⟩:=bs h61;refine wcD (iA h63) rfl rfl (.cons rfl<|.cons rfl .nil)<|wu rfl<|wu rfl<|aA ?_;cases h61;exact Kept.mk rfl<|.cons rfl<|.cons rfl<|.cons rfl<|.cons rfl<|.cons rfl .nil
   ·replace h61:=bC hc h61;refine wu rfl<|wu rfl<|wu rfl<|wu rfl<|wu rfl<|wu rfl<|wu rfl<|wu rfl<|wu rfl<|wu rfl<|aA ?_;cases h61;exact Kept.mk rfl<|.cons rfl<|.cons rfl<|.cons rfl<|.cons rfl<|.cons rfl .nil
  ·refine aA ?_;refine aF u rfl (fun hc u=> ?_)<|fun hc u=> ?_
   ·refine aB<|aC<|wu rfl<|wu rfl<|wu rfl ?_;obtain⟨r64,h64,u⟩:=bs u;refine wcD (dW h64) rfl rfl (.cons rfl<|.cons rfl .nil)<|wu rfl<|aA<|aK ?_;cases u;exact⟨rfl,⟨rfl,_,fun _=>rfl,eJ rfl (.no _) J.ext⟩⟩
   ·refine aJ<|aC<|wu rfl<|wu rfl<|wu rfl<|aA ?_;exact bV (fun e=>ih_r10_Flaw_l1 _ _ _ _ u e s _ J) (.cons rfl<|.cons rfl<|.cons rfl .nil)<|fun _ _ _ h=>h
 ·refine bY ?_;cases u;exact⟨rfl,_,frE .nil,rfl⟩
mutual
noncomputable def jE (e1:Expr) (k2:Str):Option (List Int):=
 (if(e1.kind==(18))=true then(if(e1.s==k2)=true then((idx e1.l (0))>>=fun y3=>
 ((jT y3 k2)>>=fun r4=>
 ((dU (0) r4.1)>>=fun r5=>
 some r5)))
 else some ([]:(List Int)))
 else(if(e1.kind==(6))=true then((idx e1.l (0))>>=fun y6=>
 ((pD y6 k2)>>=fun r7=>
 (if r7=true then((idx e1.l (0))>>=fun y8=>
 ((rE y8 k2)>>=fun r9=>
 (if(!r9)=true then((idx e1.l (0))>>=fun y10=>
 ((jE (nf y10) (nf k2))>>=fun r11=>
 ((dU (0) r11)>>=fun r12=>
 some r12)))
 else((idx e1.l (1))>>=fun y13=>
 ((kP y13 k2)>>=fun r14=>
 ((dU (1) r14.1)>>=fun r15=>
 some r15))))))
 else((idx e1.l (0))>>=fun y16=>
 ((jT y16 k2)>>=fun r17=>
 (if r17.2=true then((dU (0) r17.1)>>=fun r18=>
 some r18)
 else((idx e1.names (0))>>=fun y19=>
 (if(!(y19==k2))=true then((idx e1.l (1))>>=fun y20=>
 ((jE (nf y20) (nf k2))>>=fun r21=>
 ((dU (1) r21)>>=fun r22=>
 some r22)))
 else some ([]:(List Int))))))))))
 else(if(e1.kind==(8))=true then((idx e1.l (0))>>=fun y23=>
 ((jT y23 k2)>>=fun r24=>
 (if r24.2=true then((dU (0) r24.1)>>=fun r25=>
 some r25)
 else((idx e1.l (1))>>=fun y26=>
 ((eN y26 k2)>>=fun r27=>
 (if(!r27)=true then((idx e1.l (1))>>=fun y28=>
 ((jE (nf y28) (nf k2))>>=fun r29=>
 ((dU (1) r29)>>=fun r30=>
 some r30)))
 else((idx e1.l (2))>>=fun y31=>
 ((jE (nf y31) (nf k2))>>=fun r32=>
 ((dU (2) r32)>>=fun r33=>
 some r33)))))))))
 else(if(e1.kind==(11))=true then((idx e1.l (0))>>=fun y34=>
 ((jT y34 k2)>>=fun r35=>
 (if r35.2=true then((dU (0) r35.1)>>=fun r36=>
 some r36)
 else((oV e1 k2 (0))>>=fun o45=>
 (match o45 with
 | .ret q46=>some q46
 | .nx q47=>some ([]:(List Int)))))))
 else(((if(e1.kind==(14))=true then some (e1.kind==(14))
 else(if(e1.kind==(15))=true then some (e1.kind==(15))
 else some (e1.kind==(16)))):Option Bool)>>=fun o50=>
 (if o50=true then((idx e1.l (0))>>=fun y53=>
 ((eN y53 k2)>>=fun r54=>
 (if(!r54)=true then((idx e1.l (0))>>=fun y55=>
 ((jE (nf y55) (nf k2))>>=fun r56=>
 ((dU (0) r56)>>=fun r57=>
 some r57)))
 else((mK e1 k2 (0))>>=fun o65=>
 (match o65 with
 | .ret q66=>some q66
 | .nx q67=>some ([]:(List Int)))))))
 else some ([]:(List Int))))))))
 partial_fixpoint
noncomputable def oV (e1:Expr) (k2:Str) (i37:Int):Option (Ctl (List Int) Unit):=
 (if(decide (i37<(e1.aT.length:Int)))=true then((idx e1.aT i37)>>=fun y38=>
 ((j0 y38.names k2)>>=fun r39=>
 (if r39=true then some (.ret [(IntKind.wrap .i64 ((1)+i37))])
 else((idx e1.aT i37)>>=fun y40=>
 ((eN y40.body k2)>>=fun r41=>
 (if(!r41)=true then((idx e1.aT i37)>>=fun y42=>
 ((jE y42.body (nf k2))>>=fun r43=>
 ((dU (IntKind.wrap .i64 ((1)+i37)) r43)>>=fun r44=>
 some (.ret r44))))
 else oV (nf e1) (nf k2) (IntKind.wrap .i64 (i37+(1)))))))))
 else some (.nx ()))
 partial_fixpoint
end
abbrev aA0(e1:Expr)(k2:Str)(r:(List Int)):Prop:= ∀s:ASt,Fc PP (.func 50) [(aM e1),(.str k2)] s (bW s<|slA 1<|r.map<|AV.i)
abbrev aAD(e1:Expr)(k2:Str)(i37:Int)(o:(Ctl (List Int) Unit)):Prop:= ∀(e:Env)(s sv:ASt),St [] [] s sv [] []→Wk PP none Code.aS6 ⟨bB e [(1,(.str k2)),(2,(.aG (aM e1) 0)),(15,(.i i37))],[]⟩ sv (fun ex fr s'=>(match o with| .ret oq0=>ex= .ret∧nQ PP Code.c50 (VQ (slA 1<|oq0.map<|AV.i)<|Ext [] [] s) ex fr s'| .nx oq1=>ex= .exit 1∧ ∃(e:Env),fr=⟨bB e [],[]⟩∧sv=s'))
theorem mV{e1:Expr}{k2:Str}{r:(List Int)}(h: ∀s:ASt,Fc PP (.func 50) [(aM e1),(.str k2)] s<|bW s<|slA 1<|r.map<|AV.i):Pf PP 50 [(aM e1),(.str k2)] (slA 1<|r.map<|AV.i):=Pf.cB (h _) (iC (fun _=>rfl) _) (.cons (cC _)<|.cons ⟨rfl,rfl⟩ .nil)
theorem aGY:(∀(e1:Expr)(k2:Str)(r:(List Int)),jE e1 k2=some r→aA0 e1 k2 r)∧
  (∀(e1:Expr)(k2:Str)(i37:Int)(o:(Ctl (List Int) Unit)),oV e1 k2 i37=some o→aAD e1 k2 i37 o):=by
 refine jE.mutual_partial_correctness aA0 aAD ?_ ?_
 ·intro _f0 _f1 ih_r10_Flaw ih_r10_Flaw_l0 e1 k2 r u;intro s;refine bD rfl rfl rfl ?_;have J:=St.clean s;generalize aU s=σ1 at J⊢;refine aB<|aC<|wu rfl<|wu rfl<|aA<|aB<|aB<|aC<|wu rfl<|wu rfl<|aA<|aO<|aB<|aC ?_;refine wu rfl<|wu rfl<|aA ?_;refine aF u rfl (fun hc u=> ?_)<|fun hc u=> ?_
  ·refine aB<|aC<|wu rfl<|wu rfl<|wu rfl<|wu rfl<|aA ?_;refine aF u rfl (fun hc u=> ?_)<|fun hc u=> ?_
   ·refine aB<|aC<|wu rfl<|wu rfl ?_;obtain⟨y3,hy3,u⟩:=bs u;refine bT (f:=aP) rfl (.no _) rfl hy3 (bN _)<|wu rfl<|wu rfl ?_;obtain⟨r4,hr4,u⟩:=bs u;refine wcD (rN hr4) rfl rfl (.cons rfl<|.cons rfl .nil)<|wu rfl<|wu rfl<|wu rfl<|wu rfl<|wu rfl<|aA<|aB<|aC<|wu rfl ?_;obtain⟨r5,hr5,u⟩:=bs u;refine wcD (dW hr5) rfl rfl (.cons rfl<|.cons rfl .nil)<|wu rfl<|aA<|aK ?_;cases u;exact⟨rfl,_,fun _=>rfl,eJ rfl (.no _) J.ext⟩
   ·refine aJ<|aB<|aC<|wu rfl<|aA<|aK ?_;cases u;exact⟨rfl,_,fun _=>rfl,eJ rfl (.full<|.inr rfl) J.ext⟩
  ·refine aB<|aC<|wu rfl<|wu rfl<|aA ?_;refine aF u rfl (fun hc u=> ?_)<|fun hc u=> ?_
   ·refine aB<|aB<|aC<|wu rfl<|wu rfl ?_;obtain⟨y6,hy6,u⟩:=bs u;refine bT (f:=aP) rfl (.no _) rfl hy6 (bN _)<|wu rfl<|wu rfl ?_;obtain⟨r7,hr7,u⟩:=bs u;refine wcD (uJ hr7) rfl rfl (.cons rfl<|.cons rfl .nil)<|aA ?_;refine aF u rfl (fun hc u=> ?_)<|fun hc u=> ?_
    ·refine aB<|aB<|aC<|wu rfl<|wu rfl ?_;obtain⟨y8,hy8,u⟩:=bs u;refine bT (f:=aP) rfl (.no _) rfl hy8 (bN _)<|wu rfl<|wu rfl ?_;obtain⟨r9,hr9,u⟩:=bs u;refine wcD (zN hr9) rfl rfl (.cons rfl<|.cons rfl .nil)<|wu rfl<|aA ?_;refine aF u rfl (fun hc u=> ?_)<|fun hc u=> ?_
     ·refine aB<|aC<|wu rfl<|wu rfl ?_;obtain⟨y10,h10,u⟩:=bs u;refine bT (f:=aP) rfl (.no _) rfl h10 (bN _)<|wu rfl<|wu rfl ?_;obtain⟨r11,h11,u⟩:=bs u;refine wcD (mV<|ih_r10_Flaw _ _ _ h11) rfl rfl (.cons rfl<|.cons rfl .nil) ?_;obtain⟨r12,h12,u⟩:=bs u;refine wcD (dW h12) rfl rfl (.cons rfl<|.cons rfl .nil)<|wu rfl<|aA<|aK ?_;cases u;exact⟨rfl,_,fun _=>rfl,eJ rfl (.no _) J.ext⟩
     ·refine aJ<|aB<|aC<|wu rfl<|wu rfl ?_;obtain⟨y13,h13,u⟩:=bs u;refine bT (f:=aP) rfl (.no _) rfl h13 (bN _)<|wu rfl<|wu rfl ?_;obtain⟨r14,h14,u⟩:=bs u;refine wcD (wN h14) rfl rfl (.cons rfl<|.cons rfl .nil)<|wu rfl<|wu rfl<|wu rfl<|wu rfl<|wu rfl<|aA<|aB<|aC<|wu rfl ?_;obtain⟨r15,h15,u⟩:=bs u;refine wcD (dW h15) rfl rfl (.cons rfl<|.cons rfl .nil)<|wu rfl<|aA<|aK ?_;cases u;exact⟨rfl,_,fun _=>rfl,eJ rfl (.no _) J.ext⟩
    ·refine aJ<|aB<|aB<|aC<|wu rfl<|wu rfl ?_;obtain⟨y16,h16,u⟩:=bs u;refine bT (f:=aP) rfl (.no _) rfl h16 (bN _)<|wu rfl<|wu rfl ?_;obtain⟨r17,h17,u⟩:=bs u;refine wcD (rN h17) rfl rfl (.cons rfl<|.cons rfl .nil)<|wu rfl<|wu rfl<|wu rfl<|wu rfl<|wu rfl<|aA<|aB<|aC<|wu rfl<|aA ?_;refine aF u rfl (fun hc u=> ?_)<|fun hc u=> ?_
     ·refine aB<|aC<|wu rfl ?_;obtain⟨r18,h18,u⟩:=bs u;refine wcD (dW h18) rfl rfl (.cons rfl<|.cons rfl .nil)<|wu rfl<|aA<|aK ?_;cases u;exact⟨rfl,_,fun _=>rfl,eJ rfl (.no _) J.ext⟩
     ·refine aJ<|aB<|aC<|wu rfl<|wu rfl ?_;obtain⟨y19,h19,u⟩:=bs u;refine bT (f:=AV.str) rfl (.no _) rfl h19 rfl<|wu rfl<|wu rfl<|wu rfl<|aA ?_;refine aF u rfl (fun hc u=> ?_)<|fun hc u=> ?_
      ·refine aB<|aC<|wu rfl<|wu rfl ?_;obtain⟨y20,h20,u⟩:=bs u;refine bT (f:=aP) rfl (.no _) rfl h20 (bN _)<|wu rfl<|wu rfl ?_;obtain⟨r21,h21,u⟩:=bs u;refine wcD (mV<|ih_r10_Flaw _ _ _ h21) rfl rfl (.cons rfl<|.cons rfl .nil) ?_;obtain⟨r22,h22,u⟩:=bs u;refine wcD (dW h22) rfl rfl (.cons rfl<|.cons rfl .nil)<|wu rfl<|aA<|aK ?_;cases u;exact⟨rfl,_,fun _=>rfl,eJ rfl (.no _) J.ext⟩
      ·refine aJ<|aB<|aC<|wu rfl<|aA<|aK ?_;cases u;exact⟨rfl,_,fun _=>rfl,eJ rfl (.full<|.inr rfl) J.ext⟩
   ·refine aB<|aC<|wu rfl<|wu rfl<|aA ?_;refine aF u rfl (fun hc u=> ?_)<|fun hc u=> ?_
    ·refine aB<|aB<|aC<|wu rfl<|wu rfl ?_;obtain⟨y23,h23,u⟩:=bs u;refine bT (f:=aP) rfl (.no _) rfl h23 (bN _)<|wu rfl<|wu rfl ?_;obtain⟨r24,h24,u⟩:=bs u;refine wcD (rN h24) rfl rfl (.cons rfl<|.cons rfl .nil)<|wu rfl<|wu rfl<|wu rfl<|wu rfl<|wu rfl<|aA<|aB<|aC<|wu rfl<|aA ?_;refine aF u rfl (fun hc u=> ?_)<|fun hc u=> ?_
     ·refine aB<|aC<|wu rfl ?_;obtain⟨r25,h25,u⟩:=bs u;refine wcD (dW h25) rfl rfl (.cons rfl<|.cons rfl .nil)<|wu rfl<|aA<|aK ?_;cases u;exact⟨rfl,_,fun _=>rfl,eJ rfl (.no _) J.ext⟩
     ·refine aJ<|aB<|aB<|aC<|wu rfl<|wu rfl ?_;obtain⟨y26,h26,u⟩:=bs u;refine bT (f:=aP) rfl (.no _) rfl h26 (bN _)<|wu rfl<|wu rfl ?_;obtain⟨r27,h27,u⟩:=bs u;refine wcD (rB h27) rfl rfl (.cons rfl<|.cons rfl .nil)<|wu rfl<|aA ?_;refine aF u rfl (fun hc u=> ?_)<|fun hc u=> ?_
      ·refine aB<|aC<|wu rfl<|wu rfl ?_;obtain⟨y28,h28,u⟩:=bs u;refine bT (f:=aP) rfl (.no _) rfl h28 (bN _)<|wu rfl<|wu rfl ?_;obtain⟨r29,h29,u⟩:=bs u;refine wcD (mV<|ih_r10_Flaw _ _ _ h29) rfl rfl (.cons rfl<|.cons rfl .nil) ?_;obtain⟨r30,h30,u⟩:=bs u;refine wcD (dW h30) rfl rfl (.cons rfl<|.cons rfl .nil)<|wu rfl<|aA<|aK ?_;cases u;exact⟨rfl,_,fun _=>rfl,eJ rfl (.no _) J.ext⟩
      ·refine aJ<|aB<|aC<|wu rfl<|wu rfl ?_;obtain⟨y31,h31,u⟩:=bs u;refine bT (f:=aP) rfl (.no _) rfl h31 (bN _)<|wu rfl<|wu rfl ?_;obtain⟨r32,h32,u⟩:=bs u;refine wcD (mV<|ih_r10_Flaw _ _ _ h32) rfl rfl (.cons rfl<|.cons rfl .nil) ?_;obtain⟨r33,h33,u⟩:=bs u;refine wcD (dW h33) rfl rfl (.cons rfl<|.cons rfl .nil)<|wu rfl<|aA<|aK ?_;cases u;exact⟨rfl,_,fun _=>rfl,eJ rfl (.no _) J.ext⟩
    ·refine aB<|aC<|wu rfl<|wu rfl<|aA ?_;refine aF u rfl (fun hc u=> ?_)<|fun hc u=> ?_
     ·refine aB<|aB<|aC<|wu rfl<|wu rfl ?_;obtain⟨y34,h34,u⟩:=bs u;refine bT (f:=aP) rfl (.no _) rfl h34 (bN _)<|wu rfl<|wu rfl ?_;obtain⟨r35,h35,u⟩:=bs u;refine wcD (rN h35) rfl rfl (.cons rfl<|.cons rfl .nil)<|wu rfl<|wu rfl<|wu rfl<|wu rfl<|wu rfl<|aA<|aB<|aC<|wu rfl<|aA ?_;refine aF u rfl (fun hc u=> ?_)<|fun hc u=> ?_
      ·refine aB<|aC<|wu rfl ?_;obtain⟨r36,h36,u⟩:=bs u;refine wcD (dW h36) rfl rfl (.cons rfl<|.cons rfl .nil)<|wu rfl<|aA<|aK ?_;cases u;exact⟨rfl,_,fun _=>rfl,eJ rfl (.no _) J.ext⟩
      ·refine aJ<|aB<|aC<|wu rfl<|aA<|aO ?_;obtain⟨o45,h45,u⟩:=bs u;refine bV (fun e=>ih_r10_Flaw_l0 _ _ _ _ h45 e s _ J) (.cons rfl<|.cons rfl<|.cons rfl .nil) ?_
       rintro _ _ _ hq
       rcases o45 with q46|q47
       ·obtain⟨rfl,hq⟩:=hq;cases u;exact hq
       ·obtain⟨rfl,e49,rfl,rfl⟩:=hq;refine aB<|aC<|wu rfl<|aA<|aK ?_;cases u;exact⟨rfl,_,fun _=>rfl,eJ rfl (.full<|.inr rfl) J.ext⟩
     ·refine aB<|aB<|aC<|wu rfl<|wu rfl<|aA ?_;obtain⟨o50,h50,u⟩:=bs u;refine Wk.mono (Q:=fun ex fr s'=>ex= .normal∧ ∃(e:Env),fr=⟨bB e [(1,(.str k2)),(2,(.aG (aM e1) 0)),(183,(.bool o50))],[]⟩∧σ1=s') ?_ ?_
      ·refine aF h50 rfl (fun hc h50=> ?_)<|fun hc h50=> ?_
       ·refine aJ ?_;cases h50;exact⟨rfl,_,frE<|.cons rfl<|.cons rfl<|.cons rfl .nil,rfl⟩
       ·refine aB<|aC<|wu rfl<|wu rfl<|aA ?_;refine aF h50 rfl (fun hc h50=> ?_)<|fun hc h50=> ?_
        ·refine aJ ?_;cases h50;exact⟨rfl,_,frE<|.cons rfl<|.cons rfl<|.cons rfl .nil,rfl⟩
        ·refine aC<|wu rfl<|wu rfl<|aA ?_;cases h50;exact⟨rfl,_,frE<|.cons rfl<|.cons rfl<|.cons rfl .nil,rfl⟩
      ·rintro _ _ _ hq
       obtain⟨rfl,e52,rfl,rfl⟩:=hq;refine aF u rfl (fun hc u=> ?_)<|fun hc u=> ?_
       ·refine aB<|aB<|aC<|wu rfl<|wu rfl ?_;obtain⟨y53,h53,u⟩:=bs u;refine bT (f:=aP) rfl (.no _) rfl h53 (bN _)<|wu rfl<|wu rfl ?_;obtain⟨r54,h54,u⟩:=bs u;refine wcD (rB h54) rfl rfl (.cons rfl<|.cons rfl .nil)<|wu rfl<|aA ?_;refine aF u rfl (fun hc u=> ?_)<|fun hc u=> ?_
        ·refine aB<|aC<|wu rfl<|wu rfl ?_;obtain⟨y55,h55,u⟩:=bs u;refine bT (f:=aP) rfl (.no _) rfl h55 (bN _)<|wu rfl<|wu rfl ?_;obtain⟨r56,h56,u⟩:=bs u;refine wcD (mV<|ih_r10_Flaw _ _ _ h56) rfl rfl (.cons rfl<|.cons rfl .nil) ?_;obtain⟨r57,h57,u⟩:=bs u;refine wcD (dW h57) rfl rfl (.cons rfl<|.cons rfl .nil)<|wu rfl<|aA<|aK ?_;cases u;exact⟨rfl,_,fun _=>rfl,eJ rfl (.no _) J.ext⟩
        ·refine aJ<|aB<|aC<|wu rfl<|aA<|aO ?_;obtain⟨o65,h65,u⟩:=bs u;refine bV (fun e=>aEo _ _ _ _ h65 e s _ J) (.cons rfl<|.cons rfl<|.cons rfl .nil) ?_
         rintro _ _ _ hq
         rcases o65 with q66|q67
         ·obtain⟨rfl,hq⟩:=hq;cases u;exact hq
         ·obtain⟨rfl,e69,rfl,rfl⟩:=hq;refine aB<|aC<|wu rfl<|aA<|aK ?_;cases u;exact⟨rfl,_,fun _=>rfl,eJ rfl (.full<|.inr rfl) J.ext⟩
       ·refine aJ<|aB<|aC<|wu rfl<|aA<|aK ?_;cases u;exact⟨rfl,_,fun _=>rfl,eJ rfl (.full<|.inr rfl) J.ext⟩
 ·intro _f0 _f1 ih_r10_Flaw ih_r10_Flaw_l0 e1 k2 i37 o u;intro e s sv J;refine bM<|aB<|aB<|aC<|wu rfl<|wu rfl<|wu rfl<|bI (f:=aZ) (l:=e1.aT) rfl (.no _)<|wu rfl<|aA ?_;refine aF u rfl (fun hc u=> ?_)<|fun hc u=> ?_
  ·refine aJ<|aB<|aO<|aB<|aB<|aC<|wu rfl<|wu rfl<|wu rfl ?_;obtain⟨y38,h38,u⟩:=bs u;refine bT (f:=aZ) rfl (.no _) rfl h38 (fD _)<|wu rfl<|wu rfl<|wu rfl ?_;obtain⟨r39,h39,u⟩:=bs u;refine wcD (iA h39) rfl rfl (.cons rfl<|.cons rfl .nil)<|aA ?_;refine aF u rfl (fun hc u=> ?_)<|fun hc u=> ?_
   ·refine aB<|aC<|wu rfl<|wu rfl ?_;refine mJ (f:=(AV.i)) (l:= [(IntKind.wrap .i64<|(1)+i37)]) rfl (.cons rfl .nil) rfl (fun _=>rfl) rfl rfl (by decide) ?_;refine wu rfl<|aA<|aK ?_;cases u;exact⟨rfl,⟨rfl,_,fun _=>rfl,eJ rfl (.full<|.inl rfl) J.ext⟩⟩
   ·refine aJ<|aB<|aC<|wu rfl<|wu rfl<|wu rfl ?_;obtain⟨y40,h40,u⟩:=bs u;refine bT (f:=aZ) rfl (.no _) rfl h40 (fD _)<|wu rfl<|wu rfl<|wu rfl ?_;obtain⟨r41,h41,u⟩:=bs u;refine wcD (rB h41) rfl rfl (.cons rfl<|.cons rfl .nil)<|wu rfl<|aA ?_;refine aF u rfl (fun hc u=> ?_)<|fun hc u=> ?_
    ·refine aB<|aC<|wu rfl<|wu rfl<|wu rfl<|wu rfl<|wu rfl ?_;obtain⟨y42,h42,u⟩:=bs u;refine bT (f:=aZ) rfl (.no _) rfl h42 (fD _)<|wu rfl<|wu rfl<|wu rfl ?_;obtain⟨r43,h43,u⟩:=bs u;refine wcD (mV<|ih_r10_Flaw _ _ _ h43) rfl rfl (.cons rfl<|.cons rfl .nil) ?_;obtain⟨r44,h44,u⟩:=bs u;refine wcD (dW h44) rfl rfl (.cons rfl<|.cons rfl .nil)<|wu rfl<|aA<|aK ?_;cases u;exact⟨rfl,⟨rfl,_,fun _=>rfl,eJ rfl (.no _) J.ext⟩⟩
    ·refine aJ<|aC<|wu rfl<|wu rfl<|wu rfl<|aA ?_;exact bV (fun e=>ih_r10_Flaw_l0 _ _ _ _ u e s _ J) (.cons rfl<|.cons rfl<|.cons rfl .nil)<|fun _ _ _ h=>h
  ·refine bY ?_;cases u;exact⟨rfl,_,frE .nil,rfl⟩
theorem aH5: ∀(e1:Expr)(k2:Str)(r:(List Int)),jE e1 k2=some r→aA0 e1 k2 r:=aGY.1
theorem aJU{e1:Expr}{k2:Str}{r:(List Int)}(h:jE e1 k2=some r):Pf PP 50 [(aM e1),(.str k2)] (slA 1<|r.map<|AV.i):=mV (aH5 e1 k2 r h)
noncomputable def qT(b1:Expr)(k2:Str):Option Int:=
 ((g8 b1)>>=fun r3=>
 (if(r3 !=(0))=true then some r3
 else((nJ k2)>>=fun r4=>
 (if(!r4)=true then some (4)
 else((eN b1 k2)>>=fun r5=>
 (if(!r5)=true then some (10)
 else some (0)))))))
theorem aFP: ∀(b1:Expr)(k2:Str)(r:Int),qT b1 k2=some r→ ∀s:ASt,Fc PP (.func 49) [(aM b1),(.str k2)] s (bW s<|.i r):=by
 intro b1 k2 r u;unfold qT at u;intro s;refine bD rfl rfl rfl ?_;have J:=St.clean s;generalize aU s=σ1 at J⊢;refine aB<|aC<|wu rfl<|wu rfl<|aA<|aB<|aB<|aC<|wu rfl ?_;obtain⟨r3,hr3,u⟩:=bs u;refine wcD (aBM hr3) rfl rfl (.cons rfl .nil)<|wu rfl<|aA<|aB<|aC<|wu rfl<|wu rfl<|aA ?_;refine aF u rfl (fun hc u=> ?_)<|fun hc u=> ?_
 ·refine aB<|aC<|wu rfl<|wu rfl<|aA<|aK ?_;cases u;exact⟨rfl,_,fun _=>rfl,aY rfl rfl rfl rfl J.ext⟩
 ·refine aJ<|aB<|aB<|aC<|wu rfl ?_;obtain⟨r4,hr4,u⟩:=bs u;refine wcD (sQ hr4) rfl rfl (.cons rfl .nil)<|wu rfl<|aA ?_;refine aF u rfl (fun hc u=> ?_)<|fun hc u=> ?_
  ·refine aB<|aC<|wu rfl<|aA<|aK ?_;cases u;exact⟨rfl,_,fun _=>rfl,aY rfl rfl rfl rfl J.ext⟩
  ·refine aJ<|aB<|aB<|aC<|wu rfl<|wu rfl ?_;obtain⟨r5,hr5,u⟩:=bs u;refine wcD (rB hr5) rfl rfl (.cons rfl<|.cons rfl .nil)<|wu rfl<|aA ?_;refine aF u rfl (fun hc u=> ?_)<|fun hc u=> ?_
   ·refine aB<|aC<|wu rfl<|aA<|aK ?_;cases u;exact⟨rfl,_,fun _=>rfl,aY rfl rfl rfl rfl J.ext⟩
   ·refine aJ<|aB<|aC<|wu rfl<|aA<|aK ?_;cases u;exact⟨rfl,_,fun _=>rfl,aY rfl rfl rfl rfl J.ext⟩
theorem aAB{b1:Expr}{k2:Str}{r:Int}(h:qT b1 k2=some r):Pf PP 49 [(aM b1),(.str k2)] (.i r):=Pf.cB (aFP b1 k2 r h _) rfl (.cons (cC _)<|.cons ⟨rfl,rfl⟩ .nil)
noncomputable def gZ(k2:Str)(r4:(List Expr))(o5:(Int×Int))(i11:Int)(r13:(List<|List Int))(o14:(List<|List Int))(n15:Int):Option (List<|List Int):=
 (if(decide (n15<(r13.length:Int)))=true then((idx r13 n15)>>=fun y16=>
 ((dU i11 y16)>>=fun r17=>
 ((app 24 o14 [r17])>>=fun l18=>
 gZ (nf k2) (nf r4) (nf o5) (nf i11) (nf r13) l18 (IntKind.wrap .i64 (n15+(1))))))
 else some o14)
 partial_fixpoint
abbrev vL(k2:Str)(r4:(List Expr))(o5:(Int×Int))(i11:Int)(r13:(List<|List Int))(o14:(List<|List Int))(n15:Int)(o:(List<|List Int)):Prop:= ∀(e:Env)(s sv:ASt)(ow0_1:AV),St [] [] s sv [] [(ow0_1,1,(o14.map<|a0 1<|AV.i))]→Wk PP none Code.aTp ⟨bB e [(1,(.str k2)),(5,(slA 7<|r4.map aP)),(7,(.i o5.2)),(8,ow0_1),(9,(.i i11)),(10,(slA 1<|r13.map<|a0 1<|AV.i)),(11,(.i n15))],[]⟩ sv (fun ex fr s'=>ex= .exit 3∧ ∃(pw1:AV)(e:Env),fr=⟨bB e [(1,(.str k2)),(5,(slA 7<|r4.map aP)),(7,(.i o5.2)),(8,pw1),(9,(.i i11))],[]⟩∧St [] [] s s' [] [(pw1,1,(o.map<|a0 1<|AV.i))])
theorem aBV: ∀(k2:Str)(r4:(List Expr))(o5:(Int×Int))(i11:Int)(r13:(List<|List Int))(o14:(List<|List Int))(n15:Int)(o:(List<|List Int)),gZ k2 r4 o5 i11 r13 o14 n15=some o→vL k2 r4 o5 i11 r13 o14 n15 o:=by
 refine gZ.partial_correctness (vL) ?_;intro _f ih_r10_SitesOf_l0 k2 r4 o5 i11 r13 o14 n15 o u;intro e s sv ow0_1 J;refine bM<|aB<|aB<|aC<|wu rfl<|wu rfl<|bI (f:=(a0 1<|AV.i)) (l:=r13) rfl (.no _)<|wu rfl<|aA ?_;refine aF u rfl (fun hc u=> ?_)<|fun hc u=> ?_
 ·refine aJ<|aB<|aO<|aC<|wv rfl<|wu rfl<|wu rfl<|wu rfl ?_;obtain⟨y16,h16,u⟩:=bs u;refine bT (f:=(a0 1<|AV.i)) rfl (.no _) rfl h16 rfl<|wu rfl ?_;obtain⟨r17,h17,u⟩:=bs u;refine wcD (dW h17) rfl rfl (.cons rfl<|.cons rfl .nil) ?_;refine mJ (f:=(a0 1<|AV.i)) (l:= [r17]) rfl (.cons rfl .nil) rfl (fun _=>rfl) rfl rfl (by decide) ?_;obtain⟨l18,h18,u⟩:=bs u;refine wF (f:=(a0 1<|AV.i)) (xs:=o14) (ys:= [r17]) rfl J rfl (.full<|.inl rfl) h18 (by decide)<|fun w18 σ19 J=> ?_;refine wv rfl<|aA<|aC<|wu rfl<|wu rfl<|wu rfl<|aA ?_;exact bV (fun e=>ih_r10_SitesOf_l0 _ _ _ _ _ _ _ _ u e s _ w18 J) (.cons rfl<|.cons rfl<|.cons rfl<|.cons rfl<|.cons rfl<|.cons rfl<|.cons rfl .nil)<|fun _ _ _ h=>h
 ·refine bY ?_;cases u;exact⟨rfl,ow0_1,_,frE<|.cons rfl<|.cons rfl<|.cons rfl<|.cons rfl<|.cons rfl .nil,J⟩
mutual
noncomputable def g7 (e1:Expr) (k2:Str):Option (List<|List Int):=
 ((pD e1 k2)>>=fun r3=>
 (if r3=true then some [([]:(List Int))]
 else((kU e1)>>=fun r4=>
 (((if(e1.kind==(6))=true then((idx e1.l (0))>>=fun y6=>
 ((pD y6 k2)>>=fun r7=>
 (if r7=true then some ((0),(1))
 else some ((1),(r4.length:Int)))))
 else(if(e1.kind==(8))=true then(if(e1.kind==(8))=true then some ((1),(r4.length:Int))
 else some ((0),(1)))
 else(if(e1.kind==(11))=true then some ((1),(r4.length:Int))
 else some ((0),(1))))):Option (Int×Int))>>=fun o5=>
 ((eL k2 r4 o5 ([]:(List (List Int))) o5.1)>>=fun o24=>
 some o24)))))
 partial_fixpoint
noncomputable def eL (k2:Str) (r4:(List Expr)) (o5:(Int×Int)) (o10:(List<|List Int)) (i11:Int):Option (List<|List Int):=
 (if(decide (i11<o5.2))=true then((idx r4 i11)>>=fun y12=>
 ((g7 (nf y12) (nf k2))>>=fun r13=>
 ((gZ k2 r4 o5 i11 r13 o10 (0))>>=fun o20=>
 eL (nf k2) (nf r4) (nf o5) o20 (IntKind.wrap .i64 (i11+(1))))))
 else some o10)
 partial_fixpoint
end
abbrev vB(e1:Expr)(k2:Str)(r:(List<|List Int)):Prop:= ∀s:ASt,Fc PP (.func 52) [(aM e1),(.str k2)] s (bW s<|slA 1<|r.map<|a0 1<|AV.i)
abbrev vG(k2:Str)(r4:(List Expr))(o5:(Int×Int))(o10:(List<|List Int))(i11:Int)(o:(List<|List Int)):Prop:= ∀(e:Env)(s sv:ASt)(ow1_1:AV),St [] [] s sv [] [(ow1_1,1,(o10.map<|a0 1<|AV.i))]→Wk PP none Code.aS3 ⟨bB e [(1,(.str k2)),(5,(slA 7<|r4.map aP)),(7,(.i o5.2)),(8,ow1_1),(9,(.i i11))],[]⟩ sv (fun ex fr s'=>ex= .exit 1∧ ∃(pw1:AV)(e:Env),fr=⟨bB e [(8,pw1)],[]⟩∧St [] [] s s' [] [(pw1,1,(o.map<|a0 1<|AV.i))])
theorem yK{e1:Expr}{k2:Str}{r:(List<|List Int)}(h: ∀s:ASt,Fc PP (.func 52) [(aM e1),(.str k2)] s<|bW s<|slA 1<|r.map<|a0 1<|AV.i):Pf PP 52 [(aM e1),(.str k2)] (slA 1<|r.map<|a0 1<|AV.i):=Pf.cB (h _) (iC (aBH<|fun _=>rfl) _) (.cons (cC _)<|.cons ⟨rfl,rfl⟩ .nil)
theorem aDB:(∀(e1:Expr)(k2:Str)(r:(List<|List Int)),g7 e1 k2=some r→vB e1 k2 r)∧
  (∀(k2:Str)(r4:(List Expr))(o5:(Int×Int))(o10:(List<|List Int))(i11:Int)(o:(List<|List Int)),eL k2 r4 o5 o10 i11=some o→vG k2 r4 o5 o10 i11 o):=by
 refine g7.mutual_partial_correctness vB vG ?_ ?_
 ·intro _f0 ih_r10_SitesOf_l1 e1 k2 r u;intro s;refine bD rfl rfl rfl ?_;have J:=St.clean s;generalize aU s=σ1 at J⊢;refine aB<|aC<|wu rfl<|wu rfl<|aA<|aB<|aB<|aC<|wu rfl<|wu rfl ?_;obtain⟨r3,hr3,u⟩:=bs u;refine wcD (uJ hr3) rfl rfl (.cons rfl<|.cons rfl .nil)<|aA ?_;refine aF u rfl (fun hc u=> ?_)<|fun hc u=> ?_
  ·refine aB<|aC ?_;refine mJ (f:=(a0 1<|AV.i)) (l:= [([]:(List Int))]) rfl (.cons rfl .nil) rfl (fun _=>rfl) rfl rfl (by decide) ?_;refine wu rfl<|aA<|aK ?_;cases u;exact⟨rfl,_,fun _=>rfl,eJ rfl (.full<|.inl rfl) J.ext⟩
  ·refine aJ<|aB<|aC<|wu rfl ?_;obtain⟨r4,hr4,u⟩:=bs u;refine wcD (nG hr4) rfl rfl (.cons rfl .nil)<|wu rfl<|aA<|aB<|aC<|wu rfl<|bI (f:=aP) (l:=r4) rfl (.no _)<|wu rfl<|wu rfl<|aA<|aB<|aB<|aC<|wu rfl ?_;refine wu rfl<|aA<|aO<|aB<|aC<|wu rfl<|wu rfl<|aA ?_;obtain⟨o5,ho5,u⟩:=bs u;refine Wk.mono (Q:=fun ex fr s'=>ex= .normal∧ ∃(e:Env),fr=⟨bB e [(1,(.str k2)),(5,(slA 7<|r4.map aP)),(6,(.i o5.1)),(7,(.i o5.2))],[]⟩∧σ1=s') ?_ ?_
   ·refine aF ho5 rfl (fun hc ho5=> ?_)<|fun hc ho5=> ?_
    ·refine aB<|aC<|wu rfl<|aA<|aB<|aC<|wu rfl<|wu rfl ?_;obtain⟨y6,hy6,ho5⟩:=bs ho5;refine bT (f:=aP) rfl (.no _) rfl hy6 (bN _)<|wu rfl<|wu rfl ?_;obtain⟨r7,hr7,ho5⟩:=bs ho5;refine wcD (uJ hr7) rfl rfl (.cons rfl<|.cons rfl .nil)<|aA ?_;refine aF ho5 rfl (fun hc ho5=> ?_)<|fun hc ho5=> ?_
     ·refine aC<|wu rfl<|wu rfl<|aA ?_;cases ho5;exact⟨rfl,_,frE<|.cons rfl<|.cons rfl<|.cons rfl<|.cons rfl .nil,rfl⟩
     ·refine aJ ?_;cases ho5;exact⟨rfl,_,frE<|.cons rfl<|.cons rfl<|.cons rfl<|.cons rfl .nil,rfl⟩
    ·refine aB<|aB<|aC<|wu rfl<|wu rfl<|aA ?_;refine aF ho5 rfl (fun hc ho5=> ?_)<|fun hc ho5=> ?_
     ·refine aJ ?_;refine aF ho5 rfl (fun hc ho5=> ?_)<|fun hc ho5=> ?_
      ·refine aC<|wu rfl<|aA ?_;cases ho5;exact⟨rfl,_,frE<|.cons rfl<|.cons rfl<|.cons rfl<|.cons rfl .nil,rfl⟩
      ·refine aC<|wu rfl<|aA ?_;cases ho5;exact⟨rfl,_,frE<|.cons rfl<|.cons rfl<|.cons rfl<|.cons rfl .nil,rfl⟩
     ·refine aC<|wu rfl<|wu rfl<|aA ?_;refine aF ho5 rfl (fun hc ho5=> ?_)<|fun hc ho5=> ?_
      ·refine aC<|wu rfl<|aA ?_;cases ho5;exact⟨rfl,_,frE<|.cons rfl<|.cons rfl<|.cons rfl<|.cons rfl .nil,rfl⟩
      ·refine aC<|wu rfl<|aA ?_;cases ho5;exact⟨rfl,_,frE<|.cons rfl<|.cons rfl<|.cons rfl<|.cons rfl .nil,rfl⟩
   ·rintro _ _ _ hq
    obtain⟨rfl,e9,rfl,rfl⟩:=hq;refine aB<|aC<|wu rfl<|aA<|aB<|aB<|aC<|wu rfl<|wu rfl<|aA<|aO ?_;obtain⟨o24,h24,u⟩:=bs u;have J:=J.nil 0 1;refine bV (fun e=>ih_r10_SitesOf_l1 _ _ _ _ _ _ h24 e s _ (.slice 0 (([]:(List<|List Int)).map<|a0 1<|AV.i) .full) J) (.cons rfl<|.cons rfl<|.cons rfl<|.cons rfl<|.cons rfl .nil) ?_
    rintro _ _ _ hq
    obtain⟨rfl,w25_1,e26,rfl,J⟩:=hq;refine aB<|aC<|wv rfl<|wv rfl<|aA<|aK ?_;cases u;exact⟨rfl,_,fun _=>rfl,eJ rfl (J.slG 0 rfl) J.ext⟩
 ·intro _f0 _f1 ih_r10_SitesOf ih_r10_SitesOf_l1 k2 r4 o5 o10 i11 o u;intro e s sv ow1_1 J;refine bM<|aB<|aB<|aC<|wu rfl<|wu rfl<|wu rfl<|aA ?_;refine aF u rfl (fun hc u=> ?_)<|fun hc u=> ?_
  ·refine aJ<|aB<|aO<|aB<|aC<|wu rfl<|wu rfl ?_;obtain⟨y12,h12,u⟩:=bs u;refine bT (f:=aP) rfl (.no _) rfl h12 (bN _)<|wu rfl<|wu rfl ?_;obtain⟨r13,h13,u⟩:=bs u;refine wcD (yK<|ih_r10_SitesOf _ _ _ h13) rfl rfl (.cons rfl<|.cons rfl .nil)<|wu rfl<|aA<|aB<|aC<|wu rfl<|aA<|aO ?_;obtain⟨o20,h20,u⟩:=bs u;refine bV (fun e=>aBV _ _ _ _ _ _ _ _ h20 e s _ ow1_1 J) (.cons rfl<|.cons rfl<|.cons rfl<|.cons rfl<|.cons rfl<|.cons rfl<|.cons rfl .nil) ?_
   rintro _ _ _ hq
   obtain⟨rfl,w21_1,e22,rfl,J⟩:=hq;refine aC<|wu rfl<|wu rfl<|wu rfl<|aA ?_;exact bV (fun e=>ih_r10_SitesOf_l1 _ _ _ _ _ _ u e s _ w21_1 J) (.cons rfl<|.cons rfl<|.cons rfl<|.cons rfl<|.cons rfl .nil)<|fun _ _ _ h=>h
  ·refine bY ?_;cases u;exact⟨rfl,ow1_1,_,frE<|.cons rfl .nil,J⟩
theorem aEU: ∀(e1:Expr)(k2:Str)(r:(List<|List Int)),g7 e1 k2=some r→vB e1 k2 r:=aDB.1
theorem yM{e1:Expr}{k2:Str}{r:(List<|List Int)}(h:g7 e1 k2=some r):Pf PP 52 [(aM e1),(.str k2)] (slA 1<|r.map<|a0 1<|AV.i):=yK (aEU e1 k2 r h)
noncomputable def jS(e1:Expr)(r3:(List<|List Int))(r4:Int)(drops5:Int)(i6:Int):Option (Int×Int):=
 (if(decide (i6<(r3.length:Int)))=true then((idx r3 i6)>>=fun y7=>
 ((aCJ e1 y7)>>=fun r8=>
 (if(r8.1.kind==(18))=true then jS (nf e1) (nf r3) (IntKind.wrap .i64 (r4+(1))) (nf drops5) (IntKind.wrap .i64 (i6+(1)))
 else jS (nf e1) (nf r3) (nf r4) (IntKind.wrap .i64 (drops5+(1))) (IntKind.wrap .i64 (i6+(1))))))
 else some (r4,drops5))
 partial_fixpoint
abbrev aAo(e1:Expr)(r3:(List<|List Int))(r4:Int)(drops5:Int)(i6:Int)(o:(Int×Int)):Prop:= ∀(e:Env)(s sv:ASt),St [] [] s sv [] []→Wk PP none Code.aS0 ⟨bB e [(2,(.aG (aM e1) 0)),(5,(.i r4)),(6,(.i drops5)),(7,(slA 1<|r3.map<|a0 1<|AV.i)),(8,(.i i6))],[]⟩ sv (fun ex fr s'=>ex= .exit 0∧ ∃(e:Env),fr=⟨bB e [(5,(.i o.1)),(6,(.i o.2))],[]⟩∧sv=s')
theorem aE1: ∀(e1:Expr)(r3:(List<|List Int))(r4:Int)(drops5:Int)(i6:Int)(o:(Int×Int)),jS e1 r3 r4 drops5 i6=some o→aAo e1 r3 r4 drops5 i6 o:=by
 refine jS.partial_correctness (aAo) ?_;intro _f ih_r10_used_l0 e1 r3 r4 drops5 i6 o u;intro e s sv J;refine bM<|aB<|aB<|aC<|wu rfl<|wu rfl<|bI (f:=(a0 1<|AV.i)) (l:=r3) rfl (.no _)<|wu rfl<|aA ?_;refine aF u rfl (fun hc u=> ?_)<|fun hc u=> ?_
 ·refine aJ<|aB<|aO<|aB<|aC<|wu rfl<|wu rfl<|wu rfl ?_;obtain⟨y7,hy7,u⟩:=bs u;refine bT (f:=(a0 1<|AV.i)) rfl (.no _) rfl hy7 rfl<|wu rfl ?_;obtain⟨r8,hr8,u⟩:=bs u;refine wcD (aNP hr8) rfl rfl (.cons rfl<|.cons rfl .nil)<|wu rfl<|wu rfl<|wu rfl<|wu rfl<|wu rfl<|wu rfl<|aA<|aB<|aC<|wu rfl<|wu rfl<|wu rfl<|aA ?_;refine aF u rfl (fun hc u=> ?_)<|fun hc u=> ?_
  ·refine aC<|wu rfl<|wu rfl<|wu rfl<|aA<|aC<|wu rfl<|wu rfl<|wu rfl<|aA ?_;exact bV (fun e=>ih_r10_used_l0 _ _ _ _ _ _ u e s _ J) (.cons rfl<|.cons rfl<|.cons rfl<|.cons rfl<|.cons rfl .nil)<|fun _ _ _ h=>h
  ·refine aC<|wu rfl<|wu rfl<|wu rfl<|aA<|aC<|wu rfl<|wu rfl<|wu rfl<|aA ?_;exact bV (fun e=>ih_r10_used_l0 _ _ _ _ _ _ u e s _ J) (.cons rfl<|.cons rfl<|.cons rfl<|.cons rfl<|.cons rfl .nil)<|fun _ _ _ h=>h
 ·refine bY ?_;cases u;exact⟨rfl,_,frE<|.cons rfl<|.cons rfl .nil,rfl⟩
noncomputable def vZ(e1:Expr)(k2:Str):Option Int:=
 ((g7 e1 k2)>>=fun r3=>
 ((jS e1 r3 (0) (0) (0))>>=fun o9=>
 ((if(decide (o9.1>(0)))=true then some (decide (o9.2>(0)))
 else some false:Option Bool)>>=fun c12=>
 (if c12=true then some (2)
 else(if(decide (o9.1>(0)))=true then some (0)
 else(if(decide (o9.2>(0)))=true then some (1)
 else some (3)))))))
theorem aKv: ∀(e1:Expr)(k2:Str)(r:Int),vZ e1 k2=some r→ ∀s:ASt,Fc PP (.func 51) [(aM e1),(.str k2)] s (bW s<|.i r):=by
 intro e1 k2 r u;unfold vZ at u;intro s;refine bD rfl rfl rfl ?_;have J:=St.clean s;generalize aU s=σ1 at J⊢;refine aB<|aC<|wu rfl<|wu rfl<|aA<|aB<|aC<|wu rfl<|wu rfl<|aA<|aB<|aC<|wu rfl<|wu rfl ?_;obtain⟨r3,hr3,u⟩:=bs u;refine wcD (yM hr3) rfl rfl (.cons rfl<|.cons rfl .nil)<|wu rfl<|aA<|aB<|aB<|aC<|wu rfl<|aA<|aO ?_;obtain⟨o9,ho9,u⟩:=bs u;refine bV (fun e=>aE1 _ _ _ _ _ _ ho9 e s _ J) (.cons rfl<|.cons rfl<|.cons rfl<|.cons rfl<|.cons rfl .nil) ?_
 rintro _ _ _ hq
 obtain⟨rfl,e11,rfl,rfl⟩:=hq;refine aB<|aO<|aB<|aC<|wu rfl<|wu rfl<|wu rfl ?_;obtain⟨c12,h12,u⟩:=bs u;refine aW 3 [(5,(.i o9.1)),(6,(.i o9.2)),(42,(.bool c12))] σ1 ?_<|fun e=> ?_
 ·refine aX (t:=39) rfl (fun hc=> ?_)<|fun hc=> ?_
  ·replace h12:=bE hc h12;refine wu rfl<|wu rfl<|wu rfl<|aA ?_;cases h12;exact Kept.mk rfl<|.cons rfl<|.cons rfl<|.cons rfl .nil
  ·replace h12:=bC hc h12;refine wu rfl<|wu rfl<|wu rfl<|aA ?_;cases h12;exact Kept.mk rfl<|.cons rfl<|.cons rfl<|.cons rfl .nil
 ·refine wu rfl<|aA ?_;refine aF u rfl (fun hc u=> ?_)<|fun hc u=> ?_
  ·refine aB<|aC<|wu rfl<|aA<|aK ?_;cases u;exact⟨rfl,_,fun _=>rfl,aY rfl rfl rfl rfl J.ext⟩
  ·refine aB<|aC<|wu rfl<|wu rfl<|wu rfl<|aA ?_;refine aF u rfl (fun hc u=> ?_)<|fun hc u=> ?_
   ·refine aB<|aC<|wu rfl<|aA<|aK ?_;cases u;exact⟨rfl,_,fun _=>rfl,aY rfl rfl rfl rfl J.ext⟩
   ·refine aB<|aC<|wu rfl<|wu rfl<|wu rfl<|aA ?_;refine aF u rfl (fun hc u=> ?_)<|fun hc u=> ?_
    ·refine aB<|aC<|wu rfl<|aA<|aK ?_;cases u;exact⟨rfl,_,fun _=>rfl,aY rfl rfl rfl rfl J.ext⟩
    ·refine aJ<|aB<|aC<|wu rfl<|aA<|aK ?_;cases u;exact⟨rfl,_,fun _=>rfl,aY rfl rfl rfl rfl J.ext⟩
theorem aJz{e1:Expr}{k2:Str}{r:Int}(h:vZ e1 k2=some r):Pf PP 51 [(aM e1),(.str k2)] (.i r):=Pf.cB (aKv e1 k2 r h _) rfl (.cons (cC _)<|.cons ⟨rfl,rfl⟩ .nil)
noncomputable def qR(b1:Expr)(k2:Str):Option (Int×(List Int)×Int):=
 ((qT b1 k2)>>=fun r3=>
 (if(r3==(10))=true then((jE b1 k2)>>=fun r4=>
 some ((0),r4,r3))
 else(if(r3 !=(0))=true then some ((0),([]:(List Int)),r3)
 else((vZ b1 k2)>>=fun r5=>
 some (r5,([]:(List Int)),(0))))))
theorem aFx: ∀(b1:Expr)(k2:Str)(r:(Int×(List Int)×Int)),qR b1 k2=some r→ ∀s:ASt,Fc PP (.func 16) [(aM b1),(.str k2)] s (bW s<|.tuple [(.i r.1),(slA 1<|r.2.1.map<|AV.i),(.i r.2.2)]):=by
 intro b1 k2 r u;unfold qR at u;intro s;refine bD rfl rfl rfl ?_;have J:=St.clean s;generalize aU s=σ1 at J⊢;refine aB<|aC<|wu rfl<|wu rfl<|wu rfl<|wu rfl<|aA<|aB<|aC<|wu rfl<|wu rfl ?_;obtain⟨r3,hr3,u⟩:=bs u;refine wcD (aAB hr3) rfl rfl (.cons rfl<|.cons rfl .nil)<|wu rfl<|aA<|aB<|aB<|aC<|wu rfl<|wu rfl<|aA ?_;refine aF u rfl (fun hc u=> ?_)<|fun hc u=> ?_
 ·refine aB<|aC<|wu rfl<|wu rfl ?_;obtain⟨r4,hr4,u⟩:=bs u;refine wcD (aJU hr4) rfl rfl (.cons rfl<|.cons rfl .nil)<|wu rfl<|wu rfl<|wu rfl<|wu rfl<|aA<|aK ?_;cases u;exact⟨rfl,_,fun _=>rfl,dN rfl (.cons rfl<|.cons rfl<|.cons rfl .nil) J.ext⟩
 ·refine aJ<|aB<|aB<|aC<|wu rfl<|wu rfl<|aA ?_;refine aF u rfl (fun hc u=> ?_)<|fun hc u=> ?_
  ·refine aB<|aC<|wu rfl<|wu rfl<|wu rfl<|wu rfl<|aA<|aK ?_;cases u;exact⟨rfl,_,fun _=>rfl,dN rfl (.cons rfl<|.cons rfl<|.cons rfl .nil) J.ext⟩
  ·refine aJ<|aB<|aC<|wu rfl<|wu rfl ?_;obtain⟨r5,hr5,u⟩:=bs u;refine wcD (aJz hr5) rfl rfl (.cons rfl<|.cons rfl .nil)<|wu rfl<|wu rfl<|wu rfl<|aA<|aK ?_;cases u;exact⟨rfl,_,fun _=>rfl,dN rfl (.cons rfl<|.cons rfl<|.cons rfl .nil) J.ext⟩
theorem aFT{b1:Expr}{k2:Str}{r:(Int×(List Int)×Int)}(h:qR b1 k2=some r):Pf PP 16 [(aM b1),(.str k2)] (.tuple [(.i r.1),(slA 1<|r.2.1.map<|AV.i),(.i r.2.2)]):=Pf.cB (aFx b1 k2 r h _) (rW<|.cons rfl<|.cons (iC (fun _=>rfl) _)<|.cons rfl<|.nil) (.cons (cC _)<|.cons ⟨rfl,rfl⟩ .nil)
noncomputable def s9(e1:Expr)(k2:Str):Option (Bool×Int):=
 ((g8 e1)>>=fun r3=>
 (if(r3 !=(0))=true then some (false,r3)
 else((nJ k2)>>=fun r4=>
 (if(!r4)=true then some (false,(4))
 else((iU e1 k2)>>=fun r5=>
 some (r5,(0)))))))
theorem aHF: ∀(e1:Expr)(k2:Str)(r:(Bool×Int)),s9 e1 k2=some r→ ∀s:ASt,Fc PP (.func 14) [(aM e1),(.str k2)] s (bW s<|.tuple [(.bool r.1),(.i r.2)]):=by
 intro e1 k2 r u;unfold s9 at u;intro s;refine bD rfl rfl rfl ?_;have J:=St.clean s;generalize aU s=σ1 at J⊢;refine aB<|aC<|wu rfl<|wu rfl<|wu rfl<|aA<|aB<|aB<|aC<|wu rfl ?_;obtain⟨r3,hr3,u⟩:=bs u;refine wcD (aBM hr3) rfl rfl (.cons rfl .nil)<|wu rfl<|aA<|aB<|aC<|wu rfl<|wu rfl<|aA ?_;refine aF u rfl (fun hc u=> ?_)<|fun hc u=> ?_
 ·refine aB<|aC<|wu rfl<|wu rfl<|wu rfl<|aA<|aK ?_;cases u;exact⟨rfl,_,fun _=>rfl,dN rfl (.cons rfl<|.cons rfl .nil) J.ext⟩
 ·refine aJ<|aB<|aB<|aC<|wu rfl ?_;obtain⟨r4,hr4,u⟩:=bs u;refine wcD (sQ hr4) rfl rfl (.cons rfl .nil)<|wu rfl<|aA ?_;refine aF u rfl (fun hc u=> ?_)<|fun hc u=> ?_
  ·refine aB<|aC<|wu rfl<|wu rfl<|aA<|aK ?_;cases u;exact⟨rfl,_,fun _=>rfl,dN rfl (.cons rfl<|.cons rfl .nil) J.ext⟩
  ·refine aJ<|aB<|aC<|wu rfl<|wu rfl ?_;obtain⟨r5,hr5,u⟩:=bs u;refine wcD (mY hr5) rfl rfl (.cons rfl<|.cons rfl .nil)<|wu rfl<|wu rfl<|aA<|aK ?_;cases u;exact⟨rfl,_,fun _=>rfl,dN rfl (.cons rfl<|.cons rfl .nil) J.ext⟩
theorem aHA{e1:Expr}{k2:Str}{r:(Bool×Int)}(h:s9 e1 k2=some r):Pf PP 14 [(aM e1),(.str k2)] (.tuple [(.bool r.1),(.i r.2)]):=Pf.cB (aHF e1 k2 r h _) (rW<|.cons rfl<|.cons rfl<|.nil) (.cons (cC _)<|.cons ⟨rfl,rfl⟩ .nil)
noncomputable def s7(b1:Expr)(k2:Str):Option ((List<|List Int)×Int):=
 ((qT b1 k2)>>=fun r3=>
 (if(r3 !=(0))=true then some (([]:(List (List Int))),r3)
 else((g7 b1 k2)>>=fun r4=>
 some (r4,(0)))))
theorem aHl: ∀(b1:Expr)(k2:Str)(r:((List<|List Int)×Int)),s7 b1 k2=some r→ ∀s:ASt,Fc PP (.func 19) [(aM b1),(.str k2)] s (bW s<|.tuple [(slA 1<|r.1.map<|a0 1<|AV.i),(.i r.2)]):=by
 intro b1 k2 r u;unfold s7 at u;intro s;refine bD rfl rfl rfl ?_;have J:=St.clean s;generalize aU s=σ1 at J⊢;refine aB<|aC<|wu rfl<|wu rfl<|wu rfl<|aA<|aB<|aB<|aC<|wu rfl<|wu rfl ?_;obtain⟨r3,hr3,u⟩:=bs u;refine wcD (aAB hr3) rfl rfl (.cons rfl<|.cons rfl .nil)<|wu rfl<|aA<|aB<|aC<|wu rfl<|wu rfl<|aA ?_;refine aF u rfl (fun hc u=> ?_)<|fun hc u=> ?_
 ·refine aB<|aC<|wu rfl<|wu rfl<|wu rfl<|aA<|aK ?_;cases u;exact⟨rfl,_,fun _=>rfl,dN rfl (.cons rfl<|.cons rfl .nil) J.ext⟩
 ·refine aJ<|aB<|aC<|wu rfl<|wu rfl ?_;obtain⟨r4,hr4,u⟩:=bs u;refine wcD (yM hr4) rfl rfl (.cons rfl<|.cons rfl .nil)<|wu rfl<|wu rfl<|aA<|aK ?_;cases u;exact⟨rfl,_,fun _=>rfl,dN rfl (.cons rfl<|.cons rfl .nil) J.ext⟩
theorem aHp{b1:Expr}{k2:Str}{r:((List<|List Int)×Int)}(h:s7 b1 k2=some r):Pf PP 19 [(aM b1),(.str k2)] (.tuple [(slA 1<|r.1.map<|a0 1<|AV.i),(.i r.2)]):=Pf.cB (aHl b1 k2 r h _) (rW<|.cons (iC (aBH<|fun _=>rfl) _)<|.cons rfl<|.nil) (.cons (cC _)<|.cons ⟨rfl,rfl⟩ .nil)
noncomputable def fP(a1:(List<|List Int))(b2:(List<|List Int))(i3:Int):Option (Ctl Bool Unit):=
 (if(decide (i3<(a1.length:Int)))=true then((idx a1 i3)>>=fun y4=>
 ((idx b2 i3)>>=fun y5=>
 ((lM y4 y5)>>=fun r6=>
 (if(!r6)=true then some (.ret false)
 else fP (nf a1) (nf b2) (IntKind.wrap .i64 (i3+(1)))))))
 else some (.nx ()))
 partial_fixpoint
abbrev tP(a1:(List<|List Int))(b2:(List<|List Int))(i3:Int)(o:(Ctl Bool Unit)):Prop:= ∀(e:Env)(s sv:ASt),St [] [] s sv [] []→Wk PP none Code.aTo ⟨bB e [(0,(slA 1<|a1.map<|a0 1<|AV.i)),(1,(slA 1<|b2.map<|a0 1<|AV.i)),(5,(.i i3))],[]⟩ sv (fun ex fr s'=>(match o with| .ret oq0=>ex= .ret∧nQ PP Code.c20 (VQ (.bool oq0)<|Ext [] [] s) ex fr s'| .nx oq1=>ex= .exit 0∧ ∃(e:Env),fr=⟨bB e [],[]⟩∧sv=s'))
theorem aAm: ∀(a1:(List<|List Int))(b2:(List<|List Int))(i3:Int)(o:(Ctl Bool Unit)),fP a1 b2 i3=some o→tP a1 b2 i3 o:=by
 refine fP.partial_correctness (tP) ?_;intro _f ih_w10_samePaths_l0 a1 b2 i3 o u;intro e s sv J;refine bM<|aB<|aB<|aC<|wu rfl<|wu rfl<|bI (f:=(a0 1<|AV.i)) (l:=a1) rfl (.no _)<|wu rfl<|aA ?_;refine aF u rfl (fun hc u=> ?_)<|fun hc u=> ?_
 ·refine aJ<|aB<|aO<|aB<|aC<|wu rfl<|wu rfl ?_;obtain⟨y4,hy4,u⟩:=bs u;refine bT (f:=(a0 1<|AV.i)) rfl (.no _) rfl hy4 rfl<|wu rfl<|wu rfl<|wu rfl ?_;obtain⟨y5,hy5,u⟩:=bs u;refine bT (f:=(a0 1<|AV.i)) rfl (.no _) rfl hy5 rfl<|wu rfl ?_;obtain⟨r6,hr6,u⟩:=bs u;refine wcD (xG hr6) rfl rfl (.cons rfl<|.cons rfl .nil)<|wu rfl<|aA ?_;refine aF u rfl (fun hc u=> ?_)<|fun hc u=> ?_
  ·refine aB<|aC<|wu rfl<|aA<|aK ?_;cases u;exact⟨rfl,⟨rfl,_,fun _=>rfl,aY rfl rfl rfl rfl J.ext⟩⟩
  ·refine aJ<|aC<|wu rfl<|wu rfl<|wu rfl<|aA ?_;exact bV (fun e=>ih_w10_samePaths_l0 _ _ _ _ u e s _ J) (.cons rfl<|.cons rfl<|.cons rfl .nil)<|fun _ _ _ h=>h
 ·refine bY ?_;cases u;exact⟨rfl,_,frE .nil,rfl⟩
noncomputable def lY(a1:(List<|List Int))(b2:(List<|List Int)):Option Bool:=
 (if((a1.length:Int) !=(b2.length:Int))=true then some false
 else((fP a1 b2 (0))>>=fun o7=>
 (match o7 with
 | .ret q8=>some q8
 | .nx q9=>some true)))
theorem aCe: ∀(a1:(List<|List Int))(b2:(List<|List Int))(r:Bool),lY a1 b2=some r→ ∀s:ASt,Fc PP (.func 20) [(slA 1<|a1.map<|a0 1<|AV.i),(slA 1<|b2.map<|a0 1<|AV.i)] s (bW s<|.bool r):=by
 intro a1 b2 r u;unfold lY at u;intro s;refine bD rfl rfl rfl ?_;have J:=St.clean s;generalize aU s=σ1 at J⊢;refine aB<|aC<|wu rfl<|aA<|aB<|aB<|aC<|wu rfl<|bI (f:=(a0 1<|AV.i)) (l:=a1) rfl (.no _)<|wu rfl<|bI (f:=(a0 1<|AV.i)) (l:=b2) rfl (.no _)<|wu rfl<|aA ?_;refine aF u rfl (fun hc u=> ?_)<|fun hc u=> ?_
 ·refine aB<|aC<|wu rfl<|aA<|aK ?_;cases u;exact⟨rfl,_,fun _=>rfl,aY rfl rfl rfl rfl J.ext⟩
 ·refine aJ<|aB<|aB<|aC<|wu rfl<|aA<|aO ?_;obtain⟨o7,ho7,u⟩:=bs u;refine bV (fun e=>aAm _ _ _ _ ho7 e s _ J) (.cons rfl<|.cons rfl<|.cons rfl .nil) ?_
  rintro _ _ _ hq
  rcases o7 with q8|q9
  ·obtain⟨rfl,hq⟩:=hq;cases u;exact hq
  ·obtain⟨rfl,e11,rfl,rfl⟩:=hq;refine aB<|aC<|wu rfl<|aA<|aK ?_;cases u;exact⟨rfl,_,fun _=>rfl,aY rfl rfl rfl rfl J.ext⟩
theorem aCK{a1:(List<|List Int)}{b2:(List<|List Int)}{r:Bool}(h:lY a1 b2=some r):Pf PP 20 [(slA 1<|a1.map<|a0 1<|AV.i),(slA 1<|b2.map<|a0 1<|AV.i)] (.bool r):=Pf.cB (aCe a1 b2 r h _) rfl (.cons (j9<|cV (aBH<|fun _=>rfl) _)<|.cons (j9<|cV (aBH<|fun _=>rfl) _) .nil)
noncomputable def jQ(e1:Expr)(k2:Str):Option Bool:=
 ((nH e1 k2)>>=fun r3=>
 ((s9 e1 k2)>>=fun r4=>
 ((if(!(r3.1==r4.1))=true then some true
 else some (r3.2 !=r4.2):Option Bool)>>=fun c5=>
 (if c5=true then some false
 else((fS e1 k2)>>=fun r6=>
 ((qR e1 k2)>>=fun r7=>
 ((if(r6.1 !=r7.1)=true then some true
 else((lM r6.2.1 r7.2.1)>>=fun r9=>
 some (!r9)):Option Bool)>>=fun c8=>
 ((if c8=true then some true
 else some (r6.2.2 !=r7.2.2):Option Bool)>>=fun c10=>
 (if c10=true then some false
 else((gS e1 k2)>>=fun r11=>
 ((s7 e1 k2)>>=fun r12=>
 ((lY r11.1 r12.1)>>=fun r13=>
 ((if r13=true then some (r11.2==r12.2)
 else some false:Option Bool)>>=fun c14=>
 ((if c14=true then((aCb)>>=fun r16=>
 some r16)
 else some false:Option Bool)>>=fun c15=>
 some c15))))))))))))))
theorem yI: ∀(e1:Expr)(k2:Str)(r:Bool),jQ e1 k2=some r→ ∀s:ASt,Fc PP (.func 3) [(aM e1),(.str k2)] s (bW s<|.bool r):=by
 intro e1 k2 r u;unfold jQ at u;intro s;refine bD rfl rfl rfl ?_;have J:=St.clean s;generalize aU s=σ1 at J⊢;refine aB<|aC<|wu rfl<|wu rfl<|aA<|aB<|aC<|wu rfl<|wu rfl ?_;obtain⟨r3,hr3,u⟩:=bs u;refine wcD (aDx hr3) rfl rfl (.cons rfl<|.cons rfl .nil)<|wu rfl<|wu rfl<|wu rfl<|wu rfl<|wu rfl<|aA<|aB<|aC<|wu rfl<|wu rfl ?_;obtain⟨r4,hr4,u⟩:=bs u;refine wcD (aHA hr4) rfl rfl (.cons rfl<|.cons rfl .nil)<|wu rfl<|wu rfl<|wu rfl<|wu rfl<|wu rfl<|aA<|aB<|aB<|aC<|wu rfl<|wu rfl<|wu rfl<|wu rfl ?_;obtain⟨c5,hc5,u⟩:=bs u;refine aW 4 [(1,(.str k2)),(2,(.aG (aM e1) 0)),(34,(.bool c5))] σ1 ?_<|fun e=> ?_
 ·refine aX (t:=30) rfl (fun hc=> ?_)<|fun hc=> ?_
  ·replace hc5:=bE hc hc5;refine wu rfl<|wu rfl<|wu rfl<|wu rfl<|aA ?_;cases hc5;exact Kept.mk rfl<|.cons rfl<|.cons rfl<|.cons rfl .nil
  ·replace hc5:=bC hc hc5;refine wu rfl<|wu rfl<|wu rfl<|wu rfl<|aA ?_;cases hc5;exact Kept.mk rfl<|.cons rfl<|.cons rfl<|.cons rfl .nil
 ·refine aA ?_;refine aF u rfl (fun hc u=> ?_)<|fun hc u=> ?_
  ·refine aB<|aC<|wu rfl<|aA<|aK ?_;cases u;exact⟨rfl,_,fun _=>rfl,aY rfl rfl rfl rfl J.ext⟩
  ·refine aJ<|aB<|aC<|wu rfl<|wu rfl ?_;obtain⟨r6,hr6,u⟩:=bs u;refine wcD (aCj hr6) rfl rfl (.cons rfl<|.cons rfl .nil)<|wu rfl<|wu rfl<|wu rfl<|wu rfl<|wu rfl<|wu rfl<|wu rfl<|aA<|aB<|aC<|wu rfl<|wu rfl ?_;obtain⟨r7,hr7,u⟩:=bs u;refine wcD (aFT hr7) rfl rfl (.cons rfl<|.cons rfl .nil)<|wu rfl<|wu rfl<|wu rfl<|wu rfl<|wu rfl<|wu rfl<|wu rfl<|aA<|aB<|aB<|aC<|wu rfl<|wu rfl<|wu rfl<|wu rfl ?_;obtain⟨c8,hc8,u⟩:=bs u;refine aW 5 [(1,(.str k2)),(2,(.aG (aM e1) 0)),(6,(.i r6.2.2)),(8,(.i r7.2.2)),(57,(.bool c8))] σ1 ?_<|fun e=> ?_
   ·refine aX (t:=52) rfl (fun hc=> ?_)<|fun hc=> ?_
    ·replace hc8:=bE hc hc8;refine wu rfl<|wu rfl<|wu rfl<|wu rfl<|wu rfl<|aA ?_;cases hc8;exact Kept.mk rfl<|.cons rfl<|.cons rfl<|.cons rfl<|.cons rfl<|.cons rfl .nil
    ·replace hc8:=bC hc hc8;refine wu rfl<|wu rfl ?_;obtain⟨r9,hr9,hc8⟩:=bs hc8;refine wcD (xG hr9) rfl rfl (.cons rfl<|.cons rfl .nil)<|wu rfl<|wu rfl<|aA ?_;cases hc8;exact Kept.mk rfl<|.cons rfl<|.cons rfl<|.cons rfl<|.cons rfl<|.cons rfl .nil
   ·refine wu rfl ?_;obtain⟨c10,h10,u⟩:=bs u;refine aW 4 [(1,(.str k2)),(2,(.aG (aM e1) 0)),(62,(.bool c10))] σ1 ?_<|fun e=> ?_
    ·refine aX (t:=58) rfl (fun hc=> ?_)<|fun hc=> ?_
     ·replace h10:=bE hc h10;refine wu rfl<|wu rfl<|wu rfl<|wu rfl<|aA ?_;cases h10;exact Kept.mk rfl<|.cons rfl<|.cons rfl<|.cons rfl .nil
     ·replace h10:=bC hc h10;refine wu rfl<|wu rfl<|wu rfl<|wu rfl<|aA ?_;cases h10;exact Kept.mk rfl<|.cons rfl<|.cons rfl<|.cons rfl .nil
    ·refine aA ?_;refine aF u rfl (fun hc u=> ?_)<|fun hc u=> ?_
     ·refine aB<|aC<|wu rfl<|aA<|aK ?_;cases u;exact⟨rfl,_,fun _=>rfl,aY rfl rfl rfl rfl J.ext⟩
     ·refine aJ<|aB<|aC<|wu rfl<|wu rfl ?_;obtain⟨r11,h11,u⟩:=bs u;refine wcD (aDu h11) rfl rfl (.cons rfl<|.cons rfl .nil)<|wu rfl<|wu rfl<|wu rfl<|wu rfl<|wu rfl<|aA<|aB<|aC<|wu rfl<|wu rfl ?_;obtain⟨r12,h12,u⟩:=bs u;refine wcD (aHp h12) rfl rfl (.cons rfl<|.cons rfl .nil)<|wu rfl<|wu rfl<|wu rfl<|wu rfl<|wu rfl<|aA<|aB<|aC<|wu rfl<|wu rfl ?_;obtain⟨r13,h13,u⟩:=bs u;refine wcD (aCK h13) rfl rfl (.cons rfl<|.cons rfl .nil)<|wu rfl ?_;obtain⟨c14,h14,u⟩:=bs u;refine aW 4 [(82,(.bool c14))] σ1 ?_<|fun e=> ?_
      ·refine aX (t:=78) rfl (fun hc=> ?_)<|fun hc=> ?_
       ·replace h14:=bE hc h14;refine wu rfl<|wu rfl<|wu rfl<|wu rfl<|aA ?_;cases h14;exact Kept.mk rfl<|.cons rfl .nil
       ·replace h14:=bC hc h14;refine wu rfl<|wu rfl<|wu rfl<|wu rfl<|aA ?_;cases h14;exact Kept.mk rfl<|.cons rfl .nil
      ·refine wu rfl ?_;obtain⟨c15,h15,u⟩:=bs u;refine aW 2 [(85,(.bool c15))] σ1 ?_<|fun e=> ?_
       ·refine aX (t:=83) rfl (fun hc=> ?_)<|fun hc=> ?_
        ·replace h15:=bE hc h15;obtain⟨r16,h16,h15⟩:=bs h15;refine wcD (aHi h16) rfl rfl .nil<|wu rfl<|aA ?_;cases h15;exact Kept.mk rfl<|.cons rfl .nil
        ·replace h15:=bC hc h15;refine wu rfl<|wu rfl<|aA ?_;cases h15;exact Kept.mk rfl<|.cons rfl .nil
       ·refine wu rfl<|aA<|aK ?_;cases u;exact⟨rfl,_,fun _=>rfl,aY rfl rfl rfl rfl J.ext⟩
theorem yB{e1:Expr}{k2:Str}{r:Bool}(h:jQ e1 k2=some r):Pf PP 3 [(aM e1),(.str k2)] (.bool r):=Pf.cB (yI e1 k2 r h _) rfl (.cons (cC _)<|.cons ⟨rfl,rfl⟩ .nil)
end Go.Proofs.YtelnnehpbkainaaGreatDoor
namespace Go.Proofs.YtelnnehpbkainaaGreatDoor
open Go Go.Fw
def xI(c:Nat):Int:=
 if c=32∨c=9∨c=10 then 1 else if c=95∨(97≤c∧c≤122) then 2 else if 65≤c∧c≤90 then 3 else if 48≤c∧c≤57 then 4 else 0
def pU(c:UInt8):Bool:=(97≤c.toNat&&c.toNat≤122)||(65≤c.toNat&&c.toNat≤90)||(48≤c.toNat&&c.toNat≤57)||c.toNat==95
set_option maxRecDepth 100000 in
theorem aLv: ∀n<256,((97≤n&&n≤122)||(65≤n&&n≤90)||(48≤n&&n≤57)||n==95)=(decide (n≤127)&&decide (2≤xI n)):=by decide
theorem aLm(c:UInt8):pU c=(decide (c.toNat≤127)&&decide (2≤xI c.toNat)):=aLv _ c.toNat_lt
def isWord(s:List UInt8)(first:Int):Bool:=
 match s with
 | []=>false
 |c::_=>decide (s.length≤12)&&decide (xI c.toNat=first)&&s.all pU
def p6(s:List UInt8):Bool:=isWord s 2&& !kws.contains s
def vD(s:List UInt8):Bool:=isWord s 3
end Go.Proofs.YtelnnehpbkainaaGreatDoor
set_option maxRecDepth 100000
namespace Go.Proofs.YtelnnehpbkainaaGreatDoor
open Go Go.Fw
abbrev has(l:List Str)(x:Str):Bool:=l.any (· ==x)
theorem zE(l:List Str)(x:Str)(hl:l.length<4611686018427387904):hU l x=some (aFQ (· ==x) l 0):=by
 have h:=aDN l hl (x== ·) (fun i=>fO l x i) (fun i=>by rw [fO];rfl);have hp:(fun y:Str=>x==y)=(· ==x):=funext fun y=>Bool.beq_comm;rw [hp] at h;rw [hU,h];unfold aFQ;show(match fnd (· ==x) l 0 with| .ret q6=>some q6| .nx q7=>some (-1))=_;cases fnd (· ==x) l 0<;>rfl
theorem yF(l:List Str)(x:Str)(hl:l.length<4611686018427387904):dF l x=some (has l x):=by
 rw [dF,zE l x hl];exact congrArg some (xY _ l 0)
theorem aHn(l:List Str)(x:Str)(hl:l.length<4611686018427387904):s6 l x=some (aFQ (· ==x) l 0):=by
 have h:=aDN l hl (· ==x) (fun i=>m7 l x i) (fun i=>by rw [m7];rfl);rw [s6,h];unfold aFQ;show(match fnd (· ==x) l 0 with| .ret q6=>some q6| .nx q7=>some (-1))=_;cases fnd (· ==x) l 0<;>rfl
theorem iB(l:List Str)(x:Str)(hl:l.length<4611686018427387904):j0 l x=some (has l x):=by
 rw [j0,aHn l x hl];exact congrArg some (xY _ l 0)
theorem aAp(n:Nat):oH (n:Int)=some (xI n):=by
 have e1: ∀k:Nat,((n:Int)==(k:Int))=decide (n=k):=fun k=>by
  by_cases h:n=k
  ·subst h;simp
  ·rw [decide_eq_false h];simp;omega
 have e2: ∀k:Nat,decide ((k:Int)≤(n:Int))=decide (k≤n):=fun k=>by simp
 have e3: ∀k:Nat,decide ((n:Int)≤(k:Int))=decide (n≤k):=fun k=>by simp
 have h32:((n:Int)==32)=decide (n=32):=e1 32;have h9:((n:Int)==9)=decide (n=9):=e1 9;have h10:((n:Int)==10)=decide (n=10):=e1 10;have h95:((n:Int)==95)=decide (n=95):=e1 95;have l97:decide ((97:Int)≤(n:Int))=decide (97≤n):=e2 97;have l65:decide ((65:Int)≤(n:Int))=decide (65≤n):=e2 65;have l48:decide ((48:Int)≤(n:Int))=decide (48≤n):=e2 48;have l122:decide ((n:Int)≤(122:Int))=decide (n≤122):=e3 122;have l90:decide ((n:Int)≤(90:Int))=decide (n≤90):=e3 90;have l57:decide ((n:Int)≤(57:Int))=decide (n≤57):=e3 57;unfold oH xI;rw [h32,h9,h10,h95,l97,l122,l65,l90,l48,l57];by_cases a1:n=32
 ·simp [a1]
 by_cases a2:n=9
 ·simp [a2]
 by_cases a3:n=10
 ·simp [a3]
 by_cases a4:n=95
 ·simp [a4]
 by_cases b1:97≤n<;>by_cases b2:n≤122<;>by_cases c1:65≤n<;>by_cases c2:n≤90<;>by_cases d1:48≤n<;>by_cases d2:n≤57<;>simp [a1,a2,a3,a4,b1,b2,c1,c2,d1,d2]
theorem aOP{t:Str}{pos:Nat}{b:UInt8}(h:t[pos]?=some b)(hb:b.toNat<128):rune t pos=(b.toNat,1):=aRV h hb
theorem aOg{t:Str}{pos:Nat}{b:UInt8}(h:t[pos]?=some b)(hb: ¬b.toNat<128):128≤(rune t pos).1:=aO0 h hb
theorem aRP(b:UInt8):IntKind.wrap .u8 (b.toNat:Int)=(b.toNat:Int):=by
 have:=b.toNat_lt;show(if(false&&decide ((b.toNat:Int)%256≥128))=true then(b.toNat:Int)%256-256 else(b.toNat:Int)%256)=(b.toNat:Int)
 rw [Bool.false_and,if_neg (by decide)];omega
theorem wA(s:Str): ∀(n k:Nat),k+n=s.length→kD s k=some (if(s.drop k).all pU=true then .nx () else .ret false)
 |0,k,h=>by
  have:k=s.length:=by omega
  subst this;rw [kD,List.drop_length,if_neg (by simp)]
  rfl
 |n+1,k,h=>by
  have hk:k<s.length:=by omega
  have ih:=wA s n (k+1) (by omega);have hg:s[k]?=some s[k]:=List.getElem?_eq_getElem hk;rw [List.drop_eq_getElem_cons hk,List.all_cons,aLm,kD,if_pos (decide_eq_true hk)];by_cases hb:(s[k]).toNat<128
  ·have e1:decide ((((s[k]).toNat:Nat):Int)>127)=false:=decide_eq_false (by omega);have e2:decide ((s[k]).toNat≤127)=true:=decide_eq_true (by omega);rw [aOP hg hb];simp only [e1,e2,Bool.false_eq_true,if_false,aRP,aAp,Option.bind_eq_bind,Option.bind_some,Bool.true_and];by_cases h2:xI (s[k]).toNat<2
   ·rw [decide_eq_true h2,decide_eq_false (p:=2≤xI (s[k]).toNat) (by omega)];simp
   ·rw [decide_eq_false h2,decide_eq_true (p:=2≤xI (s[k]).toNat) (by omega)];simpa [nf] using ih
  ·have hh:=aOg hg hb;have e1:decide ((((rune s k).1:Nat):Int)>127)=true:=decide_eq_true (by omega);have e2:decide ((s[k]).toNat≤127)=false:=decide_eq_false (by omega);simp [e1,e2]
theorem aGr{α:Type}(c:α)(r:List α):idx (c::r) 0=some c:=rfl
theorem aAt(s:Str)(first:Int):oK s first=some (isWord s first):=by
 rw [oK];cases s with
 |nil=>rfl
 |cons c r=>
  have e0:((c::r:Str)==([]:Str))=false:=rfl;have hw:=wA (c::r) (c::r).length 0 (by omega);rw [List.drop_zero] at hw;rw [e0,aGr];by_cases hl:(c::r).length≤12
  ·have e1:decide ((((c::r).length:Nat):Int)>12)=false:=decide_eq_false (by omega);simp only [e1,Bool.false_eq_true,if_false,aAp,Option.bind_eq_bind,Option.bind_some,isWord,decide_eq_true hl,Bool.true_and,hw];by_cases hf:xI c.toNat=first
   ·rw [hf];cases hA:(c::r).all pU<;>simp
   ·simp [hf]
  ·have e1:decide ((((c::r).length:Nat):Int)>12)=true:=decide_eq_true (by omega);simp only [e1,Bool.false_eq_true,if_false,if_true,Option.bind_eq_bind,Option.bind_some,isWord,decide_eq_false hl,Bool.false_and]
theorem aB9(s:Str):lX s=some (vD s):=by rw [lX,aAt];rfl
theorem x7(s:Str):mX s=some (p6 s):=by
 rw [mX,aAt];unfold p6;show(if isWord s 2=true then(u0 s>>=fun r4=>some (!r4)) else some false:Option Bool).bind _=_;cases isWord s 2<;>rfl
theorem aOj(a b:Nat):decide ((a:Int)≤(b:Int))=decide (a≤b):=by simp
theorem aRM(a b:Nat):decide ((a:Int)≥(b:Int))=decide (b≤a):=by simp
theorem aEX(s:Str)(hl:s.length<4611686018427387904):lI s 0=some (if s.all pU=true then .nx () else .ret false):=by
 refine cH (C:=fun k r=>lI s (k:Int)=some (if r.all pU=true then .nx () else .ret false)) hl (fun hd=> ?_) fun k y r _ _ _ hlt hi hw ih=> ?_
 ·rw [lI,hd];rfl
 ·rw [lI,if_pos hlt,hi,hw,List.all_cons];have a1:decide (((y.toNat:Nat):Int)≥97)=decide (97≤y.toNat):=aRM _ 97;have a2:decide (((y.toNat:Nat):Int)≤122)=decide (y.toNat≤122):=aOj _ 122;have a3:decide (((y.toNat:Nat):Int)≥65)=decide (65≤y.toNat):=aRM _ 65;have a4:decide (((y.toNat:Nat):Int)≤90)=decide (y.toNat≤90):=aOj _ 90;have a5:decide (((y.toNat:Nat):Int)≥48)=decide (48≤y.toNat):=aRM _ 48;have a6:decide (((y.toNat:Nat):Int)≤57)=decide (y.toNat≤57):=aOj _ 57;have a7:(((y.toNat:Nat):Int)==95)=(y.toNat==95):=by
   by_cases h:y.toNat=95
   ·rw [h];rfl
   ·rw [beq_eq_false_iff_ne.2 h];simp;omega
  simp only [a1,a2,a3,a4,a5,a6,a7,Option.bind_eq_bind,Option.bind_some];have hn:pU y=(((decide (97≤y.toNat)&&decide (y.toNat≤122))||(decide (65≤y.toNat)&&decide (y.toNat≤90)))||(decide (48≤y.toNat)&&decide (y.toNat≤57))||(y.toNat==95)):=rfl;rw [hn];generalize decide (97≤y.toNat)=b1;generalize decide (y.toNat≤122)=b2;generalize decide (65≤y.toNat)=b3;generalize decide (y.toNat≤90)=b4;generalize decide (48≤y.toNat)=b5;generalize decide (y.toNat≤57)=b6;generalize (y.toNat==95)=b7;cases b1<;>cases b2<;>cases b3<;>cases b4<;>cases b5<;>cases b6<;>cases b7<;>first|exact ih|rfl
def z3(c:UInt8)(lo hi:Nat)(under:Bool):Bool:=(decide (lo≤c.toNat)&&decide (c.toNat≤hi))||(under&&c.toNat==95)
def aVf(s:Str)(lo hi:Nat)(under:Bool):Bool:=match s with| []=>false|c::_=>decide (s.length≤12)&&z3 c lo hi under&&s.all pU
theorem aDd(s:Str)(lo hi:Nat)(under:Bool)(hl:s.length<4611686018427387904):pB s (lo:Int) (hi:Int) under=some (aVf s lo hi under):=by
 rw [pB,u4];cases s with
 |nil=>rfl
 |cons c r=>
  have e1:decide ((1:Int)≤(((c::r).length:Nat):Int))=true:=decide_eq_true (by simp;omega);have e2:decide ((((c::r).length:Nat):Int)≤12)=decide ((c::r).length≤12):=aOj _ 12;have a3:decide (((c.toNat:Nat):Int)≥(lo:Int))=decide (lo≤c.toNat):=aRM _ _;have a4:decide (((c.toNat:Nat):Int)≤(hi:Int))=decide (c.toNat≤hi):=aOj _ _;have a7:(((c.toNat:Nat):Int)==95)=(c.toNat==95):=by
   by_cases h:c.toNat=95
   ·rw [h];rfl
   ·rw [beq_eq_false_iff_ne.2 h];simp;omega
  have hw:=aEX (c::r) hl;rw [aGr];simp only [e1,e2,a3,a4,a7,if_true,hw,Option.bind_eq_bind,Option.bind_some,aVf,z3];generalize decide ((c::r).length≤12)=b1;generalize decide (lo≤c.toNat)=b2;generalize decide (c.toNat≤hi)=b3;generalize (c.toNat==95)=b4;generalize (c::r).all pU=b5;cases under<;>cases b1<;>cases b2<;>cases b3<;>cases b4<;>cases b5<;>rfl
set_option maxRecDepth 100000 in
theorem aLg: ∀n<256,((decide (97≤n)&&decide (n≤122))||(true&&n==95))=decide (xI n=2):=by decide
set_option maxRecDepth 100000 in
theorem aJl: ∀n<256,((decide (65≤n)&&decide (n≤90))||(false&&n==95))=decide (xI n=3):=by decide
theorem yQ(s:Str)(hl:s.length<4611686018427387904):mN s=some (vD s):=by
 have h:=aDd s 65 90 false hl;rw [mN];show(pB s ((65:Nat):Int) ((90:Nat):Int) false).bind (fun r2=>some r2)=_;rw [h];unfold vD isWord;cases s with
 |nil=>rfl
 |cons c r=>
  show some (decide ((c::r).length≤12)&&z3 c 65 90 false&&(c::r).all pU)=some (decide ((c::r).length≤12)&&decide (xI c.toNat=3)&&(c::r).all pU);rw [←aJl _ c.toNat_lt];rfl
theorem aTL:nE=some kws:=by rw [nE];rfl
theorem aSl(s:Str):has kws s=kws.contains s:=by
 unfold has;rw [List.contains_eq_any_beq];exact congrArg (kws.any ·) (funext fun y=>Bool.beq_comm)
theorem sR(s:Str)(hl:s.length<4611686018427387904):nJ s=some (p6 s):=by
 have h:=aDd s 97 122 true hl;rw [nJ];show(pB s ((97:Nat):Int) ((122:Nat):Int) true).bind _=_;rw [h,aTL];have hk:=iB kws s (by decide);unfold p6 isWord;cases s with
 |nil=>rfl
 |cons c r=>
  simp only [Option.bind_eq_bind,Option.bind_some,hk,aSl];rw [←aLg _ c.toNat_lt];show(if(decide ((c::r).length≤12)&&z3 c 97 122 true&&(c::r).all pU)=true then some (!kws.contains (c::r)) else some false:Option Bool).bind _=some ((decide ((c::r).length≤12)&&z3 c 97 122 true&&(c::r).all pU)&& !kws.contains (c::r));cases (decide ((c::r).length≤12)&&z3 c 97 122 true&&(c::r).all pU)<;>rfl
def v3:List Str→Nat
 | []=>0
 |x::r=>1+x.length+v3 r
mutual
def bH:Expr→Nat
 | .mk _ _ s t names l aT=>1+s.length+t.length+v3 names+eA l+vK aT
def aEC:Arm→Nat
 | .mk op names body=>op.length+v3 names+bH body
def eA:List Expr→Nat
 | []=>0
 |x::r=>bH x+eA r
def vK:List Arm→Nat
 | []=>0
 |x::r=>aEC x+vK r
end
theorem rO(e:Expr):bH e=1+e.s.length+e.t.length+v3 e.names+eA e.l+vK e.aT:=by cases e;simp only [bH];rfl
theorem aBk(a:Arm):aEC a=a.op.length+v3 a.names+bH a.body:=by cases a;simp only [aEC];rfl
theorem bQ(e:Expr):1≤bH e:=by rw [rO];omega
theorem aCg: ∀l:List Str,l.length≤v3 l
 | []=>by simp [v3]
 |x::r=>by have:=aCg r;simp only [v3,List.length_cons];omega
theorem aCp: ∀{l:List Str}{x:Str},x∈l→x.length+1≤v3 l
 |y::r,x,h=>by
  simp only [v3];rcases List.mem_cons.1 h with rfl|h
  ·omega
  ·have:=aCp h;omega
theorem aGI: ∀l:List Expr,l.length≤eA l
 | []=>by simp
 |x::r=>by have:=aGI r;have:=bQ x;simp only [eA,List.length_cons];omega
theorem aGg: ∀{l:List Expr}{x:Expr},x∈l→bH x≤eA l
 |y::r,x,h=>by
  simp only [eA];rcases List.mem_cons.1 h with rfl|h
  ·omega
  ·have:=aGg h;omega
theorem aGk: ∀l:List Arm,l.length≤vK l
 | []=>by simp
 |x::r=>by have:=aGk r;have:=bQ x.body;simp only [vK,List.length_cons,aBk];omega
theorem aCy: ∀{l:List Arm}{x:Arm},x∈l→aEC x≤vK l
 |y::r,x,h=>by
  simp only [vK];rcases List.mem_cons.1 h with rfl|h
  ·omega
  ·have:=aCy h;omega
abbrev Fit(e:Expr):Prop:=bH e≤1048576
def parts(e:Expr):List Expr:=e.l++e.aT.map Arm.body
theorem gQ(e:Expr):(parts e).length=e.l.length+e.aT.length:=by simp [parts]
theorem bK{e x:Expr}(h:x∈parts e):bH x<bH e:=by
 rw [rO e];rcases List.mem_append.1 h with h|h
 ·have:=aGg h;omega
 ·obtain⟨a,ha,rfl⟩:=List.mem_map.1 h;have:=aCy ha;rw [aBk] at this;omega
theorem aQU(e:Expr):e.names.length+e.l.length+e.aT.length<bH e:=by
 have h1:=aCg e.names;have h2:=aGI e.l;have h3:=aGk e.aT;rw [rO];omega
theorem Fit.lens{e:Expr}(h:Fit e):e.names.length+e.l.length+e.aT.length<1048576:=Nat.lt_of_lt_of_le (aQU e) h
theorem Fit.part{e x:Expr}(h:Fit e)(hx:x∈parts e):Fit x:=Nat.le_of_lt (Nat.lt_of_lt_of_le (bK hx) h)
theorem o0{e x:Expr}(h:x∈e.l):x∈parts e:=List.mem_append_left _ h
theorem uP{e:Expr}{a:Arm}(h:a∈e.aT):a.body∈parts e:=List.mem_append_right _ (List.mem_map.2 ⟨a,h,rfl⟩)
theorem Fit.sum{e:Expr}(h:Fit e):IntKind.wrap .i64 ((e.l.length:Int)+(e.aT.length:Int))=((parts e).length:Int):=by
 have:=h.lens;rw [wrap64 (by omega) (by omega),gQ];omega
theorem aLa{e:Expr}(hf:Fit e){k:Nat}{y:Expr}{r:List Expr}(h:(parts e).drop k=y::r):
  (decide ((k:Int)<(e.l.length:Int))=true∧idx e.l (k:Int)=some y)∨
  (decide ((k:Int)<(e.l.length:Int))=false∧e.l.length≤k∧ ∃a,a∈e.aT∧e.aT[k-e.l.length]?=some a∧idx e.aT (IntKind.wrap .i64 ((k:Int)-(e.l.length:Int)))=some a∧a.body=y):=by
 have hk:(parts e)[k]?=some y:=by
  have:=congrArg (fun l=>l[0]?) h;simpa using this
 have hlen:=hf.lens;have hkl:k<(parts e).length:=(List.getElem?_eq_some_iff.1 hk).1;rw [gQ] at hkl;unfold parts at hk;by_cases hlt:k<e.l.length
 ·left
  rw [List.getElem?_append_left hlt] at hk;refine⟨decide_eq_true (by omega),?_⟩;unfold idx;rw [if_pos (by omega)];simpa using hk
 ·right
  rw [List.getElem?_append_right (by omega),List.getElem?_map] at hk;obtain⟨a,ha,hb⟩:=Option.map_eq_some_iff.1 hk;refine⟨decide_eq_false (by omega),by omega,a,List.mem_of_getElem? ha,ha,?_,hb⟩;rw [wrap64 (by omega) (by omega)];unfold idx;rw [if_pos (by omega),←ha]
  congr 1
  omega
def mW(f:Expr→Int→Option Int):List Expr→Int→Option Int
 | [],x=>some x
 |e::r,x=>(f e x).bind (mW f r)
theorem aBn(f:Expr→Int→Option Int): ∀(a b:List Expr)(x:Int),mW f (a++b) x=(mW f a x).bind (mW f b)
 | [],b,x=>rfl
 |e::r,b,x=>by
  simp only [List.cons_append,mW,Option.bind_assoc];exact congrArg _ (funext fun y=>aBn f r b y)
theorem zK{f g:Expr→Int→Option Int}: ∀{l:List Expr}(_: ∀e∈l,∀x,f e x=g e x)(x:Int),mW f l x=mW g l x
 | [],_,_=>rfl
 |e::r,h,x=>by
  simp only [mW];rw [h e (.head _) x];exact congrArg _ (funext fun y=>zK (fun e he=>h e (.tail _ he)) y)
def aCP:Nat→Expr→Int→Int→Option Int
 |0,_,_,_=>none
 |n+1,e,d,x=>if x-1<0∨d>200 then none else mW (fun y x=>aCP n y (d+1) x) (parts e) (x-1)
theorem aE2: ∀(n:Nat)(e:Expr)(d x:Int),bH e≤n→aCP (n+1) e d x=aCP n e d x
 |0,e,d,x,h=>by have:=bQ e;omega
 |n+1,e,d,x,h=>by
  rw [aCP,aCP];split
  ·rfl
  ·exact zK (fun y hy x=>aE2 n y (d+1) x (by have:=bK hy;omega)) _
def rS(e:Expr)(d x:Int):Option Int:=aCP (bH e) e d x
theorem aKP: ∀(n:Nat)(e:Expr)(d x:Int),bH e≤n→aCP n e d x=rS e d x
 |0,e,d,x,h=>by have:=bQ e;omega
 |n+1,e,d,x,h=>by
  by_cases h':bH e=n+1
  ·rw [rS,h']
  ·rw [aE2 n e d x (by omega)];exact aKP n e d x (by omega)
theorem aG8(e:Expr)(d x:Int):rS e d x=if x-1<0∨d>200 then none else mW (fun y x=>rS y (d+1) x) (parts e) (x-1):=by
 obtain⟨n,hn⟩: ∃n,bH e=n+1:=⟨bH e-1,by have:=bQ e;omega⟩
 rw [rS,hn,aCP];split
 ·rfl
 ·exact zK (fun y hy x=>aKP n y (d+1) x (by have:=bK hy;omega)) _
theorem aEy{f:Expr→Int→Option Int}: ∀{l:List Expr}(_: ∀e∈l,∀x y,f e x=some y→0≤y∧y≤x){x y:Int},0≤x→mW f l x=some y→0≤y∧y≤x
 | [],_,x,y,h0,h=>by simp [mW] at h;omega
 |e::r,hf,x,y,h0,h=>by
  obtain⟨z,h1,h2⟩:=Option.bind_eq_some_iff.1 h;have a1:=hf e (.head _) x z h1;have a2:=aEy (fun e he=>hf e (.tail _ he)) a1.1 h2;omega
theorem aBs: ∀(n:Nat)(e:Expr),bH e≤n→ ∀(d x y:Int),rS e d x=some y→0≤y∧y≤x
 |0,e,h=>by have:=bQ e;omega
 |n+1,e,h=>by
  intro d x y hm;rw [aG8] at hm;split at hm
  ·cases hm
  ·have:=aEy (fun e he x y h=>aBs n e (by have:=bK he;omega) (d+1) x y h) (x:=x-1) (by omega) hm;omega
def aQH(o:Option Int)(v:Int):Prop:=match o with|some x=>v=x|none=>v= -1
theorem aCR: ∀(n:Nat)(e:Expr),bH e≤n→Fit e→ ∀(x d:Int),0≤x→x≤3000→ -1000≤d→d≤200→ ∃v,pF e x d=some v∧aQH (rS e (201-d) x) v
 |0,e,h=>by have:=bQ e;omega
 |n+1,e,h=>by
  intro hf x d hx hx' hd hd';rw [aG8,pF];by_cases h1:d<1
  ·rw [if_pos (decide_eq_true h1),if_pos (.inr (by omega))];exact⟨_,rfl,rfl⟩
  rw [decide_eq_false h1];have hw:IntKind.wrap .i64 (x-1)=x-1:=wrap64 (by omega) (by omega);have hwd:IntKind.wrap .i64 (d-1)=d-1:=wrap64 (by omega) (by omega);rw [hw];have hlens:=hf.lens;have key: ∀(m:Int),-1≤m→m≤3000→ ∃v,fN e d m ((0:Nat):Int)=some v∧aQH (if m<0 then none else mW (fun y x=>rS y (201-d+1) x) (parts e) m) v:=by
   refine cH (l:=parts e) (C:=fun k r=> ∀(m:Int),-1≤m→m≤3000→ ∃v,fN e d m (k:Int)=some v∧aQH (if m<0 then none else mW (fun y x=>rS y (201-d+1) x) r m) v) (by rw [gQ];omega) (fun hl=> ?_) fun k y r hdr hk hy hlt _ hws ih=> ?_
   ·intro m h1 h2;rw [fN,hf.sum,hl];refine⟨m,rfl,?_⟩;split
    ·show m= -1;omega
    ·rfl
   ·intro m hm hm';rw [fN,hf.sum,hlt];by_cases h0:m<0
    ·refine⟨m,?_,?_⟩
     ·have:decide (m≥0)=false:=decide_eq_false (by omega);simp only [this];rfl
     ·rw [if_pos h0];show m= -1;omega
    ·have h0':decide (m≥0)=true:=decide_eq_true (by omega);obtain⟨v,hv,hv2⟩:=aCR n y (by have:=bK hy;omega) (hf.part hy) m (d-1) (by omega) hm' (by omega) (by omega);have e1:(201-(d-1):Int)=201-d+1:=by omega
     rw [e1] at hv2;have hstep:fN e d m (k:Int)=fN e d v ((k+1:Nat):Int):=by
      conv=>lhs;rw [fN,hf.sum,hlt]
      rw [h0'];rcases aLa hf hdr with ⟨p1,p2⟩|⟨p1,_,a,_,_,p2,p3⟩
      ·simp only [p1,p2,if_true,Option.bind_eq_bind,Option.bind_some,nf,hwd,hv,hws]
      ·simp only [p1,p2,p3,Bool.false_eq_true,if_true,if_false,Option.bind_eq_bind,Option.bind_some,nf,hwd,hv,hws]
     have hvb: -1≤v∧v≤3000:=by
      cases hm2:rS y (201-d+1) m with
      |none=>rw [hm2] at hv2;have hv3:v= -1:=hv2;omega
      |some z=>
       rw [hm2] at hv2;have:=aBs _ y (Nat.le_refl _) _ _ _ hm2;have hv3:v=z:=hv2;omega
     obtain⟨w,hw1,hw2⟩:=ih v hvb.1 hvb.2;refine⟨w,?_,?_⟩
     ·have:=hstep.trans hw1;rwa [fN,hf.sum,hlt] at this
     ·rw [if_neg h0,mW];cases hm2:rS y (201-d+1) m with
      |none=>rw [hm2] at hv2;have hv3:v= -1:=hv2;subst hv3;exact hw2
      |some z=>
       rw [hm2] at hv2;have hv3:v=z:=hv2;subst hv3;have:=aBs _ y (Nat.le_refl _) _ _ _ hm2;rwa [if_neg (by omega)] at hw2
  obtain⟨v,hv1,hv2⟩:=key (x-1) (by omega) (by omega);refine⟨v,?_,?_⟩
  ·show(fN e d (x-1) 0).bind _=some v;rw [show(0:Int)=((0:Nat):Int) from rfl,hv1]
   rfl
  ·by_cases h0:x-1<0
   ·rw [if_pos h0] at hv2;rwa [if_pos (.inl h0)]
   ·rw [if_neg h0] at hv2;rwa [if_neg (by omega)]
def aD7(o:Option Int)(r:Option (Bool×aL)):Prop:=match o with
 |some x=> ∃m,r=some (true,m)∧m.left=x
 |none=> ∃m,r=some (false,m)
def aMG(o:Option Int)(r:Option (Ctl (Bool×aL) (Int×Int))):Prop:=match o with
 |some x=> ∃c,r=some (.nx (x,c))
 |none=> ∃m,r=some (.ret (false,m))
theorem aQY(m:aL):aL.mk m.left m.deep=m:=by cases m;rfl
theorem aMD: ∀(n:Nat)(e:Expr),bH e≤n→Fit e→ ∀(d:Int)(m:aL),0≤m.left→m.left≤3000→1≤d→d≤201→aD7 (rS e d m.left) (dE e d m)
 |0,e,h=>by have:=bQ e;omega
 |n+1,e,h=>by
  intro hf d m hx hx' hd hd';rw [aG8,dE];have hw:IntKind.wrap .i64 (m.left-1)=m.left-1:=wrap64 (by omega) (by omega);rw [hw];by_cases h1:m.left-1<0
  ·rw [if_pos (.inl h1),decide_eq_true h1];exact⟨_,rfl⟩
  by_cases h2:d>200
  ·rw [if_pos (.inr h2),decide_eq_false h1,decide_eq_true h2];exact⟨_,rfl⟩
  rw [if_neg (by omega),decide_eq_false h1,decide_eq_false h2];have hwd:IntKind.wrap .i64 (d+1)=d+1:=wrap64 (by omega) (by omega);have hlens:=hf.lens;have one: ∀y∈parts e,∀m:aL,0≤m.left→m.left≤3000→aD7 (rS y (d+1) m.left) (cF y d m):=by
   intro y hy m h3 h4;have:=aMD n y (by have:=bK hy;omega) (hf.part hy) (d+1) m h3 h4 (by omega) (by omega);rw [cF,hwd];cases hm:rS y (d+1) m.left with
   |none=>
    rw [hm] at this;obtain⟨m',hm'⟩:=this;exact⟨m',by simp only [nf,hm',Option.bind_eq_bind,Option.bind_some,aQY]⟩
   |some z=>
    rw [hm] at this;obtain⟨m',hm',hz⟩:=this;exact⟨m',by simp only [nf,hm',Option.bind_eq_bind,Option.bind_some,aQY],hz⟩
  have hfl: ∀y∈parts e,∀x z,rS y (d+1) x=some z→0≤z∧z≤x:=fun y _ x z hz=>aBs _ y (Nat.le_refl _) _ _ _ hz;have loop0: ∀(a b:Int),0≤a→a≤3000→aMG (mW (fun y x=>rS y (d+1) x) e.l a) (fU e d ((0:Nat):Int) a b):=by
   refine cH (l:=e.l) (C:=fun k r=> ∀(a b:Int),0≤a→a≤3000→aMG (mW (fun y x=>rS y (d+1) x) r a) (fU e d (k:Int) a b)) (by omega) (fun hl=> ?_) fun k y r _ _ hy hlt hi hws ih=> ?_
   ·intro a b _ _;rw [fU,hl];exact⟨b,rfl⟩
   ·intro a b h3 h4;have h5:=one y (o0 hy) ⟨a,b⟩ h3 h4;rw [fU,if_pos hlt,hi,mW];simp only [nf,Option.bind_eq_bind,Option.bind_some,hws];cases hm:rS y (d+1) a with
    |none=>
     have h6:aD7 none (cF y d ⟨a,b⟩):=hm▸h5;obtain⟨m',hm'⟩:=h6;rw [hm'];exact⟨_,rfl⟩
    |some z=>
     have h6:aD7 (some z) (cF y d ⟨a,b⟩):=hm▸h5;obtain⟨m',hm',rfl⟩:=h6;rw [hm'];have:=hfl y (o0 hy) _ _ hm;exact ih m'.left m'.deep this.1 (by omega)
  have loop1: ∀(a b:Int),0≤a→a≤3000→aMG (mW (fun y x=>rS y (d+1) x) (e.aT.map Arm.body) a) (fY e d ((0:Nat):Int) a b):=by
   refine cH (l:=e.aT) (C:=fun k r=> ∀(a b:Int),0≤a→a≤3000→aMG (mW (fun y x=>rS y (d+1) x) (r.map Arm.body) a) (fY e d (k:Int) a b)) (by omega) (fun hl=> ?_) fun k y r _ _ hy hlt hi hws ih=> ?_
   ·intro a b _ _;rw [fY,hl];exact⟨b,rfl⟩
   ·intro a b h3 h4;have h5:=one y.body (uP hy) ⟨a,b⟩ h3 h4;rw [fY,if_pos hlt,hi,List.map_cons,mW];simp only [nf,Option.bind_eq_bind,Option.bind_some,hws];cases hm:rS y.body (d+1) a with
    |none=>
     have h6:aD7 none (cF y.body d ⟨a,b⟩):=hm▸h5;obtain⟨m',hm'⟩:=h6;rw [hm'];exact⟨_,rfl⟩
    |some z=>
     have h6:aD7 (some z) (cF y.body d ⟨a,b⟩):=hm▸h5;obtain⟨m',hm',rfl⟩:=h6;rw [hm'];have:=hfl y.body (uP hy) _ _ hm;exact ih m'.left m'.deep this.1 (by omega)
  have hA:=loop0 (m.left-1) (max m.deep d) (by omega) (by omega);simp only [Bool.false_eq_true,if_false,Option.bind_eq_bind,Option.bind_some,nf];rw [pN,parts,aBn];simp only [nf,Option.bind_eq_bind,Option.bind_some];cases hm:mW (fun y x=>rS y (d+1) x) e.l (m.left-1) with
  |none=>
   rw [hm] at hA;obtain⟨m',hm'⟩:=hA;rw [show((0:Nat):Int)=0 from rfl] at hm';rw [hm'];exact⟨_,rfl⟩
  |some z=>
   rw [hm] at hA;obtain⟨c,hm'⟩:=hA;rw [show((0:Nat):Int)=0 from rfl] at hm';rw [hm'];have hz:=aEy (fun y hy x z hz=>hfl y (o0 hy) x z hz) (by omega) hm;have hB:=loop1 z c hz.1 (by omega);rw [show((0:Nat):Int)=0 from rfl] at hB;simp only [Option.bind_some];cases hm2:mW (fun y x=>rS y (d+1) x) (e.aT.map Arm.body) z with
   |none=>
    rw [hm2] at hB;obtain⟨m',hm3⟩:=hB;rw [hm3];exact⟨_,rfl⟩
   |some w=>
    rw [hm2] at hB;obtain⟨c',hm3⟩:=hB;rw [hm3];exact⟨_,rfl,rfl⟩
theorem rZ:big=1099511627776:=by unfold big;rfl
theorem nK{e:Expr}(hf:Fit e):kU e=some (parts e):=by
 have hl:=hf.lens;have loop: ∀out:List Expr,out.length+e.aT.length≤1048576→jP e out ((0:Nat):Int)=some (out++e.aT.map Arm.body):=by
  refine cH (l:=e.aT) (C:=fun k r=> ∀out:List Expr,out.length+r.length≤1048576→jP e out (k:Int)=some (out++r.map Arm.body)) (by omega) (fun hl=> ?_) fun k y r _ _ hy hlt hi hws ih=> ?_
  ·intro out _;rw [jP,hl];simp
  ·intro out ho;simp only [List.length_cons] at ho;rw [jP,if_pos hlt,hi];have ha:app 120 out [y.body]=some (out++ [y.body]):=aCf (by rw [rZ];simp only [List.length_singleton];omega) (by rw [rZ];simp only [List.length_singleton];omega);simp only [nf,Option.bind_eq_bind,Option.bind_some,ha,hws];rw [ih (out++ [y.body]) (by simp only [List.length_append,List.length_singleton];omega)];simp
 rw [kU];have ha:app 120 ([]:List Expr) e.l=some e.l:=by rw [aCf (by rw [rZ];simp only [List.length_nil];omega) (by rw [rZ];simp only [List.length_nil];omega)];rfl
 have:=loop e.l (by omega);rw [show((0:Nat):Int)=0 from rfl] at this;simp only [Option.bind_eq_bind,Option.bind_some,ha,this]
 rfl
def nW(f:Expr→Int):List Expr→Int
 | []=>0
 |y::r=>if f y=0 then nW f r else f y
theorem aC5(f:Expr→Int): ∀a b:List Expr,nW f (a++b)=if nW f a=0 then nW f b else nW f a
 | [],b=>by simp [nW]
 |y::r,b=>by
  simp only [List.cons_append,nW];split
  ·exact aC5 f r b
  ·rfl
noncomputable def chk(e:Expr):Int:=(g5 e).getD 0
theorem qN(H: ∀e,Fit e→ ∃v,eW e=some v∧rD e=some v): ∀(n:Nat)(e:Expr),bH e≤n→Fit e→g5 e=some (chk e)∧j5 e=some (chk e)∧ ∃v,eW e=some v∧chk e=if v=0 then nW chk (parts e) else v
 |0,e,h=>by have:=bQ e;omega
 |n+1,e,h=>by
  intro hf;obtain⟨v,h1,h2⟩:=H e hf;have hl:=hf.lens;have IH: ∀y∈parts e,g5 y=some (chk y)∧j5 y=some (chk y):=fun y hy=>have h:=qN H n y (by have:=bK hy;omega) (hf.part hy);⟨h.1,h.2.1⟩;have A:g5 e=some (if v=0 then nW chk (parts e) else v):=by
   rw [g5,h2,nK hf];have loop:iZ (parts e) ((0:Nat):Int)=some (if nW chk (parts e)=0 then .nx () else .ret (nW chk (parts e))):=by
    refine cH (l:=parts e) (C:=fun k r=>iZ (parts e) (k:Int)=some (if nW chk r=0 then .nx () else .ret (nW chk r))) (by rw [gQ];omega) (fun hl=> ?_) fun k y r _ _ hy hlt hi hws ih=> ?_
    ·rw [iZ,hl];rfl
    ·rw [iZ,if_pos hlt,hi,nW];simp only [nf,Option.bind_eq_bind,Option.bind_some,(IH y hy).1,hws];by_cases h0:chk y=0
     ·simpa [h0] using ih
     ·simp [h0]
   rw [show((0:Nat):Int)=0 from rfl] at loop;by_cases h0:v=0
   ·simp only [h0,Option.bind_eq_bind,Option.bind_some,loop];by_cases h3:nW chk (parts e)=0<;>simp [h3]
   ·simp [h0]
  have hc:chk e=if v=0 then nW chk (parts e) else v:=by rw [chk,A];rfl
  refine⟨by rw [hc];exact A,?_,v,h1,hc⟩;rw [hc,j5,h1];by_cases h0:v=0
  ·subst h0;have one: ∀y∈parts e,∀c,jR y c=some ((chk y==0),chk y):=fun y hy c=>by
    rw [jR];simp only [nf,(IH y hy).2,Option.bind_eq_bind,Option.bind_some]
   have loop0: ∀c:Int,c=0→fZ e ((0:Nat):Int) c=some (if nW chk e.l=0 then .nx 0 else .ret (false,nW chk e.l)):=by
    refine cH (l:=e.l) (C:=fun k r=> ∀c:Int,c=0→fZ e (k:Int) c=some (if nW chk r=0 then .nx 0 else .ret (false,nW chk r))) (by omega) (fun hl=> ?_) fun k y r _ _ hy hlt hi hws ih=> ?_
    ·intro c hc;subst hc;rw [fZ,hl];rfl
    ·intro c hc;rw [fZ,if_pos hlt,hi,nW];simp only [nf,Option.bind_eq_bind,Option.bind_some,one y (o0 hy),hws];by_cases h0:chk y=0
     ·rw [h0];exact ih 0 rfl
     ·simp [h0]
   have loop1: ∀c:Int,c=0→fX e ((0:Nat):Int) c=some (if nW chk (e.aT.map Arm.body)=0 then .nx 0 else .ret (false,nW chk (e.aT.map Arm.body))):=by
    refine cH (l:=e.aT) (C:=fun k r=> ∀c:Int,c=0→fX e (k:Int) c=some (if nW chk (r.map Arm.body)=0 then .nx 0 else .ret (false,nW chk (r.map Arm.body)))) (by omega) (fun hl=> ?_) fun k y r _ _ hy hlt hi hws ih=> ?_
    ·intro c hc;subst hc;rw [fX,hl];rfl
    ·intro c hc;rw [fX,if_pos hlt,hi,List.map_cons,nW];simp only [nf,Option.bind_eq_bind,Option.bind_some,one y.body (uP hy),hws];by_cases h0:chk y.body=0
     ·rw [h0];exact ih 0 rfl
     ·simp [h0]
   have hA:=loop0 0 rfl;have hB:=loop1 0 rfl;rw [show((0:Nat):Int)=0 from rfl] at hA hB;simp only [nf,Option.bind_eq_bind,Option.bind_some,beq_self_eq_true,if_true];rw [pZ,parts,aC5];simp only [nf,hA,Option.bind_eq_bind,Option.bind_some];by_cases h3:nW chk e.l=0
   ·simp only [h3,if_true,hB];by_cases h4:nW chk (e.aT.map Arm.body)=0<;>simp [h4]
   ·simp [h3]
  ·simp [h0]
theorem aQ6(H: ∀e,Fit e→ ∃v,eW e=some v∧rD e=some v){e:Expr}(hf:Fit e): ∃v,lN e=some v∧g8 e=some v:=by
 obtain⟨h1,h2,_⟩:=qN H _ e (Nat.le_refl _) hf;obtain⟨v,h3,h4⟩:=aCR _ e (Nat.le_refl _) hf 3000 200 (by omega) (by omega) (by omega) (by omega);have h5:=aMD _ e (Nat.le_refl _) hf 1 ⟨3000,0⟩ (by show(0:Int)≤3000;omega) (by show(3000:Int)≤3000;omega) (by omega) (by omega);have e1:(201-200:Int)=1:=rfl;rw [e1] at h4;rw [lN,lT,g8,h3];simp only [Option.bind_eq_bind,Option.bind_some,h1,h2];change aD7 (rS e 1 3000) _ at h5;cases hm:rS e 1 3000 with
 |none=>
  rw [hm] at h4 h5;have h6:v= -1:=h4;obtain⟨m,hm'⟩:=h5;refine⟨3,?_,?_⟩
  ·change ((dE e 1 ⟨3000,0⟩).bind _).bind _=_;rw [hm'];rfl
  ·subst h6;rfl
 |some z=>
  rw [hm] at h4 h5;have h6:v=z:=h4;have hb:=aBs _ e (Nat.le_refl _) _ _ _ hm;obtain⟨m,hm',_⟩:=h5;refine⟨chk e,?_,?_⟩
  ·change ((dE e 1 ⟨3000,0⟩).bind _).bind _=_;rw [hm'];rfl
  ·rw [decide_eq_false (by omega)];rfl
def aSN:List Str:= [([43]:Str),([45]:Str),([42]:Str),([60]:Str),([61,61]:Str)]
def kB(s:Str)(c:Int):Bool:=if c=1 then p6 s else if c=2 then vD s else if c=3 then has aSN s else s==([]:Str)
theorem sU(s:Str)(c:Int):nF s c=some (kB s c):=by
 rw [nF,kB,x7,aB9];by_cases h1:c=1
 ·subst h1;rfl
 by_cases h2:c=2
 ·subst h2;rfl
 by_cases h3:c=3
 ·subst h3;unfold has aSN;simp only [List.any_cons,List.any_nil,Bool.or_false];have sw: ∀a:Str,(a==s)=(s==a):=fun a=>Bool.beq_comm;rw [sw,sw,sw,sw,sw];show(if((3:Int)==1)=true then _ else _)=_;generalize (s==([43]:Str))=b1;generalize (s==([45]:Str))=b2;generalize (s==([42]:Str))=b3;generalize (s==([60]:Str))=b4;generalize (s==([61,61]:Str))=b5;cases b1<;>cases b2<;>cases b3<;>cases b4<;>cases b5<;>rfl
 ·rw [if_neg h1,if_neg h2,if_neg h3,if_neg (by simp [h1]),if_neg (by simp [h2]),if_neg (by simp [h3])]
theorem wZ(s:Str)(c:Int)(hl:s.length<4611686018427387904):nA s c=some (kB s c):=by
 rw [nA,kB,sR s hl,yQ s hl];by_cases h1:c=1
 ·subst h1;rfl
 by_cases h2:c=2
 ·subst h2;rfl
 by_cases h3:c=3
 ·subst h3;have:=iB aSN s (by decide);unfold aSN at this;rw [this]
  rfl
 ·rw [if_neg h1,if_neg h2,if_neg h3,if_neg (by simp [h1]),if_neg (by simp [h2]),if_neg (by simp [h3])]
def rR(v:Int):Ctl Int Unit:=if v=0 then .nx () else .ret v
def iW(p:Str→Bool):List Str→List Str→Int
 |_,[]=>0
 |pre,y::r=>if p y=true then(if has pre y=true then 5 else iW p (pre++ [y]) r) else 4
theorem pS{α:Type}{l:List α}{k:Nat}(h:k≤l.length):cut l 0 (k:Int)=some (l.take k):=by
 unfold cut;rw [if_pos ⟨by omega,by omega,by omega⟩];simp
theorem pX{α:Type}{l:List α}{k:Nat}{y:α}{r:List α}(h:l.drop k=y::r):l.take (k+1)=l.take k++ [y]:=by
 have hk:l[k]?=some y:=by
  have:=congrArg (fun l=>l[0]?) h;simpa using this
 rw [List.take_add_one,hk]
 rfl
theorem fJ(l:List Str)(c:Int)(hl:l.length≤1048576):eO l c=some (iW (kB · c) [] l):=by
 have loop:eM l c ((0:Nat):Int)=some (rR (iW (kB · c) (l.take 0) l)):=by
  refine cH (C:=fun k r=>eM l c (k:Int)=some (rR (iW (kB · c) (l.take k) r))) (by omega) (fun hd=> ?_) fun k y r hdr hk _ hlt hi hw ih=> ?_
  ·rw [eM,hd];rfl
  ·rw [eM,if_pos hlt,hi,iW];rw [pX hdr] at ih;simp only [nf,Option.bind_eq_bind,Option.bind_some,sU,pS (Nat.le_of_lt hk),yF (l.take k) y (by simp;omega),hw];cases kB y c with
   |false=>rfl
   |true=>
    cases has (l.take k) y with
    |true=>rfl
    |false=>exact ih
 rw [show((0:Nat):Int)=0 from rfl,List.take_zero] at loop;rw [eO,loop];unfold rR;by_cases h:iW (kB · c) [] l=0
 ·simp [h]
 ·simp [h]
theorem rY(l:List Str)(hl:l.length≤1048576)(hs: ∀x∈l,x.length<4611686018427387904):j7 l=some (iW (kB · 1) [] l):=by
 have loop:gF l ((0:Nat):Int)=some (rR (iW (kB · 1) (l.take 0) l)):=by
  refine cH (C:=fun k r=>gF l (k:Int)=some (rR (iW (kB · 1) (l.take k) r))) (by omega) (fun hd=> ?_) fun k y r hdr hk hy hlt hi hw ih=> ?_
  ·rw [gF,hd];rfl
  ·rw [gF,if_pos hlt,hi,iW];rw [pX hdr] at ih;simp only [nf,Option.bind_eq_bind,Option.bind_some,sR y (hs y hy),pS (Nat.le_of_lt hk),iB (l.take k) y (by simp;omega),hw,hi];have e:kB y 1=p6 y:=rfl;rw [e];cases p6 y with
   |false=>rfl
   |true=>
    cases has (l.take k) y with
    |true=>rfl
    |false=>exact ih
 rw [show((0:Nat):Int)=0 from rfl,List.take_zero] at loop;rw [j7,loop];unfold rR;by_cases h:iW (kB · 1) [] l=0
 ·simp [h]
 ·simp [h]
theorem aJ9{α:Type}(l:List α)(k:Nat):idx l ((k+1:Nat):Int)=idx (l.drop 1) (k:Int):=by
 unfold idx;rw [if_pos (by omega),if_pos (by omega)];simp [Nat.add_comm]
theorem aSP{α:Type}{l:List α}{k:Nat}(h:k+1≤l.length):cut l 1 ((k+1:Nat):Int)=some ((l.drop 1).take k):=by
 unfold cut;rw [if_pos ⟨by omega,by omega,by omega⟩];simp [List.drop_take]
theorem aDm(e:Expr)(hf:Fit e)(hn:1≤e.names.length)(hs: ∀x∈e.names,x.length<4611686018427387904):iM e 1=some (rR (iW (kB · 2) [] (e.names.drop 1))):=by
 have hlen:=hf.lens;have loop:iM e ((0+1:Nat):Int)=some (rR (iW (kB · 2) ((e.names.drop 1).take 0) (e.names.drop 1))):=by
  refine cH (l:=e.names.drop 1) (C:=fun k r=>iM e ((k+1:Nat):Int)=some (rR (iW (kB · 2) ((e.names.drop 1).take k) r))) (by simp;omega) (fun hd=> ?_) fun k y r hdr hk hy hlt hi hw ih=> ?_
  ·have:decide ((((e.names.drop 1).length+1:Nat):Int)<(e.names.length:Int))=false:=decide_eq_false (by simp;omega);rw [iM,this];rfl
  ·have hlt':decide (((k+1:Nat):Int)<(e.names.length:Int))=true:=decide_eq_true (by simp at hk;omega);have hw':IntKind.wrap .i64 (((k+1:Nat):Int)+1)=((k+1+1:Nat):Int):=by rw [wrap64 (by omega) (by simp at hk;omega)];omega
   rw [iM,if_pos hlt',aJ9,hi,iW];rw [pX hdr] at ih;simp only [nf,Option.bind_eq_bind,Option.bind_some,yQ y (hs y (List.mem_of_mem_drop hy)),aSP (l:=e.names) (k:=k) (by simp at hk;omega),iB ((e.names.drop 1).take k) y (by simp;omega),hw',aJ9,hi];have e:kB y 2=vD y:=rfl;rw [e];cases vD y with
   |false=>rfl
   |true=>
    cases has ((_:List Str).take k) y with
    |true=>rfl
    |false=>exact ih
 rw [List.take_zero] at loop;exact loop
theorem qW{e:Expr}(hf:Fit e){a:Arm}(ha:a∈e.aT):a.op.length<1048576∧a.names.length<1048576∧ ∀x∈a.names,x.length<4611686018427387904:=by
 have h1:=aCy ha;have h2:bH e≤1048576:=hf;have h3:=aCg a.names;have h4:=bQ a.body;rw [rO] at h2;rw [aBk] at h1;refine⟨by omega,by omega,fun x hx=> ?_⟩;have:=aCp hx;omega
theorem aJO{e:Expr}(hf:Fit e):e.s.length<1048576∧e.t.length<1048576∧ ∀x∈e.names,x.length<4611686018427387904:=by
 have h2:bH e≤1048576:=hf;rw [rO] at h2;refine⟨by omega,by omega,fun x hx=> ?_⟩;have:=aCp hx;omega
def aNK:Str:= [114,101,116,117,114,110]
def aLu(kd:Int)(pre:List Arm)(i:Nat)(a:Arm):Int:=
 if(if kd=11 then decide (a.names.length≤4) else if i=0 then decide (a.names.length=1)&&a.op==aNK else decide (a.names.length=2))=true then
  if(if kd=11 then kB a.op 2 else if i=0 then true else kB a.op 1)=true then
   if iW (kB · 1) [] a.names=0 then(if pre.any (·.op==a.op)=true then 5 else 0) else iW (kB · 1) [] a.names
  else 4
 else 7
theorem aRE(l:List Arm)(a:Arm)(hl:l.length≤1048576):dL l a=some (l.any (·.op==a.op)):=by
 have h:=aDN l (by omega) (fun y=>y.op==a.op) (fun i=>dK l a i) (fun i=>by rw [dK];rfl);have h2:eF l a=some (aFQ (fun y=>y.op==a.op) l 0):=by
  rw [eF,h];unfold aFQ;cases fnd (fun y:Arm=>y.op==a.op) l 0<;>rfl
 rw [dL,h2];exact congrArg some (xY _ l 0)
theorem aBS(a b:Nat):((a:Int)==(b:Int))=decide (a=b):=by
 by_cases h:a=b
 ·subst h;simp
 ·rw [decide_eq_false h];simp;omega
theorem aFL(e:Expr)(hf:Fit e){k:Nat}{a:Arm}{r:List Arm}(hk:k≤e.aT.length)(ha:a∈e.aT)(hi:idx e.aT (k:Int)=some a):qI e (k:Int)=some (aLu e.kind (e.aT.take k) k a):=by
 obtain⟨h1,h2,h3⟩:=qW hf ha;have hlen:=hf.lens;rw [qI,hi,aLu];have a1:decide (((a.names.length:Nat):Int)≤4)=decide (a.names.length≤4):=aOj _ 4;have a2:(((a.names.length:Nat):Int)==1)=decide (a.names.length=1):=aBS _ 1;have a3:(((a.names.length:Nat):Int)==2)=decide (a.names.length=2):=aBS _ 2;have a4:((k:Int)==0)=decide (k=0):=aBS _ 0;have d1:=fJ a.names 1 (by omega);have d2:=aRE (e.aT.take k) a (by simp;omega);simp only [a1,a2,a3,a4,Option.bind_eq_bind,Option.bind_some,sU,d1,pS hk,d2];generalize hD:iW (kB · 1) [] a.names=dv;have hr:([114,101,116,117,114,110]:Str)=aNK:=rfl;rw [hr];by_cases hk11:e.kind=11
 ·have hb:(e.kind==11)=true:=by simp [hk11]
  rw [hb,if_pos hk11,if_pos hk11];by_cases h4:a.names.length≤4
  ·rw [decide_eq_true h4];cases hc:kB a.op 2<;>by_cases h0:dv=0<;>cases (e.aT.take k).any (·.op==a.op)<;>simp [h0,hc]
  ·rw [decide_eq_false h4];rfl
 ·have hb:(e.kind==11)=false:=by simp [hk11]
  rw [hb,if_neg hk11,if_neg hk11];by_cases hk0:k=0
  ·rw [decide_eq_true hk0,if_pos hk0,if_pos hk0];by_cases h4:a.names.length=1
   ·rw [decide_eq_true h4];cases a.op==aNK<;>by_cases h0:dv=0<;>cases (e.aT.take k).any (·.op==a.op)<;>simp [h0]
   ·rw [decide_eq_false h4];rfl
  ·rw [decide_eq_false hk0,if_neg hk0,if_neg hk0];by_cases h4:a.names.length=2
   ·rw [decide_eq_true h4];cases hc:kB a.op 1<;>by_cases h0:dv=0<;>cases (e.aT.take k).any (·.op==a.op)<;>simp [h0,hc]
   ·rw [decide_eq_false h4];rfl
def n9(kd:Int):List Arm→List Arm→Int
 |_,[]=>0
 |pre,a::r=>if aLu kd pre pre.length a=0 then n9 kd (pre++ [a]) r else aLu kd pre pre.length a
theorem pK(e:Expr)(y:bO)(hf:Fit e):fC e y 0=some (rR (n9 e.kind [] e.aT)):=by
 have hlen:=hf.lens;have loop:fC e y ((0:Nat):Int)=some (rR (n9 e.kind (e.aT.take 0) e.aT)):=by
  refine cH (C:=fun k r=>fC e y (k:Int)=some (rR (n9 e.kind (e.aT.take k) r))) (by omega) (fun hd=> ?_) fun k a r hdr hk ha hlt hi hw ih=> ?_
  ·rw [fC,hd];rfl
  ·rw [fC,if_pos hlt,aFL e hf (r:=r) (Nat.le_of_lt hk) ha hi,n9];rw [pX hdr] at ih;have hkl:(e.aT.take k).length=k:=by simp;omega
   simp only [nf,Option.bind_eq_bind,Option.bind_some,hw,hkl];by_cases h0:aLu e.kind (e.aT.take k) k a=0
   ·simpa [h0] using ih
   ·simp [h0,rR]
 rw [List.take_zero] at loop;exact loop
theorem aFk(e:Expr)(hf:Fit e){k:Nat}(hk:k≤e.aT.length)(a:Arm):lK e (k:Int) a 0=some (if(e.aT.take k).any (·.op==a.op)=true then .ret 5 else .nx ()):=by
 have hlen:=hf.lens;have hkl:(e.aT.take k).length=k:=by simp;omega
 refine cH (l:=e.aT.take k) (C:=fun j r=>lK e (k:Int) a (j:Int)=some (if r.any (·.op==a.op)=true then .ret 5 else .nx ())) (by omega) (fun hd=> ?_) fun j y r hdr hj hy hlt hi hw ih=> ?_
 ·rw [hkl] at hd⊢;rw [lK,hd];rfl
 ·rw [hkl] at hlt hj;have hi':idx e.aT (j:Int)=some y:=by
   unfold idx at hi⊢;rw [if_pos (by omega)] at hi⊢;rw [Int.toNat_natCast] at hi⊢;rwa [List.getElem?_take_of_lt hj] at hi
  rw [lK,if_pos hlt,hi',List.any_cons];simp only [nf,Option.bind_eq_bind,Option.bind_some,hw];cases y.op==a.op with
  |true=>rfl
  |false=>simpa using ih
theorem aE5(e:Expr)(hf:Fit e):j4 e 0=some (rR (n9 e.kind [] e.aT)):=by
 have hlen:=hf.lens;have loop:j4 e ((0:Nat):Int)=some (rR (n9 e.kind (e.aT.take 0) e.aT)):=by
  refine cH (C:=fun k r=>j4 e (k:Int)=some (rR (n9 e.kind (e.aT.take k) r))) (by omega) (fun hd=> ?_) fun k a r hdr hk ha hlt hi hw ih=> ?_
  ·rw [j4,hd];rfl
  ·obtain⟨h1,h2,h3⟩:=qW hf ha;rw [pX hdr] at ih;have hkl:(e.aT.take k).length=k:=by simp;omega
   rw [j4,if_pos hlt,hi,n9,hkl,aLu];have a1:decide (((a.names.length:Nat):Int)>4)= !decide (a.names.length≤4):=by
    by_cases h:a.names.length≤4
    ·rw [decide_eq_true h,decide_eq_false (by omega)];rfl
    ·rw [decide_eq_false h,decide_eq_true (by omega)];rfl
   have a2:(((a.names.length:Nat):Int) !=1)= !decide (a.names.length=1):=congrArg (!·) (aBS _ 1);have a3:(((a.names.length:Nat):Int) !=2)= !decide (a.names.length=2):=congrArg (!·) (aBS _ 2);have a4:((k:Int)==0)=decide (k=0):=aBS _ 0;have d1:=rY a.names (by omega) h3;have d2:=aFk e hf (Nat.le_of_lt hk) a;simp only [nf,a1,a2,a3,a4,Option.bind_eq_bind,Option.bind_some,wZ a.op _ (Nat.lt_of_lt_of_le h1 (by omega)),d1,d2,hw];generalize hD:iW (kB · 1) [] a.names=dv;have hr:([114,101,116,117,114,110]:Str)=aNK:=rfl;rw [hr];by_cases hk11:e.kind=11
   ·have hb:(e.kind !=11)=false:=by simp [hk11]
    rw [hb,if_pos hk11,if_pos hk11];by_cases h4:a.names.length≤4
    ·rw [decide_eq_true h4];cases kB a.op 2<;>by_cases h0:dv=0<;>cases (e.aT.take k).any (·.op==a.op)<;>simp [h0,rR]<;>exact ih
    ·rw [decide_eq_false h4];rfl
   ·have hb:(e.kind !=11)=true:=by simp [hk11]
    rw [hb,if_neg hk11,if_neg hk11];by_cases hk0:k=0
    ·rw [decide_eq_true hk0,if_pos hk0,if_pos hk0];by_cases h4:a.names.length=1
     ·rw [decide_eq_true h4];cases a.op==aNK<;>by_cases h0:dv=0<;>cases (e.aT.take k).any (·.op==a.op)<;>simp [h0,rR]<;>exact ih
     ·rw [decide_eq_false h4];cases a.op==aNK<;>rfl
    ·rw [decide_eq_false hk0,if_neg hk0,if_neg hk0];by_cases h4:a.names.length=2
     ·rw [decide_eq_true h4];cases kB a.op 1<;>by_cases h0:dv=0<;>cases (e.aT.take k).any (·.op==a.op)<;>simp [h0,rR]<;>exact ih
     ·rw [decide_eq_false h4];rfl
 rw [List.take_zero] at loop;exact loop
noncomputable def s5:List aH:=jC.getD []
theorem aHB:jC=some s5:=by rw [s5,jC];rfl
theorem aK6(k:Int)(h0:0≤k)(h1:k≤19): ∃a b,idx kT k=some a∧idx s5 k=some b∧b.s=a.s∧b.t=a.t∧b.names=a.names∧b.l=a.parts∧b.aT=a.aT∧b.low=a.low∧b.high=a.high∧a.more=(if k=17 then 12 else 0)∧a.plus=(if k=10 then 4 else 0)∧0≤a.names∧a.names≤10∧0≤a.parts∧a.parts≤10∧(k=17→a.names=1)∧(k=10→a.parts=0)∧(k=11→a.aT=true):=by
 have hr:s5=(jC).getD []:=rfl;rw [jC,Option.getD_some] at hr;rw [hr];have hk:k=0∨k=1∨k=2∨k=3∨k=4∨k=5∨k=6∨k=7∨k=8∨k=9∨k=10∨k=11∨k=12∨k=13∨k=14∨k=15∨k=16∨k=17∨k=18∨k=19:=by omega
 rcases hk with rfl|rfl|rfl|rfl|rfl|rfl|rfl|rfl|rfl|rfl|rfl|rfl|rfl|rfl|rfl|rfl|rfl|rfl|rfl|rfl<;>
  exact⟨_,_,rfl,rfl,rfl,rfl,rfl,rfl,rfl,rfl,rfl,rfl,rfl,by decide,by decide,by decide,by decide,by decide,by decide,by decide⟩
theorem aLj(n a b:Int):iO n a b=some (decide (a≤n)&&decide (n≤b)):=by
 rw [iO];cases decide (a≤n)<;>rfl
theorem aSU(n a b:Int):u4 n a b=some (decide (a≤n)&&decide (n≤b)):=by
 rw [u4];cases decide (a≤n)<;>rfl
def wO(e:Expr):Int:=if e.kind=17 then(if iW (kB · 1) [] (e.names.take 1)=0 then iW (kB · 2) [] (e.names.drop 1) else iW (kB · 1) [] (e.names.take 1)) else iW (kB · 1) [] e.names
theorem aHI(e:Expr)(hf:Fit e)(hn:e.kind=17→1≤e.names.length):tA e=some (wO e):=by
 have hlen:=hf.lens;obtain⟨_,_,hs⟩:=aJO hf;rw [tA,wO];by_cases hk:e.kind=17
 ·have hb:(e.kind !=17)=false:=by simp [hk]
  have hc:cut e.names 0 1=some (e.names.take 1):=pS (l:=e.names) (k:=1) (hn hk);rw [hb,hc,if_pos hk];simp only [Option.bind_eq_bind,Option.bind_some,rY (e.names.take 1) (by simp;omega) (fun x hx=>hs x (List.mem_of_mem_take hx)),aDm e hf (hn hk) hs];generalize iW (kB · 2) [] (e.names.drop 1)=dv;by_cases h0:iW (kB · 1) [] (e.names.take 1)=0
  ·by_cases h2:dv=0<;>simp [h0,h2,rR]
  ·simp [h0]
 ·have hb:(e.kind !=17)=true:=by simp [hk]
  rw [hb,if_neg hk,rY e.names (by omega) hs]
  rfl
theorem aMC{α:Type}{l:List α}{k:Nat}(h:k≤l.length):cut l (k:Int) (l.length:Int)=some (l.drop k):=by
 unfold cut;rw [if_pos ⟨by omega,by omega,by omega⟩];simp
theorem aB3(e:Expr)(hf:Fit e): ∃v,eW e=some v∧rD e=some v:=by
 have hlen:=hf.lens;obtain⟨hs1,hs2,hs3⟩:=aJO hf;rw [eW,rD,aHB];have hrl:IntKind.wrap .i64 ((s5.length:Int)-1)=19:=by
  have hr:s5=(jC).getD []:=rfl;rw [jC,Option.getD_some] at hr;rw [hr];exact wrap64 (by decide) (by decide)
 simp only [aLj,aSU,Option.bind_eq_bind,Option.bind_some,hrl];by_cases hk:0≤e.kind∧e.kind≤19
 rotate_left
 ·have:(decide (0≤e.kind)&&decide (e.kind≤19))=false:=by
   rw [Bool.and_eq_false_iff];by_cases h:0≤e.kind
   ·exact .inr (decide_eq_false (fun h'=>hk ⟨h,h'⟩))
   ·exact .inl (decide_eq_false h)
  rw [this];exact⟨1,rfl,rfl⟩
 rw [decide_eq_true hk.1,decide_eq_true hk.2];obtain⟨a,b,ha,hb,b1,b2,b3,b4,b5,b6,b7,b8,b9,c1,c2,c3,c4,c5,c6,c7⟩:=aK6 e.kind hk.1 hk.2;rw [ha,hb];simp only [Option.bind_eq_bind,Option.bind_some,b1,b2,b3,b4,b5,b6,b7,Bool.and_self,Bool.not_true,Bool.false_eq_true,if_false];by_cases hn:(decide (a.low≤e.n)&&decide (e.n≤a.high))=true
 rotate_left
 ·rw [Bool.eq_false_iff.2 hn];exact⟨1,rfl,rfl⟩
 rw [hn];simp only [Bool.not_true,Bool.false_eq_true,if_false,sU,wZ e.s _ (Nat.lt_of_lt_of_le hs1 (by omega)),wZ e.t _ (Nat.lt_of_lt_of_le hs2 (by omega)),Option.bind_some];by_cases hc1:kB e.s a.s=true
 rotate_left
 ·rw [Bool.eq_false_iff.2 hc1];exact⟨4,rfl,rfl⟩
 by_cases hc2:kB e.t a.t=true
 rotate_left
 ·rw [hc1,Bool.eq_false_iff.2 hc2];exact⟨4,rfl,rfl⟩
 rw [hc1,hc2];have w1:IntKind.wrap .i64 (a.names+a.more)=a.names+a.more:=wrap64 (by rw [b8];split<;>omega) (by rw [b8];split<;>omega);have w2:IntKind.wrap .i64 (a.parts+a.plus)=a.parts+a.plus:=wrap64 (by rw [b9];split<;>omega) (by rw [b9];split<;>omega);rw [w1,w2,b8,b9];have hN:(if((e.names.length:Int)==a.names)=true then some true else(if(e.kind==17)=true then some (decide ((e.names.length:Int)≥1)) else some false:Option Bool).bind fun c10=>(if c10=true then some (decide ((e.names.length:Int)≤13)) else some false:Option Bool).bind fun c11=>some c11)=some (decide (a.names≤(e.names.length:Int))&&decide ((e.names.length:Int)≤a.names+(if e.kind=17 then 12 else 0))):=by
  by_cases h17:e.kind=17
  ·have e1:(e.kind==17)=true:=by simp [h17]
   have e2:=c5 h17;rw [e1,if_pos h17,e2];by_cases q:(e.names.length:Int)=1
   ·rw [q];rfl
   ·rw [if_neg (by simpa using q)];by_cases q2:(e.names.length:Int)≥1
    ·rw [decide_eq_true q2]
     rfl
    ·rw [decide_eq_false q2]
     rfl
  ·have e1:(e.kind==17)=false:=by simp [h17]
   rw [e1,if_neg h17];by_cases q:(e.names.length:Int)=a.names
   ·rw [q,if_pos (by simp),decide_eq_true (by omega),decide_eq_true (by omega)];rfl
   ·rw [if_neg (by simpa using q)];have:(decide (a.names≤(e.names.length:Int))&&decide ((e.names.length:Int)≤a.names+0))=false:=by
     rw [Bool.and_eq_false_iff];by_cases q2:a.names≤(e.names.length:Int)
     ·exact .inr (decide_eq_false (by omega))
     ·exact .inl (decide_eq_false q2)
    rw [this];rfl
 have hP:(if((e.l.length:Int)==a.parts)=true then some true else(if(e.kind==10)=true then some (decide ((e.l.length:Int)≤4)) else some false:Option Bool).bind fun c13=>some c13)=some (decide (a.parts≤(e.l.length:Int))&&decide ((e.l.length:Int)≤a.parts+(if e.kind=10 then 4 else 0))):=by
  by_cases h10:e.kind=10
  ·have e1:(e.kind==10)=true:=by simp [h10]
   have e2:=c6 h10;rw [e1,if_pos h10,e2,decide_eq_true (p:=(0:Int)≤(e.l.length:Int)) (by omega)];by_cases q:(e.l.length:Int)=0
   ·rw [q];rfl
   ·rw [if_neg (by simpa using q)];simp
  ·have e1:(e.kind==10)=false:=by simp [h10]
   rw [e1,if_neg h10];by_cases q:(e.l.length:Int)=a.parts
   ·rw [q,if_pos (by simp),decide_eq_true (by omega),decide_eq_true (by omega)];rfl
   ·rw [if_neg (by simpa using q)];have:(decide (a.parts≤(e.l.length:Int))&&decide ((e.l.length:Int)≤a.parts+0))=false:=by
     rw [Bool.and_eq_false_iff];by_cases q2:a.parts≤(e.l.length:Int)
     ·exact .inr (decide_eq_false (by omega))
     ·exact .inl (decide_eq_false q2)
    rw [this];rfl
 simp only [Bool.not_true,Bool.false_eq_true,if_false,Option.bind_some,hN,hP];by_cases h1:(decide (a.names≤(e.names.length:Int))&&decide ((e.names.length:Int)≤a.names+(if e.kind=17 then 12 else 0)))=true
 rotate_left
 ·rw [Bool.eq_false_iff.2 h1];exact⟨7,rfl,rfl⟩
 by_cases h2:(decide (a.parts≤(e.l.length:Int))&&decide ((e.l.length:Int)≤a.parts+(if e.kind=10 then 4 else 0)))=true
 rotate_left
 ·rw [h1,Bool.eq_false_iff.2 h2];exact⟨7,rfl,rfl⟩
 rw [h1,h2];have hnm:e.kind=17→1≤e.names.length:=by
  intro h17;have:=c5 h17;rw [Bool.and_eq_true] at h1;have:=of_decide_eq_true h1.1;omega
 have hA:fC e a 0=some (rR (n9 e.kind [] e.aT)):=pK e a hf;have hR:=aHI e hf hnm;have hRa:wB e=some (if n9 e.kind [] e.aT=0 then(if e.kind≠11∧e.aT.length=0 then 7 else 0) else n9 e.kind [] e.aT):=by
  rw [wB,aE5 e hf];have q:((e.aT.length:Int)==0)=decide (e.aT.length=0):=aBS _ 0;simp only [q,Option.bind_eq_bind,Option.bind_some,rR];generalize n9 e.kind [] e.aT=av;by_cases z:av=0
  ·by_cases k11:e.kind=11
   ·simp [z,k11]
   ·have:(e.kind !=11)=true:=by simp [k11]
    by_cases q2:e.aT.length=0<;>simp [z,k11,q2]
  ·simp [z]
 have hS: ∀K:Option Int,((if(e.kind==17)=true then some 1 else some (e.names.length:Int):Option Int).bind fun o13=>(cut e.names 0 o13).bind fun l16=>(eO l16 1).bind fun r17=>if(r17 !=0)=true then some r17 else(cut e.names o13 (e.names.length:Int)).bind fun l18=>(eO l18 2).bind fun r19=>if(r19 !=0)=true then some r19 else K)=if wO e=0 then K else some (wO e):=by
  intro K;rw [wO];by_cases h17:e.kind=17
  ·have e1:(e.kind==17)=true:=by simp [h17]
   have hc:cut e.names 0 1=some (e.names.take 1):=pS (l:=e.names) (k:=1) (hnm h17);have hd:cut e.names 1 (e.names.length:Int)=some (e.names.drop 1):=aMC (l:=e.names) (k:=1) (hnm h17);rw [e1,if_pos h17];simp only [if_true,Option.bind_some,hc,hd,fJ (e.names.take 1) 1 (by simp;omega),fJ (e.names.drop 1) 2 (by simp;omega)];generalize iW (kB · 1) [] (e.names.take 1)=d1;generalize iW (kB · 2) [] (e.names.drop 1)=d2;by_cases z:d1=0
   ·by_cases z2:d2=0<;>simp [z,z2]
   ·simp [z]
  ·have e1:(e.kind==17)=false:=by simp [h17]
   have hc:cut e.names 0 (e.names.length:Int)=some (e.names.take e.names.length):=pS (Nat.le_refl _);have hd:cut e.names (e.names.length:Int) (e.names.length:Int)=some (e.names.drop e.names.length):=aMC (Nat.le_refl _);rw [List.take_length] at hc;rw [List.drop_length] at hd;rw [e1,if_neg h17];simp only [Bool.false_eq_true,if_false,Option.bind_some,hc,hd,fJ e.names 1 (by omega),fJ [] 2 (by simp)];generalize iW (kB · 1) [] e.names=d1;by_cases z:d1=0<;>simp [z,iW]
 have q0:((e.aT.length:Int)==0)=decide (e.aT.length=0):=aBS _ 0;have q1:decide ((e.aT.length:Int)>0)=decide (0<e.aT.length):=by simp
 have q9:decide ((e.aT.length:Int)>9)=decide (9<e.aT.length):=by simp;omega
 simp only [Bool.not_true,Bool.false_eq_true,if_false,Option.bind_some,q0,q1,q9,hS,hA,hR,hRa];by_cases hl9:9<e.aT.length
 ·rw [decide_eq_true hl9];cases a.aT<;>cases decide (0<e.aT.length)<;>exact⟨7,rfl,rfl⟩
 rw [decide_eq_false hl9];by_cases ha2:a.aT=true
 ·rw [ha2];by_cases z:wO e=0
  ·simp only [z,if_true,rR];generalize n9 e.kind [] e.aT=av;by_cases z2:av=0
   ·by_cases k11:e.kind=11
    ·exact⟨0,by simp [z2,k11],by simp [z2,k11]⟩
    ·have hb2:(e.kind !=11)=true:=by simp [k11]
     by_cases q2:e.aT.length=0
     ·exact⟨7,by simp [z2,hb2,q2],by simp [z2,k11,q2]⟩
     ·exact⟨0,by simp [z2,hb2,q2],by simp [z2,k11,q2]⟩
   ·exact⟨av,by simp [z2],by simp [z2]⟩
  ·exact⟨wO e,by simp [z],by simp [z]⟩
 ·have ha3:a.aT=false:=Bool.eq_false_iff.2 ha2;rw [ha3];by_cases hl0:0<e.aT.length
  ·rw [decide_eq_true hl0];exact⟨7,rfl,rfl⟩
  ·rw [decide_eq_false hl0];have hnil:e.aT= []:=List.length_eq_zero_iff.1 (by omega);by_cases z:wO e=0
   ·exact⟨0,by simp [z,hnil,n9,rR],by simp [z]⟩
   ·exact⟨wO e,by simp [z],by simp [z]⟩
theorem aOK{e:Expr}(hf:Fit e): ∃v,lN e=some v∧g8 e=some v:=aQ6 aB3 hf
theorem aA5{e:Expr}(hf:Fit e)(h:g8 e=some 0):chk e=0:=by
 obtain⟨h1,_,_⟩:=qN aB3 _ e (Nat.le_refl _) hf;rw [g8] at h;obtain⟨v,_,h⟩:=bs h;by_cases hv:v<0
 ·rw [decide_eq_true hv] at h;cases h
 ·rw [decide_eq_false hv,h1] at h;exact Option.some.inj h
theorem aF1{f:Expr→Int}: ∀{l:List Expr},nW f l=0→ ∀y∈l,f y=0
 |y::r,h,z,hz=>by
  rw [nW] at h;by_cases h0:f y=0
  ·rw [if_pos h0] at h;rcases List.mem_cons.1 hz with rfl|hz
   ·exact h0
   ·exact aF1 h z hz
  ·rw [if_neg h0] at h;exact absurd h h0
theorem aHT{e:Expr}(hf:Fit e)(h:chk e=0):eW e=some 0∧ ∀y∈parts e,chk y=0:=by
 obtain⟨_,_,v,h1,h2⟩:=qN aB3 _ e (Nat.le_refl _) hf;rw [h] at h2;by_cases h0:v=0
 ·rw [if_pos h0] at h2;exact⟨h0▸h1,aF1 h2.symm⟩
 ·rw [if_neg h0] at h2;exact absurd h2.symm h0
theorem aN6{e:Expr}(hf:Fit e)(h:eW e=some 0):0≤e.kind∧e.kind≤19∧ ∃a,idx kT e.kind=some a∧a.names≤(e.names.length:Int)∧(e.names.length:Int)≤a.names+(if e.kind=17 then 12 else 0)∧a.parts≤(e.l.length:Int)∧(e.l.length:Int)≤a.parts+(if e.kind=10 then 4 else 0)∧(a.aT=false→e.aT= [])∧n9 e.kind [] e.aT=0∧kB e.s a.s=true:=by
 rw [eW] at h;simp only [aLj,Option.bind_eq_bind,Option.bind_some] at h;by_cases hk:0≤e.kind∧e.kind≤19
 rotate_left
 ·have:(decide (0≤e.kind)&&decide (e.kind≤19))=false:=by
   rw [Bool.and_eq_false_iff];by_cases h:0≤e.kind
   ·exact .inr (decide_eq_false (fun h'=>hk ⟨h,h'⟩))
   ·exact .inl (decide_eq_false h)
  rw [this] at h;cases h
 rw [decide_eq_true hk.1,decide_eq_true hk.2] at h;obtain⟨a,b,ha,hb,b1,b2,b3,b4,b5,b6,b7,b8,b9,c1,c2,c3,c4,c5,c6,c7⟩:=aK6 e.kind hk.1 hk.2;have w1:IntKind.wrap .i64 (a.names+a.more)=a.names+a.more:=wrap64 (by rw [b8];split<;>omega) (by rw [b8];split<;>omega);have w2:IntKind.wrap .i64 (a.parts+a.plus)=a.parts+a.plus:=wrap64 (by rw [b9];split<;>omega) (by rw [b9];split<;>omega);rw [b8] at w1;rw [b9] at w2;rw [ha] at h;simp only [Option.bind_some,Bool.and_self,Bool.not_true,Bool.false_eq_true,if_false,sU,w1,w2,b8,b9] at h;refine⟨hk.1,hk.2,a,ha,?_⟩;cases q1:(decide (a.low≤e.n)&&decide (e.n≤a.high)) with
 |false=>rw [q1] at h;cases h
 |true=>
 rw [q1] at h;cases q2:kB e.s a.s with
 |false=>rw [q2] at h;cases h
 |true=>
 rw [q2] at h;cases q3:kB e.t a.t with
 |false=>rw [q3] at h;cases h
 |true=>
 rw [q3] at h;cases q4:(decide (a.names≤(e.names.length:Int))&&decide ((e.names.length:Int)≤a.names+(if e.kind=17 then 12 else 0))) with
 |false=>rw [q4] at h;cases h
 |true=>
 rw [q4] at h;cases q5:(decide (a.parts≤(e.l.length:Int))&&decide ((e.l.length:Int)≤a.parts+(if e.kind=10 then 4 else 0))) with
 |false=>rw [q5] at h;cases h
 |true=>
 rw [q5] at h;simp only [Bool.not_true,Bool.false_eq_true,if_false,Option.bind_some] at h;rw [Bool.and_eq_true] at q4 q5;have t1:=of_decide_eq_true q4.1;have t2:=of_decide_eq_true q4.2;have t3:=of_decide_eq_true q5.1;have t4:=of_decide_eq_true q5.2;refine⟨t1,t2,t3,t4,?_⟩;have hA:a.aT=false→e.aT= []:=by
  intro haf;rw [haf] at h;cases q6:decide ((e.aT.length:Int)>0) with
  |true=>rw [q6] at h;cases h
  |false=>exact List.length_eq_zero_iff.1 (by have:=of_decide_eq_false q6;omega)
 refine⟨hA,?_,rfl⟩;obtain⟨c11,_,h⟩:=bs h;obtain⟨c12,_,h⟩:=bs h;cases c12 with
 |true=>cases h
 |false=>
 obtain⟨o13,_,h⟩:=bs (bC rfl h);obtain⟨l16,_,h⟩:=bs h;obtain⟨r17,_,h⟩:=bs h;cases q7:(r17 !=0) with
 |true=>rw [q7] at h;have:=Option.some.inj h;subst this;cases q7
 |false=>
 rw [q7] at h;obtain⟨l18,_,h⟩:=bs (bC rfl h);obtain⟨r19,_,h⟩:=bs h;cases q8:(r19 !=0) with
 |true=>rw [q8] at h;have:=Option.some.inj h;subst this;cases q8
 |false=>
 rw [q8] at h;obtain⟨o22,h22,h⟩:=bs (bC rfl h);rw [pK e a hf] at h22;cases h22;unfold rR at h;by_cases z:n9 e.kind [] e.aT=0
 ·exact z
 ·rw [if_neg z] at h;exact Option.some.inj h
def WF(e:Expr):Prop:=Fit e∧chk e=0
theorem WF.part{e y:Expr}(h:WF e)(hy:y∈parts e):WF y:=⟨h.1.part hy,(aHT h.1 h.2).2 y hy⟩
theorem WF.shape{e:Expr}(h:WF e){k:Int}(hk:e.kind=k){a:bO}(ha:idx kT k=some a):a.names≤(e.names.length:Int)∧(e.names.length:Int)≤a.names+(if k=17 then 12 else 0)∧a.parts≤(e.l.length:Int)∧(e.l.length:Int)≤a.parts+(if k=10 then 4 else 0)∧(a.aT=false→e.aT= [])∧kB e.s a.s=true:=by
 obtain⟨_,_,b,hb,h1,h2,h3,h4,h5,_,h7⟩:=aN6 h.1 (aHT h.1 h.2).1;subst hk;rw [ha] at hb;cases hb;exact⟨h1,h2,h3,h4,h5,h7⟩
theorem WF.aVZ{e:Expr}(h:WF e)(hk:e.kind=4):e.names.length=1∧e.l.length=1∧e.aT= []:=by
 obtain⟨h1,h2,h3,h4,h5,_⟩:=h.shape hk (a:=⟨0,0,1,0,1,0,false,0,0⟩) rfl;simp at h1 h2 h3 h4;exact⟨by omega,by omega,h5 rfl⟩
theorem WF.aPq{e:Expr}(h:WF e)(hk:e.kind=6):e.names.length=1∧e.l.length=2∧e.aT= []:=by
 obtain⟨h1,h2,h3,h4,h5,_⟩:=h.shape hk (a:=⟨0,0,1,0,2,0,false,0,0⟩) rfl;simp at h1 h2 h3 h4;exact⟨by omega,by omega,h5 rfl⟩
theorem WF.aVt{e:Expr}(h:WF e)(hk:e.kind=7):e.names.length=2∧e.l.length=2∧e.aT= []:=by
 obtain⟨h1,h2,h3,h4,h5,_⟩:=h.shape hk (a:=⟨0,0,2,0,2,0,false,0,0⟩) rfl;simp at h1 h2 h3 h4;exact⟨by omega,by omega,h5 rfl⟩
theorem WF.using_{e:Expr}(h:WF e)(hk:e.kind=17):1≤e.names.length∧e.l.length=3∧e.aT= []:=by
 obtain⟨h1,h2,h3,h4,h5,_⟩:=h.shape hk (a:=⟨0,0,1,12,3,0,false,0,0⟩) rfl;simp at h1 h2 h3 h4;exact⟨by omega,by omega,h5 rfl⟩
theorem WF.if_{e:Expr}(h:WF e)(hk:e.kind=8):e.l.length=3∧e.aT= []:=by
 obtain⟨h1,h2,h3,h4,h5,_⟩:=h.shape hk (a:=⟨0,0,0,0,3,0,false,0,0⟩) rfl;simp at h1 h2 h3 h4;exact⟨by omega,h5 rfl⟩
theorem WF.aG7{e:Expr}(h:WF e)(hk:e.kind=11):e.l.length=1:=by
 obtain⟨h1,h2,h3,h4,h5,_⟩:=h.shape hk (a:=⟨0,0,0,0,1,0,true,0,0⟩) rfl;simp at h1 h2 h3 h4;omega
theorem WF.aDR{e:Expr}(h:WF e)(hk:e.kind=14∨e.kind=15∨e.kind=16):e.l.length=1:=by
 rcases hk with hk|hk|hk
 ·obtain⟨h1,h2,h3,h4,h5,_⟩:=h.shape hk (a:=⟨2,0,0,0,1,0,true,0,1⟩) rfl;simp at h1 h2 h3 h4;omega
 ·obtain⟨h1,h2,h3,h4,h5,_⟩:=h.shape hk (a:=⟨2,0,1,0,1,0,true,0,0⟩) rfl;simp at h1 h2 h3 h4;omega
 ·obtain⟨h1,h2,h3,h4,h5,_⟩:=h.shape hk (a:=⟨2,0,0,0,1,0,false,0,0⟩) rfl;simp at h1 h2 h3 h4;omega
theorem WF.aRr{e:Expr}(h:WF e)(hk:e.kind=18):e.l.length=1∧e.aT= []:=by
 obtain⟨h1,h2,h3,h4,h5,_⟩:=h.shape hk (a:=⟨1,0,0,0,1,0,false,0,0⟩) rfl;simp at h1 h2 h3 h4;exact⟨by omega,h5 rfl⟩
theorem WF.aU5{e:Expr}(h:WF e)(hk:e.kind=19):e.l.length=0∧e.aT= []:=by
 obtain⟨h1,h2,h3,h4,h5,_⟩:=h.shape hk (a:=⟨1,0,0,0,0,0,false,0,0⟩) rfl;simp at h1 h2 h3 h4;exact⟨by simp [h4],h5 rfl⟩
def bJ(e:Expr)(i:Nat):List Str:=
 if e.l.length≤i then(match e.aT[i-e.l.length]? with|some a=>a.names|none=> [])
 else if e.kind=4 then e.names else if e.kind=6 then(if i=1 then e.names else []) else if e.kind=7 then e.names.take (2-i) else if e.kind=17 then(if i=2 then e.names.take 1 else []) else []
theorem aBy{α:Type}{l:List α}(h:l.length=1): ∃x,l= [x]:=by
 match l,h with
 | [x],_=>exact⟨x,rfl⟩
theorem aQd{e:Expr}(hf:Fit e){i:Nat}(hl:e.l.length≤i)(hi:i<(parts e).length): ∃a,e.aT[i-e.l.length]?=some a∧idx e.aT (IntKind.wrap .i64 ((i:Int)-(e.l.length:Int)))=some a∧a∈e.aT:=by
 have hlen:=hf.lens;rw [gQ] at hi;have hx:i-e.l.length<e.aT.length:=by omega
 refine⟨e.aT[i-e.l.length],List.getElem?_eq_getElem hx,?_,List.getElem_mem hx⟩;rw [wrap64 (by omega) (by omega)];unfold idx;rw [if_pos (by omega)];have:((i:Int)-(e.l.length:Int)).toNat=i-e.l.length:=by omega
 rw [this];exact List.getElem?_eq_getElem hx
theorem aBz{e:Expr}(h:WF e){i:Nat}(hi:i<(parts e).length):oY e (i:Int)=some (bJ e i):=by
 have hlen:=h.1.lens;rw [oY,bJ];by_cases hl:e.l.length≤i
 ·obtain⟨a,h1,h2,_⟩:=aQd h.1 hl hi;rw [if_pos (decide_eq_true (by omega)),if_pos hl,h2,h1]
  rfl
 rw [if_neg (by simp;omega),if_neg hl];have e1:((i:Int)==1)=decide (i=1):=aBS _ 1;have e2:((i:Int)==2)=decide (i=2):=aBS _ 2;by_cases k4:e.kind=4
 ·simp [k4]
 by_cases k6:e.kind=6
 ·simp only [k6,e1];by_cases i1:i=1<;>simp [i1]
 by_cases k7:e.kind=7
 ·obtain⟨n1,n2,n3⟩:=h.aVt k7;have hc:cut e.names 0 (IntKind.wrap .i64 (2-(i:Int)))=some (e.names.take (2-i)):=by
   rw [wrap64 (by omega) (by omega),show(2-(i:Int))=((2-i:Nat):Int) by omega];exact pS (by omega)
  simp [k7,hc]
 by_cases k17:e.kind=17
 ·obtain⟨n1,n2,n3⟩:=h.using_ k17;have hc:cut e.names 0 1=some (e.names.take 1):=pS (k:=1) n1;have hn:decide ((e.names.length:Int)>0)=true:=decide_eq_true (by omega);simp only [k17,e2];by_cases i2:i=2
  ·simp [i2,hn,hc]
  ·simp [i2]
 ·simp [k4,k6,k7,k17]
theorem aBv{e:Expr}(h:WF e)(path:List Int)(k:Str){i:Nat}(hi:i<(parts e).length):eI ⟨e,path⟩ (i:Int) k=some (has (bJ e i) k):=by
 have hlen:=h.1.lens;rw [eI,bJ];by_cases hl:e.l.length≤i
 ·obtain⟨a,h1,h2,ha⟩:=aQd h.1 hl hi;obtain⟨_,a2,_⟩:=qW h.1 ha;rw [if_pos (decide_eq_true (by show(i:Int)≥(e.l.length:Int);omega)),if_pos hl,h1];show(idx e.aT (IntKind.wrap .i64 ((i:Int)-(e.l.length:Int)))).bind _=_;rw [h2];show(dF a.names k).bind _=_;rw [yF a.names k (by omega)]
  rfl
 rw [if_neg (by simp;omega),if_neg hl];have e1:((i:Int)==1)=decide (i=1):=aBS _ 1;have e2:((i:Int)==2)=decide (i=2):=aBS _ 2;by_cases k4:e.kind=4
 ·obtain⟨n1,_,_⟩:=h.aVZ k4;obtain⟨x,hx⟩:=aBy n1;simp [k4,hx,idx,has]
 by_cases k6:e.kind=6
 ·obtain⟨n1,_,_⟩:=h.aPq k6;obtain⟨x,hx⟩:=aBy n1;simp only [k6,e1];by_cases i1:i=1<;>simp [i1,hx,idx,has]
 by_cases k7:e.kind=7
 ·obtain⟨n1,n2,n3⟩:=h.aVt k7;have hc:cut e.names 0 (IntKind.wrap .i64 (2-(i:Int)))=some (e.names.take (2-i)):=by
   rw [wrap64 (by omega) (by omega),show(2-(i:Int))=((2-i:Nat):Int) by omega];exact pS (by omega)
  have hh:=yF (e.names.take (2-i)) k (by simp;omega);simp [k7,hc,hh]
 by_cases k17:e.kind=17
 ·obtain⟨n1,n2,n3⟩:=h.using_ k17;obtain⟨x,r,hx⟩: ∃x r,e.names=x::r:=by
   cases hn:e.names with
   |nil=>rw [hn] at n1;simp at n1
   |cons x r=>exact⟨x,r,rfl⟩
  simp only [k17,e2];by_cases i2:i=2
  ·simp [i2,hx,idx,has]
  ·simp [i2,has]
 ·simp [k4,k6,k7,k17,has]
def isV(e:Expr)(k:Str):Bool:=e.s==k&&(e.kind==0||e.kind==18||e.kind==19)
def uG(k:Int):Bool:=fF.any (· ==k)
theorem aRz(k:Int):jL fF k=some (uG k):=by
 have h:=aDN fF (by decide) (k== ·) (fun i=>jM fF k i) (fun i=>by rw [jM];rfl);have hp:(fun y:Int=>k==y)=(· ==k):=funext fun y=>Bool.beq_comm;rw [hp] at h;have h2:nI fF k=some (aFQ (· ==k) fF 0):=by
  rw [nI,h];unfold aFQ;cases fnd (· ==k) fF 0<;>rfl
 rw [jL,h2];exact congrArg some (xY _ _ 0)
theorem aKC(k:Int):vU k=some (uG k):=by
 rw [vU,uG,fF];simp only [List.any_cons,List.any_nil,Bool.or_false];have sw: ∀a:Int,(a==k)=(k==a):=fun a=>Bool.beq_comm;simp only [sw];cases (k==0)<;>cases (k==1)<;>cases (k==2)<;>cases (k==3)<;>cases (k==4)<;>cases (k==6)<;>cases (k==8)<;>cases (k==9)<;>cases (k==10)<;>cases (k==11)<;>rfl
theorem aTc(e:Expr)(path:List Int)(k:Str):jA ⟨e,path⟩ k=some (isV e k):=by
 rw [jA,isV];show(if(e.s==k)=true then(if(e.kind==0)=true then some true else some (e.kind==18):Option Bool).bind _ else some false:Option Bool).bind _=_;cases (e.s==k)<;>cases (e.kind==0)<;>cases (e.kind==18)<;>cases (e.kind==19)<;>rfl
theorem aCM(e:Expr):mT e=some (if(e.kind==0||e.kind==18||e.kind==19)=true then e.s else []):=by
 rw [mT];cases (e.kind==0)<;>cases (e.kind==18)<;>cases (e.kind==19)<;>rfl
theorem aFh(e:Expr){k:Str}(hk:k≠ []):((if(e.kind==0||e.kind==18||e.kind==19)=true then e.s else [])==k)=isV e k:=by
 unfold isV;cases (e.kind==0||e.kind==18||e.kind==19) with
 |true=>simp
 |false=>
  simp only [Bool.false_eq_true,if_false,Bool.and_false];cases k with
  |nil=>exact absurd rfl hk
  |cons=>rfl
def bZ(f:Nat→Expr→Option (List Int)):Nat→List Expr→Option (List Int)
 |_,[]=>none
 |i,y::r=>match f i y with
  |some p=>some ((i:Int)::p)
  |none=>bZ f (i+1) r
theorem sT{f g:Nat→Expr→Option (List Int)}: ∀{l:List Expr}{i:Nat}(_: ∀y∈l,∀j,f j y=g j y),bZ f i l=bZ g i l
 | [],_,_=>rfl
 |y::r,i,h=>by
  simp only [bZ];rw [h y (.head _) i,sT (l:=r) (i:=i+1) fun z hz=>h z (.tail _ hz)]
def aDc:Nat→Str→Bool→Bool→Expr→Option (List Int)
 |0,_,_,_,_=>none
 |n+1,k,hd,wi,e=>if((!hd&&isV e k)||(!wi&& !uG e.kind))=true then some [] else bZ (fun i y=>aDc n k (hd||has (bJ e i) k) (wi||e.kind==4) y) 0 (parts e)
theorem aEI: ∀(n:Nat)(k:Str)(hd wi:Bool)(e:Expr),bH e≤n→aDc (n+1) k hd wi e=aDc n k hd wi e
 |0,k,hd,wi,e,h=>by have:=bQ e;omega
 |n+1,k,hd,wi,e,h=>by
  rw [aDc,aDc];split
  ·rfl
  ·exact sT fun y hy j=>aEI n k _ _ y (by have:=bK hy;omega)
def dZ(k:Str)(hd wi:Bool)(e:Expr):Option (List Int):=aDc (bH e) k hd wi e
theorem aJV: ∀(n:Nat)(k:Str)(hd wi:Bool)(e:Expr),bH e≤n→aDc n k hd wi e=dZ k hd wi e
 |0,k,hd,wi,e,h=>by have:=bQ e;omega
 |n+1,k,hd,wi,e,h=>by
  by_cases h':bH e=n+1
  ·rw [dZ,h']
  ·rw [aEI n k hd wi e (by omega)];exact aJV n k hd wi e (by omega)
theorem zV(k:Str)(hd wi:Bool)(e:Expr):dZ k hd wi e=if((!hd&&isV e k)||(!wi&& !uG e.kind))=true then some [] else bZ (fun i y=>dZ k (hd||has (bJ e i) k) (wi||e.kind==4) y) 0 (parts e):=by
 obtain⟨n,hn⟩: ∃n,bH e=n+1:=⟨bH e-1,by have:=bQ e;omega⟩
 rw [dZ,hn,aDc];split
 ·rfl
 ·exact sT fun y hy j=>aJV n k _ _ y (by have:=bK hy;omega)
theorem aC7{f:Nat→Expr→Option (List Int)}: ∀{l:List Expr}{i:Nat}(_: ∀y∈l,∀j,f j y=none),bZ f i l=none
 | [],_,_=>rfl
 |y::r,i,h=>by
  simp only [bZ];rw [h y (.head _) i];exact aC7 fun z hz=>h z (.tail _ hz)
theorem yS: ∀(n:Nat)(k:Str)(e:Expr),bH e≤n→dZ k true true e=none
 |0,k,e,h=>by have:=bQ e;omega
 |n+1,k,e,h=>by
  rw [zV];simp only [Bool.not_true,Bool.false_and,Bool.or_self,Bool.false_eq_true,if_false,Bool.true_or];exact aC7 fun y hy j=>yS n k y (by have:=bK hy;omega)
abbrev Deep(e:Expr)(path:List Int):Prop:=path.length+bH e≤2000000
theorem oE{e:Expr}(hf:Fit e){path:List Int}(hp:Deep e path){k:Nat}{y:Expr}{r:List Expr}(h:(parts e).drop k=y::r):bF ⟨e,path⟩ (k:Int)=some ⟨y,path++ [(k:Int)]⟩:=by
 have hd:iV path (k:Int)=some (path++ [(k:Int)]):=by
  unfold iV;rw [if_pos (by unfold aPQ;have:=bQ e;omega)]
 have eta: ∀y:Expr,Expr.mk y.kind y.n y.s y.t y.names y.l y.aT=y:=fun y=>by cases y;rfl
 rw [bF];rcases aLa hf h with ⟨p1,p2⟩|⟨p1,_,a,_,_,p2,p3⟩
 ·rw [if_pos p1];show(idx e.l (k:Int)).bind _=_;rw [p2];show(iV path (k:Int)).bind _=_;rw [hd];exact congrArg (fun z=>some (aE.mk z (path++ [(k:Int)]))) (eta y)
 ·rw [if_neg (by rw [p1];simp)];show(idx e.aT (IntKind.wrap .i64 ((k:Int)-(e.l.length:Int)))).bind _=_;rw [p2];show(iV path (k:Int)).bind _=_;rw [hd];subst p3;exact congrArg (fun z=>some (aE.mk z (path++ [(k:Int)]))) (eta a.body)
end Go.Proofs.YtelnnehpbkainaaGreatDoor
