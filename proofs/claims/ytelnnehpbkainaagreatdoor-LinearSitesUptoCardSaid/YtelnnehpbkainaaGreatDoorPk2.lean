/- Our own framework, the program's cooked code, and the proofs that a claim leans on: joined and shortened by a program of the prover's own. -/
import Derived.OrdersIn
import Derived.LoopNIn
import Derived.ChangeArms
import Derived.OpenShut
import Derived.WideShapes
import Derived.Carry
import Derived.RowKit
import Derived.Test.YtelnnehpbkainaaGreatDoorRows
import Derived.KernelRfl
import Derived.Test.YtelnnehpbkainaaGreatDoorPk1
set_option linter.unusedVariables false
set_option linter.unusedSimpArgs false
namespace Go.Fw
open Go
section
variable {P : Program} {B B' : Bs} {P' : aS} {nt : Nat} {pd : List (Nat × Nat)} {fr : Fr} {e : Env} {ds ds' : List hY} {s s' : ASt} {a : Act} {w : World} {G : Gh}
theorem R.aEk{G:Gh}:R G (.v fA undef):= .tuple .rE
theorem aDp{h:Hint}{d:Option Nat}{op:Op}{aop:AOp}(hk:cC P h d op=some aop)(hn: ∀f xs,aop≠ .defer f xs): ∀c,op≠ .defer c:=by
 intro c hc;subst hc;simp only [cC] at hk;split at hk
 ·split at hk
  ·cases hk;exact hn _ _ rfl
  ·cases hk
 ·cases hk
theorem aKO{h:Hint}{d:Option Nat}{op:Op}{z:List AV}(hk:cC P h d op=some (.pend z)): ∃t,op= .alloc t∧zeroOf P t=some z:=by
 unfold cC at hk;split at hk
 all_goals (try unfold cB at hk);(try unfold jX at hk)
 all_goals (repeat' split at hk)
 all_goals first
  |(cases hk;done)
  |(simp only [Option.map_eq_some_iff,reduceCtorEq,and_false,exists_false] at hk;done)
  |(cases hk;exact⟨_,rfl,by assumption⟩)
theorem aLp{h:Hint}{d:Option Nat}{op:Op}{i sz:Nat}{x:aJ}(hk:cC P h d op=some (.shut i sz x)):
  ∃t ti xv,op= .store t (.tmp i) xv∧P.info? t=some ti∧cT xv=some x∧sz=P.cellsOf t:=by
 unfold cC at hk;split at hk
 case h_9=>
  rename_i t xa xv;split at hk
  ·rename_i ti a v h1 h2 h3;simp only [Option.some.injEq] at hk;split at hk
   ·rename_i j;split at hk
    ·cases hk;cases xa with
     |tmp k=>simp [cT] at h2;subst h2;exact⟨_,_,_,rfl,h1,h3,rfl⟩
     |const v=>simp [cT] at h2
     |global g=>simp [cT] at h2
     |func f=>simp [cT] at h2
    ·cases hk
   ·cases hk
  ·cases hk
 all_goals (try unfold cB at hk);(try unfold jX at hk)
 all_goals (repeat' split at hk)
 all_goals first
  |(cases hk;done)
  |(simp only [Option.map_eq_some_iff,reduceCtorEq,and_false,exists_false] at hk;done)
  |(simp only [Option.some.injEq] at hk;split at hk<;>first|cases hk|(split at hk<;>cases hk))
theorem wS{h:Hint}{d:Option Nat}{op:Op}{f:aJ}{xs:List aJ}(hk:cC P h d op=some (.call f xs)∨ ∃st,cC P h d op=some (.aW st f xs)):
  ∃c fo,op= .call c∧c.callee= .value fo∧cT fo=some f∧sD c.args.toList=some xs∧aOk P fo=true:=by
 rcases hk with hk|⟨st,hk⟩
 all_goals
  unfold cC at hk;split at hk
  case h_30=>
   rename_i c;split at hk
   ·unfold cB at hk
    repeat' split at hk
    all_goals first|(cases hk;done)|(simp only [Option.map_eq_some_iff,reduceCtorEq,and_false,exists_false] at hk;done)
   ·rename_i fo hc;split at hk
    ·rename_i f' xs' h0 h1 h2;simp only [Option.some.injEq] at hk;split at hk
     ·first|(cases hk;done)|(cases hk;exact⟨_,_,rfl,hc,h1,h2,h0⟩)
     ·split at hk<;>first|(cases hk;done)|(cases hk;exact⟨_,_,rfl,hc,h1,h2,h0⟩)
    ·cases hk
   ·cases hk
  all_goals (try unfold cB at hk);(try unfold jX at hk)
  all_goals (repeat' split at hk)
  all_goals first
   |(cases hk;done)
   |(simp only [Option.map_eq_some_iff,reduceCtorEq,and_false,exists_false] at hk;done)
   |(simp only [Option.some.injEq] at hk;split at hk<;>first|cases hk|(split at hk<;>cases hk))
theorem aIM{h:Hint}{d:Option Nat}{op:Op}{f:aJ}{xs:List aJ}(hk:cC P h d op=some (.defer f xs)):
  ∃c fo,op= .defer c∧c.callee= .value fo∧cT fo=some f∧sD c.args.toList=some xs:=by
 unfold cC at hk;split at hk
 case h_31=>
  rename_i c;split at hk
  ·rename_i fo hc;split at hk
   ·rename_i f' xs' h1 h2;cases hk;exact⟨_,_,rfl,hc,h1,h2⟩
   ·cases hk
  ·cases hk
 all_goals (try unfold cB at hk);(try unfold jX at hk)
 all_goals (repeat' split at hk)
 all_goals first
  |(cases hk;done)
  |(simp only [Option.map_eq_some_iff,reduceCtorEq,and_false,exists_false] at hk;done)
  |(simp only [Option.some.injEq] at hk;split at hk<;>first|cases hk|(split at hk<;>cases hk))
theorem aIR{h:Hint}{d:Option Nat}{op:Op}{x:aJ}(hk:cC P h d op=some (.panic x)): ∃xo,op= .panic xo∧cT xo=some x:=by
 unfold cC at hk;split at hk
 case h_32=>
  simp only [Option.map_eq_some_iff] at hk;obtain⟨y,h1,h2⟩:=hk;cases h2;exact⟨_,rfl,h1⟩
 all_goals (try unfold cB at hk);(try unfold jX at hk)
 all_goals (repeat' split at hk)
 all_goals first
  |(cases hk;done)
  |(simp only [Option.map_eq_some_iff,reduceCtorEq,and_false,exists_false] at hk;done)
  |(simp only [Option.some.injEq] at hk;split at hk<;>first|cases hk|(split at hk<;>cases hk))
theorem pA{ρ:Operand→Value}{c:Call}{fo:Operand}(hc:c.callee= .value fo){fn:Fn}{fa fb:Array Value}(hv:ρ fo= .func fn fa fb)(ty:TypeId)(w:World):
  (resolve ρ c ty).run P w= .ok {target:= .fn fn fb,args:=fa++c.args.map ρ} w:=by
 simp [resolve,hc,Deferred.ofValue,hv]
theorem vE{ρ:Operand→Value}{o:Oper}{c:Call}(ho:o.op= .call c){fo:Operand}(hc:c.callee= .value fo){fn:Fn}{fa fb:Array Value}(hv:ρ fo= .func fn fa fb)(w:World):
  (execOp ρ o).run P w=(invoke (.fn fn fb) (fa++c.args.map ρ)).run P w:=by
 simp only [execOp,ho,Sem.run_bind,pA hc hv,Result.andThen]
theorem yX{ρ:Operand→Value}{o:Oper}{w:World}(h: ∀c,o.op≠ .call c): ∀f,o.about P w ρ=some f→ ∃fn,P.funcs[f]?=some fn:=by
 intro f hf;unfold Oper.about at hf;split at hf
 ·rename_i c hc;exact absurd hc (h c)
 ·cases hf
theorem qW{f:FuncId}{args:Array Value}{w w':World}{n:Next}(h:(callFunc f args).run P w= .ok n w'): ∃fn,P.funcs[f]?=some fn:=by
 cases hf:P.funcs[f]? with
 |some fn=>exact⟨fn,rfl⟩
 |none=>simp [callFunc,hf] at h
theorem xZ{ρ:Operand→Value}{o:Oper}{c:Call}(ho:o.op= .call c){fo:Operand}(hc:c.callee= .value fo){g:Nat}{fa fb:Array Value}(hv:ρ fo= .func (.func g) fa fb){w:World}(hg: ∃fn,P.funcs[g]?=some fn):
  ∀f,o.about P w ρ=some f→ ∃fn,P.funcs[f]?=some fn:=by
 intro f hf;simp only [Oper.about,ho,pA hc hv,Target.leads,Option.some.injEq] at hf;subst hf;exact hg
theorem aG2{ρ:Operand→Value}{o:Oper}{c:Call}(ho:o.op= .call c){fo:Operand}(hc:c.callee= .value fo){l:Nat}{fa fb:Array Value}(hv:ρ fo= .func (.yield l) fa fb){w:World}:
  ∀f,o.about P w ρ=some f→ ∃fn,P.funcs[f]?=some fn:=by
 intro f hf;simp [Oper.about,ho,pA hc hv,Target.leads] at hf
theorem mY{h:Hint}{all:Array Oper}{ρ:Operand→Value}{o:Oper}{ai:AI}{w:World}(hc:aAj P h all o ai)(hb:ai.op≠ .bad)(h1: ∀f xs,ai.op≠ .call f xs)(h2: ∀st f xs,ai.op≠ .aW st f xs):
  ∀f,o.about P w ρ=some f→ ∃fn,P.funcs[f]?=some fn:=by
 intro f hf;have hk:=hc.op.resolve_left hb;unfold Oper.about at hf;split at hf
 ·rename_i c ho;rw [ho] at hk;cases hcal:c.callee with
  |builtin b=>simp [resolve,hcal,Target.leads] at hf
  |invoke r n=>simp [cC,hcal] at hk
  |value fo=>
   simp only [cC,hcal] at hk;split at hk
   ·rename_i f' xs' _ _ _;simp only [Option.some.injEq] at hk;split at hk
    ·exact absurd hk.symm (h2 _ _ _)
    ·split at hk
     ·exact absurd hk.symm (h2 _ _ _)
     ·exact absurd hk.symm (h1 _ _)
   ·cases hk
 ·cases hf
theorem aCj{h:Hint}{all:Array Oper}{ρ:Operand→Value}(hρ: ∀g,ρ (.func g)= .func (.func g) #[] #[]){o:Oper}{ai:AI}{w:World}(hc:aAj P h all o ai)(hs:yD ai.op=true):
  ∀f,o.about P w ρ=some f→ ∃fn,P.funcs[f]?=some fn:=by
 have key: ∀{c:Call}{fo:Operand}{g:Nat},o.op= .call c→c.callee= .value fo→cT fo=some (.f g)→aOk P fo=true→ ∀f,o.about P w ρ=some f→ ∃fn,P.funcs[f]?=some fn:=by
  intro c fo g ho hcal hfo hok;cases fo with
  |func g'=>
   simp only [aOk,Option.isSome_iff_exists] at hok;exact xZ ho hcal (hρ g') hok
  |tmp t=>simp [cT] at hfo
  |const v=>simp [cT] at hfo
  |global g=>simp [cT] at hfo
 obtain⟨d,op,gd,pre⟩:=ai;simp only at hs;cases op with
 |call f xs=>
  cases f<;>simp [yD] at hs;obtain⟨c,fo,ho,hcal,hfo,hargs,hok⟩:=wS (.inl (hc.op.resolve_left (by simp)));exact key ho hcal hfo hok
 |aW st f xs=>
  cases f<;>simp [yD] at hs;obtain⟨c,fo,ho,hcal,hfo,hargs,hok⟩:=wS (.inr ⟨st,hc.op.resolve_left (by simp)⟩);exact key ho hcal hfo hok
 |bad=>simp [yD] at hs
 |_=>exact mY hc (by simp) (by simp) (by simp)
theorem aOa{v v':AV}{x:Value}(h:mO v=some v')(r:R G (.v v x)):R G (.v v' x):=by
 cases v with
 |tuple vs=>
  simp only [mO] at h;split at h
  ·cases h;cases r with
   |tuple r=>exact .tuple (rM (by assumption) r)
  ·cases h
 |_=>simp only [mO] at h;exact(o0 h r).1
theorem RI.quiet(h:RI P B P' nt pd ⟨e,ds⟩ s a w G B'){G':Gh}{w':World}(q:uS G w G' w'){d:Option Nat}(hd: ∀t,d=some t→t<nt){v:AV}{x:Value}(r:R G' (.v v x)):
  RI P B P' nt (aK d pd) ⟨eU e d v,ds⟩ s (a.put d x) w' G' B':=h.put q.le (q.inv h.inv) hd r
theorem xU{b:Nat}{vs us:List Value}{el:TypeId}(hb:w.heap[b]?=some (.cells vs.toArray el (0,0)))(hl:us.length=vs.length)(h1: ∀x∈us,x.oneCell'=true):
  (storeCells ⟨b,0,none⟩ us).run P w= .ok () (w.putObj b (.cells us.toArray el (0,0))):=by
 have hrun:=run_storeCells_at P b 0 el us 0 vs.toArray w hb (by simp;omega) h1;rw [hrun,sL hb];have hd:vs.drop us.length= []:=List.drop_eq_nil_of_le (by omega);simp [hd]
end
section
variable {P : Program} {B B' : Bs} {P' : aS} {nt : Nat} {pd : List (Nat × Nat)} {fr : Fr} {e : Env} {ds ds' : List hY} {s s' : ASt} {a : Act} {w : World} {G : Gh}
variable {H : Handler} {rb : Option Nat} {all : Array Oper} {o : Oper} {ai : AI} {h : Hint} {E : Eff} {K : Act → World → Prop} {Q : Exit → Act → World → Prop}
theorem RI.aM9(hi:RI P B P' nt pd ⟨e,ds⟩ s a w G B'){d n:Nat}(hd:d<nt)(vs:List Value)(hn:vs.length=n)(t:TypeId):
  ∃B'',RI P B P' nt ((d,n)::aK (some d) pd) ⟨upd e d .lU,ds⟩ s (a.put (some d) (.pointer (some ⟨w.heap.size,0,none⟩))) (w.alloc (.cells vs.toArray t (0,0))) G B'':=by
 have hB': ∀x,B'.Pr x→x<w.heap.size:=fun x hx=>Nat.lt_of_lt_of_le (B'.lt x hx) hi.inv.size;have hI1:=hi.inv.alloc (.cells vs.toArray t (0,0));have hlt: ∀x,(B'.Pr x∨x=w.heap.size)→x<(w.alloc (.cells vs.toArray t (0,0))).heap.size:=by
  rintro x (hx|rfl)
  ·have:=hB' x hx;simp;omega
  ·simp
 refine⟨B'.now (w.alloc (.cells vs.toArray t (0,0))) G (fun x=>B'.Pr x∨x=w.heap.size) hlt,?_,?_,?_,?_,hi.wW,hi.ds⟩
 ·exact hI1.aOb hi.ext _ _ fun b hb=> .inl (hi.ext.pr b hb)
 ·refine hI1.aP5 _ _ (fun ℓ b hl=> ?_) (fun t n b c sz ht hh=> ?_)
  ·have:=hi.inv.l ℓ b hl
   rintro (hx|rfl)
   ·exact this.2.2 hx
   ·exact absurd this.2.1 (Nat.lt_irrefl _)
  ·obtain⟨b',c',sz',k⟩:=hi.inv.tok t n ht;have:=k.h.symm.trans hh;cases this
   rintro (hx|rfl)
   ·exact k.np hx
   ·exact absurd k.lt (Nat.lt_irrefl _)
 ·have hold:=hi.pend.put (some d) (.pointer (some ⟨w.heap.size,0,none⟩));have hsz:d<a.tmps.size:=by rw [hi.env.1];exact hd
  have hnew:(a.put (some d) (.pointer (some ⟨w.heap.size,0,none⟩))).tmps.getD d undef= .pointer (some ⟨w.heap.size,0,none⟩):=xH hsz;have hnB: ¬B.Pr w.heap.size:=fun hx=>absurd (hB' _ (hi.ext.pr _ hx)) (Nat.lt_irrefl _);refine⟨fun d' n' hm=> ?_,fun d1 n1 d2 n2 b h1 h2 h3 h4=> ?_⟩
  ·rcases List.mem_cons.1 hm with hm|hm
   ·cases hm;refine⟨w.heap.size,t,vs,hnew,hnB,.inr rfl,oX,hn,fun o=>hi.inv.aLU o⟩
   ·obtain⟨b,el,us,h1,h2,h3,h4,h5,h6⟩:=hold.at_ d' n' hm;have hb:=hB' b h3;refine⟨b,el,us,h1,h2,.inl h3,?_,h5,fun o=> ?_⟩
    ·exact(sK (Nat.ne_of_lt hb)).trans ((hi.inv.pr b h3).trans h4)
    ·exact(hi.inv.prM b h3 o).trans (h6 o)
  ·have hlt': ∀d' n',(d',n')∈aK (some d) pd→(a.put (some d) (.pointer (some ⟨w.heap.size,0,none⟩))).tmps.getD d' undef= .pointer (some ⟨b,0,none⟩)→b<w.heap.size:=by
    intro d' n' hm hq;obtain⟨b',el,us,h1,h2,h3,_⟩:=hold.at_ d' n' hm;have h1':(a.put (some d) (.pointer (some ⟨w.heap.size,0,none⟩))).tmps.getD d' undef= .pointer (some ⟨b',0,none⟩):=h1;rw [h1'] at hq;cases hq;exact hB' _ h3
   rcases List.mem_cons.1 h1 with h1|h1<;>rcases List.mem_cons.1 h2 with h2|h2
   ·cases h1;cases h2;rfl
   ·cases h1;rw [hnew] at h3;cases h3;exact absurd (hlt' _ _ h2 h4) (Nat.lt_irrefl _)
   ·cases h2;rw [hnew] at h4;cases h4;exact absurd (hlt' _ _ h1 h3) (Nat.lt_irrefl _)
   ·exact hold.inj d1 n1 d2 n2 b h1 h2 h3 h4
 ·exact hi.env.put hd (.lU _)
theorem Inv.aMG(hI:Inv P B' G s w){b:Nat}(hb:B'.Pr b)(hM: ∀o,G.M b o=none)(o':Obj)(lt: ∀x,(B'.Pr x∧x≠b)→x<(w.putObj b o').heap.size):
  Inv P ⟨fun x=>B'.Pr x∧x≠b,w.putObj b o',G.M,lt⟩ G s (w.putObj b o'):=by
 have hne: ∀{x},x≠b→(w.putObj b o').heap[x]?=w.heap[x]?:=fun hx=>World.putObj_heap_other hx;have hsz:(w.putObj b o').heap.size=w.heap.size:=by simp
 have hL: ∀ℓ x,G.L ℓ=some x→x≠b:=fun ℓ x hx q=>(hI.l ℓ x hx).2.2 (q▸hb);exact{
  os:=rfl,tape:=rfl,output:=rfl,size:=Nat.le_refl _,pr:=fun _ _=>rfl,prM:=fun _ _ _=>rfl
  m:=fun x o v hv=>by
   have hx:x≠b:=fun q=>by subst q;rw [hM o] at hv;cases hv
   rw [oV (hne hx)];exact hI.m x o v hv
  l:=fun ℓ x hx=>⟨(hI.l ℓ x hx).1,by rw [hsz];exact(hI.l ℓ x hx).2.1,fun hp=>(hI.l ℓ x hx).2.2 hp.1⟩
  inj:=hI.inj
  blk:=fun ℓ x o k hx ho hk=>by rw [hne (hL ℓ x hx)] at ho;exact hI.blk ℓ x o k hx ho hk
  tok:=fun t n ht=>by
   obtain⟨x,c,sz,k⟩:=hI.tok t n ht;have hx:x≠b:=fun q=>k.np (q▸hb);exact⟨x,c,sz,k.h,fun hp=>k.np hp.1,by rw [hsz];exact k.lt,by rw [hne hx];exact k.blk,k.szp,k.nc,k.cm,k.m,k.l⟩
  lX:=hI.lX,hh:=hI.hh,tot:=hI.tot}
theorem RI.shut(hi:RI P B P' nt pd ⟨e,ds⟩ s a w G B'){d sz:Nat}(hd:d<nt)(hm:(d,sz)∈pd){v:AV}{us:List Value}(hc:R G (.c v us))(hl:us.length=sz):
  ∃b el vs G' B'',a.tmps.getD d undef= .pointer (some ⟨b,0,none⟩)∧w.heap[b]?=some (.cells (List.toArray vs) el (0,0))∧vs.length=sz∧G.le G'∧
   RI P B P' nt (aK (some d) pd) ⟨upd e d (.aF v 0),ds⟩ s a (w.putObj b (.cells us.toArray el (0,0))) G' B'':=by
 obtain⟨b,el,vs,h1,h2,h3,h4,h5,h6⟩:=hi.pend.at_ d sz hm;have hbl:b<w.heap.size:=Nat.lt_of_lt_of_le (B'.lt b h3) hi.inv.size;have hheap:w.heap[b]?=some (.cells vs.toArray el (0,0)):=(hi.inv.pr b h3).trans h4;have hM: ∀o,G.M b o=none:=fun o=>(hi.inv.prM b h3 o).trans (h6 o);have hne: ∀{x},x≠b→(w.putObj b (.cells us.toArray el (0,0))).heap[x]?=w.heap[x]?:=fun hx=>World.putObj_heap_other hx;have lt: ∀x,(B'.Pr x∧x≠b)→x<(w.putObj b (.cells us.toArray el (0,0))).heap.size:=fun x hx=>by
  have:=Nat.lt_of_lt_of_le (B'.lt x hx.1) hi.inv.size;simpa using this
 have hI1:=hi.inv.aMG h3 hM (.cells us.toArray el (0,0)) lt;have hI2:=hI1.aDZ (b:=b) (vs:=us) (World.putObj_heap_same hbl) hM (fun ℓ hℓ=>(hi.inv.l ℓ b hℓ).2.2 h3) (fun t n b' c sz ht hh q=>by
  obtain⟨b2,c2,sz2,k⟩:=hi.inv.tok t n ht;have:=k.h.symm.trans hh;cases this;exact k.np (q▸h3)) (fun hp=>hp.2 rfl) 0 us.length
 have hle:G.le (G.kL b 0 us.length us):=Gh.yV fun o _ _ x hx=>by rw [hM o] at hx;cases hx
 refine⟨b,el,vs,_,_,h1,hheap,h5,hle,?_,hI2,?_,?_,hi.wW.mono hle,hi.ds.mono hle⟩
 ·exact{
   pr:=fun x hx=>⟨hi.ext.pr x hx,fun q=>h2 (q▸hx)⟩
   os:=hi.inv.os.trans hi.ext.os
   tape:=hi.inv.tape.trans hi.ext.tape
   output:=hi.inv.output.trans hi.ext.output
   size:=by simpa using Nat.le_trans hi.ext.size hi.inv.size
   heap:=fun x hx=>(hne (fun q=>h2 (q▸hx))).trans ((hi.inv.pr x (hi.ext.pr x hx)).trans (hi.ext.heap x hx))
   M0:=fun x hx o=>(hi.inv.prM x (hi.ext.pr x hx) o).trans (hi.ext.M0 x hx o)}
 ·refine⟨fun d' n' hm'=> ?_,fun d1 n1 d2 n2 b' q1 q2 q3 q4=>hi.pend.inj d1 n1 d2 n2 b' (j8 q1).1 (j8 q2).1 q3 q4⟩;obtain⟨hm1,hm2⟩:=j8 hm';obtain⟨b',el',vs',k1,k2,k3,k4,k5,k6⟩:=hi.pend.at_ d' n' hm1;have hbb:b'≠b:=fun q=>by subst q;exact hm2 d rfl (hi.pend.inj _ _ _ _ _ hm1 hm k1 h1)
  refine⟨b',el',vs',k1,k2,⟨k3,hbb⟩,?_,k5,fun o=> ?_⟩
  ·exact(hne hbb).trans ((hi.inv.pr b' k3).trans k4)
  ·exact(hi.inv.prM b' k3 o).trans (k6 o)
 ·refine⟨hi.env.1,fun i=> ?_⟩;unfold upd;by_cases q:i=d
  ·subst q;rw [h1];simp only [Nat.beq_refl];have:=R.aF (G:=G.kL b 0 us.length us) (v:=v) (vs:=us) (b:=b) (o:=0) 0 (hc.mono hle) (fun j x hx=>by
    have hj:j<us.length:=by
     rcases Nat.lt_or_ge j us.length with q|q
     ·exact q
     ·rw [List.getElem?_eq_none q] at hx;cases hx
    rw [Nat.zero_add,nH (Nat.zero_le _) hj];exact hx)
   simpa using this
  ·simp only [xQ q];exact(hi.env.2 i).mono hle
theorem aFq{fa fb:List Value}{α:Type}{xs:Array α}{ρ:α→Value}:(fa++xs.toList.map ρ++fb).toArray=fa.toArray++xs.map ρ++fb.toArray:=by
 apply Array.toList_inj.1;simp
theorem aQU(hH:HOk P P' H)(hp: ∀g,cR (P'.gl g)=true)(hc:aAj P h all o ai)(hgs:ai.gd≠none→yD ai.op=true)(hi:RI P B P' nt pd ⟨e,ds⟩ s a w G B')(hwr: ∀t∈eR ai,t<nt)
(hrd: ∀f xs,ai.op= .defer f xs→rb=none)(hE:eff H P' ai e ds s=some (E,ds',s'))(hok:sH E pd=true)
(hK: ∀a' w' G' B'',G.le G'→RI P B P' nt (vM E pd) ⟨eU e E.t E.v,ds'⟩ s' a' w' G' B''→K a' w'):rB rb P all o a w K Q:=by
 obtain⟨d,op,gd,pre⟩:=ai;have hcd:=hc.d;simp only at hcd;subst hcd;have hd: ∀t,o.dst=some t→t<nt:=fun t ht=>hwr t (by simp [eR,ht]);have hO:Opn P' e G a.eval:=vX hi.env hi.wW;have hcst: ∀v,a.eval (.const v)=v:=fun _=>rfl;simp only [eff] at hE;split at hE
 ·cases hE
 ·rename_i hwt;cases hE;have hw:=oI (fr:=⟨e,ds⟩) hc hi.env hwt;unfold rB;rw [if_neg (by rw [hw];simp)];refine⟨aCj (fun _=>rfl) hc (hgs (fun hn=>by simp only at hn;rw [hn] at hwt;simp [wanted] at hwt)),hK _ _ G B' (.refl _) ?_⟩;rw [kD];exact hi.quiet hi.inv.quiet hd .aEk
 ·rename_i hwt;have hw:=oI (fr:=⟨e,ds⟩) hc hi.env hwt;have hcop:=hc.op;simp only at hcop;cases op with
  |pend z=>
   simp only at hE;split at hE
   ·rename_i d0 hd0;cases hE;have hk:=hcop.resolve_left (by simp);obtain⟨t,ho,hz⟩:=aKO hk;obtain⟨i,zv,hti,hzv,hr⟩:=oG (G:=G) hz;obtain⟨B'',hRI⟩:=hi.aM9 (hd d0 hd0) zv.cells.toList hr.jP.symm t;refine rI (yX (by simp [ho])) hw (by simp [ho]) (n:= .value (.pointer (some ⟨w.heap.size,0,none⟩))) (w':=w.alloc (.cells zv.cells.toList.toArray t (0,0))) ?_ (.inl rfl) ?_
    ·simp [execOp,ho,Instr.alloc,dM hti hzv,newVar,newRow]
    ·rw [hd0];exact hK _ _ _ _ (.refl _) hRI
   ·cases hE
  |shut d0 sz x=>
   simp only at hE;split at hE
   ·rename_i v hd0 hv;split at hE
    ·rename_i hsz;cases hE;have hk:=hcop.resolve_left (by simp);obtain⟨t,ti,xv,ho,hti,hx,rfl⟩:=aLp hk;obtain⟨_,hcx⟩:=o0 hv (hO.out _ _ hx);have hm:(d0,P.cellsOf t)∈pd:=by
      simp only [sH,List.any_eq_true,Bool.and_eq_true] at hok;obtain⟨p,hp1,hp2,hp3⟩:=hok;obtain⟨p1,p2⟩:=p;have e1:=Nat.eq_of_beq_eq_true hp2;have e2:=Nat.eq_of_beq_eq_true hp3;simp only at e1 e2;subst e1;subst e2;exact hp1
     have hul:(a.eval xv).cells.toList.length=P.cellsOf t:=by rw [←hcx.aCw,hsz]
     obtain⟨b,el,vs,G',B'',k1,k2,k3,k4,k5⟩:=hi.shut (hwr d0 (by simp [eR])) hm hcx hul;have hrun:=xU (P:=P) k2 (us:=(a.eval xv).cells.toList) (by rw [hul,k3]) hcx.c_k.aNe;have hta:a.eval (.tmp d0)= .pointer (some ⟨b,0,none⟩):=k1;refine rI (yX (by simp [ho])) hw (by simp [ho]) (n:= .skip) (x:=undef) (w':=w.putObj b (.cells (a.eval xv).cells.toList.toArray el (0,0))) ?_ (.inr ⟨rfl,rfl⟩) ?_
     ·have hsz':(a.eval xv).cells.size=P.cellsOf t:=by rw [←hul];simp
      have hrun':(storeCells ⟨b,0,none⟩ (a.eval xv).cells.toList).run P w= .ok () (w.putObj b (.cells (a.eval xv).cells (el) (0,0))):=by simpa using hrun
      simp [execOp,ho,hta,Instr.storeAt,Instr.sureAddr,storeVar,jV hti,hsz',hrun']
     ·rw [show o.dst=none from hd0];exact hK _ _ _ _ k4 k5
    ·cases hE
   ·cases hE
  |defer f args=>
   simp only at hE;split at hE
   ·rename_i g x y vs hf hvs;cases hE;have hk:=hcop.resolve_left (by simp);obtain⟨c,fo,ho,hcal,hfo,hargs⟩:=aIM hk;have hrf:=hO.out _ _ hfo;rw [hf] at hrf;have hrx:=rM hvs (sV hO hargs);generalize hfv:a.eval fo=fv at hrf;cases hrf with
    | @func _ _ _ fa fb ha hb=>
    have hrb:=hrd f args rfl;subst hrb;unfold rB;rw [if_pos hw];refine⟨yX (by simp [ho]),?_⟩;have hrun:(Oper.semAt (FR P none).round a.eval o).run P w= .ok (.defer {target:= .fn (.func g) fb.toArray,args:=fa.toArray++c.args.map a.eval}) w:=by
     show(execOp a.eval o).run P w=_;simp [execOp,ho,pA hcal hfv]
    rw [hrun];refine hK _ _ G B' (.refl _) ?_;rw [kD];have:=hi.quiet hi.inv.quiet hd R.aEk;refine⟨this.ext,this.inv,?_,?_,this.wW,?_⟩
    ·have hp:=this.pend;rw [aBR] at hp⊢;exact hp
    ·have hp:=this.env;rw [aBR] at hp⊢;exact hp
    ·rw [put_defers];refine .cons ⟨fb,fa++(c.args.toList.map a.eval),rfl,by simp,?_⟩ hi.ds;simpa using (ha.pK hrx).pK hb
   ·cases hE
  |panic x=>simp only at hE;cases hE
  |call f args=>simp only at hE;cases hE
  |aW st f args=>
   simp only at hE;split at hE
   ·rename_i g x y vs hf hvs;split at hE
    ·rename_i v s2 hpure hcall;split at hE
     ·rename_i v' hv';split at hE
      ·rename_i hpv;cases hE;have hk:=hcop.resolve_left (by simp);obtain⟨c,fo,ho,hcal,hfo,hargs,_⟩:=wS (.inr ⟨st,hk⟩);have hrf:=hO.out _ _ hfo;rw [hf] at hrf;have hrx:=rM hvs (sV hO hargs);generalize hfv:a.eval fo=fv at hrf;cases hrf with
       | @func _ _ _ fa fb ha hb=>
       have hargs':R G (.l (x++vs++y) (fa++c.args.toList.map a.eval++fb)):=(ha.pK hrx).pK hb;have hsw:R (aDQ G) (.l (x++vs++y) (fa++c.args.toList.map a.eval++fb)):=hargs'.swap (by
        simp only [Bool.or_eq_true,Bool.and_eq_true] at hpure;rcases hpure with hq|hq
        ·exact .inr (hi.inv.aKw hq.2)
        ·exact .inl hq)
       have hup:=hH.func g _ _ _ _ hcall (aJC w G) (aDQ G) w _ hi.inv.bare (hi.wW.bare hp) hsw;refine aDK (xZ ho hcal hfv (by obtain⟨n,w1,h1,_⟩:=hup;exact qW h1)) hw (by simp [ho]) (R:=uR P (aJC w G) (aDQ G) s2 (.ret v)) ?_ (fun x' w' hR=> ?_) (fun ch w' hR=> ?_) (fun w' hR=> ?_)
       ·have he:(execOp a.eval o).run P w=(callFunc g (fa++c.args.toList.map a.eval++fb).toArray).run P w:=by
         rw [vE ho hcal hfv,aFq]
         rfl
        unfold aNz;rw [he];exact hup
       ·obtain⟨G2,hle,hI2,hres⟩:=hR;have hq:=hi.inv.aQT hle hI2;have hr2:R ⟨G2.M,G.L,G.H⟩ (.v v' x'):=(aOa hv' hres).swap (by
         simp only [Bool.or_eq_true] at hpv;rcases hpv with hq|hq
         ·exact .inr (hI2.aKw hq)
         ·exact .inl hq)
        have:=hi.quiet hq hd hr2;exact hK _ _ _ B' hq.le (by rw [kD];exact this)
       ·obtain⟨G2,hle,hI2,hres⟩:=hR;exact hres.elim
       ·obtain⟨G2,hle,hI2,hres⟩:=hR;exact hres.elim
      ·cases hE
     ·cases hE
    ·cases hE
   ·cases hE
  |_=>
   simp only at hE;have hnd: ∀c,o.op≠ .defer c:=by
    rcases hcop with hq|hq
    ·cases hq<;>simp [bJ,fS,eD] at hE
    ·exact aDp hq (by simp)
   split at hE
   ·rename_i v hv;cases hE;rcases hcop with hq|hq
    ·cases hq<;>simp [bJ] at hv
    ·obtain⟨x,w',G',hrun,q,r⟩:=aNB hi.inv hO hcst hq hv;refine rI (mY hc (by first|(intro hbad;simp [bJ,fS,eD] at hv;done)|simp) (by simp) (by simp)) hw hnd hrun (.inl rfl) (hK _ _ _ B' q.le ?_);rw [kD];exact hi.quiet q hd r
   ·split at hE
    ·rename_i v hv;cases hE;rcases hcop with hq|hq
     ·cases hq<;>simp [fS] at hv
     ·obtain⟨x,w',G',hrun,q,r⟩:=aP0 hi.inv hO hq hv;refine rI (mY hc (by first|(intro hbad;simp [bJ,fS,eD] at hv;done)|simp) (by simp) (by simp)) hw hnd hrun (.inl rfl) (hK _ _ _ B' q.le ?_);rw [kD];exact hi.quiet q hd r
    ·split at hE
     ·rename_i v s1 hv;cases hE;rcases hcop with hq|hq
      ·cases hq<;>simp [eD] at hv
      ·obtain⟨n,x,w',G',hrun,hn,hle,hI',r⟩:=aP2 hi.inv hO hq hv;refine rI (mY hc (by first|(intro hbad;simp [bJ,fS,eD] at hv;done)|simp) (by simp) (by simp)) hw hnd hrun hn (hK _ _ _ B' hle ?_);rw [kD];exact hi.put hle hI' hd r
     ·cases hE
end
def aFn(G:Gh):cY→Exit→Prop
 | .normal,.normal=>True
 | .exit i,.exit j=>i=j
 | .ret,.ret=>True
 | .panic v,.panic chain=> ∃x,chain= [{v:=x,recovered:=false}]∧R G (.v v x)
 |_,_=>False
def CQ(P:Program)(B:Bs)(nt:Nat)(G:Gh)(ex:cY)(fr:Fr)(s:ASt)(e:Exit)(a:Act)(w:World):Prop:=
 ∃G',G.le G'∧Inv P B G' s w∧jE G' nt fr.env a.tmps∧pQ G' fr.ds a.defers∧aFn G' ex e
theorem CQ.le{P:Program}{B:Bs}{nt:Nat}{G G1:Gh}{ex:cY}{fr:Fr}{s:ASt}{e:Exit}{a:Act}{w:World}(hle:G.le G1)(h:CQ P B nt G1 ex fr s e a w):CQ P B nt G ex fr s e a w:=by
 obtain⟨G',h1,h2⟩:=h;exact⟨G',hle.trans h1,h2⟩
def OQ(P:Program)(B:Bs)(nt:Nat)(G:Gh)(r:pM):Exit→Act→World→Prop:=
 match r with
 | .norm fr s=>CQ P B nt G .normal fr s
 | .pan v fr s=>CQ P B nt G (.panic v) fr s
theorem OQ.le{P:Program}{B:Bs}{nt:Nat}{G G1:Gh}{r:pM}{e:Exit}{a:Act}{w:World}(hle:G.le G1)(h:OQ P B nt G1 r e a w):OQ P B nt G r e a w:=by
 cases r<;>exact CQ.le hle h
structure aF6(P:Program)(h:Hint)(nt:Nat)(rb:Option Nat)(all:Array Oper)(o:Oper)(ai:AI):Prop where
 c:aAj P h all o ai
 wr: ∀t∈eR ai,t<nt
 rd: ∀f xs,ai.op= .defer f xs→rb=none
 gs:ai.gd≠none→yD ai.op=true
section
variable {P : Program} {B B' : Bs} {P' : aS} {nt : Nat} {pd : List (Nat × Nat)} {fr : Fr} {e : Env} {ds ds' : List hY} {s s' : ASt} {a : Act} {w : World} {G G0 : Gh}
variable {H : Handler} {rb : Option Nat} {all : Array Oper} {o : Oper} {ai : AI} {h : Hint}
theorem RI.cq(hi:RI P B P' nt pd fr s a w G B')(hle:G0.le G):CQ P B nt G0 .normal fr s .normal a w:=⟨G,hle,hi.inv.base hi.ext,hi.env,hi.ds,trivial⟩
theorem aJ9(hH:HOk P P' H){f:aJ}{args:List aJ}{gd:Option (Nat×Bool)}{pre:List Nat}{d:Option Nat}(hc:aF6 P h nt rb all o ⟨d,.call f args,gd,pre⟩)(hi:RI P B P' nt pd ⟨e,ds⟩ s a w G B')
(hwt:wanted e gd=some true){g:AFn}{x y:List AV}(ht:target (evO P' e f)=some (g,x,y)){vs:List AV}{s1:ASt}(hvs:rL s (args.map (evO P' e))=some (vs,s1)){r:jM}{s2:ASt}
(hcall:H.call g (x++vs++y) s1=some (r,s2)){K:Act→World→Prop}{Q:Exit→Act→World→Prop}
(hK: ∀v a' w' G' B'',r= .ret v→G.le G'→RI P B P' nt (aK d pd) ⟨eU e d v,ds⟩ s2 a' w' G' B''→K a' w')
(hQ: ∀v x w',r= .panic v→CQ P B nt G (.panic v) ⟨e,ds⟩ s2 (.panic [{v:=x,recovered:=false}]) a w'→Q (.panic [{v:=x,recovered:=false}]) a w'):rB rb P all o a w K Q:=by
 have hcd:=hc.c.d;simp only at hcd;subst hcd;have hd: ∀t,o.dst=some t→t<nt:=fun t ht=>hc.wr t (by simp [eR,ht]);have hw:=oI (fr:=⟨e,ds⟩) hc.c hi.env hwt;have hO:Opn P' e G a.eval:=vX hi.env hi.wW;have hk:=hc.c.op.resolve_left (by simp);obtain⟨c,fo,ho,hcal,hfo,hargs,_⟩:=wS (.inl hk);have hnd: ∀c,o.op≠ .defer c:=by simp [ho]
 obtain⟨G1,hle1,hI1,hr1⟩:=aCz hi.inv (sV hO hargs) hvs;have hrf:=(hO.out _ _ hfo).mono hle1;have hg1:=hi.wW.mono hle1;have hret: ∀xv w',uR P B' G1 s2 r (.returned xv) w'→K (a.put o.dst xv) w':=by
  rintro xv w' ⟨G2,hle2,hI2,hres⟩
  cases r with
  |ret v=>exact hK v _ _ G2 B' rfl (hle1.trans hle2) (hi.put (hle1.trans hle2) hI2 hd hres)
  |panic v=>exact hres.elim
 have hpan: ∀ch w',uR P B' G1 s2 r (.panicked ch) w'→Q (.panic ch) a w':=by
  rintro ch w' ⟨G2,hle2,hI2,hres⟩
  cases r with
  |ret v=>exact hres.elim
  |panic v=>
   obtain⟨x,rfl,hx⟩:=hres;exact hQ v x w' rfl ⟨G2,hle1.trans hle2,hI2.base hi.ext,hi.env.mono (hle1.trans hle2),hi.ds.mono (hle1.trans hle2),x,rfl,hx⟩
 have hout: ∀w',¬uR P B' G1 s2 r .outgrown w':=by
  rintro w' ⟨G2,_,_,hres⟩
  cases r<;>exact hres.elim
 generalize hfv:a.eval fo=fv at hrf;generalize evO P' e f=av at ht hrf;cases hrf with
 | @func g' a' b' fa fb ha hb=>
  simp only [target,Option.some.injEq,Prod.mk.injEq] at ht;obtain⟨rfl,rfl,rfl⟩:=ht;have hr:R G1 (.l (a'++vs++b') (fa++c.args.toList.map a.eval++fb)):=(ha.pK hr1).pK hb;have hup:=hH.func g' _ _ _ _ hcall B' G1 w _ hI1 hg1 hr;refine aDK (xZ ho hcal hfv (by obtain⟨n,w1,h1,_⟩:=hup;exact qW h1)) hw hnd (R:=uR P B' G1 s2 r) ?_ hret hpan hout;have he:(execOp a.eval o).run P w=(callFunc g' (fa++c.args.toList.map a.eval++fb).toArray).run P w:=by
   rw [vE ho hcal hfv,aFq]
   rfl
  unfold aNz;rw [he];exact hup
 | @yield l b hLb=>
  simp only [target,Option.some.injEq,Prod.mk.injEq] at ht;obtain⟨rfl,rfl,rfl⟩:=ht;have hr:R G1 (.l ([]++vs++ []) (c.args.toList.map a.eval)):=by simpa using hr1
  obtain⟨f',tmps,a_,bd,h1,h2⟩:=hH.yield l _ _ _ _ hcall B' G1 w _ b hI1 hg1 hr hLb;refine aIP (aG2 ho hcal hfv) hw hnd (R:=uR P B' G1 s2 r) ?_ h2 hret hpan hout;have e1:(c.args.toList.map a.eval).toArray= #[]++c.args.map a.eval:=by apply Array.toList_inj.1;simp
  rw [vE ho hcal hfv,←e1];exact h1
 |_=>simp [target] at ht
theorem aPJ(hH:HOk P P' H)(hp: ∀g,cR (P'.gl g)=true){rest:List AI}{r:pM}(hc:aF6 P h nt rb all o ai)(hi:RI P B P' nt pd fr s a w G B')(hr:bG H P' (ai::rest) pd fr s=some r){K:Act→World→Prop}
(hK: ∀pd' fr' s' a' w' G' B'',bG H P' rest pd' fr' s'=some r→G.le G'→RI P B P' nt pd' fr' s' a' w' G' B''→K a' w'):rB rb P all o a w K (OQ P B nt G r):=by
 obtain⟨e,ds⟩:=fr;by_cases h3:dY ai.op=3
 ·obtain⟨d,op,gd,pre⟩:=ai;have hcd:=hc.c.d;simp only at hcd;subst hcd;have hd: ∀t,o.dst=some t→t<nt:=fun t ht=>hc.wr t (by simp [eR,ht]);simp only [bG] at hr;split at hr
  ·cases hr
  ·rename_i hwt;have hw:=oI (fr:=⟨e,ds⟩) hc.c hi.env hwt;unfold rB;rw [if_neg (by rw [hw];simp)];exact⟨aCj (fun _=>rfl) hc.c (hc.gs (fun hn=>by simp only at hn;rw [hn] at hwt;simp [wanted] at hwt)),hK _ _ _ _ _ G B' hr (.refl _) (hi.quiet hi.inv.quiet hd .aEk)⟩
  ·rename_i hwt;cases op with
   |call f args=>
    simp only at hr;split at hr
    ·rename_i g x y vs s1 ht hvs;split at hr
     ·rename_i v s2 hcall;refine aJ9 hH hc hi hwt ht hvs hcall (fun v' a' w' G' B'' hv hle hri=> ?_) (fun v' x w' hv=>by cases hv);cases hv;exact hK _ _ _ _ _ _ _ hr hle hri
     ·rename_i v s2 hcall;cases hr;refine aJ9 hH hc hi hwt ht hvs hcall (fun v' a' w' G' B'' hv=>by cases hv) (fun v' x w' hv hcq=> ?_);cases hv;exact hcq
     ·cases hr
    ·cases hr
   |panic x=>
    simp only at hr;split at hr
    ·rename_i t v hx;cases hr;have hw:=oI (fr:=⟨e,ds⟩) hc.c hi.env hwt;have hO:Opn P' e G a.eval:=vX hi.env hi.wW;obtain⟨xo,ho,hxo⟩:=aIR (hc.c.op.resolve_left (by simp));have hrx:=hO.out _ _ hxo;rw [hx] at hrx;generalize hxv:a.eval xo=xv at hrx;cases hrx with
     | @iface _ _ y hy=>
     unfold rB;rw [if_pos hw];refine⟨yX (by simp [ho]),?_⟩;have hrun:(o.semAt (FR P rb).round a.eval).run P w= .halt (.panic (.iface t y)) w:=by
      rw [Oper.semAt_eq _ _ _ (by simp [ho])];simp only [execOp,ho,hxv,Sem.run_bind]
      rfl
     rw [hrun];exact⟨G,.refl _,hi.inv.base hi.ext,hi.env,hi.ds,_,rfl,.iface hy⟩
    ·cases hr
   |aW st f args=>cases st<;>simp [dY] at h3
   |append tk a b c d=>cases tk<;>simp [dY] at h3
   |_=>simp [dY] at h3
 ·rw [m5 h3] at hr;split at hr
  ·rename_i E ds' s' hE;cases hok:sH E pd with
   |false=>rw [hok] at hr;cases hr
   |true=>
    rw [hok] at hr;exact aQU hH hp hc.c hc.gs hi hc.wr hc.rd hE hok fun a' w' G' B'' hle hri=>hK _ _ _ _ _ _ _ hr hle hri
  ·cases hr
theorem aB3(hH:HOk P P' H)(hp: ∀g,cR (P'.gl g)=true){r:pM}{f:Nat→AI}: ∀(l:List Nat),(∀j∈l,∃o,all[j]?=some o∧aF6 P h nt rb all o (f j))→ ∀{pd:List (Nat×Nat)}{fr:Fr}{s:ASt}{a:Act}{w:World}{G:Gh}{B':Bs},
  RI P B P' nt pd fr s a w G B'→bG H P' (l.map f) pd fr s=some r→G0.le G→wpOpsIn (FR P rb) 0 P all (OQ P B nt G0 r) l a w
 | [],_,pd,fr,s,a,w,G,B',hi,hr,hle=>by
  simp only [List.map_nil,bG,Option.some.injEq] at hr;subst hr;exact hi.cq hle
 |j::l,hl,pd,fr,s,a,w,G,B',hi,hr,hle=>by
  obtain⟨o,ho,hok⟩:=hl j (by simp);simp only [List.map_cons] at hr;have hs:=aPJ hH hp hok hi hr (K:=wpOpsIn (FR P rb) 0 P all (OQ P B nt G0 r) l) fun pd' fr' s' a' w' G' B'' hr' hle' hi'=>
   aB3 hH hp l (fun j hj=>hl j (by simp [hj])) hi' hr' (hle.trans hle')
  rw [wpOpsIn_cons];simp only [wpOpIn,ho];unfold rB at hs;split
  ·rename_i hw;rw [if_pos hw] at hs;refine⟨hs.1,?_⟩;exact uponIn_mono (fun a w h=>h) (fun e a w h=>OQ.le hle h) hs.2
  ·rename_i hw;rw [if_neg hw] at hs;exact hs
where
 uponIn_mono {F : Fence} {n : Nat} {o : Oper} {a : Act} {K K' : Act → World → Prop} {Q Q' : Exit → Act → World → Prop} (hk : ∀ a w, K a w → K' a w) (hq : ∀ e a w, Q e a w → Q' e a w) {r : Result Next}
   (hh : o.uponIn F n P a K Q r) : o.uponIn F n P a K' Q' r := by
  cases r with
  | ok x w' =>
   cases x <;> simp only [Oper.uponIn] at hh ⊢ <;>
    first
     | exact hk _ _ hh
     | exact ⟨hh.1, CallsIn.mono hh.2 (fun e w'' he => by cases e <;> first | exact hk _ _ he | exact hq _ _ _ he | exact (let ⟨a, w, h⟩ := he; ⟨a, w, hq _ _ _ h⟩))⟩
     | exact ⟨hh.1, RowsIn.mono hh.2 (fun _ _ he => hk _ _ he)⟩
     | exact ⟨hh.1, RoundIn.mono hh.2 (fun e w'' he => by cases e <;> first | exact hk _ _ he | exact hq _ _ _ he | exact (let ⟨a, w, h⟩ := he; ⟨a, w, hq _ _ _ h⟩))⟩
  | halt x w' => cases x <;> simp only [Oper.uponIn] at hh ⊢ <;> exact hq _ _ _ hh
end
section
variable {P : Program} {B B' : Bs} {P' : aS} {nt : Nat} {pd : List (Nat × Nat)} {fr : Fr} {s : ASt} {a : Act} {w : World} {G G0 : Gh}
variable {H : Handler} {rb : Option Nat} {all : Array Oper} {h : Hint}
structure aPK(P:Program)(h:Hint)(nt:Nat)(rb:Option Nat)(all:Array Oper)(f:Nat→AI):Prop where
 op: ∀j,j<all.size→ ∃o,all[j]?=some o∧aF6 P h nt rb all o (f j)
structure aM4(all:Array Oper)(f:Nat→AI):Prop where
 aRY: ∀(j:Nat)(o:Oper),all[j]?=some o→ ∀e∈o.after,Region.binds .any e=true→e.on<j
 pre: ∀(j:Nat)(o:Oper),all[j]?=some o→ ∀m∈(f j).pre,∃e∈o.after,Region.binds .any e=true∧(m=e.on∨m∈(f e.on).pre)
 apart: ∀i j,i<j→j<all.size→i∉(f j).pre→Fw.apart (f i) (f j)
theorem aLq{md:Region.Mode}{e:Edge}(h:Region.binds .any e=true):Region.binds md e=true:=by
 unfold Region.binds at*;cases hg:e.ground<;>simp [hg] at h⊢
def aJu(f:Nat→AI)(listed:Array Bool):Prop:= ∀k,listed.getD k false=true→ ∀m∈(f k).pre,listed.getD m false=true
def open_(n:Nat)(listed:Array Bool):List Nat:=(List.range n).filter fun j=> !listed.getD j true
theorem aHU{l:Array Bool}{i j:Nat}{d:Bool}(hi:i<l.size):(l.setIfInBounds i true).getD j d=if j=i then true else l.getD j d:=by
 simp only [Array.getD_eq_getD_getElem?,Array.getElem?_setIfInBounds];by_cases h:i=j
 ·subst h;simp [hi]
 ·simp [h,Ne.symm h]
theorem aHR{l:Array Bool}{j:Nat}(hj:j<l.size)(d d':Bool):l.getD j d=l.getD j d':=by
 simp [Array.getD_eq_getD_getElem?,hj]
theorem aLM{n i:Nat}{listed:Array Bool}(hs:listed.size=n){A C:List Nat}(hi:open_ n listed=A++i::C):open_ n (listed.setIfInBounds i true)=A++C:=by
 have hmem:i∈open_ n listed:=by rw [hi];simp
 have hin:i<listed.size:=by
  simp only [open_,List.mem_filter,List.mem_range] at hmem;omega
 have h1:open_ n (listed.setIfInBounds i true)=(open_ n listed).filter fun j=> !(j==i):=by
  unfold open_;rw [List.filter_filter];refine List.filter_congr fun j hj=> ?_;rw [aHU hin];by_cases q:j=i
  ·subst q;simp
  ·simp [q]
 have hnd:(open_ n listed).Nodup:=List.Pairwise.filter _ List.nodup_range;rw [hi] at hnd;rw [h1,hi,List.filter_append,List.filter_cons];have hA:A.filter (fun j=> !(j==i))=A:=List.filter_eq_self.2 fun j hj=>by
  have:j≠i:=fun q=>by
   subst q;exact(List.nodup_append.1 hnd).2.2 _ hj _ (by simp) rfl
  simp [this]
 have hC:C.filter (fun j=> !(j==i))=C:=List.filter_eq_self.2 fun j hj=>by
  have:j≠i:=fun q=>by
   subst q;exact(List.nodup_cons.1 (List.nodup_append.1 hnd).2.1).1 hj
  simp [this]
 rw [hA,hC];simp
theorem aOC(hH:HOk P P' H)(hp: ∀g,cR (P'.gl g)=true){r:pM}{f:Nat→AI}(hR:aPK P h nt rb all f)(hD:aM4 all f){md:Region.Mode}(hmd:md= .any):
  ∀(fuel t:Nat)(listed:Array Bool),listed.size=all.size→(open_ all.size listed).length≤fuel→aJu f listed→ ∀{pd:List (Nat×Nat)}{fr:Fr}{s:ASt}{a:Act}{w:World}{G:Gh}{B':Bs},
  RI P B P' nt pd fr s a w G B'→bG H P' ((open_ all.size listed).map f) pd fr s=some r→G0.le G→wpOpsIn (FR P rb) 0 P all (OQ P B nt G0 r) (Region.linearise.go md all fuel t listed []) a w:=by
 intro fuel
 induction fuel with
 |zero=>
  intro t listed hs hl hcl pd fr s a w G B' hi hr hle;have h0:open_ all.size listed= []:=List.length_eq_zero_iff.1 (Nat.le_zero.1 hl);rw [h0] at hr;exact aB3 (h:=h) hH hp [] (by simp) hi hr hle
 |succ fuel ih=>
  intro t listed hs hl hcl pd fr s a w G B' hi hr hle;simp only [Region.linearise.go];split
  ·rename_i i hi';have hready:=List.mem_of_getElem? hi';rw [List.mem_filter] at hready;obtain⟨hir,hcond⟩:=hready;have hin:i<all.size:=by simpa using hir
   obtain⟨o,ho,hok⟩:=hR.op i hin;rw [Bool.and_eq_true] at hcond;obtain⟨hun,hedge⟩:=hcond;rw [ho] at hedge;simp only [Option.map_some,Option.getD_some] at hedge;rw [Array.all_eq_true_iff_forall_mem] at hedge;have hmem:i∈open_ all.size listed:=by simp only [open_,List.mem_filter,List.mem_range];exact⟨hin,hun⟩
   obtain⟨A,C,hAC⟩:=List.append_of_mem hmem;have hpre: ∀m∈(f i).pre,listed.getD m false=true:=by
    intro m hm;obtain⟨e,he,hb,hme⟩:=hD.pre i o ho m hm;have hel:listed.getD e.on false=true:=by
     have:=hedge e he;rw [aLq hb] at this;simpa using this
    rcases hme with rfl|hme
    ·exact hel
    ·exact hcl _ hel m hme
   have hsorted:(open_ all.size listed).Pairwise (· < ·):=List.Pairwise.filter _ List.pairwise_lt_range;rw [hAC] at hsorted;have hA: ∀j∈A,Fw.apart (f j) (f i):=by
    intro j hj;have hji:j<i:=(List.pairwise_append.1 hsorted).2.2 j hj i (by simp);refine hD.apart j i hji hin fun hjp=> ?_;have h1:=hpre j hjp;have h2:j∈open_ all.size listed:=by rw [hAC];simp [hj]
    simp only [open_,List.mem_filter,List.mem_range] at h2;rw [aHR (by omega) true false,h1] at h2;simp at h2
   rw [linearise_go_acc,List.reverse_singleton,List.singleton_append,wpOpsIn_cons];rw [hAC,List.map_append,List.map_cons] at hr;have hr2:=aAO (fun x hx=>by
    obtain⟨j,hj,rfl⟩:=List.mem_map.1 hx;exact hA j hj) hr
   have hopen:=aLM hs hAC;have hlen:(open_ all.size (listed.setIfInBounds i true)).length≤fuel:=by
    rw [hopen];rw [hAC] at hl;simp only [List.length_append,List.length_cons] at hl⊢;omega
   have hcl':aJu f (listed.setIfInBounds i true):=by
    have hin':i<listed.size:=by omega
    intro k hk m hm;rw [aHU hin'] at hk⊢;split
    ·rfl
    ·by_cases q:k=i
     ·subst q;exact hpre m hm
     ·rw [if_neg q] at hk;exact hcl k hk m hm
   have hs2:=aPJ hH hp hok hi hr2 (K:=wpOpsIn (FR P rb) 0 P all (OQ P B nt G0 r) (Region.linearise.go md all fuel (t/((List.range all.size).filter fun i=> !listed.getD i true&&((all[i]?).map (·.after.all fun e=> !Region.binds md e||listed.getD e.on false)).getD false).length) (listed.setIfInBounds i true) [])) fun pd' fr' s' a' w' G' B'' hr' hle' hi'=>
    ih _ _ (by simpa using hs) hlen hcl' hi' (by rw [hopen,List.map_append];exact hr') (hle.trans hle')
   simp only [wpOpIn,ho];unfold rB at hs2;split
   ·rename_i hw;rw [if_pos hw] at hs2;exact⟨hs2.1,aB3.uponIn_mono (fun a w h=>h) (fun e a w h=>OQ.le hle h) hs2.2⟩
   ·rename_i hw;rw [if_neg hw] at hs2;exact hs2
  ·rename_i hnone;have h0:open_ all.size listed= []:=by
    cases hop:open_ all.size listed with
    |nil=>rfl
    |cons i rest=>
     exfalso;have hmem:i∈open_ all.size listed:=by rw [hop];simp
     have hsorted:(open_ all.size listed).Pairwise (· < ·):=List.Pairwise.filter _ List.pairwise_lt_range;rw [hop] at hsorted;have hmin: ∀j,j<i→listed.getD j false=true:=by
      intro j hj;have hin:i<all.size:=by
       simp only [open_,List.mem_filter,List.mem_range] at hmem;exact hmem.1
      cases hq:listed.getD j false with
      |true=>rfl
      |false=>
       have:j∈open_ all.size listed:=by
        simp only [open_,List.mem_filter,List.mem_range];refine⟨by omega,?_⟩;rw [aHR (by omega) true false,hq];rfl
       rw [hop] at this;rcases List.mem_cons.1 this with rfl|h2
       ·exact absurd hj (Nat.lt_irrefl _)
       ·have:=(List.pairwise_cons.1 hsorted).1 j h2;omega
     simp only [open_,List.mem_filter,List.mem_range] at hmem;obtain⟨o,ho,hok⟩:=hR.op i hmem.1;have hr':i∈(List.range all.size).filter fun i=> !listed.getD i true&&((all[i]?).map (·.after.all fun e=> !Region.binds md e||listed.getD e.on false)).getD false:=by
      rw [List.mem_filter];refine⟨by simpa using hmem.1,?_⟩;rw [Bool.and_eq_true,ho];refine⟨hmem.2,?_⟩;simp only [Option.map_some,Option.getD_some];rw [Array.all_eq_true_iff_forall_mem];intro e he;cases hb:Region.binds md e with
      |false=>rfl
      |true=>rw [hmin _ (hD.aRY i o ho e he (by rw [←hmd];exact hb))];rfl
     have hlt:t%((List.range all.size).filter fun i=> !listed.getD i true&&((all[i]?).map (·.after.all fun e=> !Region.binds md e||listed.getD e.on false)).getD false).length<((List.range all.size).filter fun i=> !listed.getD i true&&((all[i]?).map (·.after.all fun e=> !Region.binds md e||listed.getD e.on false)).getD false).length:=
      Nat.mod_lt _ (List.length_pos_of_mem hr')
     have:=List.getElem?_eq_none_iff.1 hnone;omega
   rw [h0] at hr;exact aB3 (h:=h) hH hp [] (by simp) hi hr hle
theorem xT{draw:Bool}{pre:List (List Nat)}: ∀{l:List Oper}{i:Nat}{is:List AI},zQ P h draw all pre i l=some is→
  is.length=l.length∧ ∀j o,l[j]?=some o→ ∃ai,is[j]?=some ai∧aAj P h all o ai∧ai.pre=if draw then(pre.getD (i+j) []).eraseDups else []
 | [],i,is,hk=>by simp [zQ] at hk;subst hk;exact⟨rfl,fun j o hj=>by simp at hj⟩
 |o::l,i,is,hk=>by
  simp only [zQ] at hk;split at hk
  ·rename_i is' g h1 h2;cases hk;obtain⟨hlen,hih⟩:=xT h1;refine⟨by simp [hlen],fun j o' hj=> ?_⟩;cases j with
   |zero=>
    simp only [List.getElem?_cons_zero,Option.some.injEq] at hj;subst hj;refine⟨_,rfl,⟨rfl,?_,?_⟩,rfl⟩
    ·simp only;cases hc:cC P h o.dst o.op with
     |none=>exact .inl rfl
     |some x=>exact .inr rfl
    ·revert h2
     cases o.guard with
     |none=>simp only [Option.some.injEq];intro h2;exact h2.symm
     |some jb=>
      obtain⟨j,b⟩:=jb;simp only;split
      ·rename_i t ht;intro h2;cases h2;exact⟨t,ht,rfl⟩
      ·intro h2;cases h2
   |succ j=>
    obtain⟨ai,k1,k2,k3⟩:=hih j o' (by simpa using hj);refine⟨ai,by simpa using k1,k2,?_⟩;rw [k3,show i+1+j=i+(j+1) from by omega]
  ·cases hk
theorem aIo(l:List Oper): ∀(acc:List (List Nat))(done:List Oper),acc.length=done.length→
  (∀j o,done[j]?=some o→ ∀m∈acc.getD j [],∃e∈o.after,Region.binds .any e=true∧(m=e.on∨m∈acc.getD e.on []))→
  ∀j o,(done++l)[j]?=some o→ ∀m∈(l.foldl (fun acc o=>acc++ [((o.after.toList.filter (Region.binds .any)).flatMap fun e=>e.on::acc.getD e.on []).eraseDups]) acc).getD j [],
   ∃e∈o.after,Region.binds .any e=true∧(m=e.on∨m∈(l.foldl (fun acc o=>acc++ [((o.after.toList.filter (Region.binds .any)).flatMap fun e=>e.on::acc.getD e.on []).eraseDups]) acc).getD e.on []):=by
 induction l with
 |nil=>intro acc done _ h1 j o hj m hm;simp only [List.append_nil] at hj;exact h1 j o hj m hm
 |cons x l ih=>
  intro acc done hl h1 j o hj;simp only [List.foldl_cons];refine ih _ (done++ [x]) (by simp [hl]) (fun j o hj m hm=> ?_) j o (by simpa using hj);have hget: ∀k,k<acc.length→(acc++ [((x.after.toList.filter (Region.binds .any)).flatMap fun e=>e.on::acc.getD e.on []).eraseDups]).getD k []=acc.getD k []:=by
   intro k hk;simp [List.getD_eq_getElem?_getD,List.getElem?_append_left hk]
  have hmono: ∀k m,m∈acc.getD k []→m∈(acc++ [((x.after.toList.filter (Region.binds .any)).flatMap fun e=>e.on::acc.getD e.on []).eraseDups]).getD k []:=by
   intro k m hm;rcases Nat.lt_or_ge k acc.length with hk|hk
   ·rw [hget k hk];exact hm
   ·simp [List.getD_eq_getElem?_getD,List.getElem?_eq_none hk] at hm
  rcases Nat.lt_or_ge j done.length with hjl|hjl
  ·rw [List.getElem?_append_left hjl] at hj;rw [hget j (by omega)] at hm;obtain⟨e,he,hb,hme⟩:=h1 j o hj m hm;exact⟨e,he,hb,hme.imp id (hmono _ _)⟩
  ·have hj0:j=done.length:=by
    have:j<(done++ [x]).length:=(List.getElem?_eq_some_iff.1 hj).1;simp at this;omega
   subst hj0;simp at hj;subst hj;have:(acc++ [((x.after.toList.filter (Region.binds .any)).flatMap fun e=>e.on::acc.getD e.on []).eraseDups]).getD done.length []=((x.after.toList.filter (Region.binds .any)).flatMap fun e=>e.on::acc.getD e.on []).eraseDups:=by
    rw [←hl];simp [List.getD_eq_getElem?_getD]
   rw [this,List.mem_eraseDups] at hm;obtain⟨e,he,hme⟩:=List.mem_flatMap.1 hm;rw [List.mem_filter] at he;refine⟨e,Array.mem_toList_iff.1 he.1,he.2,?_⟩;rcases List.mem_cons.1 hme with q|q
   ·exact .inl q
   ·exact .inr (hmono _ _ q)
theorem aMb(l:List Oper): ∀j o,l[j]?=some o→ ∀m∈(aF3 l).getD j [],∃e∈o.after,Region.binds .any e=true∧(m=e.on∨m∈(aF3 l).getD e.on []):=by
 have:=aIo l [] [] rfl (by simp);simpa [aF3] using this
theorem yQ: ∀{l:List Oper}{i:Nat},aBL i l=true→ ∀j o,l[j]?=some o→ ∀e∈o.after,Region.binds .any e=true→e.on<i+j
 | [],i,_,j,o,hj=>by simp at hj
 |x::l,i,he,j,o,hj=>by
  simp only [aBL,Bool.and_eq_true] at he;cases j with
  |zero=>
   simp at hj;subst hj;intro e hm hb;have:=(Array.all_eq_true_iff_forall_mem.1 he.1) e hm;rw [hb] at this;simp only [Bool.not_true,Bool.false_or,Nat.blt_eq] at this;omega
  |succ j=>
   intro e hm hb;have:=yQ he.2 j o (by simpa using hj) e hm hb;omega
theorem aDv(hmix:P.follows .mixedOrders=true)(hH:HOk P P' H)(hp: ∀g,cR (P'.gl g)=true){id:Nat}{draw:Bool}{ops:List AI}(hk:dV P h (.region id all draw)=some (.reg draw ops))(hok:nQ nt rb.isSome (.reg draw ops)=true)
{r:pM}(hi:RI P B P' nt [] fr s a w G B)(hr:bG H P' ops [] fr s=some r):(Code.region id all draw).wpIn (FR P rb) 0 P (OQ P B nt G r) a w:=by
 simp only [dV] at hk;split at hk
 ·cases hk
 rename_i hedge;simp only [Option.map_eq_some_iff,AC.reg.injEq,true_and,exists_eq_right] at hk;obtain⟨hlen,hck⟩:=xT hk;simp only [nQ,Bool.and_eq_true] at hok;obtain⟨hok1,hok2⟩:=hok;have hall: ∀j,j<all.size→ ∃o ai,all[j]?=some o∧ops[j]?=some ai∧aF6 P h nt rb all o ai∧ai.pre=if draw then((if draw then aF3 all.toList else []).getD j []).eraseDups else []:=by
  intro j hj;obtain⟨ai,k1,k2,k3⟩:=hck j all[j] (by simp [hj]);refine⟨all[j],ai,by simp [hj],k1,⟨k2,?_,?_,?_⟩,by simpa using k3⟩
  ·intro t ht;simp only [aEd,List.all_eq_true,Bool.and_eq_true] at hok1;have:=((hok1 ai (List.mem_of_getElem? k1)).1.1) t ht;simpa using this
  ·intro f xs hd;simp only [aEd,List.all_eq_true,Bool.and_eq_true] at hok1;have:=(hok1 ai (List.mem_of_getElem? k1)).1.2;rw [hd] at this;cases rb with
   |none=>rfl
   |some b=>simp at this
  ·intro hg;simp only [aEd,List.all_eq_true,Bool.and_eq_true] at hok1;have:=(hok1 ai (List.mem_of_getElem? k1)).2;cases hgd:ai.gd with
   |none=>exact absurd hgd hg
   |some x=>rw [hgd] at this;exact this
 have hf: ∀j ai,ops[j]?=some ai→ops.getD j default=ai:=fun j ai hj=>by simp [List.getD_eq_getElem?_getD,hj]
 have hmap:(List.range all.size).map (fun j=>ops.getD j default)=ops:=by
  apply List.ext_getElem?;intro j;rcases Nat.lt_or_ge j all.size with hj|hj
  ·obtain⟨o,ai,_,k2,_⟩:=hall j hj;simp [hj,k2]
  ·have h1:ops.length≤j:=by rw [hlen];simpa using hj
   rw [List.getElem?_eq_none h1,List.getElem?_eq_none (by simpa using hj)]
 cases draw with
 |false=>
  refine wpIn_region (aB3 (h:=h) hH hp (f:=fun j=>ops.getD j default) _ (fun j hj=> ?_) hi (by rw [hmap];exact hr) (.refl _));obtain⟨o,ai,k1,k2,k3,_⟩:=hall j (by simpa using hj);exact⟨o,k1,by rw [hf j ai k2];exact k3⟩
 |true=>
  simp only [Bool.true_and,Bool.not_eq_true',Bool.not_eq_false] at hedge;have hR:aPK P h nt rb all (fun j=>ops.getD j default):=⟨fun j hj=>by
   obtain⟨o,ai,k1,k2,k3,_⟩:=hall j hj;exact⟨o,k1,by rw [hf j ai k2];exact k3⟩⟩
  have hD:aM4 all (fun j=>ops.getD j default):=by
   refine⟨fun j o ho e he hb=> ?_,fun j o ho m hm=> ?_,fun i j hij hj hn=> ?_⟩
   ·have:=yQ hedge j o (by simpa using ho) e he hb;omega
   ·obtain⟨o',ai,k1,k2,_,k4⟩:=hall j (Array.getElem?_eq_some_iff.1 ho).1;simp only [hf j ai k2,k4,if_true,List.mem_eraseDups] at hm;obtain⟨e,he,hb,hme⟩:=aMb all.toList j o (by simpa using ho) m hm;refine⟨e,he,hb,hme.imp (fun q=>q) fun hq=> ?_⟩;have hel:e.on<all.size:=by
     have h1:=yQ hedge j o (by simpa using ho) e he hb;have h2:=(Array.getElem?_eq_some_iff.1 ho).1;omega
    obtain⟨o2,ai2,_,q2,_,q4⟩:=hall e.on hel;rw [hf _ ai2 q2,q4];simpa [List.mem_eraseDups] using hq
   ·simp only [Bool.not_true,Bool.false_or] at hok2;simp only [aLy,List.all_eq_true,List.mem_range] at hok2;have hil:i<all.size:=Nat.lt_trans hij hj;obtain⟨o1,a1,_,q2,_,_⟩:=hall i hil;obtain⟨o2,a2,_,p2,_,_⟩:=hall j hj;have:=hok2 j (by rw [hlen];simpa using hj) i hij;rw [q2,p2] at this;rw [hf j a2 p2] at hn⊢;rw [hf i a1 q2];simp only [Bool.or_eq_true,List.contains_iff_mem,Bool.not_eq_true',Bool.or_eq_false_iff,List.any_eq_false] at this;rcases this with hq|⟨⟨h1,h2⟩,h3⟩
    ·exact absurd hq hn
    ·exact⟨h1,h2,h3⟩
  refine wpIn_region_draw fun t=> ?_;have hi':RI P B P' nt [] fr s a {w with drawn:=w.drawn+1} G B:=⟨hi.ext,hi.inv.drawn _,hi.pend,hi.env,hi.wW,hi.ds⟩
  have h0:open_ all.size (Array.replicate all.size false)=List.range all.size:=by
   unfold open_;rw [List.filter_eq_self];intro j hj;have:j<all.size:=by simpa using hj
   simp [Array.getD_eq_getD_getElem?,this]
  have hgo: ∀t,wpOpsIn (FR P rb) 0 P all (OQ P B nt G r) (Region.linearise .any all t) a {w with drawn:=w.drawn+1}:=fun t=>by
   unfold Region.linearise;refine aOC hH hp hR hD rfl all.size t _ (by simp) (by rw [h0];simp) (fun k hk=> ?_) hi' (by rw [h0,hmap];exact hr) (.refl _);simp only [Array.getD_eq_getD_getElem?,Array.getElem?_replicate] at hk;split at hk<;>simp at hk
  simp only [Region.schedule,hmix,Bool.true_or,if_true];exact hgo _
end
structure POk(P:Program)(P':aS):Prop where
 fn: ∀f af,P'.fn f=some af→ ∃(fn:Func)(h:Hint),P.funcs[f]?=some fn∧vI P h fn=some af∧nQ fn.ntmps false af.body=true∧(fn.name== "runtime.NumGoroutine")=false
 wW: ∀g,cR (P'.gl g)=true
 mixed:P.follows .mixedOrders=true
theorem kB{P:Program}{f:Nat}{fn:Func}(hf:P.funcs[f]?=some fn){c:Code}(hb:fn.body=some c)(hn:(fn.name== "runtime.NumGoroutine")=false)(args:Array Value)(w:World):
  (callFunc f args).run P w= .ok (.enter f args) w:=by
 unfold callFunc;simp only [Sem.run_bind];have:(program:Sem Program).run P w= .ok P w:=rfl;rw [this];simp only [Result.andThen,hf,hn,hb,Option.isNone_some]
 rfl
theorem yC{P:Program}{h:Hint}{fn:Func}{af:AF}(hc:vI P h fn=some af): ∃c,fn.body=some c∧dV P h c=some af.body:=by
 unfold vI at hc;split at hc
 ·rename_i b r hb hr;cases hc;obtain⟨c,h1,h2⟩:=Option.bind_eq_some_iff.1 hb;exact⟨c,h1,h2⟩
 ·cases hc
def aL8(G:Gh):Option Nat→Option Nat→Prop
 |none,none=>True
 |some l,some b=>G.L l=some b
 |_,_=>False
theorem aL8.mono{G G':Gh}(hG:G.le G'){rd rb:Option Nat}(h:aL8 G rd rb):aL8 G' rd rb:=by
 cases rd<;>cases rb<;>first|exact h|exact hG.L _ _ h
section
variable {P : Program} {B : Bs} {P' : aS} {nt : Nat} {s : ASt} {w : World} {G : Gh} {H : Handler} {h : Hint}
theorem aAG{l₀:Nat}{r₀:Loop}(h:w.heap[l₀]?=some (.loop r₀))(fn:FuncId)(tmps:Array Value)(ps:Array Tmp)(assign body:Code):
  (Instr.enterLoop fn tmps ps assign body<|some l₀).run P w=
   .ok (w.heap.size,[]) (w.alloc<|.loop {state:= .ready,pending:=none,fn,tmps,params:=ps,assign,body,defers:=r₀.defers}):=by
 unfold Instr.enterLoop;simp only [Sem.run_bind,run_getLoop h,run_newObj_alloc,Result.andThen,Sem.run_pure]
theorem aI8{F:Fence}{n:Nat}{c:Code}{Q:Exit→Act→World→Prop}{a:Act}{w:World}(hg: ∀l a w,¬Q (.goto l) a w)(h:c.wpIn F n P Q a w):(Code.scope c).wpIn F n P Q a w:=by
 intro b k cs hro hb hr;have s0:step P (lone (b.atR a (.code (.scope c)::k)) cs w)= .next (lone (b.atR a (.code c:: .inScope c::k)) cs w):=
  step_lone_go (by simp [stepG,stepG.exec,Frame.atR])
 have s1: ∀a w,step P (lone (b.atR a (.inScope c::k)) cs w)= .next (lone (b.atR a k) cs w):=
  fun a w=>step_lone_go (by simp [stepG,stepG.exec,Frame.atR])
 have h0:(lone (b.atR a (.code (.scope c)::k)) cs w).fenced P F:=fenced_calm hb hr rfl;obtain⟨e,a₁,w₁,hq,harr⟩:=h b (.inScope c::k) cs hro hb hr;cases e with
 |normal=>exact⟨.normal,a₁,w₁,hq,.head h0 s0<|StepsIn.trans harr<|.one (fenced_calm hb hr rfl)<|s1 _ _⟩
 |exit id=>
  have hx:exitTo id (.inScope c::k)=exitTo id k:=by simp [exitTo]
  exact⟨.exit id,a₁,w₁,hq,fun k' hk=> .head h0 s0 (harr.1 k' (by rw [hx];exact hk)),fun hr' hk=>let ⟨k₁,h1,h2⟩:=harr.2 hr' (by rw [hx];exact hk);⟨k₁,h1,.head h0 s0 h2⟩⟩
 |goto l=>exact absurd hq (hg _ _ _)
 |ret=>exact⟨_,a₁,w₁,hq,.of_steps (.one h0 s0) harr⟩
 |panic ch=>exact⟨_,a₁,w₁,hq,.of_steps (.one h0 s0) harr⟩
 |outgrown=>exact⟨_,a₁,w₁,hq,.of_steps (.one h0 s0) harr⟩
theorem aCx(hI:Inv P B G s w){fr:Fr}{a:Act}(hE:jE G nt fr.env a.tmps){rd rb:Option Nat}(hrd:aL8 G rd rb){ps:Array Nat}{assign body:Code}{a_ bd:AC}
(hps:ps.toList.all (fun d=>Nat.blt d nt)=true)(ha:dV P h assign=some a_)(hao:nQ nt true a_=true)(hb:dV P h body=some bd)(hbo:nQ nt true bd=true)
{l:Nat}{mk:List hY}{s1:ASt}(hl:qC rd ps.toList a_ bd fr s=some (l,mk,s1))(fn:FuncId)(hfn: ∃f,P.funcs[fn]?=some f):
  ∃bl mark w1 G1,(Instr.enterLoop fn a.tmps ps assign body rb).run P w= .ok (bl,mark) w1∧G.le G1∧Inv P B G1 s1 w1∧G1.L l=some bl∧pQ G1 mk mark:=by
 have hEn: ∀{G1:Gh},G.le G1→ ∀i,R G1 (.v (fr.env i)<|a.tmps.getD i undef):=fun hle i=>(hE.2 i).mono hle;have hsz:=hE.1;cases rd with
 |none=>
  cases rb with
  |some b=>exact hrd.elim
  |none=>
   simp only [qC,Option.some.injEq,Prod.mk.injEq] at hl;obtain⟨rfl,rfl,rfl⟩:=hl;have hI1:=hI.aAt (.deferred<|some []) .qZ rfl;have hle1:G.le (G.wD s.blks.length w.heap.size):=Gh.uK hI.aIA;have hle2:=Gh.uK (l:=s.blks.length+1) (b:=w.heap.size+1) (G:=G.wD s.blks.length w.heap.size) (by
    have:=hI1.aIA;simpa using this)
   have hI2:=hI1.aAt (.loop {state:= .ready,pending:=none,fn,tmps:=a.tmps,params:=ps,assign,body,defers:=w.heap.size})
    (.loop {st:= .ready,pend:=none,env:=fr.env,dq:=s.blks.length,params:=ps.toList,assign:=a_,body:=bd}) ?_
   ·refine⟨w.heap.size+1,_,_,_,run_enterLoop_outer fn a.tmps ps assign body,hle1.trans hle2,?_,?_,?_⟩
    ·simpa using hI2
    ·simp [oZ]
    ·exact .cons ⟨w.heap.size,rfl,hle2.L _ _ oZ⟩ .nil
   ·refine⟨_,rfl,trivial,trivial,?_,rfl,?_,⟨h,ha,?_⟩,⟨h,hb,?_⟩,?_,hfn⟩
    ·have h2:=hEn (hle1.trans hle2);simpa using h2
    ·simpa [hsz] using hps
    ·simpa [hsz] using hao
    ·simpa [hsz] using hbo
    ·have:=hle2.L _ _ (oZ (G:=G) (l:=s.blks.length) (b:=w.heap.size));simpa using this
 |some r=>
  cases rb with
  |none=>exact hrd.elim
  |some b=>
   simp only [qC] at hl;split at hl
   ·rename_i lp hlp;cases hl;obtain⟨o,ho,hok⟩:=hI.at hrd hlp;obtain⟨L0,rfl,hL0⟩:=hok;have hle1:G.le (G.wD s.blks.length w.heap.size):=Gh.uK hI.aIA;have hI1:=hI.aAt (.loop {state:= .ready,pending:=none,fn,tmps:=a.tmps,params:=ps,assign,body,defers:=L0.defers})
     (.loop {st:= .ready,pend:=none,env:=fr.env,dq:=lp.dq,params:=ps.toList,assign:=a_,body:=bd}) ?_
    ·exact⟨w.heap.size,_,_,_,aAG ho fn a.tmps ps assign body,hle1,hI1,oZ,.nil⟩
    ·refine⟨_,rfl,trivial,trivial,hEn hle1,rfl,?_,⟨h,ha,?_⟩,⟨h,hb,?_⟩,hle1.L _ _ hL0.dq,hfn⟩
     ·simpa [hsz] using hps
     ·simpa [hsz] using hao
     ·simpa [hsz] using hbo
   ·cases hl
theorem Inv.dW(hI:Inv P B G s w){l b:Nat}(hL:G.L l=some b){lp lp':uT}(hb:s.blks[l]?=some (.loop lp)){L L':Loop}(ho:w.heap[b]?=some (.loop L))(hk:aCB P G lp' L'):
  Inv P B G {s with blks:=s.blks.set l (.loop lp')} (w.putObj b<|.loop L'):=
 hI.put hL ⟨L',rfl,hk⟩ fun j x hx=>by
  have:=hI.m b j x hx;simp [World.cell?,ho] at this
theorem aFn.uE{ex:cY}{e:Exit}(h:aFn G ex e)(hn:ex= .normal):e= .normal:=by
 subst hn;cases e<;>first|rfl|exact h.elim
theorem aFn.yL{ex:cY}{e:Exit}(h:aFn G ex e)(hn:ex≠ .normal):e≠ .normal:=by
 rintro rfl;cases ex<;>first|exact hn rfl|exact h.elim
theorem uY{K:Act→World→Prop}{Q:Exit→Act→World→Prop}{e:Exit}{a:Act}{w:World}(hn:e≠ .normal)(h:Q e a w):Exit.then K Q e a w:=by
 cases e<;>first|exact absurd rfl hn|exact h
theorem aDs{a:Act}{g:Operand}{fn:Fn}{fa fb:Array Value}(hv:a.eval g= .func fn fa fb){bl:Nat}(w:World):
  (resolve a.eval (rangeCall g bl) 0).run P w= .ok {target:= .fn fn fb,args:=fa++ #[.func (.yield bl) #[] #[]]} w:=by
 have h:=pA (P:=P) (ρ:=a.eval) (c:=rangeCall g bl) rfl hv 0 w;have h1:(rangeCall g bl).args.map a.eval= #[.func (.yield bl) #[] #[]]:=by simp [rangeCall,Act.eval]
 rw [h1] at h;exact h
theorem aEz(hP:POk P P')(hH:HOk P P' H){lf:Nat}{rd rb:Option Nat}: ∀(code:Code){c:AC}{nt:Nat}{B:Bs}{G:Gh}{fr:Fr}{s:ASt}{a:Act}{w:World}{r:CR},
  dV P h code=some c→nQ nt rb.isSome c=true→evC H P' rd lf c fr s=some r→
  Inv P B G s w→jE G nt fr.env a.tmps→g8 P' G→pQ G fr.ds a.defers→aL8 G rd rb→code.wpIn (FR P rb) 0 P (CQ P B nt G r.ex r.fr r.s) a w:=by
 intro code
 induction code with
 |skip=>
  intro c nt B G fr s a w r hk hok hev hI hE hG hD hR;simp only [dV,Option.some.injEq] at hk;subst hk;simp only [evC,Option.some.injEq] at hev;subst hev;exact wpIn_skip ⟨G,.refl _,hI,hE,hD,trivial⟩
 |label l=>
  intro c nt B G fr s a w r hk hok hev hI hE hG hD hR;simp only [dV,Option.some.injEq] at hk;subst hk;simp only [evC,Option.some.injEq] at hev;subst hev;exact wpIn_label ⟨G,.refl _,hI,hE,hD,trivial⟩
 |ret=>
  intro c nt B G fr s a w r hk hok hev hI hE hG hD hR;simp only [dV,Option.some.injEq] at hk;subst hk;simp only [evC,Option.some.injEq] at hev;subst hev;exact wpIn_ret ⟨G,.refl _,hI,hE,hD,trivial⟩
 |exit id=>
  intro c nt B G fr s a w r hk hok hev hI hE hG hD hR;simp only [dV,Option.some.injEq] at hk;subst hk;simp only [evC,Option.some.injEq] at hev;subst hev;exact wpIn_exit ⟨G,.refl _,hI,hE,hD,rfl⟩
 |goto l=>intro c nt B G fr s a w r hk;simp [dV] at hk
 |refuse y=>intro c nt B G fr s a w r hk;simp [dV] at hk
 |scope b ih=>
  intro c nt B G fr s a w r hk hok hev hI hE hG hD hR;simp only [dV,Option.map_eq_some_iff] at hk;obtain⟨cb,hb,rfl⟩:=hk;simp only [evC] at hev;simp only [nQ] at hok;refine aI8 (fun l a w hq=> ?_)<|ih hb hok hev hI hE hG hD hR;obtain⟨_,_,_,_,_,hX⟩:=hq;cases hx:r.ex<;>rw [hx] at hX<;>exact hX.elim
 |region id all draw=>
  intro c nt B G fr s a w r hk hok hev hI hE hG hD hR;have hk':=hk;simp only [dV] at hk';split at hk'
  ·cases hk'
  simp only [Option.map_eq_some_iff] at hk';obtain⟨ops,_,rfl⟩:=hk';have hi:RI P B P' nt [] fr s a w G B:=⟨.refl _,hI,.nil,hE,hG,hD⟩
  simp only [evC] at hev;split at hev
  ·rename_i fr' s' hr;cases hev;exact aDv hP.mixed hH hP.wW hk hok hi hr
  ·rename_i v fr' s' hr;cases hev;exact aDv hP.mixed hH hP.wW hk hok hi hr
  ·cases hev
 |seq x y ihx ihy=>
  intro c nt B G fr s a w r hk hok hev hI hE hG hD hR;simp only [dV] at hk;split at hk
  ·rename_i cx cy hx hy;cases hk;simp only [nQ,Bool.and_eq_true] at hok;simp only [evC] at hev;cases hr1:evC H P' rd lf cx fr s with
   |none=>rw [hr1] at hev;cases hev
   |some r1=>
    rw [hr1] at hev;simp only at hev;refine wpIn_seq<|wpIn_mono (ihx hx hok.1 hr1 hI hE hG hD hR) fun e a1 w1 hq=> ?_;obtain⟨G1,hle,hI1,hE1,hD1,hX⟩:=hq;by_cases hn:r1.ex= .normal
    ·have he:=hX.uE hn;subst he;rw [hn] at hev;exact wpIn_mono (ihy hy hok.2 hev hI1 hE1 (hG.mono hle) hD1<|hR.mono hle) fun e a w h=>h.le hle
    ·refine uY (hX.yL hn) ?_;have:r1=r:=by
      revert hev
      cases hq:r1.ex with
      |normal=>exact absurd hq hn
      |_=>simp
     subst this;exact⟨G1,hle,hI1,hE1,hD1,hX⟩
  ·cases hk
 |cond co x y ihx ihy=>
  intro c nt B G fr s a w r hk hok hev hI hE hG hD hR;simp only [dV] at hk;split at hk
  ·rename_i ac cx cy hc hx hy;cases hk;simp only [nQ,Bool.and_eq_true] at hok;simp only [evC] at hev;have hro:=(vX hE hG).out _ _ hc;split at hev
   ·rename_i b hb;rw [hb] at hro;generalize hv:a.eval co=v at hro;cases hro;cases b with
    |true=>exact wpIn_cond_true hv (ihx hx hok.1 hev hI hE hG hD hR)
    |false=>exact wpIn_cond_false hv (ihy hy hok.2 hev hI hE hG hD hR)
   ·cases hev
  ·cases hk
 |block id b ih=>
  intro c nt B G fr s a w r hk hok hev hI hE hG hD hR;simp only [dV,Option.map_eq_some_iff] at hk;obtain⟨cb,hb,rfl⟩:=hk;simp only [nQ] at hok;simp only [evC] at hev;cases hr1:evC H P' rd lf cb fr s with
  |none=>rw [hr1] at hev;cases hev
  |some r1=>
   rw [hr1] at hev;simp only at hev;refine wpIn_block<|wpIn_mono (ih hb hok hr1 hI hE hG hD hR) fun e a1 w1 hq=> ?_;obtain⟨G1,hle,hI1,hE1,hD1,hX⟩:=hq
   revert hev hX
   cases hex:r1.ex with
   |exit j=>
    simp only;intro hev hX;cases e<;>first|exact hX.elim|skip
    rename_i j';have hjj:j=j':=hX;subst hjj;cases hj:Nat.beq j id with
    |true=>
     rw [hj] at hev;cases hev;have:=Nat.eq_of_beq_eq_true hj;simp only [Exit.inBlock,this,if_true];exact⟨G1,hle,hI1,hE1,hD1,trivial⟩
    |false=>
     rw [hj] at hev;cases hev;have:j≠id:=fun q=>by subst q;simp at hj
     simp only [Exit.inBlock,this,if_false];exact⟨G1,hle,hI1,hE1,hD1,by rw [hex];rfl⟩
   |normal=>
    simp only [Option.some.injEq]
    rintro rfl hX
    cases e<;>first|exact hX.elim|skip
    exact⟨G1,hle,hI1,hE1,hD1,by rw [hex];exact hX⟩
   |ret=>
    simp only [Option.some.injEq]
    rintro rfl hX
    cases e<;>first|exact hX.elim|skip
    exact⟨G1,hle,hI1,hE1,hD1,by rw [hex];exact hX⟩
   |panic v=>
    simp only [Option.some.injEq]
    rintro rfl hX
    cases e<;>first|exact hX.elim|skip
    exact⟨G1,hle,hI1,hE1,hD1,by rw [hex];exact hX⟩
 |loop b ih=>
  intro c nt B G fr s a w r hk hok hev hI hE hG hD hR;simp only [dV,Option.map_eq_some_iff] at hk;obtain⟨cb,hb,rfl⟩:=hk;simp only [nQ] at hok;simp only [evC] at hev;refine wpIn_loop_rounds lf ?_;have key: ∀(n:Nat){G1:Gh}{fr:Fr}{s:ASt}{a:Act}{w:World},G.le G1→mU (evC H P' rd lf cb) n fr s=some r→Inv P B G1 s w→jE G1 nt fr.env a.tmps→pQ G1 fr.ds a.defers→
    Code.roundsIn (FR P rb) 0 P b (CQ P B nt G r.ex r.fr r.s) n a w:=by
   intro n
   induction n with
   |zero=>intro G1 fr s a w _ hev;simp [mU] at hev
   |succ n ihn=>
    intro G1 fr s a w hle hev hI hE hD;simp only [mU] at hev;cases hr1:evC H P' rd lf cb fr s with
    |none=>rw [hr1] at hev;cases hev
    |some r1=>
     rw [hr1] at hev;simp only at hev;rw [roundsIn_succ];refine wpIn_mono (ih hb hok hr1 hI hE (hG.mono hle) hD<|hR.mono hle) fun e a1 w1 hq=> ?_;obtain⟨G2,hle2,hI2,hE2,hD2,hX⟩:=hq;by_cases hn:r1.ex= .normal
     ·have he:=hX.uE hn;subst he;rw [hn] at hev;exact ihn (hle.trans hle2) hev hI2 hE2 hD2
     ·refine uY (hX.yL hn) ?_;have:r1=r:=by
       revert hev
       cases hq:r1.ex with
       |normal=>exact absurd hq hn
       |_=>simp
      subst this;exact⟨G2,hle.trans hle2,hI2,hE2,hD2,hX⟩
  exact key lf (.refl _) hev hI hE hD
 |rangeFunc g ps a_ bd iha ihb=>
  intro c nt B G fr s a w r hk hok hev hI hE hG hD hR;simp only [dV] at hk;split at hk
  ·rename_i cg ca cb hg ha hb;cases hk;simp only [nQ,Bool.and_eq_true] at hok;simp only [evC] at hev;split at hev
   ·rename_i l mk s1 gf x y hlay hfv;split at hev
    ·
     rename_i v s2 hbody hcall;split at hev
     ·rename_i lp hlp;refine wpIn_rangeFunc fun fn hfnv=> ?_;obtain⟨bl,mark,w1,G1,hrun,hle1,hI1,hL1,hD1⟩:=aCx hI hE hR hok.1.1 ha hok.1.2 hb hok.2 hlay fn hfnv;have hrf:=((vX hE hG).out _ _ hg).mono hle1;rw [hfv] at hrf;generalize hxv:a.eval g=xv at hrf;cases hrf with
      | @func _ _ _ fa fb hfa hfb=>
      have hargs:R G1 (.l (x++ .yield l::y) (fa++ .func (.yield bl) #[] #[]::fb)):=hfa.pK (.fR (.yield hL1) hfb);obtain⟨n,w1',hn1,hn2⟩:=hH.func gf _ _ _ _ hcall B G1 w1 _ hI1 (hG.mono hle1) hargs;simp only [zD,Bool.and_eq_true,Option.isSome_iff_exists] at hbody;obtain⟨af,haf⟩:=hbody.2;obtain⟨gfn,gh,hgf,hgc,_,hgn⟩:=hP.fn gf af haf;obtain⟨gc,hgb,_⟩:=yC hgc;rw [kB hgf hgb hgn] at hn1;cases hn1;refine⟨bl,mark,w1,{target:= .fn (.func gf) fb.toArray,args:=fa.toArray++ #[.func (.yield bl) #[] #[]]},w1,gf,(fa++ .func (.yield bl) #[] #[]::fb).toArray,w1,hrun,?_,(by intro f' hf';simp only [Target.leads,Option.some.injEq] at hf';subst hf';exact⟨_,hgf⟩),?_,by simp [FR,FV],aCe<|hn2.mono ?_⟩
      ·exact aDs hxv w1
      ·have:=kB hgf hgb hgn ((fa++ .func (.yield bl) #[] #[]::fb).toArray) w1;simpa [invoke] using this
      ·rintro e w2 ⟨G2,hle2,hI2,hres⟩
       cases e with
       |panicked chain=>exact hres.elim
       |outgrown=>exact hres.elim
       |returned xr=>
        have hL2:=hle2.L _ _ hL1;obtain⟨o,ho,hok2⟩:=hI2.at hL2 hlp;obtain⟨L,rfl,hLk⟩:=hok2;have hnb:L.state≠ .busy:=by
         intro hq;have:=hLk.st;rw [hq] at this
         revert hev
         cases hst:lp.st with
         |busy=>simp
         |_=>rw [hst] at this;exact this.elim
        have hI3:=hI2.dW (lp':={lp with st:= .exhausted}) (L':={L with state:= .exhausted}) hL2 hlp ho ⟨trivial,hLk.pend,hLk.env,hLk.params,hLk.pok,hLk.assign,hLk.body,hLk.dq,hLk.aIx⟩;refine⟨L.pending,_,run_endLoop ho hnb,?_⟩;have hr:r=⟨lp.pend.getD .normal,{fr with ds:=mk++fr.ds},{s2 with blks:=s2.blks.set l (.loop {lp with st:= .exhausted})}⟩:=by
         revert hev
         cases hst:lp.st with
         |busy=>simp
         |_=>simp only [Option.some.injEq];exact fun q=>q.symm
        subst hr;have hDs: ∀{a_ ds as' ds'},pQ G2 a_ ds→pQ G2 as' ds'→pQ G2 (a_++as') (ds++ds'):=by
         intro a_ ds as' ds' h1 h2
         induction h1 with
         |nil=>exact h2
         |cons h _ ih=>exact .cons h ih
        have hD3:pQ G2 (mk++fr.ds) (mark++a.defers):=hDs (hD1.mono hle2) (hD.mono<|hle1.trans hle2);have hE3:=hE.mono (hle1.trans hle2);have hp:=hLk.pend;cases hpa:lp.pend with
        |none=>
         rw [hpa] at hp hI3;cases hpl:L.pending with
         |some j=>rw [hpl] at hp;exact hp.elim
         |none=>rw [hpl] at hI3;exact⟨G2,hle1.trans hle2,hI3,hE3,hD3,trivial⟩
        |some ex=>
         rw [hpa] at hp hI3;cases hpl:L.pending with
         |none=>rw [hpl] at hp;cases ex<;>exact hp.elim
         |some j=>
          rw [hpl] at hp hI3;cases ex with
          |ret=>
           cases j<;>first|exact hp.elim|skip
           exact wpIn_ret ⟨G2,hle1.trans hle2,hI3,hE3,hD3,trivial⟩
          |exit i=>
           cases j<;>first|exact hp.elim|skip
           exact wpIn_exit ⟨G2,hle1.trans hle2,hI3,hE3,hD3,hp⟩
          |normal=>exact hp.elim
          |panic v=>exact hp.elim
     ·cases hev
    ·
     rename_i v s2 hbody hcall;cases hev;refine wpIn_rangeFunc fun fn hfnv=> ?_;obtain⟨bl,mark,w1,G1,hrun,hle1,hI1,hL1,hD1⟩:=aCx hI hE hR hok.1.1 ha hok.1.2 hb hok.2 hlay fn hfnv;have hrf:=((vX hE hG).out _ _ hg).mono hle1;rw [hfv] at hrf;generalize hxv:a.eval g=xv at hrf;cases hrf with
     | @func _ _ _ fa fb hfa hfb=>
     have hargs:R G1 (.l (x++ .yield l::y) (fa++ .func (.yield bl) #[] #[]::fb)):=hfa.pK (.fR (.yield hL1) hfb);obtain⟨n,w1',hn1,hn2⟩:=hH.func gf _ _ _ _ hcall B G1 w1 _ hI1 (hG.mono hle1) hargs;simp only [zD,Bool.and_eq_true,Option.isSome_iff_exists] at hbody;obtain⟨af,haf⟩:=hbody.2;obtain⟨gfn,gh,hgf,hgc,_,hgn⟩:=hP.fn gf af haf;obtain⟨gc,hgb,_⟩:=yC hgc;rw [kB hgf hgb hgn] at hn1;cases hn1;refine⟨bl,mark,w1,{target:= .fn (.func gf) fb.toArray,args:=fa.toArray++ #[.func (.yield bl) #[] #[]]},w1,gf,(fa++ .func (.yield bl) #[] #[]::fb).toArray,w1,hrun,?_,(by intro f' hf';simp only [Target.leads,Option.some.injEq] at hf';subst hf';exact⟨_,hgf⟩),?_,by simp [FR,FV],aCe<|hn2.mono ?_⟩
     ·exact aDs hxv w1
     ·have:=kB hgf hgb hgn ((fa++ .func (.yield bl) #[] #[]::fb).toArray) w1;simpa [invoke] using this
     ·rintro e w2 ⟨G2,hle2,hI2,hres⟩
      cases e with
      |returned v=>exact hres.elim
      |outgrown=>exact hres.elim
      |panicked chain=>
       have hDs: ∀{a_ ds as' ds'},pQ G2 a_ ds→pQ G2 as' ds'→pQ G2 (a_++as') (ds++ds'):=by
        intro a_ ds as' ds' h1 h2
        induction h1 with
        |nil=>exact h2
        |cons h _ ih=>exact .cons h ih
       exact⟨G2,hle1.trans hle2,hI2,hE.mono<|hle1.trans hle2,hDs (hD1.mono hle2)<|hD.mono<|hle1.trans hle2,hres⟩
    ·cases hev
   ·cases hev
  ·cases hk
end
def Gh.rN(n:Nat)(G:Gh):Gh:=⟨G.M,fun l=>if l<n then G.L l else none,G.H⟩
def Gh.oE(n:Nat)(G:Gh):Gh:=⟨G.M,G.L,fun t m=>if t<n then G.H t m else none⟩
def fT(n:Nat):Sh→Bool
 | .v a _=>iK n a
 | .l a_ _=>gM n a_
 | .k a_ _=>gM n a_
 | .c a _=>iK n a
 | .r _ a_ _ _=>gM n a_
def hZ(n:Nat):Sh→Bool
 | .v a _=>jJ n a
 | .l a_ _=>gH n a_
 | .k a_ _=>gH n a_
 | .c a _=>jJ n a
 | .r _ a_ _ _=>gH n a_
theorem R.rN{G:Gh}{n:Nat}{sh:Sh}(r:R G sh)(h:fT n sh=true):R (G.rN n) sh:=by
 have hL: ∀{l b:Nat},Nat.blt l n=true→G.L l=some b→(G.rN n).L l=some b:=fun hl hb=>by
  simp only [Nat.blt_eq] at hl;simp [Gh.rN,hl,hb]
 have hO: ∀{o A sz m c},n7 G o A sz m c→n7 (G.rN n) o A sz m c:=by
  intro o A sz m c ho;cases o<;>exact ho
 induction r with
 |int h'=>exact .int h'
 |bool b=>exact .bool b
 |str s hs=>exact .str s hs
 |cK hm ho=>exact .cK hm (hO ho)
 |dA hc hm _ ho ih=>exact .dA hc hm (ih (by simpa [fT,iK] using h)) (hO ho)
 |ms hL' hc hm=>exact .ms (hL (by simpa [fT,iK] using h) hL') hc hm
 |agg _ ih=>exact .agg (ih (by simpa [fT,iK] using h))
 |tuple _ ih=>exact .tuple (ih (by simpa [fT,iK] using h))
 |dO=>exact .dO
 |ptr off hL'=>exact .ptr off (hL (by simpa [fT,iK] using h) hL')
 |aF off _ hM ih=>exact .aF off (ih (by simpa [fT,iK] using h)) hM
 |func _ _ ha hb=>simp only [fT,iK,Bool.and_eq_true] at h;exact .func (ha h.1) (hb h.2)
 |cZ=>exact .cZ
 |yield hL'=>exact .yield (hL (by simpa [fT,iK] using h) hL')
 |map hL'=>exact .map (hL (by simpa [fT,iK] using h) hL')
 |dX=>exact .dX
 |iface _ ih=>exact .iface (ih (by simpa [fT,iK] using h))
 |bU=>exact .bU
 |iter hL'=>exact .iter (hL (by simpa [fT,iK] using h) hL')
 |lU x=>exact .lU x
 |rE=>exact .rE
 |fR _ _ h1 h2=>simp only [fT,gM,Bool.and_eq_true] at h;exact .fR (h1 h.1) (h2 h.2)
 |gN=>exact .gN
 |cJ _ hc _ h1 h2=>simp only [fT,gM,Bool.and_eq_true] at h;exact .cJ (h1 h.1) hc (h2 h.2)
 |tQ _ ih=>exact .tQ (ih (by simpa [fT,iK] using h))
 |vO ha h1 _ ih=>exact .vO ha h1 (ih h)
 |w6 sz b o=>exact .w6 sz b o
 |l9 _ hl hM _ h1 h2=>simp only [fT,gM,Bool.and_eq_true] at h;exact .l9 (h1 h.1) hl hM (h2 h.2)
theorem R.oE{G:Gh}{n:Nat}{sh:Sh}(r:R G sh)(h:hZ n sh=true):R (G.oE n) sh:=by
 have hO: ∀{xs:List AV} {o A sz m c},jJ n (.slice sz xs o)=true→n7 G o A sz m c→n7 (G.oE n) o A sz m c:=by
  intro xs o A sz m c hb ho;cases o with
  |no=>trivial
  |full=>exact ho
  |tok t=>
   simp only [jJ,Bool.and_eq_true,Nat.blt_eq] at hb;obtain⟨b,h1,h2⟩:=ho;exact⟨b,h1,by simp [Gh.oE,hb.1,h2]⟩
 induction r with
 |int h'=>exact .int h'
 |bool b=>exact .bool b
 |str s hs=>exact .str s hs
 |cK hm ho=>exact .cK hm (hO h ho)
 |dA hc hm _ ho ih=>
  refine .dA hc hm (ih ?_) (hO h ho);simp only [hZ,jJ,Bool.and_eq_true] at h⊢;exact h.2
 |ms hL' hc hm=>exact .ms hL' hc hm
 |agg _ ih=>exact .agg (ih (by simpa [hZ,jJ] using h))
 |tuple _ ih=>exact .tuple (ih (by simpa [hZ,jJ] using h))
 |dO=>exact .dO
 |ptr off hL'=>exact .ptr off hL'
 |aF off _ hM ih=>exact .aF off (ih (by simpa [hZ,jJ] using h)) hM
 |func _ _ ha hb=>simp only [hZ,jJ,Bool.and_eq_true] at h;exact .func (ha h.1) (hb h.2)
 |cZ=>exact .cZ
 |yield hL'=>exact .yield hL'
 |map hL'=>exact .map hL'
 |dX=>exact .dX
 |iface _ ih=>exact .iface (ih (by simpa [hZ,jJ] using h))
 |bU=>exact .bU
 |iter hL'=>exact .iter hL'
 |lU x=>exact .lU x
 |rE=>exact .rE
 |fR _ _ h1 h2=>simp only [hZ,gH,Bool.and_eq_true] at h;exact .fR (h1 h.1) (h2 h.2)
 |gN=>exact .gN
 |cJ _ hc _ h1 h2=>simp only [hZ,gH,Bool.and_eq_true] at h;exact .cJ (h1 h.1) hc (h2 h.2)
 |tQ _ ih=>exact .tQ (ih (by simpa [hZ,jJ] using h))
 |vO ha h1 _ ih=>exact .vO ha h1 (ih h)
 |w6 sz b o=>exact .w6 sz b o
 |l9 _ hl hM _ h1 h2=>simp only [hZ,gH,Bool.and_eq_true] at h;exact .l9 (h1 h.1) hl hM (h2 h.2)
theorem R.iK{G:Gh}{n:Nat}(hn: ∀l b,G.L l=some b→l<n){sh:Sh}(r:R G sh):fT n sh=true:=by
 induction r with
 |ms hL' hc hm=>simpa [fT,Fw.iK] using hn _ _ hL'
 |ptr off hL'=>simpa [fT,Fw.iK] using hn _ _ hL'
 |yield hL'=>simpa [fT,Fw.iK] using hn _ _ hL'
 |map hL'=>simpa [fT,Fw.iK] using hn _ _ hL'
 |iter hL'=>simpa [fT,Fw.iK] using hn _ _ hL'
 |func _ _ ha hb=>simp only [fT,Fw.iK,Bool.and_eq_true] at*;exact⟨ha,hb⟩
 |fR _ _ h1 h2=>simp only [fT,gM,Bool.and_eq_true] at*;exact⟨h1,h2⟩
 |cJ _ hc _ h1 h2=>simp only [fT,gM,Bool.and_eq_true] at*;exact⟨h1,h2⟩
 |l9 _ hl hM _ h1 h2=>simp only [fT,gM,Bool.and_eq_true] at*;exact⟨h1,h2⟩
 |vO ha h1 _ ih=>exact ih
 |dA hc hm _ ho ih=>simpa [fT,Fw.iK] using ih
 |agg _ ih=>simpa [fT,Fw.iK] using ih
 |tuple _ ih=>simpa [fT,Fw.iK] using ih
 |aF off _ hM ih=>simpa [fT,Fw.iK] using ih
 |iface _ ih=>simpa [fT,Fw.iK] using ih
 |tQ _ ih=>simpa [fT,Fw.iK] using ih
 |_=>rfl
theorem R.jJ{G:Gh}{n:Nat}(hn: ∀t m x,G.H t m=some x→t<n){sh:Sh}(r:R G sh):hZ n sh=true:=by
 have hO: ∀{o A sz m c},n7 G o A sz m c→(match o with| .tok t=>Nat.blt t n|_=>true)=true:=by
  intro o A sz m c ho;cases o with
  |no=>rfl
  |full=>rfl
  |tok t=>obtain⟨b,_,h2⟩:=ho;simpa using hn _ _ _ h2
 induction r with
 |cK hm ho=>simp only [hZ,Fw.jJ,gH,Bool.and_true];exact hO ho
 |dA hc hm _ ho ih=>simp only [hZ,Fw.jJ,Bool.and_eq_true] at*;exact⟨hO ho,ih⟩
 |func _ _ ha hb=>simp only [hZ,Fw.jJ,Bool.and_eq_true] at*;exact⟨ha,hb⟩
 |fR _ _ h1 h2=>simp only [hZ,gH,Bool.and_eq_true] at*;exact⟨h1,h2⟩
 |cJ _ hc _ h1 h2=>simp only [hZ,gH,Bool.and_eq_true] at*;exact⟨h1,h2⟩
 |l9 _ hl hM _ h1 h2=>simp only [hZ,gH,Bool.and_eq_true] at*;exact⟨h1,h2⟩
 |vO ha h1 _ ih=>exact ih
 |agg _ ih=>simpa [hZ,Fw.jJ] using ih
 |tuple _ ih=>simpa [hZ,Fw.jJ] using ih
 |aF off _ hM ih=>simpa [hZ,Fw.jJ] using ih
 |iface _ ih=>simpa [hZ,Fw.jJ] using ih
 |tQ _ ih=>simpa [hZ,Fw.jJ] using ih
 |_=>rfl
section
variable {P : Program} {B : Bs} {G G3 : Gh} {s s3 : ASt} {w w3 : World}
theorem m8.iK{n b:Nat}{o:Obj}{k:cQ}(hn: ∀l b,G.L l=some b→l<n)(h:m8 P G b o k):aC8 n k:=by
 cases k with
 |cells cs wr=>obtain⟨vs,e,_,h2,_⟩:=h;exact h2.iK hn
 |map es=>
  obtain⟨ents,clock,h1,h2⟩:=h;intro p hp;clear h1
  induction h2 with
  |nil=>cases hp
  |cons hk hv _ ih=>
   rcases List.mem_cons.1 hp with rfl|hp
   ·exact⟨hk.iK hn,hv.iK hn⟩
   ·exact ih hp
 |loop lp=>obtain⟨L,_,h2⟩:=h;exact⟨fun i=>(h2.env i).iK hn,hn _ _ h2.dq⟩
 |_=>trivial
theorem m8.jJ{n b:Nat}{o:Obj}{k:cQ}(hn: ∀t m x,G.H t m=some x→t<n)(h:m8 P G b o k):aDo n k:=by
 cases k with
 |cells cs wr=>obtain⟨vs,e,_,h2,_⟩:=h;exact h2.jJ hn
 |map es=>
  obtain⟨ents,clock,h1,h2⟩:=h;intro p hp;clear h1
  induction h2 with
  |nil=>cases hp
  |cons hk hv _ ih=>
   rcases List.mem_cons.1 hp with rfl|hp
   ·exact⟨hk.jJ hn,hv.jJ hn⟩
   ·exact ih hp
 |loop lp=>obtain⟨L,_,h2⟩:=h;exact fun i=>(h2.env i).jJ hn
 |_=>trivial
theorem m8.rN{n b:Nat}{o:Obj}{k:cQ}(h:m8 P G b o k)(hk:aC8 n k):m8 P (G.rN n) b o k:=by
 cases k with
 |cells cs wr=>obtain⟨vs,e,h1,h2,h3,h4⟩:=h;exact⟨vs,e,h1,h2.rN hk,h3,h4⟩
 |map es=>
  obtain⟨ents,clock,h1,h2⟩:=h;refine⟨ents,clock,h1,?_⟩;clear h1
  induction h2 with
  |nil=>exact .nil
  |cons hk' hv _ ih=>
   have:=hk _ (List.mem_cons_self ..);exact .cons (hk'.rN this.1) (hv.rN this.2) (ih fun p hp=>hk p (List.mem_cons_of_mem _ hp))
 |loop lp=>
  obtain⟨L,h1,h2⟩:=h;refine⟨L,h1,h2.st,h2.pend,fun i=>(h2.env i).rN (hk.1 i),h2.params,h2.pok,h2.assign,h2.body,?_,h2.aIx⟩;simp [Gh.rN,hk.2,h2.dq]
 |iter t pos=>exact h
 |qZ=>exact h
 |dead=>trivial
theorem m8.oE{n b:Nat}{o:Obj}{k:cQ}(h:m8 P G b o k)(hk:aDo n k):m8 P (G.oE n) b o k:=by
 cases k with
 |cells cs wr=>obtain⟨vs,e,h1,h2,h3,h4⟩:=h;exact⟨vs,e,h1,h2.oE hk,h3,h4⟩
 |map es=>
  obtain⟨ents,clock,h1,h2⟩:=h;refine⟨ents,clock,h1,?_⟩;clear h1
  induction h2 with
  |nil=>exact .nil
  |cons hk' hv _ ih=>
   have:=hk _ (List.mem_cons_self ..);exact .cons (hk'.oE this.1) (hv.oE this.2) (ih fun p hp=>hk p (List.mem_cons_of_mem _ hp))
 |loop lp=>
  obtain⟨L,h1,h2⟩:=h;exact⟨L,h1,h2.st,h2.pend,fun i=>(h2.env i).oE (hk i),h2.params,h2.pok,h2.assign,h2.body,h2.dq,h2.aIx⟩
 |iter t pos=>exact h
 |qZ=>exact h
 |dead=>trivial
theorem Inv.rN(h:Inv P B G s w){n:Nat}(hk: ∀(l:Nat)(k:cQ),l<n→s.blks[l]?=some k→aC8 n k):Inv P B (G.rN n) {s with blks:=s.blks.take n} w:=by
 have hL: ∀{l b},(G.rN n).L l=some b→l<n∧G.L l=some b:=by
  intro l b hl;simp only [Gh.rN] at hl;split at hl
  ·exact⟨by assumption,hl⟩
  ·cases hl
 exact{
  os:=h.os,tape:=h.tape,output:=h.output,size:=h.size,pr:=h.pr,prM:=h.prM,m:=h.m
  l:=fun l b hl=>⟨by have:=(h.l l b (hL hl).2).1;have:=(hL hl).1;simp;omega,(h.l l b (hL hl).2).2⟩
  inj:=fun l l' b h1 h2=>h.inj _ _ _ (hL h1).2 (hL h2).2
  blk:=fun l b o k hl ho hk'=>by
   obtain⟨h1,h2⟩:=hL hl;simp only [List.getElem?_take_of_lt h1] at hk';exact(h.blk l b o k h2 ho hk').rN (hk l k h1 hk')
  tok:=fun t m ht=>by
   obtain⟨b,c,sz,k⟩:=h.tok t m ht;exact⟨b,c,sz,k.h,k.np,k.lt,k.blk,k.szp,k.nc,k.cm,k.m,fun l hl=>k.l l (hL hl).2⟩
  lX:=h.lX,hh:=h.hh
  tot:=fun l hl=>by
   have hl':l<n∧l<s.blks.length:=by simp at hl;omega
   obtain⟨b,hb⟩:=h.tot l hl'.2;exact⟨b,by simp [Gh.rN,hl'.1,hb]⟩}
theorem Inv.oE(h:Inv P B G s w){n:Nat}(hk: ∀(l:Nat)(k:cQ),s.blks[l]?=some k→aDo n k):Inv P B (G.oE n) {s with toks:=s.toks.take n} w:=by
 have hH: ∀{t m x},(G.oE n).H t m=some x→t<n∧G.H t m=some x:=by
  intro t m x hx;simp only [Gh.oE] at hx;split at hx
  ·exact⟨by assumption,hx⟩
  ·cases hx
 have ht: ∀{t m:Nat},(s.toks.take n)[t]?=some m→t<n∧s.toks[t]?=some m:=by
  intro t m h1;have hlt:t<n:=by
   have:=(List.getElem?_eq_some_iff.1 h1).1;simp at this;omega
  rw [List.getElem?_take_of_lt hlt] at h1;exact⟨hlt,h1⟩
 exact{
  os:=h.os,tape:=h.tape,output:=h.output,size:=h.size,pr:=h.pr,prM:=h.prM,m:=h.m,l:=h.l,inj:=h.inj
  blk:=fun l b o k hl ho hk'=>(h.blk l b o k hl ho hk').oE (hk l k hk')
  tok:=fun t m h1=>by
   obtain⟨hlt,h2⟩:=ht h1;obtain⟨b,c,sz,k⟩:=h.tok t m h2;exact⟨b,c,sz,by simp [Gh.oE,hlt,k.h],k.np,k.lt,k.blk,k.szp,k.nc,k.cm,k.m,k.l⟩
  lX:=fun t t' m m' b c sz c' sz' h1 h2 h3 h4=>h.lX t t' m m' b c sz c' sz' (ht h1).2 (ht h2).2 (hH h3).2 (hH h4).2
  hh:=fun t m x hx=>by
   obtain⟨h1,h2⟩:=hH hx;obtain⟨m0,h3,h4⟩:=h.hh t m x h2;exact⟨m0,by simp only [List.getElem?_take_of_lt h1];exact h3,h4⟩
  tot:=h.tot}
theorem aFP(hI:Inv P B G s w)(hl:Low (aT s) s3)(hle:G.le G3)(hI3:Inv P B G3 s3 w3)(d:Bool):
  ∃G4,G.le G4∧Inv P B G4 (dE s d s3) w3∧G4.M=G3.M∧G4.H=G3.H∧ ∀sh,R G3 sh→(d=true∨ ∀n,fT n sh=true)→R G4 sh:=by
 unfold dE;split
 ·exact⟨G3,hle,hI3.aDl rfl rfl,rfl,rfl,fun _ h _=>h⟩
 ·split
  ·exact⟨G3,hle,hI3.aDl rfl rfl,rfl,rfl,fun _ h _=>h⟩
  ·rename_i hd;simp only [Bool.or_eq_false_iff] at hd;have hcut:=hI3.rN (n:=s.blks.length) fun l k hln hk=>by
    obtain⟨b,hb⟩:=hI.tot l hln;obtain⟨k0,hk0⟩: ∃k0,s.blks[l]?=some k0:=⟨_,List.getElem?_eq_getElem hln⟩
    obtain⟨o,ho,hok⟩: ∃o,w.heap[b]?=some o∧m8 P G b o k0:=by
     have:=(hI.l l b hb).2.1;exact⟨_,Array.getElem?_eq_getElem this,hI.blk l b _ k0 hb (Array.getElem?_eq_getElem this) hk0⟩
    exact(hl.B _ (Nat.le_refl _) hd.1).2 l k hln hk k0 hk0 (hok.iK fun l b h=>(hI.l l b h).1)
   refine⟨G3.rN s.blks.length,⟨hle.M,fun l b h=> ?_,hle.H⟩,hcut.aDl rfl rfl,rfl,rfl,fun sh h hb=>h.rN ?_⟩
   ·have:=(hI.l l b h).1;simp [Gh.rN,this,hle.L _ _ h]
   ·rcases hb with hb|hb
    ·rw [hd.2] at hb;cases hb
    ·exact hb _
theorem aJl(hI:Inv P B G s w)(hl:Low (aT s) s3){G4:Gh}{s4:ASt}(hle:G.le G4)(hI4:Inv P B G4 s4 w3)(hb4: ∀l,l<s.blks.length→s4.blks[l]?=s3.blks[l]?)(ht4:s4.lowT=s3.lowT){d:Bool}(hc:aBs s d s4=true):
  G.le (G4.oE s.toks.length)∧Inv P B (G4.oE s.toks.length) {s4 with toks:=s4.toks.take s.toks.length} w3:=by
 simp only [aBs,Bool.and_eq_true,Bool.not_eq_true',Bool.or_eq_false_iff] at hc;have hlen:=Nat.eq_of_beq_eq_true hc.1;refine⟨⟨hle.M,hle.L,fun t m x hx=> ?_⟩,hI4.oE fun l k hk=> ?_⟩
 ·obtain⟨m0,h1,_⟩:=hI.hh t m x hx;have:=(List.getElem?_eq_some_iff.1 h1).1;simp [Gh.oE,this,hle.H _ _ _ hx]
 ·have hln:l<s.blks.length:=by
   have:=(List.getElem?_eq_some_iff.1 hk).1;omega
  rw [hb4 l hln] at hk;obtain⟨b,hb⟩:=hI.tot l hln;obtain⟨k0,hk0⟩: ∃k0,s.blks[l]?=some k0:=⟨_,List.getElem?_eq_getElem hln⟩
  obtain⟨o,ho,hok⟩: ∃o,w.heap[b]?=some o∧m8 P G b o k0:=by
   have:=(hI.l l b hb).2.1;exact⟨_,Array.getElem?_eq_getElem this,hI.blk l b _ k0 hb (Array.getElem?_eq_getElem this) hk0⟩
  rw [ht4] at hc;exact(hl.T _ (Nat.le_refl _) hc.2.1).2 _ l k hln hk k0 hk0 (hok.jJ fun t m x hx=>by
   obtain⟨m0,h1,_⟩:=hI.hh t m x hx;exact(List.getElem?_eq_some_iff.1 h1).1)
theorem aMi(hI:Inv P B G s w)(hl:Low (aT s) s3){G4:Gh}{s4:ASt}(hle:G.le G4)(hI4:Inv P B G4 s4 w3)(hb4: ∀l,l<s.blks.length→s4.blks[l]?=s3.blks[l]?)(ht4:s4.lowT=s3.lowT)(d:Bool):
  ∃G5,G.le G5∧Inv P B G5 (eQ s d s4) w3∧ ∀sh,R G4 sh→(d=true∨hZ s.toks.length sh=true)→R G5 sh:=by
 unfold eQ;split
 ·exact⟨G4,hle,hI4.aDl rfl rfl,fun _ h _=>h⟩
 ·split
  ·rename_i hc;obtain⟨h1,h2⟩:=aJl hI hl hle hI4 hb4 ht4 hc;refine⟨_,h1,h2.aDl rfl rfl,fun sh h hb=>h.oE ?_⟩;rcases hb with hb|hb
   ·simp only [aBs,Bool.and_eq_true,Bool.not_eq_true',Bool.or_eq_false_iff] at hc;rw [hc.2.2] at hb;cases hb
   ·exact hb
  ·exact⟨G4,hle,hI4.aDl rfl rfl,fun _ h _=>h⟩
theorem aGK{v:AV}(x:Value):m9 v=true∨ ∀n,fT n (.v v x)=true:=by
 cases h:m9 v with
 |true=>exact .inl rfl
 |false=>exact .inr fun n=>aBM n v h
theorem aGb{v:AV}(x:Value)(n:Nat):toks v=true∨hZ n (.v v x)=true:=by
 cases h:toks v with
 |true=>exact .inl rfl
 |false=>exact .inr (aBI n v h)
theorem aBB(hI:Inv P B G s w)(hl:Low (aT s) s3)(hle:G.le G3)(hI3:Inv P B G3 s3 w3)(d d':Bool):
  ∃G4,G.le G4∧Inv P B G4 (eQ s d' (dE s d s3)) w3∧ ∀sh,R G3 sh→(d=true∨ ∀n,fT n sh=true)→(d'=true∨hZ s.toks.length sh=true)→R G4 sh:=by
 obtain⟨G4,h1,h2,_,_,h3⟩:=aFP hI hl hle hI3 d;obtain⟨_,_,a3,a4,_⟩:=Low.dE (d:=d) hl;obtain⟨G5,k1,k2,k3⟩:=aMi hI hl h1 h2 a4 a3 d';exact⟨G5,k1,k2,fun sh h hb ht=>k3 sh (h3 sh h hb) ht⟩
theorem aIH(hI:Inv P B G s w)(hl:Low (aT s) s3)(hle:G.le G3)(hI3:Inv P B G3 s3 w3){v:AV}{x:Value}(r:R G3 (.v v x)):
  ∃G4,G.le G4∧Inv P B G4 (eQ s (toks v) (dE s (m9 v) s3)) w3∧R G4 (.v v x):=by
 obtain⟨G4,h1,h2,h3⟩:=aBB hI hl hle hI3 (m9 v) (toks v);exact⟨G4,h1,h2,h3 _ r (aGK x) (aGb x _)⟩
theorem R.aFU{G:Gh}{sz:Nat}{xs:List AV}{o:Own}{x:Value}(r:R G (.v (.slice sz xs o) x)):R G (.v (.slice sz xs .no) x):=by
 cases r with
 |cK hm ho=>exact .cK hm trivial
 |dA hc hm hr ho=>exact .dA hc hm hr trivial
theorem R.aKX{G:Gh}{sz:Nat}{xs:List AV}{o:Own}{b off c:Nat}{x:Value}(r:R G (.v (.slice sz xs .no) x))(ho:n7 G o (some ⟨b,off,none⟩) sz xs.length c)(hx:x= .slice (some ⟨b,off,none⟩) xs.length c):R G (.v (.slice sz xs o) x):=by
 cases r with
 |cK hm _=>cases hx;exact .cK hm ho
 |dA hc hm hr _=>cases hx;exact .dA hc hm hr ho
theorem _root_.Go.Fw.R.aO1{G:Gh}{sz:Nat}{xs:List AV}{x:Value}(r:R G (.v (.slice sz xs .no) x)):R G (.v (.slice (szC sz xs) xs .no) x):=by
 cases r with
 |cK hm ho=>exact .cK hm trivial
 |dA hc hm hr ho=>
  cases xs with
  |nil=>exact .cK hm trivial
  |cons y ys=>exact .dA hc hm hr trivial
theorem aKN(hI:Inv P B G s w)(hl:Low (aT s) s3)(hle:G.le G3)(hI3:Inv P B G3 s3 w3){v v':AV}{x:Value}(r:R G3 (.v v x)){s4:ASt}(h:settle s v s3=(v',s4)):
  ∃G4,G.le G4∧Inv P B G4 s4 w3∧R G4 (.v v' x):=by
 have hel: ∀{sz:Nat}{xs:List AV}{o:Own},iO xs=true∨ ∀n,fT n (.v (.slice sz xs o) x)=true:=by
  intro sz xs o;cases q:iO xs with
  |true=>exact .inl rfl
  |false=>exact .inr fun n=>by simpa [fT,iK] using pB n xs q
 have helT: ∀{sz:Nat}{xs:List AV}{n:Nat},kH xs=true∨hZ n (.v (.slice sz xs .no) x)=true:=by
  intro sz xs n;cases q:kH xs with
  |true=>exact .inl rfl
  |false=>exact .inr (by simpa [hZ,jJ] using kY n xs q)
 have hno: ∀{sz:Nat}{xs:List AV}{t:Nat},R G3 (.v (.slice sz xs (.tok t)) x)→ ∃G4,G.le G4∧Inv P B G4 (eQ s (kH xs) (dE s (iO xs) s3)) w3∧R G4 (.v (.slice (szC sz xs) xs .no) x):=by
  intro sz xs t r;obtain⟨G4,h1,h2,h3⟩:=aBB hI hl hle hI3 (iO xs) (kH xs);exact⟨G4,h1,h2,(h3 _ r.aFU hel helT).aO1⟩
 unfold settle at h;split at h
 ·rename_i sz xs t;split at h
  ·rename_i hlt;cases h;obtain⟨G4,h1,h2,h3⟩:=aBB hI hl hle hI3 (iO xs) (kH xs);refine⟨G4,h1,h2,h3 _ r hel ?_⟩;cases q:kH xs with
   |true=>exact .inl rfl
   |false=>
    right
    have hlt':t<s.toks.length:=by simpa using hlt
    simp [hZ,jJ,hlt',kY _ xs q]
  ·rename_i hge0;split at h
   ·rename_i n hc hn;split at h
    ·rename_i hnx;cases h;have hnx:=Nat.eq_of_beq_eq_true hnx;subst hnx;obtain⟨G4,h1,h2,hM4,hH4,h3⟩:=aFP hI hl hle hI3 (iO xs);obtain⟨_,a2,a3,a4,_⟩:=Low.dE (d:=iO xs) hl;obtain⟨k1,k2⟩:=aJl hI hl h1 h2 a4 a3 hc;have r4:=h3 _ r hel;obtain⟨b,c,sz',tk⟩:=hI3.tok t xs.length hn;have htx:kH xs=false:=by
      simp only [aBs,Bool.and_eq_true,Bool.not_eq_true',Bool.or_eq_false_iff] at hc;exact hc.2.2
     have hge:s.toks.length≤t:=by simpa using hge0
     have tk4: ∃b' c' sz2,aPH G4 B.Pr w3 t xs.length b' c' sz2:=h2.tok t xs.length (by rw [a2];exact hn);obtain⟨b',c',sz2,tk4⟩:=tk4;obtain⟨e,cur,hcur,hcs⟩:=tk4.blk;have hnew:=k2.aL2 (t:=s.toks.length) (n:=xs.length) (b:=b') (c:=c') (sz:=sz2) (toks':=(dE s (iO xs) s3).toks.take s.toks.length++ [xs.length])
      (by
       have:((dE s (iO xs) s3).toks.take s.toks.length).length=s.toks.length:=by
        rw [a2];have:=hl.aBe;simp [aT] at this;simp;omega
       rw [List.getElem?_append_right (by omega)];simp [this])
      (fun t' ht'=>by
       have hlen:((dE s (iO xs) s3).toks.take s.toks.length).length=s.toks.length:=by
        rw [a2];have:=hl.aBe;simp [aT] at this;simp;omega
       rcases Nat.lt_or_ge t' s.toks.length with q|q
       ·rw [List.getElem?_append_left (by omega)]
       ·rw [List.getElem?_eq_none (by simp [hlen];omega),List.getElem?_eq_none (by simp only;omega)])
      (fun n0 hn0=>by
       have hlen:((dE s (iO xs) s3).toks.take s.toks.length).length=s.toks.length:=by
        rw [a2];have:=hl.aBe;simp [aT] at this;simp;omega
       simp only at hn0;rw [List.getElem?_eq_none (by omega)] at hn0;cases hn0)
      tk4.np hcur hcs tk4.szp tk4.nc tk4.cm tk4.m tk4.l
      (fun t' n' b2 c2 sz3 hne ht' hH' q=>by
       have hlt':t'<s.toks.length:=by
        have:=(List.getElem?_eq_some_iff.1 ht').1;simp at this;omega
       simp only at ht';rw [List.getElem?_take_of_lt hlt'] at ht';have hH'':G4.H t' n'=some (b2,c2,sz3):=by simpa [Gh.oE,hlt'] using hH'
       have:=h2.lX t' t n' xs.length b2 c2 sz3 c' sz2 ht' (by rw [a2];exact hn) hH'' (by rw [q];exact tk4.h);omega)
     have hleN:(G4.oE s.toks.length).le ((G4.oE s.toks.length).zN s.toks.length xs.length b' c' sz2):=aBJ hnew.1;refine⟨_,k1.trans hleN,(hnew.2.aDl rfl (by simp [a2])),?_⟩;have r5:R (G4.oE s.toks.length) (.v (.slice sz xs .no) x):=(r4.aFU).oE (by simpa [hZ,jJ] using kY _ xs htx);have r6:=r5.mono hleN;have hown: ∀{A c0},n7 G4 (.tok t) A sz xs.length c0→n7 ((G4.oE s.toks.length).zN s.toks.length xs.length b' c' sz2) (.tok s.toks.length) A sz xs.length c0:=by
      rintro A c0 ⟨b2,q1,q2⟩
      have:=tk4.h.symm.trans q2;cases this;exact⟨b',q1,qB⟩
     cases r4 with
     |cK hm ho=>exact .cK hm (hown ho)
     |dA hc' hm hr ho=>exact(r6.aKX (hown ho) rfl)
    ·cases h;exact hno r
   ·cases h;exact hno r
 ·cases h;exact aIH hI hl hle hI3 r
end
def aIq(P:Program)(l:Nat)(R:Ending→World→Prop):Exit→Act→World→Prop
 | .panic chain,a,w=>a.defers= []∧R (.panicked chain) w
 |e,a,w=>roundPost P l R e a w
theorem aAe{P:Program}{l:Nat}{f:FuncId}{tmps:Array Value}{assign body:Code}{w:World}{R:Ending→World→Prop}(hF:(FV P).fn f)
(h:assign.wpIn ((FV P).inRound l) 0 P (Exit.then (fun a₁ w₁=> ∃w₂,(Instr.beginRound l).run P w₁= .ok () w₂∧body.wpIn ((FV P).inRound l) 0 P (aIq P l R) a₁ w₂) (fun _ _ _=>False))
   {tmps:=tmps,defers:= []} w):
  RoundIn (FV P) 0 P l f tmps assign body w R:=by
 refine⟨hF,fun c cs hr=> ?_⟩
 let b:Frame:={(default:Frame) with fn:=f,kind:= .normal,roundOf:=some l}
 have hb0:Frame.round l f tmps assign body .normal=b.atR {tmps:=tmps,defers:= []} [.code assign,.beginRound,.code body]:=by
  simp [Frame.round,Frame.atR,b]
 have hr':((FV P).inRound l).room ((c::cs).length+1+0):=hr;have hF':((FV P).inRound l).fn b.fn:=hF;obtain⟨e,a₁,w₁,hq,harr⟩:=h b [.beginRound,.code body] (c::cs) rfl hF' hr';rw [←hb0] at harr;cases e with
 |normal=>
  obtain⟨w₂,hbr,hbody⟩:=hq;have s1:StepsIn (Machine.fenced P ((FV P).inRound l)) P (lone (b.atR a₁ [.beginRound,.code body]) (c::cs) w₁) (lone (b.atR a₁ [.code body]) (c::cs) w₂):=
   .one (fenced_calm (fr:=b.atR a₁ [.beginRound,.code body]) hF' hr' rfl) (stepR_beginRound rfl hbr)
  obtain⟨e₂,a₂,w₃,hq₂,harr₂⟩:=hbody b [] (c::cs) rfl hF' hr';cases e₂ with
  |normal=>
   obtain⟨v,w₄,hend,hR⟩:=hq₂;exact⟨.returned v,w₄,hR,(StepsIn.trans harr s1).trans (StepsIn.trans harr₂ (.one (fenced_calm (fr:=b.atR a₂ []) hF' hr' rfl) (stepR_round_end rfl rfl hend)))⟩
  |ret=>
   obtain⟨v,w₄,hend,hR⟩:=hq₂;obtain⟨k₁,hs⟩:=harr₂.2 rfl;exact⟨.returned v,w₄,hR,(StepsIn.trans harr s1).trans (StepsIn.trans hs (.one (fenced_calm (fr:=b.atR a₂ (.code .ret::k₁)) hF' hr' rfl) (stepR_round_ret rfl rfl hend)))⟩
  |exit id=>
   obtain⟨v,w₄,hend,hR⟩:=hq₂;obtain⟨k₁,hk,hs⟩:=harr₂.2 rfl rfl;exact⟨.returned v,w₄,hR,(StepsIn.trans harr s1).trans (StepsIn.trans hs (.one (fenced_calm (fr:=b.atR a₂ (.code (.exit id)::k₁)) hF' hr' rfl) (stepR_round_exit rfl rfl hk hend)))⟩
  |goto t=>
   obtain⟨v,w₄,hend,hR⟩:=hq₂;obtain⟨k₁,hk,hs⟩:=harr₂.2 rfl rfl;exact⟨.returned v,w₄,hR,(StepsIn.trans harr s1).trans (StepsIn.trans hs (.one (fenced_calm (fr:=b.atR a₂ (.code (.goto t)::k₁)) hF' hr' rfl) (stepR_round_goto rfl rfl hk hend)))⟩
  |panic chain=>
   obtain⟨hd,hR⟩:=hq₂;obtain⟨todo,hs⟩:=harr₂;obtain⟨fn,hfn⟩:=hF;have hl:({b.atR a₂ todo with mode:= .panicking chain}:Frame).leaving P w₃ (.panicked chain):=⟨rfl,hd,fn,hfn⟩
   exact⟨.panicked chain,w₃,hR,(StepsIn.trans harr s1).trans (StepsIn.trans hs (.one (fenced_leaving (F:=(FV P).inRound l) (n:=0) ⟨fn,hfn⟩ hr' hl) (step_leave_panicked hl)))⟩
  |outgrown=>exact hq₂.elim
 |exit id=>exact hq.elim
 |goto t=>exact hq.elim
 |ret=>exact hq.elim
 |panic chain=>exact hq.elim
 |outgrown=>exact hq.elim
section
variable {P : Program} {B : Bs} {P' : aS} {nt : Nat} {s : ASt} {w : World} {G : Gh} {H : Handler}
theorem yY: ∀{ps:List Nat}{vs:List AV}{xs:List Value}{env:Env}{tmps:Array Value},jE G nt env tmps→R G (.l vs xs)→ps.length=vs.length→ps.all (fun d=>Nat.blt d nt)=true→
  jE G nt (mX env ps vs) ((ps.zip xs).foldl (fun tmps (p:Nat×Value)=>tmps.setIfInBounds p.1 p.2) tmps)
 | [],vs,xs,env,tmps,hE,_,hl,_=>by
  cases vs with
  |nil=>simpa [mX] using hE
  |cons v vs=>simp at hl
 |p::ps,vs,xs,env,tmps,hE,r,hl,hp=>by
  cases vs with
  |nil=>simp at hl
  |cons v vs=>
   cases r with
   | @fR _ x _ xs r1 r2=>
    simp only [List.all_cons,Bool.and_eq_true,Nat.blt_eq] at hp;simp only [mX,List.zip_cons_cons,List.foldl_cons];exact yY (hE.put hp.1 r1) r2 (by simpa using hl) hp.2
theorem pQ.aEB{ds:List Deferred}(h:pQ G [] ds):ds= []:=by cases h;rfl
theorem aLX(hP:POk P P')(hH:HOk P P' H){lf l:Nat}{args:List AV}{r:jM}{s':ASt}(h:nM H P' lf l args s=some (r,s'))(hI:Inv P B G s w)(hG:g8 P' G){xs:List Value}(hr:R G (.l args xs)){b:Nat}(hL:G.L l=some b):
  ∃f tmps a_ bd,(Instr.yield b xs.toArray).run P w= .ok (.round b f tmps a_ bd) w∧RoundIn (FV P) 0 P b f tmps a_ bd w (uR P B G s' r):=by
 unfold nM at h;split at h
 ·rename_i lp hlp;split at h
  ·rename_i hst hlen;split at h
   ·rename_i e1 s1 hev1;split at h
    ·rename_i s2 hs2;split at h
     ·rename_i ex e3 s3 hev3;obtain⟨o,ho,hok⟩:=hI.at hL hlp;obtain⟨L,rfl,hLk⟩:=hok;have hlen':args.length=lp.params.length:=by simpa using hlen
      have hsize:xs.toArray.size=L.params.size:=by
       have:=hLk.params;have h2:=hr.zO;have h3:L.params.toList.length=lp.params.length:=by rw [this]
       simp at h3⊢;omega
      refine⟨_,_,_,_,run_yield ho hsize,?_⟩;obtain⟨ha,hca,hoa⟩:=hLk.assign;obtain⟨hb,hcb,hob⟩:=hLk.body;have hE0:jE G L.tmps.size (mX lp.env lp.params args) ((L.params.zip xs.toArray).foldl (fun tmps (x:Nat×Value)=>tmps.setIfInBounds x.1 x.2) L.tmps):=by
       have:=yY (G:=G) (nt:=L.tmps.size) (env:=lp.env) (tmps:=L.tmps) ⟨rfl,hLk.env⟩ hr hlen'.symm hLk.pok;rw [←hLk.params] at this⊢;rw [←Array.foldl_toList,Array.toList_zip];exact this
      refine aAe hLk.aIx ?_;have hw1:=aEz hP hH (rd:=some l) (rb:=some b) (h:=ha) L.assign hca hoa hev1 (a:={tmps:=(L.params.zip xs.toArray).foldl (fun tmps (x:Nat×Value)=>tmps.setIfInBounds x.1 x.2) L.tmps,defers:= []}) hI hE0 hG .nil hL;refine wpIn_mono hw1 fun e a1 w1 hq=> ?_;obtain⟨G1,hle1,hI1,hE1,hD1,hX⟩:=hq;cases e<;>first|exact hX.elim|skip
      have hd1:=hD1.aEB;show∃w₂,_;have hL1:=hle1.L _ _ hL;unfold iS at hs2;split at hs2
      ·rename_i lp1 hlp1;split at hs2
       ·rename_i hst1;cases hs2;obtain⟨o1,ho1,hok1⟩:=hI1.at hL1 hlp1;obtain⟨L1,rfl,hLk1⟩:=hok1;have hready:L1.state= .ready:=by
         have:=hLk1.st;rw [hst1] at this;cases hq:L1.state<;>rw [hq] at this<;>first|rfl|exact this.elim
        refine⟨_,run_beginRound ho1 hready,?_⟩;have hI2:=hI1.dW (lp':={lp1 with st:= .busy}) (L':={L1 with state:= .busy}) hL1 hlp1 ho1 ⟨trivial,hLk1.pend,hLk1.env,hLk1.params,hLk1.pok,hLk1.assign,hLk1.body,hLk1.dq,hLk1.aIx⟩;have hw3:=aEz hP hH (rd:=some l) (rb:=some b) (h:=hb) L.body hcb hob hev3 (a:=a1) hI2 hE1 (hG.mono hle1) (by rw [hd1];exact .nil) hL1;refine wpIn_mono hw3 fun e2 a2 w2 hq2=> ?_;obtain⟨G3,hle3,hI3,hE3,hD3,hX3⟩:=hq2;have hL3:=hle3.L _ _ hL1;have hfin: ∀{st:LSt}{st':LoopState}{pd:Option cY}{jump:Option Code}{s4:ASt},aRy st st'→aRq pd jump→dW s3 l (fun lp=>{lp with st:=st,pend:=pd})=some s4→(st'=if jump.isNone then .ready else .done)→
          ∃v w',(Instr.endRound b jump).run P w2= .ok v w'∧v= .bool jump.isNone∧Inv P B G3 s4 w':=by
         intro st st' pd jump s4 h1 h2 h3 h4;unfold dW at h3;split at h3
         ·rename_i lp3 hlp3;cases h3;obtain⟨o3,ho3,hok3⟩:=hI3.at hL3 hlp3;obtain⟨L3,rfl,hLk3⟩:=hok3;refine⟨_,_,run_endRound jump ho3,rfl,?_⟩;exact hI3.dW hL3 hlp3 ho3 ⟨h4▸h1,h2,hLk3.env,hLk3.params,hLk3.pok,hLk3.assign,hLk3.body,hLk3.dq,hLk3.aIx⟩
         ·cases h3
        have hle:=hle1.trans hle3;split at h
        ·cases h;cases e2<;>first|exact hX3.elim|skip
         obtain⟨x,hch,hx⟩:=hX3;exact⟨hD3.aEB,G3,hle,hI3,x,hch,hx⟩
        ·split at h
         ·rename_i s4 hs4;cases h;cases e2<;>first|exact hX3.elim|skip
          obtain⟨v,w',q1,q2,q3⟩:=hfin (st:= .ready) (st':= .ready) (pd:=none) (jump:=none) trivial trivial hs4 rfl;subst q2;exact⟨_,w',q1,G3,hle,q3,.bool true⟩
         ·cases h
        ·rename_i hnn hnp;split at h
         ·rename_i s4 hs4;cases h;cases ex with
          |normal=>exact absurd rfl hnp
          |panic v=>exact absurd rfl (hnn v)
          |ret=>
           cases e2<;>first|exact hX3.elim|skip
           obtain⟨v,w',q1,q2,q3⟩:=hfin (st:= .done) (st':= .done) (pd:=some .ret) (jump:=some .ret) trivial trivial hs4 rfl;subst q2;exact⟨_,w',q1,G3,hle,q3,.bool false⟩
          |exit i=>
           cases e2<;>first|exact hX3.elim|skip
           rename_i j;obtain⟨v,w',q1,q2,q3⟩:=hfin (st:= .done) (st':= .done) (pd:=some (.exit i)) (jump:=some (.exit j)) trivial hX3 hs4 rfl;subst q2;exact⟨_,w',q1,G3,hle,q3,.bool false⟩
         ·cases h
       ·cases hs2
      ·cases hs2
     ·cases h
    ·cases h
   ·cases h
  ·cases h
 ·cases h
theorem rF{a:Addr}: ∀{n i:Nat}{acc:Array Value}{y:Array Value}{w w':World},(loadCellsFrom a i n acc).run P w= .ok y w'→w'=w
 |0,i,acc,y,w,w',h=>by simp [loadCellsFrom] at h;exact h.2.symm
 |n+1,i,acc,y,w,w',h=>by
  simp only [loadCellsFrom,Sem.run_bind,run_load] at h;cases hc:w.cell? (a.add i) with
  |none=>
   simp only [hc] at h;cases hf:World.farLoad P w (a.add i) (Mode.plain==Mode.atomic) with
   |ok x=>simp [hf,Result.andThen] at h;exact rF h
   |error x=>simp [hf,Result.andThen] at h
  |some v=>simp [hc,Result.andThen] at h;exact rF h
theorem aIV{t:TypeId}{ag:Bool}(hag:nR P t=some ag){x y:Value}{w':World}(h:(Instr.loadAt t x).run P w= .ok y w'):(do loadVar t (←asAddr x)).run P w= .ok y w∧w'=w:=by
 obtain⟨d,hd⟩:=uM hag;cases x with
 |pointer p=>
  cases p with
  |none=>simp [Instr.loadAt,Instr.sureAddr,stuck] at h
  |some a=>
   have e1:(do loadVar t (←asAddr (.pointer (some a)))).run P w=(Instr.loadAt t (.pointer (some a))).run P w:=by
    simp [Instr.loadAt,Instr.sureAddr,asAddr]
   have e2:w'=w:=by
    simp only [Instr.loadAt,Instr.sureAddr,loadVar,Sem.run_bind,Sem.run_pure,Result.andThen,s6 hag] at h;cases ag with
    |true=>
     simp only [if_true,Sem.run_bind,j7 hd,Result.andThen,loadCells] at h;cases hq:(loadCellsFrom a 0 (P.cellsOf t) #[]).run P w with
     |ok z w2=>
      rw [hq] at h;simp at h;rw [←h.2];exact rF hq
     |halt z w2=>rw [hq] at h;simp at h
    |false=>
     simp only [Bool.false_eq_true,if_false,run_load] at h;cases hc:w.cell? a with
     |none=>
      simp only [hc] at h;cases hf:World.farLoad P w a (Mode.plain==Mode.atomic) with
      |ok x=>simp [hf] at h;exact h.2.symm
      |error x=>simp [hf] at h
     |some v=>simp [hc] at h;exact h.2.symm
   rw [e1,h];exact⟨by rw [e2],e2⟩
 |_=>simp [Instr.loadAt,Instr.sureAddr,stuck] at h
theorem aAk(hI:Inv P B G s w){env:Env}{tmps:Array Value}(hE:jE G nt env tmps): ∀{rs:List ResultVar}{a_:List ARV}{vs:List AV},sE P rs=some a_→jK P' env s a_=some vs→
  ∃xs,(rs.mapM (fun(r:ResultVar)=>(match r with| .tmp t=>pure (tmps.getD t undef)| .cell a t=>do loadVar t (←asAddr (tmps.getD a undef)):Sem Value))).run P w= .ok xs w∧R G (.l vs xs)
 | [],a_,vs,hk,h=>by
  simp [sE] at hk;subst hk;simp [jK] at h;subst h;exact⟨[],rfl,.rE⟩
 | .tmp t::rs,a_,vs,hk,h=>by
  simp only [sE,Option.map_eq_some_iff] at hk;obtain⟨as',h1,rfl⟩:=hk;simp only [jK,aAZ] at h;split at h
  ·rename_i v vs' hv hvs;cases h;cases hv;obtain⟨xs,q1,q2⟩:=aAk hI hE h1 hvs;refine⟨_::xs,?_,.fR (hE.2 t) q2⟩;rw [List.mapM_cons];simp only [Sem.run_bind,Sem.run_pure,Result.andThen_ok,q1]
  ·cases h
 | .cell a t::rs,a_,vs,hk,h=>by
  simp only [sE] at hk;split at hk
  ·rename_i ag as' hag h1;cases hk;simp only [jK,aAZ] at h;split at h
   ·rename_i v vs' hv hvs;cases h;obtain⟨xs,q1,q2⟩:=aAk hI hE h1 hvs;simp only [fS] at hv;obtain⟨x,w',G',hx,hq,hr⟩:=aJ5 hI hag (hE.2 a) hv;obtain⟨k1,k2⟩:=aIV hag hx;subst k2;have hxr:R G (.v v x):=by
     refine R.mono (G:=G') ?_ hr;exact{
      M:=fun b o y hy=>by
       have h2:=hq.new;have h3:=hq.old;rcases Nat.lt_or_ge b w'.heap.size with hb|hb
       ·rw [h3 b hb] at hy;exact hy
       ·have:=h2 b o y hb hy;have:=aJ3 (a:=⟨b,o,none⟩) this;exact absurd this (Nat.not_lt.2 hb)
      L:=fun l b hl=>by rw [hq.L] at hl;exact hl
      H:=fun t n y hy=>by rw [hq.H] at hy;exact hy}
    refine⟨x::xs,?_,.fR hxr q2⟩;rw [List.mapM_cons];rw [Sem.run_bind,k1];simp only [Sem.run_bind,Sem.run_pure,Result.andThen_ok,q1]
   ·cases h
  ·cases hk
theorem aCs(hI:Inv P B G s w){fn:Func}{env:Env}{tmps:Array Value}(hE:jE G nt env tmps){a_:List ARV}{vs:List AV}(hk:sE P fn.results.toList=some a_)(h:jK P' env s a_=some vs)
{v:AV}{s1:ASt}(hv:nE s vs=some (v,s1)): ∃x G',(results fn tmps).run P w= .ok x w∧G.le G'∧Inv P B G' s1 w∧R G' (.v v x):=by
 obtain⟨xs,h1,h2⟩:=aAk hI hE hk h;have hrun:(results fn tmps).run P w= .ok (if h:xs.toArray.size=1 then xs.toArray[0] else .tuple xs.toArray) w:=by
  unfold results;rw [Sem.run_bind,Array.mapM_eq_mapM_toList,Sem.run_map]
  erw [h1]
  rfl
 unfold nE at hv;split at hv
 ·cases hv;cases h2 with
  |fR h3 h4=>
   cases h4;exact⟨_,G,by rw [hrun];rfl,.refl _,hI,h3⟩
 ·cases h2 with
  |fR h3 h4=>
   cases h4;obtain⟨G',q1,q2,q3⟩:=aJt hI h3 hv;exact⟨_,G',by rw [hrun];rfl,q1,q2,q3⟩
 ·rename_i hn1 hn2;split at hv
  ·rename_i ws s2 hf;cases hv;obtain⟨G',q1,q2,q3⟩:=aCz hI h2 hf;have hne: ¬xs.toArray.size=1:=by
    intro hq;have hl:=h2.zO;simp at hq;rw [hq] at hl
    match vs,hl with
    | [v],_=>exact hn2 v rfl
   exact⟨_,G',by rw [hrun,dif_neg hne],q1,q2,.tuple q3⟩
  ·cases hv
theorem aBS{args:List AV}{xs:List Value}(r:R G (.l args xs))(hn:args.length≤nt):jE G nt (gI args) (xs.toArray++Array.replicate (nt-xs.toArray.size) undef):=by
 have hl:=r.zO;refine⟨by simp;omega,fun i=> ?_⟩;unfold gI;have hget:(xs.toArray++Array.replicate (nt-xs.toArray.size) undef).getD i undef=xs.getD i undef:=by
  simp only [Array.getD_eq_getD_getElem?,List.getD_eq_getElem?_getD];rcases Nat.lt_or_ge i xs.length with h|h
  ·rw [Array.getElem?_append_left (by simpa using h)];simp
  ·rw [Array.getElem?_append_right (by simpa using h),List.getElem?_eq_none h];simp only [Array.getElem?_replicate];split<;>rfl
 rw [hget];simp only [List.getD_eq_getElem?_getD];rcases Nat.lt_or_ge i args.length with h|h
 ·obtain⟨x,h1,h2⟩:=r.aPI (List.getElem?_eq_getElem h);rw [h1,List.getElem?_eq_getElem h];exact h2
 ·rw [List.getElem?_eq_none h,List.getElem?_eq_none (by omega)];exact .aEk
end
def mN(G:Gh):RC→FrameMode→Prop
 | .ret,.returning=>True
 | .pan v,.panicking chain=> ∃x,chain= [{v:=x,recovered:=false}]∧R G (.v v x)
 | .aK9,.panicking chain=> ∃x,chain= [{v:=x,recovered:=true}]
 |_,_=>False
theorem mN.mono{G G':Gh}(hG:G.le G'){rc:RC}{u:FrameMode}(h:mN G rc u):mN G' rc u:=by
 cases rc<;>cases u<;>first|exact h|(obtain⟨x,h1,h2⟩:=h;exact⟨x,h1,h2.mono hG⟩)
theorem mN.settle{G:Gh}{rc:RC}{u:FrameMode}(h:mN G rc u):sI G (match rc with| .pan v=>DM.pan v|_=> .ret) (Go.settle u):=by
 cases rc with
 |ret=>cases u<;>first|exact h.elim|trivial
 |pan v=>
  cases u<;>first|exact h.elim|skip
  obtain⟨x,rfl,hx⟩:=h;exact⟨x,rfl,hx⟩
 |aK9=>
  cases u<;>first|exact h.elim|skip
  obtain⟨x,rfl⟩:=h
  trivial
section
variable {P : Program} {B : Bs} {P' : aS} {nt : Nat} {H : Handler} {h : Hint}
def DQ(P:Program)(B:Bs)(nt:Nat)(G:Gh)(c₀:Frame)(cs:List Frame)(ex:cY)(fr:Fr)(rc:RC)(s:ASt)(e:Exit)(a:Act)(cs':List Frame)(w:World):Prop:=
 ∃u G',G.le G'∧Inv P B G' s w∧jE G' nt fr.env a.tmps∧pQ G' fr.ds a.defers∧aFn G' ex e∧cs'={c₀ with mode:=u}::cs∧mN G' rc u
theorem DQ.aR4{G:Gh}{c₀:Frame}{cs:List Frame}{ex:cY}{fr:Fr}{rc:RC}{s:ASt}{e:Exit}{a:Act}{w:World}{u:FrameMode}(hq:CQ P B nt G ex fr s e a w)(hr:mN G rc u):
  DQ P B nt G c₀ cs ex fr rc s e a ({c₀ with mode:=u}::cs) w:=by
 obtain⟨G',h1,h2,h3,h4,h5⟩:=hq;exact⟨u,G',h1,h2,h3,h4,h5,rfl,hr.mono h1⟩
theorem DQ.le{G G1:Gh}{c₀:Frame}{cs:List Frame}{ex:cY}{fr:Fr}{rc:RC}{s:ASt}{e:Exit}{a:Act}{cs':List Frame}{w:World}(hle:G.le G1)(hq:DQ P B nt G1 c₀ cs ex fr rc s e a cs' w):DQ P B nt G c₀ cs ex fr rc s e a cs' w:=by
 obtain⟨u,G',h1,h2⟩:=hq;exact⟨u,G',hle.trans h1,h2⟩
theorem aI7{G:Gh}{rc:RC}{u:FrameMode}(hr:mN G rc u)(c₀:Frame)(cs:List Frame):
  (∃v x u',rc= .pan v∧recoverD ({c₀ with mode:=u}::cs)=some (x,{c₀ with mode:=u'}::cs)∧R G (.v v x)∧mN G .aK9 u')∨((∀v,rc≠ .pan v)∧recoverD ({c₀ with mode:=u}::cs)=none):=by
 cases rc with
 |ret=>cases u<;>first|exact hr.elim|exact .inr ⟨by simp,rfl⟩
 |pan v=>
  cases u<;>first|exact hr.elim|skip
  obtain⟨x,rfl,hx⟩:=hr;exact .inl ⟨v,x,.panicking [{v:=x,recovered:=true}],rfl,rfl,hx,x,rfl⟩
 |aK9=>
  cases u<;>first|exact hr.elim|skip
  obtain⟨x,rfl⟩:=hr;exact .inr ⟨by simp,rfl⟩
theorem aIi{d:Option Nat}{op:Op}(hk:cC P h d op=some .aA3): ∃c,op= .call c∧c.callee= .builtin .recover:=by
 unfold cC at hk;split at hk
 case h_30=>
  rename_i c;split at hk
  ·rename_i b hb;unfold cB at hk;split at hk
   ·exact⟨c,rfl,hb⟩
   all_goals (repeat' split at hk)
   all_goals first|(cases hk;done)|(simp only [Option.map_eq_some_iff,reduceCtorEq,and_false,exists_false] at hk;done)
  ·repeat' split at hk
   all_goals cases hk
  ·cases hk
 all_goals (try unfold jX at hk)
 all_goals (repeat' split at hk)
 all_goals first|(cases hk;done)|(simp only [Option.map_eq_some_iff,reduceCtorEq,and_false,exists_false] at hk;done)
theorem wL(hp: ∀g,cR (P'.gl g)=true){all:Array Oper}{f:Nat→AI}{c₀:Frame}{cs:List Frame}{fr':Fr}{rc':RC}{s':ASt}{G0:Gh}: ∀(l:List Nat),(∀j∈l,∃o,all[j]?=some o∧aF6 P h nt none all o (f j))→
  ∀{fr:Fr}{rc:RC}{s:ASt}{a:Act}{w:World}{G:Gh}{u:FrameMode},qV P' (l.map f) fr rc s=some (fr',rc',s')→Inv P B G s w→jE G nt fr.env a.tmps→g8 P' G→pQ G fr.ds a.defers→mN G rc u→G0.le G→
  wpOpsSIn (FV P) 0 P all (DQ P B nt G0 c₀ cs .normal fr' rc' s') l a ({c₀ with mode:=u}::cs) w
 | [],_,fr,rc,s,a,w,G,u,hev,hI,hE,hG,hD,hR,hle=>by
  simp only [List.map_nil,qV,Option.some.injEq,Prod.mk.injEq] at hev;obtain⟨rfl,rfl,rfl⟩:=hev;exact⟨u,G,hle,hI,hE,hD,trivial,rfl,hR⟩
 |j::l,hl,fr,rc,s,a,w,G,u,hev,hI,hE,hG,hD,hR,hle=>by
  obtain⟨o,ho,hok⟩:=hl j (by simp);have hl': ∀j∈l,∃o,all[j]?=some o∧aF6 P h nt none all o (f j):=fun j hj=>hl j (by simp [hj]);simp only [List.map_cons] at hev;simp only [wpOpsSIn,ho];generalize f j=i at hok hev;obtain⟨d,op,gd,pre⟩:=i;have hcd:=hok.c.d;simp only at hcd;subst hcd;have hd: ∀t,o.dst=some t→t<nt:=fun t ht=>hok.wr t (by simp [eR,ht]);simp only [qV] at hev;split at hev
  ·
   have hw:=oI (fr:=fr) (b:=true) hok.c hE rfl;refine⟨mY (ρ:=a.eval) hok.c (by simp) (by simp) (by simp),?_⟩;rw [if_pos hw];have hk:=hok.c.op.resolve_left (by simp);obtain⟨c,hoc,hcal⟩:=aIi hk;have hrun:(execOp a.eval o).run P w= .ok .recover w:=by
    simp [execOp,hoc,resolve,hcal,invoke,builtin]
   rw [hrun];rcases aI7 hR c₀ cs with ⟨v,x,u',rfl,hrec,hx,hR'⟩|⟨hn,hrec⟩
   ·simp only [hrec];simp only at hev;exact wL hp l hl' hev hI (hE.aPr hd hx) hG (by rw [put_defers];exact hD) hR' hle
   ·simp only [hrec];split at hev
    ·exact absurd rfl (hn _)
    ·exact wL hp l hl' hev hI (hE.aPr hd .bU) hG (by rw [put_defers];exact hD) hR hle
  ·split at hev
   ·rename_i v hwt hv;have hw:=oI (fr:=fr) hok.c hE hwt;refine⟨mY (ρ:=a.eval) hok.c (fun hb=>by simp only at hb;subst hb;simp [bJ] at hv) (fun f xs hb=>by simp only at hb;subst hb;simp [bJ] at hv) (fun st f xs hb=>by simp only at hb;subst hb;simp [bJ] at hv),?_⟩;rw [if_pos hw];rcases hok.c.op with hq|hq
    ·simp only at hq;subst hq;simp [bJ] at hv
    ·obtain⟨x,w',G',hrun,q,r⟩:=aNB hI (vX hE hG) (fun _=>rfl) hq hv;rw [hrun];exact wL hp l hl' hev (q.inv hI) ((hE.mono q.le).aPr hd r) (hG.mono q.le) (by rw [put_defers];exact hD.mono q.le) (hR.mono q.le) (hle.trans q.le)
   ·cases hev
theorem aAc{K:Act→List Frame→World→Prop}{Q:Exit→Act→List Frame→World→Prop}{e:Exit}{a:Act}{cs:List Frame}{w:World}(hn:e≠ .normal)(h:Q e a cs w):Exit.thenS K Q e a cs w:=by
 cases e<;>first|exact absurd rfl hn|exact h
theorem tZ{F:Fence}{n:Nat}{c:Code}{Q Q':Exit→Act→List Frame→World→Prop}{a:Act}{cs:List Frame}{w:World}(h:c.wpSIn F n P Q a cs w)(hq: ∀e a cs w,Q e a cs w→Q' e a cs w):c.wpSIn F n P Q' a cs w:=
 fun b k h1 h2 h3 h4=>let ⟨e,a',cs',w',l,q,r⟩:=h b k h1 h2 h3 h4;⟨e,a',cs',w',l,hq _ _ _ _ q,r⟩
theorem aP3(hP:POk P P')(hH:HOk P P' H){lf:Nat}{c₀:Frame}{cs:List Frame}: ∀(code:Code){c:AC}{G:Gh}{fr fr':Fr}{rc rc':RC}{s s':ASt}{ex:cY}{a:Act}{w:World}{u:FrameMode},
  dV P h code=some c→nQ nt false c=true→evD H P' lf c fr rc s=some (ex,fr',rc',s')→
  Inv P B G s w→jE G nt fr.env a.tmps→g8 P' G→pQ G fr.ds a.defers→mN G rc u→code.wpSIn (FV P) 0 P (DQ P B nt G c₀ cs ex fr' rc' s') a ({c₀ with mode:=u}::cs) w:=by
 intro code;have plain: ∀{code:Code}{c:AC}{G:Gh}{fr fr':Fr}{rc rc':RC}{s s':ASt}{ex:cY}{a:Act}{w:World}{u:FrameMode},dV P h code=some c→nQ nt false c=true→
   (match evC H P' none lf c fr s with|some r=>some (r.ex,r.fr,rc,r.s)|none=>none)=some (ex,fr',rc',s')→
   Inv P B G s w→jE G nt fr.env a.tmps→g8 P' G→pQ G fr.ds a.defers→mN G rc u→code.wpSIn (FV P) 0 P (DQ P B nt G c₀ cs ex fr' rc' s') a ({c₀ with mode:=u}::cs) w:=by
  intro code c G fr fr' rc rc' s s' ex a w u hk hok hev hI hE hG hD hR;split at hev
  ·rename_i r hr;cases hev;refine wpSIn_of_wpIn rfl (wpIn_mono (aEz hP hH (rd:=none) (rb:=none) code hk hok hr hI hE hG hD trivial) fun e a1 w1 hq=> ?_);exact DQ.aR4 hq hR
  ·cases hev
 induction code with
 |region id all draw=>
  intro c G fr fr' rc rc' s s' ex a w u hk hok hev hI hE hG hD hR;have hk':=hk;simp only [dV] at hk';split at hk'
  ·cases hk'
  simp only [Option.map_eq_some_iff] at hk';obtain⟨ops,hops,rfl⟩:=hk';simp only [evD] at hev;split at hev
  ·split at hev
   ·rename_i hev2 _;cases hev;obtain⟨hlen,hck⟩:=xT hops;simp only [nQ,Bool.and_eq_true] at hok;have hall: ∀j,j<all.size→ ∃o ai,all[j]?=some o∧ops[j]?=some ai∧aF6 P h nt none all o ai:=by
     intro j hj;obtain⟨ai,k1,k2,_⟩:=hck j all[j] (by simp [hj]);refine⟨all[j],ai,by simp [hj],k1,⟨k2,?_,fun _ _ _=>rfl,?_⟩⟩
     ·intro t ht;have:=hok.1;simp only [aEd,List.all_eq_true,Bool.and_eq_true] at this;have:=((this ai (List.mem_of_getElem? k1)).1.1) t ht;simpa using this
     ·intro hg;have:=hok.1;simp only [aEd,List.all_eq_true,Bool.and_eq_true] at this;have:=(this ai (List.mem_of_getElem? k1)).2;cases hgd:ai.gd with
      |none=>exact absurd hgd hg
      |some x=>rw [hgd] at this;exact this
    have hf: ∀j ai,ops[j]?=some ai→ops.getD j default=ai:=fun j ai hj=>by simp [List.getD_eq_getElem?_getD,hj]
    have hmap:(List.range all.size).map (fun j=>ops.getD j default)=ops:=by
     apply List.ext_getElem?;intro j;rcases Nat.lt_or_ge j all.size with hj|hj
     ·obtain⟨o,ai,_,k2,_⟩:=hall j hj;simp [hj,k2]
     ·have h1:ops.length≤j:=by rw [hlen];simpa using hj
      rw [List.getElem?_eq_none h1,List.getElem?_eq_none (by simpa using hj)]
    refine wpSIn_region (wL (h:=h) hP.wW (f:=fun j=>ops.getD j default) _ (fun j hj=> ?_) (by rw [hmap];exact hev2) hI hE hG hD hR (.refl _));obtain⟨o,ai,k1,k2,k3⟩:=hall j (by simpa using hj);exact⟨o,k1,by rw [hf j ai k2];exact k3⟩
   ·cases hev
  ·exact plain hk hok hev hI hE hG hD hR
 |seq x y ihx ihy=>
  intro c G fr fr' rc rc' s s' ex a w u hk hok hev hI hE hG hD hR;have hk':=hk;simp only [dV] at hk';split at hk'
  ·rename_i cx cy hx hy;cases hk';simp only [nQ,Bool.and_eq_true] at hok;simp only [evD] at hev;split at hev
   ·rename_i fr1 rc1 s1 h1;refine wpSIn_seq (tZ (ihx hx hok.1 h1 hI hE hG hD hR) fun e a1 cs1 w1 hq=> ?_);obtain⟨u1,G1,hle,hI1,hE1,hD1,hX,rfl,hR1⟩:=hq;have he:=hX.uE rfl;subst he;exact tZ (ihy hy hok.2 hev hI1 hE1 (hG.mono hle) hD1 hR1) fun e a cs w h=>h.le hle
   ·rename_i hnn;refine wpSIn_seq (tZ (ihx hx hok.1 hev hI hE hG hD hR) fun e a1 cs1 w1 hq=> ?_);have hne:ex≠ .normal:=by rintro rfl;exact hnn _ _ _ hev
    obtain⟨u1,G1,hle,hI1,hE1,hD1,hX,rfl,hR1⟩:=hq;exact aAc (hX.yL hne) ⟨u1,G1,hle,hI1,hE1,hD1,hX,rfl,hR1⟩
  ·cases hk'
 |cond co x y ihx ihy=>
  intro c G fr fr' rc rc' s s' ex a w u hk hok hev hI hE hG hD hR;have hk':=hk;simp only [dV] at hk';split at hk'
  ·rename_i ac cx cy hc hx hy;cases hk';simp only [nQ,Bool.and_eq_true] at hok;simp only [evD] at hev;have hro:=(vX hE hG).out _ _ hc;split at hev
   ·rename_i b hb;rw [hb] at hro;generalize hv:a.eval co=v at hro;cases hro;cases b with
    |true=>exact wpSIn_cond hv (ihx hx hok.1 hev hI hE hG hD hR)
    |false=>exact wpSIn_cond hv (ihy hy hok.2 hev hI hE hG hD hR)
   ·cases hev
  ·cases hk'
 |skip=>intro c G fr fr' rc rc' s s' ex a w u hk hok hev hI hE hG hD hR;have hk':=hk;simp only [dV,Option.some.injEq] at hk';subst hk';exact plain hk hok hev hI hE hG hD hR
 |label l=>intro c G fr fr' rc rc' s s' ex a w u hk hok hev hI hE hG hD hR;have hk':=hk;simp only [dV,Option.some.injEq] at hk';subst hk';exact plain hk hok hev hI hE hG hD hR
 |ret=>intro c G fr fr' rc rc' s s' ex a w u hk hok hev hI hE hG hD hR;have hk':=hk;simp only [dV,Option.some.injEq] at hk';subst hk';exact plain hk hok hev hI hE hG hD hR
 |exit id=>intro c G fr fr' rc rc' s s' ex a w u hk hok hev hI hE hG hD hR;have hk':=hk;simp only [dV,Option.some.injEq] at hk';subst hk';exact plain hk hok hev hI hE hG hD hR
 |goto l=>intro c G fr fr' rc rc' s s' ex a w u hk;simp [dV] at hk
 |refuse y=>intro c G fr fr' rc rc' s s' ex a w u hk;simp [dV] at hk
 |scope b ih=>
  intro c G fr fr' rc rc' s s' ex a w u hk hok hev hI hE hG hD hR;have hk':=hk;simp only [dV,Option.map_eq_some_iff] at hk';obtain⟨cb,_,rfl⟩:=hk';exact plain hk hok hev hI hE hG hD hR
 |block id b ih=>
  intro c G fr fr' rc rc' s s' ex a w u hk hok hev hI hE hG hD hR;have hk':=hk;simp only [dV,Option.map_eq_some_iff] at hk';obtain⟨cb,_,rfl⟩:=hk';exact plain hk hok hev hI hE hG hD hR
 |loop b ih=>
  intro c G fr fr' rc rc' s s' ex a w u hk hok hev hI hE hG hD hR;have hk':=hk;simp only [dV,Option.map_eq_some_iff] at hk';obtain⟨cb,_,rfl⟩:=hk';exact plain hk hok hev hI hE hG hD hR
 |rangeFunc g ps a_ bd iha ihb=>
  intro c G fr fr' rc rc' s s' ex a w u hk hok hev hI hE hG hD hR;have hk':=hk;simp only [dV] at hk';split at hk'
  ·cases hk';exact plain hk hok hev hI hE hG hD hR
  ·cases hk'
theorem mN.aOK{G:Gh}{m:DM}{u:FrameMode}(h:sI G m u):mN G (aRe m) u:=by
 cases m<;>cases u<;>exact h
end
section
variable {P : Program} {B : Bs} {P' : aS} {nt : Nat} {s : ASt} {w : World} {G : Gh} {H : Handler}
theorem zH(hH:HOk P P' H){fn:Func}{env:Env}{tmps:Array Value}{R:Ending→World→Prop}: ∀{a_:List hY}{ds:List Deferred}{m m':DM}{s s':ASt}{G:Gh}{w:World}{u:FrameMode},pQ G a_ ds→g7 H a_ m s=some (m',s')→Inv P B G s w→
  jE G nt env tmps→g8 P' G→sI G m u→
  (∀G' w' u',G.le G'→Inv P B G' s' w'→jE G' nt env tmps→sI G' m' u'→LeavesIn (FV P) 0 P fn tmps R [] u' w')→LeavesInM (FV P) 0 P fn tmps R ds u w
 | [],ds,m,m',s,s',G,w,u,hD,h,hI,hE,hG,hM,hK=>by
  cases hD;simp only [g7,Option.some.injEq,Prod.mk.injEq] at h;obtain⟨rfl,rfl⟩:=h;exact hK G w u (.refl _) hI hE hM
 | .mark l::a_,ds,m,m',s,s',G,w,u,hD,h,hI,hE,hG,hM,hK=>by
  cases hD with
  | @cons _ d _ ds hd hds=>
   obtain⟨b,ht,hL⟩:=hd;simp only [g7] at h;split at h
   ·rename_i hl;obtain⟨o,ho,hok⟩:=hI.at hL hl;have hok':o= .deferred (some []):=hok;subst hok';have hI2:Inv P B G {s with blks:=s.blks.set l .dead} (w.putObj b (.deferred none)):=hI.put hL trivial fun j x hx=>by
     have:=hI.m b j x hx;simp [World.cell?,ho] at this
    refine⟨by rintro rfl;cases m<;>exact hM,.inl ⟨b,_,ht,run_takeDeferred ho,?_⟩⟩;exact zH hH hds h hI2 hE hG hM hK
   ·cases h
 | .call f args::a_,ds,m,m',s,s',G,w,u,hD,h,hI,hE,hG,hM,hK=>by
  cases hD with
  | @cons _ d _ ds hd hds=>
   obtain⟨cap,xs,ht,ha,hr⟩:=hd;simp only [g7] at h;split at h
   ·rename_i m1 s1 hc;obtain⟨h1,h2⟩:=hH.dcall f args m s m1 s1 hc B G w _ u hI hG hr hM;have e1:(xs++cap).toArray=xs.toArray++cap.toArray:=by simp
    refine⟨by rintro rfl;cases m<;>exact hM,.inr ⟨by simp [FV],.func f,cap.toArray,f,(xs++cap).toArray,ht,?_,?_,?_⟩⟩
    ·rw [ht,ha];show(callFunc f (xs.toArray++cap.toArray)).run P w=_;rw [←e1];exact h1
    ·intro f' hf';rw [ht] at hf';simp only [Target.leads,Option.some.injEq] at hf';subst hf';exact qW h1
    ·refine h2.mono fun e u' w' hq=> ?_;obtain⟨G1,hle,hI1,⟨x,rfl⟩,hM1⟩:=hq;exact zH hH (hds.mono hle) h hI1 (hE.mono hle) (hG.mono hle) hM1 fun G' w'' u'' hle'=>hK G' w'' u'' (hle.trans hle')
   ·cases h
theorem aFn.mode{ex:cY}{e:Exit}{m:DM}(h:(match ex with| .normal=>some DM.ret| .ret=>some DM.ret| .panic v=>some (DM.pan v)| .exit _=>none)=some m)(hX:aFn G ex e):
  (∃u,sI G m u∧((e= .normal∨e= .ret)∧u= .returning∨ ∃chain,e= .panic chain∧u= .panicking chain)):=by
 cases ex with
 |normal=>cases h;cases e<;>first|exact hX.elim|exact⟨.returning,trivial,.inl ⟨.inl rfl,rfl⟩⟩
 |ret=>cases h;cases e<;>first|exact hX.elim|exact⟨.returning,trivial,.inl ⟨.inr rfl,rfl⟩⟩
 |exit i=>cases h
 |panic v=>cases h;cases e<;>first|exact hX.elim|exact⟨.panicking _,hX,.inr ⟨_,rfl,rfl⟩⟩
theorem aPd(hP:POk P P')(hH:HOk P P' H)(hLow:aPg H){lf:Nat}{f:Nat}{af:AF}(haf:P'.fn f=some af){args:List AV}{r:jM}{s':ASt}(h:yU H P' lf af args s=some (r,s'))(hI:Inv P B G s w)(hG:g8 P' G)
{xs:List Value}(hr:R G (.l args xs)):(callFunc f xs.toArray).run P w= .ok (.enter f xs.toArray) w∧CallsIn (FV P) 0 P f xs.toArray w (uR P B G s' r):=by
 obtain⟨fn,hh,hf,hc,hok,hn⟩:=hP.fn f af haf;have hc':=hc;unfold vI at hc';split at hc'
 ·rename_i cb cr hcb hcr;cases hc';obtain⟨c,hb,hcc⟩:=Option.bind_eq_some_iff.1 hcb;refine⟨kB hf hb hn _ _,?_⟩;unfold yU at h;split at h
  ·cases h
  rename_i hnt;have hnt:args.length≤fn.ntmps:=by simpa using Nat.le_of_ble_eq_true hnt
  split at h
  ·rename_i ex fr s1 hev;have hlow1:=wR hLow _ hev;split at h
   ·rename_i m hm;refine callsIn_of_wp_marks hf hb ⟨_,hf⟩ ?_;have hIc:Inv P B G (aT s) w:=hI.aDl rfl rfl;have hw:=aEz hP hH (rd:=none) (rb:=none) (h:=hh) c (a:={tmps:=xs.toArray++Array.replicate (fn.ntmps-xs.toArray.size) undef,defers:= []}) hcc hok hev hIc (aBS hr hnt) hG .nil trivial;refine wpIn_mono hw fun e a1 w1 hq=> ?_;obtain⟨G1,hle1,hI1,hE1,hD1,hX⟩:=hq;obtain⟨u,hM,hu⟩:=hX.mode hm;have key:LeavesInM (FV P) 0 P fn a1.tmps (uR P B G s' r) a1.defers u w1:=by
     split at h
     ·rename_i v s2 hrd;cases h;have hlow2:=hlow1.trans (qM hLow hrd);refine zH hH hD1 hrd hI1 hE1 (hG.mono hle1) hM fun G2 w2 u2 hle2 hI2 hE2 hM2=> ?_;cases u2 with
      |run=>exact hM2.elim
      |returning=>exact hM2.elim
      |panicking chain=>
       obtain⟨x,rfl,hx⟩:=hM2;obtain⟨G4,k1,k2,k3⟩:=aIH hI hlow2 (hle1.trans hle2) hI2 hx;exact⟨G4,k1,k2,x,rfl,k3⟩
     ·rename_i s2 hrd;split at h
      ·rename_i vs hvs;split at h
       ·rename_i v s3 hrv;split at h;rename_i v' s4 hset;cases h;have hlow3:=(hlow1.trans (qM hLow hrd)).trans (aCZ hrv);refine zH hH hD1 hrd hI1 hE1 (hG.mono hle1) hM fun G2 w2 u2 hle2 hI2 hE2 hM2=> ?_;cases u2 with
        |run=>exact hM2.elim
        |panicking chain=>exact hM2.elim
        |returning=>
         obtain⟨x,G3,q1,q2,q3,q4⟩:=aCs hI2 hE2 hcr hvs hrv;obtain⟨G4,k1,k2,k3⟩:=aKN hI hlow3 ((hle1.trans hle2).trans q2) q3 q4 hset;exact⟨x,q1,G4,k1,k2,k3⟩
       ·cases h
      ·cases h
     ·cases h
    rcases hu with ⟨he|he,rfl⟩|⟨chain,rfl,rfl⟩
    ·subst he;exact key
    ·subst he;exact key
    ·exact key
   ·cases h
  ·cases h
 ·cases hc'
theorem aON(hP:POk P P')(hH:HOk P P' H)(hLow:aPg H){lf:Nat}{f:Nat}{af:AF}(haf:P'.fn f=some af){args:List AV}{m m':DM}{s':ASt}(h:aBf H P' lf af args m s=some (m',s'))(hI:Inv P B G s w)(hG:g8 P' G)
{xs:List Value}(hr:R G (.l args xs)){u:FrameMode}(hm:sI G m u):
  (callFunc f xs.toArray).run P w= .ok (.enter f xs.toArray) w∧CallsDIn (FV P) 0 P f xs.toArray u w fun e u' w'=> ∃G',G.le G'∧Inv P B G' s' w'∧(∃x,e= .returned x)∧sI G' m' (Go.settle u'):=by
 obtain⟨fn,hh,hf,hc,hok,hn⟩:=hP.fn f af haf;have hc':=hc;unfold vI at hc';split at hc'
 ·rename_i cb cr hcb hcr;cases hc';obtain⟨c,hb,hcc⟩:=Option.bind_eq_some_iff.1 hcb;refine⟨kB hf hb hn _ _,?_⟩;unfold aBf at h;split at h
  ·cases h
  rename_i hnt0;have hnt:args.length≤fn.ntmps:=by simpa using Nat.le_of_ble_eq_true hnt0
  split at h
  ·rename_i ex env rc s1 hev;have hlow1:=aJW hLow _ hev;split at h
   ·rename_i hex;split at h
    ·rename_i hres;simp only at hres;clear hnt0;subst hres;refine callsDIn_of_wpSIn hf hb ⟨_,hf⟩ fun c₀ cs hc0=> ?_;have hIc:Inv P B G (aT s) w:=hI.aDl rfl rfl;have hw:=aP3 (c₀:=c₀) (cs:=cs) (h:=hh) (a:={tmps:=xs.toArray++Array.replicate (fn.ntmps-xs.toArray.size) undef,defers:= []}) hP hH c hcc hok hev hIc (aBS hr hnt) hG .nil (mN.aOK hm);have e0:({c₀ with mode:=u}:Frame)=c₀:=by subst hc0;rfl
     rw [e0] at hw;refine tZ hw fun e a1 cs1 w1 hq=> ?_;obtain⟨u1,G1,hle,hI1,hE1,hD1,hX,rfl,hR1⟩:=hq;have hd1:=hD1.aEB;obtain⟨x,G3,q1,q2,q3,_⟩:=aCs (P':=P') hI1 hE1 hcr (vs:= []) rfl (v:= .tuple []) (s1:=s1) rfl;have hfin: ∃G',G.le G'∧Inv P B G' s' w1∧(∃y,Ending.returned x= .returned y)∧sI G' m' (Go.settle u1):=by
      have hset:=hR1.settle;split at h
      ·rename_i v;cases h;simp only at hset;cases hu:Go.settle u1 with
       |run=>rw [hu] at hset;exact hset.elim
       |returning=>rw [hu] at hset;exact hset.elim
       |panicking chain=>
        rw [hu] at hset;obtain⟨y,rfl,hy⟩:=hset;obtain⟨G4,k1,k2,k3⟩:=aIH hI hlow1 (hle.trans q2) q3 (hy.mono q2);exact⟨G4,k1,k2,⟨x,rfl⟩,y,rfl,k3⟩
      ·rename_i hnp;cases h;obtain⟨G4,k1,k2,_⟩:=aBB hI hlow1 (hle.trans q2) q3 false false;refine⟨G4,k1,k2,⟨x,rfl⟩,?_⟩;cases rc with
       |pan v=>exact absurd rfl (hnp v)
       |ret=>simp only at hset;cases hu:Go.settle u1<;>rw [hu] at hset<;>first|exact hset.elim|trivial
       |aK9=>simp only at hset;cases hu:Go.settle u1<;>rw [hu] at hset<;>first|exact hset.elim|trivial
     cases ex with
     |normal=>
      have he:=hX.uE rfl;subst he;exact⟨hd1,u1,rfl,x,q1,hfin⟩
     |ret=>
      cases e<;>first|exact hX.elim|skip
      exact⟨hd1,u1,rfl,x,q1,hfin⟩
     |exit i=>cases hex
     |panic v=>cases hex
    ·cases h
   ·cases h
  ·cases h
 ·cases hc'
structure aEl(P:Program)(P':aS):Prop where
 low: ∀f p,P'.prim f=some p→ ∀args s r s',p args s=some (r,s')→Low s s'
 ok: ∀f p,P'.prim f=some p→ ∀args s r s',p args s=some (r,s')→ ∀B G w xs,Inv P B G s w→g8 P' G→R G (.l args xs)→aNz P (callFunc f xs.toArray) w (uR P B G s' r)
theorem aH5(hP:POk P P')(hp:aEl P P'): ∀n,HOk P P' (cH P' n)
 |0=>⟨fun _ _ _ _ _ h=>by simp [cH] at h,fun _ _ _ _ _ h=>by simp [cH] at h,fun _ _ _ _ _ _ h=>by simp [cH] at h⟩
 |n+1=>by
  have ih:=aH5 hP hp n;have hl:=aAf (P:=P') hp.low n;refine⟨fun f args s r s' h B G w xs hI hG hr=> ?_,fun l args s r s' h B G w xs b hI hG hr hL=> ?_,fun f args m s m' s' h B G w xs u hI hG hr hm=> ?_⟩
  ·simp only [cH] at h;split at h
   ·rename_i p hq;exact hp.ok _ _ hq _ _ _ _ h B G w xs hI hG hr
   ·split at h
    ·rename_i af haf;obtain⟨k1,k2⟩:=aPd hP ih hl haf h hI hG hr;exact⟨_,_,k1,k2⟩
    ·cases h
  ·simp only [cH] at h;exact aLX hP ih h hI hG hr hL
  ·simp only [cH] at h;split at h
   ·rename_i af haf;exact aON hP ih hl haf h hI hG hr hm
   ·cases h
end
inductive Tab where
 |none
 |leaf (k:Nat) (a:AF)
 |node (m:Nat) (l r:Tab)
def Tab.get:Tab→Nat→Option AF
 | .none,_=>Option.none
 | .leaf k a,n=>match Nat.beq n k with|true=>some a|false=>Option.none
 | .node m l r,n=>match Nat.blt n m with|true=>l.get n|false=>r.get n
def Tab.list:Tab→List (Nat×AF)
 | .none=> []
 | .leaf k a=> [(k,a)]
 | .node _ l r=>l.list++r.list
theorem Tab.get_mem: ∀{t:Tab}{n:Nat}{a:AF},t.get n=some a→(n,a)∈t.list
 | .none,_,_,h=>by cases h
 | .leaf k b,n,a,h=>by
  simp only [Tab.get] at h;split at h
  ·rename_i hb;cases h;rw [Nat.eq_of_beq_eq_true hb];simp [Tab.list]
  ·cases h
 | .node m l r,n,a,h=>by
  simp only [Tab.get] at h;simp only [Tab.list,List.mem_append];split at h
  ·exact .inl (Tab.get_mem h)
  ·exact .inr (Tab.get_mem h)
abbrev eO(P:Program)(k:Nat)(a:AF):Prop:=
 ∃(fn:Func)(h:Hint),P.funcs[k]?=some fn∧vI P h fn=some a∧nQ fn.ntmps false a.body=true∧(fn.name== "runtime.NumGoroutine")=false
inductive aOO{α:Type}(Q:α→Prop):List α→Prop
 |nil:aOO Q []
 |cons {x:α} {xs:List α} (h:Q x) (t:aOO Q xs):aOO Q (x::xs)
theorem aQE{α:Type}{Q:α→Prop}{l:List α}(h:aOO Q l): ∀p∈l,Q p:=by
 induction h with
 |nil=>intro p hp;cases hp
 |cons h _ ih=>intro p hp;rcases List.mem_cons.1 hp with rfl|hp;exact h;exact ih p hp
def aCI:List (Nat×AV)→Nat→AV
 | [],_=> .agg []
 |(k,v)::r,n=>match Nat.beq n k with|true=>v|false=>aCI r n
def yA(t:Tab)(gl:List (Nat×AV)):aS:={fn:=t.get,gl:=aCI gl,prim:=fun _=>none}
theorem aCN: ∀{gl:List (Nat×AV)},(gl.all fun p=>cR p.2)=true→ ∀g,cR (aCI gl g)=true
 | [],_,_=>rfl
 |(k,v)::r,h,g=>by
  simp only [List.all_cons,Bool.and_eq_true] at h;simp only [aCI];split
  ·exact h.1
  ·exact aCN h.2 g
theorem aKB{P:Program}{t:Tab}{gl:List (Nat×AV)}(ht: ∀p∈t.list,eO P p.1 p.2)(hg:(gl.all fun p=>cR p.2)=true)(hm:P.follows .mixedOrders=true):POk P (yA t gl) where
 fn:=fun _ _ h=>ht _ (Tab.get_mem h)
 wW:=aCN hg
 mixed:=hm
theorem aFL{P:Program}{t:Tab}{gl:List (Nat×AV)}:aEl P (yA t gl):=⟨fun _ _ h=>(by cases h),fun _ _ h=>(by cases h)⟩
def G0(W:World):Gh:=⟨fun b o=>W.cell? ⟨b,o,none⟩,fun _=>none,fun _ _=>none⟩
def B0(W:World):Bs:=⟨fun b=>b<W.heap.size,W,(G0 W).M,fun _ h=>h⟩
theorem aSd{P:Program}(W:World):Inv P (B0 W) (G0 W) dK W where
 os:=rfl
 tape:=rfl
 output:=rfl
 size:=Nat.le_refl _
 pr:=fun _ _=>rfl
 prM:=fun _ _ _=>rfl
 m:=fun _ _ _ h=>h
 l:=fun _ _ h=>by cases h
 inj:=fun _ _ _ h=>by cases h
 blk:=fun _ _ _ _ h=>by cases h
 tok:=fun t n h=>by simp [dK] at h
 lX:=fun _ _ _ _ _ _ _ _ _ h=>by simp [dK] at h
 hh:=fun _ _ _ h=>by cases h
 tot:=fun _ h=>absurd h (Nat.not_lt_zero _)
theorem aNL{P:Program}{P':aS}(hP:POk P P')(hp:aEl P P'){n f:Nat}{af:AF}(haf:P'.fn f=some af){args:List AV}{v:AV}{s':ASt}(h:(cH P' n).call (.func f) args dK=some (.ret v,s'))(W:World){xs:List Value}
(hr:R (G0 W) (.l args xs))(hg:g8 P' (G0 W)):Calls P f xs.toArray W fun e W'=> ∃x G',e= .returned x∧R G' (.v v x)∧RowKit.Below W.heap.size W W':=by
 obtain⟨nx,w1,h1,h2⟩:=(aH5 hP hp n).func f _ _ _ _ h (B0 W) (G0 W) W xs (aSd W) hg hr;obtain⟨fn,hh,hf,hc,_,hn⟩:=hP.fn f af haf;obtain⟨c,hb,_⟩:=yC hc;rw [kB hf hb hn] at h1;cases h1;refine(h2.calls aPc).mono fun e W' hq=> ?_;obtain⟨G',hle,hI,hres⟩:=hq;cases e with
 |returned x=>exact⟨x,G',rfl,hres,hI.os,hI.tape,hI.output,hI.size,fun k hk=>hI.pr k hk⟩
 |panicked ch=>exact hres.elim
 |outgrown=>exact hres.elim
def mkV(P:Program)(e:TypeId)(cs:List AV):AV:=match nR P e with|some false=>cs.headD fA|_=> .agg cs
def vD(P:Program):Nat→List Field→Option Nat
 |off,[]=>some off
 |off,f::fs=>match Nat.beq f.offset off with|true=>vD P (off+P.cellsOf f.type) fs|false=>none
def aHu(P:Program)(ts:List TypeId)(t:TypeId):Bool:=
 match P.underlying t with
 |some .bool|some .string|some (.int _)=>true
 |some (.pointer e)|some (.slice e)=>ts.contains e&&Nat.blt 0 (P.cellsOf e)
 |some (.struct fs)=>vD P 0 fs.toList==some (P.cellsOf t)&&fs.toList.all fun f=>ts.contains f.type
 |some (.array n e)=>ts.contains e&&n*P.cellsOf e==P.cellsOf t
 |_=>false
inductive TyC(P:Program):TypeId→List AV→Prop
 |bool {t:TypeId} (b:Bool) (h:P.underlying t=some .bool):TyC P t [.bool b]
 |int {t:TypeId} {k:IntKind} {n:Int} (h:P.underlying t=some (.int k)) (hn:k.wrap n=n):TyC P t [.int k n]
 |str {t:TypeId} (s:List UInt8) (h:P.underlying t=some .string) (hs:s.length≤maxLen):TyC P t [.str s]
 |aLc {t e:TypeId} (h:P.underlying t=some (.pointer e)):TyC P t [.dO]
 |ptr {t e:TypeId} {cs:List AV} (h:P.underlying t=some (.pointer e)) (hc:TyC P e cs):TyC P t [.aF (mkV P e cs) 0]
 |slice {t e:TypeId} {css:List (List AV)} (h:P.underlying t=some (.slice e)) (hl:css.length≤maxLen) (hc: ∀cs∈css,TyC P e cs):TyC P t [.slice (szC (P.cellsOf e) (css.map (mkV P e))) (css.map (mkV P e)) .no]
 |struct {t:TypeId} {fs:Array Field} {css:List (List AV)} (h:P.underlying t=some (.struct fs)) (hl:css.length=fs.size) (hc: ∀(i:Nat)(f:Field)(cs:List AV),fs[i]?=some f→css[i]?=some cs→TyC P f.type cs):TyC P t css.flatten
 |array {t e:TypeId} {n:Nat} {css:List (List AV)} (h:P.underlying t=some (.array n e)) (hl:css.length=n) (hc: ∀cs∈css,TyC P e cs):TyC P t css.flatten
mutual
def gL {H:Type} (P:Program) (t:TypeId):DataW H→Option (List AV)
 | .lit l=>match l with| .bool b=>some [.bool b]| .int k n=>some [.int k n]| .string bs=>some [.str bs]|_=>none
 | .nil=>match P.underlying t with|some (.pointer _)=>some [.dO]|some (.slice e)=>some [.slice 0 [] .no]|_=>none
 | .ptr d=>match P.underlying t with|some (.pointer e)=>(match gL P e d with|some cs=>some [.aF (mkV P e cs) 0]|none=>none)|_=>none
 | .slice elems _=>match P.underlying t with|some (.slice e)=>(match pH P e elems with|some css=>some [.slice (szC (P.cellsOf e) (css.map (mkV P e))) (css.map (mkV P e)) .no]|none=>none)|_=>none
 | .agg parts=>
  match P.underlying t with
  |some (.struct fs)=>(match mS P (fs.toList.map (·.type)) parts with|some css=>some css.flatten|none=>none)
  |some (.array _ e)=>(match pH P e parts with|some css=>some css.flatten|none=>none)
  |_=>none
 | .iface _ _=>none
 | .map _=>none
 | .held _=>none
def pH {H:Type} (P:Program) (e:TypeId):List (DataW H)→Option (List (List AV))
 | []=>some []
 |d::r=>match gL P e d,pH P e r with|some x,some xs=>some (x::xs)|_,_=>none
def mS {H:Type} (P:Program):List TypeId→List (DataW H)→Option (List (List AV))
 | [],[]=>some []
 |t::ts,d::r=>match gL P t d,mS P ts r with|some x,some xs=>some (x::xs)|_,_=>none
 |_,_=>none
end
section
variable {P : Program} {H : Type} {enc : TypeId × Value → H} {w : World} {sp : Nat → Bool} {held : Bool}
theorem TyC.lone{t:TypeId}{cs:List AV}(h:TyC P t cs)(ha:nR P t=some false): ∃a,cs= [a]∧qT a=false:=by
 cases h with
 |bool b h=>exact⟨_,rfl,rfl⟩
 |int h hn=>exact⟨_,rfl,rfl⟩
 |str s h hs=>exact⟨_,rfl,rfl⟩
 |aLc h=>exact⟨_,rfl,rfl⟩
 |ptr h hc=>exact⟨_,rfl,rfl⟩
 |slice h hl hc=>exact⟨_,rfl,rfl⟩
 |struct h hl hc=>rw [nR,h] at ha;cases ha
 |array h hl hc=>rw [nR,h] at ha;cases ha
theorem TyC.c{G:Gh}{t:TypeId}{cs:List AV}{vs:List Value}(h:TyC P t cs)(r:R G (.k cs vs)):R G (.c (mkV P t cs) vs):=by
 unfold mkV;cases ha:nR P t with
 |none=>exact .tQ r
 |some b=>
  cases b with
  |true=>exact .tQ r
  |false=>
   obtain⟨a,rfl,h1⟩:=h.lone ha;cases r with
   |cJ r1 h2 r3=>cases r3;exact .vO h1 h2 r1
theorem aAr{a:Addr}{n:Nat}{cs:List Value}(h:w.cells? 0 a n=some cs):cs.length=n∧ ∀j y,cs[j]?=some y→w.cell? (a.add j)=some y:=by
 unfold World.cells? at h;rw [if_pos (Nat.zero_le _)] at h;have hl:cs.length=n:=by simpa using mapM_some_length h
 refine⟨hl,fun j y hj=> ?_⟩;have hjn:j<n:=by
  have:=(List.getElem?_eq_some_iff.1 hj).1;omega
 have:=mapM_some_get h j j (by simp [hjn]);rw [this,hj]
theorem aBW{k:IntKind}{n:Int}(h:(Lit.int k n).wf=true):k.wrap n=n:=by
 simp only [Lit.wf,Bool.and_eq_true,decide_eq_true_eq] at h;unfold IntKind.wrap;cases k<;>simp [IntKind.min,IntKind.max,IntKind.signed,IntKind.bits] at h⊢ <;>(try split)<;>omega
theorem aM6{G:Gh}{sz b:Nat}{e:TypeId}: ∀{css:List (List AV)}{vss:List (List Value)}{o:Nat},css.length=vss.length→
  (∀(i:Nat)(a_:List AV)(vs:List Value),css[i]?=some a_→vss[i]?=some vs→TyC P e a_∧R G (.k a_ vs)∧vs.length=sz∧ ∀j y,vs[j]?=some y→G.M b (o+i*sz+j)=some y)→R G (.r sz (css.map (mkV P e)) b o)
 | [],vss,o,_,_=> .w6 sz b o
 |a_::css,[],o,hl,_=>by simp at hl
 |a_::css,vs::vss,o,hl,h=>by
  obtain⟨h1,h2,h3,h4⟩:=h 0 a_ vs rfl rfl;refine .l9 (h1.c h2) h3 (by simpa using h4) (aM6 (by simpa using hl) fun i as' vs' ha hv=> ?_);obtain⟨k1,k2,k3,k4⟩:=h (i+1) as' vs' (by simpa using ha) (by simpa using hv);refine⟨k1,k2,k3,fun j y hy=> ?_⟩;have:=k4 j y hy;rw [show o+sz+i*sz+j=o+(i+1)*sz+j from by rw [Nat.add_mul];omega];exact this
theorem contains_of{ts:List TypeId}{t:TypeId}(h:ts.contains t=true):t∈ts:=by simpa using h
theorem aA1{G:Gh}: ∀{fs:List Field}{off m:Nat}{css:List (List AV)}{cs:List Value},vD P off fs=some m→cs.length=m→css.length=fs.length→
  (∀(i:Nat)(f:Field)(a_:List AV),fs[i]?=some f→css[i]?=some a_→R G (.k a_ ((cs.drop f.offset).take (P.cellsOf f.type))))→R G (.k css.flatten (cs.drop off))∧off≤m
 | [],off,m,css,cs,h,hl,hcl,_=>by
  simp only [vD,Option.some.injEq] at h;subst h;have:css= []:=List.length_eq_zero_iff.1 hcl;subst this;rw [List.drop_eq_nil_of_le (by omega)];exact⟨.gN,Nat.le_refl _⟩
 |f::fs,off,m,css,cs,h,hl,hcl,hk=>by
  simp only [vD] at h;split at h
  ·rename_i hb;have hoff:=Nat.eq_of_beq_eq_true hb;cases css with
   |nil=>simp at hcl
   |cons a_ css=>
    obtain⟨h1,h2⟩:=aA1 (cs:=cs) h hl (by simpa using hcl) fun i g as' hg ha=>hk (i+1) g as' (by simpa using hg) (by simpa using ha);have h0:=hk 0 f a_ rfl rfl;rw [hoff] at h0;refine⟨?_,by omega⟩;rw [List.flatten_cons];have e1:cs.drop off=(cs.drop off).take (P.cellsOf f.type)++cs.drop (off+P.cellsOf f.type):=by
     rw [←List.drop_drop,List.take_append_drop]
    rw [e1];exact h0.sT h1
  ·cases h
theorem aES{α β:Type}{n:Nat}{f:Nat→α→β→Prop}: ∀{xs:List α},xs.length=n→(∀i x,xs[i]?=some x→ ∃y,f i x y)→ ∃ys:List β,ys.length=n∧ ∀i x y,xs[i]?=some x→ys[i]?=some y→f i x y:=by
 induction n with
 |zero=>intro xs hl _;exact⟨[],rfl,fun i x y _ h=>by simp at h⟩
 |succ n ih=>
  intro xs hl h;have hne:n<xs.length:=by omega
  obtain⟨ys,h1,h2⟩:=ih (xs:=xs.take n) (by simp;omega) fun i x hx=>by
   have:i<n:=by
    have:=(List.getElem?_eq_some_iff.1 hx).1;simp at this;omega
   rw [List.getElem?_take_of_lt this] at hx;exact h i x hx
  obtain⟨y,hy⟩:=h n xs[n] (List.getElem?_eq_getElem hne);refine⟨ys++ [y],by simp [h1],fun i x z hx hz=> ?_⟩;rcases Nat.lt_or_ge i n with q|q
  ·rw [List.getElem?_append_left (by omega)] at hz;exact h2 i x z (by rw [List.getElem?_take_of_lt q];exact hx) hz
  ·have:i=n:=by
    have:=(List.getElem?_eq_some_iff.1 hz).1;simp at this;omega
   subst this;rw [List.getElem?_append_right (by omega)] at hz;simp [h1] at hz;subst hz;rw [List.getElem?_eq_getElem hne] at hx;cases hx;exact hy
theorem u9{e:TypeId}: ∀{ds:List (DataW H)}{css:List (List AV)},css.length=ds.length→(∀(i:Nat)(d:DataW H)(cs:List AV),ds[i]?=some d→css[i]?=some cs→gL P e d=some cs)→pH P e ds=some css
 | [],css,hl,_=>by
  have:css= []:=List.length_eq_zero_iff.1 hl;subst this;rfl
 |d::ds,[],hl,_=>by simp at hl
 |d::ds,cs::css,hl,h=>by
  simp only [pH];rw [h 0 d cs rfl rfl,u9 (by simpa using hl) fun i d' cs' hd hc=>h (i+1) d' cs' (by simpa using hd) (by simpa using hc)]
theorem y0: ∀{ts:List TypeId}{ds:List (DataW H)}{css:List (List AV)},ts.length=ds.length→css.length=ds.length→(∀(i:Nat)(t:TypeId)(d:DataW H)(cs:List AV),ts[i]?=some t→ds[i]?=some d→css[i]?=some cs→gL P t d=some cs)→mS P ts ds=some css
 | [],[],css,_,hl,_=>by
  have:css= []:=List.length_eq_zero_iff.1 hl;subst this;rfl
 | [],d::ds,_,ht,_,_=>by simp at ht
 |t::ts,[],_,ht,_,_=>by simp at ht
 |t::ts,d::ds,[],_,hl,_=>by simp at hl
 |t::ts,d::ds,cs::css,ht,hl,h=>by
  simp only [mS];rw [h 0 t d cs rfl rfl rfl,y0 (by simpa using ht) (by simpa using hl) fun i t' d' cs' h0 hd hc=>h (i+1) t' d' cs' (by simpa using h0) (by simpa using hd) (by simpa using hc)]
theorem aCy{G:Gh}{sz:Nat}: ∀{css:List (List AV)}{cs:List Value}(off:Nat),off+css.length*sz=cs.length→
  (∀i a_,css[i]?=some a_→R G (.k a_ ((cs.drop (off+i*sz)).take sz)))→R G (.k css.flatten (cs.drop off))
 | [],cs,off,hl,_=>by
  rw [List.drop_eq_nil_of_le (by simp at hl;omega)];exact .gN
 |a_::css,cs,off,hl,h=>by
  have hl':off+sz+css.length*sz=cs.length:=by
   simp only [List.length_cons,Nat.add_mul] at hl;omega
  have h1:=aCy (css:=css) (cs:=cs) (off+sz) hl' fun i as' ha=>by
   have:=h (i+1) as' (by simpa using ha);rw [show off+(i+1)*sz=off+sz+i*sz from by rw [Nat.add_mul];omega] at this;exact this
  have h0:=h 0 a_ rfl;simp only [Nat.zero_mul,Nat.add_zero] at h0;have e1:cs.drop off=(cs.drop off).take sz++cs.drop (off+sz):=by rw [←List.drop_drop,List.take_append_drop]
  rw [List.flatten_cons,e1];exact h0.sT h1
theorem aDy{a:Addr}{v:Value}(h:w.cell? a=some v):a.spot=none:=by
 unfold World.cell? at h;split at h
 ·split at h
  ·cases h
  ·rename_i hq;simpa using hq
 ·cases h
theorem add_eq{a:Addr}{n:Nat}(h:a.spot=none):a.add n=⟨a.block,a.off+n,none⟩:=by
 unfold Addr.add;split
 ·rename_i q;subst q;cases a;simp at h;simp [h]
 ·rfl
theorem aJj{ts:List TypeId}(hts:ts.all (aHu P ts)=true): ∀(fuel:Nat){t:TypeId}{cs:List Value}{x:DataW H×List MemPlace},t∈ts→DataW.trod enc P w 0 sp held fuel t cs=some x→
  ∃a_,gL P t x.1=some a_∧TyC P t a_∧R (G0 w) (.k a_ cs):=by
 intro fuel
 induction fuel with
 |zero=>intro t cs x _ h;simp [DataW.trod] at h
 |succ fuel ih=>
  intro t cs x hmem h;have hok:=List.all_eq_true.1 hts t hmem;unfold aHu at hok;cases hu:P.underlying t with
  |none=>rw [hu] at hok;cases hok
  |some u=>
   rw [hu] at hok;cases u with
   |bool=>
    obtain⟨b,rfl,rfl⟩:=DataW.trod_bool hu h;exact⟨_,rfl,.bool b hu,.cJ (.bool b) rfl .gN⟩
   |int k=>
    obtain⟨n,rfl,rfl,hw⟩:=DataW.trod_int hu h;exact⟨_,rfl,.int hu (aBW hw),.cJ (.int (aBW hw)) rfl .gN⟩
   |string=>
    obtain⟨s,rfl,rfl,hs⟩:=DataW.trod_string hu h;exact⟨_,rfl,.str _ hu (by simpa using hs),.cJ (.str s hs) rfl .gN⟩
   |pointer e=>
    simp only [Bool.and_eq_true] at hok;rcases DataW.trod_pointer hu h with ⟨rfl,rfl⟩|⟨a,cs',y,n,hn,rfl,rfl,hc,hy⟩
    ·exact⟨[.dO],by simp [gL,hu],.aLc hu,.cJ .dO rfl .gN⟩
    ·cases hn;obtain⟨a_,h1,h2,h3⟩:=ih (contains_of hok.1) hy;obtain⟨hl,hcell⟩:=aAr hc;refine⟨[.aF (mkV P e a_) 0],by simp [gL,hu,h1],.ptr hu h2,.cJ ?_ rfl .gN⟩;have hpos:0<P.cellsOf e:=by simpa using hok.2
     have hspot:a.spot=none:=by
      obtain⟨v,hv⟩: ∃v,cs'[0]?=some v:=⟨_,List.getElem?_eq_getElem (by omega)⟩
      exact aDy (by simpa [Addr.add] using hcell 0 v hv)
     have hcell': ∀j y,cs'[j]?=some y→(G0 w).M a.block (a.off+j)=some y:=fun j y hj=>by
      have:=hcell j y hj;rw [add_eq hspot] at this;exact this
     have:=R.aF (G:=G0 w) (b:=a.block) (o:=a.off) 0 (h2.c h3) hcell';have e1:(⟨a.block,a.off+0,none⟩:Addr)=a:=by cases a;simp at hspot;simp [hspot]
     rw [e1] at this;exact this
   |slice e=>
    simp only [Bool.and_eq_true] at hok;have hpos:0<P.cellsOf e:=by simpa using hok.2
    rcases DataW.trod_slice hu h with ⟨rfl,rfl⟩|⟨a,len,cap,elems,rest,n,hn,rfl,rfl,_,hlc,hcm,hel,hget,_,_⟩
    ·exact⟨[.slice 0 [] .no],by simp [gL,hu],.slice (css:= []) hu (Nat.zero_le _) (by simp),.cJ (.cK (Nat.zero_le _) trivial) rfl .gN⟩
    ·cases hn;have hone: ∀i x,elems[i]?=some x→ ∃p:List AV×List Value,gL P e x.1=some p.1∧TyC P e p.1∧R (G0 w) (.k p.1 p.2)∧w.cells? 0 (a.add (i*P.cellsOf e)) (P.cellsOf e)=some p.2:=by
      intro i x hx;have hi:i<len:=by
       have:=(List.getElem?_eq_some_iff.1 hx).1;omega
      have:=hget i hi;rw [hx,Option.bind_eq_some_iff] at this;obtain⟨vs,h1,h2⟩:=this;obtain⟨a_,k1,k2,k3⟩:=ih (contains_of hok.1) h2;exact⟨(a_,vs),k1,k2,k3,h1⟩
     obtain⟨ps,hpl,hps⟩:=aES hel hone;have hcss:(ps.map (·.1)).length=elems.length:=by simp [hpl,hel]
     refine⟨[.slice (szC (P.cellsOf e) ((ps.map (·.1)).map (mkV P e))) ((ps.map (·.1)).map (mkV P e)) .no],?_,.slice hu ?_ ?_,?_⟩
     ·simp only [gL,hu];rw [u9 (css:=ps.map (·.1)) (by simp [hpl,hel]) fun i d cs hd hc=> ?_];simp only [List.getElem?_map,Option.map_eq_some_iff] at hd hc;obtain⟨x,hx,rfl⟩:=hd;obtain⟨p,hp,rfl⟩:=hc;exact(hps i x p hx hp).1
     ·simp [hpl];omega
     ·intro cs hcs;obtain⟨p,hp,rfl⟩:=List.mem_map.1 hcs;obtain⟨i,hi⟩:=List.getElem?_of_mem hp;obtain⟨x,hx⟩: ∃x,elems[i]?=some x:=⟨_,List.getElem?_eq_getElem (by have:=(List.getElem?_eq_some_iff.1 hi).1;omega)⟩
      exact(hps i x p hx hi).2.1
     ·refine .cJ ?_ rfl .gN;have hlen:((ps.map (·.1)).map (mkV P e)).length=len:=by simp [hpl]
      rcases Nat.eq_zero_or_pos len with h0|hposl
      ·subst h0;have:ps= []:=List.length_eq_zero_iff.1 hpl;subst this;exact .cK hcm trivial
      ·have hfirst:a.spot=none:=by
        obtain⟨x,hx⟩: ∃x,elems[0]?=some x:=⟨_,List.getElem?_eq_getElem (by omega)⟩
        obtain⟨p,hp⟩: ∃p,ps[0]?=some p:=⟨_,List.getElem?_eq_getElem (by omega)⟩
        obtain⟨hl,hcell⟩:=aAr (hps 0 x p hx hp).2.2.2;obtain⟨v,hv⟩: ∃v,p.2[0]?=some v:=⟨_,List.getElem?_eq_getElem (by omega)⟩
        exact aDy (by simpa [Addr.add] using hcell 0 v hv)
       have hr:R (G0 w) (.r (P.cellsOf e) ((ps.map (·.1)).map (mkV P e)) a.block a.off):=by
        refine aM6 (vss:=ps.map (·.2)) (by simp) fun i a_ vs ha hv=> ?_;simp only [List.getElem?_map,Option.map_eq_some_iff] at ha hv;obtain⟨p,hp,rfl⟩:=ha;obtain⟨p',hp',rfl⟩:=hv;rw [hp] at hp';cases hp';obtain⟨x,hx⟩: ∃x,elems[i]?=some x:=⟨_,List.getElem?_eq_getElem (by have:=(List.getElem?_eq_some_iff.1 hp).1;omega)⟩
        obtain⟨k1,k2,k3,k4⟩:=hps i x p hx hp;obtain⟨hl,hcell⟩:=aAr k4;refine⟨k2,k3,hl,fun j y hy=> ?_⟩;have:=hcell j y hy;rw [add_eq hfirst,add_eq rfl] at this;exact this
       have ea:a=⟨a.block,a.off,none⟩:=by cases a;simp at hfirst;simp [hfirst]
       rw [ea];have:=R.dA (G:=G0 w) (sz:=P.cellsOf e) (xs:=(ps.map (·.1)).map (mkV P e)) (o:= .no) (b:=a.block) (off:=a.off) (c:=cap) (by rw [hlen];exact hlc) hcm hr trivial;rw [hlen] at this;have hne:szC (P.cellsOf e) ((ps.map (·.1)).map (mkV P e))=P.cellsOf e:=by
        cases hq:(ps.map (·.1)).map (mkV P e) with
        |nil=>rw [hq] at hlen;simp at hlen;omega
        |cons y ys=>rfl
       rw [hne];exact this
   |struct fs=>
    simp only [Bool.and_eq_true,beq_iff_eq] at hok;obtain⟨xs,n,hn,rfl,hl,hxl,hget⟩:=DataW.trod_struct hu h;cases hn;have hone: ∀(i:Nat)(x:DataW H×List MemPlace),xs[i]?=some x→ ∃a_:List AV,∀f:Field,fs[i]?=some f→gL P f.type x.1=some a_∧TyC P f.type a_∧R (G0 w) (.k a_ ((cs.drop f.offset).take (P.cellsOf f.type))):=by
     intro i x hx;obtain⟨f,hf⟩: ∃f,fs[i]?=some f:=⟨_,Array.getElem?_eq_getElem (by have:=(List.getElem?_eq_some_iff.1 hx).1;omega)⟩
     have h1:=hget i f hf;rw [hx] at h1;obtain⟨a_,k1,k2,k3⟩:=ih (contains_of (List.all_eq_true.1 hok.2 f (Array.mem_toList_iff.2 (Array.mem_of_getElem? hf)))) h1;exact⟨a_,fun g hg=>by rw [hf] at hg;cases hg;exact⟨k1,k2,k3⟩⟩
    obtain⟨css,hcl,hcs⟩:=aES (β:=List AV) hxl hone;have hxi: ∀(i:Nat)(f:Field),fs[i]?=some f→ ∃x,xs[i]?=some x:=fun i f hf=>⟨_,List.getElem?_eq_getElem (by have:=(Array.getElem?_eq_some_iff.1 hf).1;omega)⟩
    refine⟨css.flatten,?_,.struct hu hcl fun i f a_ hf ha=> ?_,?_⟩
    ·simp only [gL,hu];rw [y0 (css:=css) (by simp [hxl]) (by simp [hxl,hcl]) fun i t d a_ ht hd ha=> ?_];simp only [List.getElem?_map,Option.map_eq_some_iff] at ht hd;obtain⟨f,hf,rfl⟩:=ht;obtain⟨x,hx,rfl⟩:=hd;exact(hcs i x a_ hx ha f (by simpa using hf)).1
    ·obtain⟨x,hx⟩:=hxi i f hf;exact(hcs i x a_ hx ha f hf).2.1
    ·have:=(aA1 (P:=P) (G:=G0 w) (css:=css) (cs:=cs) hok.1 hl (by simpa using hcl) fun i f a_ hf ha=>by
      obtain⟨x,hx⟩:=hxi i f (by simpa using hf);exact(hcs i x a_ hx ha f (by simpa using hf)).2.2).1
     simpa using this
   |array n e=>
    simp only [Bool.and_eq_true,beq_iff_eq] at hok;obtain⟨xs,m,hm,rfl,hl,hxl,hget⟩:=DataW.trod_array hu h;cases hm;have hone: ∀i x,xs[i]?=some x→ ∃a_:List AV,gL P e x.1=some a_∧TyC P e a_∧R (G0 w) (.k a_ ((cs.drop (i*P.cellsOf e)).take (P.cellsOf e))):=by
     intro i x hx;have hi:i<n:=by have:=(List.getElem?_eq_some_iff.1 hx).1;omega
     have h1:=hget i hi;rw [hx] at h1;exact ih (contains_of hok.1) h1
    obtain⟨css,hcl,hcs⟩:=aES hxl hone;have hxi: ∀i a_,css[i]?=some a_→ ∃x,xs[i]?=some x:=fun i a_ hf=>⟨_,List.getElem?_eq_getElem (by have:=(List.getElem?_eq_some_iff.1 hf).1;omega)⟩
    refine⟨css.flatten,?_,.array hu hcl fun a_ ha=> ?_,?_⟩
    ·simp only [gL,hu];rw [u9 (css:=css) (by simp [hxl,hcl]) fun i d a_ hd ha=> ?_];simp only [List.getElem?_map,Option.map_eq_some_iff] at hd;obtain⟨x,hx,rfl⟩:=hd;exact(hcs i x a_ hx ha).1
    ·obtain⟨i,hi⟩:=List.getElem?_of_mem ha;obtain⟨x,hx⟩:=hxi i a_ hi;exact(hcs i x a_ hx hi).2.1
    ·have:=aCy (G:=G0 w) (sz:=P.cellsOf e) (css:=css) (cs:=cs) 0 (by rw [hcl];omega) fun i a_ ha=>by
      obtain⟨x,hx⟩:=hxi i a_ ha;simpa using (hcs i x a_ hx ha).2.2
     simpa using this
   |_=>cases hok
end
end Go.Fw
namespace Go.Fw
open Go Go.WideShapes
inductive Typed(P:Program):List TypeId→List AV→Prop
 |nil:Typed P [] []
 |cons {t:TypeId} {ts:List TypeId} {cs:List AV} {avs:List AV} (h:TyC P t cs) (k:Typed P ts avs):Typed P (t::ts) (mkV P t cs::avs)
def aED(P:Program):List (String×DataW Unit)→Option (List (Nat×AV))
 | []=>some []
 |(n,d)::r=>
  match P.globalNamed n,aED P r with
  |some g,some gs=>
   match(P.globals[g]?).map (·.type) with
   |some t=>match gL P t d with|some cs=>some ((g,mkV P t cs)::gs)|none=>none
   |none=>none
  |_,_=>none
def aEN(P:Program)(ts:List TypeId):List (String×DataW Unit)→Bool
 | []=>true
 |(n,_)::r=>(match P.globalNamed n with|some g=>(match(P.globals[g]?).map (·.type) with|some t=>ts.contains t|none=>false)|none=>false)&&aEN P ts r
section
variable {P : Program} {P' : aS} {H : Type} {enc : TypeId × Value → H} {W : World} {ts : List TypeId}
theorem trod_lt{t:TypeId}{v:Value}{d:DataW H}{ps:List MemPlace}{sp:Nat→Bool}{held:Bool}(h:DataW.Trod enc P W 0 sp held t v d ps): ∀x∈ps,x.block<W.heap.size:=by
 obtain⟨m,hm⟩:=h;exact DataW.trod_lt m _ _ _ hm
theorem xI(hl:laidOutB P=true){W':World}(hb:RowKit.Below W.heap.size W W'): ∀{us:List TypeId}{vs:List Value}{ds:List (DataW H)}{ps:List MemPlace},(us.all fun t=>P.readableRec t&&decide (t<P.types.size))=true→
  DataW.TrodAll enc P W 0 (fun _=>true) true us vs ds ps→DataW.TrodAll enc P W' 0 (fun b=>decide (b<W.heap.size)) true us vs ds ps
 | [],[],[],_,_,h=>h
 |t::us,v::vs,d::ds,ps,hc,h=>by
  obtain⟨p,q,h1,h2,h3⟩:=h;simp only [List.all_cons,Bool.and_eq_true,decide_eq_true_eq] at hc;exact⟨p,q,RowKit.Below.trod hl hc.1.1 hc.1.2 h1 hb (trod_lt h1),xI hl hb (by simpa using hc.2) h2,h3⟩
 | [],[],_::_,_,_,h=>h.elim
 | [],_::_,_,_,_,h=>h.elim
 |_::_,[],_,_,_,h=>h.elim
 |_::_,_::_,[],_,_,h=>h.elim
theorem aKb(hts:ts.all (aHu P ts)=true): ∀{l:List (String×DataW Unit)}{ps:List MemPlace}{gl:List (Nat×AV)},aEN P ts l=true→aED P l=some gl→DataW.LaidVars P W l ps→ ∀g,R (G0 W) (.v (.aF (aCI gl g) 0) (.pointer (some ⟨g,0,none⟩)))
 | [],ps,gl,_,hg,_,g=>by
  simp only [aED,Option.some.injEq] at hg;subst hg;have:=R.aF (G:=G0 W) (v:= .agg []) (vs:= []) (b:=g) (o:=0) 0 (.tQ .gN) (fun j x hx=>by simp at hx);simpa [aCI] using this
 |(n,d)::r,ps,gl,ht,hg,h,g=>by
  obtain⟨g0,t,cs,fuel,p,q,h1,h2,h3,h4,h5,_⟩:=h;simp only [aEN,Bool.and_eq_true,h1,h2] at ht;simp only [aED,h1] at hg;split at hg
  ·rename_i gg gs hgg hgs;cases hgg;obtain⟨a_,k1,k2,k3⟩:=aJj hts fuel (contains_of ht.1) h4;have k1':gL P t d=some a_:=k1;rw [h2] at hg;simp only [k1',Option.some.injEq] at hg;subst hg;simp only [aCI];cases hb:Nat.beq g g0 with
   |false=>exact aKb hts ht.2 hgs h5 g
   |true=>
    have:=Nat.eq_of_beq_eq_true hb;subst this;have hcell: ∀j x,cs.toList[j]?=some x→(G0 W).M g (0+j)=some x:=fun j x hx=>by
     unfold World.var? at h3;rw [h1] at h3;simp only [Option.bind_some] at h3;split at h3
     ·rename_i cs' _ _ hh;cases h3;simp only [G0,World.cell?,hh,Nat.zero_add];simpa using hx
     ·cases h3
    have:=R.aF (G:=G0 W) (b:=g) (o:=0) 0 (k2.c k3) hcell;simpa using this
  ·cases hg
end
end Go.Fw
set_option maxRecDepth 100000
namespace Go.Proofs.YtelnnehpbkainaaGreatDoor.Code
open Go Go.Fw
noncomputable def tab:Tab:=(.node 126 (.node 63 (.node 31 (.node 15 (.node 7 .none (.node 11 (.node 9 (.node 8 (.leaf 7 c7) .none) .none) (.node 13 .none (.node 14 (.leaf 13 c13) .none)))) (.node 23 (.node 19 (.node 17 (.node 16 (.leaf 15 c15) .none) (.node 18 (.leaf 17 (cD 17 hz)) (.leaf 18 c18))) (.node 21 (.node 20 .none (.leaf 20 (cD 20 ⟨[],[],[25],[],[]⟩))) (.node 22 (.leaf 21 (cD 21 ⟨[],[1],[183,178,173,166,107,106,102,101,99,98,94,93,91,90,86,85,84,83,82,78,77,76,75,74,73,69,68,67,66,65,64,60,54,53,52,51,46,41,40,36,35,34,33,31,30,29,28,27,26],[],[]⟩)) (.leaf 22 (cD 22 ⟨[3,2],[],[17,9],[],[]⟩))))) (.node 27 (.node 25 (.node 24 .none (.leaf 24 (cD 24 ⟨[1],[],[41,10],[],[]⟩))) (.node 26 .none (.leaf 26 (cD 26 hz)))) (.node 29 (.node 28 (.leaf 27 (cD 27 hz)) (.leaf 28 (cD 28 ⟨[],[],[4],[],[]⟩))) (.node 30 (.leaf 29 (cD 29 hz)) (.leaf 30 (cD 30 ⟨[5,4],[],[],[],[]⟩))))))) (.node 47 (.node 39 (.node 35 (.node 33 (.node 32 (.leaf 31 (cD 31 ⟨[1],[4,3],[],[],[]⟩)) (.leaf 32 c32)) (.node 34 (.leaf 33 c33) .none)) (.node 37 (.node 36 (.leaf 35 c35) .none) .none)) (.node 43 .none (.node 45 (.node 44 .none (.leaf 44 (cD 44 ⟨[5,4,3],[],[],[],[]⟩))) (.node 46 .none (.leaf 46 c46))))) (.node 55 (.node 51 (.node 49 (.node 48 (.leaf 47 c47) (.leaf 48 c48)) .none) (.node 53 .none (.node 54 (.leaf 53 (cD 53 ⟨[3,2],[],[],[],[10,5]⟩)) (.leaf 54 (cD 54 ⟨[],[],[1],[],[]⟩))))) (.node 59 (.node 57 (.node 56 (.leaf 55 (cD 55 ⟨[],[],[11,6],[],[]⟩)) (.leaf 56 (cD 56 ⟨[3,2],[],[],[],[]⟩))) (.node 58 (.leaf 57 (cD 57 ⟨[3,2],[],[],[],[]⟩)) (.leaf 58 (cD 58 ⟨[1],[],[],[],[]⟩)))) (.node 61 .none (.node 62 (.leaf 61 c61) (.leaf 62 c62))))))) (.node 94 (.node 78 (.node 70 (.node 66 (.node 64 (.leaf 63 c63) (.node 65 (.leaf 64 c64) .none)) .none) (.node 74 .none (.node 76 .none (.node 77 .none (.leaf 77 c77))))) (.node 86 (.node 82 (.node 80 .none (.node 81 .none (.leaf 81 c81))) (.node 84 (.node 83 (.leaf 82 c82) (.leaf 83 c83)) (.node 85 (.leaf 84 c84) .none))) (.node 90 (.node 88 .none (.node 89 .none (.leaf 89 (cD 89 hz)))) (.node 92 (.node 91 (.leaf 90 (cD 90 ⟨[],[],[8],[],[]⟩)) (.leaf 91 (cD 91 ⟨[13,1],[8,7,5],[],[],[]⟩))) (.node 93 (.leaf 92 (cD 92 ⟨[],[16,14,10,8,6],[29],[],[]⟩)) (.leaf 93 (cD 93 hz))))))) (.node 110 (.node 102 (.node 98 (.node 96 (.node 95 (.leaf 94 (cD 94 ⟨[3],[5,4],[],[],[]⟩)) (.leaf 95 (cD 95 ⟨[100,60,5,4,3],[7],[81,51],[],[42,24]⟩))) (.node 97 (.leaf 96 (cD 96 ⟨[],[3],[5],[],[]⟩)) (.leaf 97 (cD 97 ⟨[1],[11,7,4],[80,73,69,57,50,37],[],[]⟩)))) (.node 100 (.node 99 (.leaf 98 c98) .none) .none)) (.node 106 .none (.node 108 .none (.node 109 .none (.leaf 109 aPh))))) (.node 118 (.node 114 (.node 112 (.node 111 (.leaf 110 aRi) .none) (.node 113 .none (.leaf 113 aP6))) (.node 116 (.node 115 (.leaf 114 aQP) (.leaf 115 aQr)) (.node 117 (.leaf 116 aRk) (.leaf 117 aQJ)))) (.node 122 (.node 120 (.node 119 (.leaf 118 aPX) (.leaf 119 aQN)) (.node 121 (.leaf 120 aQx) (.leaf 121 aQq))) (.node 124 (.node 123 (.leaf 122 aQk) (.leaf 123 aQd)) (.node 125 .none (.leaf 125 (cD 125 ⟨[],[2],[],[],[]⟩))))))))) (.node 189 (.node 157 (.node 141 (.node 133 (.node 129 (.node 127 (.leaf 126 (cD 126 ⟨[],[],[8],[],[]⟩)) (.node 128 (.leaf 127 aPY) (.leaf 128 (cD 128 hz)))) (.node 131 (.node 130 (.leaf 129 (cD 129 ⟨[4],[12,8],[64,20],[],[]⟩)) (.leaf 130 (cD 130 ⟨[3],[4],[],[],[]⟩))) (.node 132 (.leaf 131 (cD 131 ⟨[3],[4],[],[],[]⟩)) (.leaf 132 (cD 132 ⟨[3],[],[21],[],[]⟩))))) (.node 137 (.node 135 (.node 134 (.leaf 133 (cD 133 ⟨[3],[],[13],[],[23]⟩)) (.leaf 134 (cD 134 ⟨[3],[],[13],[],[]⟩))) (.node 136 (.leaf 135 (cD 135 ⟨[3],[],[25],[],[]⟩)) (.leaf 136 (cD 136 ⟨[1],[],[],[],[]⟩)))) (.node 139 (.node 138 (.leaf 137 aQs) (.leaf 138 (cD 138 hz))) (.node 140 (.leaf 139 (cD 139 ⟨[3,2],[6],[14],[],[44]⟩)) (.leaf 140 (cD 140 hz)))))) (.node 149 (.node 145 (.node 143 (.node 142 (.leaf 141 (cD 141 ⟨[],[],[6],[],[]⟩)) (.leaf 142 (cD 142 ⟨[2],[],[7],[],[]⟩))) (.node 144 (.leaf 143 (cD 143 ⟨[2],[],[],[],[]⟩)) (.leaf 144 (cD 144 ⟨[2],[],[11],[],[]⟩)))) (.node 147 (.node 146 (.leaf 145 (cD 145 ⟨[1],[5],[48,44,25,21],[],[]⟩)) (.leaf 146 (cD 146 ⟨[1],[4],[32,25,14],[],[]⟩))) (.node 148 (.leaf 147 aQG) (.leaf 148 (cD 148 ⟨[1],[5],[],[],[]⟩))))) (.node 153 (.node 151 (.node 150 (.leaf 149 aQY) (.leaf 150 aQb)) .none) .none))) (.node 173 (.node 165 (.node 161 .none (.node 163 .none (.node 164 .none (.leaf 164 aRf)))) (.node 169 (.node 167 (.node 166 (.leaf 165 (cD 165 ⟨[],[],[5],[],[]⟩)) .none) (.node 168 (.leaf 167 aN9) (.leaf 168 aFN))) (.node 171 (.node 170 (.leaf 169 aRj) (.leaf 170 aQw)) (.node 172 (.leaf 171 aQu) (.leaf 172 aQ7))))) (.node 181 (.node 177 (.node 175 (.node 174 (.leaf 173 aP9) .none) (.node 176 (.leaf 175 aN8) (.leaf 176 (cD 176 ⟨[3],[],[],[],[]⟩)))) (.node 179 (.node 178 (.leaf 177 (cD 177 ⟨[3,2],[],[],[],[]⟩)) (.leaf 178 (cD 178 ⟨[],[9,8],[],[],[]⟩))) (.node 180 (.leaf 179 (cD 179 ⟨[3,2],[],[],[],[]⟩)) (.leaf 180 (cD 180 ⟨[3,2],[],[],[],[]⟩))))) (.node 185 (.node 183 (.node 182 (.leaf 181 (cD 181 ⟨[2],[],[29,27,20,18],[],[]⟩)) (.leaf 182 (cD 182 ⟨[],[9],[],[],[]⟩))) (.node 184 (.leaf 183 (cD 183 ⟨[2],[7],[],[],[]⟩)) (.leaf 184 (cD 184 ⟨[3],[],[],[],[]⟩)))) (.node 187 (.node 186 (.leaf 185 (cD 185 ⟨[2],[],[],[],[]⟩)) (.leaf 186 (cD 186 ⟨[3],[8,6],[],[],[]⟩))) (.node 188 (.leaf 187 (cD 187 hz)) (.leaf 188 (cD 188 hz)))))))) (.node 220 (.node 204 (.node 196 (.node 192 (.node 190 (.leaf 189 (cD 189 ⟨[1],[],[],[],[]⟩)) (.node 191 (.leaf 190 aO3) (.leaf 191 (cD 191 ⟨[],[4],[18,13],[],[]⟩)))) (.node 194 (.node 193 (.leaf 192 aIn) (.leaf 193 aQR)) (.node 195 (.leaf 194 aQM) (.leaf 195 aOP)))) (.node 200 (.node 198 (.node 197 (.leaf 196 aQ1) .none) .none) (.node 202 (.node 201 (.leaf 200 (cD 200 hz)) .none) (.node 203 (.leaf 202 aP4) .none)))) (.node 212 (.node 208 (.node 206 (.node 205 .none (.leaf 205 (cD 205 hz))) (.node 207 (.leaf 206 (cD 206 ⟨[2],[],[],[],[]⟩)) (.leaf 207 (cD 207 hz)))) (.node 210 (.node 209 (.leaf 208 (cD 208 ⟨[2],[],[],[],[]⟩)) (.leaf 209 (cD 209 hz))) (.node 211 (.leaf 210 (cD 210 ⟨[1],[],[9],[],[]⟩)) (.leaf 211 (cD 211 ⟨[1],[],[],[],[]⟩))))) (.node 216 (.node 214 (.node 213 (.leaf 212 aQQ) (.leaf 213 aQI)) .none) (.node 218 (.node 217 (.leaf 216 (cD 216 ⟨[],[11],[],[],[]⟩)) (.leaf 217 (cD 217 hz))) .none)))) (.node 236 (.node 228 (.node 224 (.node 222 .none (.node 223 (.leaf 222 (cD 222 hz)) (.leaf 223 (cD 223 hz)))) (.node 226 (.node 225 (.leaf 224 (cD 224 ⟨[5,4,3],[],[],[],[]⟩)) (.leaf 225 (cD 225 ⟨[1],[],[23,6],[],[]⟩))) (.node 227 (.leaf 226 (cD 226 hz)) (.leaf 227 (cD 227 ⟨[1],[],[],[],[]⟩))))) (.node 232 (.node 230 (.node 229 (.leaf 228 (cD 228 hz)) (.leaf 229 (cD 229 ⟨[1],[],[4],[],[]⟩))) (.node 231 (.leaf 230 aRl) (.leaf 231 aQ0))) (.node 234 .none (.node 235 (.leaf 234 (cD 234 ⟨[],[],[58,38],[],[]⟩)) .none)))) (.node 244 (.node 240 .none (.node 242 (.node 241 (.leaf 240 (cD 240 ⟨[3],[],[],[],[]⟩)) (.leaf 241 (cD 241 ⟨[1],[],[65,57,46,39,15,10],[],[]⟩))) (.node 243 (.leaf 242 (cD 242 hz)) (.leaf 243 (cD 243 hz))))) (.node 248 (.node 246 (.node 245 (.leaf 244 aO7) (.leaf 245 (cD 245 hz))) (.node 247 (.leaf 246 (cD 246 ⟨[],[10],[],[],[]⟩)) .none)) (.node 250 (.node 249 .none (.leaf 249 (cD 249 hz))) (.node 251 (.leaf 250 (cD 250 ⟨[1],[4],[25,20,15],[],[]⟩)) .none))))))))
end Go.Proofs.YtelnnehpbkainaaGreatDoor.Code
namespace Go.Proofs.YtelnnehpbkainaaGreatDoor
open Go Go.Fw
set_option maxRecDepth 100000
def gl0:List (Nat×AV):= [(3,(.aF (.agg [(.slice 3 [(.agg [(.int .u16 9),(.int .u16 13),(.int .u16 1)]),(.agg [(.int .u16 32),(.int .u16 133),(.int .u16 101)]),(.agg [(.int .u16 160),(.int .u16 5760),(.int .u16 5600)]),(.agg [(.int .u16 8192),(.int .u16 8202),(.int .u16 1)]),(.agg [(.int .u16 8232),(.int .u16 8233),(.int .u16 1)]),(.agg [(.int .u16 8239),(.int .u16 8287),(.int .u16 48)]),(.agg [(.int .u16 12288),(.int .u16 12288),(.int .u16 1)])] .no),(.slice 0 [] .no),(.int .i64 2)]) 0)),(2,(.agg [(.int .u8 0),(.int .u8 0),(.int .u8 0),(.int .u8 0),(.int .u8 0),(.int .u8 0),(.int .u8 0),(.int .u8 0),(.int .u8 0),(.int .u8 1),(.int .u8 1),(.int .u8 1),(.int .u8 1),(.int .u8 1),(.int .u8 0),(.int .u8 0),(.int .u8 0),(.int .u8 0),(.int .u8 0),(.int .u8 0),(.int .u8 0),(.int .u8 0),(.int .u8 0),(.int .u8 0),(.int .u8 0),(.int .u8 0),(.int .u8 0),(.int .u8 0),(.int .u8 0),(.int .u8 0),(.int .u8 0),(.int .u8 0),(.int .u8 1),(.int .u8 0),(.int .u8 0),(.int .u8 0),(.int .u8 0),(.int .u8 0),(.int .u8 0),(.int .u8 0),(.int .u8 0),(.int .u8 0),(.int .u8 0),(.int .u8 0),(.int .u8 0),(.int .u8 0),(.int .u8 0),(.int .u8 0),(.int .u8 0),(.int .u8 0),(.int .u8 0),(.int .u8 0),(.int .u8 0),(.int .u8 0),(.int .u8 0),(.int .u8 0),(.int .u8 0),(.int .u8 0),(.int .u8 0),(.int .u8 0),(.int .u8 0),(.int .u8 0),(.int .u8 0),(.int .u8 0),(.int .u8 0),(.int .u8 0),(.int .u8 0),(.int .u8 0),(.int .u8 0),(.int .u8 0),(.int .u8 0),(.int .u8 0),(.int .u8 0),(.int .u8 0),(.int .u8 0),(.int .u8 0),(.int .u8 0),(.int .u8 0),(.int .u8 0),(.int .u8 0),(.int .u8 0),(.int .u8 0),(.int .u8 0),(.int .u8 0),(.int .u8 0),(.int .u8 0),(.int .u8 0),(.int .u8 0),(.int .u8 0),(.int .u8 0),(.int .u8 0),(.int .u8 0),(.int .u8 0),(.int .u8 0),(.int .u8 0),(.int .u8 0),(.int .u8 0),(.int .u8 0),(.int .u8 0),(.int .u8 0),(.int .u8 0),(.int .u8 0),(.int .u8 0),(.int .u8 0),(.int .u8 0),(.int .u8 0),(.int .u8 0),(.int .u8 0),(.int .u8 0),(.int .u8 0),(.int .u8 0),(.int .u8 0),(.int .u8 0),(.int .u8 0),(.int .u8 0),(.int .u8 0),(.int .u8 0),(.int .u8 0),(.int .u8 0),(.int .u8 0),(.int .u8 0),(.int .u8 0),(.int .u8 0),(.int .u8 0),(.int .u8 0),(.int .u8 0),(.int .u8 0),(.int .u8 0),(.int .u8 0),(.int .u8 0),(.int .u8 0),(.int .u8 0),(.int .u8 0),(.int .u8 0),(.int .u8 0),(.int .u8 0),(.int .u8 0),(.int .u8 0),(.int .u8 0),(.int .u8 0),(.int .u8 0),(.int .u8 0),(.int .u8 0),(.int .u8 0),(.int .u8 0),(.int .u8 0),(.int .u8 0),(.int .u8 0),(.int .u8 0),(.int .u8 0),(.int .u8 0),(.int .u8 0),(.int .u8 0),(.int .u8 0),(.int .u8 0),(.int .u8 0),(.int .u8 0),(.int .u8 0),(.int .u8 0),(.int .u8 0),(.int .u8 0),(.int .u8 0),(.int .u8 0),(.int .u8 0),(.int .u8 0),(.int .u8 0),(.int .u8 0),(.int .u8 0),(.int .u8 0),(.int .u8 0),(.int .u8 0),(.int .u8 0),(.int .u8 0),(.int .u8 0),(.int .u8 0),(.int .u8 0),(.int .u8 0),(.int .u8 0),(.int .u8 0),(.int .u8 0),(.int .u8 0),(.int .u8 0),(.int .u8 0),(.int .u8 0),(.int .u8 0),(.int .u8 0),(.int .u8 0),(.int .u8 0),(.int .u8 0),(.int .u8 0),(.int .u8 0),(.int .u8 0),(.int .u8 0),(.int .u8 0),(.int .u8 0),(.int .u8 0),(.int .u8 0),(.int .u8 0),(.int .u8 0),(.int .u8 0),(.int .u8 0),(.int .u8 0),(.int .u8 0),(.int .u8 0),(.int .u8 0),(.int .u8 0),(.int .u8 0),(.int .u8 0),(.int .u8 0),(.int .u8 0),(.int .u8 0),(.int .u8 0),(.int .u8 0),(.int .u8 0),(.int .u8 0),(.int .u8 0),(.int .u8 0),(.int .u8 0),(.int .u8 0),(.int .u8 0),(.int .u8 0),(.int .u8 0),(.int .u8 0),(.int .u8 0),(.int .u8 0),(.int .u8 0),(.int .u8 0),(.int .u8 0),(.int .u8 0),(.int .u8 0),(.int .u8 0),(.int .u8 0),(.int .u8 0),(.int .u8 0),(.int .u8 0),(.int .u8 0),(.int .u8 0),(.int .u8 0),(.int .u8 0),(.int .u8 0),(.int .u8 0),(.int .u8 0),(.int .u8 0),(.int .u8 0),(.int .u8 0),(.int .u8 0),(.int .u8 0),(.int .u8 0),(.int .u8 0),(.int .u8 0),(.int .u8 0),(.int .u8 0),(.int .u8 0),(.int .u8 0),(.int .u8 0),(.int .u8 0)])),(1,(.agg [(.int .i64 1),(.int .i64 0),(.int .i64 0),(.int .i64 0),(.int .i64 0),(.int .i64 0),(.bool false),(.int .i64 0),(.int .i64 0),(.int .i64 0),(.int .i64 0),(.int .i64 0),(.int .i64 0),(.int .i64 0),(.int .i64 0),(.bool false),(.int .i64 (-999999999)),(.int .i64 999999999),(.int .i64 0),(.int .i64 0),(.int .i64 0),(.int .i64 0),(.int .i64 0),(.int .i64 0),(.bool false),(.int .i64 0),(.int .i64 1),(.int .i64 0),(.int .i64 0),(.int .i64 0),(.int .i64 0),(.int .i64 0),(.int .i64 0),(.bool false),(.int .i64 0),(.int .i64 0),(.int .i64 0),(.int .i64 0),(.int .i64 1),(.int .i64 0),(.int .i64 1),(.int .i64 0),(.bool false),(.int .i64 0),(.int .i64 0),(.int .i64 0),(.int .i64 0),(.int .i64 0),(.int .i64 0),(.int .i64 2),(.int .i64 0),(.bool false),(.int .i64 0),(.int .i64 0),(.int .i64 0),(.int .i64 0),(.int .i64 1),(.int .i64 0),(.int .i64 2),(.int .i64 0),(.bool false),(.int .i64 0),(.int .i64 0),(.int .i64 0),(.int .i64 0),(.int .i64 2),(.int .i64 0),(.int .i64 2),(.int .i64 0),(.bool false),(.int .i64 0),(.int .i64 0),(.int .i64 0),(.int .i64 0),(.int .i64 0),(.int .i64 0),(.int .i64 3),(.int .i64 0),(.bool false),(.int .i64 0),(.int .i64 0),(.int .i64 3),(.int .i64 0),(.int .i64 0),(.int .i64 0),(.int .i64 2),(.int .i64 0),(.bool false),(.int .i64 0),(.int .i64 0),(.int .i64 2),(.int .i64 0),(.int .i64 0),(.int .i64 0),(.int .i64 0),(.int .i64 4),(.bool false),(.int .i64 0),(.int .i64 0),(.int .i64 0),(.int .i64 0),(.int .i64 0),(.int .i64 0),(.int .i64 1),(.int .i64 0),(.bool true),(.int .i64 0),(.int .i64 0),(.int .i64 1),(.int .i64 0),(.int .i64 0),(.int .i64 0),(.int .i64 1),(.int .i64 0),(.bool false),(.int .i64 0),(.int .i64 0),(.int .i64 1),(.int .i64 1),(.int .i64 0),(.int .i64 0),(.int .i64 1),(.int .i64 0),(.bool false),(.int .i64 0),(.int .i64 0),(.int .i64 2),(.int .i64 0),(.int .i64 0),(.int .i64 0),(.int .i64 1),(.int .i64 0),(.bool true),(.int .i64 0),(.int .i64 1),(.int .i64 2),(.int .i64 0),(.int .i64 1),(.int .i64 0),(.int .i64 1),(.int .i64 0),(.bool true),(.int .i64 0),(.int .i64 0),(.int .i64 2),(.int .i64 0),(.int .i64 0),(.int .i64 0),(.int .i64 1),(.int .i64 0),(.bool false),(.int .i64 0),(.int .i64 0),(.int .i64 0),(.int .i64 0),(.int .i64 1),(.int .i64 12),(.int .i64 3),(.int .i64 0),(.bool false),(.int .i64 0),(.int .i64 0),(.int .i64 1),(.int .i64 0),(.int .i64 0),(.int .i64 0),(.int .i64 1),(.int .i64 0),(.bool false),(.int .i64 0),(.int .i64 0),(.int .i64 1),(.int .i64 0),(.int .i64 0),(.int .i64 0),(.int .i64 0),(.int .i64 0),(.bool false),(.int .i64 0),(.int .i64 0)])),(0,(.agg [(.int .i64 0),(.int .i64 1),(.int .i64 2),(.int .i64 3),(.int .i64 4),(.int .i64 6),(.int .i64 8),(.int .i64 9),(.int .i64 10),(.int .i64 11)]))]
end Go.Proofs.YtelnnehpbkainaaGreatDoor
namespace Go.Proofs.YtelnnehpbkainaaGreatDoor
open Go Go.Fw
noncomputable abbrev PP:aS:=yA Code.tab gl0
def fC:List Int:= [(0),(1),(2),(3),(4),(6),(8),(9),(10),(11)]
def jI:List a0:= [(a0.mk (1) (0) (0) (0) (0) (0) false (0) (0)),(a0.mk (0) (0) (0) (0) (0) (0) false (-999999999) (999999999)),(a0.mk (0) (0) (0) (0) (0) (0) false (0) (1)),(a0.mk (0) (0) (0) (0) (0) (0) false (0) (0)),(a0.mk (0) (0) (1) (0) (1) (0) false (0) (0)),(a0.mk (0) (0) (0) (0) (2) (0) false (0) (0)),(a0.mk (0) (0) (1) (0) (2) (0) false (0) (0)),(a0.mk (0) (0) (2) (0) (2) (0) false (0) (0)),(a0.mk (0) (0) (0) (0) (3) (0) false (0) (0)),(a0.mk (3) (0) (0) (0) (2) (0) false (0) (0)),(a0.mk (2) (0) (0) (0) (0) (4) false (0) (0)),(a0.mk (0) (0) (0) (0) (1) (0) true (0) (0)),(a0.mk (1) (0) (0) (0) (1) (0) false (0) (0)),(a0.mk (1) (1) (0) (0) (1) (0) false (0) (0)),(a0.mk (2) (0) (0) (0) (1) (0) true (0) (1)),(a0.mk (2) (0) (1) (0) (1) (0) true (0) (0)),(a0.mk (2) (0) (0) (0) (1) (0) false (0) (0)),(a0.mk (0) (0) (1) (12) (3) (0) false (0) (0)),(a0.mk (1) (0) (0) (0) (1) (0) false (0) (0)),(a0.mk (1) (0) (0) (0) (0) (0) false (0) (0))]
theorem wT:cellsOf (PP.gl 1)=jI.flatMap fun x=>cellsOf (uX x):=by kernel_rfl
end Go.Proofs.YtelnnehpbkainaaGreatDoor
namespace Go.Fw
open Go
inductive Tr where
 |nil
 |node (v:Option AV) (l r:Tr)
def Tr.get:Tr→List Bool→Option AV
 | .nil,_=>none
 | .node v _ _,[]=>v
 | .node _ l _,true::p=>l.get p
 | .node _ _ r,false::p=>r.get p
def Tr.left:Tr→Tr
 | .nil=> .nil
 | .node _ l _=>l
def Tr.right:Tr→Tr
 | .nil=> .nil
 | .node _ _ r=>r
def Tr.val:Tr→Option AV
 | .nil=>none
 | .node v _ _=>v
def Tr.set:Tr→List Bool→AV→Tr
 |t,[],v=> .node (some v) t.left t.right
 |t,true::p,v=> .node t.val (t.left.set p v) t.right
 |t,false::p,v=> .node t.val t.left (t.right.set p v)
def path:Nat→Nat→List Bool
 |0,_=> []
 |f+1,i=>match i with
  |0=> []
  |_=>match Nat.beq (Nat.mod i 2) 1 with
   |true=>true::path f (Nat.div i 2)
   |false=>false::path f (Nat.sub (Nat.div i 2) 1)
def yB:List Bool→Nat
 | []=>0
 |true::p=>2*yB p+1
 |false::p=>2*yB p+2
theorem sC: ∀{f i:Nat},i≤f→yB (path f i)=i
 |0,i,h=>by simp [path,yB];omega
 |f+1,0,h=>by simp [path,yB]
 |f+1,i+1,h=>by
  simp only [path,show∀a b,Nat.mod a b=a%b from fun _ _=>rfl,show∀a b,Nat.div a b=a/b from fun _ _=>rfl,show∀a b,Nat.sub a b=a-b from fun _ _=>rfl];cases hb:Nat.beq ((i+1)%2) 1 with
  |true=>
   have:=Nat.eq_of_beq_eq_true hb;simp only [yB];rw [sC (by omega)];omega
  |false=>
   have:(i+1)%2≠1:=fun hq=>by rw [hq] at hb;cases hb
   simp only [yB];rw [sC (by omega)];omega
theorem aMQ{i j:Nat}(h:path i i=path j j):i=j:=by
 rw [←sC (Nat.le_refl i),h,sC (Nat.le_refl j)]
theorem Tr.get_nil(p:List Bool):Tr.nil.get p=none:=by cases p<;>rfl
theorem Tr.aCT(t:Tr)(p:List Bool):t.left.get p=t.get (true::p):=by cases t with|nil=>simp [Tr.left,Tr.get]|node=>rfl
theorem Tr.aAx(t:Tr)(p:List Bool):t.right.get p=t.get (false::p):=by cases t with|nil=>simp [Tr.right,Tr.get]|node=>rfl
theorem Tr.aJU(t:Tr):t.val=t.get []:=by cases t<;>rfl
theorem Tr.aEx: ∀(p:List Bool)(t:Tr)(v:AV)(q:List Bool),(t.set p v).get q=if q=p then some v else t.get q
 | [],t,v,q=>by
  cases q with
  |nil=>simp [Tr.set,Tr.get]
  |cons b q=>cases b<;>simp [Tr.set,Tr.get,Tr.aCT,Tr.aAx]
 |true::p,t,v,q=>by
  cases q with
  |nil=>simp [Tr.set,Tr.get,Tr.aJU]
  |cons b q=>cases b<;>simp [Tr.set,Tr.get,Tr.aEx p,Tr.aCT,Tr.aAx]
 |false::p,t,v,q=>by
  cases q with
  |nil=>simp [Tr.set,Tr.get,Tr.aJU]
  |cons b q=>cases b<;>simp [Tr.set,Tr.get,Tr.aEx p,Tr.aCT,Tr.aAx]
structure TE where
 base:Env
 ov:Tr
def TE.env(t:TE):Env:=fun i=>match t.ov.get (path i i) with|some v=>v|none=>t.base i
def TE.upd(t:TE)(d:Nat)(v:AV):TE:={t with ov:=t.ov.set (path d d) v}
def TE.eU(t:TE)(d:Option Nat)(v:AV):TE:=match d with|some i=>t.upd i v|none=>t
theorem TE.aOc(t:TE)(d:Nat)(v:AV):(t.upd d v).env=Fw.upd t.env d v:=by
 funext i
 simp only [TE.env,TE.upd,Tr.aEx,Fw.upd];cases hb:Nat.beq i d with
 |true=>rw [if_pos (by rw [Nat.eq_of_beq_eq_true hb])]
 |false=>rw [if_neg (fun h=>by rw [aMQ h,Nat.beq_refl] at hb;cases hb)]
theorem TE.aFA(t:TE)(d:Option Nat)(v:AV):(t.eU d v).env=Fw.eU t.env d v:=by cases d with|none=>rfl|some i=>exact t.aOc i v
theorem TE.aJo(e:Env):(⟨e,.nil⟩:TE).env=e:=by funext i;simp [TE.env,Tr.get_nil]
structure TF where
 env:TE
 ds:List hY
def TF.fr(f:TF):Fr:=⟨f.env.env,f.ds⟩
def TF.put(f:TF)(d:Option Nat)(v:AV):TF:={f with env:=f.env.eU d v}
theorem TF.xX(f:TF)(d:Option Nat)(v:AV):(f.put d v).fr={f.fr with env:=eU f.fr.env d v}:=by
 simp only [TF.fr,TF.put,TE.aFA]
inductive aNv where
 |norm (fr:TF) (s:ASt)
 |pan (v:AV) (fr:TF) (s:ASt)
def aNv.out:aNv→pM
 | .norm fr s=> .norm fr.fr s
 | .pan v fr s=> .pan v fr.fr s
abbrev w9:=Nat→List AV→Option AV
def MOk(M:w9)(H:Handler):Prop:= ∀g args v,M g args=some v→ ∃v0 s2,H.call (.func g) args dK=some (.ret v0,s2)∧mO v0=some v∧cR v=true
def fP(H:Handler)(P:aS)(M:w9):List AI→List (Nat×Nat)→TF→ASt→Option aNv
 | [],_,fr,s=>some (.norm fr s)
 |i::rest,pd,fr,s=>
  match wanted fr.env.env i.gd with
  |none=>none
  |some false=>fP H P M rest (aK i.d pd) (fr.put i.d fA) s
  |some true=>
   match i.op with
   | .pend z=>match i.d with|some d=>fP H P M rest ((d,z.length)::aK i.d pd) (fr.put (some d) .lU) s|none=>none
   | .shut d sz x=>
    match i.d,gP (evO P fr.env.env x) with
    |none,some v=>match decide ((cellsOf v).length=sz)&&pd.any (fun p=>Nat.beq p.1 d&&Nat.beq p.2 sz) with|true=>fP H P M rest (aK (some d) pd) (fr.put (some d) (.aF v 0)) s|false=>none
    |_,_=>none
   | .defer f args=>
    match evO P fr.env.env f,dL (args.map (evO P fr.env.env)) with
    | .func g a b,some vs=>fP H P M rest (aK i.d pd) {env:=fr.env.eU i.d fA,ds:= .call g (a++vs++b)::fr.ds} s
    |_,_=>none
   | .panic x=>match evO P fr.env.env x with| .iface t v=>some (.pan (.iface t v) fr s)|_=>none
   | .aW st f args=>
    match evO P fr.env.env f,dL (args.map (evO P fr.env.env)) with
    | .func g a b,some vs=>
     match(!st&&isE s)||eM (a++vs++b) with
     |true=>
      match M g (a++vs++b) with
      |some v=>fP H P M rest (aK i.d pd) (fr.put i.d v) s
      |none=>
       match H.call (.func g) (a++vs++b) dK with
       |some (.ret v,s2)=>
        match mO v with
        |some v=>match isE s2||cR v with|true=>fP H P M rest (aK i.d pd) (fr.put i.d v) s|false=>none
        |none=>none
       |_=>none
     |false=>none
    |_,_=>none
   | .call f args=>
    match target (evO P fr.env.env f),rL s (args.map (evO P fr.env.env)) with
    |some (g,a,b),some (vs,s1)=>
     match H.call g (a++vs++b) s1 with
     |some (.ret v,s2)=>fP H P M rest (aK i.d pd) (fr.put i.d v) s2
     |some (.panic v,s2)=>some (.pan v fr s2)
     |none=>none
    |_,_=>none
   |op=>
    match cX P fr.env.env s op with
    |some (v,s1)=>fP H P M rest (aK i.d pd) (fr.put i.d v) s1
    |none=>none
structure CT where
 ex:cY
 fr:TF
 s:ASt
def CT.out(r:CT):CR:=⟨r.ex,r.fr.fr,r.s⟩
def aAS(step:TF→ASt→Option CT):Nat→TF→ASt→Option CT
 |0,_,_=>none
 |n+1,fr,s=>
  match step fr s with
  |some r=>match r.ex with| .normal=>aAS step n r.fr r.s|_=>some r
  |none=>none
def nF(H:Handler)(P:aS)(M:w9)(rd:Option Nat)(lf:Nat):AC→TF→ASt→Option CT
 | .skip,fr,s=>some ⟨.normal,fr,s⟩
 | .reg _ ops,fr,s=>
  match fP H P M ops [] fr s with
  |some (.norm fr s)=>some ⟨.normal,fr,s⟩
  |some (.pan v fr s)=>some ⟨.panic v,fr,s⟩
  |none=>none
 | .seq a b,fr,s=>
  match nF H P M rd lf a fr s with
  |some r=>match r.ex with| .normal=>nF H P M rd lf b r.fr r.s|_=>some r
  |none=>none
 | .cond c t e,fr,s=>
  match evO P fr.env.env c with
  | .bool b=>match b with|true=>nF H P M rd lf t fr s|false=>nF H P M rd lf e fr s
  |_=>none
 | .block id b,fr,s=>
  match nF H P M rd lf b fr s with
  |some r=>match r.ex with| .exit j=>(match Nat.beq j id with|true=>some ⟨.normal,r.fr,r.s⟩|false=>some r)|_=>some r
  |none=>none
 | .loop b,fr,s=>aAS (nF H P M rd lf b) lf fr s
 | .exit id,fr,s=>some ⟨.exit id,fr,s⟩
 | .ret,fr,s=>some ⟨.ret,fr,s⟩
 | .scope b,fr,s=>nF H P M rd lf b fr s
 | .lY f params assign body,fr,s=>
  match qC rd params assign body fr.fr s,evO P fr.env.env f with
  |some (l,mark,s1),.func g a b=>
   match zD P g,H.call (.func g) (a++ .yield l::b) s1 with
   |true,some (.ret _,s2)=>
    match s2.blks[l]? with
    |some (.loop lp)=>
     match lp.st with
     | .busy=>none
     |_=>some ⟨lp.pend.getD .normal,{fr with ds:=mark++fr.ds},{s2 with blks:=s2.blks.set l (.loop {lp with st:= .exhausted})}⟩
    |_=>none
   |true,some (.panic v,s2)=>some ⟨.panic v,{fr with ds:=mark++fr.ds},s2⟩
   |_,_=>none
  |_,_=>none
def aB9(H:Handler)(P:aS)(M:w9)(lf:Nat)(l:Nat)(args:List AV)(s:ASt):Option (jM×ASt):=
 match s.blks[l]? with
 |some (.loop lp)=>
  match decide (lp.st= .ready),decide (args.length=lp.params.length) with
  |true,true=>
   match nF H P M (some l) lf lp.assign ⟨⟨mX lp.env lp.params args,.nil⟩,[]⟩ s with
   |some ⟨.normal,⟨e1,[]⟩,s1⟩=>
    match iS s1 l with
    |some s2=>
     match nF H P M (some l) lf lp.body ⟨e1,[]⟩ s2 with
     |some ⟨ex,⟨_,[]⟩,s3⟩=>
      match ex with
      | .panic v=>some (.panic v,s3)
      | .normal=>match dW s3 l fun lp=>{lp with st:= .ready,pend:=none} with|some s4=>some (.ret (.bool true),s4)|none=>none
      |ex=>match dW s3 l fun lp=>{lp with st:= .done,pend:=some ex} with|some s4=>some (.ret (.bool false),s4)|none=>none
     |_=>none
    |none=>none
   |_=>none
  |_,_=>none
 |_=>none
def runT(H:Handler)(P:aS)(M:w9)(lf:Nat)(f:AF)(args:List AV)(s:ASt):Option (jM×ASt):=
 match Nat.ble args.length f.nt with
 |false=>none
 |true=>
 match nF H P M none lf f.body ⟨⟨gI args,.nil⟩,[]⟩ (aT s) with
 |some ⟨ex,fr,s1⟩=>
  match(match ex with| .normal=>some DM.ret| .ret=>some DM.ret| .panic v=>some (DM.pan v)| .exit _=>none) with
  |some m=>
   match g7 H fr.ds m s1 with
   |some (.pan v,s2)=>some (.panic v,eQ s (toks v) (dE s (m9 v) s2))
   |some (.ret,s2)=>
    match jK P fr.env.env s2 f.res with
    |some vs=>
     match nE s2 vs with
     |some (v,s3)=>match settle s v s3 with|(v,s4)=>some (.ret v,s4)
     |none=>none
    |none=>none
   |none=>none
  |none=>none
 |none=>none
def tK(P:aS)(M:w9):Nat→Handler
 |0=>{call:=fun _ _ _=>none,dcall:=fun _ _ _ _=>none}
 |n+1=>
  {call:=fun g args s=>
    match g with
    | .func f=>
     match P.prim f with
     |some p=>p args s
     |none=>match P.fn f with|some af=>runT (tK P M n) P M n af args s|none=>none
    | .yield l=>aB9 (tK P M n) P M n l args s
   dcall:=fun f args m s=>match P.fn f with|some af=>aBf (tK P M n) P n af args m s|none=>none}
section
variable {H H' : Handler} {P : aS} {M : w9}
theorem lI(hH:Hle H H')(hM:MOk M H'): ∀{is:List AI}{pd:List (Nat×Nat)}{fr:TF}{s:ASt}{r:aNv},fP H P M is pd fr s=some r→bG H' P is pd fr.fr s=some r.out
 | [],_,_,_,_,h=>by cases h;rfl
 |⟨d',op,gd,pre⟩::rest,pd,fr,s,r,h=>by
  cases hw:wanted fr.env.env gd with
  |none=>simp [fP,hw] at h
  |some b=>
   have hw':wanted fr.fr.env gd=some b:=hw;cases b with
   |false=>
    simp only [fP,hw] at h;simp only [bG,hw'];have:=lI hH hM h;rwa [TF.xX] at this
   |true=>
    cases hp:plainO op with
    |true=>
     rw [aB7 hp hw'];have e1:fP H P M (⟨d',op,gd,pre⟩::rest) pd fr s=(match cX P fr.env.env s op with|some (v,s1)=>fP H P M rest (aK d' pd) (fr.put d' v) s1|none=>none):=by
      simp only [fP,hw];cases op<;>first|rfl|(simp [plainO] at hp)
     rw [e1] at h;have e2:fr.fr.env=fr.env.env:=rfl;rw [e2];cases hs:cX P fr.env.env s op with
     |none=>rw [hs] at h;cases h
     |some x=>
      rw [hs] at h;have:=lI hH hM h;rwa [TF.xX] at this
    |false=>
     cases op<;>first|(simp [plainO] at hp;done)|skip
     case pend z=>
      cases d' with
      |none=>simp [fP,hw] at h
      |some d=>
       simp only [fP,hw] at h;simp only [bG,hw'];have:=lI hH hM h;rwa [TF.xX] at this
     case shut d sz x=>
      cases d' with
      |some d=>simp [fP,hw] at h
      |none=>
       simp only [fP,hw] at h;simp only [bG,hw'];have e2:evO P fr.fr.env x=evO P fr.env.env x:=rfl;rw [e2];cases hf:gP (evO P fr.env.env x) with
       |none=>simp [hf] at h
       |some v=>
        simp only [hf] at h⊢;cases hc:(decide ((cellsOf v).length=sz)&&pd.any (fun p=>Nat.beq p.1 d&&Nat.beq p.2 sz)) with
        |false=>rw [hc] at h;cases h
        |true=>
         rw [hc] at h;rw [if_pos rfl];have:=lI hH hM h;rwa [TF.xX] at this
     case defer f args=>
      simp only [fP,hw] at h;simp only [bG,hw'];have e2:fr.fr.env=fr.env.env:=rfl;rw [e2];split at h
      ·rename_i h1 h2
       (try simp only [h1,h2])
       have:=lI hH hM h;simp only [TF.fr,TE.aFA] at this;exact this
      ·cases h
     case panic x=>
      simp only [fP,hw] at h;simp only [bG,hw'];have e2:fr.fr.env=fr.env.env:=rfl;rw [e2];split at h
      ·rename_i t v hx;cases h;(try simp only [hx]);rfl
      ·cases h
     case aW st f args=>
      simp only [fP,hw] at h;simp only [bG,hw'];have e2:fr.fr.env=fr.env.env:=rfl;rw [e2];split at h
      ·rename_i g a b vs h1 h2
       (try simp only [h1,h2])
       cases hp3:((!st&&isE s)||eM (a++vs++b)) with
       |false=>rw [hp3] at h;cases h
       |true=>
        rw [hp3] at h;simp only at h;cases hm:M g (a++vs++b) with
        |some v=>
         rw [hm] at h;obtain⟨v0,s2,k1,k2,k3⟩:=hM _ _ _ hm;simp only [k1,k2,k3,Bool.or_true];have:=lI hH hM h;rwa [TF.xX] at this
        |none=>
         rw [hm] at h;simp only at h;split at h
         ·rename_i v s2 h4;simp only [hH.call _ _ _ _ h4];split at h
          ·rename_i v' h5
           (try simp only [h5])
           split at h
           ·rename_i h6
            (try simp only [h6])
            have:=lI hH hM h;rwa [TF.xX] at this
           ·cases h
          ·cases h
         ·cases h
      ·cases h
     case call f args=>
      simp only [fP,hw] at h;simp only [bG,hw'];have e2:fr.fr.env=fr.env.env:=rfl;rw [e2];split at h
      ·rename_i g a b vs s1 h1 h2
       (try simp only [h1,h2])
       split at h
       ·rename_i v s2 h3;simp only [hH.call _ _ _ _ h3];have:=lI hH hM h;rwa [TF.xX] at this
       ·rename_i v s2 h3;simp only [hH.call _ _ _ _ h3];cases h;rfl
       ·cases h
      ·cases h
theorem aFG{f:TF→ASt→Option CT}{f':Fr→ASt→Option CR}(hf: ∀fr s r,f fr s=some r→f' fr.fr s=some r.out): ∀{k k':Nat}{fr:TF}{s:ASt}{r:CT},k≤k'→aAS f k fr s=some r→mU f' k' fr.fr s=some r.out
 |0,_,_,_,_,_,h=>by simp [aAS] at h
 |k+1,0,_,_,_,hk,_=>by omega
 |k+1,k'+1,fr,s,r,hk,h=>by
  simp only [aAS] at h;simp only [mU];cases hs:f fr s with
  |none=>rw [hs] at h;cases h
  |some x=>
   rw [hs] at h;rw [hf _ _ _ hs];obtain⟨ex,fr1,s1⟩:=x;cases ex with
   |normal=>simp only [CT.out] at h⊢;exact aFG hf (by omega) h
   |exit i=>cases h;rfl
   |ret=>cases h;rfl
   |panic v=>cases h;rfl
theorem oW(hH:Hle H H')(hM:MOk M H'){rd:Option Nat}{lf lf':Nat}(hl:lf≤lf'): ∀(c:AC){fr:TF}{s:ASt}{r:CT},nF H P M rd lf c fr s=some r→evC H' P rd lf' c fr.fr s=some r.out
 | .skip,_,_,_,h=>by cases h;rfl
 | .exit _,_,_,_,h=>by cases h;rfl
 | .ret,_,_,_,h=>by cases h;rfl
 | .scope b,fr,s,r,h=>by simp only [nF] at h;simp only [evC];exact oW hH hM hl b h
 | .reg _ ops,fr,s,r,h=>by
  simp only [nF] at h;simp only [evC];cases he:fP H P M ops [] fr s with
  |none=>rw [he] at h;cases h
  |some x=>
   rw [he] at h;rw [lI hH hM he];cases x with
   |norm fr1 s1=>cases h;rfl
   |pan v fr1 s1=>cases h;rfl
 | .seq a b,fr,s,r,h=>by
  simp only [nF] at h;simp only [evC];cases he:nF H P M rd lf a fr s with
  |none=>rw [he] at h;cases h
  |some x=>
   rw [he] at h;rw [oW hH hM hl a he];obtain⟨ex,fr1,s1⟩:=x;cases ex with
   |normal=>simp only [CT.out] at h⊢;exact oW hH hM hl b h
   |exit i=>cases h;rfl
   |ret=>cases h;rfl
   |panic v=>cases h;rfl
 | .cond c t e,fr,s,r,h=>by
  simp only [nF] at h;simp only [evC];have e2:fr.fr.env=fr.env.env:=rfl;rw [e2];split at h
  ·rename_i b hb
   (try simp only [hb])
   cases b with
   |true=>exact oW hH hM hl t h
   |false=>exact oW hH hM hl e h
  ·cases h
 | .block id b,fr,s,r,h=>by
  simp only [nF] at h;simp only [evC];cases he:nF H P M rd lf b fr s with
  |none=>rw [he] at h;cases h
  |some x=>
   rw [he] at h;rw [oW hH hM hl b he];obtain⟨ex,fr1,s1⟩:=x;cases ex with
   |normal=>cases h;rfl
   |ret=>cases h;rfl
   |panic v=>cases h;rfl
   |exit j=>
    simp only [CT.out] at h⊢;cases hj:Nat.beq j id with
    |true=>rw [hj] at h;cases h;rfl
    |false=>rw [hj] at h;cases h;rfl
 | .loop b,fr,s,r,h=>by
  simp only [nF] at h;simp only [evC];exact aFG (fun _ _ _=>oW hH hM hl b) hl h
 | .lY f params assign body,fr,s,r,h=>by
  simp only [nF] at h;simp only [evC];have e2:fr.fr.env=fr.env.env:=rfl;rw [e2];split at h
  ·rename_i l mark s1 g a b h1 h2
   (try simp only [h1,h2])
   split at h
   ·rename_i v s2 h3 h4;simp only [hH.call _ _ _ _ h4]
    (try simp only [h3])
    split at h
    ·rename_i lp h5
     (try simp only [h5])
     cases hst:lp.st<;>simp only [hst] at h⊢ <;>first|(cases h;rfl)|cases h
    ·cases h
   ·rename_i v s2 h3 h4;simp only [hH.call _ _ _ _ h4];(try simp only [h3]);cases h;rfl
   ·cases h
  ·cases h
theorem aK2(hH:Hle H H')(hM:MOk M H'){lf lf':Nat}(hl:lf≤lf'){l:Nat}{args:List AV}{s:ASt}{r:jM×ASt}(h:aB9 H P M lf l args s=some r):nM H' P lf' l args s=some r:=by
 have e0: ∀e:Env,(⟨⟨e,.nil⟩,[]⟩:TF).fr=⟨e,[]⟩:=fun e=>by simp only [TF.fr,TE.aJo]
 unfold aB9 at h;unfold nM;split at h
 ·rename_i lp h1
  (try simp only [h1])
  split at h
  ·rename_i h2 h3
   (try simp only [h2,h3])
   split at h
   ·rename_i e1 s1 h4;have:=oW (P:=P) hH hM hl _ h4;rw [e0] at this;simp only [this,CT.out,TF.fr];split at h
    ·rename_i s2 h5
     (try simp only [h5])
     split at h
     ·rename_i ex e2 s3 h6;have:=oW (P:=P) hH hM hl _ h6;simp only [CT.out,TF.fr] at this;simp only [this];exact h
     ·cases h
    ·cases h
   ·cases h
  ·cases h
 ·cases h
theorem aN6(hH:Hle H H')(hM:MOk M H'){lf lf':Nat}(hl:lf≤lf'){f:AF}{args:List AV}{s:ASt}{r:jM×ASt}(h:runT H P M lf f args s=some r):yU H' P lf' f args s=some r:=by
 have e0: ∀e:Env,(⟨⟨e,.nil⟩,[]⟩:TF).fr=⟨e,[]⟩:=fun e=>by simp only [TF.fr,TE.aJo]
 unfold runT at h;unfold yU;split at h
 ·cases h
 ·rename_i h0
  (try simp only [h0])
  split at h
  ·rename_i ex fr s1 h1;have:=oW (P:=P) hH hM hl _ h1;rw [e0] at this;simp only [this,CT.out];split at h
   ·rename_i m h2
    (try simp only [h2])
    split at h
    ·rename_i v s2 h3;have h3':g7 H fr.fr.ds m s1=some (.pan v,s2):=h3;have e1:=oQ hH h3';cases ex<;>cases h2<;>(simp only [e1];exact h)
    ·rename_i s2 h3;have h3':g7 H fr.fr.ds m s1=some (.ret,s2):=h3;have e1:=oQ hH h3';cases ex<;>cases h2<;>(simp only [e1];exact h)
    ·cases h
   ·cases h
  ·cases h
theorem aHv{N0:Nat}(hM: ∀m,N0≤m→MOk M (cH P m)): ∀{n m:Nat},N0+n≤m→Hle (tK P M n) (cH P m)
 |0,_,_=>⟨fun _ _ _ _ h=>by simp [tK] at h,fun _ _ _ _ _ h=>by simp [tK] at h⟩
 |n+1,0,h=>by omega
 |n+1,m+1,h=>by
  have ih:=aHv hM (show N0+n≤m by omega);have hm:=hM m (by omega);refine⟨fun g a s r hr=> ?_,fun f a d s r hr=> ?_⟩
  ·cases g with
   |func f=>
    simp only [tK] at hr;simp only [cH];cases hp:P.prim f with
    |some p=>simp only [hp] at hr⊢;exact hr
    |none=>
     simp only [hp] at hr⊢;cases hf:P.fn f with
     |none=>simp only [hf] at hr;cases hr
     |some af=>simp only [hf] at hr⊢;exact aN6 ih hm (by omega) hr
   |yield l=>simp only [tK] at hr;simp only [cH];exact aK2 ih hm (by omega) hr
  ·simp only [tK] at hr;simp only [cH];cases hf:P.fn f with
   |none=>simp only [hf] at hr;cases hr
   |some af=>simp only [hf] at hr⊢;exact aDG ih (by omega) hr
theorem Ev.runT{N0 n:Nat}(hM: ∀m,N0≤m→MOk M (cH P m)){g:AFn}{args:List AV}{s:ASt}{r:jM×ASt}{Q:jM×ASt→Prop}(h:(tK P M n).call g args s=some r)(hq:Q r):Ev (fun n=>(cH P n).call g args s) Q:=
 ⟨r,N0+n,hq,fun _ hm=>(aHv hM hm).call _ _ _ _ h⟩
mutual
def eqV:AV→AV→Bool
 | .int k a,.int k' b=>match Nat.beq (k.ctorIdx) (k'.ctorIdx) with|true=>a==b|false=>false
 | .bool a,.bool b=>match a with|true=>b|false=> !b
 | .str a,.str b=>eqB a b
 | .slice sz xs o,.slice sz' ys o'=>match Nat.beq sz sz'&&aPO o o' with|true=>aBZ xs ys|false=>false
 | .agg xs,.agg ys=>aBZ xs ys
 | .tuple xs,.tuple ys=>aBZ xs ys
 | .dO,.dO| .cZ,.cZ| .dX,.dX| .bU,.bU=>true
 | .aF a o,.aF b o'=>match Nat.beq o o' with|true=>eqV a b|false=>false
 | .func f a b,.func f' a' b'=>match Nat.beq f f' with|true=>(match aBZ a a' with|true=>aBZ b b'|false=>false)|false=>false
 | .iface t a,.iface t' b=>match Nat.beq t t' with|true=>eqV a b|false=>false
 |_,_=>false
def aBZ:List AV→List AV→Bool
 | [],[]=>true
 |x::xs,y::ys=>match eqV x y with|true=>aBZ xs ys|false=>false
 |_,_=>false
def eqB:List UInt8→List UInt8→Bool
 | [],[]=>true
 |x::xs,y::ys=>match Nat.beq x.toNat y.toNat with|true=>eqB xs ys|false=>false
 |_,_=>false
def aPO:Own→Own→Bool
 | .no,.no| .full,.full=>true
 |_,_=>false
end
theorem aNi: ∀{a b:List UInt8},eqB a b=true→a=b
 | [],[],_=>rfl
 |x::xs,y::ys,h=>by
  simp only [eqB] at h;cases hq:Nat.beq x.toNat y.toNat with
  |false=>rw [hq] at h;cases h
  |true=>rw [hq] at h;rw [aNi h,UInt8.toNat_inj.1 (Nat.eq_of_beq_eq_true hq)]
 | [],_::_,h=>by cases h
 |_::_,[],h=>by cases h
theorem aLA{a b:Own}(h:aPO a b=true):a=b:=by cases a<;>cases b<;>first|rfl|cases h
mutual
theorem aAJ: ∀{a b:AV},eqV a b=true→a=b
 | .int k a,.int k' b,h=>by
  simp only [eqV] at h;split at h
  ·rename_i hq;have e1:k=k':=by
    have:=Nat.eq_of_beq_eq_true hq;cases k<;>cases k'<;>first|rfl|(cases this)
   rw [e1,eq_of_beq h]
  ·cases h
 | .bool a,.bool b,h=>by cases a<;>cases b<;>first|rfl|cases h
 | .str a,.str b,h=>by rw [aNi (a:=a) (b:=b) h]
 | .slice sz xs o,.slice sz' ys o',h=>by
  simp only [eqV] at h;split at h
  ·rename_i hq;simp only [Bool.and_eq_true] at hq;rw [Nat.eq_of_beq_eq_true hq.1,aLA hq.2,rX h]
  ·cases h
 | .agg xs,.agg ys,h=>by rw [rX (xs:=xs) (ys:=ys) h]
 | .tuple xs,.tuple ys,h=>by rw [rX (xs:=xs) (ys:=ys) h]
 | .dO,.dO,_=>rfl
 | .cZ,.cZ,_=>rfl
 | .dX,.dX,_=>rfl
 | .bU,.bU,_=>rfl
 | .aF a o,.aF b o',h=>by
  simp only [eqV] at h;split at h
  ·rename_i hq;rw [Nat.eq_of_beq_eq_true hq,aAJ h]
  ·cases h
 | .func f a b,.func f' a' b',h=>by
  simp only [eqV] at h;split at h
  ·rename_i hq;split at h
   ·rename_i h2;rw [Nat.eq_of_beq_eq_true hq,rX h2,rX h]
   ·cases h
  ·cases h
 | .iface t a,.iface t' b,h=>by
  simp only [eqV] at h;split at h
  ·rename_i hq;rw [Nat.eq_of_beq_eq_true hq,aAJ h]
  ·cases h
theorem rX: ∀{xs ys:List AV},aBZ xs ys=true→xs=ys
 | [],[],_=>rfl
 |x::xs,y::ys,h=>by
  simp only [aBZ] at h;split at h
  ·rename_i hq;rw [aAJ hq,rX h]
  ·cases h
 | [],_::_,h=>by cases h
 |_::_,[],h=>by cases h
end
structure ME where
 g:Nat
 args:List AV
 v:AV
def aAR:List ME→w9
 | [],_,_=>none
 |e::r,g,args=>match Nat.beq e.g g with
  |true=>match aBZ e.args args with|true=>some e.v|false=>aAR r g args
  |false=>aAR r g args
theorem aAE: ∀{l:List ME}{g:Nat}{args:List AV}{v:AV},aAR l g args=some v→⟨g,args,v⟩∈l
 | [],_,_,_,h=>by cases h
 |e::r,g,args,v,h=>by
  simp only [aAR] at h;split at h
  ·rename_i hq;split at h
   ·rename_i h2;cases h;rw [←Nat.eq_of_beq_eq_true hq,←rX h2];exact List.mem_cons_self ..
   ·exact List.mem_cons_of_mem _ (aAE h)
  ·exact List.mem_cons_of_mem _ (aAE h)
inductive dD(P:aS):List ME→Prop
 |nil:dD P []
 |cons {g:Nat} {args:List AV} {v:AV} {r:List ME} (h:Pf P g args v) (t:dD P r):dD P (⟨g,args,v⟩::r)
theorem dD.mem{l:List ME}(h:dD P l): ∃N0,∀m,N0≤m→ ∀e∈l,∃v0 s2,(cH P m).call (.func e.g) e.args dK=some (.ret v0,s2)∧mO v0=some e.v∧cR e.v=true:=by
 induction h with
 |nil=>exact⟨0,fun _ _ _ he=>by cases he⟩
 |cons h _ ih=>
  obtain⟨N,hN⟩:=ih;obtain⟨⟨r,s2⟩,N',⟨v0,h1,h2⟩,h3⟩:=h.ev.out;simp only at h1;subst h1;refine⟨max N N',fun m hm e he=> ?_⟩;rcases List.mem_cons.1 he with rfl|he
  ·exact⟨v0,s2,h3 m (by omega),h2,h.pure⟩
  ·exact hN m (by omega) e he
theorem dD.ok{l:List ME}(h:dD P l): ∃N0,∀m,N0≤m→MOk (aAR l) (cH P m):=by
 obtain⟨N0,hN⟩:=h.mem;exact⟨N0,fun m hm g args v hl=>hN m hm ⟨g,args,v⟩ (aAE hl)⟩
def aLG(P:aS)(l:List ME)(n g:Nat)(args:List AV)(v:AV):Bool:=
 match(tK P (aAR l) n).call (.func g) args dK with
 |some (.ret w,_)=>match mO w,dL args with|some u,some us=>eqV u v&&cR v&&aBZ us args&&eM args|_,_=>false
 |_=>false
theorem aPf{l:List ME}(hl:dD P l){n g:Nat}{args:List AV}{v:AV}(h:aLG P l n g args v=true):Pf P g args v:=by
 unfold aLG at h;split at h
 ·rename_i w s' hc;split at h
  ·rename_i u us hu hus;simp only [Bool.and_eq_true] at h;obtain⟨N0,hN⟩:=hl.ok;refine⟨Ev.runT hN hc ⟨_,rfl,?_⟩,h.1.1.2,aJp ?_ h.2⟩
   ·rw [hu,aAJ h.1.1.1]
   ·rw [hus,rX h.1.2]
  ·cases h
 ·cases h
end
abbrev eJ:=aS→Env→ASt→Option (AV×ASt)
def gR(o:Option AV)(s:ASt):Option (AV×ASt):=match o with|some v=>some (v,s)|none=>none
def noF:eJ:=fun _ _ _=>none
def aPC:IntKind→Nat
 | .i8=>128| .i16=>32768| .i32=>2147483648| .i64=>9223372036854775808
 | .u8=>256| .u16=>65536| .u32=>4294967296| .u64=>18446744073709551616
def aJN(k:IntKind)(n:Int):Int:=
 match n with
 | .ofNat m=>match Nat.blt m (aPC k) with|true=> .ofNat m|false=>k.wrap (.ofNat m)
 | .negSucc m=>k.wrap (.negSucc m)
theorem aM8(k:IntKind)(n:Int):aJN k n=k.wrap n:=by
 cases n with
 |negSucc m=>rfl
 |ofNat m=>
  simp only [aJN];cases h:Nat.blt m (aPC k) with
  |false=>rfl
  |true=>
   have h':m<aPC k:=Nat.blt_eq.mp h;unfold IntKind.wrap;cases k<;>simp [aPC,IntKind.signed,IntKind.bits] at h'⊢ <;>(try split)<;>omega
def aRA:Int→Int→Int
 | .ofNat m,.ofNat n=> .ofNat (Nat.add m n)
 |a,b=>a+b
theorem aO9(a b:Int):aRA a b=a+b:=by cases a<;>cases b<;>rfl
def aQv:Int→Int→Int
 | .ofNat m,.ofNat n=>match Nat.ble n m with|true=> .ofNat (Nat.sub m n)|false=> .ofNat m- .ofNat n
 |a,b=>a-b
theorem aPo(a b:Int):aQv a b=a-b:=by
 cases a<;>cases b<;>try rfl
 rename_i m n;simp only [aQv];cases h:Nat.ble n m with
 |false=>rfl
 |true=>
  have:=Nat.le_of_ble_eq_true h;simp only [Int.ofNat_eq_natCast,Nat.sub_eq];omega
def ltQ:Int→Int→Bool
 | .ofNat m,.ofNat n=>Nat.blt m n
 |a,b=>decide (a<b)
theorem aQC(a b:Int):ltQ a b=decide (a<b):=by
 cases a<;>cases b<;>try rfl
 rename_i m n;simp only [ltQ,Int.ofNat_eq_natCast,Int.ofNat_lt];cases h:Nat.blt m n with
 |true=>exact(decide_eq_true (Nat.blt_eq.mp h)).symm
 |false=>exact(decide_eq_false (fun hlt=>by rw [Nat.blt_eq.mpr hlt] at h;cases h)).symm
def eqQ:Int→Int→Bool
 | .ofNat m,.ofNat n=>Nat.beq m n
 |a,b=>a==b
theorem aQH(a b:Int):eqQ a b=(a==b):=by
 cases a<;>cases b<;>try rfl
 rename_i m n;simp only [eqQ];cases h:Nat.beq m n with
 |true=>rw [Nat.eq_of_beq_eq_true h];simp
 |false=>
  have:m≠n:=fun hq=>by rw [hq,Nat.beq_refl] at h;cases h
  symm
  rw [beq_eq_false_iff_ne];intro hq;exact this (Int.ofNat.inj hq)
theorem aIU(a b:Int):decide (a≤b)= !decide (b<a):=by
 by_cases h:a≤b
 ·rw [decide_eq_true h,decide_eq_false (by omega)];rfl
 ·rw [decide_eq_false h,decide_eq_true (by omega)];rfl
def aPE(op:BinOp)(k:IntKind)(a b:Int):Option AV:=
 match op with
 | .add=>some (.int k (aJN k (aRA a b)))
 | .sub=>some (.int k (aJN k (aQv a b)))
 | .eql=>some (.bool (eqQ a b))
 | .neq=>some (.bool (!eqQ a b))
 | .lss=>some (.bool (ltQ a b))
 | .leq=>some (.bool (!ltQ b a))
 | .gtr=>some (.bool (ltQ b a))
 | .geq=>some (.bool (!ltQ a b))
 |op=>jL op k a b
theorem aOj(op:BinOp)(k:IntKind)(a b:Int):aPE op k a b=jL op k a b:=by
 cases op<;>simp only [aPE,jL,aM8,aO9,aPo,aQC,aQH,aIU,bne,ge_iff_le,gt_iff_lt]
def aA7:IntKind→Nat
 | .i8=>0| .i16=>1| .i32=>2| .i64=>3| .u8=>4| .u16=>5| .u32=>6| .u64=>7
theorem aKR{k k':IntKind}(h:aA7 k=aA7 k'):k=k':=by cases k<;>cases k'<;>first|rfl|cases h
def aRN(op:BinOp)(x y:AV):Option AV:=
 match x with
 | .int k a=>
  match y with
  | .int k' b=>
   match op with
   | .shl=>aBm .shl (.int k a) (.int k' b)
   | .shr=>aBm .shr (.int k a) (.int k' b)
   |op=>match Nat.beq (aA7 k) (aA7 k') with|true=>aPE op k a b|false=>none
  |y=>aBm op (.int k a) y
 |x=>aBm op x y
theorem aOe(op:BinOp)(x y:AV):aRN op x y=aBm op x y:=by
 cases x with
 |int k a=>
  cases y with
  |int k' b=>
   have key:(match Nat.beq (aA7 k) (aA7 k') with|true=>aPE op k a b|false=>none)=if k=k' then jL op k a b else none:=by
    cases h:Nat.beq (aA7 k) (aA7 k') with
    |true=>rw [if_pos (aKR (Nat.eq_of_beq_eq_true h))];exact aOj op k a b
    |false=>rw [if_neg (fun hq=>by rw [hq,Nat.beq_refl] at h;cases h)]
   cases op<;>first|rfl|exact key
  |_=>rfl
 |_=>rfl
def qMv(x:aJ):eJ:=fun P e s=>some (evO P e x,s)
def aRL(c a b:aJ):eJ:=fun P e s=>gR (match evO P e c with| .bool t=>some (match t with|true=>evO P e a|false=>evO P e b)|_=>none) s
def aR0(x:aJ):eJ:=fun P e s=>gR (match gP (evO P e x) with|some v=>some (.aF v 0)|none=>none) s
def aQ5(z:List AV)(parts:List (Nat×Nat×aJ)):eJ:=fun P e s=>gR (match aBQ z (parts.map fun p=>(p.1,p.2.1,evO P e p.2.2)) with|some cs=>some (.agg cs)|none=>none) s
def aOd(esz len:Nat)(z:List AV)(parts:List (Nat×aJ)):eJ:=fun P e s=>gR (
  match dL (parts.map fun p=>evO P e p.2) with
  |some vs=>
   if vs.all (fun v=>(cellsOf v).length==esz)&&decide (len*esz≤16777216) then
    match tH (List.replicate len (elemOf esz z)) ((parts.map (·.1)).zip vs) with
    |some xs=>some (.slice esz xs .full)
    |none=>none
   else none
  |none=>none) s
def aOG(x:aJ):eJ:=fun P e s=>gR (match evO P e x with| .ptr l o=>some (.ptr l o)| .aF v o=>some (.aF v o)| .func f a b=>some (.func f a b)| .yield l=>some (.yield l)|_=>none) s
def aSQ(op:BinOp)(x y:aJ):eJ:=fun P e s=>gR (aRN op (evO P e x) (evO P e y)) s
def qEq(neg:Bool)(x y:aJ):eJ:=fun P e s=>gR (match eqA (evO P e x) (evO P e y) with|some b=>some (.bool (match neg with|true=> !b|false=>b))|none=>none) s
def aSB(neg:Bool)(ks:List KK)(x y:aJ):eJ:=fun P e s=>gR (
  match evO P e x,evO P e y with
  | .agg xs,.agg ys=>match rV ks xs ys with|some b=>some (.bool (match neg with|true=> !b|false=>b))|none=>none
  |_,_=>none) s
def aQm(neg:Bool)(k:NK)(x:aJ):eJ:=fun P e s=>gR (match aDj k (evO P e x) with|some b=>some (.bool (match neg with|true=> !b|false=>b))|none=>none) s
def qUn(op:UnOp)(x:aJ):eJ:=fun P e s=>gR (bJ P e (.un op x)) s
def aPZ(k:IntKind)(x:aJ):eJ:=fun P e s=>gR (match evO P e x with| .int k' n=>some (.int k (if k=k' then n else k.wrap n))|_=>none) s
def aMf(t:Nat)(x:aJ):eJ:=fun P e s=>gR (match gP (evO P e x) with|some v=>some (.iface t v)|none=>none) s
def aOA(f:Nat)(a b:List aJ):eJ:=fun P e s=>gR (match dL (a.map (evO P e)),dL (b.map (evO P e)) with|some a,some b=>some (.func f a b)|_,_=>none) s
def aRU(esz:Nat)(x:aJ)(lo hi mx:Option aJ):eJ:=fun P e s=>gR (
  match evO P e x with
  | .slice sz xs o=>
   match cF P e xs.length mx,cF P e xs.length hi,cF P e 0 lo with
   |some m,some h,some l=>
    if l≤h&&h≤m&&m≤xs.length&&(sz=esz||xs.isEmpty)&&(mx.isNone||hi.isSome) then
     some (match lo,hi,mx with
      |none,none,none=> .slice sz xs o
      |_,_,some _=> .slice (szC sz ((xs.take h).drop l)) ((xs.take h).drop l) (if h=m then .full else .no)
      |_,_,_=> .slice (szC sz ((xs.take h).drop l)) ((xs.take h).drop l) .no)
    else none
   |_,_,_=>none
  | .cE l0 off len cap sz=>
   match mx,cF P e len hi,cF P e 0 lo with
   |none,some h,some l=>if l≤h&&h≤len&&sz=esz&&(l=0||l<cap) then some (.cE l0 (off+l*sz) (h-l) (cap-l) sz) else none
   |_,_,_=>none
  |_=>none) s
def aOT(x:aJ)(lo hi:Option aJ):eJ:=fun P e s=>gR (
  match evO P e x with
  | .str s=>
   match cF P e s.length hi,cF P e 0 lo with
   |some h,some l=>if l≤h&&h≤s.length then some (.str ((s.take h).drop l)) else none
   |_,_=>none
  |_=>none) s
def aRQ(n esz:Nat)(x:aJ)(lo hi:Option aJ):eJ:=fun P e s=>gR (
  match evO P e x,cF P e n hi,cF P e 0 lo with
  | .aF v off,some h,some l=>
   if l≤h&&h≤n&&off+n*esz≤(cellsOf v).length then some (.slice esz (chunks esz (h-l) ((cellsOf v).drop (off+l*esz))) .no) else none
  | .ptr b off,some h,some l=>if l≤h&&h≤n&&(l=0||l<n) then some (.cE b (off+l*esz) (h-l) (n-l) esz) else none
  |_,_,_=>none) s
def aPa(off:Nat)(x:aJ):eJ:=fun P e s=>gR (match evO P e x with| .ptr l o=>some (.ptr l (o+off))| .aF v o=>some (.aF v (o+off))|_=>none) s
def aP1(agg:Bool)(off sz:Nat)(x:aJ):eJ:=fun P e s=>gR (match evO P e x with| .agg cs=>partOf agg sz cs off|_=>none) s
def aRx(esz:Nat)(x i:aJ):eJ:=fun P e s=>gR (
  match evO P e x,g6 (evO P e i) with
  | .slice sz xs _,some i=>if sz=esz then(match xs[i]? with|some x=>some (.aF x 0)|none=>none) else none
  | .cE l off len _ sz,some i=>if sz=esz&&i<len then some (.ptr l (off+i*sz)) else none
  |_,_=>none) s
def aRZ(n esz:Nat)(x i:aJ):eJ:=fun P e s=>gR (
  match evO P e x,g6 (evO P e i) with
  | .ptr l o,some i=>if i<n then some (.ptr l (o+i*esz)) else none
  | .aF v o,some i=>if i<n then some (.aF v (o+i*esz)) else none
  |_,_=>none) s
def aPw(x i:aJ):eJ:=fun P e s=>gR (
  match evO P e x,g6 (evO P e i) with
  | .str s,some i=>match s[i]? with|some b=>some (.int .u8 b.toNat)|none=>none
  |_,_=>none) s
def aOf(ok:Bool)(t:Nat)(z:AV)(x:aJ):eJ:=fun P e s=>gR (
  match evO P e x with
  | .iface t' v=>if t'=t then some (match ok with|true=> .tuple [v,.bool true]|false=>v) else(match ok with|true=>some (.tuple [z,.bool false])|false=>none)
  | .bU=>match ok with|true=>some (.tuple [z,.bool false])|false=>none
  |_=>none) s
def aMr(x:aJ)(i:Nat):eJ:=fun P e s=>gR (match evO P e x with| .tuple vs=>vs[i]?|_=>none) s
def aRB(x:aJ):eJ:=fun P e s=>gR (match evO P e x with| .slice _ xs _=>some (.int .i64 xs.length)| .cE _ _ len _ _=>some (.int .i64 len)|_=>none) s
def aO2(x:aJ):eJ:=fun P e s=>gR (match evO P e x with| .str s=>some (.int .i64 s.length)|_=>none) s
def aRF(n:Nat):eJ:=fun _ _ s=>some (.int .i64 n,s)
def aPe(mx:Bool)(xs:List aJ):eJ:=fun P e s=>gR (bJ P e (.yI mx xs)) s
def aRP(agg:Bool)(sz:Nat)(x:aJ):eJ:=fun P e s=>gR (
  match evO P e x with
  | .aF v off=>match agg with
   |true=>match off with
    |0=>if(cellsOf v).length=sz then some (.agg (cellsOf v)) else partOf true sz (cellsOf v) 0
    |off=>partOf true sz (cellsOf v) off
   |false=>(cellsOf v)[off]?
  | .ptr l off=>
   match s.blks[l]? with
   |some (.cells cs _)=>match agg with
    |true=>match partOf true sz cs off with|some v=>gP v|none=>none
    |false=>cs[off]?
   |_=>none
  |_=>none) s
def aN2(ok:Bool)(kk:KK)(z:AV)(m k:aJ):eJ:=fun P e s=>gR (
  match evO P e m with
  | .map l=>
   match s.blks[l]? with
   |some (.map es)=>
    if keyOf kk (evO P e k) then
     match pI (evO P e k) es with
     |some (some v)=>some (match ok with|true=> .tuple [v,.bool true]|false=>v)
     |some none=>some (match ok with|true=> .tuple [z,.bool false]|false=>z)
     |none=>none
    else none
   |_=>none
  | .dX=>some (match ok with|true=> .tuple [z,.bool false]|false=>z)
  |_=>none) s
def aR7(x:aJ):eJ:=fun P e s=>match uZ (evO P e x) with|true=>some (.ptr s.blks.length 0,{s with blks:=s.blks++ [.cells (cellsOf (evO P e x)) true]})|false=>none
def aQA(z:List AV):eJ:=fun _ _ s=>some (.ptr s.blks.length 0,{s with blks:=s.blks++ [.cells z true]})
def aQl(sz:Nat)(a x:aJ):eJ:=fun P e s=>
  match evO P e a with
  | .ptr l off=>
   match s.blks[l]? with
   |some (.cells cs true)=>
    if uZ (evO P e x)&&(cellsOf (evO P e x)).length=sz&&off+sz≤cs.length then
     some (fA,lA s l (cellsOf (evO P e x)) (s.blks.set l (.cells (fO cs off (cellsOf (evO P e x))) true)))
    else none
   |_=>none
  |_=>none
def aQ6:eJ:=fun _ _ s=>some (.map s.blks.length,{s with blks:=s.blks++ [.map []]})
def aLI(esz bytes:Nat)(z:List AV)(l c:aJ):eJ:=fun P e s=>
  match g6 (evO P e l),g6 (evO P e c) with
  |some l,some c=>
   if l≤c&&c*bytes≤big&&c≤big then some (.cE s.blks.length 0 l c esz,{s with blks:=s.blks++ [.cells (aDm c z) true]}) else none
  |_,_=>none
def aPy(kk:KK)(m k v:aJ):eJ:=fun P e s=>
  match evO P e m,gP (evO P e v) with
  | .map l,some v=>
   match s.blks[l]? with
   |some (.map es)=>
    if keyOf kk (evO P e k) then
     match aCq (evO P e k) v es with
     |some es'=>some (fA,lA s l [v] (s.blks.set l (.map es')))
     |none=>none
    else none
   |_=>none
  |_,_=>none
def aLs(x:aJ):eJ:=fun P e s=>match evO P e x with| .str t=>some (.iter s.blks.length,{s with blks:=s.blks++ [.iter t 0]})|_=>none
def aMZ(it:aJ):eJ:=fun P e s=>eD P e s (.mH it)
def aPx(tk:Bool)(esz bytes:Nat)(a x:aJ):eJ:=fun P e s=>eD P e s (.append tk esz bytes a x)
def aRC(esz:Nat)(d x:aJ):eJ:=fun P e s=>eD P e s (.copy esz d x)
inductive Sp where
 |plain (f:eJ)
 |pend (z:List AV)
 |shut (d:Nat) (sz:Nat) (x:aJ)
 |defer (f:aJ) (args:List aJ)
 |panic (x:aJ)
 |aW (st:Bool) (f:aJ) (args:List aJ)
 |call (f:aJ) (args:List aJ)
noncomputable def aMh:AOp→Sp:=fun o=>AOp.rec
 (fun x=> .plain (qMv x)) (fun c a b=> .plain (aRL c a b)) (fun x=> .plain (aR0 x)) (fun x=> .plain (aR7 x)) (fun z=> .pend z) (fun d sz x=> .shut d sz x)
 (fun z=> .plain (aQA z)) (fun z p=> .plain (aQ5 z p)) (fun e l z p=> .plain (aOd e l z p)) (fun a sz x=> .plain (aRP a sz x)) (fun sz a x=> .plain (aQl sz a x)) (fun x=> .plain (aOG x))
 (fun op x y=> .plain (aSQ op x y)) (fun n x y=> .plain (qEq n x y)) (fun n ks x y=> .plain (aSB n ks x y)) (fun n k x=> .plain (aQm n k x)) (fun op x=> .plain (qUn op x)) (fun k x=> .plain (aPZ k x)) (fun t x=> .plain (aMf t x))
 (fun f a b=> .plain (aOA f a b)) (.plain aQ6) (fun e b z l c=> .plain (aLI e b z l c)) (fun e x l h m=> .plain (aRU e x l h m)) (fun x l h=> .plain (aOT x l h)) (fun n e x l h=> .plain (aRQ n e x l h))
 (fun o x=> .plain (aPa o x)) (fun a o sz x=> .plain (aP1 a o sz x)) (fun e x i=> .plain (aRx e x i)) (fun n e x i=> .plain (aRZ n e x i)) (fun x i=> .plain (aPw x i)) (fun ok kk z m k=> .plain (aN2 ok kk z m k))
 (fun kk m k v=> .plain (aPy kk m k v)) (fun x=> .plain (aLs x)) (fun x=> .plain (aMZ x)) (fun ok t z x=> .plain (aOf ok t z x)) (fun x i=> .plain (aMr x i)) (fun f xs=> .call f xs) (fun st f xs=> .aW st f xs)
 (fun x=> .plain (aRB x)) (fun x=> .plain (aO2 x)) (fun n=> .plain (aRF n)) (fun tk e b a x=> .plain (aPx tk e b a x)) (fun e d x=> .plain (aRC e d x)) (fun m xs=> .plain (aPe m xs)) (.plain noF)
 (fun f xs=> .defer f xs) (fun x=> .panic x) (.plain noF) o
theorem aNH{P:aS}{e:Env}{s:ASt}{op:AOp}(h1:fS P e s op=none)(h2:eD P e s op=none):cX P e s op=gR (bJ P e op) s:=by
 unfold cX gR;cases bJ P e op with
 |some v=>rfl
 |none=>simp only [h1,h2]
theorem aN0{P:aS}{e:Env}{s:ASt}{op:AOp}(h1:bJ P e op=none)(h2:eD P e s op=none):cX P e s op=gR (fS P e s op) s:=by
 unfold cX gR;rw [h1];cases fS P e s op with
 |some v=>rfl
 |none=>simp only [h2]
theorem aIE{P:aS}{e:Env}{s:ASt}{op:AOp}(hp:plainO op=true): ∃f,aMh op= .plain f∧f P e s=cX P e s op:=by
 cases op with
 |pend z=>cases hp
 |shut d sz x=>cases hp
 |defer f xs=>cases hp
 |panic x=>cases hp
 |aW st f xs=>cases hp
 |call f xs=>cases hp
 |load a sz x=>exact⟨_,rfl,by rw [aN0 (P:=P) (e:=e) (s:=s)]<;>rfl⟩
 |lookup ok kk z m k=>exact⟨_,rfl,by rw [aN0 (P:=P) (e:=e) (s:=s)]<;>rfl⟩
 |bin op x y=>exact⟨_,rfl,by rw [aNH (P:=P) (e:=e) (s:=s) (op:= .bin op x y) rfl rfl];exact congrArg (fun o=>gR o s) (aOe op _ _)⟩
 |box x=>exact⟨_,rfl,rfl⟩
 |alloc z=>exact⟨_,rfl,rfl⟩
 |store sz a x=>exact⟨_,rfl,rfl⟩
 |mkMap=>exact⟨_,rfl,rfl⟩
 |mkSlice e b z l c=>exact⟨_,rfl,rfl⟩
 |kM kk m k v=>exact⟨_,rfl,rfl⟩
 |mA x=>exact⟨_,rfl,rfl⟩
 |mH x=>exact⟨_,rfl,rfl⟩
 |append tk e b a x=>exact⟨_,rfl,rfl⟩
 |copy e d x=>exact⟨_,rfl,rfl⟩
 |aA3=>exact⟨_,rfl,rfl⟩
 |bad=>exact⟨_,rfl,rfl⟩
 |_=>exact⟨_,rfl,by rw [aNH (P:=P) (e:=e) (s:=s)]<;>rfl⟩
def yZ{α:Type}:Tr→List Bool→AV→(Tr→α)→α
 |t,[],v,k=>match t with| .nil=>k (.node (some v) .nil .nil)| .node _ l r=>k (.node (some v) l r)
 |t,true::p,v,k=>match t with| .nil=>yZ .nil p v fun l'=>k (.node none l' .nil)| .node u l r=>yZ l p v fun l'=>k (.node u l' r)
 |t,false::p,v,k=>match t with| .nil=>yZ .nil p v fun r'=>k (.node none .nil r')| .node u l r=>yZ r p v fun r'=>k (.node u l r')
theorem aEV{α:Type}: ∀(p:List Bool)(t:Tr)(v:AV)(k:Tr→α),yZ t p v k=k (t.set p v)
 | [],t,v,k=>by cases t<;>rfl
 |true::p,t,v,k=>by cases t<;>(simp only [yZ,aEV p];rfl)
 |false::p,t,v,k=>by cases t<;>(simp only [yZ,aEV p];rfl)
def aIZ{α:Type}(fr:TF)(d:Option Nat)(v:AV)(k:TF→α):α:=
 match fr with
 |⟨⟨base,ov⟩,ds⟩=>match d with|none=>k ⟨⟨base,ov⟩,ds⟩|some i=>yZ ov (path i i) v fun ov'=>k ⟨⟨base,ov'⟩,ds⟩
theorem aBz{α:Type}(fr:TF)(d:Option Nat)(v:AV)(k:TF→α):aIZ fr d v k=k (fr.put d v):=by
 obtain⟨⟨base,ov⟩,ds⟩:=fr;cases d with
 |none=>rfl
 |some i=>simp only [aIZ,aEV];rfl
def pdK{α:Type}(d:Option Nat)(pd:List (Nat×Nat))(k:List (Nat×Nat)→α):α:=match pd with| []=>k []|x::xs=>k (aK d (x::xs))
theorem aEt{α:Type}(d:Option Nat)(pd:List (Nat×Nat))(k:List (Nat×Nat)→α):pdK d pd k=k (aK d pd):=by
 cases pd with
 |nil=>cases d<;>rfl
 |cons x xs=>rfl
def stK{α:Type}(s:ASt)(k:ASt→α):α:=match s with|⟨b,t,lb,lt⟩=>k ⟨b,t,lb,lt⟩
theorem aIu{α:Type}(s:ASt)(k:ASt→α):stK s k=k s:=rfl
abbrev rR:=Handler→aS→w9→List (Nat×Nat)→TF→ASt→Option aNv
def aSS:rR:=fun _ _ _ _ fr s=>some (.norm fr s)
def aI6(d:Option Nat)(f:eJ)(rest:rR):rR:=fun H P M pd fr s=>
 match f P fr.env.env s with
 |some (v,s1)=>stK s1 fun s1=>pdK d pd fun pd=>aIZ fr d v fun fr=>rest H P M pd fr s1
 |none=>none
def aRV(d:Option Nat)(z:List AV)(rest:rR):rR:=fun H P M pd fr s=>
 match d with|some d'=>rest H P M ((d',z.length)::aK d pd) (fr.put (some d') .lU) s|none=>none
def aRm(d0:Option Nat)(d sz:Nat)(x:aJ)(rest:rR):rR:=fun H P M pd fr s=>
 match d0,gP (evO P fr.env.env x) with
 |none,some v=>match decide ((cellsOf v).length=sz)&&pd.any (fun p=>Nat.beq p.1 d&&Nat.beq p.2 sz) with|true=>rest H P M (aK (some d) pd) (fr.put (some d) (.aF v 0)) s|false=>none
 |_,_=>none
def aQz(d:Option Nat)(f:aJ)(args:List aJ)(rest:rR):rR:=fun H P M pd fr s=>
 match evO P fr.env.env f,dL (args.map (evO P fr.env.env)) with
 | .func g a b,some vs=>rest H P M (aK d pd) {env:=fr.env.eU d fA,ds:= .call g (a++vs++b)::fr.ds} s
 |_,_=>none
def aRc(x:aJ):rR:=fun _ P _ _ fr s=>match evO P fr.env.env x with| .iface t v=>some (.pan (.iface t v) fr s)|_=>none
def aIW(d:Option Nat)(st:Bool)(f:aJ)(args:List aJ)(rest:rR):rR:=fun H P M pd fr s=>
 match evO P fr.env.env f,dL (args.map (evO P fr.env.env)) with
 | .func g a b,some vs=>
  match(!st&&isE s)||eM (a++vs++b) with
  |true=>
   match M g (a++vs++b) with
   |some v=>pdK d pd fun pd=>aIZ fr d v fun fr=>rest H P M pd fr s
   |none=>
    match H.call (.func g) (a++vs++b) dK with
    |some (.ret v,s2)=>
     match mO v with
     |some v=>match isE s2||cR v with|true=>pdK d pd fun pd=>aIZ fr d v fun fr=>rest H P M pd fr s|false=>none
     |none=>none
    |_=>none
  |false=>none
 |_,_=>none
def aL5(d:Option Nat)(f:aJ)(args:List aJ)(rest:rR):rR:=fun H P M pd fr s=>
 match target (evO P fr.env.env f),rL s (args.map (evO P fr.env.env)) with
 |some (g,a,b),some (vs,s1)=>
  match H.call g (a++vs++b) s1 with
  |some (.ret v,s2)=>stK s2 fun s2=>pdK d pd fun pd=>aIZ fr d v fun fr=>rest H P M pd fr s2
  |some (.panic v,s2)=>some (.pan v fr s2)
  |none=>none
 |_,_=>none
noncomputable def kOp(d:Option Nat)(o:Sp)(rest:rR):rR:=
 Sp.rec (fun f=>aI6 d f rest) (fun z=>aRV d z rest) (fun d0 sz x=>aRm d d0 sz x rest) (fun f xs=>aQz d f xs rest) (fun x=>aRc x) (fun st f xs=>aIW d st f xs rest) (fun f xs=>aL5 d f xs rest) o
def kGd(gd:Option (Nat×Bool))(d:Option Nat)(op rest:rR):rR:=fun H P M pd fr s=>
 match wanted fr.env.env gd with
 |none=>none
 |some false=>pdK d pd fun pd=>aIZ fr d fA fun fr=>rest H P M pd fr s
 |some true=>op H P M pd fr s
noncomputable def aRv(i:AI)(rest:rR):rR:=kGd i.gd i.d (kOp i.d (aMh i.op) rest) rest
noncomputable def aKQ(is:List AI):rR:=List.rec aSS (fun i _ r=>aRv i r) is
theorem aJb: ∀(is:List AI),aKQ is=fun H P M pd fr s=>fP H P M is pd fr s
 | []=>rfl
 |⟨d,op,gd,pre⟩::rest=>by
  funext H P M pd fr s
  show kGd gd d (kOp d (aMh op) (aKQ rest)) (aKQ rest) H P M pd fr s=_;rw [aJb rest];unfold kGd;simp only [fP,aEt,aBz];cases hw:wanted fr.env.env gd with
  |none=>rfl
  |some b=>
   cases b with
   |false=>rfl
   |true=>
    simp only;cases hp:plainO op with
    |true=>
     obtain⟨f,h1,h2⟩:=aIE (P:=P) (e:=fr.env.env) (s:=s) hp;rw [h1];show aI6 d f (fun H P M pd fr s=>fP H P M rest pd fr s) H P M pd fr s=_;unfold aI6;rw [h2];simp only [aIu,aEt,aBz];cases op<;>first|rfl|cases hp
    |false=>
     cases op<;>first|(cases hp;done)|rfl|(simp only [kOp,aMh,aIW,aL5,aIu,aEt,aBz];done)|(simp only [kOp,aMh,aIW,aL5,aIu,aEt,aBz];rfl)
theorem aPA{H:Handler}{P:aS}{M:w9}{is:List AI}{pd:List (Nat×Nat)}{fr:TF}{s:ASt}:aKQ is H P M pd fr s=fP H P M is pd fr s:=by rw [aJb]
abbrev sA:=Handler→aS→w9→Option Nat→Nat→TF→ASt→Option CT
def aRs:sA:=fun _ _ _ _ _ fr s=>some ⟨.normal,fr,s⟩
def aQL(ops:rR):sA:=fun H P M _ _ fr s=>
 match ops H P M [] fr s with
 |some (.norm fr s)=>some ⟨.normal,fr,s⟩
 |some (.pan v fr s)=>some ⟨.panic v,fr,s⟩
 |none=>none
def aQX(a b:sA):sA:=fun H P M rd lf fr s=>
 match a H P M rd lf fr s with
 |some r=>match r.ex with| .normal=>b H P M rd lf r.fr r.s|_=>some r
 |none=>none
def aLY(c:aJ)(t f:sA):sA:=fun H P M rd lf fr s=>
 match evO P fr.env.env c with
 | .bool b=>match b with|true=>t H P M rd lf fr s|false=>f H P M rd lf fr s
 |_=>none
def aIy(id:Nat)(b:sA):sA:=fun H P M rd lf fr s=>
 match b H P M rd lf fr s with
 |some r=>match r.ex with| .exit j=>(match Nat.beq j id with|true=>some ⟨.normal,r.fr,r.s⟩|false=>some r)|_=>some r
 |none=>none
def aMK(b:sA):sA:=fun H P M rd lf fr s=>aAS (b H P M rd lf) lf fr s
def aQa(f:aJ)(params:List Nat)(assign body:AC):sA:=fun H P M rd lf fr s=>nF H P M rd lf (.lY f params assign body) fr s
def aR3(id:Nat):sA:=fun _ _ _ _ _ fr s=>some ⟨.exit id,fr,s⟩
def aSx:sA:=fun _ _ _ _ _ fr s=>some ⟨.ret,fr,s⟩
noncomputable def kC(c:AC):sA:=
 AC.rec aRs (fun _ ops=>aQL (aKQ ops)) (fun _ _ a b=>aQX a b) (fun c _ _ t e=>aLY c t e) (fun id _ b=>aIy id b) (fun _ b=>aMK b) (fun f ps a b _ _=>aQa f ps a b) (fun id=>aR3 id) aSx (fun _ b=>b) c
theorem aF9{f g:TF→ASt→Option CT}(h: ∀fr s,f fr s=g fr s): ∀{n:Nat}{fr:TF}{s:ASt},aAS f n fr s=aAS g n fr s:=by
 have:f=g:=by funext fr s;exact h fr s
 subst this;intros;rfl
theorem aA0{H:Handler}{P:aS}{M:w9}{rd:Option Nat}{lf:Nat}: ∀(c:AC){fr:TF}{s:ASt},kC c H P M rd lf fr s=nF H P M rd lf c fr s
 | .skip,_,_=>rfl
 | .exit _,_,_=>rfl
 | .ret,_,_=>rfl
 | .lY ..,_,_=>rfl
 | .scope b,fr,s=>by simp only [nF];exact aA0 b
 | .reg d ops,fr,s=>by
  show aQL (aKQ ops) H P M rd lf fr s=_;simp only [nF,aQL,aPA]<;>rfl
 | .seq a b,fr,s=>by
  show aQX (kC a) (kC b) H P M rd lf fr s=_;simp only [nF,aQX,aA0 a,aA0 b]<;>rfl
 | .cond c t e,fr,s=>by
  show aLY c (kC t) (kC e) H P M rd lf fr s=_;simp only [nF,aLY,aA0 t,aA0 e]<;>rfl
 | .block id b,fr,s=>by
  show aIy id (kC b) H P M rd lf fr s=_;simp only [nF,aIy,aA0 b]<;>rfl
 | .loop b,fr,s=>by
  show aMK (kC b) H P M rd lf fr s=_;simp only [nF,aMK];exact aF9 fun fr s=>aA0 b
def aRw:cY→Option DM
 | .normal=>some .ret
 | .ret=>some .ret
 | .panic v=>some (.pan v)
 | .exit _=>none
def aRK(P:aS)(res:List ARV)(s:ASt)(e:Env):DM→ASt→Option (jM×ASt)
 | .pan v,s2=>some (.panic v,eQ s (toks v) (dE s (m9 v) s2))
 | .ret,s2=>
  match jK P e s2 res with
  |some vs=>
   match nE s2 vs with
   |some (v,s3)=>match settle s v s3 with|(v,s4)=>some (.ret v,s4)
   |none=>none
  |none=>none
noncomputable def aOZ(H:Handler)(P:aS)(M:w9)(lf:Nat)(f:AF)(args:List AV)(s:ASt):Option (jM×ASt):=
 match Nat.ble args.length f.nt with
 |false=>none
 |true=>
 match kC f.body H P M none lf ⟨⟨gI args,.nil⟩,[]⟩ (aT s) with
 |some r=>
  match aRw r.ex with
  |some m=>match g7 H r.fr.ds m r.s with|some (m',s2)=>aRK P f.res s r.fr.env.env m' s2|none=>none
  |none=>none
 |none=>none
theorem aOp{H:Handler}{P:aS}{M:w9}{lf:Nat}{f:AF}{args:List AV}{s:ASt}:aOZ H P M lf f args s=runT H P M lf f args s:=by
 unfold aOZ runT;cases Nat.ble args.length f.nt with
 |false=>rfl
 |true=>
  simp only;rw [aA0];cases nF H P M none lf f.body ⟨⟨gI args,.nil⟩,[]⟩ (aT s) with
  |none=>rfl
  |some r=>
   obtain⟨ex,fr,s1⟩:=r;have key: ∀m,(match g7 H fr.ds m s1 with|some (m',s2)=>aRK P f.res s fr.env.env m' s2|none=>none)=(match g7 H fr.ds m s1 with
     |some (.pan v,s2)=>some (.panic v,eQ s (toks v) (dE s (m9 v) s2))
     |some (.ret,s2)=>
      match jK P fr.env.env s2 f.res with
      |some vs=>
       match nE s2 vs with
       |some (v,s3)=>match settle s v s3 with|(v,s4)=>some (.ret v,s4)
       |none=>none
      |none=>none
     |none=>none):=by
    intro m;cases g7 H fr.ds m s1 with
    |none=>rfl
    |some x=>obtain⟨m',s2⟩:=x;cases m'<;>rfl
   cases ex with
   |normal=>exact key _
   |ret=>exact key _
   |panic v=>exact key _
   |exit i=>rfl
noncomputable def aEf(P:aS)(M:w9)(n:Nat):Handler:=
 Nat.rec {call:=fun _ _ _=>none,dcall:=fun _ _ _ _=>none}
  (fun n h=>
   {call:=fun g args s=>AFn.rec (fun f=>match P.prim f with|some p=>p args s|none=>match P.fn f with|some af=>aOZ h P M n af args s|none=>none) (fun l=>aB9 h P M n l args s) g
    dcall:=fun f args m s=>match P.fn f with|some af=>aBf h P n af args m s|none=>none}) n
theorem aCi{P:aS}{M:w9}: ∀(n:Nat),aEf P M n=tK P M n
 |0=>rfl
 |n+1=>by
  have ih:=aCi (P:=P) (M:=M) n;show Handler.mk _ _=_;simp only [tK]
  congr 1
  ·funext g args s
   cases g with
   |func f=>
    show(match P.prim f with|some p=>p args s|none=>match P.fn f with|some af=>aOZ (aEf P M n) P M n af args s|none=>none)=_;rw [ih];simp only [aOp]<;>rfl
   |yield l=>
    show aB9 (aEf P M n) P M n l args s=_;rw [ih]
  ·funext f args m s
   show(match P.fn f with|some af=>aBf (aEf P M n) P n af args m s|none=>none)=_;rw [ih]
   all_goals rfl
noncomputable def aPQ(P:aS)(l:List ME)(n g:Nat)(args:List AV)(v:AV):Bool:=
 match(aEf P (aAR l) n).call (.func g) args dK with
 |some (.ret w,_)=>match mO w,dL args with|some u,some us=>eqV u v&&cR v&&aBZ us args&&eM args|_,_=>false
 |_=>false
theorem bT{P:aS}{l:List ME}(hl:dD P l){n g:Nat}{args:List AV}{v:AV}(h:aPQ P l n g args v=true):Pf P g args v:=by
 refine aPf hl (n:=n) ?_;unfold aPQ at h;unfold aLG;rw [←aCi];exact h
end Go.Fw
namespace Go.Proofs.YtelnnehpbkainaaGreatDoor
open Go Go.Fw
set_option maxRecDepth 100000
abbrev _root_.Go.Fw.AV.z:AV:= .slice 0 [] .no
abbrev _root_.Go.Fw.AV.e:AV:= .str []
noncomputable abbrev aY:aS:=yA Code.tab gl0
def aKz:List ME:= []
theorem aJg:dD aY aKz:= .nil
def aKp:List AV:= [(.str [102,117,110,32,108,101,116,32,114,101,99,32,105,110,32,105,102,32,116,104,101,110,32,101,108,115,101,32,109,97,116,99,104,32,100,111,32,104,97,110,100,108,101,32,115,104,97,108,108,111,119,32,110,97,109,101,100,32,109,97,115,107,32,117,115,105,110,103,32,99,108,111,115,101,32,114,101,115,117,109,101,32,100,114,111,112,32,114,101,116,117,114,110,32,116,114,117,101,32,102,97,108,115,101,32,100,97,116,97,32,101,102,102,101,99,116,32,111,110,99,101,32,100,101,102,32,109,97,105,110])]
def aKt:AV:=(.slice 1 [(.str [102,117,110]),(.str [108,101,116]),(.str [114,101,99]),(.str [105,110]),(.str [105,102]),(.str [116,104,101,110]),(.str [101,108,115,101]),(.str [109,97,116,99,104]),(.str [100,111]),(.str [104,97,110,100,108,101]),(.str [115,104,97,108,108,111,119]),(.str [110,97,109,101,100]),(.str [109,97,115,107]),(.str [117,115,105,110,103]),(.str [99,108,111,115,101]),(.str [114,101,115,117,109,101]),(.str [100,114,111,112]),(.str [114,101,116,117,114,110]),(.str [116,114,117,101]),(.str [102,97,108,115,101]),(.str [100,97,116,97]),(.str [101,102,102,101,99,116]),(.str [111,110,99,101]),(.str [100,101,102]),(.str [109,97,105,110])] .no)
theorem aOF:Pf aY 200 aKp aKt:=bT aJg (n:=141) (by kernel_rfl)
def aJI:List ME:=⟨200,aKp,aKt⟩::aKz
theorem aKm:dD aY aJI:= .cons aOF aJg
def aJE:List AV:= [(.agg [(.i 6),(.i 0),.e,.e,(.slice 1 [(.str [121])] .no),(.slice 7 [(.agg [(.i 1),(.i 1),.e,.e,.z,.z,.z]),(.agg [(.i 0),(.i 0),(.str [121]),.e,.z,.z,.z])] .no),.z])]
def aKc:AV:=(.i 0)
theorem aO5:Pf aY 150 aJE aKc:=bT aKm (n:=44) (by kernel_rfl)
def aKj:List ME:=⟨150,aJE,aKc⟩::aJI
theorem aJP:dD aY aKj:= .cons aO5 aKm
def aJi:List AV:= [(.agg [(.i 6),(.i 0),.e,.e,(.slice 1 [(.str [121])] .no),(.slice 7 [(.agg [(.i 1),(.i 1),.e,.e,.z,.z,.z]),(.agg [(.i 0),(.i 0),(.str [121]),.e,.z,.z,.z])] .no),.z]),(.str [107])]
def aJr:AV:=(.tuple [(.bool true),(.i 0)])
theorem aOx:Pf aY 13 aJi aJr:=bT aJP (n:=40) (by kernel_rfl)
def aJA:List ME:=⟨13,aJi,aJr⟩::aKj
theorem aJs:dD aY aJA:= .cons aOx aJP
def aKo:List AV:= [(.agg [(.i 0),(.i 0),(.str [107]),.e,.z,.z,.z]),(.str [107])]
def aKn:AV:=(.i 0)
theorem aOs:Pf aY 46 aKo aKn:=bT aJs (n:=44) (by kernel_rfl)
def aJS:List ME:=⟨46,aKo,aKn⟩::aJA
theorem aKu:dD aY aJS:= .cons aOs aJs
def aKh:List AV:= [(.agg [(.i 18),(.i 0),(.str [107]),.e,.z,(.slice 7 [(.agg [(.i 1),(.i 1),.e,.e,.z,.z,.z])] .no),.z])]
def aKy:AV:=(.i 0)
theorem aOJ:Pf aY 150 aKh aKy:=bT aKu (n:=41) (by kernel_rfl)
def aJY:List ME:=⟨150,aKh,aKy⟩::aJS
theorem aKk:dD aY aJY:= .cons aOJ aKu
def aJ7:List AV:= [(.agg [(.i 6),(.i 0),.e,.e,(.slice 1 [(.str [117])] .no),(.slice 7 [(.agg [(.i 19),(.i 0),(.str [107]),.e,.z,.z,.z]),(.agg [(.i 1),(.i 1),.e,.e,.z,.z,.z])] .no),.z])]
def aJ2:AV:=(.i 0)
theorem aOv:Pf aY 150 aJ7 aJ2:=bT aKk (n:=44) (by kernel_rfl)
def aKv:List ME:=⟨150,aJ7,aJ2⟩::aJY
theorem aKl:dD aY aKv:= .cons aOv aKk
def aJz:List AV:= [(.agg [(.i 8),(.i 0),.e,.e,.z,(.slice 7 [(.agg [(.i 0),(.i 0),(.str [98]),.e,.z,.z,.z]),(.agg [(.i 18),(.i 0),(.str [107]),.e,.z,(.slice 7 [(.agg [(.i 1),(.i 1),.e,.e,.z,.z,.z])] .no),.z]),(.agg [(.i 6),(.i 0),.e,.e,(.slice 1 [(.str [117])] .no),(.slice 7 [(.agg [(.i 19),(.i 0),(.str [107]),.e,.z,.z,.z]),(.agg [(.i 1),(.i 1),.e,.e,.z,.z,.z])] .no),.z])] .no),.z])]
def aKe:AV:=(.i 0)
theorem aPu:Pf aY 150 aJz aKe:=bT aKl (n:=44) (by kernel_rfl)
def aJG:List ME:=⟨150,aJz,aKe⟩::aKv
theorem aJD:dD aY aJG:= .cons aPu aKl
def aJv:List AV:= [(.agg [(.i 8),(.i 0),.e,.e,.z,(.slice 7 [(.agg [(.i 0),(.i 0),(.str [98]),.e,.z,.z,.z]),(.agg [(.i 18),(.i 0),(.str [107]),.e,.z,(.slice 7 [(.agg [(.i 1),(.i 1),.e,.e,.z,.z,.z])] .no),.z]),(.agg [(.i 6),(.i 0),.e,.e,(.slice 1 [(.str [117])] .no),(.slice 7 [(.agg [(.i 19),(.i 0),(.str [107]),.e,.z,.z,.z]),(.agg [(.i 1),(.i 1),.e,.e,.z,.z,.z])] .no),.z])] .no),.z]),(.str [107])]
def aJ4:AV:=(.i 0)
theorem aO8:Pf aY 46 aJv aJ4:=bT aJD (n:=39) (by kernel_rfl)
def aJV:List ME:=⟨46,aJv,aJ4⟩::aJG
theorem aKf:dD aY aJV:= .cons aO8 aJD
def aJx:List AV:= [(.agg [(.i 8),(.i 0),.e,.e,.z,(.slice 7 [(.agg [(.i 0),(.i 0),(.str [98]),.e,.z,.z,.z]),(.agg [(.i 18),(.i 0),(.str [107]),.e,.z,(.slice 7 [(.agg [(.i 1),(.i 1),.e,.e,.z,.z,.z])] .no),.z]),(.agg [(.i 6),(.i 0),.e,.e,(.slice 1 [(.str [117])] .no),(.slice 7 [(.agg [(.i 19),(.i 0),(.str [107]),.e,.z,.z,.z]),(.agg [(.i 1),(.i 1),.e,.e,.z,.z,.z])] .no),.z])] .no),.z]),(.str [107])]
def aKx:AV:=(.tuple [(.i 2),.z,(.i 0)])
theorem aPm:Pf aY 15 aJx aKx:=bT aKf (n:=22) (by kernel_rfl)
def aJL:List ME:=⟨15,aJx,aKx⟩::aJV
theorem aJ1:dD aY aJL:= .cons aPm aKf
def aKq:List AV:= [(.agg [(.i 6),(.i 0),.e,.e,(.slice 1 [(.str [121])] .no),(.slice 7 [(.agg [(.i 18),(.i 0),(.str [107]),.e,.z,(.slice 7 [(.agg [(.i 1),(.i 1),.e,.e,.z,.z,.z])] .no),.z]),(.agg [(.i 18),(.i 0),(.str [107]),.e,.z,(.slice 7 [(.agg [(.i 1),(.i 1),.e,.e,.z,.z,.z])] .no),.z])] .no),.z])]
def aKi:AV:=(.tuple [(.agg [(.i 2995),(.i 3)]),(.i 0)])
theorem aPz:Pf aY 113 aKq aKi:=bT aJ1 (n:=43) (by kernel_rfl)
def aHH:List ME:=⟨113,aKq,aKi⟩::aJL
theorem aF7:dD aY aHH:= .cons aPz aJ1
def aHp:List AV:= [(.agg [(.i 6),(.i 0),.e,.e,(.slice 1 [(.str [121])] .no),(.slice 7 [(.agg [(.i 18),(.i 0),(.str [107]),.e,.z,(.slice 7 [(.agg [(.i 1),(.i 1),.e,.e,.z,.z,.z])] .no),.z]),(.agg [(.i 18),(.i 0),(.str [107]),.e,.z,(.slice 7 [(.agg [(.i 1),(.i 1),.e,.e,.z,.z,.z])] .no),.z])] .no),.z]),(.str [107])]
def aHw:AV:=(.tuple [(.i 0),(.slice 1 [(.i 1)] .no),(.i 10)])
theorem aNA:Pf aY 15 aHp aHw:=bT aF7 (n:=40) (by kernel_rfl)
def aGm:List ME:=⟨15,aHp,aHw⟩::aHH
theorem aHE:dD aY aGm:= .cons aNA aF7
def aHJ:List AV:= [(.agg [(.i 8),(.i 0),.e,.e,.z,(.slice 7 [(.agg [(.i 0),(.i 0),(.str [98]),.e,.z,.z,.z]),(.agg [(.i 18),(.i 0),(.str [107]),.e,.z,(.slice 7 [(.agg [(.i 1),(.i 1),.e,.e,.z,.z,.z])] .no),.z]),(.agg [(.i 6),(.i 0),.e,.e,(.slice 1 [(.str [117])] .no),(.slice 7 [(.agg [(.i 19),(.i 0),(.str [107]),.e,.z,.z,.z]),(.agg [(.i 1),(.i 1),.e,.e,.z,.z,.z])] .no),.z])] .no),.z]),(.str [107])]
def aHh:AV:=(.tuple [(.slice 1 [(.slice 1 [(.i 1)] .no),(.slice 1 [(.i 2),(.i 0)] .no)] .no),(.i 0)])
theorem aLR:Pf aY 18 aHJ aHh:=bT aHE (n:=22) (by kernel_rfl)
def aFr:List ME:=⟨18,aHJ,aHh⟩::aGm
theorem aHc:dD aY aFr:= .cons aLR aHE
def aF4:List AV:= [(.agg [(.str [65,115,107]),(.slice 14 [(.agg [(.str [97,115,107]),(.i 2),(.i 0),.e,.z,.z,(.i 0),(.i 2),(.i 0),.e,.z,.z,(.i 0),(.bool true)]),(.agg [(.str [116,101,108,108]),(.i 2),(.i 0),.e,.z,.z,(.i 0),(.i 4),(.i 0),.e,.z,.z,(.i 0),(.bool false)])] .no)])]
def aGW:AV:=(.i 0)
theorem aM2:Pf aY 146 aF4 aGW:=bT aHc (n:=40) (by kernel_rfl)
def aFV:List ME:=⟨146,aF4,aGW⟩::aFr
theorem aG5:dD aY aFV:= .cons aM2 aHc
def aG1:List AV:= [(.agg [(.str [84,105,99,107]),(.slice 14 [(.agg [(.str [116,105,99,107]),(.i 4),(.i 0),.e,.z,.z,(.i 0),(.i 2),(.i 0),.e,.z,.z,(.i 0),(.bool true)])] .no)])]
def aHg:AV:=(.i 0)
theorem aND:Pf aY 146 aG1 aHg:=bT aG5 (n:=40) (by kernel_rfl)
def aFW:List ME:=⟨146,aG1,aHg⟩::aFV
theorem aGc:dD aY aFW:= .cons aND aG5
def aIc:List AV:= [(.agg [(.i 14),(.i 0),(.str [65,115,107]),.e,.z,(.slice 7 [(.agg [(.i 12),(.i 0),(.str [97,115,107]),.e,.z,(.slice 7 [(.agg [(.i 1),(.i 1),.e,.e,.z,.z,.z])] .no),.z])] .no),(.slice 9 [(.agg [(.str [114,101,116,117,114,110]),(.slice 1 [(.str [120])] .no),(.i 0),(.i 0),(.str [120]),.e,.z,.z,.z]),(.agg [(.str [97,115,107]),(.slice 1 [(.str [120]),(.str [107])] .no),(.i 18),(.i 0),(.str [107]),.e,.z,(.slice 7 [(.agg [(.i 1),(.i 1),.e,.e,.z,.z,.z])] .no),.z]),(.agg [(.str [116,101,108,108]),(.slice 1 [(.str [120]),(.str [107])] .no),(.i 5),(.i 0),.e,.e,.z,(.slice 7 [(.agg [(.i 0),(.i 0),(.str [107]),.e,.z,.z,.z]),(.agg [(.i 3),(.i 0),.e,.e,.z,.z,.z])] .no),.z])] .no)]),(.i 1)]
def aFd:AV:=(.i 0)
theorem aMU:Pf aY 213 aIc aFd:=bT aGc (n:=41) (by kernel_rfl)
def aF0:List ME:=⟨213,aIc,aFd⟩::aFW
theorem aHC:dD aY aF0:= .cons aMU aGc
def aHL:List AV:= [(.agg [(.i 14),(.i 0),(.str [65,115,107]),.e,.z,(.slice 7 [(.agg [(.i 12),(.i 0),(.str [97,115,107]),.e,.z,(.slice 7 [(.agg [(.i 1),(.i 1),.e,.e,.z,.z,.z])] .no),.z])] .no),(.slice 9 [(.agg [(.str [114,101,116,117,114,110]),(.slice 1 [(.str [120])] .no),(.i 0),(.i 0),(.str [120]),.e,.z,.z,.z]),(.agg [(.str [97,115,107]),(.slice 1 [(.str [120]),(.str [107])] .no),(.i 18),(.i 0),(.str [107]),.e,.z,(.slice 7 [(.agg [(.i 1),(.i 1),.e,.e,.z,.z,.z])] .no),.z]),(.agg [(.str [116,101,108,108]),(.slice 1 [(.str [120]),(.str [107])] .no),(.i 5),(.i 0),.e,.e,.z,(.slice 7 [(.agg [(.i 0),(.i 0),(.str [107]),.e,.z,.z,.z]),(.agg [(.i 3),(.i 0),.e,.e,.z,.z,.z])] .no),.z])] .no)]),(.i 2)]
def aG0:AV:=(.i 0)
theorem aLE:Pf aY 213 aHL aG0:=bT aHC (n:=41) (by kernel_rfl)
def aGV:List ME:=⟨213,aHL,aG0⟩::aF0
theorem aGh:dD aY aGV:= .cons aLE aHC
def aHj:List AV:= [(.agg [(.i 14),(.i 0),(.str [65,115,107]),.e,.z,(.slice 7 [(.agg [(.i 12),(.i 0),(.str [97,115,107]),.e,.z,(.slice 7 [(.agg [(.i 1),(.i 1),.e,.e,.z,.z,.z])] .no),.z])] .no),(.slice 9 [(.agg [(.str [114,101,116,117,114,110]),(.slice 1 [(.str [120])] .no),(.i 0),(.i 0),(.str [120]),.e,.z,.z,.z]),(.agg [(.str [97,115,107]),(.slice 1 [(.str [120]),(.str [107])] .no),(.i 18),(.i 0),(.str [107]),.e,.z,(.slice 7 [(.agg [(.i 1),(.i 1),.e,.e,.z,.z,.z])] .no),.z]),(.agg [(.str [116,101,108,108]),(.slice 1 [(.str [120]),(.str [107])] .no),(.i 5),(.i 0),.e,.e,.z,(.slice 7 [(.agg [(.i 0),(.i 0),(.str [107]),.e,.z,.z,.z]),(.agg [(.i 3),(.i 0),.e,.e,.z,.z,.z])] .no),.z])] .no)])]
def aG8:AV:=(.i 0)
theorem aLP:Pf aY 195 aHj aG8:=bT aGh (n:=42) (by kernel_rfl)
def aE2:List ME:=⟨195,aHj,aG8⟩::aGV
theorem aFY:dD aY aE2:= .cons aLP aGh
def aGs:List AV:= [(.agg [(.i 12),(.i 0),(.str [97,115,107]),.e,.z,(.slice 7 [(.agg [(.i 1),(.i 1),.e,.e,.z,.z,.z])] .no),.z])]
def aFp:AV:=(.i 0)
theorem aM5:Pf aY 150 aGs aFp:=bT aFY (n:=41) (by kernel_rfl)
def aHA:List ME:=⟨150,aGs,aFp⟩::aE2
theorem aGD:dD aY aHA:= .cons aM5 aFY
def aIb:List AV:= [(.agg [(.i 5),(.i 0),.e,.e,.z,(.slice 7 [(.agg [(.i 0),(.i 0),(.str [107]),.e,.z,.z,.z]),(.agg [(.i 3),(.i 0),.e,.e,.z,.z,.z])] .no),.z])]
def aHd:AV:=(.i 0)
theorem aNR:Pf aY 150 aIb aHd:=bT aGD (n:=44) (by kernel_rfl)
def aFR:List ME:=⟨150,aIb,aHd⟩::aHA
theorem aFM:dD aY aFR:= .cons aNR aGD
def aEX:List AV:= [(.agg [(.i 14),(.i 0),(.str [65,115,107]),.e,.z,(.slice 7 [(.agg [(.i 12),(.i 0),(.str [97,115,107]),.e,.z,(.slice 7 [(.agg [(.i 1),(.i 1),.e,.e,.z,.z,.z])] .no),.z])] .no),(.slice 9 [(.agg [(.str [114,101,116,117,114,110]),(.slice 1 [(.str [120])] .no),(.i 0),(.i 0),(.str [120]),.e,.z,.z,.z]),(.agg [(.str [97,115,107]),(.slice 1 [(.str [120]),(.str [107])] .no),(.i 18),(.i 0),(.str [107]),.e,.z,(.slice 7 [(.agg [(.i 1),(.i 1),.e,.e,.z,.z,.z])] .no),.z]),(.agg [(.str [116,101,108,108]),(.slice 1 [(.str [120]),(.str [107])] .no),(.i 5),(.i 0),.e,.e,.z,(.slice 7 [(.agg [(.i 0),(.i 0),(.str [107]),.e,.z,.z,.z]),(.agg [(.i 3),(.i 0),.e,.e,.z,.z,.z])] .no),.z])] .no)])]
def aGp:AV:=(.tuple [(.agg [(.i 2991),(.i 3)]),(.i 0)])
theorem aMA:Pf aY 113 aEX aGp:=bT aFM (n:=45) (by kernel_rfl)
def aGi:List ME:=⟨113,aEX,aGp⟩::aFR
theorem aGA:dD aY aGi:= .cons aMA aFM
def aGt:List AV:= [(.agg [.z,(.slice 2 [(.agg [(.str [65,115,107]),(.slice 14 [(.agg [(.str [97,115,107]),(.i 2),(.i 0),.e,.z,.z,(.i 0),(.i 2),(.i 0),.e,.z,.z,(.i 0),(.bool true)]),(.agg [(.str [116,101,108,108]),(.i 2),(.i 0),.e,.z,.z,(.i 0),(.i 4),(.i 0),.e,.z,.z,(.i 0),(.bool false)])] .no)]),(.agg [(.str [84,105,99,107]),(.slice 14 [(.agg [(.str [116,105,99,107]),(.i 4),(.i 0),.e,.z,.z,(.i 0),(.i 2),(.i 0),.e,.z,.z,(.i 0),(.bool true)])] .no)])] .no),.z,(.i 1),(.i 1),.e,.e,.z,.z,.z]),(.agg [(.i 14),(.i 0),(.str [65,115,107]),.e,.z,(.slice 7 [(.agg [(.i 12),(.i 0),(.str [97,115,107]),.e,.z,(.slice 7 [(.agg [(.i 1),(.i 1),.e,.e,.z,.z,.z])] .no),.z])] .no),(.slice 9 [(.agg [(.str [114,101,116,117,114,110]),(.slice 1 [(.str [120])] .no),(.i 0),(.i 0),(.str [120]),.e,.z,.z,.z]),(.agg [(.str [97,115,107]),(.slice 1 [(.str [120]),(.str [107])] .no),(.i 18),(.i 0),(.str [107]),.e,.z,(.slice 7 [(.agg [(.i 1),(.i 1),.e,.e,.z,.z,.z])] .no),.z]),(.agg [(.str [116,101,108,108]),(.slice 1 [(.str [120]),(.str [107])] .no),(.i 5),(.i 0),.e,.e,.z,(.slice 7 [(.agg [(.i 0),(.i 0),(.str [107]),.e,.z,.z,.z]),(.agg [(.i 3),(.i 0),.e,.e,.z,.z,.z])] .no),.z])] .no)])]
def aH2:AV:=(.i 0)
theorem aMT:Pf aY 56 aGt aH2:=bT aGA (n:=23) (by kernel_rfl)
def aFI:List ME:=⟨56,aGt,aH2⟩::aGi
theorem aGR:dD aY aFI:= .cons aMT aGA
def aHz:List AV:= [(.agg [.z,(.slice 2 [(.agg [(.str [65,115,107]),(.slice 14 [(.agg [(.str [97,115,107]),(.i 2),(.i 0),.e,.z,.z,(.i 0),(.i 2),(.i 0),.e,.z,.z,(.i 0),(.bool true)]),(.agg [(.str [116,101,108,108]),(.i 2),(.i 0),.e,.z,.z,(.i 0),(.i 4),(.i 0),.e,.z,.z,(.i 0),(.bool false)])] .no)]),(.agg [(.str [84,105,99,107]),(.slice 14 [(.agg [(.str [116,105,99,107]),(.i 4),(.i 0),.e,.z,.z,(.i 0),(.i 2),(.i 0),.e,.z,.z,(.i 0),(.bool true)])] .no)])] .no),.z,(.i 1),(.i 1),.e,.e,.z,.z,.z]),(.agg [(.i 14),(.i 0),(.str [65,115,107]),.e,.z,(.slice 7 [(.agg [(.i 12),(.i 0),(.str [97,115,107]),.e,.z,(.slice 7 [(.agg [(.i 1),(.i 1),.e,.e,.z,.z,.z])] .no),.z])] .no),(.slice 9 [(.agg [(.str [114,101,116,117,114,110]),(.slice 1 [(.str [120])] .no),(.i 0),(.i 0),(.str [120]),.e,.z,.z,.z]),(.agg [(.str [97,115,107]),(.slice 1 [(.str [120]),(.str [107])] .no),(.i 18),(.i 0),(.str [107]),.e,.z,(.slice 7 [(.agg [(.i 1),(.i 1),.e,.e,.z,.z,.z])] .no),.z]),(.agg [(.str [116,101,108,108]),(.slice 1 [(.str [120]),(.str [107])] .no),(.i 5),(.i 0),.e,.e,.z,(.slice 7 [(.agg [(.i 0),(.i 0),(.str [107]),.e,.z,.z,.z]),(.agg [(.i 3),(.i 0),.e,.e,.z,.z,.z])] .no),.z])] .no),.z])]
def aGl:AV:=(.tuple [.z,(.i 0)])
theorem aMw:Pf aY 57 aHz aGl:=bT aGR (n:=22) (by kernel_rfl)
def aGM:List ME:=⟨57,aHz,aGl⟩::aFI
theorem aGd:dD aY aGM:= .cons aMw aGR
def aIe:List AV:= [(.agg [(.i 14),(.i 0),(.str [65,115,107]),.e,.z,(.slice 7 [(.agg [(.i 12),(.i 0),(.str [97,115,107]),.e,.z,(.slice 7 [(.agg [(.i 1),(.i 1),.e,.e,.z,.z,.z])] .no),.z])] .no),(.slice 9 [(.agg [(.str [114,101,116,117,114,110]),(.slice 1 [(.str [120])] .no),(.i 0),(.i 0),(.str [120]),.e,.z,.z,.z]),(.agg [(.str [97,115,107]),(.slice 1 [(.str [120]),(.str [107])] .no),(.i 0),(.i 0),(.str [120]),.e,.z,.z,.z]),(.agg [(.str [116,101,108,108]),(.slice 1 [(.str [120]),(.str [107])] .no),(.i 5),(.i 0),.e,.e,.z,(.slice 7 [(.agg [(.i 0),(.i 0),(.str [107]),.e,.z,.z,.z]),(.agg [(.i 3),(.i 0),.e,.e,.z,.z,.z])] .no),.z])] .no)]),(.i 1)]
def aFw:AV:=(.i 0)
theorem aM0:Pf aY 213 aIe aFw:=bT aGd (n:=41) (by kernel_rfl)
def aH3:List ME:=⟨213,aIe,aFw⟩::aGM
theorem aE7:dD aY aH3:= .cons aM0 aGd
def aFQ:List AV:= [(.agg [(.i 14),(.i 0),(.str [65,115,107]),.e,.z,(.slice 7 [(.agg [(.i 12),(.i 0),(.str [97,115,107]),.e,.z,(.slice 7 [(.agg [(.i 1),(.i 1),.e,.e,.z,.z,.z])] .no),.z])] .no),(.slice 9 [(.agg [(.str [114,101,116,117,114,110]),(.slice 1 [(.str [120])] .no),(.i 0),(.i 0),(.str [120]),.e,.z,.z,.z]),(.agg [(.str [97,115,107]),(.slice 1 [(.str [120]),(.str [107])] .no),(.i 0),(.i 0),(.str [120]),.e,.z,.z,.z]),(.agg [(.str [116,101,108,108]),(.slice 1 [(.str [120]),(.str [107])] .no),(.i 5),(.i 0),.e,.e,.z,(.slice 7 [(.agg [(.i 0),(.i 0),(.str [107]),.e,.z,.z,.z]),(.agg [(.i 3),(.i 0),.e,.e,.z,.z,.z])] .no),.z])] .no)]),(.i 2)]
def aHK:AV:=(.i 0)
theorem aLL:Pf aY 213 aFQ aHK:=bT aE7 (n:=41) (by kernel_rfl)
def aG3:List ME:=⟨213,aFQ,aHK⟩::aH3
theorem aH6:dD aY aG3:= .cons aLL aE7
def aF8:List AV:= [(.agg [(.i 14),(.i 0),(.str [65,115,107]),.e,.z,(.slice 7 [(.agg [(.i 12),(.i 0),(.str [97,115,107]),.e,.z,(.slice 7 [(.agg [(.i 1),(.i 1),.e,.e,.z,.z,.z])] .no),.z])] .no),(.slice 9 [(.agg [(.str [114,101,116,117,114,110]),(.slice 1 [(.str [120])] .no),(.i 0),(.i 0),(.str [120]),.e,.z,.z,.z]),(.agg [(.str [97,115,107]),(.slice 1 [(.str [120]),(.str [107])] .no),(.i 0),(.i 0),(.str [120]),.e,.z,.z,.z]),(.agg [(.str [116,101,108,108]),(.slice 1 [(.str [120]),(.str [107])] .no),(.i 5),(.i 0),.e,.e,.z,(.slice 7 [(.agg [(.i 0),(.i 0),(.str [107]),.e,.z,.z,.z]),(.agg [(.i 3),(.i 0),.e,.e,.z,.z,.z])] .no),.z])] .no)])]
def aFK:AV:=(.i 0)
theorem aLW:Pf aY 195 aF8 aFK:=bT aH6 (n:=42) (by kernel_rfl)
def aEY:List ME:=⟨195,aF8,aFK⟩::aG3
theorem aFj:dD aY aEY:= .cons aLW aH6
def aGT:List AV:= [(.agg [(.i 14),(.i 0),(.str [65,115,107]),.e,.z,(.slice 7 [(.agg [(.i 12),(.i 0),(.str [97,115,107]),.e,.z,(.slice 7 [(.agg [(.i 1),(.i 1),.e,.e,.z,.z,.z])] .no),.z])] .no),(.slice 9 [(.agg [(.str [114,101,116,117,114,110]),(.slice 1 [(.str [120])] .no),(.i 0),(.i 0),(.str [120]),.e,.z,.z,.z]),(.agg [(.str [97,115,107]),(.slice 1 [(.str [120]),(.str [107])] .no),(.i 0),(.i 0),(.str [120]),.e,.z,.z,.z]),(.agg [(.str [116,101,108,108]),(.slice 1 [(.str [120]),(.str [107])] .no),(.i 5),(.i 0),.e,.e,.z,(.slice 7 [(.agg [(.i 0),(.i 0),(.str [107]),.e,.z,.z,.z]),(.agg [(.i 3),(.i 0),.e,.e,.z,.z,.z])] .no),.z])] .no)])]
def aH9:AV:=(.i 0)
theorem aNE:Pf aY 150 aGT aH9:=bT aFj (n:=44) (by kernel_rfl)
def aGr:List ME:=⟨150,aGT,aH9⟩::aEY
theorem aG7:dD aY aGr:= .cons aNE aFj
def aGg:List AV:= [(.agg [.z,(.slice 2 [(.agg [(.str [65,115,107]),(.slice 14 [(.agg [(.str [97,115,107]),(.i 2),(.i 0),.e,.z,.z,(.i 0),(.i 2),(.i 0),.e,.z,.z,(.i 0),(.bool true)]),(.agg [(.str [116,101,108,108]),(.i 2),(.i 0),.e,.z,.z,(.i 0),(.i 4),(.i 0),.e,.z,.z,(.i 0),(.bool false)])] .no)]),(.agg [(.str [84,105,99,107]),(.slice 14 [(.agg [(.str [116,105,99,107]),(.i 4),(.i 0),.e,.z,.z,(.i 0),(.i 2),(.i 0),.e,.z,.z,(.i 0),(.bool true)])] .no)])] .no),.z,(.i 1),(.i 1),.e,.e,.z,.z,.z]),(.agg [(.i 14),(.i 0),(.str [65,115,107]),.e,.z,(.slice 7 [(.agg [(.i 12),(.i 0),(.str [97,115,107]),.e,.z,(.slice 7 [(.agg [(.i 1),(.i 1),.e,.e,.z,.z,.z])] .no),.z])] .no),(.slice 9 [(.agg [(.str [114,101,116,117,114,110]),(.slice 1 [(.str [120])] .no),(.i 0),(.i 0),(.str [120]),.e,.z,.z,.z]),(.agg [(.str [97,115,107]),(.slice 1 [(.str [120]),(.str [107])] .no),(.i 0),(.i 0),(.str [120]),.e,.z,.z,.z]),(.agg [(.str [116,101,108,108]),(.slice 1 [(.str [120]),(.str [107])] .no),(.i 5),(.i 0),.e,.e,.z,(.slice 7 [(.agg [(.i 0),(.i 0),(.str [107]),.e,.z,.z,.z]),(.agg [(.i 3),(.i 0),.e,.e,.z,.z,.z])] .no),.z])] .no)])]
def aGy:AV:=(.i 0)
theorem aNS:Pf aY 56 aGg aGy:=bT aG7 (n:=23) (by kernel_rfl)
def aFS:List ME:=⟨56,aGg,aGy⟩::aGr
theorem aG6:dD aY aFS:= .cons aNS aG7
def aGu:List AV:= [(.agg [(.i 14),(.i 0),(.str [65,115,107]),.e,.z,(.slice 7 [(.agg [(.i 12),(.i 0),(.str [97,115,107]),.e,.z,(.slice 7 [(.agg [(.i 1),(.i 1),.e,.e,.z,.z,.z])] .no),.z])] .no),(.slice 9 [(.agg [(.str [114,101,116,117,114,110]),(.slice 1 [(.str [120])] .no),(.i 0),(.i 0),(.str [120]),.e,.z,.z,.z]),(.agg [(.str [97,115,107]),(.slice 1 [(.str [120]),(.str [107])] .no),(.i 18),(.i 0),(.str [107]),.e,.z,(.slice 7 [(.agg [(.i 1),(.i 1),.e,.e,.z,.z,.z])] .no),.z]),(.agg [(.str [116,101,108,108]),(.slice 1 [(.str [120]),(.str [107])] .no),(.i 18),(.i 0),(.str [107]),.e,.z,(.slice 7 [(.agg [(.i 1),(.i 1),.e,.e,.z,.z,.z])] .no),.z])] .no)]),(.i 1)]
def aFf:AV:=(.i 0)
theorem aNG:Pf aY 213 aGu aFf:=bT aG6 (n:=41) (by kernel_rfl)
def aFO:List ME:=⟨213,aGu,aFf⟩::aFS
theorem aFC:dD aY aFO:= .cons aNG aG6
def aFk:List AV:= [(.agg [(.i 14),(.i 0),(.str [65,115,107]),.e,.z,(.slice 7 [(.agg [(.i 12),(.i 0),(.str [97,115,107]),.e,.z,(.slice 7 [(.agg [(.i 1),(.i 1),.e,.e,.z,.z,.z])] .no),.z])] .no),(.slice 9 [(.agg [(.str [114,101,116,117,114,110]),(.slice 1 [(.str [120])] .no),(.i 0),(.i 0),(.str [120]),.e,.z,.z,.z]),(.agg [(.str [97,115,107]),(.slice 1 [(.str [120]),(.str [107])] .no),(.i 18),(.i 0),(.str [107]),.e,.z,(.slice 7 [(.agg [(.i 1),(.i 1),.e,.e,.z,.z,.z])] .no),.z]),(.agg [(.str [116,101,108,108]),(.slice 1 [(.str [120]),(.str [107])] .no),(.i 18),(.i 0),(.str [107]),.e,.z,(.slice 7 [(.agg [(.i 1),(.i 1),.e,.e,.z,.z,.z])] .no),.z])] .no)]),(.i 2)]
def aHY:AV:=(.i 0)
theorem aN1:Pf aY 213 aFk aHY:=bT aFC (n:=41) (by kernel_rfl)
def aHa:List ME:=⟨213,aFk,aHY⟩::aFO
theorem aGZ:dD aY aHa:= .cons aN1 aFC
def aHB:List AV:= [(.agg [(.i 14),(.i 0),(.str [65,115,107]),.e,.z,(.slice 7 [(.agg [(.i 12),(.i 0),(.str [97,115,107]),.e,.z,(.slice 7 [(.agg [(.i 1),(.i 1),.e,.e,.z,.z,.z])] .no),.z])] .no),(.slice 9 [(.agg [(.str [114,101,116,117,114,110]),(.slice 1 [(.str [120])] .no),(.i 0),(.i 0),(.str [120]),.e,.z,.z,.z]),(.agg [(.str [97,115,107]),(.slice 1 [(.str [120]),(.str [107])] .no),(.i 18),(.i 0),(.str [107]),.e,.z,(.slice 7 [(.agg [(.i 1),(.i 1),.e,.e,.z,.z,.z])] .no),.z]),(.agg [(.str [116,101,108,108]),(.slice 1 [(.str [120]),(.str [107])] .no),(.i 18),(.i 0),(.str [107]),.e,.z,(.slice 7 [(.agg [(.i 1),(.i 1),.e,.e,.z,.z,.z])] .no),.z])] .no)])]
def aFB:AV:=(.i 0)
theorem aL0:Pf aY 195 aHB aFB:=bT aGZ (n:=42) (by kernel_rfl)
def aFJ:List ME:=⟨195,aHB,aFB⟩::aHa
theorem aFa:dD aY aFJ:= .cons aL0 aGZ
def aHT:List AV:= [(.agg [.z,(.slice 2 [(.agg [(.str [65,115,107]),(.slice 14 [(.agg [(.str [97,115,107]),(.i 2),(.i 0),.e,.z,.z,(.i 0),(.i 2),(.i 0),.e,.z,.z,(.i 0),(.bool true)]),(.agg [(.str [116,101,108,108]),(.i 2),(.i 0),.e,.z,.z,(.i 0),(.i 4),(.i 0),.e,.z,.z,(.i 0),(.bool false)])] .no)]),(.agg [(.str [84,105,99,107]),(.slice 14 [(.agg [(.str [116,105,99,107]),(.i 4),(.i 0),.e,.z,.z,(.i 0),(.i 2),(.i 0),.e,.z,.z,(.i 0),(.bool true)])] .no)])] .no),.z,(.i 14),(.i 0),(.str [65,115,107]),.e,.z,(.slice 7 [(.agg [(.i 12),(.i 0),(.str [97,115,107]),.e,.z,(.slice 7 [(.agg [(.i 1),(.i 1),.e,.e,.z,.z,.z])] .no),.z])] .no),(.slice 9 [(.agg [(.str [114,101,116,117,114,110]),(.slice 1 [(.str [120])] .no),(.i 0),(.i 0),(.str [120]),.e,.z,.z,.z]),(.agg [(.str [97,115,107]),(.slice 1 [(.str [120]),(.str [107])] .no),(.i 18),(.i 0),(.str [107]),.e,.z,(.slice 7 [(.agg [(.i 1),(.i 1),.e,.e,.z,.z,.z])] .no),.z]),(.agg [(.str [116,101,108,108]),(.slice 1 [(.str [120]),(.str [107])] .no),(.i 18),(.i 0),(.str [107]),.e,.z,(.slice 7 [(.agg [(.i 1),(.i 1),.e,.e,.z,.z,.z])] .no),.z])] .no)])]
def aF5:AV:=(.i 0)
theorem aLT:Pf aY 97 aHT aF5:=bT aFa (n:=45) (by kernel_rfl)
def aGC:List ME:=⟨97,aHT,aF5⟩::aFJ
theorem aGx:dD aY aGC:= .cons aLT aFa
def aE3:List AV:= [(.agg [.z,(.slice 2 [(.agg [(.str [65,115,107]),(.slice 14 [(.agg [(.str [97,115,107]),(.i 2),(.i 0),.e,.z,.z,(.i 0),(.i 2),(.i 0),.e,.z,.z,(.i 0),(.bool true)]),(.agg [(.str [116,101,108,108]),(.i 2),(.i 0),.e,.z,.z,(.i 0),(.i 4),(.i 0),.e,.z,.z,(.i 0),(.bool false)])] .no)]),(.agg [(.str [84,105,99,107]),(.slice 14 [(.agg [(.str [116,105,99,107]),(.i 4),(.i 0),.e,.z,.z,(.i 0),(.i 2),(.i 0),.e,.z,.z,(.i 0),(.bool true)])] .no)])] .no),.z,(.i 14),(.i 0),(.str [65,115,107]),.e,.z,(.slice 7 [(.agg [(.i 12),(.i 0),(.str [97,115,107]),.e,.z,(.slice 7 [(.agg [(.i 1),(.i 1),.e,.e,.z,.z,.z])] .no),.z])] .no),(.slice 9 [(.agg [(.str [114,101,116,117,114,110]),(.slice 1 [(.str [120])] .no),(.i 0),(.i 0),(.str [120]),.e,.z,.z,.z]),(.agg [(.str [97,115,107]),(.slice 1 [(.str [120]),(.str [107])] .no),(.i 18),(.i 0),(.str [107]),.e,.z,(.slice 7 [(.agg [(.i 1),(.i 1),.e,.e,.z,.z,.z])] .no),.z]),(.agg [(.str [116,101,108,108]),(.slice 1 [(.str [120]),(.str [107])] .no),(.i 18),(.i 0),(.str [107]),.e,.z,(.slice 7 [(.agg [(.i 1),(.i 1),.e,.e,.z,.z,.z])] .no),.z])] .no)])]
def aE6:AV:=(.i 0)
theorem aNU:Pf aY 58 aE3 aE6:=bT aGx (n:=23) (by kernel_rfl)
def aG4:List ME:=⟨58,aE3,aE6⟩::aGC
theorem aE8:dD aY aG4:= .cons aNU aGx
def aH0:List AV:= [(.agg [.z,(.slice 2 [(.agg [(.str [65,115,107]),(.slice 14 [(.agg [(.str [97,115,107]),(.i 2),(.i 0),.e,.z,.z,(.i 0),(.i 2),(.i 0),.e,.z,.z,(.i 0),(.bool true)]),(.agg [(.str [116,101,108,108]),(.i 2),(.i 0),.e,.z,.z,(.i 0),(.i 4),(.i 0),.e,.z,.z,(.i 0),(.bool false)])] .no)]),(.agg [(.str [84,105,99,107]),(.slice 14 [(.agg [(.str [116,105,99,107]),(.i 4),(.i 0),.e,.z,.z,(.i 0),(.i 2),(.i 0),.e,.z,.z,(.i 0),(.bool true)])] .no)])] .no),.z,(.i 14),(.i 0),(.str [65,115,107]),.e,.z,(.slice 7 [(.agg [(.i 12),(.i 0),(.str [97,115,107]),.e,.z,(.slice 7 [(.agg [(.i 1),(.i 1),.e,.e,.z,.z,.z])] .no),.z])] .no),(.slice 9 [(.agg [(.str [114,101,116,117,114,110]),(.slice 1 [(.str [120])] .no),(.i 0),(.i 0),(.str [120]),.e,.z,.z,.z]),(.agg [(.str [97,115,107]),(.slice 1 [(.str [120]),(.str [107])] .no),(.i 18),(.i 0),(.str [107]),.e,.z,(.slice 7 [(.agg [(.i 1),(.i 1),.e,.e,.z,.z,.z])] .no),.z]),(.agg [(.str [116,101,108,108]),(.slice 1 [(.str [120]),(.str [107])] .no),(.i 18),(.i 0),(.str [107]),.e,.z,(.slice 7 [(.agg [(.i 1),(.i 1),.e,.e,.z,.z,.z])] .no),.z])] .no)]),(.agg [(.i 14),(.i 0),(.str [65,115,107]),.e,.z,(.slice 7 [(.agg [(.i 12),(.i 0),(.str [97,115,107]),.e,.z,(.slice 7 [(.agg [(.i 1),(.i 1),.e,.e,.z,.z,.z])] .no),.z])] .no),(.slice 9 [(.agg [(.str [114,101,116,117,114,110]),(.slice 1 [(.str [120])] .no),(.i 0),(.i 0),(.str [120]),.e,.z,.z,.z]),(.agg [(.str [97,115,107]),(.slice 1 [(.str [120]),(.str [107])] .no),(.i 18),(.i 0),(.str [107]),.e,.z,(.slice 7 [(.agg [(.i 1),(.i 1),.e,.e,.z,.z,.z])] .no),.z]),(.agg [(.str [116,101,108,108]),(.slice 1 [(.str [120]),(.str [107])] .no),(.i 18),(.i 0),(.str [107]),.e,.z,(.slice 7 [(.agg [(.i 1),(.i 1),.e,.e,.z,.z,.z])] .no),.z])] .no),(.slice 1 [(.i 0)] .no)])]
def aE1:AV:=(.tuple [(.slice 1 [(.i 0),(.i 3)] .no),(.i 10)])
theorem aL1:Pf aY 57 aH0 aE1:=bT aE8 (n:=22) (by kernel_rfl)
def aHI:List ME:=⟨57,aH0,aE1⟩::aG4
theorem aEW:dD aY aHI:= .cons aL1 aE8
def aHG:List AV:= [(.agg [(.i 17),(.i 0),.e,.e,(.slice 1 [(.str [114]),(.str [84,105,99,107])] .no),(.slice 7 [(.agg [(.i 1),(.i 1),.e,.e,.z,.z,.z]),(.agg [(.i 4),(.i 0),.e,.e,(.slice 1 [(.str [121])] .no),(.slice 7 [(.agg [(.i 3),(.i 0),.e,.e,.z,.z,.z])] .no),.z]),(.agg [(.i 0),(.i 0),(.str [114]),.e,.z,.z,.z])] .no),.z])]
def aHi:AV:=(.i 0)
theorem aMo:Pf aY 195 aHG aHi:=bT aEW (n:=41) (by kernel_rfl)
def aGj:List ME:=⟨195,aHG,aHi⟩::aHI
theorem aHl:dD aY aGj:= .cons aMo aEW
def aHe:List AV:= [(.agg [(.i 4),(.i 0),.e,.e,(.slice 1 [(.str [121])] .no),(.slice 7 [(.agg [(.i 3),(.i 0),.e,.e,.z,.z,.z])] .no),.z])]
def aE5:AV:=(.i 0)
theorem aNJ:Pf aY 150 aHe aE5:=bT aHl (n:=42) (by kernel_rfl)
def aGq:List ME:=⟨150,aHe,aE5⟩::aGj
theorem aGF:dD aY aGq:= .cons aNJ aHl
def aFt:List AV:= [(.agg [(.i 17),(.i 0),.e,.e,(.slice 1 [(.str [114]),(.str [84,105,99,107])] .no),(.slice 7 [(.agg [(.i 1),(.i 1),.e,.e,.z,.z,.z]),(.agg [(.i 4),(.i 0),.e,.e,(.slice 1 [(.str [121])] .no),(.slice 7 [(.agg [(.i 3),(.i 0),.e,.e,.z,.z,.z])] .no),.z]),(.agg [(.i 0),(.i 0),(.str [114]),.e,.z,.z,.z])] .no),.z])]
def aHX:AV:=(.i 0)
theorem aNf:Pf aY 150 aFt aHX:=bT aGF (n:=44) (by kernel_rfl)
def aGH:List ME:=⟨150,aFt,aHX⟩::aGq
theorem aHO:dD aY aGH:= .cons aNf aGF
def aHt:List AV:= [(.agg [.z,(.slice 2 [(.agg [(.str [65,115,107]),(.slice 14 [(.agg [(.str [97,115,107]),(.i 2),(.i 0),.e,.z,.z,(.i 0),(.i 2),(.i 0),.e,.z,.z,(.i 0),(.bool true)]),(.agg [(.str [116,101,108,108]),(.i 2),(.i 0),.e,.z,.z,(.i 0),(.i 4),(.i 0),.e,.z,.z,(.i 0),(.bool false)])] .no)]),(.agg [(.str [84,105,99,107]),(.slice 14 [(.agg [(.str [116,105,99,107]),(.i 4),(.i 0),.e,.z,.z,(.i 0),(.i 2),(.i 0),.e,.z,.z,(.i 0),(.bool true)])] .no)])] .no),.z,(.i 1),(.i 1),.e,.e,.z,.z,.z]),(.agg [(.i 17),(.i 0),.e,.e,(.slice 1 [(.str [114]),(.str [84,105,99,107])] .no),(.slice 7 [(.agg [(.i 1),(.i 1),.e,.e,.z,.z,.z]),(.agg [(.i 4),(.i 0),.e,.e,(.slice 1 [(.str [121])] .no),(.slice 7 [(.agg [(.i 3),(.i 0),.e,.e,.z,.z,.z])] .no),.z]),(.agg [(.i 0),(.i 0),(.str [114]),.e,.z,.z,.z])] .no),.z])]
def aHf:AV:=(.i 0)
theorem aMY:Pf aY 56 aHt aHf:=bT aHO (n:=23) (by kernel_rfl)
def aHD:List ME:=⟨56,aHt,aHf⟩::aGH
theorem aHx:dD aY aHD:= .cons aMY aHO
def aGB:List AV:= [(.agg [.z,(.slice 2 [(.agg [(.str [65,115,107]),(.slice 14 [(.agg [(.str [97,115,107]),(.i 2),(.i 0),.e,.z,.z,(.i 0),(.i 2),(.i 0),.e,.z,.z,(.i 0),(.bool true)]),(.agg [(.str [116,101,108,108]),(.i 2),(.i 0),.e,.z,.z,(.i 0),(.i 4),(.i 0),.e,.z,.z,(.i 0),(.bool false)])] .no)]),(.agg [(.str [84,105,99,107]),(.slice 14 [(.agg [(.str [116,105,99,107]),(.i 4),(.i 0),.e,.z,.z,(.i 0),(.i 2),(.i 0),.e,.z,.z,(.i 0),(.bool true)])] .no)])] .no),.z,(.i 1),(.i 1),.e,.e,.z,.z,.z]),(.agg [(.i 17),(.i 0),.e,.e,(.slice 1 [(.str [114]),(.str [84,105,99,107])] .no),(.slice 7 [(.agg [(.i 1),(.i 1),.e,.e,.z,.z,.z]),(.agg [(.i 4),(.i 0),.e,.e,(.slice 1 [(.str [121])] .no),(.slice 7 [(.agg [(.i 3),(.i 0),.e,.e,.z,.z,.z])] .no),.z]),(.agg [(.i 0),(.i 0),(.str [114]),.e,.z,.z,.z])] .no),.z,.z])]
def aE9:AV:=(.tuple [.z,(.i 0)])
theorem aMO:Pf aY 57 aGB aE9:=bT aHx (n:=21) (by kernel_rfl)
def aGk:List ME:=⟨57,aGB,aE9⟩::aHD
theorem aGY:dD aY aGk:= .cons aMO aHx
def aFX:List AV:= [(.agg [(.i 17),(.i 0),.e,.e,(.slice 1 [(.str [114]),(.str [84,105,99,107]),(.str [65,115,107])] .no),(.slice 7 [(.agg [(.i 1),(.i 1),.e,.e,.z,.z,.z]),(.agg [(.i 4),(.i 0),.e,.e,(.slice 1 [(.str [121])] .no),(.slice 7 [(.agg [(.i 3),(.i 0),.e,.e,.z,.z,.z])] .no),.z]),(.agg [(.i 0),(.i 0),(.str [114]),.e,.z,.z,.z])] .no),.z])]
def aF1:AV:=(.i 0)
theorem aNb:Pf aY 195 aFX aF1:=bT aGY (n:=41) (by kernel_rfl)
def aHk:List ME:=⟨195,aFX,aF1⟩::aGk
theorem aE0:dD aY aHk:= .cons aNb aGY
def aHF:List AV:= [(.agg [(.i 17),(.i 0),.e,.e,(.slice 1 [(.str [114]),(.str [84,105,99,107]),(.str [65,115,107])] .no),(.slice 7 [(.agg [(.i 1),(.i 1),.e,.e,.z,.z,.z]),(.agg [(.i 4),(.i 0),.e,.e,(.slice 1 [(.str [121])] .no),(.slice 7 [(.agg [(.i 3),(.i 0),.e,.e,.z,.z,.z])] .no),.z]),(.agg [(.i 0),(.i 0),(.str [114]),.e,.z,.z,.z])] .no),.z])]
def aHr:AV:=(.i 0)
theorem aMp:Pf aY 150 aHF aHr:=bT aE0 (n:=44) (by kernel_rfl)
def aGG:List ME:=⟨150,aHF,aHr⟩::aHk
theorem aFz:dD aY aGG:= .cons aMp aE0
def aFm:List AV:= [(.agg [.z,(.slice 2 [(.agg [(.str [65,115,107]),(.slice 14 [(.agg [(.str [97,115,107]),(.i 2),(.i 0),.e,.z,.z,(.i 0),(.i 2),(.i 0),.e,.z,.z,(.i 0),(.bool true)]),(.agg [(.str [116,101,108,108]),(.i 2),(.i 0),.e,.z,.z,(.i 0),(.i 4),(.i 0),.e,.z,.z,(.i 0),(.bool false)])] .no)]),(.agg [(.str [84,105,99,107]),(.slice 14 [(.agg [(.str [116,105,99,107]),(.i 4),(.i 0),.e,.z,.z,(.i 0),(.i 2),(.i 0),.e,.z,.z,(.i 0),(.bool true)])] .no)])] .no),.z,(.i 1),(.i 1),.e,.e,.z,.z,.z]),(.agg [(.i 17),(.i 0),.e,.e,(.slice 1 [(.str [114]),(.str [84,105,99,107]),(.str [65,115,107])] .no),(.slice 7 [(.agg [(.i 1),(.i 1),.e,.e,.z,.z,.z]),(.agg [(.i 4),(.i 0),.e,.e,(.slice 1 [(.str [121])] .no),(.slice 7 [(.agg [(.i 3),(.i 0),.e,.e,.z,.z,.z])] .no),.z]),(.agg [(.i 0),(.i 0),(.str [114]),.e,.z,.z,.z])] .no),.z])]
def aHP:AV:=(.i 0)
theorem aMW:Pf aY 56 aFm aHP:=bT aFz (n:=23) (by kernel_rfl)
def aL3:List ME:=⟨56,aFm,aHP⟩::aGG
theorem aNj:dD aY aL3:= .cons aMW aFz
def aNC:List AV:= []
def aL9:AV:=(.bool true)
theorem aNW:Pf aY 21 aNC aL9:=bT aNj (n:=23) (by kernel_rfl)
theorem aMj:Pf aY 21 [] (.bool true):=aNW
def kws : List Str :=
  [[102, 117, 110], [108, 101, 116], [114, 101, 99], [105, 110], [105, 102], [116, 104, 101, 110], [101, 108, 115, 101], [109, 97, 116, 99, 104], [100, 111], [104, 97, 110, 100, 108, 101],
   [115, 104, 97, 108, 108, 111, 119], [110, 97, 109, 101, 100], [109, 97, 115, 107], [117, 115, 105, 110, 103], [99, 108, 111, 115, 101], [114, 101, 115, 117, 109, 101], [100, 114, 111, 112],
   [114, 101, 116, 117, 114, 110], [116, 114, 117, 101], [102, 97, 108, 115, 101], [100, 97, 116, 97], [101, 102, 102, 101, 99, 116], [111, 110, 99, 101], [100, 101, 102], [109, 97, 105, 110]]
def aMn:List AV:= [(.str [102,117,110,32,108,101,116,32,114,101,99,32,105,110,32,105,102,32,116,104,101,110,32,101,108,115,101,32,109,97,116,99,104,32,100,111,32,104,97,110,100,108,101,32,115,104,97,108,108,111,119,32,110,97,109,101,100,32,109,97,115,107,32,117,115,105,110,103,32,99,108,111,115,101,32,114,101,115,117,109,101,32,100,114,111,112,32,114,101,116,117,114,110,32,116,114,117,101,32,102,97,108,115,101,32,100,97,116,97,32,101,102,102,101,99,116,32,111,110,99,101,32,100,101,102,32,109,97,105,110])]
theorem aLf:Pf PP 200 aMn (slA 1 (kws.map .str)):=bT .nil (n:=150) (by kernel_rfl)
def aEy:List (AV×AV):=kws.map fun k=>(.str k,.int .i64 1)
def aOn:List (AV×AV)→List (AV×AV)→Bool
 | [],[]=>true
 |(a,b)::xs,(c,d)::ys=>match eqV a c&&eqV b d with|true=>aOn xs ys|false=>false
 |_,_=>false
theorem aJw: ∀{xs ys:List (AV×AV)},aOn xs ys=true→xs=ys
 | [],[],_=>rfl
 |(a,b)::xs,(c,d)::ys,h=>by
  simp only [aOn] at h;split at h
  ·rename_i hq;simp only [Bool.and_eq_true] at hq;rw [aAJ hq.1,aAJ hq.2,aJw h]
  ·cases h
 | [],_::_,h=>by cases h
 |_::_,[],h=>by cases h
def aPS(r:Option (jM×ASt)):Bool:=
 match r with
 |some (.ret (.map l),s)=>match s.blks[l]? with|some (.map es)=>aOn es aEy|_=>false
 |_=>false
theorem aEO:aPS ((aEf PP (aAR [⟨200,aMn,slA 1 (kws.map .str)⟩]) 60).call (.func 165) [] dK)=true:=by kernel_rfl
theorem aGL:Ev (fun n=>(cH PP n).call (.func 165) [] dK) (fun r=> ∃l,r.1= .ret (.map l)∧r.2.blks[l]?=some (.map aEy)):=by
 obtain⟨N0,hN⟩:=(dD.cons aLf .nil:dD PP _).ok;have h:=aEO;rw [aCi] at h;unfold aPS at h;split at h
 ·rename_i l s hr;split at h
  ·rename_i es hb;exact Ev.runT hN hr ⟨l,rfl,by rw [hb,aJw h]⟩
  ·cases h
 ·cases h
theorem aFo(s:Str): ∀l:List Str,pI (.str s) (l.map fun k=>(AV.str k,AV.int .i64 1))=some (if l.contains s then some (.int .i64 1) else none)
 | []=>rfl
 |k::l=>by
  simp only [List.map_cons,pI,rD,List.contains_cons,aFo s l];cases h:(s==k)<;>simp
theorem aMx{P:aS}{af:AF}{ex:cY}{fr:Fr}{s s3:ASt}{vs:List AV}{v1 v:AV}(h1:aJn ex=true)(h2:fr.ds= [])(h3:jK P fr.env s af.res=some vs)(h4:nE s vs=some (v1,s3))(h5:mO v1=some v):aRo P af v ex fr s:=⟨h1,h2,vs,v1,s3,h3,h4,h5⟩
theorem aIg(s:Str):Pf PP 110 [.str s] (.bool (kws.contains s)):=by
 refine aJ0 rfl rfl rfl rfl (.cons (aPs s) .nil) ?_
 (repeat first|refine wu rfl ?_|refine wv rfl ?_|refine aB ?_|refine aD ?_|refine aE ?_|refine aQ ?_|refine aN ?_|refine aL ?_|refine dR ?_|refine vC ?_|refine aC7 rfl ?_|refine aAw rfl ?_)
 refine zF (by rfl) (by rfl) (by rfl) (aGL.mono ?_)
 rintro ⟨r,s2⟩ ⟨l,h1,h2⟩
 simp only at h1 h2;subst h1;show Wo PP _ _ _ _ _
 (repeat first|refine wu rfl ?_|refine wv rfl ?_|refine aB ?_|refine aD ?_|refine aE ?_|refine aQ ?_|refine aN ?_|refine aL ?_|refine dR ?_|refine vC ?_|refine aC7 rfl ?_|refine aAw rfl ?_)
 have hf:=aFo s kws;cases hc:kws.contains s with
 |true=>
  rw [if_pos hc] at hf;refine wg (v:= .tuple [.int .i64 1,.bool true]) (s1:=s2) (by rfl) (by rfl) (by simp [cX,bJ,fS,evO,upd,eU,h2,Fw.keyOf,aEy,hf]) ?_
  (repeat first|refine wu rfl ?_|refine wv rfl ?_|refine aB ?_|refine aD ?_|refine aE ?_|refine aQ ?_|refine aN ?_|refine aL ?_|refine dR ?_|refine vC ?_|refine aC7 rfl ?_|refine aAw rfl ?_)
  exact aMx rfl rfl rfl rfl rfl
 |false=>
  rw [if_neg (by rw [hc];decide)] at hf;refine wg (v:= .tuple [.int .i64 0,.bool false]) (s1:=s2) (by rfl) (by rfl) (by simp [cX,bJ,fS,evO,upd,eU,h2,Fw.keyOf,aEy,hf]) ?_
  (repeat first|refine wu rfl ?_|refine wv rfl ?_|refine aB ?_|refine aD ?_|refine aE ?_|refine aQ ?_|refine aN ?_|refine aL ?_|refine dR ?_|refine vC ?_|refine aC7 rfl ?_|refine aAw rfl ?_)
  exact aMx rfl rfl rfl rfl rfl
noncomputable def sP(s:Str):Option Bool:=some (kws.contains s)
theorem z7{s:Str}{r:Bool}(h:sP s=some r):Pf PP 110 [.str s] (.bool r):=by cases h;exact aIg s
theorem aFv(z:AV): ∀n,aDm n [z]=List.replicate n z
 |0=>rfl
 |n+1=>by simp only [aDm,aFv z n,List.replicate_succ];rfl
theorem aC3(l:List Int):jY (l.map (AV.int .i64))=l.map (AV.int .i64):=by
 unfold jY
 induction l with
 |nil=>rfl
 |cons x r ih=>rw [List.map_cons,List.flatMap_cons,ih];rfl
theorem aAM: ∀(l:List Int)(r:List AV),dL (chunks 1 l.length (l.map (AV.int .i64)++r))=some (l.map (AV.int .i64))
 | [],r=>rfl
 |x::l,r=>by
  simp only [List.length_cons,List.map_cons,List.cons_append,chunks,List.headD_cons,List.drop_succ_cons,List.drop_zero,dL,gP,iL,aAM l r]
theorem aLV: ∀l:List Int,iO (l.map (AV.int .i64))=false
 | []=>rfl
 |x::l=>by simp only [List.map_cons,iO,m9,aLV l,Bool.or_self]
theorem aNc: ∀l:List Int,kH (l.map (AV.int .i64))=false
 | []=>rfl
 |x::l=>by simp only [List.map_cons,kH,toks,aNc l,Bool.or_self]
def aNn:Nat:=1000000000
noncomputable def gY(path:List Int)(i:Int):Option (List Int):=if path.length<aNn then some (path++ [i]) else none
theorem aLh(path:List Int)(i:Int)(h:path.length<1000000000):Pf PP 202 [slA 1 (path.map (AV.int .i64)),.int .i64 i] (slA 1 ((path++ [i]).map (AV.int .i64))):=by
 have hl:IntKind.wrap .i64 ((path.length:Int)+1)=((path.length+1:Nat):Int):=by rw [wrap_i64 (by omega) (by omega)];rfl
 refine aJ0 rfl rfl rfl (fV (fun _=>rfl) _) (.cons ⟨rfl,fV (fun _=>rfl) _⟩ (.cons (aOl _ _) .nil)) ?_
 repeat' refine aD ?_
 refine aE ?_;refine wu rfl ?_;refine aB ?_;refine aD ?_;refine aE ?_;refine wu rfl ?_;refine cG (f:=AV.int .i64) (l:=path) rfl (.no _) ?_;refine wu rfl ?_;refine cG (f:=AV.int .i64) (l:=path) rfl (.no _) ?_;refine wgp (v:= .int .i64 ((path.length+1:Nat):Int)) (s1:=dK) rfl rfl (congrArg (fun z=>some (AV.int .i64 z,dK)) hl) ?_;refine wgp (v:= .cE 0 0 path.length (path.length+1) 1) (s1:={dK with blks:= [.cells (List.replicate (path.length+1) (.int .i64 0)) true]}) rfl rfl ?_ ?_
 ·have h1:g6 (.int .i64 (path.length:Int))=some path.length:=by simp [g6]
  have h2:g6 (.int .i64 ((path.length+1:Nat):Int))=some (path.length+1):=by clear hl h1;simp only [g6];rw [if_pos (by omega)];rfl
  have hb:big=1099511627776:=rfl;refine Eq.trans (aMM (n:=path.length) (m:=path.length+1) (by exact h1) (by exact h2) (by omega) (by clear hl;omega) (by clear hl;omega)) ?_;rw [aFv];rfl
 refine wu rfl ?_;refine aB ?_;refine aD ?_;refine aE ?_;refine wu rfl ?_;refine wu rfl ?_;refine wgp (v:= .int .i64 ((path.length:Nat):Int)) (s1:={dK with blks:= [.cells (path.map (AV.int .i64)++ [.int .i64 0]) true]}) rfl rfl ?_ ?_
 ·have he:elems {dK with blks:= [.cells (List.replicate (path.length+1) (.int .i64 0)) true]} 1 (slA 1 (path.map (AV.int .i64)))=some (path.map (AV.int .i64)):=(Sl.no _).elems _;have hs:fO (List.replicate (path.length+1) (AV.int .i64 0)) 0 (path.map (AV.int .i64))=path.map (AV.int .i64)++ [.int .i64 0]:=by
   simp [fO]
  have hL:=aLV path;have hT:=aNc path;have ht:(path.map (AV.int .i64)).take path.length=path.map (AV.int .i64):=List.take_of_length_le (by simp);refine Eq.trans (aK8 (l:=0) (off:=0) (len:=path.length) (cap:=path.length+1) (cs:=List.replicate (path.length+1) (.int .i64 0)) (by rfl) (by exact he) (by rfl) (by simp) (by rw [ht,aC3];simp)) ?_;rw [ht,aC3,hs];simp [lA,hL,hT,low,dK]
 refine aB ?_;refine aD ?_;refine aE ?_;refine wu rfl ?_;refine wu rfl ?_;refine wu rfl ?_;refine wgp (v:= .cE 0 0 (path.length+1) (path.length+1) 1) (s1:={dK with blks:= [.cells (path.map (AV.int .i64)++ [.int .i64 i]) true]}) rfl rfl ?_ ?_
 ·have hs:fO (path.map (AV.int .i64)++ [AV.int .i64 0]) (0+path.length*1) [AV.int .i64 i]=path.map (AV.int .i64)++ [.int .i64 i]:=by
   simp [fO]
  have hb:big=1099511627776:=rfl;refine Eq.trans (aKD (l:=0) (off:=0) (len:=path.length) (cap:=path.length+1) (ys:= [.int .i64 i]) (cs:=path.map (AV.int .i64)++ [.int .i64 0]) (by rfl) (by rfl) (by rfl) (by simp) (by clear hl;simp;omega) (by clear hl;simp;omega) (by decide) (by simp) (by rfl) (by simp) (by rfl)) ?_;have:jY [AV.int .i64 i]= [AV.int .i64 i]:=rfl;rw [this,hs]
  rfl
 refine wu rfl ?_;refine aB ?_;refine aL ?_;have hrow:=aAM (path++ [i]) [];have hne:szC 1 ((path++ [i]).map (AV.int .i64))=1:=by cases path<;>rfl
 refine aMx (v1:= .slice 1 ((path++ [i]).map (AV.int .i64)) .no) (s3:={dK with blks:= [.cells (path.map (AV.int .i64)++ [.int .i64 i]) false]}) rfl rfl rfl ?_ ?_
 ·show aC4 {dK with blks:= [.cells (path.map (AV.int .i64)++ [.int .i64 i]) true]} (.cE 0 0 (path.length+1) (path.length+1) 1)=_;have hr:rowOf {dK with blks:= [.cells (path.map (AV.int .i64)++ [.int .i64 i]) true]} 0 0 (path.length+1) 1=some ((path++ [i]).map (AV.int .i64)):=by
   show(if 0+(path.length+1)*1≤(path.map (AV.int .i64)++ [AV.int .i64 i]).length then dL (chunks 1 (path.length+1) (path.map (AV.int .i64)++ [.int .i64 i])) else none)=_;rw [if_pos (by simp)];simpa using hrow
  simp only [aC4,hr]
  rfl
 ·simp only [slA,hne];rfl
theorem tD{path:List Int}{i:Int}{r:List Int}(h:gY path i=some r):Pf PP 202 [slA 1 (path.map (AV.int .i64)),.int .i64 i] (slA 1 (r.map (AV.int .i64))):=by
 unfold gY at h;split at h
 ·rename_i hl;cases h;exact aLh path i hl
 ·cases h
noncomputable def wG:Option Bool:=some true
theorem zV{r:Bool}(h:wG=some r):Pf PP 21 [] (.bool r):=by cases h;exact aMj
end Go.Proofs.YtelnnehpbkainaaGreatDoor
