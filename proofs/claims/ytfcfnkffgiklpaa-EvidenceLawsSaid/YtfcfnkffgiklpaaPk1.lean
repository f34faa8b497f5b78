/- Our own framework, the program's cooked code, and the proofs that a claim leans on: joined and shortened by a program of the prover's own. -/
import Derived.OrdersIn
import Derived.LoopNIn
import Derived.ChangeArms
import Derived.OpenShut
import Derived.WideShapes
import Derived.Carry
import Derived.RowKit
import Derived.Test.YtfcfnkffgiklpaaRows
import Derived.Laws.RangeAny
import Derived.Test.YtfcfnkffgiklpaaPk0
set_option linter.unusedVariables false
set_option linter.unusedSimpArgs false
namespace Go.Fw
open Go
section
variable {P : Program} {B : Bs} {G : Gh} {s s1 : ASt} {w : World} {P' : aK} {env : Env} {ρ : Operand → Value}
theorem aEB(hI:Inv P B G s w){ts:Array TypeId}{t e ty:TypeId}(ht:ts[0]?=some t)(hu:P.underlying t=some (.slice e))(hi: ∃i,P.info? e=some i){d x v:AV}{xd xx:Value}(rd:R G (.v d xd))(rx:R G (.v x xx)){esz:Nat}(hes:P.cellsOf e=esz)
(h:(match(generalizing:=false) d,elems s esz x with
  | .bM l off len _ sz,some ys=>
   (match s.blks[l]? with
   |some (.cells cs true)=>
    if sz=esz&&off+len*sz≤cs.length&&(iI (ys.take len)).length=(min ys.length len)*sz then
     some (AV.int .i64 (min ys.length len:Nat),Fw.fC s l (iI (ys.take len)) (s.blks.set l (.cells (a0 cs off (iI (ys.take len))) true)))
    else none
   |_=>none)
  |_,_=>none)=some (v,s1)):sB P B G s1 w (do pure (Next.value (←Builtin.copy_ ts ty #[xd,xx]))) v:=by
 obtain⟨i,hi⟩:=hi;have hisz:i.size=esz:=by rw [←hes];simp [Program.cellsOf,hi]
 split at h
 ·rename_i l off len cap sz ys he;obtain⟨dss,X,c,rfl,hd,hfirst⟩:=oY hI rx he;cases rd with
  |ms hL hc hmx=>
  rename_i b;split at h
  ·rename_i cs hb;split at h
   ·rename_i hcond;simp only [Bool.and_eq_true,decide_eq_true_eq] at hcond;obtain⟨⟨hc1,hc2⟩,hc3⟩:=hcond;subst hc1;cases h;have hdt:=(hd.take len).flat;have hle:min ys.length len*sz≤len*sz:=Nat.mul_le_mul_right _ (Nat.min_le_right _ _);have hsum:off+(iI (ys.take len)).length≤cs.length:=by rw [hc3];omega
    obtain⟨w',hst,hinv⟩:=hI.write hL hb (off:=off) hdt.1 hsum;have hf:=hfirst w rfl (min ys.length len) (Nat.min_le_left _ _);have hmin:dss.take (min ys.length len)=dss.take len:=by
     rw [←hd.len];rcases Nat.le_total dss.length len with q|q
     ·rw [Nat.min_eq_left q,List.take_of_length_le (Nat.le_refl _),List.take_of_length_le q]
     ·rw [Nat.min_eq_right q]
    rw [hmin] at hf;refine⟨_,.int .i64 (min ys.length len:Nat),w',G,?_,.inl rfl,.refl _,hinv.fC,.int (jH (by have:=Nat.min_le_right ys.length len;simp only [maxLen] at*;omega))⟩;have hnm:Nat.min ys.length len=min ys.length len:=rfl;simp [Builtin.copy_,ht,run_underlying hu,Builtin.lenOf,sizeOf,typeInfo,hi,hnm,hisz,hf,hst,goInt]
   ·cases h
  ·cases h
 ·cases h
theorem aAX: ∀(n:Nat){z:List AV}{vs:List Value},R G (.k z vs)→R G (.k (aBH n z) (List.replicate n vs).flatten)
 |0,_,_,_=>by simpa [aBH] using R.cT
 |n+1,z,vs,h=>by
  simp only [aBH,List.replicate_succ,List.flatten_cons];exact R.kG h (aAX n h)
theorem aBy(hI:Inv P B G s w){t e:TypeId}(hu:P.underlying t=some (.slice e)){z:List AV}(hz:zeroOf P e=some z){esz bytes:Nat}(hzl:z.length=esz)(hes:P.cellsOf e=esz)(hby:P.bytesOf e=bytes){a b v:AV}{xa xb:Value}(ra:R G (.v a xa))(rb:R G (.v b xb))
(h:(match fR a,fR b with
  |some l,some c=>
   if l≤c&&c*bytes≤big&&c≤big then some (AV.bM s.blks.length 0 l c esz,{s with blks:=s.blks++ [.cells (aBH c z) true]}) else none
  |_,_=>none)=some (v,s1)):sB P B G s1 w (do pure (Next.value (←Instr.makeSlice t xa xb))) v:=by
 obtain⟨i,zv,hi,hzv,hrz⟩:=gS (G:=G) hz;split at h
 ·rename_i l c h1 h2;obtain⟨k1,rfl⟩:=jR h1 ra;obtain⟨k2,rfl⟩:=jR h2 rb;split at h
  ·rename_i hcond;simp only [Bool.and_eq_true,decide_eq_true_eq] at hcond;obtain⟨⟨hc1,hc2⟩,hc3⟩:=hcond;cases h;have hiby:i.bytes=bytes:=by rw [←hby];simp [Program.bytesOf,hi]
   have hisz:i.size=esz:=by rw [←hes];simp [Program.cellsOf,hi]
   have hzs:zv.cells.size=esz:=by rw [←hzl,hrz.eG];simp
   have hcb:c≤maxLen:=by simp only [big,maxLen] at*;omega
   have hw: ∀n:Nat,n≤maxLen→IntKind.i64.wrap (n:Int)=n:=fun n h=>jH h;have hcells:((Array.range (c*i.size)).map (fun j=>zv.cells[j%zv.cells.size]!)).toList=(List.replicate c zv.cells.toList).flatten:=by
    have:=rO zv.cells.toList c;rw [show zv.cells.toList.length=i.size from by rw [hisz,←hzs];simp] at this;simpa using this
   obtain⟨hle,h2⟩:=hI.tL (aAX c hrz) e;refine⟨_,.slice (some ⟨w.heap.size,0,none⟩) l c,w.alloc (.cells (List.replicate c zv.cells.toList).flatten.toArray e),_,?_,.inl rfl,hle,h2,.ms iB hc1 hcb⟩;have e1: ¬((c:Int)<0):=by omega
   have e2: ¬(281474976710656<(i.bytes:Int)*(c:Int)):=by
    rw [hiby];have:((bytes:Int)*(c:Int))=((c*bytes:Nat):Int):=by rw [Nat.mul_comm,Int.natCast_mul]
    rw [this];simp only [big] at hc2;omega
   have e3: ¬((l:Int)<0):=by omega
   have e4: ¬((c:Int)<(l:Int)):=by omega
   have hcells':(Array.range (c*i.size)).map (fun j=>zv.cells[j%zv.cells.size]!)=(List.replicate c zv.cells.toList).flatten.toArray:=by
    apply Array.ext';rw [hcells]
   by_cases q:c*i.size=0
   ·have q2:(List.replicate c zv.cells.toList).flatten.toArray= #[]:=by rw [←hcells',q];simp
    simp [Instr.makeSlice,run_underlying hu,asInt,asIntOf,typeInfo,hi,hw l (by omega),hw c hcb,e1,e2,e3,e4,sizeOf,q,newRow,q2,Array.range_zero']
   ·simp [Instr.makeSlice,run_underlying hu,asInt,asIntOf,typeInfo,hi,hw l (by omega),hw c hcb,e1,e2,e3,e4,sizeOf,q,newRow,zeroValue,hzv,hcells']
  ·cases h
 ·cases h
theorem aBD{h:Hint}{d:Option Nat}{op:Op}{ag:Bool}{sz:Nat}{x:aH}(hk:aZ P h d op=some (.load ag sz x)): ∃t a,op= .load t a∧fY P t=some ag∧bD a=some x∧sz=P.cellsOf t:=by
 unfold aZ at hk;split at hk
 all_goals (try unfold aY at hk)
 all_goals (try unfold eO at hk)
 all_goals (repeat' (split at hk))
 all_goals first
  |(cases hk;done)
  |(simp only [Option.map_eq_some_iff,reduceCtorEq,and_false,exists_false] at hk;done)
  |(cases hk;exact⟨_,_,rfl,by assumption,by assumption,rfl⟩)
theorem xS{h:Hint}{d:Option Nat}{op:Op}{ok:Bool}{kk:KK}{z:AV}{m k:aH}(hk:aZ P h d op=some (.lookup ok kk z m k)):
  ∃t xm xk kt et,op= .lookup t xm xk ok∧P.underlying t=some (.map kt et)∧zI P kt=some kk∧zeroV P et=some z∧bD xm=some m∧bD xk=some k:=by
 unfold aZ at hk;split at hk
 all_goals (try unfold aY at hk)
 all_goals (try unfold eO at hk)
 all_goals (repeat' (split at hk))
 all_goals first
  |(cases hk;done)
  |(simp only [Option.map_eq_some_iff,reduceCtorEq,and_false,exists_false] at hk;done)
  |(cases hk;exact⟨_,_,_,_,_,rfl,by assumption,by assumption,by assumption,by assumption,by assumption⟩)
theorem aEO(hI:Inv P B G s w)(hO:Opn P' env G ρ){h:Hint}{o:Oper}{aop:AOp}(hk:aZ P h o.dst o.op=some aop){v:AV}(hv:dV P' env s aop=some v):fB P G w (execOp ρ o) v:=by
 cases aop with
 |load ag sz x=>
  obtain⟨t,a,ho,hag,ha,rfl⟩:=aBD hk;simp only [dV] at hv;simpa [execOp,ho,fB] using (aA2 hI hag (hO.out _ _ ha) hv).lift
 |lookup ok kk z m k=>
  obtain⟨t,xm,xk,kt,et,ho,hu,hkt,hz,hm,hk'⟩:=xS hk;simp only [dV] at hv;simpa [execOp,ho,fB] using (aBx hI hu hkt hz (hO.out _ _ hm) (hO.out _ _ hk') hv).lift
 |_=>simp [dV] at hv
theorem aCS{h:Hint}{d:Option Nat}{op:Op}{x:aH}(hk:aZ P h d op=some (.box x)): ∃t a,op= .box t a∧bD a=some x:=by
 unfold aZ at hk;split at hk
 all_goals (try unfold aY at hk)
 all_goals (try unfold eO at hk)
 all_goals (repeat' (split at hk))
 all_goals first
  |(cases hk;done)
  |(simp only [Option.map_eq_some_iff,reduceCtorEq,and_false,exists_false] at hk;done)
  |(cases hk;exact⟨_,_,rfl,by assumption⟩)
theorem aAu{h:Hint}{d:Option Nat}{op:Op}{z:List AV}(hk:aZ P h d op=some (.alloc z)): ∃t,op= .alloc t∧zeroOf P t=some z:=by
 unfold aZ at hk;split at hk
 all_goals (try unfold aY at hk)
 all_goals (try unfold eO at hk)
 all_goals (repeat' (split at hk))
 all_goals first
  |(cases hk;done)
  |(simp only [Option.map_eq_some_iff,reduceCtorEq,and_false,exists_false] at hk;done)
  |(cases hk;exact⟨_,rfl,by assumption⟩)
theorem aAG{h:Hint}{d:Option Nat}{op:Op}{sz:Nat}{a x:aH}(hk:aZ P h d op=some (.store sz a x)): ∃t i xa xv,op= .store t xa xv∧P.info? t=some i∧bD xa=some a∧bD xv=some x∧sz=P.cellsOf t:=by
 unfold aZ at hk;split at hk
 all_goals (try unfold aY at hk)
 all_goals (try unfold eO at hk)
 all_goals (repeat' (split at hk))
 all_goals first
  |(cases hk;done)
  |(simp only [Option.map_eq_some_iff,reduceCtorEq,and_false,exists_false] at hk;done)
  |(cases hk;exact⟨_,_,_,_,rfl,by assumption,by assumption,by assumption,rfl⟩)
theorem aAf{h:Hint}{d:Option Nat}{op:Op}(hk:aZ P h d op=some .mkMap): ∃t,op= .makeMap t none:=by
 unfold aZ at hk;split at hk
 all_goals (try unfold aY at hk)
 all_goals (try unfold eO at hk)
 all_goals (repeat' (split at hk))
 all_goals first
  |(cases hk;done)
  |(simp only [Option.map_eq_some_iff,reduceCtorEq,and_false,exists_false] at hk;done)
  |exact⟨_,rfl⟩
theorem v3{h:Hint}{d:Option Nat}{op:Op}{esz bytes:Nat}{z:List AV}{l c:aH}(hk:aZ P h d op=some (.mkSlice esz bytes z l c)):
  ∃t e xl xc,op= .makeSlice t xl xc∧P.underlying t=some (.slice e)∧zeroOf P e=some z∧z.length=P.cellsOf e∧esz=P.cellsOf e∧bytes=P.bytesOf e∧bD xl=some l∧bD xc=some c:=by
 unfold aZ at hk;split at hk
 all_goals (try unfold aY at hk)
 all_goals (try unfold eO at hk)
 all_goals (repeat' (split at hk))
 all_goals first
  |(cases hk;done)
  |(simp only [Option.map_eq_some_iff,reduceCtorEq,and_false,exists_false] at hk;done)
  |(cases hk;exact⟨_,_,_,_,rfl,by assumption,by assumption,by assumption,rfl,rfl,by assumption,by assumption⟩)
theorem x7{h:Hint}{d:Option Nat}{op:Op}{kk:KK}{m k x:aH}(hk:aZ P h d op=some (.kC kk m k x)):
  ∃t xm xk xv kt et,(op= .mapUpdate t xm xk xv∨op= .insert t xm xk xv)∧P.underlying t=some (.map kt et)∧zI P kt=some kk∧bD xm=some m∧bD xk=some k∧bD xv=some x:=by
 unfold aZ at hk;split at hk
 all_goals (try unfold aY at hk)
 all_goals (try unfold eO at hk)
 all_goals (repeat' (split at hk))
 all_goals first
  |(cases hk;done)
  |(simp only [Option.map_eq_some_iff,reduceCtorEq,and_false,exists_false] at hk;done)
  |(simp only [Option.map_eq_some_iff,AOp.kC.injEq] at hk;obtain⟨_,h1,rfl,rfl,rfl,rfl⟩:=hk;exact⟨_,_,_,_,_,_,.inl rfl,by assumption,h1,by assumption,by assumption,by assumption⟩)
  |(simp only [Option.map_eq_some_iff,AOp.kC.injEq] at hk;obtain⟨_,h1,rfl,rfl,rfl,rfl⟩:=hk;exact⟨_,_,_,_,_,_,.inr rfl,by assumption,h1,by assumption,by assumption,by assumption⟩)
theorem tZ{h:Hint}{d:Option Nat}{op:Op}{x:aH}(hk:aZ P h d op=some (.gH x)): ∃t a,op= .range t a∧P.underlying t=some .string∧bD a=some x:=by
 unfold aZ at hk;split at hk
 all_goals (try unfold aY at hk)
 all_goals (try unfold eO at hk)
 all_goals (repeat' (split at hk))
 all_goals first
  |(cases hk;done)
  |(simp only [Option.map_eq_some_iff,reduceCtorEq,and_false,exists_false] at hk;done)
  |(cases hk;exact⟨_,_,rfl,by assumption,by assumption⟩)
theorem wV{h:Hint}{d:Option Nat}{op:Op}{x:aH}(hk:aZ P h d op=some (.iE x)): ∃a,op= .next a true∧bD a=some x:=by
 unfold aZ at hk;split at hk
 all_goals (try unfold aY at hk)
 all_goals (try unfold eO at hk)
 all_goals (repeat' (split at hk))
 all_goals first
  |(cases hk;done)
  |(simp only [Option.map_eq_some_iff,reduceCtorEq,and_false,exists_false] at hk;done)
  |(simp only [Option.map_eq_some_iff,AOp.iE.injEq] at hk;obtain⟨_,h1,rfl⟩:=hk;exact⟨_,rfl,h1⟩)
theorem xB {h : Hint} {d : Option Nat} {op : Op} {tk : Bool} {esz bytes : Nat} {a x : aH} (hk : aZ P h d op = some (.append tk esz bytes a x)) :
    ∃ c : Call, ∃ xa xx t t2 e e2, op = .call c ∧ c.callee = Callee.builtin Builtin.append ∧ c.args.toList = [xa, xx] ∧ c.argTypes[0]? = some t ∧ P.underlying t = some (.slice e) ∧ c.argTypes[1]? = some t2 ∧ P.underlying t2 = some (.slice e2) ∧
      (zeroOf P e).map List.length = some (P.cellsOf e) ∧ esz = P.cellsOf e ∧ bytes = P.bytesOf e ∧ bD xa = some a ∧ bD xx = some x := by
  unfold aZ at hk;split at hk
  all_goals (try unfold aY at hk)
  all_goals (try unfold eO at hk)
  all_goals (repeat' (split at hk))
  all_goals first
    | (cases hk; done)
    | (simp only [Option.map_eq_some_iff, reduceCtorEq, and_false, exists_false] at hk; done)
    | (cases hk
       rename_i hargs _ _ _ _ _ _ _ h0 h1 _ _ _;obtain ⟨t, ht, hu⟩ := Option.bind_eq_some_iff.1 h0;obtain ⟨t2, ht2, hu2⟩ := Option.bind_eq_some_iff.1 h1;exact ⟨_, _, _, t, t2, _, _, rfl, by assumption, hargs, ht, hu, ht2, hu2, by assumption, rfl, rfl, by assumption, by assumption⟩)
theorem aBJ {h : Hint} {d : Option Nat} {op : Op} {esz : Nat} {a x : aH} (hk : aZ P h d op = some (.copy esz a x)) :
    ∃ c : Call, ∃ xa xx t e, op = .call c ∧ c.callee = Callee.builtin Builtin.copy ∧ c.args.toList = [xa, xx] ∧ c.argTypes[0]? = some t ∧ P.underlying t = some (.slice e) ∧
      (∃ i, P.info? e = some i) ∧ esz = P.cellsOf e ∧ bD xa = some a ∧ bD xx = some x := by
  unfold aZ at hk;split at hk
  all_goals (try unfold aY at hk)
  all_goals (try unfold eO at hk)
  all_goals (repeat' (split at hk))
  all_goals first
    | (cases hk; done)
    | (simp only [Option.map_eq_some_iff, reduceCtorEq, and_false, exists_false] at hk; done)
    | (cases hk
       rename_i hargs _ _ _ _ _ _ _ h0 _ _ _ hi _ _;obtain ⟨t, ht, hu⟩ := Option.bind_eq_some_iff.1 h0;exact ⟨_, _, _, t, _, rfl, by assumption, hargs, ht, hu, ⟨_, hi⟩, rfl, by assumption, by assumption⟩)
theorem aEL(hI:Inv P B G s w)(hO:Opn P' env G ρ){h:Hint}{o:Oper}{aop:AOp}(hk:aZ P h o.dst o.op=some aop){v:AV}(hv:cA P' env s aop=some (v,s1)):sB P B G s1 w (execOp ρ o) v:=by
 cases aop with
 |box x=>
  obtain⟨t,a,ho,ha⟩:=aCS hk;simp only [cA] at hv;split at hv
  ·rename_i hb;cases hv;simpa [execOp,ho,Instr.box] using aD7 hI t ((hO.out _ _ ha).box hb)
  ·cases hv
 |alloc z=>
  obtain⟨t,ho,hz⟩:=aAu hk;simp only [cA] at hv;cases hv;obtain⟨i,zv,hi,hzv,hr⟩:=gS (G:=G) hz;have:=aD7 hI t hr;unfold sB at this⊢;simpa [execOp,ho,Instr.alloc,bF hi hzv] using this
 |store sz a x=>
  obtain⟨t,i,xa,xv,ho,hi,ha,hx,rfl⟩:=aAG hk;simp only [cA] at hv;simpa [execOp,ho] using aDo hI hi (hO.out _ _ ha) (hO.out _ _ hx) hv
 |mkMap=>
  obtain⟨t,ho⟩:=aAf hk;simp only [cA] at hv;cases hv;have hle:G.le (G.lZ s.blks.length w.heap.size):=Gh.lF hI.aAm;refine⟨_,.map (some w.heap.size),w.alloc (.map #[] 0),_,?_,.inl rfl,hle,hI.p8 _ _ ⟨[],0,rfl,.nil⟩,.map iB⟩;simp [execOp,ho,Instr.makeMap]
 |mkSlice esz bytes z l c=>
  obtain⟨t,e,xl,xc,ho,hu,hz,hzl,rfl,rfl,hl,hc⟩:=v3 hk;simp only [cA] at hv;simpa [execOp,ho] using aBy hI hu hz hzl rfl rfl (hO.out _ _ hl) (hO.out _ _ hc) hv
 |kC kk m k x=>
  obtain⟨t,xm,xk,xv,kt,et,ho,hu,hkt,hm,hk',hx⟩:=x7 hk;simp only [cA] at hv;rcases ho with ho|ho
  ·simpa [execOp,ho] using zB hI hu hkt (hO.out _ _ hm) (hO.out _ _ hk') (hO.out _ _ hx) hv
  ·simpa [execOp,ho] using zB hI hu hkt (hO.out _ _ hm) (hO.out _ _ hk') (hO.out _ _ hx) hv
 |gH x=>
  obtain⟨t,a,ho,hu,ha⟩:=tZ hk;simp only [cA] at hv;simpa [execOp,ho] using aDq hI hu (hO.out _ _ ha) hv
 |iE x=>
  obtain⟨a,ho,ha⟩:=wV hk;simp only [cA] at hv;simpa [execOp,ho] using aEp (ty:=o.type) hI (hO.out _ _ ha) hv
 |append tk esz bytes a x=>
  obtain⟨c,xa,xx,t,t2,e,e2,ho,hc,hargs,ht,hu,ht2,hu2,hz,rfl,rfl,ha,hx⟩:=xB hk;have hca:c.args= #[xa,xx]:=by rw [←Array.toArray_toList (xs:=c.args),hargs]
  simp only [cA] at hv;split at hv
  ·cases hv
  simpa [execOp,ho,resolve,hc,invoke,builtin,hca] using aCb (ty:=o.type) hI ht hu ht2 hu2 hz (hO.out _ _ ha) (hO.out _ _ hx) rfl rfl hv
 |copy esz a x=>
  obtain⟨c,xa,xx,t,e,ho,hc,hargs,ht,hu,hi,rfl,ha,hx⟩:=aBJ hk;have hca:c.args= #[xa,xx]:=by rw [←Array.toArray_toList (xs:=c.args),hargs]
  simp only [cA] at hv;simpa [execOp,ho,resolve,hc,invoke,builtin,hca] using aEB (ty:=o.type) hI ht hu hi (hO.out _ _ ha) (hO.out _ _ hx) rfl hv
 |_=>simp [cA] at hv
end
section
variable {P : Program} {B : Bs} {G : Gh} {s s1 : ASt} {w : World} {P' : aK} {env : Env} {ρ : Operand → Value}
theorem Inv.freeze(hI:Inv P B G s w){l b:Nat}(hL:G.L l=some b){cs:List AV}{wr:Bool}(hb:s.blks[l]?=some (.cells cs wr)):
  ∃vs e,w.heap[b]?=some (.cells (List.toArray vs) e (0,0))∧G.le (G.eL b 0 vs.length vs)∧Inv P B (G.eL b 0 vs.length vs) {s with blks:=s.blks.set l (.cells cs false)} w:=by
 obtain⟨o,ho,hok⟩:=hI.at hL hb;obtain⟨vs,e,rfl,hk,h3,h4⟩:=hok;have hin: ∀o,0≤o→o<vs.length→ ∀x,G.M b o=some x→vs[o]?=some x:=fun o _ _ x hx=>by
  have:=hI.m b o x hx;rwa [cell_of ho] at this
 have hle:G.le (G.eL b 0 vs.length vs):=Gh.nD hin;refine⟨vs,e,ho,hle,hI.aE3 hle (fun _=>rfl) (fun _ _=>rfl) hL (fun x j hx=>lH hx) (fun j x hx=> ?_) (fun o ho'=> ?_)⟩
 ·by_cases hj:0≤j∧j<vs.length
  ·rw [fL hj.1 hj.2] at hx;rw [cell_of ho];exact hx
  ·rw [oO hj] at hx;exact hI.m b j x hx
 ·rw [ho] at ho';cases ho';refine⟨vs,e,rfl,hk.mono hle,fun h=>(by cases h),fun _ j x hx=> ?_⟩;have hj:j<vs.length:=by
   rcases Nat.lt_or_ge j vs.length with q|q
   ·exact q
   ·rw [List.getElem?_eq_none q] at hx;cases hx
  rw [fL (Nat.zero_le _) hj];exact hx
theorem aBa(hI:Inv P B G s w){a a':AV}{x:Value}(r:R G (.v a x))(h:xN s a=some (a',s1)): ∃G',G.le G'∧Inv P B G' s1 w∧R G' (.v a' x):=by
 unfold xN at h;split at h
 ·rename_i l off len cap sz;cases r with
  |ms hL hc hm=>
  rename_i b;split at h
  ·rename_i xs cs wr hrow hb;cases h;obtain⟨css,hcs,hxl,hcell⟩:=sI hI hL hrow;obtain⟨vs,e,ho,hle,hinv⟩:=hI.freeze hL hb;refine⟨_,hle,hinv,?_⟩;subst hxl;refine .bA hc hm ((hcs.mono hle).row fun j y hy=> ?_) trivial;have:=hcell j y hy;rw [cell_of ho] at this;have hj:off+j<vs.length:=by
    rcases Nat.lt_or_ge (off+j) vs.length with q|q
    ·exact q
    ·rw [List.getElem?_eq_none q] at this;cases this
   rw [fL (Nat.zero_le _) hj];exact this
  ·cases h
 ·split at h
  ·rename_i y hy;cases h;exact⟨G,.refl _,hI,(iA hy r).1⟩
  ·cases h
theorem rM: ∀{a_ as':List AV}{s s1:ASt}{G:Gh}{xs:List Value},Inv P B G s w→R G (.l a_ xs)→lP s a_=some (as',s1)→ ∃G',G.le G'∧Inv P B G' s1 w∧R G' (.l as' xs)
 | [],as',s,s1,G,xs,hI,r,h=>by simp [lP] at h;obtain⟨rfl,rfl⟩:=h;exact⟨G,.refl _,hI,r⟩
 |a::a_,as',s,s1,G,xs,hI,r,h=>by
  cases r with
  |bK r1 r2=>
   simp only [lP] at h;split at h
   ·cases h
   ·rename_i y s2 hy;split at h
    ·cases h
    ·rename_i ys s3 hys;cases h;obtain⟨G1,h1,h2,h3⟩:=aBa hI r1 hy;obtain⟨G2,k1,k2,k3⟩:=rM h2 (r2.mono h1) hys;exact⟨G2,h1.trans k1,k2,.bK (h3.mono k1) k3⟩
structure Bs.ext(B B':Bs):Prop where
 pr: ∀b,B.Pr b→B'.Pr b
 os:B'.w0.os=B.w0.os
 tape:B'.w0.tape=B.w0.tape
 output:B'.w0.output=B.w0.output
 size:B.w0.heap.size≤B'.w0.heap.size
 heap: ∀b,B.Pr b→B'.w0.heap[b]?=B.w0.heap[b]?
 M0: ∀b,B.Pr b→ ∀o,B'.M0 b o=B.M0 b o
theorem Bs.ext.refl(B:Bs):B.ext B:=⟨fun _ h=>h,rfl,rfl,rfl,Nat.le_refl _,fun _ _=>rfl,fun _ _ _=>rfl⟩
theorem Inv.base{B':Bs}(h:Inv P B' G s w)(e:B.ext B'):Inv P B G s w where
 os:=h.os.trans e.os
 tape:=h.tape.trans e.tape
 output:=h.output.trans e.output
 size:=Nat.le_trans e.size h.size
 pr:=fun b hb=>(h.pr b (e.pr b hb)).trans (e.heap b hb)
 prM:=fun b hb o=>(h.prM b (e.pr b hb) o).trans (e.M0 b hb o)
 m:=h.m
 l:=fun ℓ b hl=>⟨(h.l ℓ b hl).1,(h.l ℓ b hl).2.1,fun hp=>(h.l ℓ b hl).2.2 (e.pr b hp)⟩
 inj:=h.inj
 blk:=h.blk
 tok:=fun t n ht=>by
  obtain⟨b,c,sz,k⟩:=h.tok t n ht;exact⟨b,c,sz,k.h,fun hp=>k.np (e.pr b hp),k.lt,k.blk,k.szp,k.nc,k.cm,k.m,k.l⟩
 fP:=h.fP
 hh:=h.hh
 tot:=h.tot
def Bs.now(_:Bs)(w:World)(G:Gh)(Pr:Nat→Prop)(lt: ∀b,Pr b→b<w.heap.size):Bs:=⟨Pr,w,G.M,lt⟩
theorem Inv.aEj(h:Inv P B G s w)(Pr:Nat→Prop)(lt: ∀b,Pr b→b<w.heap.size)(hl: ∀ℓ b,G.L ℓ=some b→ ¬Pr b)(ht: ∀t n b c sz,s.toks[t]?=some n→G.H t n=some (b,c,sz)→ ¬Pr b):
  Inv P (B.now w G Pr lt) G s w where
 os:=rfl
 tape:=rfl
 output:=rfl
 size:=Nat.le_refl _
 pr:=fun _ _=>rfl
 prM:=fun _ _ _=>rfl
 m:=h.m
 l:=fun ℓ b hl'=>⟨(h.l ℓ b hl').1,(h.l ℓ b hl').2.1,hl ℓ b hl'⟩
 inj:=h.inj
 blk:=h.blk
 tok:=fun t n ht'=>by
  obtain⟨b,c,sz,k⟩:=h.tok t n ht';exact⟨b,c,sz,k.h,ht t n b c sz ht' k.h,k.lt,k.blk,k.szp,k.nc,k.cm,k.m,k.l⟩
 fP:=h.fP
 hh:=h.hh
 tot:=h.tot
theorem Inv.aDl{B':Bs}(h:Inv P B' G s w)(e:B.ext B')(Pr:Nat→Prop)(lt: ∀b,Pr b→b<w.heap.size)(hp: ∀b,B.Pr b→Pr b):B.ext (B'.now w G Pr lt) where
 pr:=hp
 os:=h.os.trans e.os
 tape:=h.tape.trans e.tape
 output:=h.output.trans e.output
 size:=Nat.le_trans e.size h.size
 heap:=fun b hb=>(h.pr b (e.pr b hb)).trans (e.heap b hb)
 M0:=fun b hb o=>(h.prM b (e.pr b hb) o).trans (e.M0 b hb o)
structure aBm(B B':Bs)(pd:List (Nat×Nat))(tmps:Array Value):Prop where
 at_: ∀d n,(d,n)∈pd→ ∃b e vs,tmps.getD d undef= .pointer (some ⟨b,0,none⟩)∧ ¬B.Pr b∧B'.Pr b∧B'.w0.heap[b]?=some (.cells (List.toArray vs) e (0,0))∧vs.length=n∧ ∀o,B'.M0 b o=none
 inj: ∀d n d' n' b,(d,n)∈pd→(d',n')∈pd→tmps.getD d undef= .pointer (some ⟨b,0,none⟩)→tmps.getD d' undef= .pointer (some ⟨b,0,none⟩)→d=d'
theorem aBm.nil{B':Bs}{tmps:Array Value}:aBm B B' [] tmps:=⟨fun _ _ h=>(by cases h),fun _ _ _ _ _ h=>(by cases h)⟩
theorem x8{tmps:Array Value}{d i:Nat}{v:Value}(h:i≠d):(tmps.setIfInBounds d v).getD i undef=tmps.getD i undef:=by
 simp [Array.getD_eq_getD_getElem?,Array.getElem?_setIfInBounds_ne (Ne.symm h)]
theorem nS{tmps:Array Value}{d:Nat}{v:Value}(h:d<tmps.size):(tmps.setIfInBounds d v).getD d undef=v:=by
 simp [Array.getD_eq_getD_getElem?,h]
theorem eV{d:Option Nat}{pd:List (Nat×Nat)}{x:Nat×Nat}(h:x∈aG d pd):x∈pd∧ ∀e,d=some e→x.1≠e:=by
 unfold aG at h;split at h
 ·exact⟨h,fun e he=>by cases he⟩
 ·rename_i d;rw [List.mem_filter] at h;refine⟨h.1,fun e he=> ?_⟩;cases he;intro q;rw [q] at h;simp at h
theorem aBm.put{B':Bs}{pd:List (Nat×Nat)}{tmps:Array Value}(h:aBm B B' pd tmps)(d:Option Nat)(v:Value):aBm B B' (aG d pd) (match d with|some d=>tmps.setIfInBounds d v|none=>tmps):=by
 have hg: ∀x,x∈aG d pd→(match d with|some d=>tmps.setIfInBounds d v|none=>tmps).getD x.1 undef=tmps.getD x.1 undef:=by
  intro x hx;cases d with
  |none=>rfl
  |some d=>exact x8 ((eV hx).2 d rfl)
 refine⟨fun e n he=> ?_,fun e n e' n' b h1 h2 h3 h4=> ?_⟩
 ·rw [hg _ he];exact h.at_ e n (eV he).1
 ·rw [hg _ h1] at h3;rw [hg _ h2] at h4;exact h.inj e n e' n' b (eV h1).1 (eV h2).1 h3 h4
end
def aE0(G:Gh):jT→Ending→Prop
 | .ret v,.returned x=>R G (.v v x)
 | .panic v,.panicked chain=> ∃x,chain= [{v:=x,recovered:=false}]∧R G (.v v x)
 |_,_=>False
def jY(P:Program)(B:Bs)(G:Gh)(s':ASt)(r:jT)(e:Ending)(w':World):Prop:= ∃G',G.le G'∧Inv P B G' s' w'∧aE0 G' r e
def FV(P:Program):Fence:={fn:=fun f=> ∃fn,P.funcs[f]?=some fn,depth:=none,alive:=false}
theorem aDk{P:Program}(n:Nat):(FV P).room n:=fun _ h=>by simp [FV] at h
def y6(P:Program)(m:Sem Next)(w:World)(R:Ending→World→Prop):Prop:=
 ∃n w1,m.run P w= .ok n w1∧(match n with| .enter f args=>CallsIn (FV P) 0 P f args w1 R| .value x=>R (.returned x) w1|_=>False)
def kB(G:Gh):DM→FrameMode→Prop
 | .ret,.returning=>True
 | .pan v,.panicking chain=> ∃x,chain= [{v:=x,recovered:=false}]∧R G (.v v x)
 |_,_=>False
structure HOk(P:Program)(P':aK)(H:Handler):Prop where
 func: ∀f args s r s',H.call (.func f) args s=some (r,s')→ ∀B G w xs,Inv P B G s w→cS P' G→R G (.l args xs)→y6 P (callFunc f xs.toArray) w (jY P B G s' r)
 yield: ∀l args s r s',H.call (.yield l) args s=some (r,s')→ ∀B G w xs b,Inv P B G s w→cS P' G→R G (.l args xs)→G.L l=some b→
  ∃f tmps a_ bd,(Instr.yield b xs.toArray).run P w= .ok (.round b f tmps a_ bd) w∧RoundIn (FV P) 0 P b f tmps a_ bd w (jY P B G s' r)
 dcall: ∀f args m s m' s',H.dcall f args m s=some (m',s')→ ∀B G w xs u,Inv P B G s w→cS P' G→R G (.l args xs)→kB G m u→
  (callFunc f xs.toArray).run P w= .ok (.enter f xs.toArray) w∧CallsDIn (FV P) 0 P f xs.toArray u w fun e u' w'=> ∃G',G.le G'∧Inv P B G' s' w'∧(∃x,e= .returned x)∧kB G' m' (Go.settle u')
def DOk(G:Gh):dC→Deferred→Prop
 | .mark l,d=> ∃b,d.target= .collected b∧G.L l=some b
 | .call f args,d=> ∃cap:List Value,∃xs:List Value,d.target= .fn (.func f) cap.toArray∧d.args=xs.toArray∧R G (.l args (xs++cap))
inductive iP(G:Gh):List dC→List Deferred→Prop
 |nil:iP G [] []
 |cons {a d a_ ds} (h:DOk G a d) (t:iP G a_ ds):iP G (a::a_) (d::ds)
theorem DOk.mono{G G':Gh}(hG:G.le G'){a:dC}{d:Deferred}(h:DOk G a d):DOk G' a d:=by
 cases a with
 |mark l=>obtain⟨b,h1,h2⟩:=h;exact⟨b,h1,hG.L _ _ h2⟩
 |call f args=>obtain⟨cap,xs,h1,h2,h3⟩:=h;exact⟨cap,xs,h1,h2,h3.mono hG⟩
theorem iP.mono{G G':Gh}(hG:G.le G'){a_:List dC}{ds:List Deferred}(h:iP G a_ ds):iP G' a_ ds:=by
 induction h with
 |nil=>exact .nil
 |cons h _ ih=>exact .cons (h.mono hG) ih
def FR(P:Program)(rd:Option Nat):Fence:={(FV P) with round:=rd}
theorem rK{rd:Option Nat}{P:Program}{f:FuncId}{args:Array Value}{w:World}{R:Ending→World→Prop}(h:CallsIn (FV P) 0 P f args w R):CallsIn (FR P rd) 0 P f args w R:=h
theorem aC7{rd:Option Nat}{P:Program}{l:Nat}{f:FuncId}{tmps:Array Value}{a_ bd:Code}{w:World}{R:Ending→World→Prop}(h:RoundIn (FV P) 0 P l f tmps a_ bd w R):RoundIn (FR P rd) 0 P l f tmps a_ bd w R:=h
structure RI(P:Program)(B:Bs)(P':aK)(nt:Nat)(pd:List (Nat×Nat))(fr:Fr)(s:ASt)(a:Act)(w:World)(G:Gh)(B':Bs):Prop where
 ext:B.ext B'
 inv:Inv P B' G s w
 pend:aBm B B' pd a.tmps
 env:eA G nt fr.env a.tmps
 kA:cS P' G
 ds:iP G fr.ds a.defers
theorem eA.put{G:Gh}{nt:Nat}{env:Env}{tmps:Array Value}(h:eA G nt env tmps){d:Nat}(hd:d<nt){v:AV}{x:Value}(r:R G (.v v x)):eA G nt (upd env d v) (tmps.setIfInBounds d x):=by
 refine⟨by simp [h.1],fun i=> ?_⟩;unfold upd;by_cases e:i=d
 ·subst e;rw [nS (by rw [h.1];exact hd)];simp only [Nat.beq_refl];exact r
 ·rw [x8 e];have:Nat.beq i d=false:=by
   cases hb:Nat.beq i d with
   |false=>rfl
   |true=>exact absurd (Nat.eq_of_beq_eq_true hb) e
  rw [this];exact h.2 i
theorem eA.aDH{G:Gh}{nt:Nat}{env:Env}{a:Act}(h:eA G nt env a.tmps){d:Option Nat}(hd: ∀e,d=some e→e<nt){v:AV}{x:Value}(r:R G (.v v x)):eA G nt (dD env d v) (a.put d x).tmps:=by
 cases d with
 |none=>exact h
 |some d=>exact h.put (hd d rfl) r
theorem sQ(a:Act)(d:Option Nat)(x:Value):(a.put d x).tmps=(match d with|some d=>a.tmps.setIfInBounds d x|none=>a.tmps):=by cases d<;>rfl
theorem put_defers(a:Act)(d:Option Nat)(x:Value):(a.put d x).defers=a.defers:=by cases d<;>rfl
section
variable {P : Program} {B B' : Bs} {P' : aK} {nt : Nat} {pd : List (Nat × Nat)} {fr : Fr} {s s1 : ASt} {a : Act} {w w' : World} {G G' : Gh}
theorem RI.put(h:RI P B P' nt pd fr s a w G B')(hle:G.le G')(hI:Inv P B' G' s1 w'){d:Option Nat}(hd: ∀e,d=some e→e<nt){v:AV}{x:Value}(r:R G' (.v v x)):
  RI P B P' nt (aG d pd) {fr with env:=dD fr.env d v} s1 (a.put d x) w' G' B' where
 ext:=h.ext
 inv:=hI
 pend:=by rw [sQ];exact h.pend.put d x
 env:=(h.env.mono hle).aDH hd r
 kA:=h.kA.mono hle
 ds:=by rw [put_defers];exact h.ds.mono hle
structure qA(P:Program)(h:Hint)(all:Array Oper)(o:Oper)(ai:AI):Prop where
 d:ai.d=o.dst
 op:ai.op= .bad∨aZ P h o.dst o.op=some ai.op
 gd:match o.guard with|none=>ai.gd=none|some (j,b)=> ∃t,(all[j]?).bind (·.dst)=some t∧ai.gd=some (t,b)
theorem g6{h:Hint}{all:Array Oper}{o:Oper}{ai:AI}(hc:qA P h all o ai)(hE:eA G nt fr.env a.tmps){b:Bool}(hw:wanted fr.env ai.gd=some b):Region.wanted o (yielded all a.tmps)=b:=by
 have hg:=hc.gd;unfold Region.wanted;cases hgo:o.guard with
 |none=>
  rw [hgo] at hg;rw [hg] at hw;simp [wanted] at hw;simp [hw]
 |some jb=>
  obtain⟨j,b'⟩:=jb;rw [hgo] at hg;obtain⟨t,ht,hg⟩:=hg;rw [hg] at hw;have hr:=hE.2 t;simp only [wanted] at hw;simp only [yielded,ht,Option.bind_some];have hget:a.tmps.getD t undef=(a.tmps[t]?).getD undef:=by simp [Array.getD_eq_getD_getElem?]
  rw [hget] at hr;split at hw
  ·rename_i c hc';rw [hc'] at hr;cases hw;cases hx:a.tmps[t]? with
   |none=>rw [hx] at hr;cases hr
   |some x=>
    rw [hx] at hr;simp only [Option.getD_some] at hr;cases hr;simp
  ·rename_i hc';rw [hc'] at hr;cases hw;cases hx:a.tmps[t]? with
   |none=>simp
   |some x=>
    rw [hx] at hr;simp only [Option.getD_some] at hr;cases hr;simp
  ·cases hw
def jO(rd:Option Nat)(P:Program)(all:Array Oper)(o:Oper)(a:Act)(w:World)(K:Act→World→Prop)(Q:Exit→Act→World→Prop):Prop:=
 if Region.wanted o (yielded all a.tmps) then o.wpIn (FR P rd) 0 P a w K Q else(∀f,o.about P w a.eval=some f→(FR P rd).fn f)∧K (a.put o.dst undef) w
theorem dF{o:Oper}(hab: ∀f,o.about P w a.eval=some f→ ∃fn,P.funcs[f]?=some fn){rd:Option Nat}{all:Array Oper}{K:Act→World→Prop}{Q:Exit→Act→World→Prop}(hw:Region.wanted o (yielded all a.tmps)=true)(hd: ∀c,o.op≠ .defer c){n:Next}{x:Value}
(hr:(execOp a.eval o).run P w= .ok n w')(hn:n= .value x∨(n= .skip∧x=undef))(hk:K (a.put o.dst x) w'):jO rd P all o a w K Q:=by
 unfold jO;rw [if_pos hw];refine⟨hab,?_⟩;rw [Oper.semAt_eq _ _ _ hd,hr];rcases hn with rfl|⟨rfl,rfl⟩<;>exact hk
theorem kU{o:Oper}(hab: ∀f,o.about P w a.eval=some f→ ∃fn,P.funcs[f]?=some fn){rd:Option Nat}{all:Array Oper}{K:Act→World→Prop}{Q:Exit→Act→World→Prop}(hw:Region.wanted o (yielded all a.tmps)=true)(hd: ∀c,o.op≠ .defer c){R:Ending→World→Prop}
(hr:y6 P (execOp a.eval o) w R)(hk: ∀x w',R (.returned x) w'→K (a.put o.dst x) w')(hp: ∀c w',R (.panicked c) w'→Q (.panic c) a w')(ho: ∀w',¬R .outgrown w'):jO rd P all o a w K Q:=by
 unfold jO;rw [if_pos hw];refine⟨hab,?_⟩;obtain⟨n,w1,hrun,hn⟩:=hr;rw [Oper.semAt_eq _ _ _ hd,hrun];cases n<;>first|exact hn.elim|skip
 ·exact hk _ _ hn
 ·refine⟨fun h=> ?_,rK (hn.mono fun e w2 h=> ?_)⟩
  ·simp [FR,FV] at h
  ·cases e with
   |returned v=>exact hk _ _ h
   |panicked c=>exact hp _ _ h
   |outgrown=>exact absurd h (ho _)
theorem aAx{o:Oper}(hab: ∀f,o.about P w a.eval=some f→ ∃fn,P.funcs[f]?=some fn){rd:Option Nat}{all:Array Oper}{K:Act→World→Prop}{Q:Exit→Act→World→Prop}(hw:Region.wanted o (yielded all a.tmps)=true)(hd: ∀c,o.op≠ .defer c){R:Ending→World→Prop}{l:Nat}{f:FuncId}{tmps:Array Value}{a_ bd:Code}
(hr:(execOp a.eval o).run P w= .ok (.round l f tmps a_ bd) w)(h:RoundIn (FV P) 0 P l f tmps a_ bd w R)(hk: ∀x w',R (.returned x) w'→K (a.put o.dst x) w')(hp: ∀c w',R (.panicked c) w'→Q (.panic c) a w')(ho: ∀w',¬R .outgrown w'):jO rd P all o a w K Q:=by
 unfold jO;rw [if_pos hw];refine⟨hab,?_⟩;rw [Oper.semAt_eq _ _ _ hd,hr];refine⟨fun h=> ?_,aC7 (h.mono fun e w2 h=> ?_)⟩
 ·simp [FR,FV] at h
 ·cases e with
  |returned v=>exact hk _ _ h
  |panicked c=>exact hp _ _ h
  |outgrown=>exact absurd h (ho _)
end
def fF:Sh→Bool
 | .v a _=>bE a
 | .l a_ _=>dM a_
 | .k a_ _=>dM a_
 | .c a _=>bE a
 | .r _ a_ _ _=>dM a_
def aDA(G:Gh):Prop:=(∀l b,G.L l≠some b)∧ ∀t n x,G.H t n≠some x
theorem R.swap{G:Gh}{L:Nat→Option Nat}{H:Nat→Nat→Option (Nat×Nat×Nat)}{sh:Sh}(r:R G sh)(h:fF sh=true∨aDA G):R ⟨G.M,L,H⟩ sh:=by
 have own: ∀{o:Own}{xs:List AV}{sz:Nat}{A:Option Addr}{n c:Nat},(bE (.slice sz xs o)=true∨aDA G)→gR G o A sz n c→gR ⟨G.M,L,H⟩ o A sz n c:=by
  intro o xs sz A n c hh ho;cases o with
  |no=>trivial
  |full=>exact ho
  |lit=>exact ho
  |tok t=>
   rcases hh with hh|hh
   ·simp [bE] at hh
   ·obtain⟨b,_,h2⟩:=ho;exact absurd h2 (hh.2 _ _ _)
 have noL: ∀{l b:Nat}{X:Prop},aDA G→G.L l=some b→X:=fun hh e=>absurd e (hh.1 _ _)
 induction r with
 |int h'=>exact .int h'
 |bool b=>exact .bool b
 |str s hs=>exact .str s hs
 |aW hm ho=>exact .aW hm (own h ho)
 |bA hc hm _ ho ih=>
  refine .bA hc hm (ih ?_) (own h ho);rcases h with h|h
  ·left
   simp only [fF,bE] at h⊢;split at h
   ·cases h
   ·exact h
  ·exact .inr h
 |ms hL hc hm=>rcases h with h|h;simp [fF,bE] at h;exact noL h hL
 |agg _ ih=>exact .agg (ih (by simpa [fF,bE] using h))
 |tuple _ ih=>exact .tuple (ih (by simpa [fF,bE] using h))
 |cB=>exact .cB
 |ptr off hL=>rcases h with h|h;simp [fF,bE] at h;exact noL h hL
 |a8 off _ hM ih=>exact .a8 off (ih (by simpa [fF,bE] using h)) hM
 |func _ _ ha hb=>
  simp only [fF,bE,Bool.and_eq_true] at h;exact .func (ha (by rcases h with h|h;exact .inl h.1;exact .inr h)) (hb (by rcases h with h|h;exact .inl h.2;exact .inr h))
 |bQ=>exact .bQ
 |yield hL=>rcases h with h|h;simp [fF,bE] at h;exact noL h hL
 |map hL=>rcases h with h|h;simp [fF,bE] at h;exact noL h hL
 |cF=>exact .cF
 |iface _ ih=>exact .iface (ih (by simpa [fF,bE] using h))
 |a9=>exact .a9
 |iter hL=>rcases h with h|h;simp [fF,bE] at h;exact noL h hL
 |fZ x=>exact .fZ x
 |iO=>exact .iO
 |bK _ _ h1 h2=>
  simp only [fF,dM,Bool.and_eq_true] at h h1 h2;exact .bK (h1 (by rcases h with h|h;exact .inl h.1;exact .inr h)) (h2 (by rcases h with h|h;exact .inl h.2;exact .inr h))
 |cT=>exact .cT
 |aT _ hc _ h1 h2=>
  simp only [fF,dM,Bool.and_eq_true] at h h1 h2;exact .aT (h1 (by rcases h with h|h;exact .inl h.1;exact .inr h)) hc (h2 (by rcases h with h|h;exact .inl h.2;exact .inr h))
 |kH _ ih=>exact .kH (ih (by simpa [fF,bE] using h))
 |mJ ha h1 _ ih=>exact .mJ ha h1 (ih h)
 |nM sz b o=>exact .nM sz b o
 |fQ _ hl hM _ h1 h2=>
  simp only [fF,dM,Bool.and_eq_true] at h h1 h2;exact .fQ (h1 (by rcases h with h|h;exact .inl h.1;exact .inr h)) hl hM (h2 (by rcases h with h|h;exact .inl h.2;exact .inr h))
section
variable {P : Program} {B B' : Bs} {P' : aK} {nt : Nat} {pd : List (Nat × Nat)} {fr : Fr} {s s1 : ASt} {a : Act} {w w' : World} {G G' : Gh}
theorem Inv.aA5(h:Inv P B G s w)(he:isE s=true):aDA G:=by
 unfold isE at he;split at he
 ·rename_i h1 h2;refine⟨fun l b hl=> ?_,fun t n x hx=> ?_⟩
  ·have:=(h.l l b hl).1;rw [h1] at this;simp at this
  ·obtain⟨n0,h3,_⟩:=h.hh t n x hx;rw [h2] at h3;simp at h3
 ·cases he
def sA(G:Gh):Gh:=⟨G.M,fun _=>none,fun _ _=>none⟩
def yP(w:World)(G:Gh):Bs:=⟨fun b=>b<w.heap.size,w,G.M,fun _ h=>h⟩
theorem Inv.bare(h:Inv P B G s w):Inv P (yP w G) (sA G) dE w where
 os:=rfl
 tape:=rfl
 output:=rfl
 size:=Nat.le_refl _
 pr:=fun _ _=>rfl
 prM:=fun _ _ _=>rfl
 m:=h.m
 l:=fun _ _ h=>by cases h
 inj:=fun _ _ _ h=>by cases h
 blk:=fun _ _ _ _ h=>by cases h
 tok:=fun t n h=>by simp [dE] at h
 fP:=fun _ _ _ _ _ _ _ _ _ h=>by simp [dE] at h
 hh:=fun _ _ _ h=>by cases h
 tot:=fun _ h=>absurd h (Nat.not_lt_zero _)
theorem Inv.aEA(h:Inv P B G s w){G2:Gh}{s2:ASt}(hle:(sA G).le G2)(h2:Inv P (yP w G) G2 s2 w'):Quiet G w ⟨G2.M,G.L,G.H⟩ w' where
 le:=⟨hle.M,fun _ _ h=>h,fun _ _ _ h=>h⟩
 L:=fun _=>rfl
 H:=fun _ _=>rfl
 os:=h2.os
 tape:=h2.tape
 output:=h2.output
 size:=h2.size
 aBG:=fun b hb=>h2.pr b hb
 old:=fun b hb o=>h2.prM b hb o
 new:=fun b o x _ hx=>h2.m b o x hx
theorem cS.bare(h:cS P' G)(hp: ∀g,bE (P'.gl g)=true):cS P' (sA G):=fun g=>(h g).swap (.inl (by simpa [fF,bE] using hp g))
end
structure Eff where
 t:Option Nat
 v:AV
 add:Option Nat:=none
 aEM:Option (Nat×Nat):=none
def lT(E:Eff)(pd:List (Nat×Nat)):List (Nat×Nat):=
 match E.add,E.t with
 |some n,some d=>(d,n)::aG E.t pd
 |_,_=>aG E.t pd
def iM(E:Eff)(pd:List (Nat×Nat)):Bool:=match E.aEM with|none=>true|some (d,sz)=>pd.any fun p=>Nat.beq p.1 d&&Nat.beq p.2 sz
theorem eS{pd:List (Nat×Nat)}{t:Option Nat}{v:AV}{n:Option (Nat×Nat)}:lT ⟨t,v,none,n⟩ pd=aG t pd:=by cases t<;>rfl
def eff(H:Handler)(P:aK)(i:AI)(e:Env)(ds:List dC)(s:ASt):Option (Eff×List dC×ASt):=
 match wanted e i.gd with
 |none=>none
 |some false=>match j3 P e i.op with|true=>some (⟨i.d,dX,none,none⟩,ds,s)|false=>none
 |some true=>
  match i.op with
  | .pend z=>match i.d with|some d=>some (⟨some d,.fZ,some z.length,none⟩,ds,s)|none=>none
  | .shut d sz x=>
   match i.d,eK (evO P e x) with
   |none,some v=>if(cellsOf v).length=sz then some (⟨some d,.a8 v 0,none,some (d,sz)⟩,ds,s) else none
   |_,_=>none
  | .defer f args=>
   match evO P e f,cM (args.map (evO P e)) with
   | .func g a b,some vs=>some (⟨i.d,dX,none,none⟩,.call g (a++vs++b)::ds,s)
   |_,_=>none
  | .panic _=>none
  | .aI st f args=>
   match evO P e f,cM (args.map (evO P e)) with
   | .func g a b,some vs=>
    match(!st&&isE s)||dM (a++vs++b),H.call (.func g) (a++vs++b) dE with
    |true,some (.ret v,s2)=>
     match gZ v with
     |some v=>match isE s2||bE v with|true=>some (⟨i.d,v,none,none⟩,ds,s)|false=>none
     |none=>none
    |_,_=>none
   |_,_=>none
  | .call _ _=>none
  |op=>
   match aU P e op with
   |some v=>some (⟨i.d,v,none,none⟩,ds,s)
   |none=>
    match dV P e s op with
    |some v=>some (⟨i.d,v,none,none⟩,ds,s)
    |none=>
     match cA P e s op with
     |some (v,s1)=>some (⟨i.d,v,none,none⟩,ds,s1)
     |none=>none
section
variable {H : Handler} {P : aK} {i : AI} {e e' : Env} {ds : List dC} {s : ASt}
theorem cU{rest:List AI}{pd:List (Nat×Nat)}(hc:bC i.op≠3):
  aM H P (i::rest) pd ⟨e,ds⟩ s=
   match eff H P i e ds s with
   |some (E,ds',s')=>match iM E pd with|true=>aM H P rest (lT E pd) ⟨dD e E.t E.v,ds'⟩ s'|false=>none
   |none=>none:=by
 obtain⟨d,op,gd,pre⟩:=i;simp only [aM,eff];cases hw:wanted e gd with
 |none=>rfl
 |some b=>
  cases b with
  |false=>cases hk:j3 P e op<;>rfl
  |true=>
   cases op with
   |call f args=>simp [bC] at hc
   |panic x=>simp [bC] at hc
   |pend z=>cases d<;>rfl
   |shut d' sz x=>
    simp only;cases d with
    |some d=>cases eK (evO P e x)<;>rfl
    |none=>
     cases eK (evO P e x) with
     |none=>rfl
     |some v=>
      by_cases h1:(cellsOf v).length=sz
      ·simp only [h1,decide_true,Bool.true_and,if_true,iM];cases pd.any fun p=>Nat.beq p.1 d'&&Nat.beq p.2 sz<;>rfl
      ·simp [h1]
   |defer f args=>
    simp only;split<;>first|rfl|simp_all [lT,iM]
   |aI st f args=>
    simp only;generalize evO P e f=fv;cases fv with
    |func g a b=>
     cases cM (args.map (evO P e)) with
     |none=>rfl
     |some vs=>
      simp only;cases ((!st&&isE s)||dM (a++vs++b)) with
      |false=>rfl
      |true=>
       cases H.call (.func g) (a++vs++b) dE with
       |none=>rfl
       |some rs=>
        obtain⟨r,s2⟩:=rs;cases r with
        |panic v=>rfl
        |ret v=>
         simp only;cases gZ v with
         |none=>rfl
         |some v=>simp only;cases (isE s2||bE v)<;>rfl
    |_=>rfl
   |_=>
    simp only;split
    ·rename_i h;simp only [h,iM,eS]
    ·rename_i h;split
     ·rename_i h2;simp only [h,h2,iM,eS]
     ·rename_i h2;split<;>(rename_i h3;simp only [h,h2,h3,iM,eS])
theorem aS{x:aH}(h: ∀t∈dI x,e t=e' t):evO P e x=evO P e' x:=by
 cases x<;>simp [evO];exact h _ (by simp [dI])
theorem gN{xs:List aH}(h: ∀t∈xs.flatMap dI,e t=e' t):xs.map (evO P e)=xs.map (evO P e'):=
 List.map_congr_left fun x hx=>aS fun t ht=>h t (List.mem_flatMap.2 ⟨x,hx,ht⟩)
theorem eR{d:Nat}{x:Option aH}(h: ∀t∈m5 x,e t=e' t):bT P e d x=bT P e' d x:=by
 cases x with
 |none=>rfl
 |some x=>simp only [bT];rw [aS h]
theorem aAv{op:AOp}(h: ∀t∈aR op,e t=e' t):aU P e op=aU P e' op:=by
 cases op with
 |un u x=>cases u<;>simp only [aU]<;>simp only [aR] at h<;>rw [aS h]
 |sU m xs=>
  rcases xs with _|⟨x,_|⟨y,_|⟨z,zs⟩⟩⟩<;>simp only [aU];simp only [aR,List.flatMap_cons,List.flatMap_nil,List.append_nil,List.mem_append] at h;rw [aS fun t ht=>h t (.inl ht),aS fun t ht=>h t (.inr ht)]
 |pick c a b=>
  simp only [aR,List.mem_append] at h;simp only [aU];rw [aS fun t ht=>h t (.inl (.inl ht)),aS fun t ht=>h t (.inl (.inr ht)),aS fun t ht=>h t (.inr ht)]
 |build z ps=>
  simp only [aU];rw [List.map_congr_left (g:=fun p=>(p.1,p.2.1,evO P e' p.2.2)) fun p hp=>by
   rw [aS fun t ht=>h t (by simp only [aR];exact List.mem_flatMap.2 ⟨p,hp,ht⟩)]]
 |gO a b c ps=>
  simp only [aU];rw [List.map_congr_left (g:=fun p=>evO P e' p.2) fun p hp=>by
   rw [aS fun t ht=>h t (by simp only [aR];exact List.mem_flatMap.2 ⟨p,hp,ht⟩)]]
 |rG a b c ps=>
  simp only [aU];rw [List.map_congr_left (g:=fun p=>evO P e' p.2) fun p hp=>by
   rw [aS fun t ht=>h t (by simp only [aR];exact List.mem_flatMap.2 ⟨p,hp,ht⟩)]]
 |sV f a b=>
  simp only [aR,List.mem_append] at h;simp only [aU];rw [gN fun t ht=>h t (.inl ht),gN fun t ht=>h t (.inr ht)]
 |zF z x lo hi mx=>
  simp only [aR,List.mem_append] at h;simp only [aU];rw [aS fun t ht=>h t (.inl (.inl (.inl ht)))];simp only [eR (P:=P) fun t ht=>h t (.inl (.inl (.inr ht))),eR (P:=P) fun t ht=>h t (.inl (.inr ht)),eR (P:=P) fun t ht=>h t (.inr ht)]
 |rW x lo hi=>
  simp only [aR,List.mem_append] at h;simp only [aU];rw [aS fun t ht=>h t (.inl (.inl ht))];simp only [eR (P:=P) fun t ht=>h t (.inl (.inr ht)),eR (P:=P) fun t ht=>h t (.inr ht)]
 |aDj n z x lo hi=>
  simp only [aR,List.mem_append] at h;simp only [aU];rw [aS fun t ht=>h t (.inl (.inl ht))];simp only [eR (P:=P) fun t ht=>h t (.inl (.inr ht)),eR (P:=P) fun t ht=>h t (.inr ht)]
 |_=>
  first
   |rfl
   |(simp only [aU];simp only [aR] at h;rw [aS h];done)
   |(simp only [aU];simp only [aR,List.mem_append] at h;rw [aS fun t ht=>h t (.inl ht),aS fun t ht=>h t (.inr ht)];done)
theorem aAq{op:AOp}(h: ∀t∈aR op,e t=e' t):dV P e s op=dV P e' s op:=by
 cases op with
 |load a sz x=>simp only [aR] at h;simp only [dV];rw [aS h]
 |lookup ok kk z m k=>
  simp only [aR,List.mem_append] at h;simp only [dV];rw [aS fun t ht=>h t (.inl ht),aS fun t ht=>h t (.inr ht)]
 |_=>rfl
theorem aAk{op:AOp}(h: ∀t∈aR op,e t=e' t):cA P e s op=cA P e' s op:=by
 cases op with
 |kC kk m k v=>
  simp only [aR,List.mem_append] at h;simp only [cA];rw [aS fun t ht=>h t (.inl (.inl ht)),aS fun t ht=>h t (.inl (.inr ht)),aS fun t ht=>h t (.inr ht)]
 |_=>
  first
   |rfl
   |(simp only [cA];simp only [aR] at h;rw [aS h];done)
   |(simp only [cA];simp only [aR,List.mem_append] at h;rw [aS fun t ht=>h t (.inl ht),aS fun t ht=>h t (.inr ht)];done)
theorem vQ{gd:Option (Nat×Bool)}(h: ∀t b,gd=some (t,b)→e t=e' t):wanted e gd=wanted e' gd:=by
 cases gd with
 |none=>rfl
 |some g=>obtain⟨t,b⟩:=g;simp only [wanted];rw [h t b rfl]
theorem m4(h: ∀t∈cE i,e t=e' t):eff H P i e ds s=eff H P i e' ds s:=by
 obtain⟨d,op,gd,pre⟩:=i;have hw:wanted e gd=wanted e' gd:=vQ fun t b hg=>h t (by subst hg;simp [cE]);have hr: ∀t∈aR op,e t=e' t:=fun t ht=>h t (by simp [cE,ht]);have hsk:j3 P e op=j3 P e' op:=by
  cases op with
  |call f args=>
   cases f with
   |t k=>have h1:evO P e (.t k)=evO P e' (.t k):=aS fun t ht=>hr t (by simp only [aR,List.mem_append];exact .inl ht);simp only [j3,h1]
   |_=>rfl
  |aI st f args=>
   cases f with
   |t k=>have h1:evO P e (.t k)=evO P e' (.t k):=aS fun t ht=>hr t (by simp only [aR,List.mem_append];exact .inl ht);simp only [j3,h1]
   |_=>rfl
  |_=>rfl
 simp only [eff,hw,hsk];cases op with
 |pend z=>rfl
 |shut d' sz x=>
  have:evO P e x=evO P e' x:=aS fun t ht=>hr t (by simp [aR,ht]);simp only [this]
 |defer f args=>
  have h1:evO P e f=evO P e' f:=aS fun t ht=>hr t (by simp [aR,ht]);have h2:args.map (evO P e)=args.map (evO P e'):=gN fun t ht=>hr t (by simp only [aR,List.mem_append];exact .inr ht);simp only [h1,h2]
 |aI st f args=>
  have h1:evO P e f=evO P e' f:=aS fun t ht=>hr t (by simp [aR,ht]);have h2:args.map (evO P e)=args.map (evO P e'):=gN fun t ht=>hr t (by simp only [aR,List.mem_append];exact .inr ht);simp only [h1,h2]
 |panic x=>rfl
 |call f args=>rfl
 |_=>simp only [aAv hr,aAq hr,aAk hr]
theorem kQ{E:Eff}{ds':List dC}{s':ASt}(h:eff H P i e ds s=some (E,ds',s')): ∀t,E.t=some t→t∈aN i:=by
 obtain⟨d,op,gd,pre⟩:=i;have hd: ∀t,d=some t→t∈aN ⟨d,op,gd,pre⟩:=fun t ht=>by subst ht;simp [aN]
 simp only [eff] at h;split at h
 ·cases h
 ·split at h<;>cases h;exact hd
 ·split at h
  ·split at h<;>cases h;exact hd
  ·rename_i d' sz x _;split at h
   ·split at h
    ·cases h;intro t ht;cases ht;simp [aN]
    ·cases h
   ·cases h
  ·split at h<;>cases h;exact hd
  ·cases h
  ·split at h
   ·split at h
    ·split at h
     ·split at h<;>cases h;exact hd
     ·cases h
    ·cases h
   ·cases h
  ·cases h
  ·split at h
   ·cases h;exact hd
   ·split at h
    ·cases h;exact hd
    ·split at h<;>cases h;exact hd
theorem oQ{E:Eff}{ds':List dC}{s':ASt}(h:eff H P i e ds s=some (E,ds',s')): ∀t n,E.aEM=some (t,n)→t∈aN i:=by
 obtain⟨d,op,gd,pre⟩:=i;simp only [eff] at h;split at h
 ·cases h
 ·split at h<;>cases h;intro t n hn;cases hn
 ·split at h
  ·split at h<;>cases h;intro t n hn;cases hn
  ·rename_i d' sz x _;split at h
   ·split at h
    ·cases h;intro t n ht;cases ht;simp [aN]
    ·cases h
   ·cases h
  ·split at h<;>cases h;intro t n hn;cases hn
  ·cases h
  ·split at h
   ·split at h
    ·split at h
     ·split at h<;>cases h;intro t n hn;cases hn
     ·cases h
    ·cases h
   ·cases h
  ·cases h
  ·split at h
   ·cases h;intro t n hn;cases hn
   ·split at h
    ·cases h;intro t n hn;cases hn
    ·split at h<;>cases h;intro t n hn;cases hn
theorem zD{op:AOp}(h:bC op≠2)(h4:bC op≠4):cA P e s op=none:=by
 cases op with
 |append tk a b c d=>cases tk<;>simp [bC] at h h4
 |_=>first|rfl|(simp [bC] at h)
theorem aCH{op:AOp}(h:bC op≠1):dV P e s op=none:=by cases op<;>first|rfl|(simp [bC] at h)
theorem hU{E:Eff}{ds':List dC}{s':ASt}(hc:bC i.op≠2)(hc4:bC i.op≠4)(h:eff H P i e ds s=some (E,ds',s')):ds'=ds∧s'=s:=by
 obtain⟨d,op,gd,pre⟩:=i;simp only at hc hc4;simp only [eff] at h;split at h
 ·cases h
 ·split at h<;>cases h;exact⟨rfl,rfl⟩
 ·split at h
  ·split at h<;>cases h;exact⟨rfl,rfl⟩
  ·split at h
   ·split at h
    ·cases h;exact⟨rfl,rfl⟩
    ·cases h
   ·cases h
  ·simp [bC] at hc
  ·cases h
  ·split at h
   ·split at h
    ·split at h
     ·split at h<;>cases h;exact⟨rfl,rfl⟩
     ·cases h
    ·cases h
   ·cases h
  ·cases h
  ·split at h
   ·cases h;exact⟨rfl,rfl⟩
   ·split at h
    ·cases h;exact⟨rfl,rfl⟩
    ·rw [zD hc hc4] at h;cases h
theorem uU {E : Eff} {ds0 : List dC} {s0 : ASt} (hc : bC i.op = 0) (h : eff H P i e ds s = some (E, ds, s)) : eff H P i e ds0 s0 = some (E, ds0, s0) := by
  obtain ⟨d, op, gd, pre⟩ := i;simp only at hc;have h2 : bC op ≠ 2 := by rw [hc]; simp
  have h4 : bC op ≠ 4 := by rw [hc]; simp
  have h1 : bC op ≠ 1 := by rw [hc]; simp
  simp only [eff] at h ⊢;split at h
  · cases h
  · split at h <;> cases h
    rfl
  · cases op with
    | pend z => simp only at h ⊢; split at h <;> cases h; rfl
    | shut d' sz x =>
      simp only at h ⊢;split at h
      · split at h
        · rename_i hl; cases h; simp [hl]
        · cases h
      · cases h
    | defer f args => simp [bC] at hc
    | panic x => simp [bC] at hc
    | call f args => simp [bC] at hc
    | aI st f args =>
      cases st with
      | false => simp [bC] at hc
      | true =>
        simp only [Bool.not_true, Bool.false_and, Bool.false_or] at h ⊢;split at h
        · split at h
          · split at h
            · split at h
              · cases h; simp [*]
              · cases h
            · cases h
          · cases h
        · cases h
    | _ =>
      first
        | (simp [bC] at hc; done)
        | (simp only at h ⊢
           split at h
           · cases h; rfl
           · rw [aCH h1, zD h2 h4] at h; cases h)
theorem aCd{E:Eff}{ds0:List dC}{s0:ASt}(hc:bC i.op=1)(hb:s0.blks=s.blks)(h:eff H P i e ds s=some (E,ds,s)):eff H P i e ds0 s0=some (E,ds0,s0):=by
 obtain⟨d,op,gd,pre⟩:=i;simp only at hc;simp only [eff] at h⊢;split at h
 ·cases h
 ·split at h<;>cases h
  rfl
 ·cases op with
  |load ag sz x=>
   simp only [aU,dV,cA,hb] at h⊢;split at h
   ·rename_i h1;cases h;rfl
   ·cases h
  |lookup ok kk z m k=>
   simp only [aU,dV,cA,hb] at h⊢;split at h
   ·rename_i h1;cases h;rfl
   ·cases h
  |append tk a b c d=>cases tk<;>simp [bC] at hc
  |aI st f args=>cases st<;>simp [bC] at hc
  |_=>simp [bC] at hc
theorem aCA{esz bytes:Nat}{a x:aH}{v:AV}{s1:ASt}(h:cA P e s (.append true esz bytes a x)=some (v,s1)):s1.blks=s.blks:=by
 simp only [cA] at h;split at h
 ·cases h
 rename_i hsl;simp only [Bool.not_true,Bool.false_or,Bool.and_eq_true] at hsl;split at h
 ·split at h
  ·cases h;rfl
  ·cases h;rfl
  ·cases h
 ·split at h
  ·split at h
   ·split at h
    ·cases h;rfl
    ·cases h;rfl
    ·split at h
     ·split at h
      ·cases h;rfl
      ·cases h
     ·cases h
    ·cases h
   ·cases h
  ·rename_i ha;rw [ha] at hsl;simp [xA] at hsl
  ·cases h
 ·cases h
theorem aA9{E:Eff}{ds':List dC}{s':ASt}(hc:bC i.op=4)(h:eff H P i e ds s=some (E,ds',s')):ds'=ds∧s'.blks=s.blks:=by
 obtain⟨d,op,gd,pre⟩:=i;simp only at hc;cases op with
 |append tk a b c d=>
  cases tk with
  |false=>simp [bC] at hc
  |true=>
   simp only [eff] at h;split at h
   ·cases h
   ·simp only [j3] at h;cases h;exact⟨rfl,rfl⟩
   ·simp only [aU,dV] at h;split at h
    ·rename_i hw;cases h;exact⟨rfl,aCA hw⟩
    ·cases h
 |aI st f args=>cases st<;>simp [bC] at hc
 |_=>simp [bC] at hc
theorem nZ{a b:Nat}(h:a≠b):Nat.beq a b=false:=by
 cases hb:Nat.beq a b with
 |false=>rfl
 |true=>exact absurd (Nat.eq_of_beq_eq_true hb) h
theorem o9{t:Option Nat}{v:AV}{j:Nat}(h: ∀k,t=some k→j≠k):dD e t v j=e j:=by
 cases t with
 |none=>rfl
 |some k=>simp only [dD,upd,nZ (h k rfl)]
theorem uX{t u:Option Nat}{v w:AV}(h: ∀k,t=some k→u≠some k):dD (dD e t v) u w=dD (dD e u w) t v:=by
 cases t with
 |none=>rfl
 |some k=>
  cases u with
  |none=>rfl
  |some l=>
   have hkl:l≠k:=fun q=>h k rfl (by rw [q])
   funext j
   simp only [dD,upd];by_cases h1:j=k
   ·subst h1;simp [nZ (Ne.symm hkl)]
   ·by_cases h2:j=l
    ·subst h2;simp [nZ hkl]
    ·simp [nZ h1,nZ h2]
def j8(a b:List (Nat×Nat)):Prop:= ∀x,x∈a↔x∈b
theorem j8.drop{a b:List (Nat×Nat)}(h:j8 a b)(d:Option Nat):j8 (aG d a) (aG d b):=by
 cases d with
 |none=>exact h
 |some d=>intro x;simp only [aG,List.mem_filter,h x]
theorem j8.lT{a b:List (Nat×Nat)}(h:j8 a b)(E:Eff):j8 (lT E a) (lT E b):=by
 unfold Fw.lT;split
 ·intro x;simp only [List.mem_cons,h.drop _ x]
 ·exact h.drop _
theorem j8.iM{a b:List (Nat×Nat)}(h:j8 a b)(E:Eff):iM E a=iM E b:=by
 unfold Fw.iM;split
 ·rfl
 ·rw [Bool.eq_iff_iff,List.any_eq_true,List.any_eq_true];exact⟨fun⟨x,h1,h2⟩=>⟨x,(h x).1 h1,h2⟩,fun⟨x,h1,h2⟩=>⟨x,(h x).2 h1,h2⟩⟩
theorem xF{d:Option Nat}{pd:List (Nat×Nat)}{x:Nat×Nat}:x∈aG d pd↔x∈pd∧ ∀e,d=some e→x.1≠e:=by
 cases d with
 |none=>simp [aG]
 |some d=>
  simp only [aG,List.mem_filter,Option.some.injEq,forall_eq'];constructor
  ·rintro ⟨h1,h2⟩;exact⟨h1,fun q=>by rw [q] at h2;simp at h2⟩
  ·rintro ⟨h1,h2⟩;exact⟨h1,by rw [nZ h2];rfl⟩
theorem sP{E:Eff}{pd:List (Nat×Nat)}{x:Nat×Nat}:x∈lT E pd↔(∃n d,E.add=some n∧E.t=some d∧x=(d,n))∨(x∈pd∧ ∀e,E.t=some e→x.1≠e):=by
 unfold lT;split
 ·rename_i n d h1 h2;rw [List.mem_cons,xF,h1,h2];simp
 ·rename_i h1;rw [xF];constructor
  ·exact .inr
  ·rintro (⟨n,d,h2,h3,_⟩|h)
   ·exact absurd h3 (by intro q;exact h1 n d h2 q)
   ·exact h
theorem uO{E F:Eff}{pd:List (Nat×Nat)}(h: ∀k,E.t=some k→F.t≠some k):j8 (lT E (lT F pd)) (lT F (lT E pd)):=by
 intro x;simp only [sP];constructor
 ·rintro (⟨n,d,h1,h2,rfl⟩|⟨⟨n,d,h1,h2,rfl⟩|⟨h1,h2⟩,h3⟩)
  ·exact .inr ⟨.inl ⟨n,d,h1,h2,rfl⟩,fun e he q=>by subst q;exact h _ h2 he⟩
  ·exact .inl ⟨n,d,h1,h2,rfl⟩
  ·exact .inr ⟨.inr ⟨h1,h3⟩,h2⟩
 ·rintro (⟨n,d,h1,h2,rfl⟩|⟨⟨n,d,h1,h2,rfl⟩|⟨h1,h2⟩,h3⟩)
  ·exact .inr ⟨.inl ⟨n,d,h1,h2,rfl⟩,fun e he q=>by subst q;exact h _ he h2⟩
  ·exact .inl ⟨n,d,h1,h2,rfl⟩
  ·exact .inr ⟨.inr ⟨h1,h3⟩,h2⟩
theorem nA{E F:Eff}{pd:List (Nat×Nat)}(h: ∀k n,E.aEM=some (k,n)→F.t≠some k):iM E (lT F pd)=iM E pd:=by
 unfold iM;split
 ·rfl
 ·rename_i d sz hn;have hk:=h d sz hn;rw [Bool.eq_iff_iff,List.any_eq_true,List.any_eq_true];constructor
  ·rintro ⟨x,h1,h2⟩
   rcases sP.1 h1 with ⟨n,d',_,h4,rfl⟩|⟨h3,_⟩
   ·rw [Bool.and_eq_true] at h2;have:=Nat.eq_of_beq_eq_true h2.1;simp only at this;subst this;exact absurd h4 hk
   ·exact⟨x,h3,h2⟩
  ·rintro ⟨x,h1,h2⟩
   refine⟨x,sP.2 (.inr ⟨h1,fun e he q=> ?_⟩),h2⟩;rw [Bool.and_eq_true] at h2;have:=Nat.eq_of_beq_eq_true h2.1;rw [q] at this;exact hk (by rw [he,this])
theorem mL: ∀{is:List AI}{pd pd':List (Nat×Nat)}{fr:Fr}{s:ASt},j8 pd pd'→aM H P is pd fr s=aM H P is pd' fr s
 | [],_,_,_,_,_=>rfl
 |i::rest,pd,pd',⟨e,ds⟩,s,h=>by
  by_cases hc:bC i.op=3
  ·obtain⟨d,op,gd,pre⟩:=i;simp only [aM];cases hw:wanted e gd with
   |none=>rfl
   |some b=>
    cases b with
    |false=>
     cases hk:j3 P e op with
     |false=>rfl
     |true=>exact mL (h.drop d)
    |true=>
     cases op with
     |call f args=>
      simp only;split
      ·split
       ·exact mL (h.drop d)
       ·rfl
       ·rfl
      ·rfl
     |panic x=>rfl
     |aI st f args=>cases st<;>simp [bC] at hc
     |append tk a b c d=>cases tk<;>simp [bC] at hc
     |_=>simp [bC] at hc
  ·rw [cU hc,cU hc];split
   ·rename_i E ds' s' _;rw [h.iM E];cases iM E pd' with
    |false=>rfl
    |true=>exact mL (h.lT E)
   ·rfl
def apart(a b:AI):Prop:=oW (bC a.op) (bC b.op)=false∧(∀t∈aN a,t∉cE b)∧(∀t∈aN b,t∉cE a)
theorem yL{a b:Nat}(h:oW a b=false):a≠3:=by rintro rfl;simp [oW] at h
theorem aCn{a b:Nat}(h:oW a b=false):b≠3:=by rintro rfl;unfold oW at h;split at h<;>simp_all
theorem xP(op:AOp):bC op≤5:=by
 cases op with
 |aI st f args=>cases st<;>simp [bC]
 |append tk a b c d=>cases tk<;>simp [bC]
 |_=>simp [bC]
theorem zV{x y:Nat}(hx:x≤5)(hy:y≤5)(h:oW x y=false):
  ((x≠2∧x≠4)∧(y≠2∧y≠4))∨y=0∨x=0∨(x=1∧y=4)∨(x=4∧y=1):=by
 have:(x=0∨x=1∨x=2∨x=3∨x=4∨x=5)∧(y=0∨y=1∨y=2∨y=3∨y=4∨y=5):=by omega
 rcases this with ⟨rfl|rfl|rfl|rfl|rfl|rfl,rfl|rfl|rfl|rfl|rfl|rfl⟩<;>simp [oW] at h⊢
theorem fN{i:AI}{t:Nat}(h:t∈aN i):t∈cE i:=by simp [cE,h]
theorem tE{a b:AI}{rest:List AI}{pd:List (Nat×Nat)}{fr:Fr}{r:gW}(hab:apart a b)(h:aM H P (a::b::rest) pd fr s=some r):
  aM H P (b::a::rest) pd fr s=some r:=by
 obtain⟨hc,hw1,hw2⟩:=hab;obtain⟨e,ds⟩:=fr;have ha3:=yL hc;have hb3:=aCn hc;rw [cU ha3] at h;cases hea:eff H P a e ds s with
 |none=>rw [hea] at h;cases h
 |some x=>
  obtain⟨Ea,ds1,s1⟩:=x;rw [hea] at h;simp only at h;cases hoka:iM Ea pd with
  |false=>rw [hoka] at h;cases h
  |true=>
   rw [hoka] at h;simp only at h;rw [cU hb3] at h;have hag: ∀t∈cE b,dD e Ea.t Ea.v t=e t:=fun t ht=>o9 fun k hk q=>by
    subst q;exact hw1 _ (kQ hea _ hk) ht
   rw [m4 hag] at h;cases heb:eff H P b e ds1 s1 with
   |none=>rw [heb] at h;cases h
   |some y=>
    obtain⟨Eb,ds2,s2⟩:=y;rw [heb] at h;simp only at h;cases hokb:iM Eb (lT Ea pd) with
    |false=>rw [hokb] at h;cases h
    |true=>
     rw [hokb] at h;simp only at h;have hne: ∀k,Ea.t=some k→Eb.t≠some k:=fun k h1 h2=>hw1 k (kQ hea k h1) (fN (kQ heb k h2));have hcases:=zV (xP a.op) (xP b.op) hc;have key: ∃ds3 s3,eff H P b e ds s=some (Eb,ds3,s3)∧eff H P a e ds3 s3=some (Ea,ds2,s2):=by
      rcases hcases with ⟨q1,q2⟩|q2|q1|⟨q1,q2⟩|⟨q1,q2⟩
      ·obtain⟨rfl,rfl⟩:=hU q1.1 q1.2 hea;obtain⟨rfl,rfl⟩:=hU q2.1 q2.2 heb;exact⟨_,_,heb,hea⟩
      ·obtain⟨rfl,rfl⟩:=hU (by rw [q2];simp) (by rw [q2];simp) heb;exact⟨_,_,uU q2 heb,hea⟩
      ·obtain⟨rfl,rfl⟩:=hU (by rw [q1];simp) (by rw [q1];simp) hea;exact⟨_,_,heb,uU q1 hea⟩
      ·obtain⟨rfl,rfl⟩:=hU (by rw [q1];simp) (by rw [q1];simp) hea;obtain⟨rfl,hb⟩:=aA9 q2 heb;exact⟨_,_,heb,aCd q1 hb hea⟩
      ·obtain⟨hd,hb⟩:=aA9 q1 hea;obtain⟨hd2,hs2⟩:=hU (by rw [q2];simp) (by rw [q2];simp) heb;rw [hd2,hs2] at heb⊢;rw [hd] at heb hea⊢;exact⟨_,_,aCd q2 hb.symm heb,hea⟩
     obtain⟨ds3,s3,hb',ha'⟩:=key;have hag2: ∀t∈cE a,dD e Eb.t Eb.v t=e t:=fun t ht=>o9 fun k hk q=>by
      subst q;exact hw2 _ (kQ heb _ hk) ht
     rw [cU hb3,hb'];simp only;rw [nA fun k n hk hq=>hw1 k (kQ hea k hq) (fN (oQ heb k n hk))] at hokb;rw [hokb];simp only;rw [cU ha3,m4 hag2,ha'];simp only;rw [nA fun k n hk hq=>hw2 k (kQ heb k hq) (fN (oQ hea k n hk)),hoka];simp only;rw [uX fun k h1 h2=>hne k h2 h1,mL (uO fun k h1 h2=>hne k h1 h2)];exact h
theorem qL{i:AI}{rest:List AI}{r:gW}: ∀{A:List AI}{pd:List (Nat×Nat)}{fr:Fr}{s:ASt},(∀a∈A,apart a i)→aM H P (A++i::rest) pd fr s=some r→aM H P (i::(A++rest)) pd fr s=some r
 | [],_,_,_,_,h=>h
 |a::A,pd,⟨e,ds⟩,s,hA,h=>by
  refine tE (hA a (by simp)) ?_;have ha3:=yL (hA a (by simp)).1;simp only [List.cons_append] at h;rw [cU ha3] at h⊢;split at h
  ·rename_i E ds' s' _;cases hok:iM E pd with
   |false=>rw [hok] at h;cases h
   |true=>
    rw [hok] at h;simp only at h⊢;exact qL (fun x hx=>hA x (by simp [hx])) h
  ·cases h
end
section
variable {P : Program} {B B' : Bs} {P' : aK} {nt : Nat} {pd : List (Nat × Nat)} {fr : Fr} {e : Env} {ds ds' : List dC} {s s' : ASt} {a : Act} {w : World} {G : Gh}
theorem R.v9{G:Gh}:R G (.v dX undef):= .tuple .iO
theorem uC{h:Hint}{d:Option Nat}{op:Op}{aop:AOp}(hk:aZ P h d op=some aop)(hn: ∀f xs,aop≠ .defer f xs): ∀c,op≠ .defer c:=by
 intro c hc;subst hc;simp only [aZ] at hk;split at hk
 ·split at hk
  ·cases hk;exact hn _ _ rfl
  ·cases hk
 ·cases hk
theorem aBu{h:Hint}{d:Option Nat}{op:Op}{z:List AV}(hk:aZ P h d op=some (.pend z)): ∃t,op= .alloc t∧zeroOf P t=some z:=by
 unfold aZ at hk;split at hk
 all_goals (try unfold aY at hk);(try unfold eO at hk)
 all_goals (repeat' split at hk)
 all_goals first
  |(cases hk;done)
  |(simp only [Option.map_eq_some_iff,reduceCtorEq,and_false,exists_false] at hk;done)
  |(cases hk;exact⟨_,rfl,by assumption⟩)
theorem aBq{h:Hint}{d:Option Nat}{op:Op}{i sz:Nat}{x:aH}(hk:aZ P h d op=some (.shut i sz x)):
  ∃t ti xv,op= .store t (.tmp i) xv∧P.info? t=some ti∧bD xv=some x∧sz=P.cellsOf t:=by
 unfold aZ at hk;split at hk
 case h_9=>
  rename_i t xa xv;split at hk
  ·rename_i ti a v h1 h2 h3;simp only [Option.some.injEq] at hk;split at hk
   ·rename_i j;split at hk
    ·cases hk;cases xa with
     |tmp k=>simp [bD] at h2;subst h2;exact⟨_,_,_,rfl,h1,h3,rfl⟩
     |const v=>simp [bD] at h2
     |global g=>simp [bD] at h2
     |func f=>simp [bD] at h2
    ·cases hk
   ·cases hk
  ·cases hk
 all_goals (try unfold aY at hk);(try unfold eO at hk)
 all_goals (repeat' split at hk)
 all_goals first
  |(cases hk;done)
  |(simp only [Option.map_eq_some_iff,reduceCtorEq,and_false,exists_false] at hk;done)
  |(simp only [Option.some.injEq] at hk;split at hk<;>first|cases hk|(split at hk<;>cases hk))
theorem nE{h:Hint}{d:Option Nat}{op:Op}{f:aH}{xs:List aH}(hk:aZ P h d op=some (.call f xs)∨ ∃st,aZ P h d op=some (.aI st f xs)):
  ∃c fo,op= .call c∧c.callee= .value fo∧bD fo=some f∧j2 c.args.toList=some xs∧aDI P fo=true:=by
 rcases hk with hk|⟨st,hk⟩
 all_goals
  unfold aZ at hk;split at hk
  case h_30=>
   rename_i c;split at hk
   ·unfold aY at hk
    repeat' split at hk
    all_goals first|(cases hk;done)|(simp only [Option.map_eq_some_iff,reduceCtorEq,and_false,exists_false] at hk;done)
   ·rename_i fo hc;split at hk
    ·rename_i f' xs' h0 h1 h2;simp only [Option.some.injEq] at hk;split at hk
     ·first|(cases hk;done)|(cases hk;exact⟨_,_,rfl,hc,h1,h2,h0⟩)
     ·split at hk<;>first|(cases hk;done)|(cases hk;exact⟨_,_,rfl,hc,h1,h2,h0⟩)
    ·cases hk
   ·cases hk
  all_goals (try unfold aY at hk);(try unfold eO at hk)
  all_goals (repeat' split at hk)
  all_goals first
   |(cases hk;done)
   |(simp only [Option.map_eq_some_iff,reduceCtorEq,and_false,exists_false] at hk;done)
   |(simp only [Option.some.injEq] at hk;split at hk<;>first|cases hk|(split at hk<;>cases hk))
theorem aAn{h:Hint}{d:Option Nat}{op:Op}{f:aH}{xs:List aH}(hk:aZ P h d op=some (.defer f xs)):
  ∃c fo,op= .defer c∧c.callee= .value fo∧bD fo=some f∧j2 c.args.toList=some xs:=by
 unfold aZ at hk;split at hk
 case h_31=>
  rename_i c;split at hk
  ·rename_i fo hc;split at hk
   ·rename_i f' xs' h1 h2;cases hk;exact⟨_,_,rfl,hc,h1,h2⟩
   ·cases hk
  ·cases hk
 all_goals (try unfold aY at hk);(try unfold eO at hk)
 all_goals (repeat' split at hk)
 all_goals first
  |(cases hk;done)
  |(simp only [Option.map_eq_some_iff,reduceCtorEq,and_false,exists_false] at hk;done)
  |(simp only [Option.some.injEq] at hk;split at hk<;>first|cases hk|(split at hk<;>cases hk))
theorem z2{h:Hint}{d:Option Nat}{op:Op}{x:aH}(hk:aZ P h d op=some (.panic x)): ∃xo,op= .panic xo∧bD xo=some x:=by
 unfold aZ at hk;split at hk
 case h_32=>
  simp only [Option.map_eq_some_iff] at hk;obtain⟨y,h1,h2⟩:=hk;cases h2;exact⟨_,rfl,h1⟩
 all_goals (try unfold aY at hk);(try unfold eO at hk)
 all_goals (repeat' split at hk)
 all_goals first
  |(cases hk;done)
  |(simp only [Option.map_eq_some_iff,reduceCtorEq,and_false,exists_false] at hk;done)
  |(simp only [Option.some.injEq] at hk;split at hk<;>first|cases hk|(split at hk<;>cases hk))
theorem iH{ρ:Operand→Value}{c:Call}{fo:Operand}(hc:c.callee= .value fo){fn:Fn}{fa fb:Array Value}(hv:ρ fo= .func fn fa fb)(ty:TypeId)(w:World):
  (resolve ρ c ty).run P w= .ok {target:= .fn fn fb,args:=fa++c.args.map ρ} w:=by
 simp [resolve,hc,Deferred.ofValue,hv]
theorem j4{ρ:Operand→Value}{o:Oper}{c:Call}(ho:o.op= .call c){fo:Operand}(hc:c.callee= .value fo){fn:Fn}{fa fb:Array Value}(hv:ρ fo= .func fn fa fb)(w:World):
  (execOp ρ o).run P w=(invoke (.fn fn fb) (fa++c.args.map ρ)).run P w:=by
 simp only [execOp,ho,Sem.run_bind,iH hc hv,Result.andThen]
theorem mM{ρ:Operand→Value}{o:Oper}{w:World}(h: ∀c,o.op≠ .call c): ∀f,o.about P w ρ=some f→ ∃fn,P.funcs[f]?=some fn:=by
 intro f hf;unfold Oper.about at hf;split at hf
 ·rename_i c hc;exact absurd hc (h c)
 ·cases hf
theorem jF{f:FuncId}{args:Array Value}{w w':World}{n:Next}(h:(callFunc f args).run P w= .ok n w'): ∃fn,P.funcs[f]?=some fn:=by
 cases hf:P.funcs[f]? with
 |some fn=>exact⟨fn,rfl⟩
 |none=>simp [callFunc,hf] at h
theorem gX{ρ:Operand→Value}{o:Oper}{c:Call}(ho:o.op= .call c){fo:Operand}(hc:c.callee= .value fo){g:Nat}{fa fb:Array Value}(hv:ρ fo= .func (.func g) fa fb){w:World}(hg: ∃fn,P.funcs[g]?=some fn):
  ∀f,o.about P w ρ=some f→ ∃fn,P.funcs[f]?=some fn:=by
 intro f hf;simp only [Oper.about,ho,iH hc hv,Target.leads,Option.some.injEq] at hf;subst hf;exact hg
theorem yH{ρ:Operand→Value}{o:Oper}{c:Call}(ho:o.op= .call c){fo:Operand}(hc:c.callee= .value fo){l:Nat}{fa fb:Array Value}(hv:ρ fo= .func (.yield l) fa fb){w:World}:
  ∀f,o.about P w ρ=some f→ ∃fn,P.funcs[f]?=some fn:=by
 intro f hf;simp [Oper.about,ho,iH hc hv,Target.leads] at hf
theorem gC{h:Hint}{all:Array Oper}{ρ:Operand→Value}{o:Oper}{ai:AI}{w:World}(hc:qA P h all o ai)(hb:ai.op≠ .bad)(h1: ∀f xs,ai.op≠ .call f xs)(h2: ∀st f xs,ai.op≠ .aI st f xs):
  ∀f,o.about P w ρ=some f→ ∃fn,P.funcs[f]?=some fn:=by
 intro f hf;have hk:=hc.op.resolve_left hb;unfold Oper.about at hf;split at hf
 ·rename_i c ho;rw [ho] at hk;cases hcal:c.callee with
  |builtin b=>simp [resolve,hcal,Target.leads] at hf
  |invoke r n=>simp [aZ,hcal] at hk
  |value fo=>
   simp only [aZ,hcal] at hk;split at hk
   ·rename_i f' xs' _ _ _;simp only [Option.some.injEq] at hk;split at hk
    ·exact absurd hk.symm (h2 _ _ _)
    ·split at hk
     ·exact absurd hk.symm (h2 _ _ _)
     ·exact absurd hk.symm (h1 _ _)
   ·cases hk
 ·cases hf
theorem tQ{h:Hint}{all:Array Oper}{ρ:Operand→Value}(hρ: ∀g,ρ (.func g)= .func (.func g) #[] #[]){o:Oper}{ai:AI}{w:World}(hc:qA P h all o ai)(hs:rY ai.op=true)(hO:Opn P' e G ρ)(hk:j3 P' e ai.op=true):
  ∀f,o.about P w ρ=some f→ ∃fn,P.funcs[f]?=some fn:=by
 have key: ∀{c:Call}{fo:Operand}{g:Nat},o.op= .call c→c.callee= .value fo→bD fo=some (.f g)→aDI P fo=true→ ∀f,o.about P w ρ=some f→ ∃fn,P.funcs[f]?=some fn:=by
  intro c fo g ho hcal hfo hok;cases fo with
  |func g'=>
   simp only [aDI,Option.isSome_iff_exists] at hok;exact gX ho hcal (hρ g') hok
  |tmp t=>simp [bD] at hfo
  |const v=>simp [bD] at hfo
  |global g=>simp [bD] at hfo
 have key2: ∀{c:Call}{fo:Operand}{f0:aH},o.op= .call c→c.callee= .value fo→bD fo=some f0→(match evO P' e f0 with| .tuple []=>true|_=>false)=true→ ∀f,o.about P w ρ=some f→ ∃fn,P.funcs[f]?=some fn:=by
  intro c fo f0 ho hcal hfo hq f hf;have hr:=hO.out _ _ hfo;cases hv:evO P' e f0 with
  |tuple l=>
   cases l with
   |nil=>
    rw [hv] at hr;generalize hx:ρ fo=x at hr;cases hr with
    |tuple hl=>
    cases hl;simp [Oper.about,ho,resolve,hcal,hx,Deferred.ofValue] at hf
   |cons a b=>rw [hv] at hq;cases hq
  |_=>rw [hv] at hq;cases hq
 obtain⟨d,op,gd,pre⟩:=ai;simp only at hs hk;cases op with
 |call f xs=>
  obtain⟨c,fo,ho,hcal,hfo,hargs,hok⟩:=nE (.inl (hc.op.resolve_left (by simp)));cases f with
  |f g=>exact key ho hcal hfo hok
  |t i=>exact key2 ho hcal hfo hk
  |c v=>exact key2 ho hcal hfo hk
  |g g=>exact key2 ho hcal hfo hk
 |aI st f xs=>
  obtain⟨c,fo,ho,hcal,hfo,hargs,hok⟩:=nE (.inr ⟨st,hc.op.resolve_left (by simp)⟩);cases f with
  |f g=>exact key ho hcal hfo hok
  |t i=>exact key2 ho hcal hfo hk
  |c v=>exact key2 ho hcal hfo hk
  |g g=>exact key2 ho hcal hfo hk
 |bad=>simp [rY] at hs
 |_=>exact gC hc (by simp) (by simp) (by simp)
theorem aA1{v v':AV}{x:Value}(h:gZ v=some v')(r:R G (.v v x)):R G (.v v' x):=by
 cases v with
 |tuple vs=>
  simp only [gZ] at h;split at h
  ·cases h;cases r with
   |tuple r=>exact .tuple (jU (by assumption) r)
  ·cases h
 |_=>simp only [gZ] at h;exact(iA h r).1
theorem RI.quiet(h:RI P B P' nt pd ⟨e,ds⟩ s a w G B'){G':Gh}{w':World}(q:Quiet G w G' w'){d:Option Nat}(hd: ∀t,d=some t→t<nt){v:AV}{x:Value}(r:R G' (.v v x)):
  RI P B P' nt (aG d pd) ⟨dD e d v,ds⟩ s (a.put d x) w' G' B':=h.put q.le (q.inv h.inv) hd r
theorem oF{b:Nat}{vs us:List Value}{el:TypeId}(hb:w.heap[b]?=some (.cells vs.toArray el (0,0)))(hl:us.length=vs.length)(h1: ∀x∈us,x.oneCell'=true):
  (storeCells ⟨b,0,none⟩ us).run P w= .ok () (w.putObj b (.cells us.toArray el (0,0))):=by
 have hrun:=run_storeCells_at P b 0 el us 0 vs.toArray w hb (by simp;omega) h1;rw [hrun,kE hb];have hd:vs.drop us.length= []:=List.drop_eq_nil_of_le (by omega);simp [hd]
end
section
variable {P : Program} {B B' : Bs} {P' : aK} {nt : Nat} {pd : List (Nat × Nat)} {fr : Fr} {e : Env} {ds ds' : List dC} {s s' : ASt} {a : Act} {w : World} {G : Gh}
variable {H : Handler} {rb : Option Nat} {all : Array Oper} {o : Oper} {ai : AI} {h : Hint} {E : Eff} {K : Act → World → Prop} {Q : Exit → Act → World → Prop}
theorem RI.aB4(hi:RI P B P' nt pd ⟨e,ds⟩ s a w G B'){d n:Nat}(hd:d<nt)(vs:List Value)(hn:vs.length=n)(t:TypeId):
  ∃B'',RI P B P' nt ((d,n)::aG (some d) pd) ⟨upd e d .fZ,ds⟩ s (a.put (some d) (.pointer (some ⟨w.heap.size,0,none⟩))) (w.alloc (.cells vs.toArray t (0,0))) G B'':=by
 have hB': ∀x,B'.Pr x→x<w.heap.size:=fun x hx=>Nat.lt_of_lt_of_le (B'.lt x hx) hi.inv.size;have hI1:=hi.inv.alloc (.cells vs.toArray t (0,0));have hlt: ∀x,(B'.Pr x∨x=w.heap.size)→x<(w.alloc (.cells vs.toArray t (0,0))).heap.size:=by
  rintro x (hx|rfl)
  ·have:=hB' x hx;simp;omega
  ·simp
 refine⟨B'.now (w.alloc (.cells vs.toArray t (0,0))) G (fun x=>B'.Pr x∨x=w.heap.size) hlt,?_,?_,?_,?_,hi.kA,hi.ds⟩
 ·exact hI1.aDl hi.ext _ _ fun b hb=> .inl (hi.ext.pr b hb)
 ·refine hI1.aEj _ _ (fun ℓ b hl=> ?_) (fun t n b c sz ht hh=> ?_)
  ·have:=hi.inv.l ℓ b hl
   rintro (hx|rfl)
   ·exact this.2.2 hx
   ·exact absurd this.2.1 (Nat.lt_irrefl _)
  ·obtain⟨b',c',sz',k⟩:=hi.inv.tok t n ht;have:=k.h.symm.trans hh;cases this
   rintro (hx|rfl)
   ·exact k.np hx
   ·exact absurd k.lt (Nat.lt_irrefl _)
 ·have hold:=hi.pend.put (some d) (.pointer (some ⟨w.heap.size,0,none⟩));have hsz:d<a.tmps.size:=by rw [hi.env.1];exact hd
  have hnew:(a.put (some d) (.pointer (some ⟨w.heap.size,0,none⟩))).tmps.getD d undef= .pointer (some ⟨w.heap.size,0,none⟩):=nS hsz;have hnB: ¬B.Pr w.heap.size:=fun hx=>absurd (hB' _ (hi.ext.pr _ hx)) (Nat.lt_irrefl _);refine⟨fun d' n' hm=> ?_,fun d1 n1 d2 n2 b h1 h2 h3 h4=> ?_⟩
  ·rcases List.mem_cons.1 hm with hm|hm
   ·cases hm;refine⟨w.heap.size,t,vs,hnew,hnB,.inr rfl,eZ,hn,fun o=>hi.inv.aDa o⟩
   ·obtain⟨b,el,us,h1,h2,h3,h4,h5,h6⟩:=hold.at_ d' n' hm;have hb:=hB' b h3;refine⟨b,el,us,h1,h2,.inl h3,?_,h5,fun o=> ?_⟩
    ·exact(iD (Nat.ne_of_lt hb)).trans ((hi.inv.pr b h3).trans h4)
    ·exact(hi.inv.prM b h3 o).trans (h6 o)
  ·have hlt': ∀d' n',(d',n')∈aG (some d) pd→(a.put (some d) (.pointer (some ⟨w.heap.size,0,none⟩))).tmps.getD d' undef= .pointer (some ⟨b,0,none⟩)→b<w.heap.size:=by
    intro d' n' hm hq;obtain⟨b',el,us,h1,h2,h3,_⟩:=hold.at_ d' n' hm;have h1':(a.put (some d) (.pointer (some ⟨w.heap.size,0,none⟩))).tmps.getD d' undef= .pointer (some ⟨b',0,none⟩):=h1;rw [h1'] at hq;cases hq;exact hB' _ h3
   rcases List.mem_cons.1 h1 with h1|h1<;>rcases List.mem_cons.1 h2 with h2|h2
   ·cases h1;cases h2;rfl
   ·cases h1;rw [hnew] at h3;cases h3;exact absurd (hlt' _ _ h2 h4) (Nat.lt_irrefl _)
   ·cases h2;rw [hnew] at h4;cases h4;exact absurd (hlt' _ _ h1 h3) (Nat.lt_irrefl _)
   ·exact hold.inj d1 n1 d2 n2 b h1 h2 h3 h4
 ·exact hi.env.put hd (.fZ _)
theorem Inv.aCQ(hI:Inv P B' G s w){b:Nat}(hb:B'.Pr b)(hM: ∀o,G.M b o=none)(o':Obj)(lt: ∀x,(B'.Pr x∧x≠b)→x<(w.putObj b o').heap.size):
  Inv P ⟨fun x=>B'.Pr x∧x≠b,w.putObj b o',G.M,lt⟩ G s (w.putObj b o'):=by
 have hne: ∀{x},x≠b→(w.putObj b o').heap[x]?=w.heap[x]?:=fun hx=>World.putObj_heap_other hx;have hsz:(w.putObj b o').heap.size=w.heap.size:=by simp
 have hL: ∀ℓ x,G.L ℓ=some x→x≠b:=fun ℓ x hx q=>(hI.l ℓ x hx).2.2 (q▸hb);exact{
  os:=rfl,tape:=rfl,output:=rfl,size:=Nat.le_refl _,pr:=fun _ _=>rfl,prM:=fun _ _ _=>rfl
  m:=fun x o v hv=>by
   have hx:x≠b:=fun q=>by subst q;rw [hM o] at hv;cases hv
   rw [fA (hne hx)];exact hI.m x o v hv
  l:=fun ℓ x hx=>⟨(hI.l ℓ x hx).1,by rw [hsz];exact(hI.l ℓ x hx).2.1,fun hp=>(hI.l ℓ x hx).2.2 hp.1⟩
  inj:=hI.inj
  blk:=fun ℓ x o k hx ho hk=>by rw [hne (hL ℓ x hx)] at ho;exact hI.blk ℓ x o k hx ho hk
  tok:=fun t n ht=>by
   obtain⟨x,c,sz,k⟩:=hI.tok t n ht;have hx:x≠b:=fun q=>k.np (q▸hb);exact⟨x,c,sz,k.h,fun hp=>k.np hp.1,by rw [hsz];exact k.lt,by rw [hne hx];exact k.blk,k.szp,k.nc,k.cm,k.m,k.l⟩
  fP:=hI.fP,hh:=hI.hh,tot:=hI.tot}
theorem RI.shut(hi:RI P B P' nt pd ⟨e,ds⟩ s a w G B'){d sz:Nat}(hd:d<nt)(hm:(d,sz)∈pd){v:AV}{us:List Value}(hc:R G (.c v us))(hl:us.length=sz):
  ∃b el vs G' B'',a.tmps.getD d undef= .pointer (some ⟨b,0,none⟩)∧w.heap[b]?=some (.cells (List.toArray vs) el (0,0))∧vs.length=sz∧G.le G'∧
   RI P B P' nt (aG (some d) pd) ⟨upd e d (.a8 v 0),ds⟩ s a (w.putObj b (.cells us.toArray el (0,0))) G' B'':=by
 obtain⟨b,el,vs,h1,h2,h3,h4,h5,h6⟩:=hi.pend.at_ d sz hm;have hbl:b<w.heap.size:=Nat.lt_of_lt_of_le (B'.lt b h3) hi.inv.size;have hheap:w.heap[b]?=some (.cells vs.toArray el (0,0)):=(hi.inv.pr b h3).trans h4;have hM: ∀o,G.M b o=none:=fun o=>(hi.inv.prM b h3 o).trans (h6 o);have hne: ∀{x},x≠b→(w.putObj b (.cells us.toArray el (0,0))).heap[x]?=w.heap[x]?:=fun hx=>World.putObj_heap_other hx;have lt: ∀x,(B'.Pr x∧x≠b)→x<(w.putObj b (.cells us.toArray el (0,0))).heap.size:=fun x hx=>by
  have:=Nat.lt_of_lt_of_le (B'.lt x hx.1) hi.inv.size;simpa using this
 have hI1:=hi.inv.aCQ h3 hM (.cells us.toArray el (0,0)) lt;have hI2:=hI1.uR (b:=b) (vs:=us) (World.putObj_heap_same hbl) hM (fun ℓ hℓ=>(hi.inv.l ℓ b hℓ).2.2 h3) (fun t n b' c sz ht hh q=>by
  obtain⟨b2,c2,sz2,k⟩:=hi.inv.tok t n ht;have:=k.h.symm.trans hh;cases this;exact k.np (q▸h3)) (fun hp=>hp.2 rfl) 0 us.length
 have hle:G.le (G.eL b 0 us.length us):=Gh.nD fun o _ _ x hx=>by rw [hM o] at hx;cases hx
 refine⟨b,el,vs,_,_,h1,hheap,h5,hle,?_,hI2,?_,?_,hi.kA.mono hle,hi.ds.mono hle⟩
 ·exact{
   pr:=fun x hx=>⟨hi.ext.pr x hx,fun q=>h2 (q▸hx)⟩
   os:=hi.inv.os.trans hi.ext.os
   tape:=hi.inv.tape.trans hi.ext.tape
   output:=hi.inv.output.trans hi.ext.output
   size:=by simpa using Nat.le_trans hi.ext.size hi.inv.size
   heap:=fun x hx=>(hne (fun q=>h2 (q▸hx))).trans ((hi.inv.pr x (hi.ext.pr x hx)).trans (hi.ext.heap x hx))
   M0:=fun x hx o=>(hi.inv.prM x (hi.ext.pr x hx) o).trans (hi.ext.M0 x hx o)}
 ·refine⟨fun d' n' hm'=> ?_,fun d1 n1 d2 n2 b' q1 q2 q3 q4=>hi.pend.inj d1 n1 d2 n2 b' (eV q1).1 (eV q2).1 q3 q4⟩;obtain⟨hm1,hm2⟩:=eV hm';obtain⟨b',el',vs',k1,k2,k3,k4,k5,k6⟩:=hi.pend.at_ d' n' hm1;have hbb:b'≠b:=fun q=>by subst q;exact hm2 d rfl (hi.pend.inj _ _ _ _ _ hm1 hm k1 h1)
  refine⟨b',el',vs',k1,k2,⟨k3,hbb⟩,?_,k5,fun o=> ?_⟩
  ·exact(hne hbb).trans ((hi.inv.pr b' k3).trans k4)
  ·exact(hi.inv.prM b' k3 o).trans (k6 o)
 ·refine⟨hi.env.1,fun i=> ?_⟩;unfold upd;by_cases q:i=d
  ·subst q;rw [h1];simp only [Nat.beq_refl];have:=R.a8 (G:=G.eL b 0 us.length us) (v:=v) (vs:=us) (b:=b) (o:=0) 0 (hc.mono hle) (fun j x hx=>by
    have hj:j<us.length:=by
     rcases Nat.lt_or_ge j us.length with q|q
     ·exact q
     ·rw [List.getElem?_eq_none q] at hx;cases hx
    rw [Nat.zero_add,fL (Nat.zero_le _) hj];exact hx)
   simpa using this
  ·simp only [nZ q];exact(hi.env.2 i).mono hle
theorem zE{fa fb:List Value}{α:Type}{xs:Array α}{ρ:α→Value}:(fa++xs.toList.map ρ++fb).toArray=fa.toArray++xs.map ρ++fb.toArray:=by
 apply Array.toList_inj.1;simp
theorem aEN(hH:HOk P P' H)(hp: ∀g,bE (P'.gl g)=true)(hc:qA P h all o ai)(hgs:ai.gd≠none→rY ai.op=true)(hi:RI P B P' nt pd ⟨e,ds⟩ s a w G B')(hwr: ∀t∈aN ai,t<nt)
(hrd: ∀f xs,ai.op= .defer f xs→rb=none)(hE:eff H P' ai e ds s=some (E,ds',s'))(hok:iM E pd=true)
(hK: ∀a' w' G' B'',G.le G'→RI P B P' nt (lT E pd) ⟨dD e E.t E.v,ds'⟩ s' a' w' G' B''→K a' w'):jO rb P all o a w K Q:=by
 obtain⟨d,op,gd,pre⟩:=ai;have hcd:=hc.d;simp only at hcd;subst hcd;have hd: ∀t,o.dst=some t→t<nt:=fun t ht=>hwr t (by simp [aN,ht]);have hO:Opn P' e G a.eval:=lO hi.env hi.kA;have hcst: ∀v,a.eval (.const v)=v:=fun _=>rfl;simp only [eff] at hE;split at hE
 ·cases hE
 ·rename_i hwt;split at hE
  case h_2=>cases hE
  rename_i hsk;cases hE;have hw:=g6 (fr:=⟨e,ds⟩) hc hi.env hwt;unfold jO;rw [if_neg (by rw [hw];simp)];refine⟨tQ (fun _=>rfl) (hO:=hO) (hk:=hsk) hc (hgs (fun hn=>by simp only at hn;rw [hn] at hwt;simp [wanted] at hwt)),hK _ _ G B' (.refl _) ?_⟩;rw [eS];exact hi.quiet hi.inv.quiet hd .v9
 ·rename_i hwt;have hw:=g6 (fr:=⟨e,ds⟩) hc hi.env hwt;have hcop:=hc.op;simp only at hcop;cases op with
  |pend z=>
   simp only at hE;split at hE
   ·rename_i d0 hd0;cases hE;have hk:=hcop.resolve_left (by simp);obtain⟨t,ho,hz⟩:=aBu hk;obtain⟨i,zv,hti,hzv,hr⟩:=gS (G:=G) hz;obtain⟨B'',hRI⟩:=hi.aB4 (hd d0 hd0) zv.cells.toList hr.eG.symm t;refine dF (mM (by simp [ho])) hw (by simp [ho]) (n:= .value (.pointer (some ⟨w.heap.size,0,none⟩))) (w':=w.alloc (.cells zv.cells.toList.toArray t (0,0))) ?_ (.inl rfl) ?_
    ·simp [execOp,ho,Instr.alloc,bF hti hzv,newVar,newRow]
    ·rw [hd0];exact hK _ _ _ _ (.refl _) hRI
   ·cases hE
  |shut d0 sz x=>
   simp only at hE;split at hE
   ·rename_i v hd0 hv;split at hE
    ·rename_i hsz;cases hE;have hk:=hcop.resolve_left (by simp);obtain⟨t,ti,xv,ho,hti,hx,rfl⟩:=aBq hk;obtain⟨_,hcx⟩:=iA hv (hO.out _ _ hx);have hm:(d0,P.cellsOf t)∈pd:=by
      simp only [iM,List.any_eq_true,Bool.and_eq_true] at hok;obtain⟨p,hp1,hp2,hp3⟩:=hok;obtain⟨p1,p2⟩:=p;have e1:=Nat.eq_of_beq_eq_true hp2;have e2:=Nat.eq_of_beq_eq_true hp3;simp only at e1 e2;subst e1;subst e2;exact hp1
     have hul:(a.eval xv).cells.toList.length=P.cellsOf t:=by rw [←hcx.tH,hsz]
     obtain⟨b,el,vs,G',B'',k1,k2,k3,k4,k5⟩:=hi.shut (hwr d0 (by simp [aN])) hm hcx hul;have hrun:=oF (P:=P) k2 (us:=(a.eval xv).cells.toList) (by rw [hul,k3]) hcx.c_k.aAW;have hta:a.eval (.tmp d0)= .pointer (some ⟨b,0,none⟩):=k1;refine dF (mM (by simp [ho])) hw (by simp [ho]) (n:= .skip) (x:=undef) (w':=w.putObj b (.cells (a.eval xv).cells.toList.toArray el (0,0))) ?_ (.inr ⟨rfl,rfl⟩) ?_
     ·have hsz':(a.eval xv).cells.size=P.cellsOf t:=by rw [←hul];simp
      have hrun':(storeCells ⟨b,0,none⟩ (a.eval xv).cells.toList).run P w= .ok () (w.putObj b (.cells (a.eval xv).cells (el) (0,0))):=by simpa using hrun
      simp [execOp,ho,hta,Instr.storeAt,Instr.sureAddr,storeVar,eM hti,hsz',hrun']
     ·rw [show o.dst=none from hd0];exact hK _ _ _ _ k4 k5
    ·cases hE
   ·cases hE
  |defer f args=>
   simp only at hE;split at hE
   ·rename_i g x y vs hf hvs;cases hE;have hk:=hcop.resolve_left (by simp);obtain⟨c,fo,ho,hcal,hfo,hargs⟩:=aAn hk;have hrf:=hO.out _ _ hfo;rw [hf] at hrf;have hrx:=jU hvs (kV hO hargs);generalize hfv:a.eval fo=fv at hrf;cases hrf with
    | @func _ _ _ fa fb ha hb=>
    have hrb:=hrd f args rfl;subst hrb;unfold jO;rw [if_pos hw];refine⟨mM (by simp [ho]),?_⟩;have hrun:(Oper.semAt (FR P none).round a.eval o).run P w= .ok (.defer {target:= .fn (.func g) fb.toArray,args:=fa.toArray++c.args.map a.eval}) w:=by
     show(execOp a.eval o).run P w=_;simp [execOp,ho,iH hcal hfv]
    rw [hrun];refine hK _ _ G B' (.refl _) ?_;rw [eS];have:=hi.quiet hi.inv.quiet hd R.v9;refine⟨this.ext,this.inv,?_,?_,this.kA,?_⟩
    ·have hp:=this.pend;rw [sQ] at hp⊢;exact hp
    ·have hp:=this.env;rw [sQ] at hp⊢;exact hp
    ·rw [put_defers];refine .cons ⟨fb,fa++(c.args.toList.map a.eval),rfl,by simp,?_⟩ hi.ds;simpa using (ha.iL hrx).iL hb
   ·cases hE
  |panic x=>simp only at hE;cases hE
  |call f args=>simp only at hE;cases hE
  |aI st f args=>
   simp only at hE;split at hE
   ·rename_i g x y vs hf hvs;split at hE
    ·rename_i v s2 hpure hcall;split at hE
     ·rename_i v' hv';split at hE
      ·rename_i hpv;cases hE;have hk:=hcop.resolve_left (by simp);obtain⟨c,fo,ho,hcal,hfo,hargs,_⟩:=nE (.inr ⟨st,hk⟩);have hrf:=hO.out _ _ hfo;rw [hf] at hrf;have hrx:=jU hvs (kV hO hargs);generalize hfv:a.eval fo=fv at hrf;cases hrf with
       | @func _ _ _ fa fb ha hb=>
       have hargs':R G (.l (x++vs++y) (fa++c.args.toList.map a.eval++fb)):=(ha.iL hrx).iL hb;have hsw:R (sA G) (.l (x++vs++y) (fa++c.args.toList.map a.eval++fb)):=hargs'.swap (by
        simp only [Bool.or_eq_true,Bool.and_eq_true] at hpure;rcases hpure with hq|hq
        ·exact .inr (hi.inv.aA5 hq.2)
        ·exact .inl hq)
       have hup:=hH.func g _ _ _ _ hcall (yP w G) (sA G) w _ hi.inv.bare (hi.kA.bare hp) hsw;refine kU (gX ho hcal hfv (by obtain⟨n,w1,h1,_⟩:=hup;exact jF h1)) hw (by simp [ho]) (R:=jY P (yP w G) (sA G) s2 (.ret v)) ?_ (fun x' w' hR=> ?_) (fun ch w' hR=> ?_) (fun w' hR=> ?_)
       ·have he:(execOp a.eval o).run P w=(callFunc g (fa++c.args.toList.map a.eval++fb).toArray).run P w:=by
         rw [j4 ho hcal hfv,zE]
         rfl
        unfold y6;rw [he];exact hup
       ·obtain⟨G2,hle,hI2,hres⟩:=hR;have hq:=hi.inv.aEA hle hI2;have hr2:R ⟨G2.M,G.L,G.H⟩ (.v v' x'):=(aA1 hv' hres).swap (by
         simp only [Bool.or_eq_true] at hpv;rcases hpv with hq|hq
         ·exact .inr (hI2.aA5 hq)
         ·exact .inl hq)
        have:=hi.quiet hq hd hr2;exact hK _ _ _ B' hq.le (by rw [eS];exact this)
       ·obtain⟨G2,hle,hI2,hres⟩:=hR;exact hres.elim
       ·obtain⟨G2,hle,hI2,hres⟩:=hR;exact hres.elim
      ·cases hE
     ·cases hE
    ·cases hE
   ·cases hE
  |_=>
   simp only at hE;have hnd: ∀c,o.op≠ .defer c:=by
    rcases hcop with hq|hq
    ·cases hq<;>simp [aU,dV,cA] at hE
    ·exact uC hq (by simp)
   split at hE
   ·rename_i v hv;cases hE;rcases hcop with hq|hq
    ·cases hq<;>simp [aU] at hv
    ·obtain⟨x,w',G',hrun,q,r⟩:=aCk hi.inv hO hcst hq hv;refine dF (gC hc (by first|(intro hbad;simp [aU,dV,cA] at hv;done)|simp) (by simp) (by simp)) hw hnd hrun (.inl rfl) (hK _ _ _ B' q.le ?_);rw [eS];exact hi.quiet q hd r
   ·split at hE
    ·rename_i v hv;cases hE;rcases hcop with hq|hq
     ·cases hq<;>simp [dV] at hv
     ·obtain⟨x,w',G',hrun,q,r⟩:=aEO hi.inv hO hq hv;refine dF (gC hc (by first|(intro hbad;simp [aU,dV,cA] at hv;done)|simp) (by simp) (by simp)) hw hnd hrun (.inl rfl) (hK _ _ _ B' q.le ?_);rw [eS];exact hi.quiet q hd r
    ·split at hE
     ·rename_i v s1 hv;cases hE;rcases hcop with hq|hq
      ·cases hq<;>simp [cA] at hv
      ·obtain⟨n,x,w',G',hrun,hn,hle,hI',r⟩:=aEL hi.inv hO hq hv;refine dF (gC hc (by first|(intro hbad;simp [aU,dV,cA] at hv;done)|simp) (by simp) (by simp)) hw hnd hrun hn (hK _ _ _ B' hle ?_);rw [eS];exact hi.put hle hI' hd r
     ·cases hE
end
def yI(G:Gh):cY→Exit→Prop
 | .normal,.normal=>True
 | .exit i,.exit j=>i=j
 | .ret,.ret=>True
 | .panic v,.panic chain=> ∃x,chain= [{v:=x,recovered:=false}]∧R G (.v v x)
 |_,_=>False
def CQ(P:Program)(B:Bs)(nt:Nat)(G:Gh)(ex:cY)(fr:Fr)(s:ASt)(e:Exit)(a:Act)(w:World):Prop:=
 ∃G',G.le G'∧Inv P B G' s w∧eA G' nt fr.env a.tmps∧iP G' fr.ds a.defers∧yI G' ex e
theorem CQ.le{P:Program}{B:Bs}{nt:Nat}{G G1:Gh}{ex:cY}{fr:Fr}{s:ASt}{e:Exit}{a:Act}{w:World}(hle:G.le G1)(h:CQ P B nt G1 ex fr s e a w):CQ P B nt G ex fr s e a w:=by
 obtain⟨G',h1,h2⟩:=h;exact⟨G',hle.trans h1,h2⟩
def OQ(P:Program)(B:Bs)(nt:Nat)(G:Gh)(r:gW):Exit→Act→World→Prop:=
 match r with
 | .norm fr s=>CQ P B nt G .normal fr s
 | .pan v fr s=>CQ P B nt G (.panic v) fr s
theorem OQ.le{P:Program}{B:Bs}{nt:Nat}{G G1:Gh}{r:gW}{e:Exit}{a:Act}{w:World}(hle:G.le G1)(h:OQ P B nt G1 r e a w):OQ P B nt G r e a w:=by
 cases r<;>exact CQ.le hle h
structure vZ(P:Program)(h:Hint)(nt:Nat)(rb:Option Nat)(all:Array Oper)(o:Oper)(ai:AI):Prop where
 c:qA P h all o ai
 wr: ∀t∈aN ai,t<nt
 rd: ∀f xs,ai.op= .defer f xs→rb=none
 gs:ai.gd≠none→rY ai.op=true
section
variable {P : Program} {B B' : Bs} {P' : aK} {nt : Nat} {pd : List (Nat × Nat)} {fr : Fr} {e : Env} {ds ds' : List dC} {s s' : ASt} {a : Act} {w : World} {G G0 : Gh}
variable {H : Handler} {rb : Option Nat} {all : Array Oper} {o : Oper} {ai : AI} {h : Hint}
theorem RI.cq(hi:RI P B P' nt pd fr s a w G B')(hle:G0.le G):CQ P B nt G0 .normal fr s .normal a w:=⟨G,hle,hi.inv.base hi.ext,hi.env,hi.ds,trivial⟩
theorem aAR(hH:HOk P P' H){f:aH}{args:List aH}{gd:Option (Nat×Bool)}{pre:List Nat}{d:Option Nat}(hc:vZ P h nt rb all o ⟨d,.call f args,gd,pre⟩)(hi:RI P B P' nt pd ⟨e,ds⟩ s a w G B')
(hwt:wanted e gd=some true){g:AFn}{x y:List AV}(ht:target (evO P' e f)=some (g,x,y)){vs:List AV}{s1:ASt}(hvs:lP s (args.map (evO P' e))=some (vs,s1)){r:jT}{s2:ASt}
(hcall:H.call g (x++vs++y) s1=some (r,s2)){K:Act→World→Prop}{Q:Exit→Act→World→Prop}
(hK: ∀v a' w' G' B'',r= .ret v→G.le G'→RI P B P' nt (aG d pd) ⟨dD e d v,ds⟩ s2 a' w' G' B''→K a' w')
(hQ: ∀v x w',r= .panic v→CQ P B nt G (.panic v) ⟨e,ds⟩ s2 (.panic [{v:=x,recovered:=false}]) a w'→Q (.panic [{v:=x,recovered:=false}]) a w'):jO rb P all o a w K Q:=by
 have hcd:=hc.c.d;simp only at hcd;subst hcd;have hd: ∀t,o.dst=some t→t<nt:=fun t ht=>hc.wr t (by simp [aN,ht]);have hw:=g6 (fr:=⟨e,ds⟩) hc.c hi.env hwt;have hO:Opn P' e G a.eval:=lO hi.env hi.kA;have hk:=hc.c.op.resolve_left (by simp);obtain⟨c,fo,ho,hcal,hfo,hargs,_⟩:=nE (.inl hk);have hnd: ∀c,o.op≠ .defer c:=by simp [ho]
 obtain⟨G1,hle1,hI1,hr1⟩:=rM hi.inv (kV hO hargs) hvs;have hrf:=(hO.out _ _ hfo).mono hle1;have hg1:=hi.kA.mono hle1;have hret: ∀xv w',jY P B' G1 s2 r (.returned xv) w'→K (a.put o.dst xv) w':=by
  rintro xv w' ⟨G2,hle2,hI2,hres⟩
  cases r with
  |ret v=>exact hK v _ _ G2 B' rfl (hle1.trans hle2) (hi.put (hle1.trans hle2) hI2 hd hres)
  |panic v=>exact hres.elim
 have hpan: ∀ch w',jY P B' G1 s2 r (.panicked ch) w'→Q (.panic ch) a w':=by
  rintro ch w' ⟨G2,hle2,hI2,hres⟩
  cases r with
  |ret v=>exact hres.elim
  |panic v=>
   obtain⟨x,rfl,hx⟩:=hres;exact hQ v x w' rfl ⟨G2,hle1.trans hle2,hI2.base hi.ext,hi.env.mono (hle1.trans hle2),hi.ds.mono (hle1.trans hle2),x,rfl,hx⟩
 have hout: ∀w',¬jY P B' G1 s2 r .outgrown w':=by
  rintro w' ⟨G2,_,_,hres⟩
  cases r<;>exact hres.elim
 generalize hfv:a.eval fo=fv at hrf;generalize evO P' e f=av at ht hrf;cases hrf with
 | @func g' a' b' fa fb ha hb=>
  simp only [target,Option.some.injEq,Prod.mk.injEq] at ht;obtain⟨rfl,rfl,rfl⟩:=ht;have hr:R G1 (.l (a'++vs++b') (fa++c.args.toList.map a.eval++fb)):=(ha.iL hr1).iL hb;have hup:=hH.func g' _ _ _ _ hcall B' G1 w _ hI1 hg1 hr;refine kU (gX ho hcal hfv (by obtain⟨n,w1,h1,_⟩:=hup;exact jF h1)) hw hnd (R:=jY P B' G1 s2 r) ?_ hret hpan hout;have he:(execOp a.eval o).run P w=(callFunc g' (fa++c.args.toList.map a.eval++fb).toArray).run P w:=by
   rw [j4 ho hcal hfv,zE]
   rfl
  unfold y6;rw [he];exact hup
 | @yield l b hLb=>
  simp only [target,Option.some.injEq,Prod.mk.injEq] at ht;obtain⟨rfl,rfl,rfl⟩:=ht;have hr:R G1 (.l ([]++vs++ []) (c.args.toList.map a.eval)):=by simpa using hr1
  obtain⟨f',tmps,a_,bd,h1,h2⟩:=hH.yield l _ _ _ _ hcall B' G1 w _ b hI1 hg1 hr hLb;refine aAx (yH ho hcal hfv) hw hnd (R:=jY P B' G1 s2 r) ?_ h2 hret hpan hout;have e1:(c.args.toList.map a.eval).toArray= #[]++c.args.map a.eval:=by apply Array.toList_inj.1;simp
  rw [j4 ho hcal hfv,←e1];exact h1
 |_=>simp [target] at ht
theorem aD5(hH:HOk P P' H)(hp: ∀g,bE (P'.gl g)=true){rest:List AI}{r:gW}(hc:vZ P h nt rb all o ai)(hi:RI P B P' nt pd fr s a w G B')(hr:aM H P' (ai::rest) pd fr s=some r){K:Act→World→Prop}
(hK: ∀pd' fr' s' a' w' G' B'',aM H P' rest pd' fr' s'=some r→G.le G'→RI P B P' nt pd' fr' s' a' w' G' B''→K a' w'):jO rb P all o a w K (OQ P B nt G r):=by
 obtain⟨e,ds⟩:=fr;by_cases h3:bC ai.op=3
 ·obtain⟨d,op,gd,pre⟩:=ai;have hcd:=hc.c.d;simp only at hcd;subst hcd;have hd: ∀t,o.dst=some t→t<nt:=fun t ht=>hc.wr t (by simp [aN,ht]);simp only [aM] at hr;split at hr
  ·cases hr
  ·rename_i hwt;split at hr
   case h_2=>cases hr
   rename_i hsk;have hw:=g6 (fr:=⟨e,ds⟩) hc.c hi.env hwt;unfold jO;rw [if_neg (by rw [hw];simp)];exact⟨tQ (fun _=>rfl) (hO:=lO hi.env hi.kA) (hk:=hsk) hc.c (hc.gs (fun hn=>by simp only at hn;rw [hn] at hwt;simp [wanted] at hwt)),hK _ _ _ _ _ G B' hr (.refl _) (hi.quiet hi.inv.quiet hd .v9)⟩
  ·rename_i hwt;cases op with
   |call f args=>
    simp only at hr;split at hr
    ·rename_i g x y vs s1 ht hvs;split at hr
     ·rename_i v s2 hcall;refine aAR hH hc hi hwt ht hvs hcall (fun v' a' w' G' B'' hv hle hri=> ?_) (fun v' x w' hv=>by cases hv);cases hv;exact hK _ _ _ _ _ _ _ hr hle hri
     ·rename_i v s2 hcall;cases hr;refine aAR hH hc hi hwt ht hvs hcall (fun v' a' w' G' B'' hv=>by cases hv) (fun v' x w' hv hcq=> ?_);cases hv;exact hcq
     ·cases hr
    ·cases hr
   |panic x=>
    simp only at hr;split at hr
    ·rename_i t v hx;cases hr;have hw:=g6 (fr:=⟨e,ds⟩) hc.c hi.env hwt;have hO:Opn P' e G a.eval:=lO hi.env hi.kA;obtain⟨xo,ho,hxo⟩:=z2 (hc.c.op.resolve_left (by simp));have hrx:=hO.out _ _ hxo;rw [hx] at hrx;generalize hxv:a.eval xo=xv at hrx;cases hrx with
     | @iface _ _ y hy=>
     unfold jO;rw [if_pos hw];refine⟨mM (by simp [ho]),?_⟩;have hrun:(o.semAt (FR P rb).round a.eval).run P w= .halt (.panic (.iface t y)) w:=by
      rw [Oper.semAt_eq _ _ _ (by simp [ho])];simp only [execOp,ho,hxv,Sem.run_bind]
      rfl
     rw [hrun];exact⟨G,.refl _,hi.inv.base hi.ext,hi.env,hi.ds,_,rfl,.iface hy⟩
    ·cases hr
   |aI st f args=>cases st<;>simp [bC] at h3
   |append tk a b c d=>cases tk<;>simp [bC] at h3
   |_=>simp [bC] at h3
 ·rw [cU h3] at hr;split at hr
  ·rename_i E ds' s' hE;cases hok:iM E pd with
   |false=>rw [hok] at hr;cases hr
   |true=>
    rw [hok] at hr;exact aEN hH hp hc.c hc.gs hi hc.wr hc.rd hE hok fun a' w' G' B'' hle hri=>hK _ _ _ _ _ _ _ hr hle hri
  ·cases hr
theorem s5(hH:HOk P P' H)(hp: ∀g,bE (P'.gl g)=true){r:gW}{f:Nat→AI}: ∀(l:List Nat),(∀j∈l,∃o,all[j]?=some o∧vZ P h nt rb all o (f j))→ ∀{pd:List (Nat×Nat)}{fr:Fr}{s:ASt}{a:Act}{w:World}{G:Gh}{B':Bs},
  RI P B P' nt pd fr s a w G B'→aM H P' (l.map f) pd fr s=some r→G0.le G→wpOpsIn (FR P rb) 0 P all (OQ P B nt G0 r) l a w
 | [],_,pd,fr,s,a,w,G,B',hi,hr,hle=>by
  simp only [List.map_nil,aM,Option.some.injEq] at hr;subst hr;exact hi.cq hle
 |j::l,hl,pd,fr,s,a,w,G,B',hi,hr,hle=>by
  obtain⟨o,ho,hok⟩:=hl j (by simp);simp only [List.map_cons] at hr;have hs:=aD5 hH hp hok hi hr (K:=wpOpsIn (FR P rb) 0 P all (OQ P B nt G0 r) l) fun pd' fr' s' a' w' G' B'' hr' hle' hi'=>
   s5 hH hp l (fun j hj=>hl j (by simp [hj])) hi' hr' (hle.trans hle')
  rw [wpOpsIn_cons];simp only [wpOpIn,ho];unfold jO at hs;split
  ·rename_i hw;rw [if_pos hw] at hs;refine⟨hs.1,?_⟩;exact uponIn_mono (fun a w h=>h) (fun e a w h=>OQ.le hle h) hs.2
  ·rename_i hw;rw [if_neg hw] at hs;exact hs
where
 uponIn_mono {F : Fence} {n : Nat} {o : Oper} {a : Act} {K K' : Act → World → Prop} {Q Q' : Exit → Act → World → Prop} (hk : ∀ a w, K a w → K' a w) (hq : ∀ e a w, Q e a w → Q' e a w) {r : Result Next}
   (hh : o.uponIn F n P a K Q r) : o.uponIn F n P a K' Q' r := by
  cases r with
  | ok x w' =>
   cases x <;> simp only [Oper.uponIn] at hh ⊢ <;>
    first
     | exact hk _ _ hh
     | exact ⟨hh.1, CallsIn.mono hh.2 (fun e w'' he => by cases e <;> first | exact hk _ _ he | exact hq _ _ _ he | exact (let ⟨a, w, h⟩ := he; ⟨a, w, hq _ _ _ h⟩))⟩
     | exact ⟨hh.1, RowsIn.mono hh.2 (fun _ _ he => hk _ _ he)⟩
     | exact ⟨hh.1, RoundIn.mono hh.2 (fun e w'' he => by cases e <;> first | exact hk _ _ he | exact hq _ _ _ he | exact (let ⟨a, w, h⟩ := he; ⟨a, w, hq _ _ _ h⟩))⟩
  | halt x w' => cases x <;> simp only [Oper.uponIn] at hh ⊢ <;> exact hq _ _ _ hh
end
section
variable {P : Program} {B B' : Bs} {P' : aK} {nt : Nat} {pd : List (Nat × Nat)} {fr : Fr} {s : ASt} {a : Act} {w : World} {G G0 : Gh}
variable {H : Handler} {rb : Option Nat} {all : Array Oper} {h : Hint}
structure aC3(P:Program)(h:Hint)(nt:Nat)(rb:Option Nat)(all:Array Oper)(f:Nat→AI):Prop where
 op: ∀j,j<all.size→ ∃o,all[j]?=some o∧vZ P h nt rb all o (f j)
structure aAc(all:Array Oper)(f:Nat→AI):Prop where
 aFh: ∀(j:Nat)(o:Oper),all[j]?=some o→ ∀e∈o.after,Region.binds .any e=true→e.on<j
 pre: ∀(j:Nat)(o:Oper),all[j]?=some o→ ∀m∈(f j).pre,∃e∈o.after,Region.binds .any e=true∧(m=e.on∨m∈(f e.on).pre)
theorem aBk{md:Region.Mode}{e:Edge}(h:Region.binds .any e=true):Region.binds md e=true:=by
 unfold Region.binds at*;cases hg:e.ground<;>simp [hg] at h⊢
def aAV(f:Nat→AI)(listed:Array Bool):Prop:= ∀k,listed.getD k false=true→ ∀m∈(f k).pre,listed.getD m false=true
def open_(n:Nat)(listed:Array Bool):List Nat:=(List.range n).filter fun j=> !listed.getD j true
theorem zG{l:Array Bool}{i j:Nat}{d:Bool}(hi:i<l.size):(l.setIfInBounds i true).getD j d=if j=i then true else l.getD j d:=by
 simp only [Array.getD_eq_getD_getElem?,Array.getElem?_setIfInBounds];by_cases h:i=j
 ·subst h;simp [hi]
 ·simp [h,Ne.symm h]
theorem yB{l:Array Bool}{j:Nat}(hj:j<l.size)(d d':Bool):l.getD j d=l.getD j d':=by
 simp [Array.getD_eq_getD_getElem?,hj]
theorem aCu{n i:Nat}{listed:Array Bool}(hs:listed.size=n){A C:List Nat}(hi:open_ n listed=A++i::C):open_ n (listed.setIfInBounds i true)=A++C:=by
 have hmem:i∈open_ n listed:=by rw [hi];simp
 have hin:i<listed.size:=by
  simp only [open_,List.mem_filter,List.mem_range] at hmem;omega
 have h1:open_ n (listed.setIfInBounds i true)=(open_ n listed).filter fun j=> !(j==i):=by
  unfold open_;rw [List.filter_filter];refine List.filter_congr fun j hj=> ?_;rw [zG hin];by_cases q:j=i
  ·subst q;simp
  ·simp [q]
 have hnd:(open_ n listed).Nodup:=List.Pairwise.filter _ List.nodup_range;rw [hi] at hnd;rw [h1,hi,List.filter_append,List.filter_cons];have hA:A.filter (fun j=> !(j==i))=A:=List.filter_eq_self.2 fun j hj=>by
  have:j≠i:=fun q=>by
   subst q;exact(List.nodup_append.1 hnd).2.2 _ hj _ (by simp) rfl
  simp [this]
 have hC:C.filter (fun j=> !(j==i))=C:=List.filter_eq_self.2 fun j hj=>by
  have:j≠i:=fun q=>by
   subst q;exact(List.nodup_cons.1 (List.nodup_append.1 hnd).2.1).1 hj
  simp [this]
 rw [hA,hC];simp
def pD(H:Handler)(P':aK)(n:Nat)(f:Nat→AI)(r:gW):Prop:=
 ∀(listed:Array Bool)(A:List Nat)(i:Nat)(C:List Nat),listed.size=n→open_ n listed=A++i::C→(∀m∈(f i).pre,listed.getD m false=true)→ ∀{pd:List (Nat×Nat)}{fr:Fr}{s:ASt},
  aM H P' (A.map f++f i::C.map f) pd fr s=some r→aM H P' (f i::(A.map f++C.map f)) pd fr s=some r
theorem sR{n:Nat}{f:Nat→AI}{listed:Array Bool}{A C:List Nat}{i:Nat}(hs:listed.size=n)(hAC:open_ n listed=A++i::C)(hpre: ∀m∈(f i).pre,listed.getD m false=true):
  ∀j∈A,j<i∧i<n∧j∉(f i).pre:=by
 intro j hj;have hsorted:(open_ n listed).Pairwise (· < ·):=List.Pairwise.filter _ List.pairwise_lt_range;rw [hAC] at hsorted;have hmem:i∈open_ n listed:=by rw [hAC];simp
 have hin:i<n:=by simp only [open_,List.mem_filter,List.mem_range] at hmem;exact hmem.1
 have hji:j<i:=(List.pairwise_append.1 hsorted).2.2 j hj i (by simp);refine⟨hji,hin,fun hjp=> ?_⟩;have h1:=hpre j hjp;have h2:j∈open_ n listed:=by rw [hAC];simp [hj]
 simp only [open_,List.mem_filter,List.mem_range] at h2;rw [yB (by omega) true false,h1] at h2;simp at h2
theorem zT{n:Nat}{f:Nat→AI}{r:gW}(h: ∀i j,i<j→j<n→i∉(f j).pre→Fw.apart (f i) (f j)):pD H P' n f r:=fun _ _ _ _ hs hAC hpre _ _ _ hr=>
 qL (fun x hx=>by
  obtain⟨j,hj,rfl⟩:=List.mem_map.1 hx;obtain⟨h1,h2,h3⟩:=sR hs hAC hpre j hj;exact h _ _ h1 h2 h3) hr
theorem aA7(hH:HOk P P' H)(hp: ∀g,bE (P'.gl g)=true){r:gW}{f:Nat→AI}(hR:aC3 P h nt rb all f)(hD:aAc all f)(hF:pD H P' all.size f r){md:Region.Mode}(hmd:md= .any):
  ∀(fuel t:Nat)(listed:Array Bool),listed.size=all.size→(open_ all.size listed).length≤fuel→aAV f listed→ ∀{pd:List (Nat×Nat)}{fr:Fr}{s:ASt}{a:Act}{w:World}{G:Gh}{B':Bs},
  RI P B P' nt pd fr s a w G B'→aM H P' ((open_ all.size listed).map f) pd fr s=some r→G0.le G→wpOpsIn (FR P rb) 0 P all (OQ P B nt G0 r) (Region.linearise.go md all fuel t listed []) a w:=by
 intro fuel
 induction fuel with
 |zero=>
  intro t listed hs hl hcl pd fr s a w G B' hi hr hle;have h0:open_ all.size listed= []:=List.length_eq_zero_iff.1 (Nat.le_zero.1 hl);rw [h0] at hr;exact s5 (h:=h) hH hp [] (by simp) hi hr hle
 |succ fuel ih=>
  intro t listed hs hl hcl pd fr s a w G B' hi hr hle;simp only [Region.linearise.go];split
  ·rename_i i hi';have hready:=List.mem_of_getElem? hi';rw [List.mem_filter] at hready;obtain⟨hir,hcond⟩:=hready;have hin:i<all.size:=by simpa using hir
   obtain⟨o,ho,hok⟩:=hR.op i hin;rw [Bool.and_eq_true] at hcond;obtain⟨hun,hedge⟩:=hcond;rw [ho] at hedge;simp only [Option.map_some,Option.getD_some] at hedge;rw [Array.all_eq_true_iff_forall_mem] at hedge;have hmem:i∈open_ all.size listed:=by simp only [open_,List.mem_filter,List.mem_range];exact⟨hin,hun⟩
   obtain⟨A,C,hAC⟩:=List.append_of_mem hmem;have hpre: ∀m∈(f i).pre,listed.getD m false=true:=by
    intro m hm;obtain⟨e,he,hb,hme⟩:=hD.pre i o ho m hm;have hel:listed.getD e.on false=true:=by
     have:=hedge e he;rw [aBk hb] at this;simpa using this
    rcases hme with rfl|hme
    ·exact hel
    ·exact hcl _ hel m hme
   rw [linearise_go_acc,List.reverse_singleton,List.singleton_append,wpOpsIn_cons];rw [hAC,List.map_append,List.map_cons] at hr;have hr2:=hF listed A i C hs hAC hpre hr;have hopen:=aCu hs hAC;have hlen:(open_ all.size (listed.setIfInBounds i true)).length≤fuel:=by
    rw [hopen];rw [hAC] at hl;simp only [List.length_append,List.length_cons] at hl⊢;omega
   have hcl':aAV f (listed.setIfInBounds i true):=by
    have hin':i<listed.size:=by omega
    intro k hk m hm;rw [zG hin'] at hk⊢;split
    ·rfl
    ·by_cases q:k=i
     ·subst q;exact hpre m hm
     ·rw [if_neg q] at hk;exact hcl k hk m hm
   have hs2:=aD5 hH hp hok hi hr2 (K:=wpOpsIn (FR P rb) 0 P all (OQ P B nt G0 r) (Region.linearise.go md all fuel (t/((List.range all.size).filter fun i=> !listed.getD i true&&((all[i]?).map (·.after.all fun e=> !Region.binds md e||listed.getD e.on false)).getD false).length) (listed.setIfInBounds i true) [])) fun pd' fr' s' a' w' G' B'' hr' hle' hi'=>
    ih _ _ (by simpa using hs) hlen hcl' hi' (by rw [hopen,List.map_append];exact hr') (hle.trans hle')
   simp only [wpOpIn,ho];unfold jO at hs2;split
   ·rename_i hw;rw [if_pos hw] at hs2;exact⟨hs2.1,s5.uponIn_mono (fun a w h=>h) (fun e a w h=>OQ.le hle h) hs2.2⟩
   ·rename_i hw;rw [if_neg hw] at hs2;exact hs2
  ·rename_i hnone;have h0:open_ all.size listed= []:=by
    cases hop:open_ all.size listed with
    |nil=>rfl
    |cons i rest=>
     exfalso;have hmem:i∈open_ all.size listed:=by rw [hop];simp
     have hsorted:(open_ all.size listed).Pairwise (· < ·):=List.Pairwise.filter _ List.pairwise_lt_range;rw [hop] at hsorted;have hmin: ∀j,j<i→listed.getD j false=true:=by
      intro j hj;have hin:i<all.size:=by
       simp only [open_,List.mem_filter,List.mem_range] at hmem;exact hmem.1
      cases hq:listed.getD j false with
      |true=>rfl
      |false=>
       have:j∈open_ all.size listed:=by
        simp only [open_,List.mem_filter,List.mem_range];refine⟨by omega,?_⟩;rw [yB (by omega) true false,hq];rfl
       rw [hop] at this;rcases List.mem_cons.1 this with rfl|h2
       ·exact absurd hj (Nat.lt_irrefl _)
       ·have:=(List.pairwise_cons.1 hsorted).1 j h2;omega
     simp only [open_,List.mem_filter,List.mem_range] at hmem;obtain⟨o,ho,hok⟩:=hR.op i hmem.1;have hr':i∈(List.range all.size).filter fun i=> !listed.getD i true&&((all[i]?).map (·.after.all fun e=> !Region.binds md e||listed.getD e.on false)).getD false:=by
      rw [List.mem_filter];refine⟨by simpa using hmem.1,?_⟩;rw [Bool.and_eq_true,ho];refine⟨hmem.2,?_⟩;simp only [Option.map_some,Option.getD_some];rw [Array.all_eq_true_iff_forall_mem];intro e he;cases hb:Region.binds md e with
      |false=>rfl
      |true=>rw [hmin _ (hD.aFh i o ho e he (by rw [←hmd];exact hb))];rfl
     have hlt:t%((List.range all.size).filter fun i=> !listed.getD i true&&((all[i]?).map (·.after.all fun e=> !Region.binds md e||listed.getD e.on false)).getD false).length<((List.range all.size).filter fun i=> !listed.getD i true&&((all[i]?).map (·.after.all fun e=> !Region.binds md e||listed.getD e.on false)).getD false).length:=
      Nat.mod_lt _ (List.length_pos_of_mem hr')
     have:=List.getElem?_eq_none_iff.1 hnone;omega
   rw [h0] at hr;exact s5 (h:=h) hH hp [] (by simp) hi hr hle
theorem lN{draw:Bool}{pre:List (List Nat)}: ∀{l:List Oper}{i:Nat}{is:List AI},oK P h draw all pre i l=some is→
  is.length=l.length∧ ∀j o,l[j]?=some o→ ∃ai,is[j]?=some ai∧qA P h all o ai∧ai.pre=if draw then(pre.getD (i+j) []).eraseDups else []
 | [],i,is,hk=>by simp [oK] at hk;subst hk;exact⟨rfl,fun j o hj=>by simp at hj⟩
 |o::l,i,is,hk=>by
  simp only [oK] at hk;split at hk
  ·rename_i is' g h1 h2;cases hk;obtain⟨hlen,hih⟩:=lN h1;refine⟨by simp [hlen],fun j o' hj=> ?_⟩;cases j with
   |zero=>
    simp only [List.getElem?_cons_zero,Option.some.injEq] at hj;subst hj;refine⟨_,rfl,⟨rfl,?_,?_⟩,rfl⟩
    ·simp only;cases hc:aZ P h o.dst o.op with
     |none=>exact .inl rfl
     |some x=>exact .inr rfl
    ·revert h2
     cases o.guard with
     |none=>simp only [Option.some.injEq];intro h2;exact h2.symm
     |some jb=>
      obtain⟨j,b⟩:=jb;simp only;split
      ·rename_i t ht;intro h2;cases h2;exact⟨t,ht,rfl⟩
      ·intro h2;cases h2
   |succ j=>
    obtain⟨ai,k1,k2,k3⟩:=hih j o' (by simpa using hj);refine⟨ai,by simpa using k1,k2,?_⟩;rw [k3,show i+1+j=i+(j+1) from by omega]
  ·cases hk
theorem z7(l:List Oper): ∀(acc:List (List Nat))(done:List Oper),acc.length=done.length→
  (∀j o,done[j]?=some o→ ∀m∈acc.getD j [],∃e∈o.after,Region.binds .any e=true∧(m=e.on∨m∈acc.getD e.on []))→
  ∀j o,(done++l)[j]?=some o→ ∀m∈(l.foldl (fun acc o=>acc++ [((o.after.toList.filter (Region.binds .any)).flatMap fun e=>e.on::acc.getD e.on []).eraseDups]) acc).getD j [],
   ∃e∈o.after,Region.binds .any e=true∧(m=e.on∨m∈(l.foldl (fun acc o=>acc++ [((o.after.toList.filter (Region.binds .any)).flatMap fun e=>e.on::acc.getD e.on []).eraseDups]) acc).getD e.on []):=by
 induction l with
 |nil=>intro acc done _ h1 j o hj m hm;simp only [List.append_nil] at hj;exact h1 j o hj m hm
 |cons x l ih=>
  intro acc done hl h1 j o hj;simp only [List.foldl_cons];refine ih _ (done++ [x]) (by simp [hl]) (fun j o hj m hm=> ?_) j o (by simpa using hj);have hget: ∀k,k<acc.length→(acc++ [((x.after.toList.filter (Region.binds .any)).flatMap fun e=>e.on::acc.getD e.on []).eraseDups]).getD k []=acc.getD k []:=by
   intro k hk;simp [List.getD_eq_getElem?_getD,List.getElem?_append_left hk]
  have hmono: ∀k m,m∈acc.getD k []→m∈(acc++ [((x.after.toList.filter (Region.binds .any)).flatMap fun e=>e.on::acc.getD e.on []).eraseDups]).getD k []:=by
   intro k m hm;rcases Nat.lt_or_ge k acc.length with hk|hk
   ·rw [hget k hk];exact hm
   ·simp [List.getD_eq_getElem?_getD,List.getElem?_eq_none hk] at hm
  rcases Nat.lt_or_ge j done.length with hjl|hjl
  ·rw [List.getElem?_append_left hjl] at hj;rw [hget j (by omega)] at hm;obtain⟨e,he,hb,hme⟩:=h1 j o hj m hm;exact⟨e,he,hb,hme.imp id (hmono _ _)⟩
  ·have hj0:j=done.length:=by
    have:j<(done++ [x]).length:=(List.getElem?_eq_some_iff.1 hj).1;simp at this;omega
   subst hj0;simp at hj;subst hj;have:(acc++ [((x.after.toList.filter (Region.binds .any)).flatMap fun e=>e.on::acc.getD e.on []).eraseDups]).getD done.length []=((x.after.toList.filter (Region.binds .any)).flatMap fun e=>e.on::acc.getD e.on []).eraseDups:=by
    rw [←hl];simp [List.getD_eq_getElem?_getD]
   rw [this,List.mem_eraseDups] at hm;obtain⟨e,he,hme⟩:=List.mem_flatMap.1 hm;rw [List.mem_filter] at he;refine⟨e,Array.mem_toList_iff.1 he.1,he.2,?_⟩;rcases List.mem_cons.1 hme with q|q
   ·exact .inl q
   ·exact .inr (hmono _ _ q)
theorem zN(l:List Oper): ∀j o,l[j]?=some o→ ∀m∈(vN l).getD j [],∃e∈o.after,Region.binds .any e=true∧(m=e.on∨m∈(vN l).getD e.on []):=by
 have:=z7 l [] [] rfl (by simp);simpa [vN] using this
theorem jN: ∀{l:List Oper}{i:Nat},rC i l=true→ ∀j o,l[j]?=some o→ ∀e∈o.after,Region.binds .any e=true→e.on<i+j
 | [],i,_,j,o,hj=>by simp at hj
 |x::l,i,he,j,o,hj=>by
  simp only [rC,Bool.and_eq_true] at he;cases j with
  |zero=>
   simp at hj;subst hj;intro e hm hb;have:=(Array.all_eq_true_iff_forall_mem.1 he.1) e hm;rw [hb] at this;simp only [Bool.not_true,Bool.false_or,Nat.blt_eq] at this;omega
  |succ j=>
   intro e hm hb;have:=jN he.2 j o (by simpa using hj) e hm hb;omega
theorem uG(hmix:P.follows .mixedOrders=true)(hH:HOk P P' H)(hp: ∀g,bE (P'.gl g)=true){id:Nat}{draw:Bool}{ops:List AI}(hk:bJ P h (.region id all draw)=some (.reg draw ops))(hok:gA nt rb.isSome (.reg draw ops)=true)
{r:gW}(hi:RI P B P' nt [] fr s a w G B)(hr:aM H P' ops [] fr s=some r):(Code.region id all draw).wpIn (FR P rb) 0 P (OQ P B nt G r) a w:=by
 simp only [bJ] at hk;split at hk
 ·cases hk
 rename_i hedge;obtain⟨l0,hk0,hl0⟩:=Option.map_eq_some_iff.1 hk;have hl1:l0=ops:=by
  split at hl0
  ·cases hl0
  ·cases hl0;rfl
 rw [hl1] at hk0;clear hk hl0;have hk:=hk0;obtain⟨hlen,hck⟩:=lN hk;simp only [gA,Bool.and_eq_true] at hok;obtain⟨hok1,hok2⟩:=hok;have hall: ∀j,j<all.size→ ∃o ai,all[j]?=some o∧ops[j]?=some ai∧vZ P h nt rb all o ai∧ai.pre=if draw then((if draw then vN all.toList else []).getD j []).eraseDups else []:=by
  intro j hj;obtain⟨ai,k1,k2,k3⟩:=hck j all[j] (by simp [hj]);refine⟨all[j],ai,by simp [hj],k1,⟨k2,?_,?_,?_⟩,by simpa using k3⟩
  ·intro t ht;simp only [nW,List.all_eq_true,Bool.and_eq_true] at hok1;have:=((hok1 ai (List.mem_of_getElem? k1)).1.1) t ht;simpa using this
  ·intro f xs hd;simp only [nW,List.all_eq_true,Bool.and_eq_true] at hok1;have:=(hok1 ai (List.mem_of_getElem? k1)).1.2;rw [hd] at this;cases rb with
   |none=>rfl
   |some b=>simp at this
  ·intro hg;simp only [nW,List.all_eq_true,Bool.and_eq_true] at hok1;have:=(hok1 ai (List.mem_of_getElem? k1)).2;cases hgd:ai.gd with
   |none=>exact absurd hgd hg
   |some x=>rw [hgd] at this;exact this
 have hf: ∀j ai,ops[j]?=some ai→ops.getD j default=ai:=fun j ai hj=>by simp [List.getD_eq_getElem?_getD,hj]
 have hmap:(List.range all.size).map (fun j=>ops.getD j default)=ops:=by
  apply List.ext_getElem?;intro j;rcases Nat.lt_or_ge j all.size with hj|hj
  ·obtain⟨o,ai,_,k2,_⟩:=hall j hj;simp [hj,k2]
  ·have h1:ops.length≤j:=by rw [hlen];simpa using hj
   rw [List.getElem?_eq_none h1,List.getElem?_eq_none (by simpa using hj)]
 cases draw with
 |false=>
  refine wpIn_region (s5 (h:=h) hH hp (f:=fun j=>ops.getD j default) _ (fun j hj=> ?_) hi (by rw [hmap];exact hr) (.refl _));obtain⟨o,ai,k1,k2,k3,_⟩:=hall j (by simpa using hj);exact⟨o,k1,by rw [hf j ai k2];exact k3⟩
 |true=>
  simp only [Bool.true_and,Bool.not_eq_true',Bool.not_eq_false] at hedge;have hR:aC3 P h nt rb all (fun j=>ops.getD j default):=⟨fun j hj=>by
   obtain⟨o,ai,k1,k2,k3,_⟩:=hall j hj;exact⟨o,k1,by rw [hf j ai k2];exact k3⟩⟩
  have hD:aAc all (fun j=>ops.getD j default):=by
   refine⟨fun j o ho e he hb=> ?_,fun j o ho m hm=> ?_⟩
   ·have:=jN hedge j o (by simpa using ho) e he hb;omega
   ·obtain⟨o',ai,k1,k2,_,k4⟩:=hall j (Array.getElem?_eq_some_iff.1 ho).1;simp only [hf j ai k2,k4,if_true,List.mem_eraseDups] at hm;obtain⟨e,he,hb,hme⟩:=zN all.toList j o (by simpa using ho) m hm;refine⟨e,he,hb,hme.imp (fun q=>q) fun hq=> ?_⟩;have hel:e.on<all.size:=by
     have h1:=jN hedge j o (by simpa using ho) e he hb;have h2:=(Array.getElem?_eq_some_iff.1 ho).1;omega
    obtain⟨o2,ai2,_,q2,_,q4⟩:=hall e.on hel;rw [hf _ ai2 q2,q4];simpa [List.mem_eraseDups] using hq
  have hF:pD H P' all.size (fun j=>ops.getD j default) r:=by
   refine zT fun i j hij hj hn=> ?_;simp only [Bool.not_true,Bool.false_or] at hok2;simp only [aCV,List.all_eq_true,List.mem_range] at hok2;have hil:i<all.size:=Nat.lt_trans hij hj;obtain⟨o1,a1,_,q2,_,_⟩:=hall i hil;obtain⟨o2,a2,_,p2,_,_⟩:=hall j hj;have:=hok2 j (by rw [hlen];simpa using hj) i hij;rw [q2,p2] at this;rw [hf j a2 p2] at hn⊢;rw [hf i a1 q2];simp only [Bool.or_eq_true,List.contains_iff_mem,Bool.not_eq_true',Bool.or_eq_false_iff,List.any_eq_false] at this;rcases this with hq|⟨⟨h1,h2⟩,h3⟩
   ·exact absurd hq hn
   ·exact⟨h1,h2,h3⟩
  refine wpIn_region_draw fun t=> ?_;have hi':RI P B P' nt [] fr s a {w with drawn:=w.drawn+1} G B:=⟨hi.ext,hi.inv.drawn _,hi.pend,hi.env,hi.kA,hi.ds⟩
  have h0:open_ all.size (Array.replicate all.size false)=List.range all.size:=by
   unfold open_;rw [List.filter_eq_self];intro j hj;have:j<all.size:=by simpa using hj
   simp [Array.getD_eq_getD_getElem?,this]
  have hgo: ∀t,wpOpsIn (FR P rb) 0 P all (OQ P B nt G r) (Region.linearise .any all t) a {w with drawn:=w.drawn+1}:=fun t=>by
   unfold Region.linearise;refine aA7 hH hp hR hD hF rfl all.size t _ (by simp) (by rw [h0];simp) (fun k hk=> ?_) hi' (by rw [h0,hmap];exact hr) (.refl _);simp only [Array.getD_eq_getD_getElem?,Array.getElem?_replicate] at hk;split at hk<;>simp at hk
  simp only [Region.schedule,hmix,Bool.true_or,if_true];exact hgo _
end
section
variable {P : aK} {H : Handler}
theorem uI: ∀{L:List AI}{pd:List (Nat×Nat)}{fr fr':Fr}{s s':ASt},aM H P L pd fr s=some (.norm fr' s')→ ∀t,(∀i∈L,t∉aN i)→(∀i∈L,bC i.op≠3)→fr'.env t=fr.env t
 | [],_,_,_,_,_,h,t,_,_=>by simp only [aM,Option.some.injEq,gW.norm.injEq] at h;rw [h.1]
 |i::L,pd,⟨e,ds⟩,fr',s,s',h,t,ht,hc=>by
  rw [cU (hc i (by simp))] at h;cases he:eff H P i e ds s with
  |none=>rw [he] at h;cases h
  |some x=>
   obtain⟨E,ds',s1⟩:=x;rw [he] at h;simp only at h;cases hok:iM E pd with
   |false=>rw [hok] at h;cases h
   |true=>
    rw [hok] at h;simp only at h;have:=uI h t (fun j hj=>ht j (by simp [hj])) (fun j hj=>hc j (by simp [hj]));rw [this];show dD e E.t E.v t=e t;exact o9 fun k hk q=>by
     subst q;exact ht i (by simp) (kQ he _ hk)
theorem xE{cs:List AV}{o o':Nat}{a b:List AV}(h1:o+a.length≤cs.length)(h2:o'+b.length≤cs.length)(hd:o+a.length≤o'∨o'+b.length≤o):a0 (a0 cs o a) o' b=a0 (a0 cs o' b) o a:=by
 have hl1:(a0 cs o a).length=cs.length:=by simp [a0];omega
 have hl2:(a0 cs o' b).length=cs.length:=by simp [a0];omega
 apply List.ext_getElem?;intro k;have g: ∀(cs:List AV)(o:Nat)(a:List AV)(_:o+a.length≤cs.length)(k:Nat),(a0 cs o a)[k]?=if k<o then cs[k]? else if k<o+a.length then a[k-o]? else cs[k]?:=by
  intro cs o a h k;unfold a0;by_cases k1:k<o
  ·rw [if_pos k1,List.append_assoc,List.getElem?_append_left (by simp;omega),List.getElem?_take_of_lt k1]
  ·rw [if_neg k1,List.append_assoc,List.getElem?_append_right (by simp;omega)];have ht:(cs.take o).length=o:=by simp;omega
   rw [ht];by_cases k2:k<o+a.length
   ·rw [if_pos k2,List.getElem?_append_left (by omega)]
   ·rw [if_neg k2,List.getElem?_append_right (by omega),List.getElem?_drop]
    congr 1
    omega
 rw [g _ _ _ (by rw [hl1];exact h2),g _ _ _ h1,g _ _ _ (by rw [hl2];exact h1),g _ _ _ h2];by_cases a1:k<o'<;>by_cases a2:k<o'+b.length<;>by_cases a3:k<o<;>by_cases a4:k<o+a.length<;>simp [a1,a2,a3,a4]<;>omega
theorem aB2(a b:Bool)(l l':Nat)(m:Option Nat):low a l (low b l' m)=low b l' (low a l m):=by
 cases a<;>cases b<;>cases m<;>simp [low,Nat.min_comm,Nat.min_left_comm]
theorem pA{i:AI}(h:s8 i=true): ∃sz a x,i.op= .store sz a x∧i.d=none:=by
 unfold s8 at h;split at h
 ·rename_i h1 h2;exact⟨_,_,_,h1,h2⟩
 ·cases h
theorem aCl{i:AI}(h:s8 i=true):bC i.op≠3:=by
 obtain⟨sz,a,x,h1,_⟩:=pA h;rw [h1];simp [bC]
theorem rL{i:AI}(h:aAB i=true): ∃g sz a,i.op= .load g sz a:=by
 unfold aAB at h;split at h
 ·rename_i h1;exact⟨_,_,_,h1⟩
 ·cases h
theorem vB{i:AI}(h:iV i=true):bC i.op≠3:=by
 unfold iV at h;simp only [Bool.or_eq_true] at h;rcases h with h|h
 ·exact aCl h
 ·obtain⟨g,sz,a,h1⟩:=rL h;rw [h1];simp [bC]
theorem yW{P:aK}{a:aH}{e e':Env}(h: ∀t∈dI a,e' t=e t):evO P e' a=evO P e a:=by
 cases a with
 |t k=>exact h k (by simp [dI])
 |c v=>rfl
 |g g=>rfl
 |f f=>rfl
theorem u5{i:AI}{e e':Env}(h: ∀t∈aR i.op,e' t=e t):stR P e' i=stR P e i:=by
 unfold stR;split
 ·rename_i sz a x ho;rw [yW (e:=e) (e':=e') fun t ht=>h t (by rw [ho];simp [aR,ht])]
 ·rename_i g sz a ho;rw [yW (e:=e) (e':=e') fun t ht=>h t (by rw [ho];simp [aR,ht])]
 ·rfl
theorem aCR{d:Option Nat}{g:Bool}{sz:Nat}{a:aH}{gd:Option (Nat×Bool)}{pre:List Nat}{e:Env}{ds:List dC}{s:ASt}:eff H P ⟨d,.load g sz a,gd,pre⟩ e ds s=(match wanted e gd with
  |none=>none
  |some false=>some (⟨d,dX,none,none⟩,ds,s)
  |some true=>(match dV P e s (.load g sz a) with|some v=>some (⟨d,v,none,none⟩,ds,s)|none=>none)):=by
 unfold eff;cases wanted e gd with
 |none=>rfl
 |some b=>
  cases b with
  |false=>rfl
  |true=>
   simp only [aU,cA]
   all_goals (cases dV P e s (.load g sz a)<;>rfl)
theorem tN(cs:List AV)(o:Nat)(a:List AV)(h:o+a.length≤cs.length)(k:Nat):(a0 cs o a)[k]?=if k<o then cs[k]? else if k<o+a.length then a[k-o]? else cs[k]?:=by
 unfold a0;by_cases k1:k<o
 ·rw [if_pos k1,List.append_assoc,List.getElem?_append_left (by simp;omega),List.getElem?_take_of_lt k1]
 ·rw [if_neg k1,List.append_assoc,List.getElem?_append_right (by simp;omega)];have ht:(cs.take o).length=o:=by simp;omega
  rw [ht];by_cases k2:k<o+a.length
  ·rw [if_pos k2,List.getElem?_append_left (by omega)]
  ·rw [if_neg k2,List.getElem?_append_right (by omega),List.getElem?_drop]
   congr 1
   omega
theorem z8{e:Env}{s:ASt}{l o:Nat}{cs ds ks:List AV}{g:Bool}{sz n:Nat}{x:aH}{d:Option Nat}{gd:Option (Nat×Bool)}{pre:List Nat}(hc:s.blks[l]?=some (.cells cs true))(hl:o+ds.length≤cs.length)(hn:ds.length=n)
(hd:p0 (some (l,o,n)) (stR P e ⟨d,.load g sz x,gd,pre⟩)=true):
  dV P e (fC s l ks (s.blks.set l (.cells (a0 cs o ds) true))) (.load g sz x)=dV P e s (.load g sz x):=by
 have hlt:l<s.blks.length:=(List.getElem?_eq_some_iff.1 hc).1;have hlen:(a0 cs o ds).length=cs.length:=by simp [a0];omega
 simp only [dV,fC];cases hx:evO P e x<;>simp only;rename_i l' o';simp only [stR,hx,p0,Bool.or_eq_true,Bool.not_eq_true',Nat.ble_eq] at hd;by_cases hll:l=l'
 ·subst hll;have hd':o+n≤o'∨o'+wdt g sz≤o:=by
   rcases hd with (hd|hd)|hd
   ·rw [Nat.beq_refl] at hd;cases hd
   ·exact .inl hd
   ·exact .inr hd
  rw [List.getElem?_set_self hlt,hc];cases g with
  |false=>
   simp only [wdt] at hd'⊢;rw [tN _ _ _ hl];by_cases k1:o'<o
   ·rw [if_pos k1]
   ·rw [if_neg k1,if_neg (by omega)]
  |true=>
   simp only [wdt] at hd'⊢;have:partOf true sz (a0 cs o ds) o'=partOf true sz cs o':=by
    simp only [partOf,hlen];split
    ·congr 2
     apply List.ext_getElem?;intro k;by_cases hk:k<sz
     ·rw [List.getElem?_take_of_lt hk,List.getElem?_take_of_lt hk,List.getElem?_drop,List.getElem?_drop,tN _ _ _ hl];by_cases k1:o'+k<o
      ·rw [if_pos k1]
      ·rw [if_neg k1,if_neg (by omega)]
     ·rw [List.getElem?_eq_none (by simp;omega),List.getElem?_eq_none (by simp;omega)]
    ·rfl
   rw [this]
 ·rw [List.getElem?_set_ne hll]
theorem pZ{d:Option Nat}{sz:Nat}{a x:aH}{gd:Option (Nat×Bool)}{pre:List Nat}{e:Env}{ds:List dC}{s:ASt}:eff H P ⟨d,.store sz a x,gd,pre⟩ e ds s=(match wanted e gd with
  |none=>none
  |some false=>some (⟨d,dX,none,none⟩,ds,s)
  |some true=>(match cA P e s (.store sz a x) with|some (v,s1)=>some (⟨d,v,none,none⟩,ds,s1)|none=>none)):=by
 unfold eff;cases wanted e gd with
 |none=>rfl
 |some b=>cases b<;>rfl
theorem qD{sz:Nat}{a x:aH}{e:Env}{s s1:ASt}{v:AV}(h:cA P e s (.store sz a x)=some (v,s1)): ∃l off cs,evO P e a= .ptr l off∧s.blks[l]?=some (.cells cs true)∧nU (evO P e x)=true∧(cellsOf (evO P e x)).length=sz∧off+sz≤cs.length∧
  v=dX∧s1=fC s l (cellsOf (evO P e x)) (s.blks.set l (.cells (a0 cs off (cellsOf (evO P e x))) true)):=by
 simp only [cA] at h;split at h
 ·rename_i l off ha;split at h
  ·rename_i cs hc;split at h
   ·rename_i hk;simp only [Bool.and_eq_true,decide_eq_true_eq] at hk;cases h;exact⟨l,off,cs,ha,hc,hk.1.1,hk.1.2,hk.2,rfl,rfl⟩
   ·cases h
  ·cases h
 ·cases h
theorem yM{sz:Nat}{a x:aH}{e:Env}{s:ASt}{l off:Nat}{cs:List AV}(ha:evO P e a= .ptr l off)(hc:s.blks[l]?=some (.cells cs true))(h1:nU (evO P e x)=true)(h2:(cellsOf (evO P e x)).length=sz)(h3:off+sz≤cs.length):
  cA P e s (.store sz a x)=some (dX,fC s l (cellsOf (evO P e x)) (s.blks.set l (.cells (a0 cs off (cellsOf (evO P e x))) true))):=by
 simp only [cA,ha,hc,h1,h2,h3,decide_true,Bool.and_self,if_true]
theorem r7{a b:AI}{e:Env}{ds ds1 ds2:List dC}{s s1 s2:ASt}{Ea Eb:Eff}(ha:s8 a=true)(hb:s8 b=true)(hd:p0 (stR P e a) (stR P e b)=true)
(hea:eff H P a e ds s=some (Ea,ds1,s1))(heb:eff H P b e ds1 s1=some (Eb,ds2,s2)): ∃ds3 s3,eff H P b e ds s=some (Eb,ds3,s3)∧eff H P a e ds3 s3=some (Ea,ds2,s2):=by
 obtain⟨da,oa,ga,pa⟩:=a;obtain⟨db,ob,gb,pb⟩:=b;obtain⟨sza,xa,va,rfl,_⟩:=pA ha;obtain⟨szb,xb,vb,rfl,_⟩:=pA hb;rw [pZ] at hea heb;simp only [pZ];cases hwa:wanted e ga with
 |none=>rw [hwa] at hea;cases hea
 |some wa=>
  rw [hwa] at hea;cases wa with
  |false=>
   simp only [Option.some.injEq,Prod.mk.injEq] at hea;obtain⟨rfl,rfl,rfl⟩:=hea;exact⟨_,_,heb,rfl⟩
  |true=>
   cases hwb:wanted e gb with
   |none=>rw [hwb] at heb;cases heb
   |some wb=>
    rw [hwb] at heb;cases wb with
    |false=>
     simp only [Option.some.injEq,Prod.mk.injEq] at heb;obtain⟨rfl,rfl,rfl⟩:=heb;exact⟨_,_,rfl,hea⟩
    |true=>
     simp only at hea heb⊢;cases h1:cA P e s (.store sza xa va) with
     |none=>rw [h1] at hea;cases hea
     |some q1=>
      obtain⟨v1,t1⟩:=q1;rw [h1] at hea;simp only [Option.some.injEq,Prod.mk.injEq] at hea;obtain⟨rfl,rfl,rfl⟩:=hea;cases h2:cA P e t1 (.store szb xb vb) with
      |none=>rw [h2] at heb;cases heb
      |some q2=>
       obtain⟨v2,t2⟩:=q2;rw [h2] at heb;simp only [Option.some.injEq,Prod.mk.injEq] at heb;obtain⟨rfl,rfl,rfl⟩:=heb;obtain⟨l,o,cs,a1,a2,a3,a4,a5,rfl,rfl⟩:=qD h1;obtain⟨l',o',cs',b1,b2,b3,b4,b5,rfl,rfl⟩:=qD h2;simp only [stR,a1,b1,p0,Bool.or_eq_true,Bool.not_eq_true',Nat.ble_eq] at hd;have key: ∃cs0,s.blks[l']?=some (.cells cs0 true)∧o'+szb≤cs0.length∧ ∃cs1,(s.blks.set l' (.cells (a0 cs0 o' (cellsOf (evO P e vb))) true))[l]?=some (.cells cs1 true)∧o+sza≤cs1.length∧
         (s.blks.set l' (.cells (a0 cs0 o' (cellsOf (evO P e vb))) true)).set l (.cells (a0 cs1 o (cellsOf (evO P e va))) true)=(s.blks.set l (.cells (a0 cs o (cellsOf (evO P e va))) true)).set l' (.cells (a0 cs' o' (cellsOf (evO P e vb))) true):=by
        have hlt:l<s.blks.length:=(List.getElem?_eq_some_iff.1 a2).1;simp only [fC] at b2;by_cases hll:l=l'
        ·subst hll;rw [List.getElem?_set_self hlt] at b2;cases b2;have hd':o+sza≤o'∨o'+szb≤o:=by
          rcases hd with (hd|hd)|hd
          ·rw [Nat.beq_refl] at hd;cases hd
          ·exact .inl hd
          ·exact .inr hd
         have hl1:(a0 cs o (cellsOf (evO P e va))).length=cs.length:=by simp [a0];omega
         rw [hl1] at b5;refine⟨cs,a2,b5,a0 cs o' (cellsOf (evO P e vb)),List.getElem?_set_self hlt,?_,?_⟩
         ·simp [a0];omega
         ·rw [List.set_set,List.set_set,xE (by omega) (by omega) (by omega)]
        ·rw [List.getElem?_set_ne hll] at b2;exact⟨cs',b2,b5,cs,by rw [List.getElem?_set_ne (Ne.symm hll)];exact a2,a5,List.set_comm _ _ (Ne.symm hll)⟩
       obtain⟨cs0,k1,k2,cs1,k3,k4,k5⟩:=key;rw [yM b1 k1 b3 b4 k2];refine⟨_,_,rfl,?_⟩;rw [yM a1 (by simpa only [fC] using k3) a3 a4 k4];simp only [fC,k5,aB2,Option.some.injEq,Prod.mk.injEq,true_and]
theorem vM{a b:Option (Nat×Nat×Nat)}(h:p0 a b=true):p0 b a=true:=by
 cases a<;>cases b<;>first|rfl|skip
 rename_i x y;simp only [p0,Bool.or_eq_true,Bool.not_eq_true',Nat.ble_eq] at h⊢;rcases h with (h|h)|h
 ·refine .inl (.inl ?_);cases hq:Nat.beq y.1 x.1 with
  |false=>rfl
  |true=>
   rw [Nat.eq_of_beq_eq_true hq,Nat.beq_refl] at h;cases h
 ·exact .inr h
 ·exact .inl (.inr h)
theorem uS{a b:AI}{e:Env}{ds ds':List dC}{s s':ASt}{Ea Eb:Eff}(ha:aAB a=true)(hb:s8 b=true)(hd:p0 (stR P e a) (stR P e b)=true)(heb:eff H P b e ds s=some (Eb,ds',s')):
  (∃q,eff H P a e ds s=some (Ea,q))↔ ∃q,eff H P a e ds' s'=some (Ea,q):=by
 obtain⟨da,oa,ga,pa⟩:=a;obtain⟨db,ob,gb,pb⟩:=b;obtain⟨g,sza,xa,rfl⟩:=rL ha;obtain⟨szb,xb,vb,rfl,_⟩:=pA hb;rw [pZ] at heb;simp only [aCR];have key:dV P e s' (.load g sza xa)=dV P e s (.load g sza xa):=by
  cases hwb:wanted e gb with
  |none=>rw [hwb] at heb;cases heb
  |some wb=>
   rw [hwb] at heb;cases wb with
   |false=>
    simp only [Option.some.injEq,Prod.mk.injEq] at heb;obtain⟨rfl,rfl,rfl⟩:=heb
    rfl
   |true=>
    simp only at heb;cases h2:cA P e s (.store szb xb vb) with
    |none=>rw [h2] at heb;cases heb
    |some q2=>
     obtain⟨v2,t2⟩:=q2;rw [h2] at heb;simp only [Option.some.injEq,Prod.mk.injEq] at heb;obtain⟨rfl,rfl,rfl⟩:=heb;obtain⟨l,o,cs,a1,a2,a3,a4,a5,rfl,rfl⟩:=qD h2;refine z8 (d:=da) (gd:=ga) (pre:=pa) a2 (by omega) a4 ?_;have:=vM hd;rw [show stR P e ⟨db,.store szb xb vb,gb,pb⟩=some (l,o,szb) by simp only [stR,a1]] at this;exact this
 rw [key];cases wanted e ga with
 |none=>simp
 |some w=>
  cases w with
  |false=>simp
  |true=>cases dV P e s (.load g sza xa)<;>simp
theorem iZ{a:AI}{e:Env}{ds ds':List dC}{s s':ASt}{Ea:Eff}(ha:aAB a=true)(h:eff H P a e ds s=some (Ea,ds',s')):ds'=ds∧s'=s:=by
 obtain⟨g,sz,x,h1⟩:=rL ha;exact hU (by rw [h1];simp [bC]) (by rw [h1];simp [bC]) h
theorem aDW{a b:AI}{e:Env}{ds ds1 ds2:List dC}{s s1 s2:ASt}{Ea Eb:Eff}(hm:qF a b=true)(hd:p0 (stR P e a) (stR P e b)=true)
(hea:eff H P a e ds s=some (Ea,ds1,s1))(heb:eff H P b e ds1 s1=some (Eb,ds2,s2)): ∃ds3 s3,eff H P b e ds s=some (Eb,ds3,s3)∧eff H P a e ds3 s3=some (Ea,ds2,s2):=by
 simp only [qF,iV,Bool.or_eq_true,Bool.and_eq_true] at hm;have ldst:aAB a=true→s8 b=true→ ∃ds3 s3,eff H P b e ds s=some (Eb,ds3,s3)∧eff H P a e ds3 s3=some (Ea,ds2,s2):=fun ha hb=>by
  obtain⟨rfl,rfl⟩:=iZ ha hea;obtain⟨⟨q1,q2⟩,hq⟩:=(uS ha hb hd heb).1 ⟨_,hea⟩;obtain⟨rfl,rfl⟩:=iZ ha hq;exact⟨_,_,heb,hq⟩
 have stld:s8 a=true→aAB b=true→ ∃ds3 s3,eff H P b e ds s=some (Eb,ds3,s3)∧eff H P a e ds3 s3=some (Ea,ds2,s2):=fun ha hb=>by
  obtain⟨rfl,rfl⟩:=iZ hb heb;obtain⟨⟨q1,q2⟩,hq⟩:=(uS hb ha (vM hd) hea).2 ⟨_,heb⟩;obtain⟨rfl,rfl⟩:=iZ hb hq;exact⟨_,_,hq,hea⟩
 rcases hm with ⟨h1,h2|h2⟩|⟨h1|h1,h2⟩
 ·exact r7 h1 h2 hd hea heb
 ·exact stld h1 h2
 ·exact r7 h1 h2 hd hea heb
 ·exact ldst h1 h2
theorem z6{a b:AI}(h:qF a b=true):iV a=true:=by
 simp only [qF,iV,Bool.or_eq_true,Bool.and_eq_true] at h⊢;rcases h with ⟨h,_⟩|⟨h,_⟩
 ·exact .inl h
 ·exact h
theorem aCW{a b:AI}(h:qF a b=true):iV b=true:=by
 simp only [qF,iV,Bool.or_eq_true,Bool.and_eq_true] at h⊢;rcases h with ⟨_,h⟩|⟨_,h⟩
 ·exact h
 ·exact .inl h
theorem xD{a b:AI}{rest:List AI}{pd:List (Nat×Nat)}{fr fr':Fr}{s s':ASt}(hm:qF a b=true)(hw1: ∀t∈aN a,t∉cE b)(hw2: ∀t∈aN b,t∉cE a)(hsa: ∀t∈aR a.op,t∉aN a)(hsb: ∀t∈aR b.op,t∉aN b)
(hra: ∀t∈aR a.op,∀i∈rest,t∉aN i)(hrb: ∀t∈aR b.op,∀i∈rest,t∉aN i)
(h3: ∀i∈rest,bC i.op≠3)(hd:p0 (stR P fr'.env a) (stR P fr'.env b)=true)(h:aM H P (a::b::rest) pd fr s=some (.norm fr' s')):aM H P (b::a::rest) pd fr s=some (.norm fr' s'):=by
 have ha3:=vB (z6 hm);have hb3:=vB (aCW hm);have hall: ∀t,t∉aN a→t∉aN b→(∀i∈rest,t∉aN i)→fr'.env t=fr.env t:=fun t q1 q2 ht=>uI h t (fun i hi=>by
   rcases List.mem_cons.1 hi with rfl|hi
   ·exact q1
   ·rcases List.mem_cons.1 hi with rfl|hi
    ·exact q2
    ·exact ht i hi) (fun i hi=>by
   rcases List.mem_cons.1 hi with rfl|hi
   ·exact ha3
   ·rcases List.mem_cons.1 hi with rfl|hi
    ·exact hb3
    ·exact h3 i hi)
 obtain⟨e,ds⟩:=fr;rw [u5 (e:=e) fun t ht=>hall t (hsa t ht) (fun hw=>hw2 t hw (by simp [cE,ht])) (hra t ht),u5 (i:=b) (e:=e) fun t ht=>hall t (fun hw=>hw1 t hw (by simp [cE,ht])) (hsb t ht) (hrb t ht)] at hd;rw [cU ha3] at h;cases hea:eff H P a e ds s with
 |none=>rw [hea] at h;cases h
 |some x=>
  obtain⟨Ea,ds1,s1⟩:=x;rw [hea] at h;simp only at h;cases hoka:iM Ea pd with
  |false=>rw [hoka] at h;cases h
  |true=>
   rw [hoka] at h;simp only at h;rw [cU hb3] at h;have hag: ∀t∈cE b,dD e Ea.t Ea.v t=e t:=fun t ht=>o9 fun k hk q=>by
    subst q;exact hw1 _ (kQ hea _ hk) ht
   rw [m4 hag] at h;cases heb:eff H P b e ds1 s1 with
   |none=>rw [heb] at h;cases h
   |some y=>
    obtain⟨Eb,ds2,s2⟩:=y;rw [heb] at h;simp only at h;cases hokb:iM Eb (lT Ea pd) with
    |false=>rw [hokb] at h;cases h
    |true=>
     rw [hokb] at h;simp only at h;have hne: ∀k,Ea.t=some k→Eb.t≠some k:=fun k h1 h2=>hw1 k (kQ hea k h1) (fN (kQ heb k h2));obtain⟨ds3,s3,hb',ha'⟩:=aDW hm hd hea heb;have hag2: ∀t∈cE a,dD e Eb.t Eb.v t=e t:=fun t ht=>o9 fun k hk q=>by
      subst q;exact hw2 _ (kQ heb _ hk) ht
     rw [cU hb3,hb'];simp only;rw [nA fun k n hk hq=>hw1 k (kQ hea k hq) (fN (oQ heb k n hk))] at hokb;rw [hokb];simp only;rw [cU ha3,m4 hag2,ha'];simp only;rw [nA fun k n hk hq=>hw2 k (kQ heb k hq) (fN (oQ hea k n hk)),hoka];simp only;rw [uX fun k h1 h2=>hne k h2 h1,mL (uO fun k h1 h2=>hne k h1 h2)];exact h
def jW:List AI→Prop
 | []=>True
 |x::L=>(iV x=true→(∀t∈aR x.op,t∉aN x)∧ ∀t∈aR x.op,∀y∈L,t∉aN y)∧jW L
theorem jW.tail: ∀{A B:List AI},jW (A++B)→jW B
 | [],_,h=>h
 |_::A,_,h=>jW.tail (A:=A) h.2
def aCw(P:aK)(e:Env)(a i:AI):Prop:=apart a i∨(qF a i=true∧((∀t∈aN a,t∉cE i)∧(∀t∈aN i,t∉cE a))∧p0 (stR P e a) (stR P e i)=true)
theorem oL{i:AI}{rest:List AI}{fr':Fr}{s':ASt}: ∀{A:List AI}{pd:List (Nat×Nat)}{fr:Fr}{s:ASt},(∀a∈A,aCw P fr'.env a i)→jW (A++i::rest)→(∀x∈A++i::rest,bC x.op≠3)→
  aM H P (A++i::rest) pd fr s=some (.norm fr' s')→aM H P (i::(A++rest)) pd fr s=some (.norm fr' s')
 | [],_,_,_,_,_,_,h=>h
 |a::A,pd,⟨e,ds⟩,s,hA,hL,h3,h=>by
  have key:aM H P (a::i::(A++rest)) pd ⟨e,ds⟩ s=some (.norm fr' s'):=by
   have ha3:bC a.op≠3:=h3 a (by simp);simp only [List.cons_append] at h;rw [cU ha3] at h⊢;split at h
   ·rename_i E ds' s1 _;cases hok:iM E pd with
    |false=>rw [hok] at h;cases h
    |true=>
     rw [hok] at h;simp only at h⊢;exact oL (fun x hx=>hA x (by simp [hx])) hL.2 (fun x hx=>h3 x (by simp at hx⊢;exact .inr hx)) h
   ·cases h
  rcases hA a (by simp) with q|⟨q1,⟨q2,q2'⟩,q3⟩
  ·exact tE q key
  ·have hi:=(jW.tail (A:=A) hL.2).1 (aCW q1);refine xD q1 q2 q2' (hL.1 (z6 q1)).1 hi.1 (fun t ht y hy=> ?_) (fun t ht y hy=> ?_) (fun y hy=>h3 y ?_) q3 key
   ·refine(hL.1 (z6 q1)).2 t ht y ?_;rcases List.mem_append.1 hy with hy|hy
    ·exact List.mem_append_left _ hy
    ·exact List.mem_append_right _ (List.mem_cons_of_mem _ hy)
   ·rcases List.mem_append.1 hy with hy|hy
    ·rcases hA y (by simp [hy]) with r|⟨_,⟨r,_⟩,_⟩
     ·exact fun hw=>r.2.1 t hw (by simp [cE,ht])
     ·exact fun hw=>r t hw (by simp [cE,ht])
    ·exact hi.2 t ht y hy
   ·rcases List.mem_append.1 hy with hy|hy
    ·simp [hy]
    ·simp [hy]
theorem u7{f:Nat→AI}: ∀{l:List Nat},l.Pairwise (· < ·)→(∀i∈l,iV (f i)=true→ ∀t∈aR (f i).op,t∉aN (f i))→(∀i∈l,∀k∈l,i<k→iV (f i)=true→ ∀t∈aR (f i).op,t∉aN (f k))→jW (l.map f)
 | [],_,_,_=>trivial
 |x::l,hp,h0,h=>by
  rw [List.pairwise_cons] at hp;refine⟨fun hs=>⟨h0 x (.head _) hs,fun t ht y hy=> ?_⟩,u7 hp.2 (fun i hi=>h0 i (.tail _ hi)) fun i hi k hk=>h i (.tail _ hi) k (.tail _ hk)⟩;obtain⟨k,hk,rfl⟩:=List.mem_map.1 hy;exact h x (.head _) k (.tail _ hk) (hp.1 k hk) hs t ht
theorem wW{P':aK}{n:Nat}{f:Nat→AI}{fr':Fr}{s':ASt}(h: ∀i j,i<j→j<n→i∉(f j).pre→aCw P' fr'.env (f i) (f j))(hl: ∀i j,i<j→j<n→iV (f i)=true→ ∀t∈aR (f i).op,t∉aN (f j))
(h0: ∀i,i<n→iV (f i)=true→ ∀t∈aR (f i).op,t∉aN (f i))(h3: ∀i,i<n→bC (f i).op≠3):pD H P' n f (.norm fr' s'):=fun listed A i C hs hAC hpre pd fr s hr=>by
 have hsorted:(open_ n listed).Pairwise (· < ·):=List.Pairwise.filter _ List.pairwise_lt_range;have hlt: ∀j∈open_ n listed,j<n:=fun j hj=>by simp only [open_,List.mem_filter,List.mem_range] at hj;exact hj.1
 have hm:A.map f++f i::C.map f=(open_ n listed).map f:=by rw [hAC];simp
 refine oL (fun x hx=> ?_) ?_ (fun x hx=> ?_) hr
 ·obtain⟨j,hj,rfl⟩:=List.mem_map.1 hx;obtain⟨h1,h2,h4⟩:=sR hs hAC hpre j hj;exact h _ _ h1 h2 h4
 ·rw [hm];exact u7 hsorted (fun i hi=>h0 i (hlt i hi)) fun i _ k hk hik=>hl i k hik (hlt k hk)
 ·rw [hm] at hx;obtain⟨j,hj,rfl⟩:=List.mem_map.1 hx;exact h3 j (hlt j hj)
theorem aDG{P:aK}{e:Env}{l:List AI}(h:djS P e l=true){i j:Nat}{a b:AI}(hij:i<j)(h1:l[i]?=some a)(h2:l[j]?=some b)(hp:i∉b.pre)(hm:qF a b=true):p0 (stR P e a) (stR P e b)=true:=by
 simp only [djS,List.all_eq_true,List.mem_range] at h;have:=h j (List.getElem?_eq_some_iff.1 h2).1 i hij;rw [h1,h2] at this;simp only [Bool.or_eq_true,List.contains_iff_mem,hm,Bool.not_true,Bool.false_eq_true,or_false] at this;exact this.resolve_left hp
end
section
variable {P : Program} {B B' : Bs} {P' : aK} {nt : Nat} {pd : List (Nat × Nat)} {fr : Fr} {s : ASt} {a : Act} {w : World} {G G0 : Gh}
variable {H : Handler} {rb : Option Nat} {all : Array Oper} {h : Hint}
theorem aAo(hmix:P.follows .mixedOrders=true)(hH:HOk P P' H)(hp: ∀g,bE (P'.gl g)=true){id:Nat}{draw:Bool}{ops:List AI}(hk:bJ P h (.region id all draw)=some (.yJ ops))(hok:gA nt rb.isSome (.yJ ops)=true)
{fr1:Fr}{s1:ASt}(hi:RI P B P' nt [] fr s a w G B)(hr:aM H P' ops [] fr s=some (.norm fr1 s1))(hdj:djS P' fr1.env ops=true):(Code.region id all draw).wpIn (FR P rb) 0 P (OQ P B nt G (.norm fr1 s1)) a w:=by
 simp only [bJ] at hk;split at hk
 ·cases hk
 rename_i hedge;obtain⟨l0,hk0,hl0⟩:=Option.map_eq_some_iff.1 hk;have hl1:l0=ops∧draw=true:=by
  split at hl0
  ·rename_i hq;simp only [Bool.and_eq_true] at hq;cases hl0;exact⟨rfl,hq.1⟩
  ·cases hl0
 obtain⟨hl2,hdr⟩:=hl1;rw [hl2] at hk0;clear hk hl0;have hk:=hk0;obtain⟨hlen,hck⟩:=lN hk;simp only [gA,aBb,Bool.and_eq_true] at hok;obtain⟨hok1,hok2⟩:=hok;have hall: ∀j,j<all.size→ ∃o ai,all[j]?=some o∧ops[j]?=some ai∧vZ P h nt rb all o ai∧ai.pre=if draw then((if draw then vN all.toList else []).getD j []).eraseDups else []:=by
  intro j hj;obtain⟨ai,k1,k2,k3⟩:=hck j all[j] (by simp [hj]);refine⟨all[j],ai,by simp [hj],k1,⟨k2,?_,?_,?_⟩,by simpa using k3⟩
  ·intro t ht;simp only [nW,List.all_eq_true,Bool.and_eq_true] at hok1;have:=((hok1 ai (List.mem_of_getElem? k1)).1.1) t ht;simpa using this
  ·intro f xs hd;simp only [nW,List.all_eq_true,Bool.and_eq_true] at hok1;have:=(hok1 ai (List.mem_of_getElem? k1)).1.2;rw [hd] at this;cases rb with
   |none=>rfl
   |some b=>simp at this
  ·intro hg;simp only [nW,List.all_eq_true,Bool.and_eq_true] at hok1;have:=(hok1 ai (List.mem_of_getElem? k1)).2;cases hgd:ai.gd with
   |none=>exact absurd hgd hg
   |some x=>rw [hgd] at this;exact this
 have hf: ∀j ai,ops[j]?=some ai→ops.getD j default=ai:=fun j ai hj=>by simp [List.getD_eq_getElem?_getD,hj]
 have hmap:(List.range all.size).map (fun j=>ops.getD j default)=ops:=by
  apply List.ext_getElem?;intro j;rcases Nat.lt_or_ge j all.size with hj|hj
  ·obtain⟨o,ai,_,k2,_⟩:=hall j hj;simp [hj,k2]
  ·have h1:ops.length≤j:=by rw [hlen];simpa using hj
   rw [List.getElem?_eq_none h1,List.getElem?_eq_none (by simpa using hj)]
 subst hdr;simp only [Bool.true_and,Bool.not_eq_true',Bool.not_eq_false] at hedge;have hR:aC3 P h nt rb all (fun j=>ops.getD j default):=⟨fun j hj=>by
  obtain⟨o,ai,k1,k2,k3,_⟩:=hall j hj;exact⟨o,k1,by rw [hf j ai k2];exact k3⟩⟩
 have hD:aAc all (fun j=>ops.getD j default):=by
  refine⟨fun j o ho e he hb=> ?_,fun j o ho m hm=> ?_⟩
  ·have:=jN hedge j o (by simpa using ho) e he hb;omega
  ·obtain⟨o',ai,k1,k2,_,k4⟩:=hall j (Array.getElem?_eq_some_iff.1 ho).1;simp only [hf j ai k2,k4,if_true,List.mem_eraseDups] at hm;obtain⟨e,he,hb,hme⟩:=zN all.toList j o (by simpa using ho) m hm;refine⟨e,he,hb,hme.imp (fun q=>q) fun hq=> ?_⟩;have hel:e.on<all.size:=by
    have h1:=jN hedge j o (by simpa using ho) e he hb;have h2:=(Array.getElem?_eq_some_iff.1 ho).1;omega
   obtain⟨o2,ai2,_,q2,_,q4⟩:=hall e.on hel;rw [hf _ ai2 q2,q4];simpa [List.mem_eraseDups] using hq
 have hF:pD H P' all.size (fun j=>ops.getD j default) (.norm fr1 s1):=by
  obtain⟨hk2,hk3⟩:=hok2;simp only [List.all_eq_true,List.mem_range] at hk2 hk3;have hpair: ∀i j,i<j→j<all.size→ ∃a1 a2,ops[i]?=some a1∧ops[j]?=some a2∧ops.getD i default=a1∧ops.getD j default=a2∧_:=fun i j hij hj=>by
   obtain⟨o1,a1,_,q2,_,_⟩:=hall i (Nat.lt_trans hij hj);obtain⟨o2,a2,_,p2,_,_⟩:=hall j hj;have:=hk2 j (by rw [hlen];simpa using hj) i hij;rw [q2,p2] at this;exact⟨a1,a2,q2,p2,hf i a1 q2,hf j a2 p2,this⟩
  refine wW (fun i j hij hj hn=> ?_) (fun i j hij hj hs t ht hw=> ?_) (fun i hi' hs t ht hw=> ?_) fun i hi'=> ?_
  ·obtain⟨a1,a2,q2,p2,e1,e2,hc⟩:=hpair i j hij hj;simp only [e1,e2] at hn⊢;simp only [Bool.and_eq_true,Bool.or_eq_true,List.contains_iff_mem,Bool.not_eq_true',Bool.or_eq_false_iff,List.any_eq_false] at hc;rcases hc.1 with hq|⟨⟨h1,h2⟩,h3⟩
   ·exact absurd hq hn
   ·cases hst:qF a1 a2 with
    |false=>rw [hst] at h1;exact .inl ⟨by simpa using h1,h2,h3⟩
    |true=>exact .inr ⟨hst,⟨h2,h3⟩,aDG hdj hij q2 p2 hn hst⟩
  ·obtain⟨a1,a2,q2,p2,e1,e2,hc⟩:=hpair i j hij hj;simp only [e1,e2] at hs ht hw;simp only [Bool.and_eq_true,hs,Bool.not_true,Bool.false_or,Bool.not_eq_true',List.any_eq_false] at hc;exact hc.2 t hw (by simpa using ht)
  ·obtain⟨o1,a1,_,q2,_,_⟩:=hall i hi';simp only [hf i a1 q2] at hs ht hw;have:=hk3 a1 (List.mem_of_getElem? q2);simp only [Bool.and_eq_true,hs,Bool.not_true,Bool.false_or,Bool.not_eq_true',List.any_eq_false] at this;exact this.2 t hw (by simpa using ht)
  ·obtain⟨o1,a1,_,q2,_,_⟩:=hall i hi';simp only [hf i a1 q2];have:=hk3 a1 (List.mem_of_getElem? q2);intro h3;rw [h3] at this;simp at this
 refine wpIn_region_draw fun t=> ?_;have hi':RI P B P' nt [] fr s a {w with drawn:=w.drawn+1} G B:=⟨hi.ext,hi.inv.drawn _,hi.pend,hi.env,hi.kA,hi.ds⟩
 have h0:open_ all.size (Array.replicate all.size false)=List.range all.size:=by
  unfold open_;rw [List.filter_eq_self];intro j hj;have:j<all.size:=by simpa using hj
  simp [Array.getD_eq_getD_getElem?,this]
 have hgo: ∀t,wpOpsIn (FR P rb) 0 P all (OQ P B nt G (.norm fr1 s1)) (Region.linearise .any all t) a {w with drawn:=w.drawn+1}:=fun t=>by
  unfold Region.linearise;refine aA7 hH hp hR hD hF rfl all.size t _ (by simp) (by rw [h0];simp) (fun k hk=> ?_) hi' (by rw [h0,hmap];exact hr) (.refl _);simp only [Array.getD_eq_getD_getElem?,Array.getElem?_replicate] at hk;split at hk<;>simp at hk
 simp only [Region.schedule,hmix,Bool.true_or,if_true];exact hgo _
end
structure POk(P:Program)(P':aK):Prop where
 fn: ∀f af,P'.fn f=some af→ ∃(fn:Func)(h:Hint),P.funcs[f]?=some fn∧mP P h fn=some af∧gA fn.ntmps false af.body=true∧(fn.name== "runtime.NumGoroutine")=false
 kA: ∀g,bE (P'.gl g)=true
 mixed:P.follows .mixedOrders=true
theorem cG{P:Program}{f:Nat}{fn:Func}(hf:P.funcs[f]?=some fn){c:Code}(hb:fn.body=some c)(hn:(fn.name== "runtime.NumGoroutine")=false)(args:Array Value)(w:World):
  (callFunc f args).run P w= .ok (.enter f args) w:=by
 unfold callFunc;simp only [Sem.run_bind];have:(program:Sem Program).run P w= .ok P w:=rfl;rw [this];simp only [Result.andThen,hf,hn,hb,Option.isNone_some]
 rfl
theorem oA{P:Program}{h:Hint}{fn:Func}{af:AF}(hc:mP P h fn=some af): ∃c,fn.body=some c∧bJ P h c=some af.body:=by
 unfold mP at hc;split at hc
 ·rename_i b r hb hr;cases hc;obtain⟨c,h1,h2⟩:=Option.bind_eq_some_iff.1 hb;exact⟨c,h1,h2⟩
 ·cases hc
def aB3(G:Gh):Option Nat→Option Nat→Prop
 |none,none=>True
 |some l,some b=>G.L l=some b
 |_,_=>False
theorem aB3.mono{G G':Gh}(hG:G.le G'){rd rb:Option Nat}(h:aB3 G rd rb):aB3 G' rd rb:=by
 cases rd<;>cases rb<;>first|exact h|exact hG.L _ _ h
section
variable {P : Program} {B : Bs} {P' : aK} {nt : Nat} {s : ASt} {w : World} {G : Gh} {H : Handler} {h : Hint}
theorem pK{l₀:Nat}{r₀:Loop}(h:w.heap[l₀]?=some (.loop r₀))(fn:FuncId)(tmps:Array Value)(ps:Array Tmp)(assign body:Code):
  (Instr.enterLoop fn tmps ps assign body<|some l₀).run P w=
   .ok (w.heap.size,[]) (w.alloc<|.loop {state:= .ready,pending:=none,fn,tmps,params:=ps,assign,body,defers:=r₀.defers}):=by
 unfold Instr.enterLoop;simp only [Sem.run_bind,run_getLoop h,run_newObj_alloc,Result.andThen,Sem.run_pure]
theorem aAt{F:Fence}{n:Nat}{c:Code}{Q:Exit→Act→World→Prop}{a:Act}{w:World}(hg: ∀l a w,¬Q (.goto l) a w)(h:c.wpIn F n P Q a w):(Code.scope c).wpIn F n P Q a w:=by
 intro b k cs hro hb hr;have s0:step P (lone (b.atR a (.code (.scope c)::k)) cs w)= .next (lone (b.atR a (.code c:: .inScope c::k)) cs w):=
  step_lone_go (by simp [stepG,stepG.exec,Frame.atR])
 have s1: ∀a w,step P (lone (b.atR a (.inScope c::k)) cs w)= .next (lone (b.atR a k) cs w):=
  fun a w=>step_lone_go (by simp [stepG,stepG.exec,Frame.atR])
 have h0:(lone (b.atR a (.code (.scope c)::k)) cs w).fenced P F:=fenced_calm hb hr rfl;obtain⟨e,a₁,w₁,hq,harr⟩:=h b (.inScope c::k) cs hro hb hr;cases e with
 |normal=>exact⟨.normal,a₁,w₁,hq,.head h0 s0<|StepsIn.trans harr<|.one (fenced_calm hb hr rfl)<|s1 _ _⟩
 |exit id=>
  have hx:exitTo id (.inScope c::k)=exitTo id k:=by simp [exitTo]
  exact⟨.exit id,a₁,w₁,hq,fun k' hk=> .head h0 s0 (harr.1 k' (by rw [hx];exact hk)),fun hr' hk=>let ⟨k₁,h1,h2⟩:=harr.2 hr' (by rw [hx];exact hk);⟨k₁,h1,.head h0 s0 h2⟩⟩
 |goto l=>exact absurd hq (hg _ _ _)
 |ret=>exact⟨_,a₁,w₁,hq,.of_steps (.one h0 s0) harr⟩
 |panic ch=>exact⟨_,a₁,w₁,hq,.of_steps (.one h0 s0) harr⟩
 |outgrown=>exact⟨_,a₁,w₁,hq,.of_steps (.one h0 s0) harr⟩
theorem tF(hI:Inv P B G s w){fr:Fr}{a:Act}(hE:eA G nt fr.env a.tmps){rd rb:Option Nat}(hrd:aB3 G rd rb){ps:Array Nat}{assign body:Code}{a_ bd:AC}
(hps:ps.toList.all (fun d=>Nat.blt d nt)=true)(ha:bJ P h assign=some a_)(hao:gA nt true a_=true)(hb:bJ P h body=some bd)(hbo:gA nt true bd=true)
{l:Nat}{mk:List dC}{s1:ASt}(hl:m8 rd ps.toList a_ bd fr s=some (l,mk,s1))(fn:FuncId)(hfn: ∃f,P.funcs[fn]?=some f):
  ∃bl mark w1 G1,(Instr.enterLoop fn a.tmps ps assign body rb).run P w= .ok (bl,mark) w1∧G.le G1∧Inv P B G1 s1 w1∧G1.L l=some bl∧iP G1 mk mark:=by
 have hEn: ∀{G1:Gh},G.le G1→ ∀i,R G1 (.v (fr.env i)<|a.tmps.getD i undef):=fun hle i=>(hE.2 i).mono hle;have hsz:=hE.1;cases rd with
 |none=>
  cases rb with
  |some b=>exact hrd.elim
  |none=>
   simp only [m8,Option.some.injEq,Prod.mk.injEq] at hl;obtain⟨rfl,rfl,rfl⟩:=hl;have hI1:=hI.p8 (.deferred<|some []) .z5 rfl;have hle1:G.le (G.lZ s.blks.length w.heap.size):=Gh.lF hI.aAm;have hle2:=Gh.lF (l:=s.blks.length+1) (b:=w.heap.size+1) (G:=G.lZ s.blks.length w.heap.size) (by
    have:=hI1.aAm;simpa using this)
   have hI2:=hI1.p8 (.loop {state:= .ready,pending:=none,fn,tmps:=a.tmps,params:=ps,assign,body,defers:=w.heap.size})
    (.loop {st:= .ready,pend:=none,env:=fr.env,dq:=s.blks.length,params:=ps.toList,assign:=a_,body:=bd}) ?_
   ·refine⟨w.heap.size+1,_,_,_,run_enterLoop_outer fn a.tmps ps assign body,hle1.trans hle2,?_,?_,?_⟩
    ·simpa using hI2
    ·simp [iB]
    ·exact .cons ⟨w.heap.size,rfl,hle2.L _ _ iB⟩ .nil
   ·refine⟨_,rfl,trivial,trivial,?_,rfl,?_,⟨h,ha,?_⟩,⟨h,hb,?_⟩,?_,hfn⟩
    ·have h2:=hEn (hle1.trans hle2);simpa using h2
    ·simpa [hsz] using hps
    ·simpa [hsz] using hao
    ·simpa [hsz] using hbo
    ·have:=hle2.L _ _ (iB (G:=G) (l:=s.blks.length) (b:=w.heap.size));simpa using this
 |some r=>
  cases rb with
  |none=>exact hrd.elim
  |some b=>
   simp only [m8] at hl;split at hl
   ·rename_i lp hlp;cases hl;obtain⟨o,ho,hok⟩:=hI.at hrd hlp;obtain⟨L0,rfl,hL0⟩:=hok;have hle1:G.le (G.lZ s.blks.length w.heap.size):=Gh.lF hI.aAm;have hI1:=hI.p8 (.loop {state:= .ready,pending:=none,fn,tmps:=a.tmps,params:=ps,assign,body,defers:=L0.defers})
     (.loop {st:= .ready,pend:=none,env:=fr.env,dq:=lp.dq,params:=ps.toList,assign:=a_,body:=bd}) ?_
    ·exact⟨w.heap.size,_,_,_,pK ho fn a.tmps ps assign body,hle1,hI1,iB,.nil⟩
    ·refine⟨_,rfl,trivial,trivial,hEn hle1,rfl,?_,⟨h,ha,?_⟩,⟨h,hb,?_⟩,hle1.L _ _ hL0.dq,hfn⟩
     ·simpa [hsz] using hps
     ·simpa [hsz] using hao
     ·simpa [hsz] using hbo
   ·cases hl
theorem Inv.fM(hI:Inv P B G s w){l b:Nat}(hL:G.L l=some b){lp lp':mN}(hb:s.blks[l]?=some (.loop lp)){L L':Loop}(ho:w.heap[b]?=some (.loop L))(hk:sO P G lp' L'):
  Inv P B G {s with blks:=s.blks.set l (.loop lp')} (w.putObj b<|.loop L'):=
 hI.put hL ⟨L',rfl,hk⟩ fun j x hx=>by
  have:=hI.m b j x hx;simp [World.cell?,ho] at this
theorem yI.lM{ex:cY}{e:Exit}(h:yI G ex e)(hn:ex= .normal):e= .normal:=by
 subst hn;cases e<;>first|rfl|exact h.elim
theorem yI.n9{ex:cY}{e:Exit}(h:yI G ex e)(hn:ex≠ .normal):e≠ .normal:=by
 rintro rfl;cases ex<;>first|exact hn rfl|exact h.elim
theorem lR{K:Act→World→Prop}{Q:Exit→Act→World→Prop}{e:Exit}{a:Act}{w:World}(hn:e≠ .normal)(h:Q e a w):Exit.then K Q e a w:=by
 cases e<;>first|exact absurd rfl hn|exact h
theorem u3{a:Act}{g:Operand}{fn:Fn}{fa fb:Array Value}(hv:a.eval g= .func fn fa fb){bl:Nat}(w:World):
  (resolve a.eval (rangeCall g bl) 0).run P w= .ok {target:= .fn fn fb,args:=fa++ #[.func (.yield bl) #[] #[]]} w:=by
 have h:=iH (P:=P) (ρ:=a.eval) (c:=rangeCall g bl) rfl hv 0 w;have h1:(rangeCall g bl).args.map a.eval= #[.func (.yield bl) #[] #[]]:=by simp [rangeCall,Act.eval]
 rw [h1] at h;exact h
theorem wG(hP:POk P P')(hH:HOk P P' H){lf:Nat}{rd rb:Option Nat}: ∀(code:Code){c:AC}{nt:Nat}{B:Bs}{G:Gh}{fr:Fr}{s:ASt}{a:Act}{w:World}{r:CR},
  bJ P h code=some c→gA nt rb.isSome c=true→evC H P' rd lf c fr s=some r→
  Inv P B G s w→eA G nt fr.env a.tmps→cS P' G→iP G fr.ds a.defers→aB3 G rd rb→code.wpIn (FR P rb) 0 P (CQ P B nt G r.ex r.fr r.s) a w:=by
 intro code
 induction code with
 |skip=>
  intro c nt B G fr s a w r hk hok hev hI hE hG hD hR;simp only [bJ,Option.some.injEq] at hk;subst hk;simp only [evC,Option.some.injEq] at hev;subst hev;exact wpIn_skip ⟨G,.refl _,hI,hE,hD,trivial⟩
 |label l=>
  intro c nt B G fr s a w r hk hok hev hI hE hG hD hR;simp only [bJ,Option.some.injEq] at hk;subst hk;simp only [evC,Option.some.injEq] at hev;subst hev;exact wpIn_label ⟨G,.refl _,hI,hE,hD,trivial⟩
 |ret=>
  intro c nt B G fr s a w r hk hok hev hI hE hG hD hR;simp only [bJ,Option.some.injEq] at hk;subst hk;simp only [evC,Option.some.injEq] at hev;subst hev;exact wpIn_ret ⟨G,.refl _,hI,hE,hD,trivial⟩
 |exit id=>
  intro c nt B G fr s a w r hk hok hev hI hE hG hD hR;simp only [bJ,Option.some.injEq] at hk;subst hk;simp only [evC,Option.some.injEq] at hev;subst hev;exact wpIn_exit ⟨G,.refl _,hI,hE,hD,rfl⟩
 |goto l=>intro c nt B G fr s a w r hk;simp [bJ] at hk
 |refuse y=>intro c nt B G fr s a w r hk;simp [bJ] at hk
 |scope b ih=>
  intro c nt B G fr s a w r hk hok hev hI hE hG hD hR;simp only [bJ,Option.map_eq_some_iff] at hk;obtain⟨cb,hb,rfl⟩:=hk;simp only [evC] at hev;simp only [gA] at hok;refine aAt (fun l a w hq=> ?_)<|ih hb hok hev hI hE hG hD hR;obtain⟨_,_,_,_,_,hX⟩:=hq;cases hx:r.ex<;>rw [hx] at hX<;>exact hX.elim
 |region id all draw=>
  intro c nt B G fr s a w r hk hok hev hI hE hG hD hR;have hk':=hk;simp only [bJ] at hk';split at hk'
  ·cases hk'
  simp only [Option.map_eq_some_iff] at hk';obtain⟨ops,_,hc⟩:=hk';have hi:RI P B P' nt [] fr s a w G B:=⟨.refl _,hI,.nil,hE,hG,hD⟩
  split at hc
  ·subst hc;simp only [evC] at hev;split at hev
   ·rename_i fr' s' hr;split at hev
    ·rename_i hdj;cases hev;exact aAo hP.mixed hH hP.kA hk hok hi hr hdj
    ·cases hev
   ·cases hev
  subst hc;simp only [evC] at hev;split at hev
  ·rename_i fr' s' hr;cases hev;exact uG hP.mixed hH hP.kA hk hok hi hr
  ·rename_i v fr' s' hr;cases hev;exact uG hP.mixed hH hP.kA hk hok hi hr
  ·cases hev
 |seq x y ihx ihy=>
  intro c nt B G fr s a w r hk hok hev hI hE hG hD hR;simp only [bJ] at hk;split at hk
  ·rename_i cx cy hx hy;cases hk;simp only [gA,Bool.and_eq_true] at hok;simp only [evC] at hev;cases hr1:evC H P' rd lf cx fr s with
   |none=>rw [hr1] at hev;cases hev
   |some r1=>
    rw [hr1] at hev;simp only at hev;refine wpIn_seq<|wpIn_mono (ihx hx hok.1 hr1 hI hE hG hD hR) fun e a1 w1 hq=> ?_;obtain⟨G1,hle,hI1,hE1,hD1,hX⟩:=hq;by_cases hn:r1.ex= .normal
    ·have he:=hX.lM hn;subst he;rw [hn] at hev;exact wpIn_mono (ihy hy hok.2 hev hI1 hE1 (hG.mono hle) hD1<|hR.mono hle) fun e a w h=>h.le hle
    ·refine lR (hX.n9 hn) ?_;have:r1=r:=by
      revert hev
      cases hq:r1.ex with
      |normal=>exact absurd hq hn
      |_=>simp
     subst this;exact⟨G1,hle,hI1,hE1,hD1,hX⟩
  ·cases hk
 |cond co x y ihx ihy=>
  intro c nt B G fr s a w r hk hok hev hI hE hG hD hR;simp only [bJ] at hk;split at hk
  ·rename_i ac cx cy hc hx hy;cases hk;simp only [gA,Bool.and_eq_true] at hok;simp only [evC] at hev;have hro:=(lO hE hG).out _ _ hc;split at hev
   ·rename_i b hb;rw [hb] at hro;generalize hv:a.eval co=v at hro;cases hro;cases b with
    |true=>exact wpIn_cond_true hv (ihx hx hok.1 hev hI hE hG hD hR)
    |false=>exact wpIn_cond_false hv (ihy hy hok.2 hev hI hE hG hD hR)
   ·cases hev
  ·cases hk
 |block id b ih=>
  intro c nt B G fr s a w r hk hok hev hI hE hG hD hR;simp only [bJ,Option.map_eq_some_iff] at hk;obtain⟨cb,hb,rfl⟩:=hk;simp only [gA] at hok;simp only [evC] at hev;cases hr1:evC H P' rd lf cb fr s with
  |none=>rw [hr1] at hev;cases hev
  |some r1=>
   rw [hr1] at hev;simp only at hev;refine wpIn_block<|wpIn_mono (ih hb hok hr1 hI hE hG hD hR) fun e a1 w1 hq=> ?_;obtain⟨G1,hle,hI1,hE1,hD1,hX⟩:=hq
   revert hev hX
   cases hex:r1.ex with
   |exit j=>
    simp only;intro hev hX;cases e<;>first|exact hX.elim|skip
    rename_i j';have hjj:j=j':=hX;subst hjj;cases hj:Nat.beq j id with
    |true=>
     rw [hj] at hev;cases hev;have:=Nat.eq_of_beq_eq_true hj;simp only [Exit.inBlock,this,if_true];exact⟨G1,hle,hI1,hE1,hD1,trivial⟩
    |false=>
     rw [hj] at hev;cases hev;have:j≠id:=fun q=>by subst q;simp at hj
     simp only [Exit.inBlock,this,if_false];exact⟨G1,hle,hI1,hE1,hD1,by rw [hex];rfl⟩
   |normal=>
    simp only [Option.some.injEq]
    rintro rfl hX
    cases e<;>first|exact hX.elim|skip
    exact⟨G1,hle,hI1,hE1,hD1,by rw [hex];exact hX⟩
   |ret=>
    simp only [Option.some.injEq]
    rintro rfl hX
    cases e<;>first|exact hX.elim|skip
    exact⟨G1,hle,hI1,hE1,hD1,by rw [hex];exact hX⟩
   |panic v=>
    simp only [Option.some.injEq]
    rintro rfl hX
    cases e<;>first|exact hX.elim|skip
    exact⟨G1,hle,hI1,hE1,hD1,by rw [hex];exact hX⟩
 |loop b ih=>
  intro c nt B G fr s a w r hk hok hev hI hE hG hD hR;simp only [bJ,Option.map_eq_some_iff] at hk;obtain⟨cb,hb,rfl⟩:=hk;simp only [gA] at hok;simp only [evC] at hev;refine wpIn_loop_rounds lf ?_;have key: ∀(n:Nat){G1:Gh}{fr:Fr}{s:ASt}{a:Act}{w:World},G.le G1→gQ (evC H P' rd lf cb) n fr s=some r→Inv P B G1 s w→eA G1 nt fr.env a.tmps→iP G1 fr.ds a.defers→
    Code.roundsIn (FR P rb) 0 P b (CQ P B nt G r.ex r.fr r.s) n a w:=by
   intro n
   induction n with
   |zero=>intro G1 fr s a w _ hev;simp [gQ] at hev
   |succ n ihn=>
    intro G1 fr s a w hle hev hI hE hD;simp only [gQ] at hev;cases hr1:evC H P' rd lf cb fr s with
    |none=>rw [hr1] at hev;cases hev
    |some r1=>
     rw [hr1] at hev;simp only at hev;rw [roundsIn_succ];refine wpIn_mono (ih hb hok hr1 hI hE (hG.mono hle) hD<|hR.mono hle) fun e a1 w1 hq=> ?_;obtain⟨G2,hle2,hI2,hE2,hD2,hX⟩:=hq;by_cases hn:r1.ex= .normal
     ·have he:=hX.lM hn;subst he;rw [hn] at hev;exact ihn (hle.trans hle2) hev hI2 hE2 hD2
     ·refine lR (hX.n9 hn) ?_;have:r1=r:=by
       revert hev
       cases hq:r1.ex with
       |normal=>exact absurd hq hn
       |_=>simp
      subst this;exact⟨G2,hle.trans hle2,hI2,hE2,hD2,hX⟩
  exact key lf (.refl _) hev hI hE hD
 |rangeFunc g ps a_ bd iha ihb=>
  intro c nt B G fr s a w r hk hok hev hI hE hG hD hR;simp only [bJ] at hk;split at hk
  ·rename_i cg ca cb hg ha hb;cases hk;simp only [gA,Bool.and_eq_true] at hok;simp only [evC] at hev;split at hev
   ·rename_i l mk s1 gf x y hlay hfv;split at hev
    ·
     rename_i v s2 hbody hcall;split at hev
     ·rename_i lp hlp;refine wpIn_rangeFunc fun fn hfnv=> ?_;obtain⟨bl,mark,w1,G1,hrun,hle1,hI1,hL1,hD1⟩:=tF hI hE hR hok.1.1 ha hok.1.2 hb hok.2 hlay fn hfnv;have hrf:=((lO hE hG).out _ _ hg).mono hle1;rw [hfv] at hrf;generalize hxv:a.eval g=xv at hrf;cases hrf with
      | @func _ _ _ fa fb hfa hfb=>
      have hargs:R G1 (.l (x++ .yield l::y) (fa++ .func (.yield bl) #[] #[]::fb)):=hfa.iL (.bK (.yield hL1) hfb);obtain⟨n,w1',hn1,hn2⟩:=hH.func gf _ _ _ _ hcall B G1 w1 _ hI1 (hG.mono hle1) hargs;simp only [wK,Bool.and_eq_true,Option.isSome_iff_exists] at hbody;obtain⟨af,haf⟩:=hbody.2;obtain⟨gfn,gh,hgf,hgc,_,hgn⟩:=hP.fn gf af haf;obtain⟨gc,hgb,_⟩:=oA hgc;rw [cG hgf hgb hgn] at hn1;cases hn1;refine⟨bl,mark,w1,{target:= .fn (.func gf) fb.toArray,args:=fa.toArray++ #[.func (.yield bl) #[] #[]]},w1,gf,(fa++ .func (.yield bl) #[] #[]::fb).toArray,w1,hrun,?_,(by intro f' hf';simp only [Target.leads,Option.some.injEq] at hf';subst hf';exact⟨_,hgf⟩),?_,by simp [FR,FV],rK<|hn2.mono ?_⟩
      ·exact u3 hxv w1
      ·have:=cG hgf hgb hgn ((fa++ .func (.yield bl) #[] #[]::fb).toArray) w1;simpa [invoke] using this
      ·rintro e w2 ⟨G2,hle2,hI2,hres⟩
       cases e with
       |panicked chain=>exact hres.elim
       |outgrown=>exact hres.elim
       |returned xr=>
        have hL2:=hle2.L _ _ hL1;obtain⟨o,ho,hok2⟩:=hI2.at hL2 hlp;obtain⟨L,rfl,hLk⟩:=hok2;have hnb:L.state≠ .busy:=by
         intro hq;have:=hLk.st;rw [hq] at this
         revert hev
         cases hst:lp.st with
         |busy=>simp
         |_=>rw [hst] at this;exact this.elim
        have hI3:=hI2.fM (lp':={lp with st:= .exhausted}) (L':={L with state:= .exhausted}) hL2 hlp ho ⟨trivial,hLk.pend,hLk.env,hLk.params,hLk.pok,hLk.assign,hLk.body,hLk.dq,hLk.aAe⟩;refine⟨L.pending,_,run_endLoop ho hnb,?_⟩;have hr:r=⟨lp.pend.getD .normal,{fr with ds:=mk++fr.ds},{s2 with blks:=s2.blks.set l (.loop {lp with st:= .exhausted})}⟩:=by
         revert hev
         cases hst:lp.st with
         |busy=>simp
         |_=>simp only [Option.some.injEq];exact fun q=>q.symm
        subst hr;have hDs: ∀{a_ ds as' ds'},iP G2 a_ ds→iP G2 as' ds'→iP G2 (a_++as') (ds++ds'):=by
         intro a_ ds as' ds' h1 h2
         induction h1 with
         |nil=>exact h2
         |cons h _ ih=>exact .cons h ih
        have hD3:iP G2 (mk++fr.ds) (mark++a.defers):=hDs (hD1.mono hle2) (hD.mono<|hle1.trans hle2);have hE3:=hE.mono (hle1.trans hle2);have hp:=hLk.pend;cases hpa:lp.pend with
        |none=>
         rw [hpa] at hp hI3;cases hpl:L.pending with
         |some j=>rw [hpl] at hp;exact hp.elim
         |none=>rw [hpl] at hI3;exact⟨G2,hle1.trans hle2,hI3,hE3,hD3,trivial⟩
        |some ex=>
         rw [hpa] at hp hI3;cases hpl:L.pending with
         |none=>rw [hpl] at hp;cases ex<;>exact hp.elim
         |some j=>
          rw [hpl] at hp hI3;cases ex with
          |ret=>
           cases j<;>first|exact hp.elim|skip
           exact wpIn_ret ⟨G2,hle1.trans hle2,hI3,hE3,hD3,trivial⟩
          |exit i=>
           cases j<;>first|exact hp.elim|skip
           exact wpIn_exit ⟨G2,hle1.trans hle2,hI3,hE3,hD3,hp⟩
          |normal=>exact hp.elim
          |panic v=>exact hp.elim
     ·cases hev
    ·
     rename_i v s2 hbody hcall;cases hev;refine wpIn_rangeFunc fun fn hfnv=> ?_;obtain⟨bl,mark,w1,G1,hrun,hle1,hI1,hL1,hD1⟩:=tF hI hE hR hok.1.1 ha hok.1.2 hb hok.2 hlay fn hfnv;have hrf:=((lO hE hG).out _ _ hg).mono hle1;rw [hfv] at hrf;generalize hxv:a.eval g=xv at hrf;cases hrf with
     | @func _ _ _ fa fb hfa hfb=>
     have hargs:R G1 (.l (x++ .yield l::y) (fa++ .func (.yield bl) #[] #[]::fb)):=hfa.iL (.bK (.yield hL1) hfb);obtain⟨n,w1',hn1,hn2⟩:=hH.func gf _ _ _ _ hcall B G1 w1 _ hI1 (hG.mono hle1) hargs;simp only [wK,Bool.and_eq_true,Option.isSome_iff_exists] at hbody;obtain⟨af,haf⟩:=hbody.2;obtain⟨gfn,gh,hgf,hgc,_,hgn⟩:=hP.fn gf af haf;obtain⟨gc,hgb,_⟩:=oA hgc;rw [cG hgf hgb hgn] at hn1;cases hn1;refine⟨bl,mark,w1,{target:= .fn (.func gf) fb.toArray,args:=fa.toArray++ #[.func (.yield bl) #[] #[]]},w1,gf,(fa++ .func (.yield bl) #[] #[]::fb).toArray,w1,hrun,?_,(by intro f' hf';simp only [Target.leads,Option.some.injEq] at hf';subst hf';exact⟨_,hgf⟩),?_,by simp [FR,FV],rK<|hn2.mono ?_⟩
     ·exact u3 hxv w1
     ·have:=cG hgf hgb hgn ((fa++ .func (.yield bl) #[] #[]::fb).toArray) w1;simpa [invoke] using this
     ·rintro e w2 ⟨G2,hle2,hI2,hres⟩
      cases e with
      |returned v=>exact hres.elim
      |outgrown=>exact hres.elim
      |panicked chain=>
       have hDs: ∀{a_ ds as' ds'},iP G2 a_ ds→iP G2 as' ds'→iP G2 (a_++as') (ds++ds'):=by
        intro a_ ds as' ds' h1 h2
        induction h1 with
        |nil=>exact h2
        |cons h _ ih=>exact .cons h ih
       exact⟨G2,hle1.trans hle2,hI2,hE.mono<|hle1.trans hle2,hDs (hD1.mono hle2)<|hD.mono<|hle1.trans hle2,hres⟩
    ·cases hev
   ·cases hev
  ·cases hk
end
mutual
def dS (n:Nat):AV→Bool
 | .int .. | .bool .. | .str .. | .cB| .bQ| .cF| .a9| .fZ=>true
 | .slice _ xs _=>cX n xs
 | .bM l .. =>Nat.blt l n
 | .ptr l _| .yield l| .map l| .iter l=>Nat.blt l n
 | .agg cs=>cX n cs
 | .tuple vs=>cX n vs
 | .a8 v _=>dS n v
 | .func _ a b=>cX n a&&cX n b
 | .iface _ v=>dS n v
def cX (n:Nat):List AV→Bool
 | []=>true
 |x::xs=>dS n x&&cX n xs
end
mutual
def eB (n:Nat):AV→Bool
 | .int .. | .bool .. | .str .. | .cB| .bQ| .cF| .a9| .fZ| .bM .. | .ptr .. | .yield _| .map _| .iter _=>true
 | .slice _ xs o=>(match o with| .tok t=>Nat.blt t n|_=>true)&&cV n xs
 | .agg cs=>cV n cs
 | .tuple vs=>cV n vs
 | .a8 v _=>eB n v
 | .func _ a b=>cV n a&&cV n b
 | .iface _ v=>eB n v
def cV (n:Nat):List AV→Bool
 | []=>true
 |x::xs=>eB n x&&cV n xs
end
mutual
theorem rB (n:Nat): ∀v:AV,lV v=false→dS n v=true
 | .int ..,_| .bool ..,_| .str ..,_| .cB,_| .bQ,_| .cF,_| .a9,_| .fZ,_=>rfl
 | .slice _ xs _,h=>iG n xs (by simpa [lV] using h)
 | .bM ..,h| .ptr ..,h| .yield _,h| .map _,h| .iter _,h=>by simp [lV] at h
 | .agg cs,h=>iG n cs (by simpa [lV] using h)
 | .tuple vs,h=>iG n vs (by simpa [lV] using h)
 | .a8 v _,h=>rB n v (by simpa [lV] using h)
 | .func _ a b,h=>by
  simp only [lV,Bool.or_eq_false_iff] at h;simp [dS,iG n a h.1,iG n b h.2]
 | .iface _ v,h=>rB n v (by simpa [lV] using h)
theorem iG (n:Nat): ∀xs:List AV,eN xs=false→cX n xs=true
 | [],_=>rfl
 |x::xs,h=>by
  simp only [eN,Bool.or_eq_false_iff] at h;simp [cX,rB n x h.1,iG n xs h.2]
end
mutual
theorem rD (n:Nat): ∀v:AV,toks v=false→eB n v=true
 | .int ..,_| .bool ..,_| .str ..,_| .cB,_| .bQ,_| .cF,_| .a9,_| .fZ,_| .bM ..,_| .ptr ..,_| .yield _,_| .map _,_| .iter _,_=>rfl
 | .slice _ xs o,h=>by
  cases o with
  |tok t=>simp [toks] at h
  |no=>simpa [eB] using eX n xs (by simpa [toks] using h)
  |full=>simpa [eB] using eX n xs (by simpa [toks] using h)
  |lit=>simpa [eB] using eX n xs (by simpa [toks] using h)
 | .agg cs,h=>eX n cs (by simpa [toks] using h)
 | .tuple vs,h=>eX n vs (by simpa [toks] using h)
 | .a8 v _,h=>rD n v (by simpa [toks] using h)
 | .func _ a b,h=>by
  simp only [toks,Bool.or_eq_false_iff] at h;simp [eB,eX n a h.1,eX n b h.2]
 | .iface _ v,h=>rD n v (by simpa [toks] using h)
theorem eX (n:Nat): ∀xs:List AV,fJ xs=false→cV n xs=true
 | [],_=>rfl
 |x::xs,h=>by
  simp only [fJ,Bool.or_eq_false_iff] at h;simp [cV,rD n x h.1,eX n xs h.2]
end
def tR(n:Nat):eH→Prop
 | .cells cs _=>cX n cs=true
 | .map es=> ∀p∈es,dS n p.1=true∧dS n p.2=true
 | .loop lp=>(∀i,dS n (lp.env i)=true)∧lp.dq<n
 |_=>True
def tY(n:Nat):eH→Prop
 | .cells cs _=>cV n cs=true
 | .map es=> ∀p∈es,eB n p.1=true∧eB n p.2=true
 | .loop lp=> ∀i,eB n (lp.env i)=true
 |_=>True
structure Low(s s':ASt):Prop where
 qY:s.blks.length≤s'.blks.length
 qV:s.toks.length≤s'.toks.length
 B: ∀n,n≤s.blks.length→cW n s'.lowB=false→cW n s.lowB=false∧ ∀l k',l<n→s'.blks[l]?=some k'→ ∀k,s.blks[l]?=some k→tR n k→tR n k'
 T: ∀n,n≤s.blks.length→cW n s'.lowT=false→cW n s.lowT=false∧ ∀m l k',l<n→s'.blks[l]?=some k'→ ∀k,s.blks[l]?=some k→tY m k→tY m k'
theorem Low.refl(s:ASt):Low s s:=⟨Nat.le_refl _,Nat.le_refl _,fun _ _ h=>⟨h,fun _ _ _ h1 _ h2 h=>by rw [h1] at h2;cases h2;exact h⟩,fun _ _ h=>⟨h,fun _ _ _ _ h1 _ h2 h=>by rw [h1] at h2;cases h2;exact h⟩⟩
theorem Low.trans{a b c:ASt}(h:Low a b)(k:Low b c):Low a c where
 qY:=Nat.le_trans h.qY k.qY
 qV:=Nat.le_trans h.qV k.qV
 B:=fun n hn hl=>by
  obtain⟨h1,h2⟩:=k.B n (Nat.le_trans hn h.qY) hl;obtain⟨h3,h4⟩:=h.B n hn h1;refine⟨h3,fun l k' hl hk' k0 hk0 hb=> ?_⟩;have hlb:l<b.blks.length:=Nat.lt_of_lt_of_le (Nat.lt_of_lt_of_le hl hn) h.qY;exact h2 l k' hl hk' _ (List.getElem?_eq_getElem hlb) (h4 l _ hl (List.getElem?_eq_getElem hlb) k0 hk0 hb)
 T:=fun n hn hl=>by
  obtain⟨h1,h2⟩:=k.T n (Nat.le_trans hn h.qY) hl;obtain⟨h3,h4⟩:=h.T n hn h1;refine⟨h3,fun m l k' hl hk' k0 hk0 hb=> ?_⟩;have hlb:l<b.blks.length:=Nat.lt_of_lt_of_le (Nat.lt_of_lt_of_le hl hn) h.qY;exact h2 m l k' hl hk' _ (List.getElem?_eq_getElem hlb) (h4 m l _ hl (List.getElem?_eq_getElem hlb) k0 hk0 hb)
theorem Low.append{s:ASt}(ks:List eH)(ts:List Nat):Low s {s with blks:=s.blks++ks,toks:=s.toks++ts} where
 qY:=by simp
 qV:=by simp
 B:=fun n hn hl=>⟨hl,fun l k' h1 h2 k h3 h=>by rw [List.getElem?_append_left (by omega),h3] at h2;cases h2;exact h⟩
 T:=fun n hn hl=>⟨hl,fun m l k' h1 h2 k h3 h=>by rw [List.getElem?_append_left (by omega),h3] at h2;cases h2;exact h⟩
theorem Low.set{s:ASt}{l:Nat}{k1 k2:eH}(h:s.blks[l]?=some k1)(hB: ∀n,tR n k1→tR n k2)(hT: ∀n,tY n k1→tY n k2):Low s {s with blks:=s.blks.set l k2} where
 qY:=by simp
 qV:=Nat.le_refl _
 B:=fun n hn hl=>⟨hl,fun j k' h1 h2 k h3 hb=>by
  by_cases q:l=j
  ·subst q;rw [h] at h3;cases h3;have hlt:l<s.blks.length:=(List.getElem?_eq_some_iff.1 h).1;rw [List.getElem?_set_self hlt] at h2;cases h2;exact hB _ hb
  ·rw [List.getElem?_set_ne q,h3] at h2;cases h2;exact hb⟩
 T:=fun n hn hl=>⟨hl,fun m j k' h1 h2 k h3 hb=>by
  by_cases q:l=j
  ·subst q;rw [h] at h3;cases h3;have hlt:l<s.blks.length:=(List.getElem?_eq_some_iff.1 h).1;rw [List.getElem?_set_self hlt] at h2;cases h2;exact hT _ hb
  ·rw [List.getElem?_set_ne q,h3] at h2;cases h2;exact hb⟩
theorem xW{b:Bool}{l n:Nat}{o:Option Nat}(h:cW n (low b l o)=false):cW n o=false∧(l<n→b=false):=by
 unfold low at h;cases o with
 |none=>
  cases b with
  |true=>simp [cW] at h;exact⟨rfl,fun q=>by omega⟩
  |false=>exact⟨rfl,fun _=>rfl⟩
 |some m=>
  cases b with
  |true=>simp [cW] at h⊢;omega
  |false=>exact⟨h,fun _=>rfl⟩
theorem Low.fC{s:ASt}{l:Nat}{k1 k2:eH}{cs:List AV}(h:s.blks[l]?=some k1)(hB: ∀n,cX n cs=true→tR n k1→tR n k2)(hT: ∀n,cV n cs=true→tY n k1→tY n k2):
  Low s (Fw.fC s l cs (s.blks.set l k2)) where
 qY:=by simp [Fw.fC]
 qV:=Nat.le_refl _
 B:=fun n hn hl=>by
  obtain⟨h1,h2⟩:=xW hl;refine⟨h1,fun j k' hj hk' k hk hb=> ?_⟩;simp only [Fw.fC] at hk';by_cases q:l=j
  ·subst q;rw [h] at hk;cases hk;have hlt:l<s.blks.length:=(List.getElem?_eq_some_iff.1 h).1;rw [List.getElem?_set_self hlt] at hk';cases hk';exact hB _ (iG _ _ (h2 hj)) hb
  ·rw [List.getElem?_set_ne q,hk] at hk';cases hk';exact hb
 T:=fun n hn hl=>by
  obtain⟨h1,h2⟩:=xW hl;refine⟨h1,fun m j k' hj hk' k hk hb=> ?_⟩;simp only [Fw.fC] at hk';by_cases q:l=j
  ·subst q;rw [h] at hk;cases hk;have hlt:l<s.blks.length:=(List.getElem?_eq_some_iff.1 h).1;rw [List.getElem?_set_self hlt] at hk';cases hk';exact hT _ (eX _ _ (h2 hj)) hb
  ·rw [List.getElem?_set_ne q,hk] at hk';cases hk';exact hb
theorem lC{n:Nat}: ∀{xs ys:List AV},cX n (xs++ys)=(cX n xs&&cX n ys)
 | [],ys=>by simp [cX]
 |x::xs,ys=>by simp [cX,lC (xs:=xs),Bool.and_assoc]
theorem lE{n:Nat}: ∀{xs ys:List AV},cV n (xs++ys)=(cV n xs&&cV n ys)
 | [],ys=>by simp [cV]
 |x::xs,ys=>by simp [cV,lE (xs:=xs),Bool.and_assoc]
theorem vF{n:Nat}{xs ys:List AV}(h: ∀x∈ys,x∈xs)(k:cX n xs=true):cX n ys=true:=by
 have h1: ∀{l:List AV},cX n l=true↔ ∀x∈l,dS n x=true:=by
  intro l;induction l with
  |nil=>simp [cX]
  |cons a l ih=>simp [cX,ih]
 rw [h1] at*;exact fun x hx=>k x (h x hx)
theorem uW{n:Nat}{xs ys:List AV}(h: ∀x∈ys,x∈xs)(k:cV n xs=true):cV n ys=true:=by
 have h1: ∀{l:List AV},cV n l=true↔ ∀x∈l,eB n x=true:=by
  intro l;induction l with
  |nil=>simp [cV]
  |cons a l ih=>simp [cV,ih]
 rw [h1] at*;exact fun x hx=>k x (h x hx)
theorem k7{n:Nat}{cs ds:List AV}{off:Nat}(h:cX n cs=true)(k:cX n ds=true):cX n (a0 cs off ds)=true:=by
 unfold a0;rw [lC,lC,Bool.and_eq_true,Bool.and_eq_true];exact⟨⟨vF (fun x hx=>List.mem_of_mem_take hx) h,k⟩,vF (fun x hx=>List.mem_of_mem_drop hx) h⟩
theorem kZ{n:Nat}{cs ds:List AV}{off:Nat}(h:cV n cs=true)(k:cV n ds=true):cV n (a0 cs off ds)=true:=by
 unfold a0;rw [lE,lE,Bool.and_eq_true,Bool.and_eq_true];exact⟨⟨uW (fun x hx=>List.mem_of_mem_take hx) h,k⟩,uW (fun x hx=>List.mem_of_mem_drop hx) h⟩
theorem tB{k v:AV}: ∀{es es':List (AV×AV)},wC k v es=some es'→ ∀p∈es',p=(k,v)∨p∈es
 | [],es',h=>by simp [wC] at h;subst h;simp
 |(a,u)::rest,es',h=>by
  simp only [wC] at h;split at h
  ·cases h;intro p hp;rcases List.mem_cons.1 hp with rfl|hp
   ·exact .inl rfl
   ·exact .inr (by simp [hp])
  ·split at h
   ·rename_i r hr;cases h;intro p hp;rcases List.mem_cons.1 hp with rfl|hp
    ·exact .inr (by simp)
    ·rcases tB hr p hp with q|q
     ·exact .inl q
     ·exact .inr (by simp [q])
   ·cases h
  ·cases h
theorem u0{kk:KK}{k:AV}(h:keyOf kk k=true)(n:Nat):dS n k=true∧eB n k=true:=by
 cases kk<;>cases k<;>simp [keyOf] at h<;>exact⟨rfl,rfl⟩
section
variable {P : aK} {e : Env} {s s1 : ASt} {v : AV}
theorem aC5{op:AOp}(h:cA P e s op=some (v,s1)):Low s s1:=by
 cases op with
 |box x=>
  simp only [cA] at h;split at h
  ·cases h;simpa using Low.append (s:=s) [_] []
  ·cases h
 |alloc z=>simp only [cA] at h;cases h;simpa using Low.append (s:=s) [_] []
 |store sz a x=>
  simp only [cA] at h;split at h
  ·split at h
   ·rename_i l off _ cs hb;split at h
    ·cases h;exact Low.fC hb (fun n h1 h2=>k7 h2 h1) (fun n h1 h2=>kZ h2 h1)
    ·cases h
   ·cases h
  ·cases h
 |mkMap=>simp only [cA] at h;cases h;simpa using Low.append (s:=s) [_] []
 |mkSlice esz bytes z l c=>
  simp only [cA] at h;split at h
  ·split at h
   ·cases h;simpa using Low.append (s:=s) [_] []
   ·cases h
  ·cases h
 |kC kk m k x=>
  simp only [cA] at h;split at h
  ·split at h
   ·rename_i l xv _ hx es hb;split at h
    ·rename_i hkey;split at h
     ·rename_i es' hp;cases h;refine Low.fC hb (fun n h1 h2=> ?_) (fun n h1 h2=> ?_)
      ·intro p hp';rcases tB hp p hp' with q|q
       ·rw [q];exact⟨(u0 hkey n).1,by simpa [cX] using h1⟩
       ·exact h2 p q
      ·intro p hp';rcases tB hp p hp' with q|q
       ·rw [q];exact⟨(u0 hkey n).2,by simpa [cV] using h1⟩
       ·exact h2 p q
     ·cases h
    ·cases h
   ·cases h
  ·cases h
 |gH x=>
  simp only [cA] at h;split at h
  ·cases h;simpa using Low.append (s:=s) [_] []
  ·cases h
 |iE it=>
  simp only [cA] at h;split at h
  ·split at h
   ·rename_i l _ t pos hb;split at h
    ·cases h;exact Low.set hb (fun _ _=>trivial) (fun _ _=>trivial)
    ·cases h;exact .refl _
   ·cases h
  ·cases h
 |append tk esz bytes a x=>
  simp only [cA] at h;split at h
  ·cases h
  split at h
  ·split at h
   ·cases h;exact .refl _
   ·cases h;exact .refl _
   ·cases h
  ·split at h
   ·split at h
    ·split at h
     ·cases h;simpa using Low.append (s:=s) [] [_]
     ·cases h;simpa using Low.append (s:=s) [] [_]
     ·split at h
      ·split at h
       ·cases h;exact⟨Nat.le_refl _,by simp,(Low.refl s).B,(Low.refl s).T⟩
       ·cases h
      ·cases h
     ·cases h
    ·cases h
   ·split at h
    ·split at h
     ·split at h
      ·rename_i hb;split at h
       ·cases h;exact Low.fC hb (fun n h1 h2=>k7 h2 h1) (fun n h1 h2=>kZ h2 h1)
       ·cases h
      ·cases h
     ·split at h
      ·cases h;simpa using Low.append (s:=s) [] [_]
      ·cases h
    ·cases h
   ·cases h
  ·cases h
 |copy esz d x=>
  simp only [cA] at h;split at h
  ·split at h
   ·rename_i hb;split at h
    ·cases h;exact Low.fC hb (fun n h1 h2=>k7 h2 h1) (fun n h1 h2=>kZ h2 h1)
    ·cases h
   ·cases h
  ·cases h
 |_=>simp [cA] at h
theorem y0{a a':AV}(h:xN s a=some (a',s1)):Low s s1:=by
 unfold xN at h;split at h
 ·split at h
  ·rename_i hb;cases h;exact Low.set hb (fun _ h=>h) (fun _ h=>h)
  ·cases h
 ·split at h
  ·cases h;exact .refl _
  ·cases h
theorem nG: ∀{a_ as':List AV}{s s1:ASt},lP s a_=some (as',s1)→Low s s1
 | [],as',s,s1,h=>by simp [lP] at h;rw [←h.2];exact .refl _
 |a::a_,as',s,s1,h=>by
  simp only [lP] at h;split at h
  ·cases h
  ·rename_i y s2 hy;split at h
   ·cases h
   ·rename_i ys s3 hys;cases h;exact(y0 hy).trans (nG hys)
structure aDE(H:Handler):Prop where
 call: ∀g args s r s',H.call g args s=some (r,s')→Low s s'
 dcall: ∀f args m s m' s',H.dcall f args m s=some (m',s')→Low s s'
variable {H : Handler} (hH : aDE H)
def aFr:gW→ASt
 | .norm _ s=>s
 | .pan _ _ s=>s
include hH in
theorem dK: ∀{is:List AI}{pd:List (Nat×Nat)}{fr:Fr}{s:ASt}{r:gW},aM H P is pd fr s=some r→Low s (aFr r)
 | [],pd,fr,s,r,h=>by simp [aM] at h;subst h;exact .refl _
 |i::rest,pd,fr,s,r,h=>by
  obtain⟨d,op,gd,pre⟩:=i;simp only [aM] at h;split at h
  ·cases h
  ·split at h
   ·exact dK h
   ·cases h
  ·cases op with
   |pend z=>simp only at h;split at h<;>first|exact dK h|cases h
   |shut d' sz x=>
    simp only at h;split at h
    ·split at h
     ·exact dK h
     ·cases h
    ·cases h
   |defer f args=>simp only at h;split at h<;>first|exact dK h|cases h
   |panic x=>simp only at h;split at h<;>cases h;exact .refl _
   |aI st f args=>
    simp only at h;split at h
    ·split at h
     ·split at h
      ·split at h
       ·exact dK h
       ·cases h
      ·cases h
     ·cases h
    ·cases h
   |call f args=>
    simp only at h;split at h
    ·rename_i hvs;split at h
     ·rename_i hc;exact((nG hvs).trans (hH.call _ _ _ _ _ hc)).trans (dK h)
     ·rename_i hc;cases h;exact(nG hvs).trans (hH.call _ _ _ _ _ hc)
     ·cases h
    ·cases h
   |_=>
    simp only at h;split at h
    ·exact dK h
    ·split at h
     ·exact dK h
     ·split at h
      ·rename_i hw;exact(aC5 hw).trans (dK h)
      ·cases h
theorem qO{rd:Option Nat}{ps:List Nat}{a_ bd:AC}{fr:Fr}{l:Nat}{mk:List dC}(h:m8 rd ps a_ bd fr s=some (l,mk,s1)):Low s s1:=by
 unfold m8 at h;split at h
 ·cases h;simpa using Low.append (s:=s) [_,_] []
 ·split at h
  ·cases h;simpa using Low.append (s:=s) [_] []
  ·cases h
theorem uT{step:Fr→ASt→Option CR}(hs: ∀fr s r,step fr s=some r→Low s r.s): ∀{n:Nat}{fr:Fr}{s:ASt}{r:CR},gQ step n fr s=some r→Low s r.s
 |0,_,_,_,h=>by simp [gQ] at h
 |n+1,fr,s,r,h=>by
  simp only [gQ] at h;split at h
  ·rename_i r1 h1;split at h
   ·exact(hs _ _ _ h1).trans (uT hs h)
   ·cases h;exact hs _ _ _ h1
  ·cases h
include hH in
theorem nB{lf:Nat}{rd:Option Nat}: ∀(c:AC){fr:Fr}{s:ASt}{r:CR},evC H P rd lf c fr s=some r→Low s r.s:=by
 intro c
 induction c with
 |skip=>intro fr s r h;simp only [evC,Option.some.injEq] at h;subst h;exact .refl _
 |ret=>intro fr s r h;simp only [evC,Option.some.injEq] at h;subst h;exact .refl _
 |exit id=>intro fr s r h;simp only [evC,Option.some.injEq] at h;subst h;exact .refl _
 |scope b ih=>intro fr s r h;simp only [evC] at h;exact ih h
 |reg dr ops=>
  intro fr s r h;simp only [evC] at h;split at h
  ·rename_i ho;cases h;exact dK hH ho
  ·rename_i ho;cases h;exact dK hH ho
  ·cases h
 |yJ ops=>
  intro fr s r h;simp only [evC] at h;split at h
  ·rename_i ho;split at h
   ·cases h;exact dK hH ho
   ·cases h
  ·cases h
 |seq a b iha ihb=>
  intro fr s r h;simp only [evC] at h;split at h
  ·rename_i r1 h1;split at h
   ·exact(iha h1).trans (ihb h)
   ·cases h;exact iha h1
  ·cases h
 |cond c t e iht ihe=>
  intro fr s r h;simp only [evC] at h;split at h
  ·split at h
   ·exact iht h
   ·exact ihe h
  ·cases h
 |block id b ih=>
  intro fr s r h;simp only [evC] at h;split at h
  ·rename_i r1 h1;split at h
   ·have hl:=ih h1;split at h<;>cases h<;>exact hl
   ·cases h;exact ih h1
  ·cases h
 |loop b ih=>intro fr s r h;simp only [evC] at h;exact uT (fun _ _ _ h=>ih h) h
 |pR f ps a_ bd iha ihb=>
  intro fr s r h;simp only [evC] at h;split at h
  ·rename_i hl _;split at h
   ·rename_i hc;split at h
    ·rename_i lp hlp;split at h
     ·cases h
     ·cases h;exact((qO hl).trans (hH.call _ _ _ _ _ hc)).trans (Low.set hlp (fun _ h=>h) (fun _ h=>h))
    ·cases h
   ·rename_i hc;cases h;exact(qO hl).trans (hH.call _ _ _ _ _ hc)
   ·cases h
  ·cases h
theorem qT{l:Nat}{f:mN→mN}(hf: ∀lp,(f lp).env=lp.env∧(f lp).dq=lp.dq)(h:fM s l f=some s1):Low s s1:=by
 unfold fM at h;split at h
 ·rename_i lp hlp;cases h;refine Low.set hlp (fun n h=> ?_) (fun n h=> ?_)
  ·simp only [tR,(hf lp).1,(hf lp).2] at h⊢;exact h
  ·simp only [tY,(hf lp).1] at h⊢;exact h
 ·cases h
theorem wJ{l:Nat}(h:jL s l=some s1):Low s s1:=by
 unfold jL at h;split at h
 ·rename_i lp hlp;split at h
  ·cases h;exact Low.set hlp (fun _ h=>h) (fun _ h=>h)
  ·cases h
 ·cases h
include hH in
theorem zW{lf l:Nat}{args:List AV}{r:jT}{s':ASt}(h:mH H P lf l args s=some (r,s')):Low s s':=by
 unfold mH at h;split at h
 ·split at h
  ·split at h
   ·rename_i e1 s1 h1;split at h
    ·rename_i s2 h2;split at h
     ·rename_i ex _ s3 h3;have h12:=((nB hH _ h1).trans (wJ h2)).trans (nB hH _ h3);split at h
      ·cases h;exact h12
      ·split at h
       ·rename_i h4;cases h;exact h12.trans (qT (f:=fun lp=>{lp with st:= .ready,pend:=none}) (fun _=>⟨rfl,rfl⟩) h4)
       ·cases h
      ·split at h
       ·rename_i h4;cases h;exact h12.trans (qT (f:=fun lp=>{lp with st:= .done,pend:=some ex}) (fun _=>⟨rfl,rfl⟩) h4)
       ·cases h
     ·cases h
    ·cases h
   ·cases h
  ·cases h
 ·cases h
include hH in
theorem jD: ∀{ds:List dC}{m m':DM}{s s':ASt},iU H ds m s=some (m',s')→Low s s'
 | [],m,m',s,s',h=>by simp [iU] at h;rw [←h.2];exact .refl _
 | .mark l::ds,m,m',s,s',h=>by
  simp only [iU] at h;split at h
  ·rename_i hl;exact(Low.set (s:=s) (k2:= .dead) hl (fun _ _=>trivial) (fun _ _=>trivial)).trans (jD h)
  ·cases h
 | .call f args::ds,m,m',s,s',h=>by
  simp only [iU] at h;split at h
  ·rename_i hc;exact(hH.dcall _ _ _ _ _ _ hc).trans (jD h)
  ·cases h
theorem s6{vs:List AV}(h:mA s vs=some (v,s1)):Low s s1:=by
 unfold mA at h;split at h
 ·cases h;exact .refl _
 ·exact y0 h
 ·split at h
  ·rename_i hf;cases h;exact nG hf
  ·cases h
theorem pW{n:Nat}{a b:Option Nat}(h:cW n (z3 a b)=false):cW n a=false∧cW n b=false:=by
 cases a<;>cases b<;>simp [z3,cW] at h⊢ <;>omega
theorem rF{n m:Nat}{a:Option Nat}(hn:n≤m)(h:cW m a=false):cW n a=false:=by
 cases a<;>simp [cW] at h⊢;omega
theorem pG{n m:Nat}{a b:Option Nat}(hn:n≤m)(h:cW n (oS m a b)=false):cW n a=false∧cW n b=false:=by
 unfold oS at h;split at h
 ·exact pW h
 ·rename_i hb;exact⟨h,rF hn hb⟩
theorem Low.cK{s s':ASt}{d:Bool}(h:Low (aV s) s'):s.blks.length≤(cK s d s').blks.length∧(cK s d s').toks=s'.toks∧(cK s d s').lowT=s'.lowT∧
  (∀l,l<s.blks.length→(cK s d s').blks[l]?=s'.blks[l]?)∧ ∀n,n≤s.blks.length→cW n (cK s d s').lowB=false→cW n s.lowB=false∧cW n s'.lowB=false:=by
 have hlen:s.blks.length≤s'.blks.length:=h.qY;unfold Fw.cK;split
 ·exact⟨hlen,rfl,rfl,fun _ _=>rfl,fun n hn hl=>pG hn hl⟩
 ·split
  ·exact⟨hlen,rfl,rfl,fun _ _=>rfl,fun n hn hl=>pW hl⟩
  ·rename_i hd;simp only [Bool.or_eq_false_iff] at hd;refine⟨by simp [hlen],rfl,rfl,fun l hl=> ?_,fun n hn hl=>⟨hl,rF hn hd.1⟩⟩;simp only;rw [List.getElem?_take_of_lt hl]
theorem aBl{s s':ASt}{d:Bool}(hlen:s.toks.length≤s'.toks.length):s.toks.length≤(eE s d s').toks.length∧(eE s d s').blks=s'.blks∧(eE s d s').lowB=s'.lowB∧
  ∀n,n≤s.blks.length→cW n (eE s d s').lowT=false→cW n s.lowT=false∧cW n s'.lowT=false:=by
 unfold Fw.eE;split
 ·exact⟨hlen,rfl,rfl,fun n hn hl=>pG hn hl⟩
 ·split
  ·rename_i hc;simp only [yQ,Bool.and_eq_true,Bool.not_eq_true',Bool.or_eq_false_iff] at hc;exact⟨by simp [hlen],rfl,rfl,fun n hn hl=>⟨hl,rF hn hc.2.1⟩⟩
  ·exact⟨hlen,rfl,rfl,fun n hn hl=>pW hl⟩
theorem Low.aA4{s s' s'':ASt}(h:Low (aV s) s')(h1:s.blks.length≤s''.blks.length)(h2:s.toks.length≤s''.toks.length)(h3: ∀l,l<s.blks.length→s''.blks[l]?=s'.blks[l]?)
(hB: ∀n,n≤s.blks.length→cW n s''.lowB=false→cW n s.lowB=false∧cW n s'.lowB=false)(hT: ∀n,n≤s.blks.length→cW n s''.lowT=false→cW n s.lowT=false∧cW n s'.lowT=false):Low s s'' where
 qY:=h1
 qV:=h2
 B:=fun n hn hl=>by
  obtain⟨k1,k2⟩:=hB n hn hl;exact⟨k1,fun l k' hl' hk' k hk hb=>(h.B n hn k2).2 l k' hl' (by rw [←h3 l (by omega)];exact hk') k hk hb⟩
 T:=fun n hn hl=>by
  obtain⟨k1,k2⟩:=hT n hn hl;exact⟨k1,fun m l k' hl' hk' k hk hb=>(h.T n hn k2).2 m l k' hl' (by rw [←h3 l (by omega)];exact hk') k hk hb⟩
theorem Low.n7{s s':ASt}{d d':Bool}(h:Low (aV s) s'):Low s (eE s d' (Fw.cK s d s')):=by
 obtain⟨a1,a2,a3,a4,a5⟩:=Low.cK (d:=d) h;have hlen:s.toks.length≤(Fw.cK s d s').toks.length:=by rw [a2];exact h.qV
 obtain⟨b1,b2,b3,b4⟩:=aBl (d:=d') hlen;refine h.aA4 (by rw [b2];exact a1) b1 (fun l hl=>by rw [b2];exact a4 l hl) (fun n hn hl=> ?_) (fun n hn hl=> ?_)
 ·rw [b3] at hl;exact a5 n hn hl
 ·obtain⟨k1,k2⟩:=b4 n hn hl;rw [a3] at k2;exact⟨k1,k2⟩
theorem aAh{s s' s'':ASt}{v v':AV}(h:Low (aV s) s')(hs:settle s v s'=(v',s'')):Low s s'':=by
 unfold settle at hs;split at hs
 ·rename_i sz xs t;split at hs
  ·cases hs;exact h.n7
  ·split at hs
   ·rename_i n hc hn;split at hs
    ·cases hs;obtain⟨a1,a2,a3,a4,a5⟩:=Low.cK (d:=eN xs) h;simp only [yQ,Bool.and_eq_true,Bool.not_eq_true',Bool.or_eq_false_iff] at hc;refine h.aA4 a1 (by have:=h.qV;simp [aV] at this;simp;omega) a4 a5 fun n hn hl=>⟨hl,?_⟩
     rw [←a3];exact rF hn hc.2.1
    ·cases hs;exact h.n7
   ·cases hs;exact h.n7
 ·cases hs;exact h.n7
include hH in
theorem aC0{lf:Nat}{f:AF}{args:List AV}{r:jT}{s':ASt}(h:wU H P lf f args s=some (r,s')):Low s s':=by
 unfold wU at h;split at h
 ·cases h
 split at h
 ·rename_i ex fr s1 he;have h1:=nB hH _ he;split at h
  ·split at h
   ·rename_i hd;cases h;exact(h1.trans (jD hH hd)).n7
   ·rename_i s2 hd;split at h
    ·split at h
     ·rename_i v s3 hv;split at h;rename_i v' s4 hs;cases h;exact aAh ((h1.trans (jD hH hd)).trans (s6 hv)) hs
     ·cases h
    ·cases h
   ·cases h
  ·cases h
 ·cases h
theorem lA: ∀{ops:List AI}{fr fr':Fr}{rc rc':RC}{s s':ASt},jP P ops fr rc s=some (fr',rc',s')→s'=s
 | [],fr,fr',rc,rc',s,s',h=>by simp [jP] at h;exact h.2.2.symm
 |i::rest,fr,fr',rc,rc',s,s',h=>by
  simp only [jP] at h;split at h
  ·split at h
   ·exact lA h
   ·exact lA h
  ·split at h
   ·exact lA h
   ·cases h
include hH in
theorem aAS{lf:Nat}: ∀(c:AC){fr:Fr}{rc:RC}{s:ASt}{r:cY×Fr×RC×ASt},evD H P lf c fr rc s=some r→Low s r.2.2.2:=by
 intro c
 induction c with
 |reg dr ops=>
  intro fr rc s r h;simp only [evD] at h;split at h
  ·split at h
   ·rename_i ho;cases h;rw [lA ho];exact .refl _
   ·cases h
  ·split at h
   ·rename_i r1 h1;cases h;exact nB hH _ h1
   ·cases h
 |seq a b iha ihb=>
  intro fr rc s r h;simp only [evD] at h;split at h
  ·rename_i h1;exact(iha h1).trans (ihb h)
  ·exact iha h
 |cond c t e iht ihe=>
  intro fr rc s r h;simp only [evD] at h;split at h
  ·split at h
   ·exact iht h
   ·exact ihe h
  ·cases h
 |_=>
  intro fr rc s r h;simp only [evD] at h;split at h
  ·rename_i r1 h1;cases h;exact nB hH _ h1
  ·cases h
include hH in
theorem aB6{lf:Nat}{f:AF}{args:List AV}{m m':DM}{s':ASt}(h:zC H P lf f args m s=some (m',s')):Low s s':=by
 unfold zC at h;split at h
 ·cases h
 split at h
 ·rename_i he;have h1:=aAS hH _ he;split at h
  ·split at h
   ·split at h
    ·cases h;exact h1.n7
    ·cases h;exact h1.n7
   ·cases h
  ·cases h
 ·cases h
theorem tJ{H:Handler}{p:Prim}{args:List AV}{s s':ASt}{r:jT}(h:eU H p args s=some (r,s')):s'=s:=by
 simp only [eU] at h
 repeat' split at h
 all_goals first|cases h;done|(cases h;rfl)
theorem vH: ∀n,aDE (cC P n)
 |0=>⟨fun _ _ _ _ _ h=>by simp [cC] at h,fun _ _ _ _ _ _ h=>by simp [cC] at h⟩
 |n+1=>by
  have ih:=vH n;refine⟨fun g args s r s' h=> ?_,fun f args m s m' s' h=> ?_⟩
  ·simp only [cC] at h;split at h
   ·split at h
    ·rw [tJ h];exact Low.refl _
    ·split at h
     ·exact aC0 ih h
     ·cases h
   ·exact zW ih h
  ·simp only [cC] at h;split at h
   ·exact aB6 ih h
   ·cases h
end
def Gh.jV(n:Nat)(G:Gh):Gh:=⟨G.M,fun l=>if l<n then G.L l else none,G.H⟩
def Gh.g9(n:Nat)(G:Gh):Gh:=⟨G.M,G.L,fun t m=>if t<n then G.H t m else none⟩
def cL(n:Nat):Sh→Bool
 | .v a _=>dS n a
 | .l a_ _=>cX n a_
 | .k a_ _=>cX n a_
 | .c a _=>dS n a
 | .r _ a_ _ _=>cX n a_
def dH(n:Nat):Sh→Bool
 | .v a _=>eB n a
 | .l a_ _=>cV n a_
 | .k a_ _=>cV n a_
 | .c a _=>eB n a
 | .r _ a_ _ _=>cV n a_
theorem R.jV{G:Gh}{n:Nat}{sh:Sh}(r:R G sh)(h:cL n sh=true):R (G.jV n) sh:=by
 have hL: ∀{l b:Nat},Nat.blt l n=true→G.L l=some b→(G.jV n).L l=some b:=fun hl hb=>by
  simp only [Nat.blt_eq] at hl;simp [Gh.jV,hl,hb]
 have hO: ∀{o A sz m c},gR G o A sz m c→gR (G.jV n) o A sz m c:=by
  intro o A sz m c ho;cases o<;>exact ho
 induction r with
 |int h'=>exact .int h'
 |bool b=>exact .bool b
 |str s hs=>exact .str s hs
 |aW hm ho=>exact .aW hm (hO ho)
 |bA hc hm _ ho ih=>exact .bA hc hm (ih (by simpa [cL,dS] using h)) (hO ho)
 |ms hL' hc hm=>exact .ms (hL (by simpa [cL,dS] using h) hL') hc hm
 |agg _ ih=>exact .agg (ih (by simpa [cL,dS] using h))
 |tuple _ ih=>exact .tuple (ih (by simpa [cL,dS] using h))
 |cB=>exact .cB
 |ptr off hL'=>exact .ptr off (hL (by simpa [cL,dS] using h) hL')
 |a8 off _ hM ih=>exact .a8 off (ih (by simpa [cL,dS] using h)) hM
 |func _ _ ha hb=>simp only [cL,dS,Bool.and_eq_true] at h;exact .func (ha h.1) (hb h.2)
 |bQ=>exact .bQ
 |yield hL'=>exact .yield (hL (by simpa [cL,dS] using h) hL')
 |map hL'=>exact .map (hL (by simpa [cL,dS] using h) hL')
 |cF=>exact .cF
 |iface _ ih=>exact .iface (ih (by simpa [cL,dS] using h))
 |a9=>exact .a9
 |iter hL'=>exact .iter (hL (by simpa [cL,dS] using h) hL')
 |fZ x=>exact .fZ x
 |iO=>exact .iO
 |bK _ _ h1 h2=>simp only [cL,cX,Bool.and_eq_true] at h;exact .bK (h1 h.1) (h2 h.2)
 |cT=>exact .cT
 |aT _ hc _ h1 h2=>simp only [cL,cX,Bool.and_eq_true] at h;exact .aT (h1 h.1) hc (h2 h.2)
 |kH _ ih=>exact .kH (ih (by simpa [cL,dS] using h))
 |mJ ha h1 _ ih=>exact .mJ ha h1 (ih h)
 |nM sz b o=>exact .nM sz b o
 |fQ _ hl hM _ h1 h2=>simp only [cL,cX,Bool.and_eq_true] at h;exact .fQ (h1 h.1) hl hM (h2 h.2)
theorem R.g9{G:Gh}{n:Nat}{sh:Sh}(r:R G sh)(h:dH n sh=true):R (G.g9 n) sh:=by
 have hO: ∀{xs:List AV} {o A sz m c},eB n (.slice sz xs o)=true→gR G o A sz m c→gR (G.g9 n) o A sz m c:=by
  intro xs o A sz m c hb ho;cases o with
  |no=>trivial
  |full=>exact ho
  |lit=>exact ho
  |tok t=>
   simp only [eB,Bool.and_eq_true,Nat.blt_eq] at hb;obtain⟨b,h1,h2⟩:=ho;exact⟨b,h1,by simp [Gh.g9,hb.1,h2]⟩
 induction r with
 |int h'=>exact .int h'
 |bool b=>exact .bool b
 |str s hs=>exact .str s hs
 |aW hm ho=>exact .aW hm (hO h ho)
 |bA hc hm _ ho ih=>
  refine .bA hc hm (ih ?_) (hO h ho);simp only [dH,eB,Bool.and_eq_true] at h⊢;exact h.2
 |ms hL' hc hm=>exact .ms hL' hc hm
 |agg _ ih=>exact .agg (ih (by simpa [dH,eB] using h))
 |tuple _ ih=>exact .tuple (ih (by simpa [dH,eB] using h))
 |cB=>exact .cB
 |ptr off hL'=>exact .ptr off hL'
 |a8 off _ hM ih=>exact .a8 off (ih (by simpa [dH,eB] using h)) hM
 |func _ _ ha hb=>simp only [dH,eB,Bool.and_eq_true] at h;exact .func (ha h.1) (hb h.2)
 |bQ=>exact .bQ
 |yield hL'=>exact .yield hL'
 |map hL'=>exact .map hL'
 |cF=>exact .cF
 |iface _ ih=>exact .iface (ih (by simpa [dH,eB] using h))
 |a9=>exact .a9
 |iter hL'=>exact .iter hL'
 |fZ x=>exact .fZ x
 |iO=>exact .iO
 |bK _ _ h1 h2=>simp only [dH,cV,Bool.and_eq_true] at h;exact .bK (h1 h.1) (h2 h.2)
 |cT=>exact .cT
 |aT _ hc _ h1 h2=>simp only [dH,cV,Bool.and_eq_true] at h;exact .aT (h1 h.1) hc (h2 h.2)
 |kH _ ih=>exact .kH (ih (by simpa [dH,eB] using h))
 |mJ ha h1 _ ih=>exact .mJ ha h1 (ih h)
 |nM sz b o=>exact .nM sz b o
 |fQ _ hl hM _ h1 h2=>simp only [dH,cV,Bool.and_eq_true] at h;exact .fQ (h1 h.1) hl hM (h2 h.2)
theorem R.dS{G:Gh}{n:Nat}(hn: ∀l b,G.L l=some b→l<n){sh:Sh}(r:R G sh):cL n sh=true:=by
 induction r with
 |ms hL' hc hm=>simpa [cL,Fw.dS] using hn _ _ hL'
 |ptr off hL'=>simpa [cL,Fw.dS] using hn _ _ hL'
 |yield hL'=>simpa [cL,Fw.dS] using hn _ _ hL'
 |map hL'=>simpa [cL,Fw.dS] using hn _ _ hL'
 |iter hL'=>simpa [cL,Fw.dS] using hn _ _ hL'
 |func _ _ ha hb=>simp only [cL,Fw.dS,Bool.and_eq_true] at*;exact⟨ha,hb⟩
 |bK _ _ h1 h2=>simp only [cL,cX,Bool.and_eq_true] at*;exact⟨h1,h2⟩
 |aT _ hc _ h1 h2=>simp only [cL,cX,Bool.and_eq_true] at*;exact⟨h1,h2⟩
 |fQ _ hl hM _ h1 h2=>simp only [cL,cX,Bool.and_eq_true] at*;exact⟨h1,h2⟩
 |mJ ha h1 _ ih=>exact ih
 |bA hc hm _ ho ih=>simpa [cL,Fw.dS] using ih
 |agg _ ih=>simpa [cL,Fw.dS] using ih
 |tuple _ ih=>simpa [cL,Fw.dS] using ih
 |a8 off _ hM ih=>simpa [cL,Fw.dS] using ih
 |iface _ ih=>simpa [cL,Fw.dS] using ih
 |kH _ ih=>simpa [cL,Fw.dS] using ih
 |_=>rfl
theorem R.eB{G:Gh}{n:Nat}(hn: ∀t m x,G.H t m=some x→t<n){sh:Sh}(r:R G sh):dH n sh=true:=by
 have hO: ∀{o A sz m c},gR G o A sz m c→(match o with| .tok t=>Nat.blt t n|_=>true)=true:=by
  intro o A sz m c ho;cases o with
  |no=>rfl
  |full=>rfl
  |lit=>rfl
  |tok t=>obtain⟨b,_,h2⟩:=ho;simpa using hn _ _ _ h2
 induction r with
 |aW hm ho=>simp only [dH,Fw.eB,cV,Bool.and_true];exact hO ho
 |bA hc hm _ ho ih=>simp only [dH,Fw.eB,Bool.and_eq_true] at*;exact⟨hO ho,ih⟩
 |func _ _ ha hb=>simp only [dH,Fw.eB,Bool.and_eq_true] at*;exact⟨ha,hb⟩
 |bK _ _ h1 h2=>simp only [dH,cV,Bool.and_eq_true] at*;exact⟨h1,h2⟩
 |aT _ hc _ h1 h2=>simp only [dH,cV,Bool.and_eq_true] at*;exact⟨h1,h2⟩
 |fQ _ hl hM _ h1 h2=>simp only [dH,cV,Bool.and_eq_true] at*;exact⟨h1,h2⟩
 |mJ ha h1 _ ih=>exact ih
 |agg _ ih=>simpa [dH,Fw.eB] using ih
 |tuple _ ih=>simpa [dH,Fw.eB] using ih
 |a8 off _ hM ih=>simpa [dH,Fw.eB] using ih
 |iface _ ih=>simpa [dH,Fw.eB] using ih
 |kH _ ih=>simpa [dH,Fw.eB] using ih
 |_=>rfl
section
variable {P : Program} {B : Bs} {G G3 : Gh} {s s3 : ASt} {w w3 : World}
theorem gD.dS{n b:Nat}{o:Obj}{k:eH}(hn: ∀l b,G.L l=some b→l<n)(h:gD P G b o k):tR n k:=by
 cases k with
 |cells cs wr=>obtain⟨vs,e,_,h2,_⟩:=h;exact h2.dS hn
 |map es=>
  obtain⟨ents,clock,h1,h2⟩:=h;intro p hp;clear h1
  induction h2 with
  |nil=>cases hp
  |cons hk hv _ ih=>
   rcases List.mem_cons.1 hp with rfl|hp
   ·exact⟨hk.dS hn,hv.dS hn⟩
   ·exact ih hp
 |loop lp=>obtain⟨L,_,h2⟩:=h;exact⟨fun i=>(h2.env i).dS hn,hn _ _ h2.dq⟩
 |_=>trivial
theorem gD.eB{n b:Nat}{o:Obj}{k:eH}(hn: ∀t m x,G.H t m=some x→t<n)(h:gD P G b o k):tY n k:=by
 cases k with
 |cells cs wr=>obtain⟨vs,e,_,h2,_⟩:=h;exact h2.eB hn
 |map es=>
  obtain⟨ents,clock,h1,h2⟩:=h;intro p hp;clear h1
  induction h2 with
  |nil=>cases hp
  |cons hk hv _ ih=>
   rcases List.mem_cons.1 hp with rfl|hp
   ·exact⟨hk.eB hn,hv.eB hn⟩
   ·exact ih hp
 |loop lp=>obtain⟨L,_,h2⟩:=h;exact fun i=>(h2.env i).eB hn
 |_=>trivial
theorem gD.jV{n b:Nat}{o:Obj}{k:eH}(h:gD P G b o k)(hk:tR n k):gD P (G.jV n) b o k:=by
 cases k with
 |cells cs wr=>obtain⟨vs,e,h1,h2,h3,h4⟩:=h;exact⟨vs,e,h1,h2.jV hk,h3,h4⟩
 |map es=>
  obtain⟨ents,clock,h1,h2⟩:=h;refine⟨ents,clock,h1,?_⟩;clear h1
  induction h2 with
  |nil=>exact .nil
  |cons hk' hv _ ih=>
   have:=hk _ (List.mem_cons_self ..);exact .cons (hk'.jV this.1) (hv.jV this.2) (ih fun p hp=>hk p (List.mem_cons_of_mem _ hp))
 |loop lp=>
  obtain⟨L,h1,h2⟩:=h;refine⟨L,h1,h2.st,h2.pend,fun i=>(h2.env i).jV (hk.1 i),h2.params,h2.pok,h2.assign,h2.body,?_,h2.aAe⟩;simp [Gh.jV,hk.2,h2.dq]
 |iter t pos=>exact h
 |z5=>exact h
 |dead=>trivial
theorem gD.g9{n b:Nat}{o:Obj}{k:eH}(h:gD P G b o k)(hk:tY n k):gD P (G.g9 n) b o k:=by
 cases k with
 |cells cs wr=>obtain⟨vs,e,h1,h2,h3,h4⟩:=h;exact⟨vs,e,h1,h2.g9 hk,h3,h4⟩
 |map es=>
  obtain⟨ents,clock,h1,h2⟩:=h;refine⟨ents,clock,h1,?_⟩;clear h1
  induction h2 with
  |nil=>exact .nil
  |cons hk' hv _ ih=>
   have:=hk _ (List.mem_cons_self ..);exact .cons (hk'.g9 this.1) (hv.g9 this.2) (ih fun p hp=>hk p (List.mem_cons_of_mem _ hp))
 |loop lp=>
  obtain⟨L,h1,h2⟩:=h;exact⟨L,h1,h2.st,h2.pend,fun i=>(h2.env i).g9 (hk i),h2.params,h2.pok,h2.assign,h2.body,h2.dq,h2.aAe⟩
 |iter t pos=>exact h
 |z5=>exact h
 |dead=>trivial
theorem Inv.jV(h:Inv P B G s w){n:Nat}(hk: ∀(l:Nat)(k:eH),l<n→s.blks[l]?=some k→tR n k):Inv P B (G.jV n) {s with blks:=s.blks.take n} w:=by
 have hL: ∀{l b},(G.jV n).L l=some b→l<n∧G.L l=some b:=by
  intro l b hl;simp only [Gh.jV] at hl;split at hl
  ·exact⟨by assumption,hl⟩
  ·cases hl
 exact{
  os:=h.os,tape:=h.tape,output:=h.output,size:=h.size,pr:=h.pr,prM:=h.prM,m:=h.m
  l:=fun l b hl=>⟨by have:=(h.l l b (hL hl).2).1;have:=(hL hl).1;simp;omega,(h.l l b (hL hl).2).2⟩
  inj:=fun l l' b h1 h2=>h.inj _ _ _ (hL h1).2 (hL h2).2
  blk:=fun l b o k hl ho hk'=>by
   obtain⟨h1,h2⟩:=hL hl;simp only [List.getElem?_take_of_lt h1] at hk';exact(h.blk l b o k h2 ho hk').jV (hk l k h1 hk')
  tok:=fun t m ht=>by
   obtain⟨b,c,sz,k⟩:=h.tok t m ht;exact⟨b,c,sz,k.h,k.np,k.lt,k.blk,k.szp,k.nc,k.cm,k.m,fun l hl=>k.l l (hL hl).2⟩
  fP:=h.fP,hh:=h.hh
  tot:=fun l hl=>by
   have hl':l<n∧l<s.blks.length:=by simp at hl;omega
   obtain⟨b,hb⟩:=h.tot l hl'.2;exact⟨b,by simp [Gh.jV,hl'.1,hb]⟩}
theorem Inv.g9(h:Inv P B G s w){n:Nat}(hk: ∀(l:Nat)(k:eH),s.blks[l]?=some k→tY n k):Inv P B (G.g9 n) {s with toks:=s.toks.take n} w:=by
 have hH: ∀{t m x},(G.g9 n).H t m=some x→t<n∧G.H t m=some x:=by
  intro t m x hx;simp only [Gh.g9] at hx;split at hx
  ·exact⟨by assumption,hx⟩
  ·cases hx
 have ht: ∀{t m:Nat},(s.toks.take n)[t]?=some m→t<n∧s.toks[t]?=some m:=by
  intro t m h1;have hlt:t<n:=by
   have:=(List.getElem?_eq_some_iff.1 h1).1;simp at this;omega
  rw [List.getElem?_take_of_lt hlt] at h1;exact⟨hlt,h1⟩
 exact{
  os:=h.os,tape:=h.tape,output:=h.output,size:=h.size,pr:=h.pr,prM:=h.prM,m:=h.m,l:=h.l,inj:=h.inj
  blk:=fun l b o k hl ho hk'=>(h.blk l b o k hl ho hk').g9 (hk l k hk')
  tok:=fun t m h1=>by
   obtain⟨hlt,h2⟩:=ht h1;obtain⟨b,c,sz,k⟩:=h.tok t m h2;exact⟨b,c,sz,by simp [Gh.g9,hlt,k.h],k.np,k.lt,k.blk,k.szp,k.nc,k.cm,k.m,k.l⟩
  fP:=fun t t' m m' b c sz c' sz' h1 h2 h3 h4=>h.fP t t' m m' b c sz c' sz' (ht h1).2 (ht h2).2 (hH h3).2 (hH h4).2
  hh:=fun t m x hx=>by
   obtain⟨h1,h2⟩:=hH hx;obtain⟨m0,h3,h4⟩:=h.hh t m x h2;exact⟨m0,by simp only [List.getElem?_take_of_lt h1];exact h3,h4⟩
  tot:=h.tot}
theorem yV(hI:Inv P B G s w)(hl:Low (aV s) s3)(hle:G.le G3)(hI3:Inv P B G3 s3 w3)(d:Bool):
  ∃G4,G.le G4∧Inv P B G4 (cK s d s3) w3∧G4.M=G3.M∧G4.H=G3.H∧ ∀sh,R G3 sh→(d=true∨ ∀n,cL n sh=true)→R G4 sh:=by
 unfold cK;split
 ·exact⟨G3,hle,hI3.tT rfl rfl,rfl,rfl,fun _ h _=>h⟩
 ·split
  ·exact⟨G3,hle,hI3.tT rfl rfl,rfl,rfl,fun _ h _=>h⟩
  ·rename_i hd;simp only [Bool.or_eq_false_iff] at hd;have hcut:=hI3.jV (n:=s.blks.length) fun l k hln hk=>by
    obtain⟨b,hb⟩:=hI.tot l hln;obtain⟨k0,hk0⟩: ∃k0,s.blks[l]?=some k0:=⟨_,List.getElem?_eq_getElem hln⟩
    obtain⟨o,ho,hok⟩: ∃o,w.heap[b]?=some o∧gD P G b o k0:=by
     have:=(hI.l l b hb).2.1;exact⟨_,Array.getElem?_eq_getElem this,hI.blk l b _ k0 hb (Array.getElem?_eq_getElem this) hk0⟩
    exact(hl.B _ (Nat.le_refl _) hd.1).2 l k hln hk k0 hk0 (hok.dS fun l b h=>(hI.l l b h).1)
   refine⟨G3.jV s.blks.length,⟨hle.M,fun l b h=> ?_,hle.H⟩,hcut.tT rfl rfl,rfl,rfl,fun sh h hb=>h.jV ?_⟩
   ·have:=(hI.l l b h).1;simp [Gh.jV,this,hle.L _ _ h]
   ·rcases hb with hb|hb
    ·rw [hd.2] at hb;cases hb
    ·exact hb _
theorem aA3(hI:Inv P B G s w)(hl:Low (aV s) s3){G4:Gh}{s4:ASt}(hle:G.le G4)(hI4:Inv P B G4 s4 w3)(hb4: ∀l,l<s.blks.length→s4.blks[l]?=s3.blks[l]?)(ht4:s4.lowT=s3.lowT){d:Bool}(hc:yQ s d s4=true):
  G.le (G4.g9 s.toks.length)∧Inv P B (G4.g9 s.toks.length) {s4 with toks:=s4.toks.take s.toks.length} w3:=by
 simp only [yQ,Bool.and_eq_true,Bool.not_eq_true',Bool.or_eq_false_iff] at hc;have hlen:=Nat.eq_of_beq_eq_true hc.1;refine⟨⟨hle.M,hle.L,fun t m x hx=> ?_⟩,hI4.g9 fun l k hk=> ?_⟩
 ·obtain⟨m0,h1,_⟩:=hI.hh t m x hx;have:=(List.getElem?_eq_some_iff.1 h1).1;simp [Gh.g9,this,hle.H _ _ _ hx]
 ·have hln:l<s.blks.length:=by
   have:=(List.getElem?_eq_some_iff.1 hk).1;omega
  rw [hb4 l hln] at hk;obtain⟨b,hb⟩:=hI.tot l hln;obtain⟨k0,hk0⟩: ∃k0,s.blks[l]?=some k0:=⟨_,List.getElem?_eq_getElem hln⟩
  obtain⟨o,ho,hok⟩: ∃o,w.heap[b]?=some o∧gD P G b o k0:=by
   have:=(hI.l l b hb).2.1;exact⟨_,Array.getElem?_eq_getElem this,hI.blk l b _ k0 hb (Array.getElem?_eq_getElem this) hk0⟩
  rw [ht4] at hc;exact(hl.T _ (Nat.le_refl _) hc.2.1).2 _ l k hln hk k0 hk0 (hok.eB fun t m x hx=>by
   obtain⟨m0,h1,_⟩:=hI.hh t m x hx;exact(List.getElem?_eq_some_iff.1 h1).1)
theorem aDc(hI:Inv P B G s w)(hl:Low (aV s) s3){G4:Gh}{s4:ASt}(hle:G.le G4)(hI4:Inv P B G4 s4 w3)(hb4: ∀l,l<s.blks.length→s4.blks[l]?=s3.blks[l]?)(ht4:s4.lowT=s3.lowT)(d:Bool):
  ∃G5,G.le G5∧Inv P B G5 (eE s d s4) w3∧ ∀sh,R G4 sh→(d=true∨dH s.toks.length sh=true)→R G5 sh:=by
 unfold eE;split
 ·exact⟨G4,hle,hI4.tT rfl rfl,fun _ h _=>h⟩
 ·split
  ·rename_i hc;obtain⟨h1,h2⟩:=aA3 hI hl hle hI4 hb4 ht4 hc;refine⟨_,h1,h2.tT rfl rfl,fun sh h hb=>h.g9 ?_⟩;rcases hb with hb|hb
   ·simp only [yQ,Bool.and_eq_true,Bool.not_eq_true',Bool.or_eq_false_iff] at hc;rw [hc.2.2] at hb;cases hb
   ·exact hb
  ·exact⟨G4,hle,hI4.tT rfl rfl,fun _ h _=>h⟩
theorem yZ{v:AV}(x:Value):lV v=true∨ ∀n,cL n (.v v x)=true:=by
 cases h:lV v with
 |true=>exact .inl rfl
 |false=>exact .inr fun n=>rB n v h
theorem zP{v:AV}(x:Value)(n:Nat):toks v=true∨dH n (.v v x)=true:=by
 cases h:toks v with
 |true=>exact .inl rfl
 |false=>exact .inr (rD n v h)
theorem rH(hI:Inv P B G s w)(hl:Low (aV s) s3)(hle:G.le G3)(hI3:Inv P B G3 s3 w3)(d d':Bool):
  ∃G4,G.le G4∧Inv P B G4 (eE s d' (cK s d s3)) w3∧ ∀sh,R G3 sh→(d=true∨ ∀n,cL n sh=true)→(d'=true∨dH s.toks.length sh=true)→R G4 sh:=by
 obtain⟨G4,h1,h2,_,_,h3⟩:=yV hI hl hle hI3 d;obtain⟨_,_,a3,a4,_⟩:=Low.cK (d:=d) hl;obtain⟨G5,k1,k2,k3⟩:=aDc hI hl h1 h2 a4 a3 d';exact⟨G5,k1,k2,fun sh h hb ht=>k3 sh (h3 sh h hb) ht⟩
theorem zX(hI:Inv P B G s w)(hl:Low (aV s) s3)(hle:G.le G3)(hI3:Inv P B G3 s3 w3){v:AV}{x:Value}(r:R G3 (.v v x)):
  ∃G4,G.le G4∧Inv P B G4 (eE s (toks v) (cK s (lV v) s3)) w3∧R G4 (.v v x):=by
 obtain⟨G4,h1,h2,h3⟩:=rH hI hl hle hI3 (lV v) (toks v);exact⟨G4,h1,h2,h3 _ r (yZ x) (zP x _)⟩
theorem R.xH{G:Gh}{sz:Nat}{xs:List AV}{o:Own}{x:Value}(r:R G (.v (.slice sz xs o) x)):R G (.v (.slice sz xs .no) x):=by
 cases r with
 |aW hm ho=>exact .aW hm trivial
 |bA hc hm hr ho=>exact .bA hc hm hr trivial
theorem R.aBp{G:Gh}{sz:Nat}{xs:List AV}{o:Own}{b off c:Nat}{x:Value}(r:R G (.v (.slice sz xs .no) x))(ho:gR G o (some ⟨b,off,none⟩) sz xs.length c)(hx:x= .slice (some ⟨b,off,none⟩) xs.length c):R G (.v (.slice sz xs o) x):=by
 cases r with
 |aW hm _=>cases hx;exact .aW hm ho
 |bA hc hm hr _=>cases hx;exact .bA hc hm hr ho
theorem _root_.Go.Fw.R.aDw{G:Gh}{sz:Nat}{xs:List AV}{x:Value}(r:R G (.v (.slice sz xs .no) x)):R G (.v (.slice (szC sz xs) xs .no) x):=by
 cases r with
 |aW hm ho=>exact .aW hm trivial
 |bA hc hm hr ho=>
  cases xs with
  |nil=>exact .aW hm trivial
  |cons y ys=>exact .bA hc hm hr trivial
theorem aBn(hI:Inv P B G s w)(hl:Low (aV s) s3)(hle:G.le G3)(hI3:Inv P B G3 s3 w3){v v':AV}{x:Value}(r:R G3 (.v v x)){s4:ASt}(h:settle s v s3=(v',s4)):
  ∃G4,G.le G4∧Inv P B G4 s4 w3∧R G4 (.v v' x):=by
 have hel: ∀{sz:Nat}{xs:List AV}{o:Own},eN xs=true∨ ∀n,cL n (.v (.slice sz xs o) x)=true:=by
  intro sz xs o;cases q:eN xs with
  |true=>exact .inl rfl
  |false=>exact .inr fun n=>by simpa [cL,dS] using iG n xs q
 have helT: ∀{sz:Nat}{xs:List AV}{n:Nat},fJ xs=true∨dH n (.v (.slice sz xs .no) x)=true:=by
  intro sz xs n;cases q:fJ xs with
  |true=>exact .inl rfl
  |false=>exact .inr (by simpa [dH,eB] using eX n xs q)
 have hno: ∀{sz:Nat}{xs:List AV}{t:Nat},R G3 (.v (.slice sz xs (.tok t)) x)→ ∃G4,G.le G4∧Inv P B G4 (eE s (fJ xs) (cK s (eN xs) s3)) w3∧R G4 (.v (.slice (szC sz xs) xs .no) x):=by
  intro sz xs t r;obtain⟨G4,h1,h2,h3⟩:=rH hI hl hle hI3 (eN xs) (fJ xs);exact⟨G4,h1,h2,(h3 _ r.xH hel helT).aDw⟩
 unfold settle at h;split at h
 ·rename_i sz xs t;split at h
  ·rename_i hlt;cases h;obtain⟨G4,h1,h2,h3⟩:=rH hI hl hle hI3 (eN xs) (fJ xs);refine⟨G4,h1,h2,h3 _ r hel ?_⟩;cases q:fJ xs with
   |true=>exact .inl rfl
   |false=>
    right
    have hlt':t<s.toks.length:=by simpa using hlt
    simp [dH,eB,hlt',eX _ xs q]
  ·rename_i hge0;split at h
   ·rename_i n hc hn;split at h
    ·rename_i hnx;cases h;have hnx:=Nat.eq_of_beq_eq_true hnx;subst hnx;obtain⟨G4,h1,h2,hM4,hH4,h3⟩:=yV hI hl hle hI3 (eN xs);obtain⟨_,a2,a3,a4,_⟩:=Low.cK (d:=eN xs) hl;obtain⟨k1,k2⟩:=aA3 hI hl h1 h2 a4 a3 hc;have r4:=h3 _ r hel;obtain⟨b,c,sz',tk⟩:=hI3.tok t xs.length hn;have htx:fJ xs=false:=by
      simp only [yQ,Bool.and_eq_true,Bool.not_eq_true',Bool.or_eq_false_iff] at hc;exact hc.2.2
     have hge:s.toks.length≤t:=by simpa using hge0
     have tk4: ∃b' c' sz2,aDY G4 B.Pr w3 t xs.length b' c' sz2:=h2.tok t xs.length (by rw [a2];exact hn);obtain⟨b',c',sz2,tk4⟩:=tk4;obtain⟨e,cur,hcur,hcs⟩:=tk4.blk;have hnew:=k2.aCe (t:=s.toks.length) (n:=xs.length) (b:=b') (c:=c') (sz:=sz2) (toks':=(cK s (eN xs) s3).toks.take s.toks.length++ [xs.length])
      (by
       have:((cK s (eN xs) s3).toks.take s.toks.length).length=s.toks.length:=by
        rw [a2];have:=hl.qV;simp [aV] at this;simp;omega
       rw [List.getElem?_append_right (by omega)];simp [this])
      (fun t' ht'=>by
       have hlen:((cK s (eN xs) s3).toks.take s.toks.length).length=s.toks.length:=by
        rw [a2];have:=hl.qV;simp [aV] at this;simp;omega
       rcases Nat.lt_or_ge t' s.toks.length with q|q
       ·rw [List.getElem?_append_left (by omega)]
       ·rw [List.getElem?_eq_none (by simp [hlen];omega),List.getElem?_eq_none (by simp only;omega)])
      (fun n0 hn0=>by
       have hlen:((cK s (eN xs) s3).toks.take s.toks.length).length=s.toks.length:=by
        rw [a2];have:=hl.qV;simp [aV] at this;simp;omega
       simp only at hn0;rw [List.getElem?_eq_none (by omega)] at hn0;cases hn0)
      tk4.np hcur hcs tk4.szp tk4.nc tk4.cm tk4.m tk4.l
      (fun t' n' b2 c2 sz3 hne ht' hH' q=>by
       have hlt':t'<s.toks.length:=by
        have:=(List.getElem?_eq_some_iff.1 ht').1;simp at this;omega
       simp only at ht';rw [List.getElem?_take_of_lt hlt'] at ht';have hH'':G4.H t' n'=some (b2,c2,sz3):=by simpa [Gh.g9,hlt'] using hH'
       have:=h2.fP t' t n' xs.length b2 c2 sz3 c' sz2 ht' (by rw [a2];exact hn) hH'' (by rw [q];exact tk4.h);omega)
     have hleN:(G4.g9 s.toks.length).le ((G4.g9 s.toks.length).oN s.toks.length xs.length b' c' sz2):=rI hnew.1;refine⟨_,k1.trans hleN,(hnew.2.tT rfl (by simp [a2])),?_⟩;have r5:R (G4.g9 s.toks.length) (.v (.slice sz xs .no) x):=(r4.xH).g9 (by simpa [dH,eB] using eX _ xs htx);have r6:=r5.mono hleN;have hown: ∀{A c0},gR G4 (.tok t) A sz xs.length c0→gR ((G4.g9 s.toks.length).oN s.toks.length xs.length b' c' sz2) (.tok s.toks.length) A sz xs.length c0:=by
      rintro A c0 ⟨b2,q1,q2⟩
      have:=tk4.h.symm.trans q2;cases this;exact⟨b',q1,iW⟩
     cases r4 with
     |aW hm ho=>exact .aW hm (hown ho)
     |bA hc' hm hr ho=>exact(r6.aBp (hown ho) rfl)
    ·cases h;exact hno r
   ·cases h;exact hno r
 ·cases h;exact zX hI hl hle hI3 r
end
def aAb(P:Program)(l:Nat)(R:Ending→World→Prop):Exit→Act→World→Prop
 | .panic chain,a,w=>a.defers= []∧R (.panicked chain) w
 |e,a,w=>roundPost P l R e a w
theorem qG{P:Program}{l:Nat}{f:FuncId}{tmps:Array Value}{assign body:Code}{w:World}{R:Ending→World→Prop}(hF:(FV P).fn f)
(h:assign.wpIn ((FV P).inRound l) 0 P (Exit.then (fun a₁ w₁=> ∃w₂,(Instr.beginRound l).run P w₁= .ok () w₂∧body.wpIn ((FV P).inRound l) 0 P (aAb P l R) a₁ w₂) (fun _ _ _=>False))
   {tmps:=tmps,defers:= []} w):
  RoundIn (FV P) 0 P l f tmps assign body w R:=by
 refine⟨hF,fun c cs hr=> ?_⟩
 let b:Frame:={(default:Frame) with fn:=f,kind:= .normal,roundOf:=some l}
 have hb0:Frame.round l f tmps assign body .normal=b.atR {tmps:=tmps,defers:= []} [.code assign,.beginRound,.code body]:=by
  simp [Frame.round,Frame.atR,b]
 have hr':((FV P).inRound l).room ((c::cs).length+1+0):=hr;have hF':((FV P).inRound l).fn b.fn:=hF;obtain⟨e,a₁,w₁,hq,harr⟩:=h b [.beginRound,.code body] (c::cs) rfl hF' hr';rw [←hb0] at harr;cases e with
 |normal=>
  obtain⟨w₂,hbr,hbody⟩:=hq;have s1:StepsIn (Machine.fenced P ((FV P).inRound l)) P (lone (b.atR a₁ [.beginRound,.code body]) (c::cs) w₁) (lone (b.atR a₁ [.code body]) (c::cs) w₂):=
   .one (fenced_calm (fr:=b.atR a₁ [.beginRound,.code body]) hF' hr' rfl) (stepR_beginRound rfl hbr)
  obtain⟨e₂,a₂,w₃,hq₂,harr₂⟩:=hbody b [] (c::cs) rfl hF' hr';cases e₂ with
  |normal=>
   obtain⟨v,w₄,hend,hR⟩:=hq₂;exact⟨.returned v,w₄,hR,(StepsIn.trans harr s1).trans (StepsIn.trans harr₂ (.one (fenced_calm (fr:=b.atR a₂ []) hF' hr' rfl) (stepR_round_end rfl rfl hend)))⟩
  |ret=>
   obtain⟨v,w₄,hend,hR⟩:=hq₂;obtain⟨k₁,hs⟩:=harr₂.2 rfl;exact⟨.returned v,w₄,hR,(StepsIn.trans harr s1).trans (StepsIn.trans hs (.one (fenced_calm (fr:=b.atR a₂ (.code .ret::k₁)) hF' hr' rfl) (stepR_round_ret rfl rfl hend)))⟩
  |exit id=>
   obtain⟨v,w₄,hend,hR⟩:=hq₂;obtain⟨k₁,hk,hs⟩:=harr₂.2 rfl rfl;exact⟨.returned v,w₄,hR,(StepsIn.trans harr s1).trans (StepsIn.trans hs (.one (fenced_calm (fr:=b.atR a₂ (.code (.exit id)::k₁)) hF' hr' rfl) (stepR_round_exit rfl rfl hk hend)))⟩
  |goto t=>
   obtain⟨v,w₄,hend,hR⟩:=hq₂;obtain⟨k₁,hk,hs⟩:=harr₂.2 rfl rfl;exact⟨.returned v,w₄,hR,(StepsIn.trans harr s1).trans (StepsIn.trans hs (.one (fenced_calm (fr:=b.atR a₂ (.code (.goto t)::k₁)) hF' hr' rfl) (stepR_round_goto rfl rfl hk hend)))⟩
  |panic chain=>
   obtain⟨hd,hR⟩:=hq₂;obtain⟨todo,hs⟩:=harr₂;obtain⟨fn,hfn⟩:=hF;have hl:({b.atR a₂ todo with mode:= .panicking chain}:Frame).leaving P w₃ (.panicked chain):=⟨rfl,hd,fn,hfn⟩
   exact⟨.panicked chain,w₃,hR,(StepsIn.trans harr s1).trans (StepsIn.trans hs (.one (fenced_leaving (F:=(FV P).inRound l) (n:=0) ⟨fn,hfn⟩ hr' hl) (step_leave_panicked hl)))⟩
  |outgrown=>exact hq₂.elim
 |exit id=>exact hq.elim
 |goto t=>exact hq.elim
 |ret=>exact hq.elim
 |panic chain=>exact hq.elim
 |outgrown=>exact hq.elim
section
variable {P : Program} {B : Bs} {P' : aK} {nt : Nat} {s : ASt} {w : World} {G : Gh} {H : Handler}
theorem pF: ∀{ps:List Nat}{vs:List AV}{xs:List Value}{env:Env}{tmps:Array Value},eA G nt env tmps→R G (.l vs xs)→ps.length=vs.length→ps.all (fun d=>Nat.blt d nt)=true→
  eA G nt (jC env ps vs) ((ps.zip xs).foldl (fun tmps (p:Nat×Value)=>tmps.setIfInBounds p.1 p.2) tmps)
 | [],vs,xs,env,tmps,hE,_,hl,_=>by
  cases vs with
  |nil=>simpa [jC] using hE
  |cons v vs=>simp at hl
 |p::ps,vs,xs,env,tmps,hE,r,hl,hp=>by
  cases vs with
  |nil=>simp at hl
  |cons v vs=>
   cases r with
   | @bK _ x _ xs r1 r2=>
    simp only [List.all_cons,Bool.and_eq_true,Nat.blt_eq] at hp;simp only [jC,List.zip_cons_cons,List.foldl_cons];exact pF (hE.put hp.1 r1) r2 (by simpa using hl) hp.2
theorem iP.wH{ds:List Deferred}(h:iP G [] ds):ds= []:=by cases h;rfl
theorem aCD(hP:POk P P')(hH:HOk P P' H){lf l:Nat}{args:List AV}{r:jT}{s':ASt}(h:mH H P' lf l args s=some (r,s'))(hI:Inv P B G s w)(hG:cS P' G){xs:List Value}(hr:R G (.l args xs)){b:Nat}(hL:G.L l=some b):
  ∃f tmps a_ bd,(Instr.yield b xs.toArray).run P w= .ok (.round b f tmps a_ bd) w∧RoundIn (FV P) 0 P b f tmps a_ bd w (jY P B G s' r):=by
 unfold mH at h;split at h
 ·rename_i lp hlp;split at h
  ·rename_i hst hlen;split at h
   ·rename_i e1 s1 hev1;split at h
    ·rename_i s2 hs2;split at h
     ·rename_i ex e3 s3 hev3;obtain⟨o,ho,hok⟩:=hI.at hL hlp;obtain⟨L,rfl,hLk⟩:=hok;have hlen':args.length=lp.params.length:=by simpa using hlen
      have hsize:xs.toArray.size=L.params.size:=by
       have:=hLk.params;have h2:=hr.oM;have h3:L.params.toList.length=lp.params.length:=by rw [this]
       simp at h3⊢;omega
      refine⟨_,_,_,_,run_yield ho hsize,?_⟩;obtain⟨ha,hca,hoa⟩:=hLk.assign;obtain⟨hb,hcb,hob⟩:=hLk.body;have hE0:eA G L.tmps.size (jC lp.env lp.params args) ((L.params.zip xs.toArray).foldl (fun tmps (x:Nat×Value)=>tmps.setIfInBounds x.1 x.2) L.tmps):=by
       have:=pF (G:=G) (nt:=L.tmps.size) (env:=lp.env) (tmps:=L.tmps) ⟨rfl,hLk.env⟩ hr hlen'.symm hLk.pok;rw [←hLk.params] at this⊢;rw [←Array.foldl_toList,Array.toList_zip];exact this
      refine qG hLk.aAe ?_;have hw1:=wG hP hH (rd:=some l) (rb:=some b) (h:=ha) L.assign hca hoa hev1 (a:={tmps:=(L.params.zip xs.toArray).foldl (fun tmps (x:Nat×Value)=>tmps.setIfInBounds x.1 x.2) L.tmps,defers:= []}) hI hE0 hG .nil hL;refine wpIn_mono hw1 fun e a1 w1 hq=> ?_;obtain⟨G1,hle1,hI1,hE1,hD1,hX⟩:=hq;cases e<;>first|exact hX.elim|skip
      have hd1:=hD1.wH;show∃w₂,_;have hL1:=hle1.L _ _ hL;unfold jL at hs2;split at hs2
      ·rename_i lp1 hlp1;split at hs2
       ·rename_i hst1;cases hs2;obtain⟨o1,ho1,hok1⟩:=hI1.at hL1 hlp1;obtain⟨L1,rfl,hLk1⟩:=hok1;have hready:L1.state= .ready:=by
         have:=hLk1.st;rw [hst1] at this;cases hq:L1.state<;>rw [hq] at this<;>first|rfl|exact this.elim
        refine⟨_,run_beginRound ho1 hready,?_⟩;have hI2:=hI1.fM (lp':={lp1 with st:= .busy}) (L':={L1 with state:= .busy}) hL1 hlp1 ho1 ⟨trivial,hLk1.pend,hLk1.env,hLk1.params,hLk1.pok,hLk1.assign,hLk1.body,hLk1.dq,hLk1.aAe⟩;have hw3:=wG hP hH (rd:=some l) (rb:=some b) (h:=hb) L.body hcb hob hev3 (a:=a1) hI2 hE1 (hG.mono hle1) (by rw [hd1];exact .nil) hL1;refine wpIn_mono hw3 fun e2 a2 w2 hq2=> ?_;obtain⟨G3,hle3,hI3,hE3,hD3,hX3⟩:=hq2;have hL3:=hle3.L _ _ hL1;have hfin: ∀{st:LSt}{st':LoopState}{pd:Option cY}{jump:Option Code}{s4:ASt},aE1 st st'→aFf pd jump→fM s3 l (fun lp=>{lp with st:=st,pend:=pd})=some s4→(st'=if jump.isNone then .ready else .done)→
          ∃v w',(Instr.endRound b jump).run P w2= .ok v w'∧v= .bool jump.isNone∧Inv P B G3 s4 w':=by
         intro st st' pd jump s4 h1 h2 h3 h4;unfold fM at h3;split at h3
         ·rename_i lp3 hlp3;cases h3;obtain⟨o3,ho3,hok3⟩:=hI3.at hL3 hlp3;obtain⟨L3,rfl,hLk3⟩:=hok3;refine⟨_,_,run_endRound jump ho3,rfl,?_⟩;exact hI3.fM hL3 hlp3 ho3 ⟨h4▸h1,h2,hLk3.env,hLk3.params,hLk3.pok,hLk3.assign,hLk3.body,hLk3.dq,hLk3.aAe⟩
         ·cases h3
        have hle:=hle1.trans hle3;split at h
        ·cases h;cases e2<;>first|exact hX3.elim|skip
         obtain⟨x,hch,hx⟩:=hX3;exact⟨hD3.wH,G3,hle,hI3,x,hch,hx⟩
        ·split at h
         ·rename_i s4 hs4;cases h;cases e2<;>first|exact hX3.elim|skip
          obtain⟨v,w',q1,q2,q3⟩:=hfin (st:= .ready) (st':= .ready) (pd:=none) (jump:=none) trivial trivial hs4 rfl;subst q2;exact⟨_,w',q1,G3,hle,q3,.bool true⟩
         ·cases h
        ·rename_i hnn hnp;split at h
         ·rename_i s4 hs4;cases h;cases ex with
          |normal=>exact absurd rfl hnp
          |panic v=>exact absurd rfl (hnn v)
          |ret=>
           cases e2<;>first|exact hX3.elim|skip
           obtain⟨v,w',q1,q2,q3⟩:=hfin (st:= .done) (st':= .done) (pd:=some .ret) (jump:=some .ret) trivial trivial hs4 rfl;subst q2;exact⟨_,w',q1,G3,hle,q3,.bool false⟩
          |exit i=>
           cases e2<;>first|exact hX3.elim|skip
           rename_i j;obtain⟨v,w',q1,q2,q3⟩:=hfin (st:= .done) (st':= .done) (pd:=some (.exit i)) (jump:=some (.exit j)) trivial hX3 hs4 rfl;subst q2;exact⟨_,w',q1,G3,hle,q3,.bool false⟩
         ·cases h
       ·cases hs2
      ·cases hs2
     ·cases h
    ·cases h
   ·cases h
  ·cases h
 ·cases h
theorem jM{a:Addr}: ∀{n i:Nat}{acc:Array Value}{y:Array Value}{w w':World},(loadCellsFrom a i n acc).run P w= .ok y w'→w'=w
 |0,i,acc,y,w,w',h=>by simp [loadCellsFrom] at h;exact h.2.symm
 |n+1,i,acc,y,w,w',h=>by
  simp only [loadCellsFrom,Sem.run_bind,run_load] at h;cases hc:w.cell? (a.add i) with
  |none=>
   simp only [hc] at h;cases hf:World.farLoad P w (a.add i) (Mode.plain==Mode.atomic) with
   |ok x=>simp [hf,Result.andThen] at h;exact jM h
   |error x=>simp [hf,Result.andThen] at h
  |some v=>simp [hc,Result.andThen] at h;exact jM h
theorem aAl{t:TypeId}{ag:Bool}(hag:fY P t=some ag){x y:Value}{w':World}(h:(Instr.loadAt t x).run P w= .ok y w'):(do loadVar t (←asAddr x)).run P w= .ok y w∧w'=w:=by
 obtain⟨d,hd⟩:=iX hag;cases x with
 |pointer p=>
  cases p with
  |none=>simp [Instr.loadAt,Instr.sureAddr,stuck] at h
  |some a=>
   have e1:(do loadVar t (←asAddr (.pointer (some a)))).run P w=(Instr.loadAt t (.pointer (some a))).run P w:=by
    simp [Instr.loadAt,Instr.sureAddr,asAddr]
   have e2:w'=w:=by
    simp only [Instr.loadAt,Instr.sureAddr,loadVar,Sem.run_bind,Sem.run_pure,Result.andThen,kR hag] at h;cases ag with
    |true=>
     simp only [if_true,Sem.run_bind,dP hd,Result.andThen,loadCells] at h;cases hq:(loadCellsFrom a 0 (P.cellsOf t) #[]).run P w with
     |ok z w2=>
      rw [hq] at h;simp at h;rw [←h.2];exact jM hq
     |halt z w2=>rw [hq] at h;simp at h
    |false=>
     simp only [Bool.false_eq_true,if_false,run_load] at h;cases hc:w.cell? a with
     |none=>
      simp only [hc] at h;cases hf:World.farLoad P w a (Mode.plain==Mode.atomic) with
      |ok x=>simp [hf] at h;exact h.2.symm
      |error x=>simp [hf] at h
     |some v=>simp [hc] at h;exact h.2.symm
   rw [e1,h];exact⟨by rw [e2],e2⟩
 |_=>simp [Instr.loadAt,Instr.sureAddr,stuck] at h
theorem pS(hI:Inv P B G s w){env:Env}{tmps:Array Value}(hE:eA G nt env tmps): ∀{rs:List ResultVar}{a_:List ARV}{vs:List AV},jX P rs=some a_→iN P' env s a_=some vs→
  ∃xs,(rs.mapM (fun(r:ResultVar)=>(match r with| .tmp t=>pure (tmps.getD t undef)| .cell a t=>do loadVar t (←asAddr (tmps.getD a undef)):Sem Value))).run P w= .ok xs w∧R G (.l vs xs)
 | [],a_,vs,hk,h=>by
  simp [jX] at hk;subst hk;simp [iN] at h;subst h;exact⟨[],rfl,.iO⟩
 | .tmp t::rs,a_,vs,hk,h=>by
  simp only [jX,Option.map_eq_some_iff] at hk;obtain⟨as',h1,rfl⟩:=hk;simp only [iN,uN] at h;split at h
  ·rename_i v vs' hv hvs;cases h;cases hv;obtain⟨xs,q1,q2⟩:=pS hI hE h1 hvs;refine⟨_::xs,?_,.bK (hE.2 t) q2⟩;rw [List.mapM_cons];simp only [Sem.run_bind,Sem.run_pure,Result.andThen_ok,q1]
  ·cases h
 | .cell a t::rs,a_,vs,hk,h=>by
  simp only [jX] at hk;split at hk
  ·rename_i ag as' hag h1;cases hk;simp only [iN,uN] at h;split at h
   ·rename_i v vs' hv hvs;cases h;obtain⟨xs,q1,q2⟩:=pS hI hE h1 hvs;simp only [dV] at hv;obtain⟨x,w',G',hx,hq,hr⟩:=aA2 hI hag (hE.2 a) hv;obtain⟨k1,k2⟩:=aAl hag hx;subst k2;have hxr:R G (.v v x):=by
     refine R.mono (G:=G') ?_ hr;exact{
      M:=fun b o y hy=>by
       have h2:=hq.new;have h3:=hq.old;rcases Nat.lt_or_ge b w'.heap.size with hb|hb
       ·rw [h3 b hb] at hy;exact hy
       ·have:=h2 b o y hb hy;have:=vY (a:=⟨b,o,none⟩) this;exact absurd this (Nat.not_lt.2 hb)
      L:=fun l b hl=>by rw [hq.L] at hl;exact hl
      H:=fun t n y hy=>by rw [hq.H] at hy;exact hy}
    refine⟨x::xs,?_,.bK hxr q2⟩;rw [List.mapM_cons];rw [Sem.run_bind,k1];simp only [Sem.run_bind,Sem.run_pure,Result.andThen_ok,q1]
   ·cases h
  ·cases hk
theorem sF(hI:Inv P B G s w){fn:Func}{env:Env}{tmps:Array Value}(hE:eA G nt env tmps){a_:List ARV}{vs:List AV}(hk:jX P fn.results.toList=some a_)(h:iN P' env s a_=some vs)
{v:AV}{s1:ASt}(hv:mA s vs=some (v,s1)): ∃x G',(results fn tmps).run P w= .ok x w∧G.le G'∧Inv P B G' s1 w∧R G' (.v v x):=by
 obtain⟨xs,h1,h2⟩:=pS hI hE hk h;have hrun:(results fn tmps).run P w= .ok (if h:xs.toArray.size=1 then xs.toArray[0] else .tuple xs.toArray) w:=by
  unfold results;rw [Sem.run_bind,Array.mapM_eq_mapM_toList,Sem.run_map]
  erw [h1]
  rfl
 unfold mA at hv;split at hv
 ·cases hv;cases h2 with
  |bK h3 h4=>
   cases h4;exact⟨_,G,by rw [hrun];rfl,.refl _,hI,h3⟩
 ·cases h2 with
  |bK h3 h4=>
   cases h4;obtain⟨G',q1,q2,q3⟩:=aBa hI h3 hv;exact⟨_,G',by rw [hrun];rfl,q1,q2,q3⟩
 ·rename_i hn1 hn2;split at hv
  ·rename_i ws s2 hf;cases hv;obtain⟨G',q1,q2,q3⟩:=rM hI h2 hf;have hne: ¬xs.toArray.size=1:=by
    intro hq;have hl:=h2.oM;simp at hq;rw [hq] at hl
    match vs,hl with
    | [v],_=>exact hn2 v rfl
   exact⟨_,G',by rw [hrun,dif_neg hne],q1,q2,.tuple q3⟩
  ·cases hv
theorem sS{args:List AV}{xs:List Value}(r:R G (.l args xs))(hn:args.length≤nt):eA G nt (lJ args) (xs.toArray++Array.replicate (nt-xs.toArray.size) undef):=by
 have hl:=r.oM;refine⟨by simp;omega,fun i=> ?_⟩;unfold lJ;have hget:(xs.toArray++Array.replicate (nt-xs.toArray.size) undef).getD i undef=xs.getD i undef:=by
  simp only [Array.getD_eq_getD_getElem?,List.getD_eq_getElem?_getD];rcases Nat.lt_or_ge i xs.length with h|h
  ·rw [Array.getElem?_append_left (by simpa using h)];simp
  ·rw [Array.getElem?_append_right (by simpa using h),List.getElem?_eq_none h];simp only [Array.getElem?_replicate];split<;>rfl
 rw [hget];simp only [List.getD_eq_getElem?_getD];rcases Nat.lt_or_ge i args.length with h|h
 ·obtain⟨x,h1,h2⟩:=r.aDX (List.getElem?_eq_getElem h);rw [h1,List.getElem?_eq_getElem h];exact h2
 ·rw [List.getElem?_eq_none h,List.getElem?_eq_none (by omega)];exact .v9
end
def fX(G:Gh):RC→FrameMode→Prop
 | .ret,.returning=>True
 | .pan v,.panicking chain=> ∃x,chain= [{v:=x,recovered:=false}]∧R G (.v v x)
 | .aBh,.panicking chain=> ∃x,chain= [{v:=x,recovered:=true}]
 |_,_=>False
theorem fX.mono{G G':Gh}(hG:G.le G'){rc:RC}{u:FrameMode}(h:fX G rc u):fX G' rc u:=by
 cases rc<;>cases u<;>first|exact h|(obtain⟨x,h1,h2⟩:=h;exact⟨x,h1,h2.mono hG⟩)
theorem fX.settle{G:Gh}{rc:RC}{u:FrameMode}(h:fX G rc u):kB G (match rc with| .pan v=>DM.pan v|_=> .ret) (Go.settle u):=by
 cases rc with
 |ret=>cases u<;>first|exact h.elim|trivial
 |pan v=>
  cases u<;>first|exact h.elim|skip
  obtain⟨x,rfl,hx⟩:=h;exact⟨x,rfl,hx⟩
 |aBh=>
  cases u<;>first|exact h.elim|skip
  obtain⟨x,rfl⟩:=h
  trivial
section
variable {P : Program} {B : Bs} {P' : aK} {nt : Nat} {H : Handler} {h : Hint}
def DQ(P:Program)(B:Bs)(nt:Nat)(G:Gh)(c₀:Frame)(cs:List Frame)(ex:cY)(fr:Fr)(rc:RC)(s:ASt)(e:Exit)(a:Act)(cs':List Frame)(w:World):Prop:=
 ∃u G',G.le G'∧Inv P B G' s w∧eA G' nt fr.env a.tmps∧iP G' fr.ds a.defers∧yI G' ex e∧cs'={c₀ with mode:=u}::cs∧fX G' rc u
theorem DQ.aEZ{G:Gh}{c₀:Frame}{cs:List Frame}{ex:cY}{fr:Fr}{rc:RC}{s:ASt}{e:Exit}{a:Act}{w:World}{u:FrameMode}(hq:CQ P B nt G ex fr s e a w)(hr:fX G rc u):
  DQ P B nt G c₀ cs ex fr rc s e a ({c₀ with mode:=u}::cs) w:=by
 obtain⟨G',h1,h2,h3,h4,h5⟩:=hq;exact⟨u,G',h1,h2,h3,h4,h5,rfl,hr.mono h1⟩
theorem DQ.le{G G1:Gh}{c₀:Frame}{cs:List Frame}{ex:cY}{fr:Fr}{rc:RC}{s:ASt}{e:Exit}{a:Act}{cs':List Frame}{w:World}(hle:G.le G1)(hq:DQ P B nt G1 c₀ cs ex fr rc s e a cs' w):DQ P B nt G c₀ cs ex fr rc s e a cs' w:=by
 obtain⟨u,G',h1,h2⟩:=hq;exact⟨u,G',hle.trans h1,h2⟩
theorem aAs{G:Gh}{rc:RC}{u:FrameMode}(hr:fX G rc u)(c₀:Frame)(cs:List Frame):
  (∃v x u',rc= .pan v∧recoverD ({c₀ with mode:=u}::cs)=some (x,{c₀ with mode:=u'}::cs)∧R G (.v v x)∧fX G .aBh u')∨((∀v,rc≠ .pan v)∧recoverD ({c₀ with mode:=u}::cs)=none):=by
 cases rc with
 |ret=>cases u<;>first|exact hr.elim|exact .inr ⟨by simp,rfl⟩
 |pan v=>
  cases u<;>first|exact hr.elim|skip
  obtain⟨x,rfl,hx⟩:=hr;exact .inl ⟨v,x,.panicking [{v:=x,recovered:=true}],rfl,rfl,hx,x,rfl⟩
 |aBh=>
  cases u<;>first|exact hr.elim|skip
  obtain⟨x,rfl⟩:=hr;exact .inr ⟨by simp,rfl⟩
theorem aAz{d:Option Nat}{op:Op}(hk:aZ P h d op=some .u9): ∃c,op= .call c∧c.callee= .builtin .recover:=by
 unfold aZ at hk;split at hk
 case h_30=>
  rename_i c;split at hk
  ·rename_i b hb;unfold aY at hk;split at hk
   ·exact⟨c,rfl,hb⟩
   all_goals (repeat' split at hk)
   all_goals first|(cases hk;done)|(simp only [Option.map_eq_some_iff,reduceCtorEq,and_false,exists_false] at hk;done)
  ·repeat' split at hk
   all_goals cases hk
  ·cases hk
 all_goals (try unfold eO at hk)
 all_goals (repeat' split at hk)
 all_goals first|(cases hk;done)|(simp only [Option.map_eq_some_iff,reduceCtorEq,and_false,exists_false] at hk;done)
theorem m6(hp: ∀g,bE (P'.gl g)=true){all:Array Oper}{f:Nat→AI}{c₀:Frame}{cs:List Frame}{fr':Fr}{rc':RC}{s':ASt}{G0:Gh}: ∀(l:List Nat),(∀j∈l,∃o,all[j]?=some o∧vZ P h nt none all o (f j))→
  ∀{fr:Fr}{rc:RC}{s:ASt}{a:Act}{w:World}{G:Gh}{u:FrameMode},jP P' (l.map f) fr rc s=some (fr',rc',s')→Inv P B G s w→eA G nt fr.env a.tmps→cS P' G→iP G fr.ds a.defers→fX G rc u→G0.le G→
  wpOpsSIn (FV P) 0 P all (DQ P B nt G0 c₀ cs .normal fr' rc' s') l a ({c₀ with mode:=u}::cs) w
 | [],_,fr,rc,s,a,w,G,u,hev,hI,hE,hG,hD,hR,hle=>by
  simp only [List.map_nil,jP,Option.some.injEq,Prod.mk.injEq] at hev;obtain⟨rfl,rfl,rfl⟩:=hev;exact⟨u,G,hle,hI,hE,hD,trivial,rfl,hR⟩
 |j::l,hl,fr,rc,s,a,w,G,u,hev,hI,hE,hG,hD,hR,hle=>by
  obtain⟨o,ho,hok⟩:=hl j (by simp);have hl': ∀j∈l,∃o,all[j]?=some o∧vZ P h nt none all o (f j):=fun j hj=>hl j (by simp [hj]);simp only [List.map_cons] at hev;simp only [wpOpsSIn,ho];generalize f j=i at hok hev;obtain⟨d,op,gd,pre⟩:=i;have hcd:=hok.c.d;simp only at hcd;subst hcd;have hd: ∀t,o.dst=some t→t<nt:=fun t ht=>hok.wr t (by simp [aN,ht]);simp only [jP] at hev;split at hev
  ·
   have hw:=g6 (fr:=fr) (b:=true) hok.c hE rfl;refine⟨gC (ρ:=a.eval) hok.c (by simp) (by simp) (by simp),?_⟩;rw [if_pos hw];have hk:=hok.c.op.resolve_left (by simp);obtain⟨c,hoc,hcal⟩:=aAz hk;have hrun:(execOp a.eval o).run P w= .ok .recover w:=by
    simp [execOp,hoc,resolve,hcal,invoke,builtin]
   rw [hrun];rcases aAs hR c₀ cs with ⟨v,x,u',rfl,hrec,hx,hR'⟩|⟨hn,hrec⟩
   ·simp only [hrec];simp only at hev;exact m6 hp l hl' hev hI (hE.aDH hd hx) hG (by rw [put_defers];exact hD) hR' hle
   ·simp only [hrec];split at hev
    ·exact absurd rfl (hn _)
    ·exact m6 hp l hl' hev hI (hE.aDH hd .a9) hG (by rw [put_defers];exact hD) hR hle
  ·split at hev
   ·rename_i v hwt hv;have hw:=g6 (fr:=fr) hok.c hE hwt;refine⟨gC (ρ:=a.eval) hok.c (fun hb=>by simp only at hb;subst hb;simp [aU] at hv) (fun f xs hb=>by simp only at hb;subst hb;simp [aU] at hv) (fun st f xs hb=>by simp only at hb;subst hb;simp [aU] at hv),?_⟩;rw [if_pos hw];rcases hok.c.op with hq|hq
    ·simp only at hq;subst hq;simp [aU] at hv
    ·obtain⟨x,w',G',hrun,q,r⟩:=aCk hI (lO hE hG) (fun _=>rfl) hq hv;rw [hrun];exact m6 hp l hl' hev (q.inv hI) ((hE.mono q.le).aDH hd r) (hG.mono q.le) (by rw [put_defers];exact hD.mono q.le) (hR.mono q.le) (hle.trans q.le)
   ·cases hev
theorem pO{K:Act→List Frame→World→Prop}{Q:Exit→Act→List Frame→World→Prop}{e:Exit}{a:Act}{cs:List Frame}{w:World}(hn:e≠ .normal)(h:Q e a cs w):Exit.thenS K Q e a cs w:=by
 cases e<;>first|exact absurd rfl hn|exact h
theorem k8{F:Fence}{n:Nat}{c:Code}{Q Q':Exit→Act→List Frame→World→Prop}{a:Act}{cs:List Frame}{w:World}(h:c.wpSIn F n P Q a cs w)(hq: ∀e a cs w,Q e a cs w→Q' e a cs w):c.wpSIn F n P Q' a cs w:=
 fun b k h1 h2 h3 h4=>let ⟨e,a',cs',w',l,q,r⟩:=h b k h1 h2 h3 h4;⟨e,a',cs',w',l,hq _ _ _ _ q,r⟩
theorem aEz(hP:POk P P')(hH:HOk P P' H){lf:Nat}{c₀:Frame}{cs:List Frame}: ∀(code:Code){c:AC}{G:Gh}{fr fr':Fr}{rc rc':RC}{s s':ASt}{ex:cY}{a:Act}{w:World}{u:FrameMode},
  bJ P h code=some c→gA nt false c=true→evD H P' lf c fr rc s=some (ex,fr',rc',s')→
  Inv P B G s w→eA G nt fr.env a.tmps→cS P' G→iP G fr.ds a.defers→fX G rc u→code.wpSIn (FV P) 0 P (DQ P B nt G c₀ cs ex fr' rc' s') a ({c₀ with mode:=u}::cs) w:=by
 intro code;have plain: ∀{code:Code}{c:AC}{G:Gh}{fr fr':Fr}{rc rc':RC}{s s':ASt}{ex:cY}{a:Act}{w:World}{u:FrameMode},bJ P h code=some c→gA nt false c=true→
   (match evC H P' none lf c fr s with|some r=>some (r.ex,r.fr,rc,r.s)|none=>none)=some (ex,fr',rc',s')→
   Inv P B G s w→eA G nt fr.env a.tmps→cS P' G→iP G fr.ds a.defers→fX G rc u→code.wpSIn (FV P) 0 P (DQ P B nt G c₀ cs ex fr' rc' s') a ({c₀ with mode:=u}::cs) w:=by
  intro code c G fr fr' rc rc' s s' ex a w u hk hok hev hI hE hG hD hR;split at hev
  ·rename_i r hr;cases hev;refine wpSIn_of_wpIn rfl (wpIn_mono (wG hP hH (rd:=none) (rb:=none) code hk hok hr hI hE hG hD trivial) fun e a1 w1 hq=> ?_);exact DQ.aEZ hq hR
  ·cases hev
 induction code with
 |region id all draw=>
  intro c G fr fr' rc rc' s s' ex a w u hk hok hev hI hE hG hD hR;have hk':=hk;simp only [bJ] at hk';split at hk'
  ·cases hk'
  simp only [Option.map_eq_some_iff] at hk';obtain⟨ops,hops,hc⟩:=hk';split at hc
  ·subst hc;simp only [evD] at hev;exact plain hk hok hev hI hE hG hD hR
  subst hc;simp only [evD] at hev;split at hev
  ·split at hev
   ·cases hev;have hev2:jP P' ops fr rc s=some (fr',rc',s'):=by assumption
    obtain⟨hlen,hck⟩:=lN hops;simp only [gA,Bool.and_eq_true] at hok;have hall: ∀j,j<all.size→ ∃o ai,all[j]?=some o∧ops[j]?=some ai∧vZ P h nt none all o ai:=by
     intro j hj;obtain⟨ai,k1,k2,_⟩:=hck j all[j] (by simp [hj]);refine⟨all[j],ai,by simp [hj],k1,⟨k2,?_,fun _ _ _=>rfl,?_⟩⟩
     ·intro t ht;have:=hok.1;simp only [nW,List.all_eq_true,Bool.and_eq_true] at this;have:=((this ai (List.mem_of_getElem? k1)).1.1) t ht;simpa using this
     ·intro hg;have:=hok.1;simp only [nW,List.all_eq_true,Bool.and_eq_true] at this;have:=(this ai (List.mem_of_getElem? k1)).2;cases hgd:ai.gd with
      |none=>exact absurd hgd hg
      |some x=>rw [hgd] at this;exact this
    have hf: ∀j ai,ops[j]?=some ai→ops.getD j default=ai:=fun j ai hj=>by simp [List.getD_eq_getElem?_getD,hj]
    have hmap:(List.range all.size).map (fun j=>ops.getD j default)=ops:=by
     apply List.ext_getElem?;intro j;rcases Nat.lt_or_ge j all.size with hj|hj
     ·obtain⟨o,ai,_,k2,_⟩:=hall j hj;simp [hj,k2]
     ·have h1:ops.length≤j:=by rw [hlen];simpa using hj
      rw [List.getElem?_eq_none h1,List.getElem?_eq_none (by simpa using hj)]
    refine wpSIn_region (m6 (h:=h) hP.kA (f:=fun j=>ops.getD j default) _ (fun j hj=> ?_) (by rw [hmap];exact hev2) hI hE hG hD hR (.refl _));obtain⟨o,ai,k1,k2,k3⟩:=hall j (by simpa using hj);exact⟨o,k1,by rw [hf j ai k2];exact k3⟩
   ·cases hev
  ·exact plain hk hok hev hI hE hG hD hR
 |seq x y ihx ihy=>
  intro c G fr fr' rc rc' s s' ex a w u hk hok hev hI hE hG hD hR;have hk':=hk;simp only [bJ] at hk';split at hk'
  ·rename_i cx cy hx hy;cases hk';simp only [gA,Bool.and_eq_true] at hok;simp only [evD] at hev;split at hev
   ·rename_i fr1 rc1 s1 h1;refine wpSIn_seq (k8 (ihx hx hok.1 h1 hI hE hG hD hR) fun e a1 cs1 w1 hq=> ?_);obtain⟨u1,G1,hle,hI1,hE1,hD1,hX,rfl,hR1⟩:=hq;have he:=hX.lM rfl;subst he;exact k8 (ihy hy hok.2 hev hI1 hE1 (hG.mono hle) hD1 hR1) fun e a cs w h=>h.le hle
   ·rename_i hnn;refine wpSIn_seq (k8 (ihx hx hok.1 hev hI hE hG hD hR) fun e a1 cs1 w1 hq=> ?_);have hne:ex≠ .normal:=by rintro rfl;exact hnn _ _ _ hev
    obtain⟨u1,G1,hle,hI1,hE1,hD1,hX,rfl,hR1⟩:=hq;exact pO (hX.n9 hne) ⟨u1,G1,hle,hI1,hE1,hD1,hX,rfl,hR1⟩
  ·cases hk'
 |cond co x y ihx ihy=>
  intro c G fr fr' rc rc' s s' ex a w u hk hok hev hI hE hG hD hR;have hk':=hk;simp only [bJ] at hk';split at hk'
  ·rename_i ac cx cy hc hx hy;cases hk';simp only [gA,Bool.and_eq_true] at hok;simp only [evD] at hev;have hro:=(lO hE hG).out _ _ hc;split at hev
   ·rename_i b hb;rw [hb] at hro;generalize hv:a.eval co=v at hro;cases hro;cases b with
    |true=>exact wpSIn_cond hv (ihx hx hok.1 hev hI hE hG hD hR)
    |false=>exact wpSIn_cond hv (ihy hy hok.2 hev hI hE hG hD hR)
   ·cases hev
  ·cases hk'
 |skip=>intro c G fr fr' rc rc' s s' ex a w u hk hok hev hI hE hG hD hR;have hk':=hk;simp only [bJ,Option.some.injEq] at hk';subst hk';exact plain hk hok hev hI hE hG hD hR
 |label l=>intro c G fr fr' rc rc' s s' ex a w u hk hok hev hI hE hG hD hR;have hk':=hk;simp only [bJ,Option.some.injEq] at hk';subst hk';exact plain hk hok hev hI hE hG hD hR
 |ret=>intro c G fr fr' rc rc' s s' ex a w u hk hok hev hI hE hG hD hR;have hk':=hk;simp only [bJ,Option.some.injEq] at hk';subst hk';exact plain hk hok hev hI hE hG hD hR
 |exit id=>intro c G fr fr' rc rc' s s' ex a w u hk hok hev hI hE hG hD hR;have hk':=hk;simp only [bJ,Option.some.injEq] at hk';subst hk';exact plain hk hok hev hI hE hG hD hR
 |goto l=>intro c G fr fr' rc rc' s s' ex a w u hk;simp [bJ] at hk
 |refuse y=>intro c G fr fr' rc rc' s s' ex a w u hk;simp [bJ] at hk
 |scope b ih=>
  intro c G fr fr' rc rc' s s' ex a w u hk hok hev hI hE hG hD hR;have hk':=hk;simp only [bJ,Option.map_eq_some_iff] at hk';obtain⟨cb,_,rfl⟩:=hk';exact plain hk hok hev hI hE hG hD hR
 |block id b ih=>
  intro c G fr fr' rc rc' s s' ex a w u hk hok hev hI hE hG hD hR;have hk':=hk;simp only [bJ,Option.map_eq_some_iff] at hk';obtain⟨cb,_,rfl⟩:=hk';exact plain hk hok hev hI hE hG hD hR
 |loop b ih=>
  intro c G fr fr' rc rc' s s' ex a w u hk hok hev hI hE hG hD hR;have hk':=hk;simp only [bJ,Option.map_eq_some_iff] at hk';obtain⟨cb,_,rfl⟩:=hk';exact plain hk hok hev hI hE hG hD hR
 |rangeFunc g ps a_ bd iha ihb=>
  intro c G fr fr' rc rc' s s' ex a w u hk hok hev hI hE hG hD hR;have hk':=hk;simp only [bJ] at hk';split at hk'
  ·cases hk';exact plain hk hok hev hI hE hG hD hR
  ·cases hk'
theorem fX.aDM{G:Gh}{m:DM}{u:FrameMode}(h:kB G m u):fX G (aE5 m) u:=by
 cases m<;>cases u<;>exact h
end
section
variable {P : Program} {B : Bs} {P' : aK} {nt : Nat} {s : ASt} {w : World} {G : Gh} {H : Handler}
theorem o8(hH:HOk P P' H){fn:Func}{env:Env}{tmps:Array Value}{R:Ending→World→Prop}: ∀{a_:List dC}{ds:List Deferred}{m m':DM}{s s':ASt}{G:Gh}{w:World}{u:FrameMode},iP G a_ ds→iU H a_ m s=some (m',s')→Inv P B G s w→
  eA G nt env tmps→cS P' G→kB G m u→
  (∀G' w' u',G.le G'→Inv P B G' s' w'→eA G' nt env tmps→kB G' m' u'→LeavesIn (FV P) 0 P fn tmps R [] u' w')→LeavesInM (FV P) 0 P fn tmps R ds u w
 | [],ds,m,m',s,s',G,w,u,hD,h,hI,hE,hG,hM,hK=>by
  cases hD;simp only [iU,Option.some.injEq,Prod.mk.injEq] at h;obtain⟨rfl,rfl⟩:=h;exact hK G w u (.refl _) hI hE hM
 | .mark l::a_,ds,m,m',s,s',G,w,u,hD,h,hI,hE,hG,hM,hK=>by
  cases hD with
  | @cons _ d _ ds hd hds=>
   obtain⟨b,ht,hL⟩:=hd;simp only [iU] at h;split at h
   ·rename_i hl;obtain⟨o,ho,hok⟩:=hI.at hL hl;have hok':o= .deferred (some []):=hok;subst hok';have hI2:Inv P B G {s with blks:=s.blks.set l .dead} (w.putObj b (.deferred none)):=hI.put hL trivial fun j x hx=>by
     have:=hI.m b j x hx;simp [World.cell?,ho] at this
    refine⟨by rintro rfl;cases m<;>exact hM,.inl ⟨b,_,ht,run_takeDeferred ho,?_⟩⟩;exact o8 hH hds h hI2 hE hG hM hK
   ·cases h
 | .call f args::a_,ds,m,m',s,s',G,w,u,hD,h,hI,hE,hG,hM,hK=>by
  cases hD with
  | @cons _ d _ ds hd hds=>
   obtain⟨cap,xs,ht,ha,hr⟩:=hd;simp only [iU] at h;split at h
   ·rename_i m1 s1 hc;obtain⟨h1,h2⟩:=hH.dcall f args m s m1 s1 hc B G w _ u hI hG hr hM;have e1:(xs++cap).toArray=xs.toArray++cap.toArray:=by simp
    refine⟨by rintro rfl;cases m<;>exact hM,.inr ⟨by simp [FV],.func f,cap.toArray,f,(xs++cap).toArray,ht,?_,?_,?_⟩⟩
    ·rw [ht,ha];show(callFunc f (xs.toArray++cap.toArray)).run P w=_;rw [←e1];exact h1
    ·intro f' hf';rw [ht] at hf';simp only [Target.leads,Option.some.injEq] at hf';subst hf';exact jF h1
    ·refine h2.mono fun e u' w' hq=> ?_;obtain⟨G1,hle,hI1,⟨x,rfl⟩,hM1⟩:=hq;exact o8 hH (hds.mono hle) h hI1 (hE.mono hle) (hG.mono hle) hM1 fun G' w'' u'' hle'=>hK G' w'' u'' (hle.trans hle')
   ·cases h
theorem yI.mode{ex:cY}{e:Exit}{m:DM}(h:(match ex with| .normal=>some DM.ret| .ret=>some DM.ret| .panic v=>some (DM.pan v)| .exit _=>none)=some m)(hX:yI G ex e):
  (∃u,kB G m u∧((e= .normal∨e= .ret)∧u= .returning∨ ∃chain,e= .panic chain∧u= .panicking chain)):=by
 cases ex with
 |normal=>cases h;cases e<;>first|exact hX.elim|exact⟨.returning,trivial,.inl ⟨.inl rfl,rfl⟩⟩
 |ret=>cases h;cases e<;>first|exact hX.elim|exact⟨.returning,trivial,.inl ⟨.inr rfl,rfl⟩⟩
 |exit i=>cases h
 |panic v=>cases h;cases e<;>first|exact hX.elim|exact⟨.panicking _,hX,.inr ⟨_,rfl,rfl⟩⟩
theorem aDF(hP:POk P P')(hH:HOk P P' H)(hLow:aDE H){lf:Nat}{f:Nat}{af:AF}(haf:P'.fn f=some af){args:List AV}{r:jT}{s':ASt}(h:wU H P' lf af args s=some (r,s'))(hI:Inv P B G s w)(hG:cS P' G)
{xs:List Value}(hr:R G (.l args xs)):(callFunc f xs.toArray).run P w= .ok (.enter f xs.toArray) w∧CallsIn (FV P) 0 P f xs.toArray w (jY P B G s' r):=by
 obtain⟨fn,hh,hf,hc,hok,hn⟩:=hP.fn f af haf;have hc':=hc;unfold mP at hc';split at hc'
 ·rename_i cb cr hcb hcr;cases hc';obtain⟨c,hb,hcc⟩:=Option.bind_eq_some_iff.1 hcb;refine⟨cG hf hb hn _ _,?_⟩;unfold wU at h;split at h
  ·cases h
  rename_i hnt;have hnt:args.length≤fn.ntmps:=by simpa using Nat.le_of_ble_eq_true hnt
  split at h
  ·rename_i ex fr s1 hev;have hlow1:=nB hLow _ hev;split at h
   ·rename_i m hm;refine callsIn_of_wp_marks hf hb ⟨_,hf⟩ ?_;have hIc:Inv P B G (aV s) w:=hI.tT rfl rfl;have hw:=wG hP hH (rd:=none) (rb:=none) (h:=hh) c (a:={tmps:=xs.toArray++Array.replicate (fn.ntmps-xs.toArray.size) undef,defers:= []}) hcc hok hev hIc (sS hr hnt) hG .nil trivial;refine wpIn_mono hw fun e a1 w1 hq=> ?_;obtain⟨G1,hle1,hI1,hE1,hD1,hX⟩:=hq;obtain⟨u,hM,hu⟩:=hX.mode hm;have key:LeavesInM (FV P) 0 P fn a1.tmps (jY P B G s' r) a1.defers u w1:=by
     split at h
     ·rename_i v s2 hrd;cases h;have hlow2:=hlow1.trans (jD hLow hrd);refine o8 hH hD1 hrd hI1 hE1 (hG.mono hle1) hM fun G2 w2 u2 hle2 hI2 hE2 hM2=> ?_;cases u2 with
      |run=>exact hM2.elim
      |returning=>exact hM2.elim
      |panicking chain=>
       obtain⟨x,rfl,hx⟩:=hM2;obtain⟨G4,k1,k2,k3⟩:=zX hI hlow2 (hle1.trans hle2) hI2 hx;exact⟨G4,k1,k2,x,rfl,k3⟩
     ·rename_i s2 hrd;split at h
      ·rename_i vs hvs;split at h
       ·rename_i v s3 hrv;split at h;rename_i v' s4 hset;cases h;have hlow3:=(hlow1.trans (jD hLow hrd)).trans (s6 hrv);refine o8 hH hD1 hrd hI1 hE1 (hG.mono hle1) hM fun G2 w2 u2 hle2 hI2 hE2 hM2=> ?_;cases u2 with
        |run=>exact hM2.elim
        |panicking chain=>exact hM2.elim
        |returning=>
         obtain⟨x,G3,q1,q2,q3,q4⟩:=sF hI2 hE2 hcr hvs hrv;obtain⟨G4,k1,k2,k3⟩:=aBn hI hlow3 ((hle1.trans hle2).trans q2) q3 q4 hset;exact⟨x,q1,G4,k1,k2,k3⟩
       ·cases h
      ·cases h
     ·cases h
    rcases hu with ⟨he|he,rfl⟩|⟨chain,rfl,rfl⟩
    ·subst he;exact key
    ·subst he;exact key
    ·exact key
   ·cases h
  ·cases h
 ·cases hc'
theorem aDp(hP:POk P P')(hH:HOk P P' H)(hLow:aDE H){lf:Nat}{f:Nat}{af:AF}(haf:P'.fn f=some af){args:List AV}{m m':DM}{s':ASt}(h:zC H P' lf af args m s=some (m',s'))(hI:Inv P B G s w)(hG:cS P' G)
{xs:List Value}(hr:R G (.l args xs)){u:FrameMode}(hm:kB G m u):
  (callFunc f xs.toArray).run P w= .ok (.enter f xs.toArray) w∧CallsDIn (FV P) 0 P f xs.toArray u w fun e u' w'=> ∃G',G.le G'∧Inv P B G' s' w'∧(∃x,e= .returned x)∧kB G' m' (Go.settle u'):=by
 obtain⟨fn,hh,hf,hc,hok,hn⟩:=hP.fn f af haf;have hc':=hc;unfold mP at hc';split at hc'
 ·rename_i cb cr hcb hcr;cases hc';obtain⟨c,hb,hcc⟩:=Option.bind_eq_some_iff.1 hcb;refine⟨cG hf hb hn _ _,?_⟩;unfold zC at h;split at h
  ·cases h
  rename_i hnt0;have hnt:args.length≤fn.ntmps:=by simpa using Nat.le_of_ble_eq_true hnt0
  split at h
  ·rename_i ex env rc s1 hev;have hlow1:=aAS hLow _ hev;split at h
   ·rename_i hex;split at h
    ·rename_i hres;simp only at hres;clear hnt0;subst hres;refine callsDIn_of_wpSIn hf hb ⟨_,hf⟩ fun c₀ cs hc0=> ?_;have hIc:Inv P B G (aV s) w:=hI.tT rfl rfl;have hw:=aEz (c₀:=c₀) (cs:=cs) (h:=hh) (a:={tmps:=xs.toArray++Array.replicate (fn.ntmps-xs.toArray.size) undef,defers:= []}) hP hH c hcc hok hev hIc (sS hr hnt) hG .nil (fX.aDM hm);have e0:({c₀ with mode:=u}:Frame)=c₀:=by subst hc0;rfl
     rw [e0] at hw;refine k8 hw fun e a1 cs1 w1 hq=> ?_;obtain⟨u1,G1,hle,hI1,hE1,hD1,hX,rfl,hR1⟩:=hq;have hd1:=hD1.wH;obtain⟨x,G3,q1,q2,q3,_⟩:=sF (P':=P') hI1 hE1 hcr (vs:= []) rfl (v:= .tuple []) (s1:=s1) rfl;have hfin: ∃G',G.le G'∧Inv P B G' s' w1∧(∃y,Ending.returned x= .returned y)∧kB G' m' (Go.settle u1):=by
      have hset:=hR1.settle;split at h
      ·rename_i v;cases h;simp only at hset;cases hu:Go.settle u1 with
       |run=>rw [hu] at hset;exact hset.elim
       |returning=>rw [hu] at hset;exact hset.elim
       |panicking chain=>
        rw [hu] at hset;obtain⟨y,rfl,hy⟩:=hset;obtain⟨G4,k1,k2,k3⟩:=zX hI hlow1 (hle.trans q2) q3 (hy.mono q2);exact⟨G4,k1,k2,⟨x,rfl⟩,y,rfl,k3⟩
      ·rename_i hnp;cases h;obtain⟨G4,k1,k2,_⟩:=rH hI hlow1 (hle.trans q2) q3 false false;refine⟨G4,k1,k2,⟨x,rfl⟩,?_⟩;cases rc with
       |pan v=>exact absurd rfl (hnp v)
       |ret=>simp only at hset;cases hu:Go.settle u1<;>rw [hu] at hset<;>first|exact hset.elim|trivial
       |aBh=>simp only at hset;cases hu:Go.settle u1<;>rw [hu] at hset<;>first|exact hset.elim|trivial
     cases ex with
     |normal=>
      have he:=hX.lM rfl;subst he;exact⟨hd1,u1,rfl,x,q1,hfin⟩
     |ret=>
      cases e<;>first|exact hX.elim|skip
      exact⟨hd1,u1,rfl,x,q1,hfin⟩
     |exit i=>cases hex
     |panic v=>cases hex
    ·cases h
   ·cases h
  ·cases h
 ·cases hc'
structure rX(P:Program)(P':aK):Prop where
 ok: ∀f p,P'.prim f=some p→ ∀H,HOk P P' H→ ∀args s r s',eU H p args s=some (r,s')→ ∀B G w xs,Inv P B G s w→cS P' G→R G (.l args xs)→y6 P (callFunc f xs.toArray) w (jY P B G s' r)
theorem zH(hP:POk P P')(hp:rX P P'): ∀n,HOk P P' (cC P' n)
 |0=>⟨fun _ _ _ _ _ h=>by simp [cC] at h,fun _ _ _ _ _ h=>by simp [cC] at h,fun _ _ _ _ _ _ h=>by simp [cC] at h⟩
 |n+1=>by
  have ih:=zH hP hp n;have hl:=vH (P:=P') n;refine⟨fun f args s r s' h B G w xs hI hG hr=> ?_,fun l args s r s' h B G w xs b hI hG hr hL=> ?_,fun f args m s m' s' h B G w xs u hI hG hr hm=> ?_⟩
  ·simp only [cC] at h;split at h
   ·rename_i p hq;exact hp.ok _ _ hq _ ih _ _ _ _ h B G w xs hI hG hr
   ·split at h
    ·rename_i af haf;obtain⟨k1,k2⟩:=aDF hP ih hl haf h hI hG hr;exact⟨_,_,k1,k2⟩
    ·cases h
  ·simp only [cC] at h;exact aCD hP ih h hI hG hr hL
  ·simp only [cC] at h;split at h
   ·rename_i af haf;exact aDp hP ih hl haf h hI hG hr hm
   ·cases h
end
inductive Tab where
 |none
 |leaf (k:Nat) (a:AF)
 |node (m:Nat) (l r:Tab)
def Tab.get:Tab→Nat→Option AF
 | .none,_=>Option.none
 | .leaf k a,n=>match Nat.beq n k with|true=>some a|false=>Option.none
 | .node m l r,n=>match Nat.blt n m with|true=>l.get n|false=>r.get n
def Tab.list:Tab→List (Nat×AF)
 | .none=> []
 | .leaf k a=> [(k,a)]
 | .node _ l r=>l.list++r.list
theorem Tab.get_mem: ∀{t:Tab}{n:Nat}{a:AF},t.get n=some a→(n,a)∈t.list
 | .none,_,_,h=>by cases h
 | .leaf k b,n,a,h=>by
  simp only [Tab.get] at h;split at h
  ·rename_i hb;cases h;rw [Nat.eq_of_beq_eq_true hb];simp [Tab.list]
  ·cases h
 | .node m l r,n,a,h=>by
  simp only [Tab.get] at h;simp only [Tab.list,List.mem_append];split at h
  ·exact .inl (Tab.get_mem h)
  ·exact .inr (Tab.get_mem h)
abbrev eW(P:Program)(k:Nat)(a:AF):Prop:=
 ∃(fn:Func)(h:Hint),P.funcs[k]?=some fn∧mP P h fn=some a∧gA fn.ntmps false a.body=true∧(fn.name== "runtime.NumGoroutine")=false
inductive aDO{α:Type}(Q:α→Prop):List α→Prop
 |nil:aDO Q []
 |cons {x:α} {xs:List α} (h:Q x) (t:aDO Q xs):aDO Q (x::xs)
theorem aEn{α:Type}{Q:α→Prop}{l:List α}(h:aDO Q l): ∀p∈l,Q p:=by
 induction h with
 |nil=>intro p hp;cases hp
 |cons h _ ih=>intro p hp;rcases List.mem_cons.1 hp with rfl|hp;exact h;exact ih p hp
def rV:List (Nat×AV)→Nat→AV
 | [],_=> .agg []
 |(k,v)::r,n=>match Nat.beq n k with|true=>v|false=>rV r n
def aB1(t:Tab)(gl:List (Nat×AV)):aK:={fn:=t.get,gl:=rV gl,prim:=fun _=>none}
theorem rS: ∀{gl:List (Nat×AV)},(gl.all fun p=>bE p.2)=true→ ∀g,bE (rV gl g)=true
 | [],_,_=>rfl
 |(k,v)::r,h,g=>by
  simp only [List.all_cons,Bool.and_eq_true] at h;simp only [rV];split
  ·exact h.1
  ·exact rS h.2 g
theorem aBE{P:Program}{t:Tab}{gl:List (Nat×AV)}(ht: ∀p∈t.list,eW P p.1 p.2)(hg:(gl.all fun p=>bE p.2)=true)(hm:P.follows .mixedOrders=true):POk P (aB1 t gl) where
 fn:=fun _ _ h=>ht _ (Tab.get_mem h)
 kA:=rS hg
 mixed:=hm
def G0(W:World):Gh:=⟨fun b o=>W.cell? ⟨b,o,none⟩,fun _=>none,fun _ _=>none⟩
def B0(W:World):Bs:=⟨fun b=>b<W.heap.size,W,(G0 W).M,fun _ h=>h⟩
theorem aFq{P:Program}(W:World):Inv P (B0 W) (G0 W) dE W where
 os:=rfl
 tape:=rfl
 output:=rfl
 size:=Nat.le_refl _
 pr:=fun _ _=>rfl
 prM:=fun _ _ _=>rfl
 m:=fun _ _ _ h=>h
 l:=fun _ _ h=>by cases h
 inj:=fun _ _ _ h=>by cases h
 blk:=fun _ _ _ _ h=>by cases h
 tok:=fun t n h=>by simp [dE] at h
 fP:=fun _ _ _ _ _ _ _ _ _ h=>by simp [dE] at h
 hh:=fun _ _ _ h=>by cases h
 tot:=fun _ h=>absurd h (Nat.not_lt_zero _)
theorem aC4{P:Program}{P':aK}(hP:POk P P')(hp:rX P P'){n f:Nat}{af:AF}(haf:P'.fn f=some af){args:List AV}{v:AV}{s':ASt}(h:(cC P' n).call (.func f) args dE=some (.ret v,s'))(W:World){xs:List Value}
(hr:R (G0 W) (.l args xs))(hg:cS P' (G0 W)):Calls P f xs.toArray W fun e W'=> ∃x G',e= .returned x∧R G' (.v v x)∧RowKit.Below W.heap.size W W':=by
 obtain⟨nx,w1,h1,h2⟩:=(zH hP hp n).func f _ _ _ _ h (B0 W) (G0 W) W xs (aFq W) hg hr;obtain⟨fn,hh,hf,hc,_,hn⟩:=hP.fn f af haf;obtain⟨c,hb,_⟩:=oA hc;rw [cG hf hb hn] at h1;cases h1;refine(h2.calls aDk).mono fun e W' hq=> ?_;obtain⟨G',hle,hI,hres⟩:=hq;cases e with
 |returned x=>exact⟨x,G',rfl,hres,hI.os,hI.tape,hI.output,hI.size,fun k hk=>hI.pr k hk⟩
 |panicked ch=>exact hres.elim
 |outgrown=>exact hres.elim
def mkV(P:Program)(e:TypeId)(cs:List AV):AV:=match fY P e with|some false=>cs.headD dX|_=> .agg cs
def mR(P:Program):Nat→List Field→Option Nat
 |off,[]=>some off
 |off,f::fs=>match Nat.beq f.offset off with|true=>mR P (off+P.cellsOf f.type) fs|false=>none
def yU(P:Program)(ts:List TypeId)(t:TypeId):Bool:=
 match P.underlying t with
 |some .bool|some .string|some (.int _)=>true
 |some (.pointer e)|some (.slice e)=>ts.contains e&&Nat.blt 0 (P.cellsOf e)
 |some (.struct fs)=>mR P 0 fs.toList==some (P.cellsOf t)&&fs.toList.all fun f=>ts.contains f.type
 |some (.array n e)=>ts.contains e&&n*P.cellsOf e==P.cellsOf t
 |_=>false
inductive TyC(P:Program):TypeId→List AV→Prop
 |bool {t:TypeId} (b:Bool) (h:P.underlying t=some .bool):TyC P t [.bool b]
 |int {t:TypeId} {k:IntKind} {n:Int} (h:P.underlying t=some (.int k)) (hn:k.wrap n=n):TyC P t [.int k n]
 |str {t:TypeId} (s:List UInt8) (h:P.underlying t=some .string) (hs:s.length≤maxLen):TyC P t [.str s]
 |aBY {t e:TypeId} (h:P.underlying t=some (.pointer e)):TyC P t [.cB]
 |ptr {t e:TypeId} {cs:List AV} (h:P.underlying t=some (.pointer e)) (hc:TyC P e cs):TyC P t [.a8 (mkV P e cs) 0]
 |slice {t e:TypeId} {css:List (List AV)} (h:P.underlying t=some (.slice e)) (hl:css.length≤maxLen) (hc: ∀cs∈css,TyC P e cs):TyC P t [.slice (szC (P.cellsOf e) (css.map (mkV P e))) (css.map (mkV P e)) .no]
 |struct {t:TypeId} {fs:Array Field} {css:List (List AV)} (h:P.underlying t=some (.struct fs)) (hl:css.length=fs.size) (hc: ∀(i:Nat)(f:Field)(cs:List AV),fs[i]?=some f→css[i]?=some cs→TyC P f.type cs):TyC P t css.flatten
 |array {t e:TypeId} {n:Nat} {css:List (List AV)} (h:P.underlying t=some (.array n e)) (hl:css.length=n) (hc: ∀cs∈css,TyC P e cs):TyC P t css.flatten
mutual
def cellsD {H:Type} (P:Program) (t:TypeId):DataW H→Option (List AV)
 | .lit l=>match l with| .bool b=>some [.bool b]| .int k n=>some [.int k n]| .string bs=>some [.str bs]|_=>none
 | .nil=>match P.underlying t with|some (.pointer _)=>some [.cB]|some (.slice e)=>some [.slice 0 [] .no]|_=>none
 | .ptr d=>match P.underlying t with|some (.pointer e)=>(match cellsD P e d with|some cs=>some [.a8 (mkV P e cs) 0]|none=>none)|_=>none
 | .slice elems _=>match P.underlying t with|some (.slice e)=>(match mF P e elems with|some css=>some [.slice (szC (P.cellsOf e) (css.map (mkV P e))) (css.map (mkV P e)) .no]|none=>none)|_=>none
 | .agg parts=>
  match P.underlying t with
  |some (.struct fs)=>(match nH P (fs.toList.map (·.type)) parts with|some css=>some css.flatten|none=>none)
  |some (.array _ e)=>(match mF P e parts with|some css=>some css.flatten|none=>none)
  |_=>none
 | .iface _ _=>none
 | .map _=>none
 | .held _=>none
def mF {H:Type} (P:Program) (e:TypeId):List (DataW H)→Option (List (List AV))
 | []=>some []
 |d::r=>match cellsD P e d,mF P e r with|some x,some xs=>some (x::xs)|_,_=>none
def nH {H:Type} (P:Program):List TypeId→List (DataW H)→Option (List (List AV))
 | [],[]=>some []
 |t::ts,d::r=>match cellsD P t d,nH P ts r with|some x,some xs=>some (x::xs)|_,_=>none
 |_,_=>none
end
section
variable {P : Program} {H : Type} {enc : TypeId × Value → H} {w : World} {sp : Nat → Bool} {held : Bool}
theorem TyC.lone{t:TypeId}{cs:List AV}(h:TyC P t cs)(ha:fY P t=some false): ∃a,cs= [a]∧jG a=false:=by
 cases h with
 |bool b h=>exact⟨_,rfl,rfl⟩
 |int h hn=>exact⟨_,rfl,rfl⟩
 |str s h hs=>exact⟨_,rfl,rfl⟩
 |aBY h=>exact⟨_,rfl,rfl⟩
 |ptr h hc=>exact⟨_,rfl,rfl⟩
 |slice h hl hc=>exact⟨_,rfl,rfl⟩
 |struct h hl hc=>rw [fY,h] at ha;cases ha
 |array h hl hc=>rw [fY,h] at ha;cases ha
theorem TyC.c{G:Gh}{t:TypeId}{cs:List AV}{vs:List Value}(h:TyC P t cs)(r:R G (.k cs vs)):R G (.c (mkV P t cs) vs):=by
 unfold mkV;cases ha:fY P t with
 |none=>exact .kH r
 |some b=>
  cases b with
  |true=>exact .kH r
  |false=>
   obtain⟨a,rfl,h1⟩:=h.lone ha;cases r with
   |aT r1 h2 r3=>cases r3;exact .mJ h1 h2 r1
theorem p4{a:Addr}{n:Nat}{cs:List Value}(h:w.cells? 0 a n=some cs):cs.length=n∧ ∀j y,cs[j]?=some y→w.cell? (a.add j)=some y:=by
 unfold World.cells? at h;rw [if_pos (Nat.zero_le _)] at h;have hl:cs.length=n:=by simpa using mapM_some_length h
 refine⟨hl,fun j y hj=> ?_⟩;have hjn:j<n:=by
  have:=(List.getElem?_eq_some_iff.1 hj).1;omega
 have:=mapM_some_get h j j (by simp [hjn]);rw [this,hj]
theorem rQ{k:IntKind}{n:Int}(h:(Lit.int k n).wf=true):k.wrap n=n:=by
 simp only [Lit.wf,Bool.and_eq_true,decide_eq_true_eq] at h;unfold IntKind.wrap;cases k<;>simp [IntKind.min,IntKind.max,IntKind.signed,IntKind.bits] at h⊢ <;>(try split)<;>omega
theorem aC8{G:Gh}{sz b:Nat}{e:TypeId}: ∀{css:List (List AV)}{vss:List (List Value)}{o:Nat},css.length=vss.length→
  (∀(i:Nat)(a_:List AV)(vs:List Value),css[i]?=some a_→vss[i]?=some vs→TyC P e a_∧R G (.k a_ vs)∧vs.length=sz∧ ∀j y,vs[j]?=some y→G.M b (o+i*sz+j)=some y)→R G (.r sz (css.map (mkV P e)) b o)
 | [],vss,o,_,_=> .nM sz b o
 |a_::css,[],o,hl,_=>by simp at hl
 |a_::css,vs::vss,o,hl,h=>by
  obtain⟨h1,h2,h3,h4⟩:=h 0 a_ vs rfl rfl;refine .fQ (h1.c h2) h3 (by simpa using h4) (aC8 (by simpa using hl) fun i as' vs' ha hv=> ?_);obtain⟨k1,k2,k3,k4⟩:=h (i+1) as' vs' (by simpa using ha) (by simpa using hv);refine⟨k1,k2,k3,fun j y hy=> ?_⟩;have:=k4 j y hy;rw [show o+sz+i*sz+j=o+(i+1)*sz+j from by rw [Nat.add_mul];omega];exact this
theorem contains_of{ts:List TypeId}{t:TypeId}(h:ts.contains t=true):t∈ts:=by simpa using h
theorem qI{G:Gh}: ∀{fs:List Field}{off m:Nat}{css:List (List AV)}{cs:List Value},mR P off fs=some m→cs.length=m→css.length=fs.length→
  (∀(i:Nat)(f:Field)(a_:List AV),fs[i]?=some f→css[i]?=some a_→R G (.k a_ ((cs.drop f.offset).take (P.cellsOf f.type))))→R G (.k css.flatten (cs.drop off))∧off≤m
 | [],off,m,css,cs,h,hl,hcl,_=>by
  simp only [mR,Option.some.injEq] at h;subst h;have:css= []:=List.length_eq_zero_iff.1 hcl;subst this;rw [List.drop_eq_nil_of_le (by omega)];exact⟨.cT,Nat.le_refl _⟩
 |f::fs,off,m,css,cs,h,hl,hcl,hk=>by
  simp only [mR] at h;split at h
  ·rename_i hb;have hoff:=Nat.eq_of_beq_eq_true hb;cases css with
   |nil=>simp at hcl
   |cons a_ css=>
    obtain⟨h1,h2⟩:=qI (cs:=cs) h hl (by simpa using hcl) fun i g as' hg ha=>hk (i+1) g as' (by simpa using hg) (by simpa using ha);have h0:=hk 0 f a_ rfl rfl;rw [hoff] at h0;refine⟨?_,by omega⟩;rw [List.flatten_cons];have e1:cs.drop off=(cs.drop off).take (P.cellsOf f.type)++cs.drop (off+P.cellsOf f.type):=by
     rw [←List.drop_drop,List.take_append_drop]
    rw [e1];exact h0.kG h1
  ·cases h
theorem wR{α β:Type}{n:Nat}{f:Nat→α→β→Prop}: ∀{xs:List α},xs.length=n→(∀i x,xs[i]?=some x→ ∃y,f i x y)→ ∃ys:List β,ys.length=n∧ ∀i x y,xs[i]?=some x→ys[i]?=some y→f i x y:=by
 induction n with
 |zero=>intro xs hl _;exact⟨[],rfl,fun i x y _ h=>by simp at h⟩
 |succ n ih=>
  intro xs hl h;have hne:n<xs.length:=by omega
  obtain⟨ys,h1,h2⟩:=ih (xs:=xs.take n) (by simp;omega) fun i x hx=>by
   have:i<n:=by
    have:=(List.getElem?_eq_some_iff.1 hx).1;simp at this;omega
   rw [List.getElem?_take_of_lt this] at hx;exact h i x hx
  obtain⟨y,hy⟩:=h n xs[n] (List.getElem?_eq_getElem hne);refine⟨ys++ [y],by simp [h1],fun i x z hx hz=> ?_⟩;rcases Nat.lt_or_ge i n with q|q
  ·rw [List.getElem?_append_left (by omega)] at hz;exact h2 i x z (by rw [List.getElem?_take_of_lt q];exact hx) hz
  ·have:i=n:=by
    have:=(List.getElem?_eq_some_iff.1 hz).1;simp at this;omega
   subst this;rw [List.getElem?_append_right (by omega)] at hz;simp [h1] at hz;subst hz;rw [List.getElem?_eq_getElem hne] at hx;cases hx;exact hy
theorem lY{e:TypeId}: ∀{ds:List (DataW H)}{css:List (List AV)},css.length=ds.length→(∀(i:Nat)(d:DataW H)(cs:List AV),ds[i]?=some d→css[i]?=some cs→cellsD P e d=some cs)→mF P e ds=some css
 | [],css,hl,_=>by
  have:css= []:=List.length_eq_zero_iff.1 hl;subst this;rfl
 |d::ds,[],hl,_=>by simp at hl
 |d::ds,cs::css,hl,h=>by
  simp only [mF];rw [h 0 d cs rfl rfl,lY (by simpa using hl) fun i d' cs' hd hc=>h (i+1) d' cs' (by simpa using hd) (by simpa using hc)]
theorem pI: ∀{ts:List TypeId}{ds:List (DataW H)}{css:List (List AV)},ts.length=ds.length→css.length=ds.length→(∀(i:Nat)(t:TypeId)(d:DataW H)(cs:List AV),ts[i]?=some t→ds[i]?=some d→css[i]?=some cs→cellsD P t d=some cs)→nH P ts ds=some css
 | [],[],css,_,hl,_=>by
  have:css= []:=List.length_eq_zero_iff.1 hl;subst this;rfl
 | [],d::ds,_,ht,_,_=>by simp at ht
 |t::ts,[],_,ht,_,_=>by simp at ht
 |t::ts,d::ds,[],_,hl,_=>by simp at hl
 |t::ts,d::ds,cs::css,ht,hl,h=>by
  simp only [nH];rw [h 0 t d cs rfl rfl rfl,pI (by simpa using ht) (by simpa using hl) fun i t' d' cs' h0 hd hc=>h (i+1) t' d' cs' (by simpa using h0) (by simpa using hd) (by simpa using hc)]
theorem rR{G:Gh}{sz:Nat}: ∀{css:List (List AV)}{cs:List Value}(off:Nat),off+css.length*sz=cs.length→
  (∀i a_,css[i]?=some a_→R G (.k a_ ((cs.drop (off+i*sz)).take sz)))→R G (.k css.flatten (cs.drop off))
 | [],cs,off,hl,_=>by
  rw [List.drop_eq_nil_of_le (by simp at hl;omega)];exact .cT
 |a_::css,cs,off,hl,h=>by
  have hl':off+sz+css.length*sz=cs.length:=by
   simp only [List.length_cons,Nat.add_mul] at hl;omega
  have h1:=rR (css:=css) (cs:=cs) (off+sz) hl' fun i as' ha=>by
   have:=h (i+1) as' (by simpa using ha);rw [show off+(i+1)*sz=off+sz+i*sz from by rw [Nat.add_mul];omega] at this;exact this
  have h0:=h 0 a_ rfl;simp only [Nat.zero_mul,Nat.add_zero] at h0;have e1:cs.drop off=(cs.drop off).take sz++cs.drop (off+sz):=by rw [←List.drop_drop,List.take_append_drop]
  rw [List.flatten_cons,e1];exact h0.kG h1
theorem vL{a:Addr}{v:Value}(h:w.cell? a=some v):a.spot=none:=by
 unfold World.cell? at h;split at h
 ·split at h
  ·cases h
  ·rename_i hq;simpa using hq
 ·cases h
theorem add_eq{a:Addr}{n:Nat}(h:a.spot=none):a.add n=⟨a.block,a.off+n,none⟩:=by
 unfold Addr.add;split
 ·rename_i q;subst q;cases a;simp at h;simp [h]
 ·rfl
theorem aAT{ts:List TypeId}(hts:ts.all (yU P ts)=true): ∀(fuel:Nat){t:TypeId}{cs:List Value}{x:DataW H×List MemPlace},t∈ts→DataW.trod enc P w 0 sp held fuel t cs=some x→
  ∃a_,cellsD P t x.1=some a_∧TyC P t a_∧R (G0 w) (.k a_ cs):=by
 intro fuel
 induction fuel with
 |zero=>intro t cs x _ h;simp [DataW.trod] at h
 |succ fuel ih=>
  intro t cs x hmem h;have hok:=List.all_eq_true.1 hts t hmem;unfold yU at hok;cases hu:P.underlying t with
  |none=>rw [hu] at hok;cases hok
  |some u=>
   rw [hu] at hok;cases u with
   |bool=>
    obtain⟨b,rfl,rfl⟩:=DataW.trod_bool hu h;exact⟨_,rfl,.bool b hu,.aT (.bool b) rfl .cT⟩
   |int k=>
    obtain⟨n,rfl,rfl,hw⟩:=DataW.trod_int hu h;exact⟨_,rfl,.int hu (rQ hw),.aT (.int (rQ hw)) rfl .cT⟩
   |string=>
    obtain⟨s,rfl,rfl,hs⟩:=DataW.trod_string hu h;exact⟨_,rfl,.str _ hu (by simpa using hs),.aT (.str s hs) rfl .cT⟩
   |pointer e=>
    simp only [Bool.and_eq_true] at hok;rcases DataW.trod_pointer hu h with ⟨rfl,rfl⟩|⟨a,cs',y,n,hn,rfl,rfl,hc,hy⟩
    ·exact⟨[.cB],by simp [cellsD,hu],.aBY hu,.aT .cB rfl .cT⟩
    ·cases hn;obtain⟨a_,h1,h2,h3⟩:=ih (contains_of hok.1) hy;obtain⟨hl,hcell⟩:=p4 hc;refine⟨[.a8 (mkV P e a_) 0],by simp [cellsD,hu,h1],.ptr hu h2,.aT ?_ rfl .cT⟩;have hpos:0<P.cellsOf e:=by simpa using hok.2
     have hspot:a.spot=none:=by
      obtain⟨v,hv⟩: ∃v,cs'[0]?=some v:=⟨_,List.getElem?_eq_getElem (by omega)⟩
      exact vL (by simpa [Addr.add] using hcell 0 v hv)
     have hcell': ∀j y,cs'[j]?=some y→(G0 w).M a.block (a.off+j)=some y:=fun j y hj=>by
      have:=hcell j y hj;rw [add_eq hspot] at this;exact this
     have:=R.a8 (G:=G0 w) (b:=a.block) (o:=a.off) 0 (h2.c h3) hcell';have e1:(⟨a.block,a.off+0,none⟩:Addr)=a:=by cases a;simp at hspot;simp [hspot]
     rw [e1] at this;exact this
   |slice e=>
    simp only [Bool.and_eq_true] at hok;have hpos:0<P.cellsOf e:=by simpa using hok.2
    rcases DataW.trod_slice hu h with ⟨rfl,rfl⟩|⟨a,len,cap,elems,rest,n,hn,rfl,rfl,_,hlc,hcm,hel,hget,_,_⟩
    ·exact⟨[.slice 0 [] .no],by simp [cellsD,hu],.slice (css:= []) hu (Nat.zero_le _) (by simp),.aT (.aW (Nat.zero_le _) trivial) rfl .cT⟩
    ·cases hn;have hone: ∀i x,elems[i]?=some x→ ∃p:List AV×List Value,cellsD P e x.1=some p.1∧TyC P e p.1∧R (G0 w) (.k p.1 p.2)∧w.cells? 0 (a.add (i*P.cellsOf e)) (P.cellsOf e)=some p.2:=by
      intro i x hx;have hi:i<len:=by
       have:=(List.getElem?_eq_some_iff.1 hx).1;omega
      have:=hget i hi;rw [hx,Option.bind_eq_some_iff] at this;obtain⟨vs,h1,h2⟩:=this;obtain⟨a_,k1,k2,k3⟩:=ih (contains_of hok.1) h2;exact⟨(a_,vs),k1,k2,k3,h1⟩
     obtain⟨ps,hpl,hps⟩:=wR hel hone;have hcss:(ps.map (·.1)).length=elems.length:=by simp [hpl,hel]
     refine⟨[.slice (szC (P.cellsOf e) ((ps.map (·.1)).map (mkV P e))) ((ps.map (·.1)).map (mkV P e)) .no],?_,.slice hu ?_ ?_,?_⟩
     ·simp only [cellsD,hu];rw [lY (css:=ps.map (·.1)) (by simp [hpl,hel]) fun i d cs hd hc=> ?_];simp only [List.getElem?_map,Option.map_eq_some_iff] at hd hc;obtain⟨x,hx,rfl⟩:=hd;obtain⟨p,hp,rfl⟩:=hc;exact(hps i x p hx hp).1
     ·simp [hpl];omega
     ·intro cs hcs;obtain⟨p,hp,rfl⟩:=List.mem_map.1 hcs;obtain⟨i,hi⟩:=List.getElem?_of_mem hp;obtain⟨x,hx⟩: ∃x,elems[i]?=some x:=⟨_,List.getElem?_eq_getElem (by have:=(List.getElem?_eq_some_iff.1 hi).1;omega)⟩
      exact(hps i x p hx hi).2.1
     ·refine .aT ?_ rfl .cT;have hlen:((ps.map (·.1)).map (mkV P e)).length=len:=by simp [hpl]
      rcases Nat.eq_zero_or_pos len with h0|hposl
      ·subst h0;have:ps= []:=List.length_eq_zero_iff.1 hpl;subst this;exact .aW hcm trivial
      ·have hfirst:a.spot=none:=by
        obtain⟨x,hx⟩: ∃x,elems[0]?=some x:=⟨_,List.getElem?_eq_getElem (by omega)⟩
        obtain⟨p,hp⟩: ∃p,ps[0]?=some p:=⟨_,List.getElem?_eq_getElem (by omega)⟩
        obtain⟨hl,hcell⟩:=p4 (hps 0 x p hx hp).2.2.2;obtain⟨v,hv⟩: ∃v,p.2[0]?=some v:=⟨_,List.getElem?_eq_getElem (by omega)⟩
        exact vL (by simpa [Addr.add] using hcell 0 v hv)
       have hr:R (G0 w) (.r (P.cellsOf e) ((ps.map (·.1)).map (mkV P e)) a.block a.off):=by
        refine aC8 (vss:=ps.map (·.2)) (by simp) fun i a_ vs ha hv=> ?_;simp only [List.getElem?_map,Option.map_eq_some_iff] at ha hv;obtain⟨p,hp,rfl⟩:=ha;obtain⟨p',hp',rfl⟩:=hv;rw [hp] at hp';cases hp';obtain⟨x,hx⟩: ∃x,elems[i]?=some x:=⟨_,List.getElem?_eq_getElem (by have:=(List.getElem?_eq_some_iff.1 hp).1;omega)⟩
        obtain⟨k1,k2,k3,k4⟩:=hps i x p hx hp;obtain⟨hl,hcell⟩:=p4 k4;refine⟨k2,k3,hl,fun j y hy=> ?_⟩;have:=hcell j y hy;rw [add_eq hfirst,add_eq rfl] at this;exact this
       have ea:a=⟨a.block,a.off,none⟩:=by cases a;simp at hfirst;simp [hfirst]
       rw [ea];have:=R.bA (G:=G0 w) (sz:=P.cellsOf e) (xs:=(ps.map (·.1)).map (mkV P e)) (o:= .no) (b:=a.block) (off:=a.off) (c:=cap) (by rw [hlen];exact hlc) hcm hr trivial;rw [hlen] at this;have hne:szC (P.cellsOf e) ((ps.map (·.1)).map (mkV P e))=P.cellsOf e:=by
        cases hq:(ps.map (·.1)).map (mkV P e) with
        |nil=>rw [hq] at hlen;simp at hlen;omega
        |cons y ys=>rfl
       rw [hne];exact this
   |struct fs=>
    simp only [Bool.and_eq_true,beq_iff_eq] at hok;obtain⟨xs,n,hn,rfl,hl,hxl,hget⟩:=DataW.trod_struct hu h;cases hn;have hone: ∀(i:Nat)(x:DataW H×List MemPlace),xs[i]?=some x→ ∃a_:List AV,∀f:Field,fs[i]?=some f→cellsD P f.type x.1=some a_∧TyC P f.type a_∧R (G0 w) (.k a_ ((cs.drop f.offset).take (P.cellsOf f.type))):=by
     intro i x hx;obtain⟨f,hf⟩: ∃f,fs[i]?=some f:=⟨_,Array.getElem?_eq_getElem (by have:=(List.getElem?_eq_some_iff.1 hx).1;omega)⟩
     have h1:=hget i f hf;rw [hx] at h1;obtain⟨a_,k1,k2,k3⟩:=ih (contains_of (List.all_eq_true.1 hok.2 f (Array.mem_toList_iff.2 (Array.mem_of_getElem? hf)))) h1;exact⟨a_,fun g hg=>by rw [hf] at hg;cases hg;exact⟨k1,k2,k3⟩⟩
    obtain⟨css,hcl,hcs⟩:=wR (β:=List AV) hxl hone;have hxi: ∀(i:Nat)(f:Field),fs[i]?=some f→ ∃x,xs[i]?=some x:=fun i f hf=>⟨_,List.getElem?_eq_getElem (by have:=(Array.getElem?_eq_some_iff.1 hf).1;omega)⟩
    refine⟨css.flatten,?_,.struct hu hcl fun i f a_ hf ha=> ?_,?_⟩
    ·simp only [cellsD,hu];rw [pI (css:=css) (by simp [hxl]) (by simp [hxl,hcl]) fun i t d a_ ht hd ha=> ?_];simp only [List.getElem?_map,Option.map_eq_some_iff] at ht hd;obtain⟨f,hf,rfl⟩:=ht;obtain⟨x,hx,rfl⟩:=hd;exact(hcs i x a_ hx ha f (by simpa using hf)).1
    ·obtain⟨x,hx⟩:=hxi i f hf;exact(hcs i x a_ hx ha f hf).2.1
    ·have:=(qI (P:=P) (G:=G0 w) (css:=css) (cs:=cs) hok.1 hl (by simpa using hcl) fun i f a_ hf ha=>by
      obtain⟨x,hx⟩:=hxi i f (by simpa using hf);exact(hcs i x a_ hx ha f (by simpa using hf)).2.2).1
     simpa using this
   |array n e=>
    simp only [Bool.and_eq_true,beq_iff_eq] at hok;obtain⟨xs,m,hm,rfl,hl,hxl,hget⟩:=DataW.trod_array hu h;cases hm;have hone: ∀i x,xs[i]?=some x→ ∃a_:List AV,cellsD P e x.1=some a_∧TyC P e a_∧R (G0 w) (.k a_ ((cs.drop (i*P.cellsOf e)).take (P.cellsOf e))):=by
     intro i x hx;have hi:i<n:=by have:=(List.getElem?_eq_some_iff.1 hx).1;omega
     have h1:=hget i hi;rw [hx] at h1;exact ih (contains_of hok.1) h1
    obtain⟨css,hcl,hcs⟩:=wR hxl hone;have hxi: ∀i a_,css[i]?=some a_→ ∃x,xs[i]?=some x:=fun i a_ hf=>⟨_,List.getElem?_eq_getElem (by have:=(List.getElem?_eq_some_iff.1 hf).1;omega)⟩
    refine⟨css.flatten,?_,.array hu hcl fun a_ ha=> ?_,?_⟩
    ·simp only [cellsD,hu];rw [lY (css:=css) (by simp [hxl,hcl]) fun i d a_ hd ha=> ?_];simp only [List.getElem?_map,Option.map_eq_some_iff] at hd;obtain⟨x,hx,rfl⟩:=hd;exact(hcs i x a_ hx ha).1
    ·obtain⟨i,hi⟩:=List.getElem?_of_mem ha;obtain⟨x,hx⟩:=hxi i a_ hi;exact(hcs i x a_ hx hi).2.1
    ·have:=rR (G:=G0 w) (sz:=P.cellsOf e) (css:=css) (cs:=cs) 0 (by rw [hcl];omega) fun i a_ ha=>by
      obtain⟨x,hx⟩:=hxi i a_ ha;simpa using (hcs i x a_ hx ha).2.2
     simpa using this
   |_=>cases hok
end
end Go.Fw
namespace Go.Fw
open Go Go.WideShapes
inductive Typed(P:Program):List TypeId→List AV→Prop
 |nil:Typed P [] []
 |cons {t:TypeId} {ts:List TypeId} {cs:List AV} {avs:List AV} (h:TyC P t cs) (k:Typed P ts avs):Typed P (t::ts) (mkV P t cs::avs)
def wD(P:Program):List (String×DataW Unit)→Option (List (Nat×AV))
 | []=>some []
 |(n,d)::r=>
  match P.globalNamed n,wD P r with
  |some g,some gs=>
   match(P.globals[g]?).map (·.type) with
   |some t=>match cellsD P t d with|some cs=>some ((g,mkV P t cs)::gs)|none=>none
   |none=>none
  |_,_=>none
def vP(P:Program)(ts:List TypeId):List (String×DataW Unit)→Bool
 | []=>true
 |(n,_)::r=>(match P.globalNamed n with|some g=>(match(P.globals[g]?).map (·.type) with|some t=>ts.contains t|none=>false)|none=>false)&&vP P ts r
section
variable {P : Program} {P' : aK} {H : Type} {enc : TypeId × Value → H} {W : World} {ts : List TypeId}
theorem aEy(hts:ts.all (yU P ts)=true){t:TypeId}(ht:t∈ts){base:Nat}{v:Value}(hval:Value.okWide P W .any base t v){d:DataW H}{ps:List MemPlace}{sp:Nat→Bool}{held:Bool}
(h:DataW.Trod enc P W 0 sp held t v d ps): ∃a_,TyC P t a_∧R (G0 W) (.v (mkV P t a_) v):=by
 obtain⟨fuel,hf⟩:=h;obtain⟨a_,_,h2,h3⟩:=aAT hts fuel ht hf;refine⟨a_,h2,?_⟩;have one:v.oneCell'=true→fY P t=some false→R (G0 W) (.v (mkV P t a_) v):=fun hv ha=>by
  obtain⟨a,rfl,_⟩:=h2.lone ha;unfold mkV;rw [ha];rw [uY hv] at h3;cases h3 with
  |aT r1 _ _=>exact r1
 have agg: ∀cs,v= .agg cs→fY P t=some true→R (G0 W) (.v (mkV P t a_) v):=fun cs hv ha=>by
  subst hv;unfold mkV;rw [ha];have:R (G0 W) (.k a_ cs.toList):=h3;simpa using R.agg this
 have hok:=List.all_eq_true.1 hts t ht;unfold yU at hok;cases hu:P.underlying t with
 |none=>rw [hu] at hok;cases hok
 |some u=>
  rw [hu] at hok;cases u with
  |bool=>obtain⟨b,rfl⟩:=okWide_bool hu hval;exact one rfl (by rw [fY,hu])
  |int k=>obtain⟨b,rfl⟩:=okWide_int hu hval;exact one rfl (by rw [fY,hu])
  |string=>obtain⟨b,rfl⟩:=okWide_string hu hval;exact one rfl (by rw [fY,hu])
  |pointer e=>obtain⟨b,rfl⟩:=okWide_pointer hu hval;exact one rfl (by rw [fY,hu])
  |slice e=>obtain⟨a,l,c,rfl⟩:=okWide_slice hu hval;exact one rfl (by rw [fY,hu])
  |struct fs=>
   have h0:=hval;unfold Value.okWide at h0;rw [hu] at h0;obtain⟨cs,hv,_⟩:=h0;exact agg cs hv (by rw [fY,hu])
  |array n e=>
   have h0:=hval;unfold Value.okWide at h0;rw [hu] at h0;obtain⟨cs,hv,_⟩:=h0;exact agg cs hv (by rw [fY,hu])
  |_=>cases hok
theorem aAQ(hts:ts.all (yU P ts)=true){base:Nat}{sp:Nat→Bool}{held:Bool}: ∀{us:List TypeId}{vs:List Value}{ds:List (DataW H)}{ps:List MemPlace},(us.all ts.contains)=true→
  (∀(j:Nat)(t:TypeId)(v:Value),us[j]?=some t→vs[j]?=some v→Value.okWide P W .any base t v)→DataW.TrodAll enc P W 0 sp held us vs ds ps→ ∃avs,Typed P us avs∧R (G0 W) (.l avs vs)∧ds.length=us.length
 | [],[],[],ps,_,_,_=>⟨[],.nil,.iO,rfl⟩
 |t::us,v::vs,d::ds,ps,hc,hv,h=>by
  obtain⟨p,q,h1,h2,_⟩:=h;simp only [List.all_cons,Bool.and_eq_true] at hc;obtain⟨a_,k1,k2⟩:=aEy hts (contains_of hc.1) (hv 0 t v rfl rfl) h1;obtain⟨avs,k3,k4,k5⟩:=aAQ hts hc.2 (fun j t v ht hv'=>hv (j+1) t v (by simpa using ht) (by simpa using hv')) h2;exact⟨_,.cons k1 k3,.bK k2 k4,by simp [k5]⟩
 | [],[],_::_,_,_,_,h=>h.elim
 | [],_::_,_,_,_,_,h=>h.elim
 |_::_,[],_,_,_,_,h=>h.elim
 |_::_,_::_,[],_,_,_,h=>h.elim
theorem trod_lt{t:TypeId}{v:Value}{d:DataW H}{ps:List MemPlace}{sp:Nat→Bool}{held:Bool}(h:DataW.Trod enc P W 0 sp held t v d ps): ∀x∈ps,x.block<W.heap.size:=by
 obtain⟨m,hm⟩:=h;exact DataW.trod_lt m _ _ _ hm
theorem nX(hl:laidOutB P=true){W':World}(hb:RowKit.Below W.heap.size W W'): ∀{us:List TypeId}{vs:List Value}{ds:List (DataW H)}{ps:List MemPlace},(us.all fun t=>P.readableRec t&&decide (t<P.types.size))=true→
  DataW.TrodAll enc P W 0 (fun _=>true) true us vs ds ps→DataW.TrodAll enc P W' 0 (fun b=>decide (b<W.heap.size)) true us vs ds ps
 | [],[],[],_,_,h=>h
 |t::us,v::vs,d::ds,ps,hc,h=>by
  obtain⟨p,q,h1,h2,h3⟩:=h;simp only [List.all_cons,Bool.and_eq_true,decide_eq_true_eq] at hc;exact⟨p,q,RowKit.Below.trod hl hc.1.1 hc.1.2 h1 hb (trod_lt h1),nX hl hb (by simpa using hc.2) h2,h3⟩
 | [],[],_::_,_,_,h=>h.elim
 | [],_::_,_,_,_,h=>h.elim
 |_::_,[],_,_,_,h=>h.elim
 |_::_,_::_,[],_,_,h=>h.elim
theorem wL(hP:POk P P')(hp:rX P P'){f:Nat}{fn:Func}{af:AF}(haf:P'.fn f=some af)(hts:ts.all (yU P ts)=true)(hpar:(fn.params.toList.all ts.contains)=true)(hl:laidOutB P=true)
(hrd:(fn.params.toList.all fun t=>P.readableRec t&&decide (t<P.types.size))=true){tb:TypeId}(hres:fn.resultTypes= #[tb])(hb:P.underlying tb=some .bool){s:ChangeSpec}(hvars:s.vars= [])
(hspec: ∀ds:List (DataW H),ds.length=fn.params.toList.length→s.fn H (ds++ [])={results:= [.lit (.bool true)],args:=ds})
(law: ∀avs,Typed P fn.params.toList avs→ ∃n s',(cC P' n).call (.func f) avs dE=some (.ret (.bool true),s')){apart:Bool}{base:Nat}{args:Array Value}{ds gs:List (DataW H)}{before:List MemPlace}
(hval: ∀(j:Nat)(t:TypeId)(v:Value),fn.params[j]?=some t→args[j]?=some v→Value.okWide P W .any base t v)(hW:DataW.Whole enc P fn.params.toList s.vars apart W args.toList ds gs before)(hg:cS P' (G0 W)):
  Calls P f args W fun e W'=> ∃v,e= .returned v∧s.post enc P fn apart true false false W args v W':=by
 have hW':=hW;obtain⟨p,q,hA,hV,rfl,hfz,hnd⟩:=hW;rw [hvars] at hV;obtain⟨rfl,rfl⟩:gs= []∧q= []:=by
  cases gs with
  |nil=>exact⟨rfl,hV⟩
  |cons g r=>exact absurd hV (by intro h;cases h)
 obtain⟨avs,h1,h2,h3⟩:=aAQ (base:=base) hts hpar (fun j t v ht hv=>hval j t v (by simpa using ht) (by simpa using hv)) hA;obtain⟨n,s',hcall⟩:=law avs h1;have hc:=aC4 hP hp haf hcall W h2 hg;rw [Array.toArray_toList] at hc;refine hc.mono fun e W' hq=> ?_;obtain⟨x,G',rfl,hx,hbel⟩:=hq;cases hx;refine⟨_,rfl,ds,[],p++ [],[],p,[],hW',?_,?_,?_,hbel.frame _,fun h=>by cases h⟩
 ·rw [hspec ds h3,hres];refine⟨[],[],?_,rfl,rfl⟩;exact⟨1,by simp [DataW.trod,Value.cells,hb]⟩
 ·rw [hspec ds h3];exact nX hl hbel hrd hA
 ·rw [hspec ds h3,hvars]
  rfl
theorem aAU(hts:ts.all (yU P ts)=true): ∀{l:List (String×DataW Unit)}{ps:List MemPlace}{gl:List (Nat×AV)},vP P ts l=true→wD P l=some gl→DataW.LaidVars P W l ps→ ∀g,R (G0 W) (.v (.a8 (rV gl g) 0) (.pointer (some ⟨g,0,none⟩)))
 | [],ps,gl,_,hg,_,g=>by
  simp only [wD,Option.some.injEq] at hg;subst hg;have:=R.a8 (G:=G0 W) (v:= .agg []) (vs:= []) (b:=g) (o:=0) 0 (.kH .cT) (fun j x hx=>by simp at hx);simpa [rV] using this
 |(n,d)::r,ps,gl,ht,hg,h,g=>by
  obtain⟨g0,t,cs,fuel,p,q,h1,h2,h3,h4,h5,_⟩:=h;simp only [vP,Bool.and_eq_true,h1,h2] at ht;simp only [wD,h1] at hg;split at hg
  ·rename_i gg gs hgg hgs;cases hgg;obtain⟨a_,k1,k2,k3⟩:=aAT hts fuel (contains_of ht.1) h4;have k1':cellsD P t d=some a_:=k1;rw [h2] at hg;simp only [k1',Option.some.injEq] at hg;subst hg;simp only [rV];cases hb:Nat.beq g g0 with
   |false=>exact aAU hts ht.2 hgs h5 g
   |true=>
    have:=Nat.eq_of_beq_eq_true hb;subst this;have hcell: ∀j x,cs.toList[j]?=some x→(G0 W).M g (0+j)=some x:=fun j x hx=>by
     unfold World.var? at h3;rw [h1] at h3;simp only [Option.bind_some] at h3;split at h3
     ·rename_i cs' _ _ hh;cases h3;simp only [G0,World.cell?,hh,Nat.zero_add];simpa using hx
     ·cases h3
    have:=R.a8 (G:=G0 W) (b:=g) (o:=0) 0 (k2.c k3) hcell;simpa using this
  ·cases hg
end
end Go.Fw
set_option maxRecDepth 100000
namespace Go.Proofs.Ytfcfnkffgiklpaa.Code
open Go Go.Fw
noncomputable def tab:Tab:=(.node 23 (.node 11 (.node 5 (.node 2 .none (.node 3 .none (.node 4 (.leaf 3 c3) (.leaf 4 c4)))) (.node 8 (.node 6 (.leaf 5 c5) (.node 7 (.leaf 6 c6) (.leaf 7 c7))) (.node 9 (.leaf 8 c8) (.node 10 (.leaf 9 c9) (.leaf 10 c10))))) (.node 17 (.node 14 (.node 12 (.leaf 11 c11) (.node 13 (.leaf 12 c12) (.leaf 13 c13))) (.node 15 (.leaf 14 c14) (.node 16 (.leaf 15 c15) (.leaf 16 c16)))) (.node 20 (.node 18 (.leaf 17 c17) (.node 19 .none (.leaf 19 c19))) (.node 21 (.leaf 20 c20) (.node 22 .none (.leaf 22 c22)))))) (.node 35 (.node 29 (.node 26 (.node 24 (.leaf 23 c23) (.node 25 (.leaf 24 c24) (.leaf 25 c25))) (.node 27 (.leaf 26 c26) (.node 28 (.leaf 27 c27) (.leaf 28 c28)))) (.node 32 (.node 30 (.leaf 29 c29) .none) (.node 33 (.leaf 32 c32) (.node 34 (.leaf 33 c33) .none)))) (.node 41 (.node 38 (.node 36 (.leaf 35 c35) (.node 37 (.leaf 36 c36) (.leaf 37 c37))) (.node 39 .none (.node 40 .none (.leaf 40 c40)))) (.node 44 (.node 42 (.leaf 41 c41) (.node 43 (.leaf 42 c42) (.leaf 43 c43))) .none))))
end Go.Proofs.Ytfcfnkffgiklpaa.Code
namespace Go.Proofs.Ytfcfnkffgiklpaa
open Go Go.Fw
set_option maxRecDepth 100000
def gl0:List (Nat×AV):= []
end Go.Proofs.Ytfcfnkffgiklpaa
namespace Go.Fw
open Go
structure Ev{α:Type}(F:Nat→Option α)(Q:α→Prop):Prop where
 out: ∃r N,Q r∧ ∀n,N≤n→F n=some r
section
variable {α β : Type} {F F' : Nat → Option α} {Q Q' : α → Prop}
theorem Ev.mono(h:Ev F Q)(k: ∀r,Q r→Q' r):Ev F Q':=by
 obtain⟨r,N,h1,h2⟩:=h.out;exact⟨r,N,k r h1,h2⟩
theorem Ev.congr(h:Ev F Q)(e: ∀n,F' n=F n):Ev F' Q:=by
 obtain⟨r,N,h1,h2⟩:=h.out;exact⟨r,N,h1,fun n hn=>(e n).trans (h2 n hn)⟩
theorem Ev.one{r:α}(h: ∀n,F n=some r)(hq:Q r):Ev F Q:=⟨r,0,hq,fun n _=>h n⟩
theorem Ev.bind{G:Nat→α→Option β}{K:Nat→Option β}{Q:β→Prop}(h:Ev F (fun r=>Ev (fun n=>G n r) Q))(e: ∀n r,F n=some r→K n=G n r):Ev K Q:=by
 obtain⟨r,N,h1,h2⟩:=h.out;obtain⟨x,M,h3,h4⟩:=h1.out;exact⟨x,max N M,h3,fun n hn=>(e n r (h2 n (by omega))).trans (h4 n (by omega))⟩
theorem Ev.succ(h:Ev (fun n=>F (n+1)) Q):Ev F Q:=by
 obtain⟨r,N,h1,h2⟩:=h.out;refine⟨r,N+1,h1,fun n hn=> ?_⟩;cases n with
 |zero=>omega
 |succ n=>exact h2 n (by omega)
end
def fI(P:aK)(e:Env)(s:ASt)(op:AOp):Option (AV×ASt):=
 match aU P e op with
 |some v=>some (v,s)
 |none=>match dV P e s op with
  |some v=>some (v,s)
  |none=>cA P e s op
def plainO:AOp→Bool
 | .pend _| .shut .. | .defer .. | .panic _| .aI .. | .call .. =>false
 |_=>true
structure Wo(P:aK)(is:List AI)(pd:List (Nat×Nat))(fr:Fr)(s:ASt)(Q:gW→Prop):Prop where
 ev:Ev (fun n=>aM (cC P n) P is pd fr s) Q
section
variable {H : Handler} {P : aK} {i : AI} {d : Nat} {d' : Option Nat} {op : AOp} {gd : Option (Nat × Bool)} {pre : List Nat} {rest : List AI} {pd : List (Nat × Nat)} {fr : Fr} {e : Env} {ds : List dC} {s s1 : ASt} {Q : gW → Prop} {v : AV}
theorem qS(hp:plainO op=true)(hg:wanted e gd=some true)(h:fI P e s op=some (v,s1)):
  aM H P (⟨d',op,gd,pre⟩::rest) pd ⟨e,ds⟩ s=aM H P rest (aG d' pd) ⟨dD e d' v,ds⟩ s1:=by
 have key:(match aU P e op with
    |some v=>aM H P rest (aG d' pd) ⟨dD e d' v,ds⟩ s
    |none=>
     match dV P e s op with
     |some v=>aM H P rest (aG d' pd) ⟨dD e d' v,ds⟩ s
     |none=>
      match cA P e s op with
      |some (v,s1)=>aM H P rest (aG d' pd) ⟨dD e d' v,ds⟩ s1
      |none=>none)=aM H P rest (aG d' pd) ⟨dD e d' v,ds⟩ s1:=by
  unfold fI at h;cases h1:aU P e op with
  |some x=>simp [h1] at h;obtain⟨rfl,rfl⟩:=h;rfl
  |none=>
   cases h2:dV P e s op with
   |some x=>simp [h1,h2] at h;obtain⟨rfl,rfl⟩:=h;rfl
   |none=>simp [h1,h2] at h;simp [h]
 rw [←key];simp only [aM,hg];cases op<;>first|rfl|(simp [plainO] at hp)
theorem aC(h:Q (.norm fr s)):Wo P [] pd fr s Q:=⟨.one (fun _=>rfl) h⟩
theorem aFg(hp:plainO op=true)(hg:wanted e gd=some true)(h:fI P e s op=some (v,s1))(k:Wo P rest (aG d' pd) ⟨dD e d' v,ds⟩ s1 Q):Wo P (⟨d',op,gd,pre⟩::rest) pd ⟨e,ds⟩ s Q:=
 ⟨k.ev.congr fun _=>qS hp hg h⟩
def Can(v:AV):Prop:=eK v=some v∧bE v=true
inductive uB:List AV→Prop
 |nil:uB []
 |cons {v:AV} {vs:List AV} (h:Can v) (t:uB vs):uB (v::vs)
theorem uB.pure{vs:List AV}(h:uB vs):dM vs=true:=by
 induction h with
 |nil=>rfl
 |cons h _ ih=>simp only [dM,h.2,ih,Bool.and_self]
theorem aDz(s:List UInt8):Can (.str s):=⟨rfl,rfl⟩
structure Pf(P:aK)(g:Nat)(args:List AV)(v:AV):Prop where
 ev:Ev (fun n=>(cC P n).call (.func g) args dE) (fun r=> ∃v0,r.1= .ret v0∧gZ v0=some v)
 pure:bE v=true
 can:uB args
theorem xT{st:Bool}{f:aH}{args:List aH}{g:Nat}{a b vs:List AV}(hg:wanted e gd=some true)(hf:evO P e f= .func g a b)(ha:cM (args.map (evO P e))=some vs)(hc:Pf P g (a++vs++b) v)
(k:Wo P rest (aG d' pd) ⟨dD e d' v,ds⟩ s Q):Wo P (⟨d',.aI st f args,gd,pre⟩::rest) pd ⟨e,ds⟩ s Q:=by
 obtain⟨⟨r,s2⟩,N,⟨v0,h1,h2⟩,h3⟩:=hc.ev.out;simp only at h1;subst h1;obtain⟨x,M,h4,h5⟩:=k.ev.out;refine⟨⟨x,max N M,h4,fun n hn=> ?_⟩⟩;simp only [aM,hg,hf,ha,hc.can.pure,Bool.or_true,h3 n (by omega),h2,hc.pure];exact h5 n (by omega)
end
structure Wk(P:aK)(rd:Option Nat)(c:AC)(fr:Fr)(s:ASt)(Q:cY→Fr→ASt→Prop):Prop where
 ev:Ev (fun n=>evC (cC P n) P rd n c fr s) (fun r=>Q r.ex r.fr r.s)
def aD8(k:Fr→ASt→Prop)(Q:cY→Fr→ASt→Prop):cY→Fr→ASt→Prop
 | .normal,fr,s=>k fr s
 |e,fr,s=>Q e fr s
def aEY(Q:cY→Fr→ASt→Prop):gW→Prop
 | .norm fr s=>Q .normal fr s
 | .pan v fr s=>Q (.panic v) fr s
def aE9(id:Nat)(Q:cY→Fr→ASt→Prop):cY→Fr→ASt→Prop
 | .exit j,fr,s=>match Nat.beq j id with|true=>Q .normal fr s|false=>Q (.exit j) fr s
 |e,fr,s=>Q e fr s
section
variable {P : aK} {rd : Option Nat} {fr : Fr} {s : ASt} {Q Q' : cY → Fr → ASt → Prop}
theorem Wk.mono{c:AC}(h:Wk P rd c fr s Q)(k: ∀ex fr s,Q ex fr s→Q' ex fr s):Wk P rd c fr s Q':=⟨h.ev.mono fun _ q=>k _ _ _ q⟩
theorem aP(h:Q .normal fr s):Wk P rd .skip fr s Q:=⟨.one (fun _=>rfl) h⟩
theorem aL(h:Q .ret fr s):Wk P rd .ret fr s Q:=⟨.one (fun _=>rfl) h⟩
theorem j6{id:Nat}(h:Q (.exit id) fr s):Wk P rd (.exit id) fr s Q:=⟨.one (fun _=>rfl) h⟩
theorem aD{a b:AC}(h:Wk P rd a fr s (aD8 (fun fr s=>Wk P rd b fr s Q) Q)):Wk P rd (.seq a b) fr s Q:=by
 obtain⟨⟨ex,fr1,s1⟩,N,h1,h2⟩:=h.ev.out;cases ex with
 |normal=>
  obtain⟨r,M,h3,h4⟩:=(h1:Wk P rd b fr1 s1 Q).ev.out;exact⟨⟨r,max N M,h3,fun n hn=>by simp only [evC,h2 n (by omega)];exact h4 n (by omega)⟩⟩
 |exit id=>exact⟨⟨⟨.exit id,fr1,s1⟩,N,h1,fun n hn=>by simp only [evC,h2 n hn]⟩⟩
 |ret=>exact⟨⟨⟨.ret,fr1,s1⟩,N,h1,fun n hn=>by simp only [evC,h2 n hn]⟩⟩
 |panic v=>exact⟨⟨⟨.panic v,fr1,s1⟩,N,h1,fun n hn=>by simp only [evC,h2 n hn]⟩⟩
theorem aDn{c:aH}{t f:AC}{b:Bool}(hb:evO P fr.env c= .bool b)(ht:b=true→Wk P rd t fr s Q)(hf:b=false→Wk P rd f fr s Q):Wk P rd (.cond c t f) fr s Q:=by
 cases b with
 |true=>exact⟨(ht rfl).ev.congr fun _=>by simp only [evC,hb]⟩
 |false=>exact⟨(hf rfl).ev.congr fun _=>by simp only [evC,hb]⟩
theorem aFt{c:aH}{t f:AC}(hb:evO P fr.env c= .bool true)(ht:Wk P rd t fr s Q):Wk P rd (.cond c t f) fr s Q:=⟨ht.ev.congr fun _=>by simp only [evC,hb]⟩
theorem aFs{c:aH}{t f:AC}(hb:evO P fr.env c= .bool false)(hf:Wk P rd f fr s Q):Wk P rd (.cond c t f) fr s Q:=⟨hf.ev.congr fun _=>by simp only [evC,hb]⟩
theorem aE{dr:Bool}{ops:List AI}(h:Wo P ops [] fr s (aEY Q)):Wk P rd (.reg dr ops) fr s Q:=by
 obtain⟨r,N,h1,h2⟩:=h.ev.out;cases r with
 |norm fr s=>exact⟨⟨⟨.normal,fr,s⟩,N,h1,fun n hn=>by simp only [evC,h2 n hn]⟩⟩
 |pan v fr s=>exact⟨⟨⟨.panic v,fr,s⟩,N,h1,fun n hn=>by simp only [evC,h2 n hn]⟩⟩
theorem cN{id:Nat}{b:AC}(h:Wk P rd b fr s (aE9 id Q)):Wk P rd (.block id b) fr s Q:=by
 obtain⟨⟨ex,fr1,s1⟩,N,h1,h2⟩:=h.ev.out;cases ex with
 |normal=>exact⟨⟨⟨.normal,fr1,s1⟩,N,h1,fun n hn=>by simp only [evC,h2 n hn]⟩⟩
 |exit j=>
  simp only [aE9] at h1;cases hj:Nat.beq j id with
  |true=>rw [hj] at h1;exact⟨⟨⟨.normal,fr1,s1⟩,N,h1,fun n hn=>by simp only [evC,h2 n hn,hj]⟩⟩
  |false=>rw [hj] at h1;exact⟨⟨⟨.exit j,fr1,s1⟩,N,h1,fun n hn=>by simp only [evC,h2 n hn,hj]⟩⟩
 |ret=>exact⟨⟨⟨.ret,fr1,s1⟩,N,h1,fun n hn=>by simp only [evC,h2 n hn]⟩⟩
 |panic v=>exact⟨⟨⟨.panic v,fr1,s1⟩,N,h1,fun n hn=>by simp only [evC,h2 n hn]⟩⟩
def aFj:cY→Bool
 | .normal| .ret=>true
 |_=>false
theorem xK{s0 s3:ASt}{v1 v:AV}(h:gZ v1=some v):gZ (settle s0 v1 s3).1=some v:=by
 unfold settle;split
 ·rename_i sz xs t;have h':some (AV.slice (szC sz xs) xs .no)=some v:=h;split
  ·exact h
  ·split
   ·split
    ·exact h'
    ·exact h'
   ·exact h'
 ·exact h
end
def aE4{α:Type}(v:AV)(k:AV→α):α:=
 match v with
 | .int a b=>k (.int a b)| .bool b=>k (.bool b)| .str s=>k (.str s)| .slice a b c=>k (.slice a b c)| .bM a b c d e=>k (.bM a b c d e)
 | .agg cs=>k (.agg cs)| .tuple vs=>k (.tuple vs)| .cB=>k .cB| .ptr a b=>k (.ptr a b)| .a8 v o=>k (.a8 v o)| .func a b c=>k (.func a b c)
 | .bQ=>k .bQ| .yield l=>k (.yield l)| .map l=>k (.map l)| .cF=>k .cF| .iface a b=>k (.iface a b)| .a9=>k .a9| .iter l=>k (.iter l)| .fZ=>k .fZ
theorem aDB{α:Type}(v:AV)(k:AV→α):aE4 v k=k v:=by cases v<;>rfl
def aCU{α:Type}(e:Env)(d:Option Nat)(v:AV)(k:Env→α):α:=match d with|none=>k e|some i=>k (upd e i v)
theorem wM{α:Type}(e:Env)(d:Option Nat)(v:AV)(k:Env→α):aCU e d v k=k (dD e d v):=by cases d<;>rfl
def aAO{α:Type}(d:Option Nat)(pd:List (Nat×Nat))(k:List (Nat×Nat)→α):α:=match pd with| []=>k []|x::xs=>k (aG d (x::xs))
theorem yA{α:Type}(d:Option Nat)(pd:List (Nat×Nat))(k:List (Nat×Nat)→α):aAO d pd k=k (aG d pd):=by
 cases pd with
 |nil=>cases d<;>rfl
 |cons x xs=>rfl
def aFa{α:Type}(s:ASt)(k:ASt→α):α:=match s with|⟨b,t,lb,lt⟩=>k ⟨b,t,lb,lt⟩
structure Now where
 pd:List (Nat×Nat)
 e:Env
 ds:List dC
 s:ASt
def w5(see:Bool)(d:Option Nat)(pd:List (Nat×Nat))(e:Env)(ds:List dC)(v:AV)(s:ASt):Option Now:=
 match see with
 |true=>aE4 v fun v=>aAO d pd fun pd=>aCU e d v fun e=>some ⟨pd,e,ds,s⟩
 |false=>aAO d pd fun pd=>aCU e d v fun e=>some ⟨pd,e,ds,s⟩
theorem aDm(see:Bool)(d:Option Nat)(pd:List (Nat×Nat))(e:Env)(ds:List dC)(v:AV)(s:ASt):w5 see d pd e ds v s=some ⟨aG d pd,dD e d v,ds,s⟩:=by
 cases see<;>simp only [w5,aDB,yA,wM]
def stU(see:Bool)(P:aK)(i:AI)(pd:List (Nat×Nat))(e:Env)(ds:List dC)(s:ASt):Option Now:=
 match wanted e i.gd with
 |none=>none
 |some false=>match j3 P e i.op with|true=>aAO i.d pd fun pd=>aCU e i.d dX fun e=>some ⟨pd,e,ds,s⟩|false=>none
 |some true=>
  match i.op with
  | .pend z=>match i.d with|some d=>some ⟨(d,z.length)::aG (some d) pd,upd e d .fZ,ds,s⟩|none=>none
  | .shut d sz x=>
   match i.d,eK (evO P e x) with
   |none,some v=>match decide ((cellsOf v).length=sz),pd.any (fun p=>Nat.beq p.1 d&&Nat.beq p.2 sz) with|true,true=>some ⟨aG (some d) pd,upd e d (.a8 v 0),ds,s⟩|_,_=>none
   |_,_=>none
  | .defer f args=>
   match evO P e f,cM (args.map (evO P e)) with
   | .func g a b,some vs=>aCU e i.d dX fun e=>some ⟨aG i.d pd,e,.call g (a++vs++b)::ds,s⟩
   |_,_=>none
  | .panic _=>none
  | .aI .. =>none
  | .call .. =>none
  | .mv x=>w5 see i.d pd e ds (evO P e x) s
  |op=>
   match aU P e op with
   |some v=>w5 see i.d pd e ds v s
   |none=>match dV P e s op with
    |some v=>w5 see i.d pd e ds v s
    |none=>match cA P e s op with
     |some (v,s1)=>aFa s1 fun s1=>w5 see i.d pd e ds v s1
     |none=>none
section
variable {H : Handler} {P : aK} {i : AI} {rest : List AI} {pd pd' : List (Nat × Nat)} {e e' : Env} {ds ds' : List dC} {s s' : ASt} {Q : gW → Prop}
theorem aEE{see:Bool}(h:stU see P i pd e ds s=some ⟨pd',e',ds',s'⟩):aM H P (i::rest) pd ⟨e,ds⟩ s=aM H P rest pd' ⟨e',ds'⟩ s':=by
 obtain⟨d,op,gd,pre⟩:=i;cases hw:wanted e gd with
 |none=>simp [stU,hw] at h
 |some b=>
  cases b with
  |false=>
   cases hk:j3 P e op with
   |false=>simp [stU,hw,hk] at h
   |true=>
   simp only [stU,hw,hk,yA,wM,Option.some.injEq,Now.mk.injEq] at h;obtain⟨rfl,rfl,rfl,rfl⟩:=h;simp only [aM,hw,hk]
  |true=>
   cases hp:plainO op with
   |true=>
    have key:stU see P ⟨d,op,gd,pre⟩ pd e ds s=(match fI P e s op with|some (v,s1)=>some ⟨aG d pd,dD e d v,ds,s1⟩|none=>none):=by
     have gen:(match aU P e op with
      |some v=>w5 see d pd e ds v s
      |none=>match dV P e s op with
       |some v=>w5 see d pd e ds v s
       |none=>match cA P e s op with
        |some (v,s1)=>aFa s1 fun s1=>w5 see d pd e ds v s1
        |none=>none)=(match fI P e s op with|some (v,s1)=>some ⟨aG d pd,dD e d v,ds,s1⟩|none=>none):=by
      unfold fI;simp only [aDm];cases aU P e op with
      |some v=>rfl
      |none=>cases dV P e s op with
       |some v=>rfl
       |none=>cases cA P e s op with
        |none=>rfl
        |some x=>rfl
     rw [←gen];simp only [stU,hw];cases op<;>first|rfl|(simp [plainO] at hp)
    rw [key] at h;cases hs:fI P e s op with
    |none=>rw [hs] at h;cases h
    |some x=>
     rw [hs] at h;cases h;exact qS hp hw hs
   |false=>
    cases op<;>first|(simp [plainO] at hp;done)|skip
    case pend z=>
     cases d with
     |none=>simp [stU,hw] at h
     |some d=>
      simp only [stU,hw,Option.some.injEq,Now.mk.injEq] at h;obtain⟨rfl,rfl,rfl,rfl⟩:=h;simp only [aM,hw]
    case shut d0 sz x=>
     cases d with
     |some d=>simp [stU,hw] at h
     |none=>
      simp only [stU,hw] at h;cases hf:eK (evO P e x) with
      |none=>simp [hf] at h
      |some v=>
       simp only [hf] at h;split at h
       ·rename_i h1 h2;cases h;simp only [aM,hw,hf];rw [if_pos (by rw [h1,h2];rfl)]
       ·cases h
    case defer f args=>
     simp only [stU,hw] at h;split at h
     ·rename_i h1 h2;rw [wM] at h;cases h;simp only [aM,hw,h1,h2]
     ·cases h
    case panic x=>simp [stU,hw] at h
    case aI st f args=>simp [stU,hw] at h
    case call f args=>simp [stU,hw] at h
theorem wu(h:stU true P i pd e ds s=some ⟨pd',e',ds',s'⟩)(k:Wo P rest pd' ⟨e',ds'⟩ s' Q):Wo P (i::rest) pd ⟨e,ds⟩ s Q:=
 ⟨k.ev.congr fun _=>aEE h⟩
end

theorem aAN(t:List UInt8):(⟨t.toArray⟩:ByteArray).size=t.length:=by simp [ByteArray.size]
theorem aDN{t:List UInt8}{pos:Nat}{b:UInt8}(h:t[pos]?=some b)(hb:b.toNat<128):Utf8.decode ⟨t.toArray⟩ pos=(b.toNat,1):=by
 have hp:pos<t.length:=(List.getElem?_eq_some_iff.1 h).1;have hget:(⟨t.toArray⟩:ByteArray)[pos]'(by rw [aAN];exact hp)=b:=by
  have:=(List.getElem?_eq_some_iff.1 h).2;simpa [ByteArray.getElem_eq_getElem_data] using this
 have:=decode_ascii ⟨t.toArray⟩ pos (by rw [aAN];exact hp) (by rw [hget];exact hb);rw [this,hget]
theorem aCp{t:List UInt8}{pos:Nat}{b:UInt8}(h:t[pos]?=some b)(hb: ¬b.toNat<128):128≤(Utf8.decode ⟨t.toArray⟩ pos).1:=by
 have hp:pos<t.length:=(List.getElem?_eq_some_iff.1 h).1;have hget:(⟨t.toArray⟩:ByteArray)[pos]'(by rw [aAN];exact hp)=b:=by
  have:=(List.getElem?_eq_some_iff.1 h).2;simpa [ByteArray.getElem_eq_getElem_data] using this
 exact(decode_high ⟨t.toArray⟩ pos (by rw [aAN];exact hp) (by rw [hget];omega)).1
theorem wrap_i64{n:Int}(h1: -9223372036854775808≤n)(h2:n<9223372036854775808):IntKind.wrap .i64 n=n:=by
 unfold IntKind.wrap;simp [IntKind.signed,IntKind.bits];split<;>omega
theorem sD{e:Env}{i:Nat}{v:AV}(h:e i=v):upd e i v=e:=by
 funext j
 unfold upd;cases hb:Nat.beq j i with
 |true=>simp [Nat.eq_of_beq_eq_true hb,h]
 |false=>rfl
def gP(e:Env):List (Nat×AV)→Env
 | []=>e
 |(i,v)::r=>upd (gP e r) i v
inductive oX(e:Env):List (Nat×AV)→Prop
 |nil:oX e []
 |cons {i:Nat} {v:AV} {r:List (Nat×AV)} (h:e i=v) (t:oX e r):oX e ((i,v)::r)
theorem oX.gP{e:Env}{l:List (Nat×AV)}(h:oX e l):gP e l=e:=by
 induction h with
 |nil=>rfl
 |cons h _ ih=>simp only [Fw.gP,ih];exact sD h
def Kept(S:List (Nat×AV))(ds:List dC)(s':ASt):cY→Fr→ASt→Prop:=fun ex f s=>ex= .normal∧s=s'∧f.ds=ds∧oX f.env S
theorem Kept.mk{S:List (Nat×AV)}{ds:List dC}{s:ASt}{f:Fr}(h1:f.ds=ds)(h2:oX f.env S):Kept S ds s .normal f s:=⟨rfl,rfl,h1,h2⟩
end Go.Fw
