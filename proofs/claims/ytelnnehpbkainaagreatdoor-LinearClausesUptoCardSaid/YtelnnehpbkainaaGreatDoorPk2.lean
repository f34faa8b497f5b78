/- Our own framework, the program's cooked code, and the proofs that a claim leans on: joined and shortened by a program of the prover's own. -/
import Derived.OrdersIn
import Derived.LoopNIn
import Derived.ChangeArms
import Derived.OpenShut
import Derived.WideShapes
import Derived.Carry
import Derived.RowKit
import Derived.Test.YtelnnehpbkainaaGreatDoorRows
import Derived.Test.YtelnnehpbkainaaGreatDoorPk1
set_option linter.unusedVariables false
set_option linter.unusedSimpArgs false
namespace Go.Fw
open Go
section
variable {P : Program} {B : Bs} {G : Gh} {s s1 : ASt} {w : World} {P' : bA} {env : Env} {ρ : Operand → Value}
section
variable {ts : Array TypeId} {t t2 e e2 ty : TypeId} {i : TypeInfo} (ht : ts[0]? = some t) (hu : P.underlying t = some (.slice e)) (ht2 : ts[1]? = some t2) (hu2 : P.underlying t2 = some (.slice e2)) (hi : P.info? e = some i)
include ht hu ht2 hu2 hi
theorem w7{A:Option Addr}{n cap m c:Nat}{X:Option Addr}{news:Array Value}{w':World}(hf:(Builtin.firstCells i.size m (.slice X m c)).run P w= .ok news w)
(hst:match A with|some a=>(storeCells (a.add (n*i.size)) news.toList).run P w= .ok () w'|none=>w'=w)(hroom:n+m≤cap):
  (Builtin.append_ ts ty #[.slice A n cap,.slice X m c]).run P w= .ok (.slice A (n+m) cap) w':=by
 cases A with
 |none=>
  simp only at hst;subst hst;simp [Builtin.append_,ht,ht2,run_underlying hu,run_underlying hu2,sizeOf,typeInfo,hi,Builtin.lenOf,hroom,hf]
 |some a=>
  simp only at hst;simp [Builtin.append_,ht,ht2,run_underlying hu,run_underlying hu2,sizeOf,typeInfo,hi,Builtin.lenOf,hroom,hf,hst]
theorem aGT{z:Value}(hz:i.zero=some z){A:Option Addr}{n cap m c:Nat}{X:Option Addr}{olds news:Array Value}(ho:(Builtin.firstCells i.size n (.slice A n cap)).run P w.drew= .ok olds w.drew)
(hf:(Builtin.firstCells i.size m (.slice X m c)).run P w.drew= .ok news w.drew)(hroom:cap<n+m)(h63:n+m≤maxLen)(hb:(n+m)*i.bytes≤140737488355328):
  (Builtin.append_ ts ty #[.slice A n cap,.slice X m c]).run P w= .ok (.slice (some ⟨w.heap.size,0,none⟩) (n+m) (grownCap w (n+m) cap e))
   (w.drew.alloc (.cells (olds++news++Builtin.zeroCells z.cells (grownCap w (n+m) cap e-(n+m))) e)):=by
 have hfit:=growslice_fits hroom hb;have hn: ¬(n+m≤cap):=by omega
 have h63': ¬(9223372036854775807<((n:Int)+(m:Int))):=by simp only [maxLen] at h63;omega
 have h48': ¬(281474976710656<Builtin.nextslicecap (n+m) cap*i.bytes):=by omega
 simp [Builtin.append_,ht,ht2,run_underlying hu,run_underlying hu2,sizeOf,typeInfo,zeroValue,hi,hz,Builtin.lenOf,hn,h63',h48',Question.forced,newRow,grownCap];rw [ho];simp [hf]
end
theorem Inv.drew(hI:Inv P B G s w):Inv P B G s w.drew:=hI.drawn _
theorem Inv.grown(hI:Inv P B G s w){esz n m:Nat}{xs ys:List AV}{css dss:List (List Value)}(hx:Css G esz xs css)(hy:Css G esz ys dss)(hn:xs.length=n)(hm:ys.length=m){e:TypeId}{z:Array Value}(hz:z.size=esz)(he:0<esz){c:Nat}(hc:n+m≤c)(hcm:c≤maxLen)
{t:Nat}{toks':List Nat}(hself:toks'[t]?=some (n+m))(hoth: ∀t',t'≠t→toks'[t']?=s.toks[t']?)(hless: ∀n0,s.toks[t]?=some n0→n0<n+m):
  ∃G',G.le G'∧Inv P B G' {s with toks:=toks'} (w.drew.alloc (.cells (css.flatten.toArray++dss.flatten.toArray++Builtin.zeroCells z (c-(n+m))) e))∧
   R G' (.v (.slice esz (xs++ys) (.tok t)) (.slice (some ⟨w.heap.size,0,none⟩) (n+m) c)):=by
 have hD:=hI.drew;have hfl:=(hx.append hy).flat;have hcells:(css.flatten.toArray++dss.flatten.toArray++Builtin.zeroCells z (c-(n+m)))=((css++dss).flatten++(Builtin.zeroCells z (c-(n+m))).toList).toArray:=by
  apply Array.ext';simp
 rw [hcells];generalize hvs:(css++dss).flatten++(Builtin.zeroCells z (c-(n+m))).toList=vs;have hlen:(css++dss).flatten.length=(n+m)*esz:=by rw [hfl.2,List.length_append,hn,hm]
 have hvl:vs.length=c*esz:=by
  rw [←hvs,List.length_append,hlen,Array.length_toList,size_zeroCells,hz,←Nat.add_mul]
  congr 1;omega
 have h1:=hD.aQn vs e (0,0) ((n+m)*esz);have hle1:=hD.rQ ((n+m)*esz) vs;have hb:(w.drew.alloc (.cells vs.toArray e (0,0))).heap[w.heap.size]?=some (.cells vs.toArray e (0,0)):=rC (w:=w.drew);obtain⟨hnone,h2⟩:=h1.aPL (t:=t) (n:=n+m) (b:=w.heap.size) (c:=c) (sz:=esz) (toks':=toks') hself hoth hless (fun hp=>absurd (Nat.lt_of_lt_of_le (B.lt _ hp) hD.size) (Nat.lt_irrefl _)) hb (by simpa using hvl) he hc hcm
  (fun j hj=>by rw [show w.heap.size=w.drew.heap.size from rfl,aB0 (by omega)];exact hD.aO6 j)
  (fun ℓ=>hD.aSu ℓ)
  (fun t' n' b' c' sz' _ hq1 hq2 e=>by
   obtain⟨b2,c2,sz2,k⟩:=hD.tok t' n' hq1;have hq3:G.H t' n'=some (b',c',sz'):=hq2;rw [k.h] at hq3;cases hq3;exact absurd k.lt (by rw [e];exact Nat.lt_irrefl _))
 have hle:=hle1.trans (aDW (b:=w.heap.size) (c:=c) (sz:=esz) hnone);refine⟨_,hle,h2,?_⟩;have hrow:R ((G.mB w.drew.heap.size 0 ((n+m)*esz) vs).aBp t (n+m) w.heap.size c esz) (.r esz (xs++ys) w.heap.size 0):=by
  refine((hx.append hy).mono hle).row fun j y hy=> ?_;show(G.mB w.drew.heap.size 0 ((n+m)*esz) vs).M w.heap.size (0+j)=some y;have hj:j<(n+m)*esz:=by
   rcases Nat.lt_or_ge j ((n+m)*esz) with q|q
   ·exact q
   ·rw [List.getElem?_eq_none (by omega)] at hy;cases hy
  rw [Nat.zero_add,show w.heap.size=w.drew.heap.size from rfl,p5 (Nat.zero_le _) hj,←hvs,List.getElem?_append_left (by omega)];exact hy
 have hxl:(xs++ys).length=n+m:=by simp [hn,hm]
 have:=R.dQ (o:= .tok t) (c:=c) (by rw [hxl];exact hc) hcm hrow ⟨_,rfl,by rw [hxl];exact sJ⟩;rw [hxl] at this;exact this
theorem aLK{ts:Array TypeId}{t t2 e e2 ty:TypeId}{i:TypeInfo}(ht:ts[0]?=some t)(hu:P.underlying t=some (.slice e))(ht2:ts[1]?=some t2)(hu2:P.underlying t2=some (.slice e2))(hi:P.info? e=some i)
{A:Option Addr}{n cap:Nat}(hc:n≤cap){X:Option Addr}{c:Nat}:(Builtin.append_ ts ty #[.slice A n cap,.slice X 0 c]).run P w= .ok (.slice A n cap) w:=by
 have hf:(Builtin.firstCells i.size 0 (.slice X 0 c)).run P w= .ok #[] w:=by
  cases X with
  |none=>simp [Builtin.firstCells]
  |some A=>simp [Builtin.firstCells,loadCells,loadCellsFrom]
 exact w7 ht hu ht2 hu2 hi (m:=0) (w':=w) hf (by cases A<;>simp [storeCells]) hc
theorem aQ1(hI:Inv P B G s w){ts:Array TypeId}{t t2 e e2 ty:TypeId}(ht:ts[0]?=some t)(hu:P.underlying t=some (.slice e))(ht2:ts[1]?=some t2)(hu2:P.underlying t2=some (.slice e2))
(hzl:(zeroOf P e).map List.length=some (P.cellsOf e)){a x v:AV}{xa xx:Value}(ra:R G (.v a xa))(rx:R G (.v x xx)){esz bytes:Nat}(hes:P.cellsOf e=esz)(hby:P.bytesOf e=bytes)
(h:(match elems s esz x with
  |some []=>(match(generalizing:=false) a with| .slice sz xs o=>some (AV.slice sz xs o,s)| .cQ l o n c sz=>some (.cQ l o n c sz,s)|_=>none)
  |some (y::ys)=>
   (match(generalizing:=false) a with
   | .slice sz xs o=>
    if(sz=esz||xs.isEmpty)&&(xs.length+(ys.length+1))*bytes≤big&&xs.length+(ys.length+1)≤big&&0<esz then
     (match o with
     | .full=>some (AV.slice esz (xs++y::ys) (.tok s.toks.length),{s with toks:=s.toks++ [xs.length+(ys.length+1)]})
     | .tok t=>
      (match s.toks[t]? with
      |some n=>if sz=esz&&n=xs.length then some (.slice sz (xs++y::ys) (.tok t),{s with toks:=s.toks.set t (xs.length+(ys.length+1))}) else none
      |none=>none)
     | .no=>none)
    else none
   | .cQ l off len cap sz=>
    if sz=esz&&(len+(ys.length+1))*bytes≤big&&len+(ys.length+1)≤big&&0<esz then
     if len+(ys.length+1)≤cap then
      (match s.blks[l]? with
      |some (.cells cs true)=>
       if off+(len+(ys.length+1))*sz≤cs.length&&(lG (y::ys)).length=(ys.length+1)*sz then
        some (.cQ l off (len+(ys.length+1)) cap sz,Fw.mM s l (lG (y::ys)) (s.blks.set l (.cells (gK cs (off+len*sz) (lG (y::ys))) true)))
       else none
      |_=>none)
     else
      (match rowOf s l off len sz with
      |some xs=>some (.slice sz (xs++y::ys) (.tok s.toks.length),{s with toks:=s.toks++ [len+(ys.length+1)]})
      |none=>none)
    else none
   |_=>none)
  |none=>none)=some (v,s1)):aE6 P B G s1 w (do pure (Next.value (←Builtin.append_ ts ty #[xa,xx]))) v:=by
 cases hzo:zeroOf P e with
 |none=>simp [hzo] at hzl
 |some z=>
 obtain⟨i,zv,hi,hzv,hrz⟩:=qF (G:=G) hzo;have hzs:zv.cells.size=esz:=by
  simp [hzo] at hzl;rw [←hes,←hzl,hrz.kW];simp
 have hisz:i.size=esz:=by rw [←hes];simp [Program.cellsOf,hi]
 have hiby:i.bytes=bytes:=by rw [←hby];simp [Program.bytesOf,hi]
 have fin: ∀{x:Value}{w':World}{G':Gh},(Builtin.append_ ts ty #[xa,xx]).run P w= .ok x w'→G.le G'→Inv P B G' s1 w'→R G' (.v v x)→aE6 P B G s1 w (do pure (Next.value (←Builtin.append_ ts ty #[xa,xx]))) v:=
  fun{x w' G'} h1 h2 h3 h4=>⟨.value x,x,w',G',by simp [h1],.inl rfl,h2,h3,h4⟩
 split at h
 ·
  rename_i he;obtain⟨dss,X,c,rfl,hd,_⟩:=aBE hI rx he;split at h
  ·cases h;cases ra with
   |cZ hm ho=>exact fin (aLK ht hu ht2 hu2 hi (Nat.zero_le _)) (.refl _) hI (.cZ hm ho)
   |dQ hc hm hr ho=>exact fin (aLK ht hu ht2 hu2 hi hc) (.refl _) hI (.dQ hc hm hr ho)
  ·cases h;cases ra with
   |ms hL hc hm=>exact fin (aLK ht hu ht2 hu2 hi hc) (.refl _) hI (.ms hL hc hm)
  ·cases h
 ·rename_i y ys he;obtain⟨dss,X,c,rfl,hd,hfirst⟩:=aBE hI rx he;have hm:(y::ys).length=ys.length+1:=rfl;rw [hm] at hfirst;have hdl:dss.take (ys.length+1)=dss:=by rw [←hm,←hd.len];simp
  have hnew: ∀w':World,w'.heap=w.heap→(Builtin.firstCells i.size (ys.length+1) (.slice X (ys.length+1) c)).run P w'= .ok dss.flatten.toArray w':=fun w' hw=>by
   have:=hfirst w' hw (ys.length+1) (Nat.le_refl _);rw [hdl] at this;rw [hisz];exact this
  have grow: ∀{xs:List AV}{css:List (List Value)}{A:Option Addr}{cap:Nat}(_:Css G esz xs css){toks':List Nat}{t0:Nat}(_:xa= .slice A xs.length cap)(_:cap<xs.length+(ys.length+1))(_:xs.length+(ys.length+1)≤maxLen)(_:(xs.length+(ys.length+1))*bytes≤big)(_:0<esz)
    (_:(Builtin.firstCells esz xs.length xa).run P w.drew= .ok css.flatten.toArray w.drew)
    (_:toks'[t0]?=some (xs.length+(ys.length+1))) (_: ∀t',t'≠t0→toks'[t']?=s.toks[t']?) (_: ∀n0,s.toks[t0]?=some n0→n0<xs.length+(ys.length+1)),
    ∃x w' G',(Builtin.append_ ts ty #[xa,.slice X (ys.length+1) c]).run P w= .ok x w'∧G.le G'∧Inv P B G' {s with toks:=toks'} w'∧R G' (.v (.slice esz (xs++y::ys) (.tok t0)) x):=by
   intro xs css A cap hx toks' t0 hxa hcap h63 hb he0 hold hself hoth hless;subst hxa;have hb':(xs.length+(ys.length+1))*i.bytes≤140737488355328:=by rw [hiby];simp only [big] at hb;omega
   have hrun:=aGT ht hu ht2 hu2 hi (ty:=ty) hzv (by rw [hisz];exact hold) (hnew w.drew rfl) hcap h63 hb';obtain⟨G',h1,h2,h3⟩:=hI.grown hx hd rfl hm (e:=e) hzs he0 (grownCap_ge w _ cap e) (grownCap_le_maxLen w _ cap e h63) hself hoth hless;exact⟨_,_,G',hrun,h1,h2,h3⟩
  have newTok: ∀k,(s.toks++ [k])[s.toks.length]?=some k∧(∀t',t'≠s.toks.length→(s.toks++ [k])[t']?=s.toks[t']?)∧ ∀n0,s.toks[s.toks.length]?=some n0→n0<k:=by
   intro k;refine⟨by simp,fun t' ht'=> ?_,fun n0 h0=>by simp at h0⟩;rcases Nat.lt_or_ge t' s.toks.length with q|q
   ·rw [List.getElem?_append_left q]
   ·rw [List.getElem?_eq_none (by simp;omega),List.getElem?_eq_none q]
  have hsmall: ∀{k},k≤big→k≤maxLen:=fun{k} h=>by simp only [big,maxLen] at*;omega
  split at h
  ·rename_i sz xs o;split at h
   ·rename_i hcond;simp only [Bool.and_eq_true,decide_eq_true_eq] at hcond;obtain⟨⟨⟨hc1,hc2⟩,hc3⟩,hc4⟩:=hcond;have old: ∃css A cap,xa= .slice A xs.length cap∧xs.length≤cap∧Css G esz xs css∧qD G o A sz xs.length cap∧(∀w':World,w'.heap=w.heap→(Builtin.firstCells esz xs.length xa).run P w'= .ok css.flatten.toArray w')∧(xs≠ []→sz=esz):=by
     have hel:elems s esz (.slice sz xs o)=some xs:=by simp only [elems];rw [if_pos hc1]
     obtain⟨css,A,cap,e1,hcs,hf⟩:=aBE hI ra hel;subst e1;refine⟨css,A,cap,rfl,?_,hcs,?_,fun w' hw=> ?_,fun hne=> ?_⟩
     ·cases ra with
      |cZ=>exact Nat.zero_le _
      |dQ hc=>exact hc
     ·cases ra with
      |cZ hm ho=>exact ho
      |dQ hc hm hr ho=>exact ho
     ·have:=hf w' hw xs.length (Nat.le_refl _);rwa [show css.take xs.length=css from by rw [←hcs.len];simp] at this
     ·simp at hc1;rcases hc1 with q|q
      ·exact q
      ·exact absurd q hne
    obtain⟨css,A,cap,e1,hcap,hcs,hown,hold,hsz⟩:=old;subst e1;split at h
    ·cases h;have hcap':cap=xs.length:=hown;obtain⟨k1,k2,k3⟩:=newTok (xs.length+(ys.length+1));obtain⟨x,w',G',g1,g2,g3,g4⟩:=grow hcs rfl (by omega) (hsmall hc3) hc2 hc4 (hold w.drew rfl) k1 k2 k3;exact fin g1 g2 g3 g4
    ·rename_i t0;split at h
     ·rename_i n0 hn0;split at h
      ·rename_i hn;cases h;simp only [Bool.and_eq_true,decide_eq_true_eq] at hn;obtain⟨hsz',hn⟩:=hn;subst hn;obtain⟨b,hA,hH⟩:=hown;subst hA;obtain⟨b',c',sz',hk⟩:=hI.tok t0 _ hn0;have hq:=hk.h;rw [hH] at hq;cases hq;subst hsz';obtain⟨e0,cur,hb,hcur⟩:=hk.blk;by_cases hroom:xs.length+(ys.length+1)≤cap
       ·have hdf:=hd.flat;have hmul:xs.length*sz+(ys.length+1)*sz≤cap*sz:=by rw [←Nat.add_mul];exact Nat.mul_le_mul_right _ hroom
        have hdlen:dss.flatten.length=(ys.length+1)*sz:=by rw [hdf.2,hm]
        have hst:=run_storeCells_at P b (xs.length*sz) e0 dss.flatten 0 cur w hb (by rw [hdlen];omega) hdf.1.aOT;simp only [Nat.add_zero] at hst;rw [uU hb] at hst;have htk:(cur.toList.take (xs.length*sz)).length=xs.length*sz:=by simp only [List.length_take,Array.length_toList];omega
        generalize hL:cur.toList.take (xs.length*sz)++dss.flatten++cur.toList.drop (xs.length*sz+dss.flatten.length)=L at hst;have hLl:L.length=cur.size:=by
         rw [←hL];simp only [List.length_append,htk,List.length_drop,Array.length_toList];omega
        obtain⟨hle,hinv⟩:=hI.aQw hn0 hH hb (vs:=L) hLl (fun j hj=>by
         rw [←hL,List.getElem?_append_left (by rw [List.length_append,htk];omega),List.getElem?_append_left (by omega),List.getElem?_take_of_lt hj];simp) (n':=xs.length+(ys.length+1)) (by omega) hroom
        refine fin (w7 ht hu ht2 hu2 hi (hnew w rfl) (w':=w.putObj b (.cells L.toArray e0 (0,0))) ?_ hroom) hle hinv ?_
        ·rw [hisz];simp only [fI,Nat.zero_add];exact hst
        ·have hro:R G (.r sz xs b 0):=by
          cases ra with
          |cZ=>exact .aAj _ _ _
          |dQ _ _ hr _=>exact hr
         have hrn:R ((G.mB b (xs.length*sz) ((xs.length+(ys.length+1))*sz) L).aBp t0 (xs.length+(ys.length+1)) b cap sz) (.r sz (y::ys) b (0+xs.length*sz)):=by
          refine(hd.mono hle).row fun j v hv=> ?_;have hj:j<(ys.length+1)*sz:=by
           rcases Nat.lt_or_ge j ((ys.length+1)*sz) with q|q
           ·exact q
           ·rw [List.getElem?_eq_none (by omega)] at hv;cases hv
          show(G.mB b (xs.length*sz) ((xs.length+(ys.length+1))*sz) L).M b (0+xs.length*sz+j)=some v;rw [p5 (by omega) (by rw [Nat.add_mul];omega),←hL,List.getElem?_append_left (by rw [List.length_append,htk];omega),List.getElem?_append_right (by omega),htk];rw [show 0+xs.length*sz+j-xs.length*sz=j from by omega];exact hv
         have hxl:(xs++y::ys).length=xs.length+(ys.length+1):=by simp
         have:=R.dQ (o:= .tok t0) (c:=cap) (by rw [hxl];exact hroom) hk.cm ((hro.mono hle).aOU hrn) ⟨_,rfl,by rw [hxl];exact sJ⟩;rw [hxl] at this;exact this
       ·have hl:=(List.getElem?_eq_some_iff.1 hn0).1;obtain⟨x,w',G',g1,g2,g3,g4⟩:=grow (t0:=t0) (toks':=s.toks.set t0 (xs.length+(ys.length+1))) hcs rfl (by omega) (hsmall hc3) hc2 hc4 (hold w.drew rfl) (List.getElem?_set_self hl) (fun t' ht'=>List.getElem?_set_ne (fun e=>ht' e.symm)) (fun n0 h0=>by rw [hn0] at h0;cases h0;omega);exact fin g1 g2 g3 g4
      ·cases h
     ·cases h
    ·cases h
   ·cases h
  ·rename_i l off len cap sz;split at h
   ·rename_i hcond;simp only [Bool.and_eq_true,decide_eq_true_eq] at hcond;obtain⟨⟨⟨hc1,hc2⟩,hc3⟩,hc4⟩:=hcond;subst hc1;cases ra with
    |ms hL hc hmx=>
    rename_i b;split at h
    ·rename_i hroom;split at h
     ·rename_i cs hb;split at h
      ·rename_i hcc;simp only [Bool.and_eq_true,decide_eq_true_eq] at hcc;cases h;have hsum:off+len*sz+(lG (y::ys)).length≤cs.length:=by have:=hcc.1;rw [Nat.add_mul] at this;rw [hcc.2];omega
       obtain⟨w',hst,hinv⟩:=hI.write hL hb (off:=off+len*sz) hd.flat.1 hsum;refine fin (w7 ht hu ht2 hu2 hi (hnew w rfl) (w':=w') ?_ hroom) (.refl _) hinv.mM (.ms hL hroom hmx);rw [hisz];simp only [fI];exact hst
      ·cases h
     ·cases h
    ·rename_i hroom;split at h
     ·rename_i xs hrow;cases h;obtain⟨css,hcs,hxl,hcell⟩:=aEt hI hL hrow;subst hxl;obtain⟨k1,k2,k3⟩:=newTok (xs.length+(ys.length+1));obtain⟨x,w',G',g1,g2,g3,g4⟩:=grow hcs rfl (by omega) (hsmall hc3) hc2 hc4 (run_firstCells_some w.drew _ _ _ _ _ _ hcs.flat.2 (fun j u hu=>by rw [fI];exact(qO rfl).trans (hcell j u hu))) k1 k2 k3;exact fin g1 g2 g3 g4
     ·cases h
   ·cases h
  ·cases h
 ·cases h
end
section
variable {P : Program} {B : Bs} {G : Gh} {s s1 : ASt} {w : World} {P' : bA} {env : Env} {ρ : Operand → Value}
theorem aUS(hI:Inv P B G s w){ts:Array TypeId}{t e ty:TypeId}(ht:ts[0]?=some t)(hu:P.underlying t=some (.slice e))(hi: ∃i,P.info? e=some i){d x v:AV}{xd xx:Value}(rd:R G (.v d xd))(rx:R G (.v x xx)){esz:Nat}(hes:P.cellsOf e=esz)
(h:(match(generalizing:=false) d,elems s esz x with
  | .cQ l off len _ sz,some ys=>
   (match s.blks[l]? with
   |some (.cells cs true)=>
    if sz=esz&&off+len*sz≤cs.length&&(lG (ys.take len)).length=(min ys.length len)*sz then
     some (AV.int .i64 (min ys.length len:Nat),Fw.mM s l (lG (ys.take len)) (s.blks.set l (.cells (gK cs off (lG (ys.take len))) true)))
    else none
   |_=>none)
  |_,_=>none)=some (v,s1)):aE6 P B G s1 w (do pure (Next.value (←Builtin.copy_ ts ty #[xd,xx]))) v:=by
 obtain⟨i,hi⟩:=hi;have hisz:i.size=esz:=by rw [←hes];simp [Program.cellsOf,hi]
 split at h
 ·rename_i l off len cap sz ys he;obtain⟨dss,X,c,rfl,hd,hfirst⟩:=aBE hI rx he;cases rd with
  |ms hL hc hmx=>
  rename_i b;split at h
  ·rename_i cs hb;split at h
   ·rename_i hcond;simp only [Bool.and_eq_true,decide_eq_true_eq] at hcond;obtain⟨⟨hc1,hc2⟩,hc3⟩:=hcond;subst hc1;cases h;have hdt:=(hd.take len).flat;have hle:min ys.length len*sz≤len*sz:=Nat.mul_le_mul_right _ (Nat.min_le_right _ _);have hsum:off+(lG (ys.take len)).length≤cs.length:=by rw [hc3];omega
    obtain⟨w',hst,hinv⟩:=hI.write hL hb (off:=off) hdt.1 hsum;have hf:=hfirst w rfl (min ys.length len) (Nat.min_le_left _ _);have hmin:dss.take (min ys.length len)=dss.take len:=by
     rw [←hd.len];rcases Nat.le_total dss.length len with q|q
     ·rw [Nat.min_eq_left q,List.take_of_length_le (Nat.le_refl _),List.take_of_length_le q]
     ·rw [Nat.min_eq_right q]
    rw [hmin] at hf;refine⟨_,.int .i64 (min ys.length len:Nat),w',G,?_,.inl rfl,.refl _,hinv.mM,.int (tX (by have:=Nat.min_le_right ys.length len;simp only [maxLen] at*;omega))⟩;have hnm:Nat.min ys.length len=min ys.length len:=rfl;simp [Builtin.copy_,ht,run_underlying hu,Builtin.lenOf,sizeOf,typeInfo,hi,hnm,hisz,hf,hst,goInt]
   ·cases h
  ·cases h
 ·cases h
theorem aMW: ∀(n:Nat){z:List AV}{vs:List Value},R G (.k z vs)→R G (.k (aFz n z) (List.replicate n vs).flatten)
 |0,_,_,_=>by simpa [aFz] using R.iI
 |n+1,z,vs,h=>by
  simp only [aFz,List.replicate_succ,List.flatten_cons];exact R.vH h (aMW n h)
theorem aNO(hI:Inv P B G s w){t e:TypeId}(hu:P.underlying t=some (.slice e)){z:List AV}(hz:zeroOf P e=some z){esz bytes:Nat}(hzl:z.length=esz)(hes:P.cellsOf e=esz)(hby:P.bytesOf e=bytes){a b v:AV}{xa xb:Value}(ra:R G (.v a xa))(rb:R G (.v b xb))
(h:(match jD a,jD b with
  |some l,some c=>
   if l≤c&&c*bytes≤big&&c≤big then some (AV.cQ s.blks.length 0 l c esz,{s with blks:=s.blks++ [.cells (aFz c z) true]}) else none
  |_,_=>none)=some (v,s1)):aE6 P B G s1 w (do pure (Next.value (←Instr.makeSlice t xa xb))) v:=by
 obtain⟨i,zv,hi,hzv,hrz⟩:=qF (G:=G) hz;split at h
 ·rename_i l c h1 h2;obtain⟨k1,rfl⟩:=v8 h1 ra;obtain⟨k2,rfl⟩:=v8 h2 rb;split at h
  ·rename_i hcond;simp only [Bool.and_eq_true,decide_eq_true_eq] at hcond;obtain⟨⟨hc1,hc2⟩,hc3⟩:=hcond;cases h;have hiby:i.bytes=bytes:=by rw [←hby];simp [Program.bytesOf,hi]
   have hisz:i.size=esz:=by rw [←hes];simp [Program.cellsOf,hi]
   have hzs:zv.cells.size=esz:=by rw [←hzl,hrz.kW];simp
   have hcb:c≤maxLen:=by simp only [big,maxLen] at*;omega
   have hw: ∀n:Nat,n≤maxLen→IntKind.i64.wrap (n:Int)=n:=fun n h=>tX h;have hcells:((Array.range (c*i.size)).map (fun j=>zv.cells[j%zv.cells.size]!)).toList=(List.replicate c zv.cells.toList).flatten:=by
    have:=aE8 zv.cells.toList c;rw [show zv.cells.toList.length=i.size from by rw [hisz,←hzs];simp] at this;simpa using this
   obtain⟨hle,h2⟩:=hI.aE9 (aMW c hrz) e;refine⟨_,.slice (some ⟨w.heap.size,0,none⟩) l c,w.alloc (.cells (List.replicate c zv.cells.toList).flatten.toArray e),_,?_,.inl rfl,hle,h2,.ms qZ hc1 hcb⟩;have e1: ¬((c:Int)<0):=by omega
   have e2: ¬(281474976710656<(i.bytes:Int)*(c:Int)):=by
    rw [hiby];have:((bytes:Int)*(c:Int))=((c*bytes:Nat):Int):=by rw [Nat.mul_comm,Int.natCast_mul]
    rw [this];simp only [big] at hc2;omega
   have e3: ¬((l:Int)<0):=by omega
   have e4: ¬((c:Int)<(l:Int)):=by omega
   have hcells':(Array.range (c*i.size)).map (fun j=>zv.cells[j%zv.cells.size]!)=(List.replicate c zv.cells.toList).flatten.toArray:=by
    apply Array.ext';rw [hcells]
   by_cases q:c*i.size=0
   ·have q2:(List.replicate c zv.cells.toList).flatten.toArray= #[]:=by rw [←hcells',q];simp
    simp [Instr.makeSlice,run_underlying hu,asInt,asIntOf,typeInfo,hi,hw l (by omega),hw c hcb,e1,e2,e3,e4,sizeOf,q,newRow,q2,Array.range_zero']
   ·simp [Instr.makeSlice,run_underlying hu,asInt,asIntOf,typeInfo,hi,hw l (by omega),hw c hcb,e1,e2,e3,e4,sizeOf,q,newRow,zeroValue,hzv,hcells']
  ·cases h
 ·cases h
theorem aOy{h:Hint}{d:Option Nat}{op:Op}{ag:Bool}{sz:Nat}{x:aQ}(hk:cP P h d op=some (.load ag sz x)): ∃t a,op= .load t a∧pC P t=some ag∧dH a=some x∧sz=P.cellsOf t:=by
 unfold cP at hk;split at hk
 all_goals (try unfold cO at hk)
 all_goals (try unfold lD at hk)
 all_goals (repeat' (split at hk))
 all_goals first
  |(cases hk;done)
  |(simp only [Option.map_eq_some_iff,reduceCtorEq,and_false,exists_false] at hk;done)
  |(cases hk;exact⟨_,_,rfl,by assumption,by assumption,rfl⟩)
theorem aIJ{h:Hint}{d:Option Nat}{op:Op}{ok:Bool}{kk:KK}{z:AV}{m k:aQ}(hk:cP P h d op=some (.lookup ok kk z m k)):
  ∃t xm xk kt et,op= .lookup t xm xk ok∧P.underlying t=some (.map kt et)∧aIp P kt=some kk∧zeroV P et=some z∧dH xm=some m∧dH xk=some k:=by
 unfold cP at hk;split at hk
 all_goals (try unfold cO at hk)
 all_goals (try unfold lD at hk)
 all_goals (repeat' (split at hk))
 all_goals first
  |(cases hk;done)
  |(simp only [Option.map_eq_some_iff,reduceCtorEq,and_false,exists_false] at hk;done)
  |(cases hk;exact⟨_,_,_,_,_,rfl,by assumption,by assumption,by assumption,by assumption,by assumption⟩)
theorem aUk(hI:Inv P B G s w)(hO:Opn P' env G ρ){h:Hint}{o:Oper}{aop:AOp}(hk:cP P h o.dst o.op=some aop){v:AV}(hv:gO P' env s aop=some v):mS P G w (execOp ρ o) v:=by
 cases aop with
 |load ag sz x=>
  obtain⟨t,a,ho,hag,ha,rfl⟩:=aOy hk;simp only [gO] at hv;simpa [execOp,ho,mS] using (aNy hI hag (hO.out _ _ ha) hv).lift
 |lookup ok kk z m k=>
  obtain⟨t,xm,xk,kt,et,ho,hu,hkt,hz,hm,hk'⟩:=aIJ hk;simp only [gO] at hv;simpa [execOp,ho,mS] using (aNN hI hu hkt hz (hO.out _ _ hm) (hO.out _ _ hk') hv).lift
 |_=>simp [gO] at hv
theorem aQb{h:Hint}{d:Option Nat}{op:Op}{x:aQ}(hk:cP P h d op=some (.box x)): ∃t a,op= .box t a∧dH a=some x:=by
 unfold cP at hk;split at hk
 all_goals (try unfold cO at hk)
 all_goals (try unfold lD at hk)
 all_goals (repeat' (split at hk))
 all_goals first
  |(cases hk;done)
  |(simp only [Option.map_eq_some_iff,reduceCtorEq,and_false,exists_false] at hk;done)
  |(cases hk;exact⟨_,_,rfl,by assumption⟩)
theorem aLI{h:Hint}{d:Option Nat}{op:Op}{z:List AV}(hk:cP P h d op=some (.alloc z)): ∃t,op= .alloc t∧zeroOf P t=some z:=by
 unfold cP at hk;split at hk
 all_goals (try unfold cO at hk)
 all_goals (try unfold lD at hk)
 all_goals (repeat' (split at hk))
 all_goals first
  |(cases hk;done)
  |(simp only [Option.map_eq_some_iff,reduceCtorEq,and_false,exists_false] at hk;done)
  |(cases hk;exact⟨_,rfl,by assumption⟩)
theorem aLT{h:Hint}{d:Option Nat}{op:Op}{sz:Nat}{a x:aQ}(hk:cP P h d op=some (.store sz a x)): ∃t i xa xv,op= .store t xa xv∧P.info? t=some i∧dH xa=some a∧dH xv=some x∧sz=P.cellsOf t:=by
 unfold cP at hk;split at hk
 all_goals (try unfold cO at hk)
 all_goals (try unfold lD at hk)
 all_goals (repeat' (split at hk))
 all_goals first
  |(cases hk;done)
  |(simp only [Option.map_eq_some_iff,reduceCtorEq,and_false,exists_false] at hk;done)
  |(cases hk;exact⟨_,_,_,_,rfl,by assumption,by assumption,by assumption,rfl⟩)
theorem aLJ{h:Hint}{d:Option Nat}{op:Op}(hk:cP P h d op=some .mkMap): ∃t,op= .makeMap t none:=by
 unfold cP at hk;split at hk
 all_goals (try unfold cO at hk)
 all_goals (try unfold lD at hk)
 all_goals (repeat' (split at hk))
 all_goals first
  |(cases hk;done)
  |(simp only [Option.map_eq_some_iff,reduceCtorEq,and_false,exists_false] at hk;done)
  |exact⟨_,rfl⟩
theorem aHC{h:Hint}{d:Option Nat}{op:Op}{esz bytes:Nat}{z:List AV}{l c:aQ}(hk:cP P h d op=some (.mkSlice esz bytes z l c)):
  ∃t e xl xc,op= .makeSlice t xl xc∧P.underlying t=some (.slice e)∧zeroOf P e=some z∧z.length=P.cellsOf e∧esz=P.cellsOf e∧bytes=P.bytesOf e∧dH xl=some l∧dH xc=some c:=by
 unfold cP at hk;split at hk
 all_goals (try unfold cO at hk)
 all_goals (try unfold lD at hk)
 all_goals (repeat' (split at hk))
 all_goals first
  |(cases hk;done)
  |(simp only [Option.map_eq_some_iff,reduceCtorEq,and_false,exists_false] at hk;done)
  |(cases hk;exact⟨_,_,_,_,rfl,by assumption,by assumption,by assumption,rfl,rfl,by assumption,by assumption⟩)
theorem aHJ{h:Hint}{d:Option Nat}{op:Op}{kk:KK}{m k x:aQ}(hk:cP P h d op=some (.mC kk m k x)):
  ∃t xm xk xv kt et,(op= .mapUpdate t xm xk xv∨op= .insert t xm xk xv)∧P.underlying t=some (.map kt et)∧aIp P kt=some kk∧dH xm=some m∧dH xk=some k∧dH xv=some x:=by
 unfold cP at hk;split at hk
 all_goals (try unfold cO at hk)
 all_goals (try unfold lD at hk)
 all_goals (repeat' (split at hk))
 all_goals first
  |(cases hk;done)
  |(simp only [Option.map_eq_some_iff,reduceCtorEq,and_false,exists_false] at hk;done)
  |(simp only [Option.map_eq_some_iff,AOp.mC.injEq] at hk;obtain⟨_,h1,rfl,rfl,rfl,rfl⟩:=hk;exact⟨_,_,_,_,_,_,.inl rfl,by assumption,h1,by assumption,by assumption,by assumption⟩)
  |(simp only [Option.map_eq_some_iff,AOp.mC.injEq] at hk;obtain⟨_,h1,rfl,rfl,rfl,rfl⟩:=hk;exact⟨_,_,_,_,_,_,.inr rfl,by assumption,h1,by assumption,by assumption,by assumption⟩)
theorem aFF{h:Hint}{d:Option Nat}{op:Op}{x:aQ}(hk:cP P h d op=some (.n4 x)): ∃t a,op= .range t a∧P.underlying t=some .string∧dH a=some x:=by
 unfold cP at hk;split at hk
 all_goals (try unfold cO at hk)
 all_goals (try unfold lD at hk)
 all_goals (repeat' (split at hk))
 all_goals first
  |(cases hk;done)
  |(simp only [Option.map_eq_some_iff,reduceCtorEq,and_false,exists_false] at hk;done)
  |(cases hk;exact⟨_,_,rfl,by assumption,by assumption⟩)
theorem aHc{h:Hint}{d:Option Nat}{op:Op}{x:aQ}(hk:cP P h d op=some (.oG x)): ∃a,op= .next a true∧dH a=some x:=by
 unfold cP at hk;split at hk
 all_goals (try unfold cO at hk)
 all_goals (try unfold lD at hk)
 all_goals (repeat' (split at hk))
 all_goals first
  |(cases hk;done)
  |(simp only [Option.map_eq_some_iff,reduceCtorEq,and_false,exists_false] at hk;done)
  |(simp only [Option.map_eq_some_iff,AOp.oG.injEq] at hk;obtain⟨_,h1,rfl⟩:=hk;exact⟨_,rfl,h1⟩)
theorem aKG {h : Hint} {d : Option Nat} {op : Op} {tk : Bool} {esz bytes : Nat} {a x : aQ} (hk : cP P h d op = some (.append tk esz bytes a x)) :
    ∃ c : Call, ∃ xa xx t t2 e e2, op = .call c ∧ c.callee = Callee.builtin Builtin.append ∧ c.args.toList = [xa, xx] ∧ c.argTypes[0]? = some t ∧ P.underlying t = some (.slice e) ∧ c.argTypes[1]? = some t2 ∧ P.underlying t2 = some (.slice e2) ∧
      (zeroOf P e).map List.length = some (P.cellsOf e) ∧ esz = P.cellsOf e ∧ bytes = P.bytesOf e ∧ dH xa = some a ∧ dH xx = some x := by
  unfold cP at hk;split at hk
  all_goals (try unfold cO at hk)
  all_goals (try unfold lD at hk)
  all_goals (repeat' (split at hk))
  all_goals first
    | (cases hk; done)
    | (simp only [Option.map_eq_some_iff, reduceCtorEq, and_false, exists_false] at hk; done)
    | (cases hk
       rename_i hargs _ _ _ _ _ _ _ h0 h1 _ _ _;obtain ⟨t, ht, hu⟩ := Option.bind_eq_some_iff.1 h0;obtain ⟨t2, ht2, hu2⟩ := Option.bind_eq_some_iff.1 h1;exact ⟨_, _, _, t, t2, _, _, rfl, by assumption, hargs, ht, hu, ht2, hu2, by assumption, rfl, rfl, by assumption, by assumption⟩)
theorem aOB {h : Hint} {d : Option Nat} {op : Op} {esz : Nat} {a x : aQ} (hk : cP P h d op = some (.copy esz a x)) :
    ∃ c : Call, ∃ xa xx t e, op = .call c ∧ c.callee = Callee.builtin Builtin.copy ∧ c.args.toList = [xa, xx] ∧ c.argTypes[0]? = some t ∧ P.underlying t = some (.slice e) ∧
      (∃ i, P.info? e = some i) ∧ esz = P.cellsOf e ∧ dH xa = some a ∧ dH xx = some x := by
  unfold cP at hk;split at hk
  all_goals (try unfold cO at hk)
  all_goals (try unfold lD at hk)
  all_goals (repeat' (split at hk))
  all_goals first
    | (cases hk; done)
    | (simp only [Option.map_eq_some_iff, reduceCtorEq, and_false, exists_false] at hk; done)
    | (cases hk
       rename_i hargs _ _ _ _ _ _ _ h0 _ _ _ hi _ _;obtain ⟨t, ht, hu⟩ := Option.bind_eq_some_iff.1 h0;exact ⟨_, _, _, t, _, rfl, by assumption, hargs, ht, hu, ⟨_, hi⟩, rfl, by assumption, by assumption⟩)
theorem aUr(hI:Inv P B G s w)(hO:Opn P' env G ρ){h:Hint}{o:Oper}{aop:AOp}(hk:cP P h o.dst o.op=some aop){v:AV}(hv:eX P' env s aop=some (v,s1)):aE6 P B G s1 w (execOp ρ o) v:=by
 cases aop with
 |box x=>
  obtain⟨t,a,ho,ha⟩:=aQb hk;simp only [eX] at hv;split at hv
  ·rename_i hb;cases hv;simpa [execOp,ho,Instr.box] using aTk hI t ((hO.out _ _ ha).box hb)
  ·cases hv
 |alloc z=>
  obtain⟨t,ho,hz⟩:=aLI hk;simp only [eX] at hv;cases hv;obtain⟨i,zv,hi,hzv,hr⟩:=qF (G:=G) hz;have:=aTk hI t hr;unfold aE6 at this⊢;simpa [execOp,ho,Instr.alloc,eC hi hzv] using this
 |store sz a x=>
  obtain⟨t,i,xa,xv,ho,hi,ha,hx,rfl⟩:=aLT hk;simp only [eX] at hv;simpa [execOp,ho] using aSx hI hi (hO.out _ _ ha) (hO.out _ _ hx) hv
 |mkMap=>
  obtain⟨t,ho⟩:=aLJ hk;simp only [eX] at hv;cases hv;have hle:G.le (G.yH s.blks.length w.heap.size):=Gh.wQ hI.aLV;refine⟨_,.map (some w.heap.size),w.alloc (.map #[] 0),_,?_,.inl rfl,hle,hI.aCo _ _ ⟨[],0,rfl,.nil⟩,.map qZ⟩;simp [execOp,ho,Instr.makeMap]
 |mkSlice esz bytes z l c=>
  obtain⟨t,e,xl,xc,ho,hu,hz,hzl,rfl,rfl,hl,hc⟩:=aHC hk;simp only [eX] at hv;simpa [execOp,ho] using aNO hI hu hz hzl rfl rfl (hO.out _ _ hl) (hO.out _ _ hc) hv
 |mC kk m k x=>
  obtain⟨t,xm,xk,xv,kt,et,ho,hu,hkt,hm,hk',hx⟩:=aHJ hk;simp only [eX] at hv;rcases ho with ho|ho
  ·simpa [execOp,ho] using aIq hI hu hkt (hO.out _ _ hm) (hO.out _ _ hk') (hO.out _ _ hx) hv
  ·simpa [execOp,ho] using aIq hI hu hkt (hO.out _ _ hm) (hO.out _ _ hk') (hO.out _ _ hx) hv
 |n4 x=>
  obtain⟨t,a,ho,hu,ha⟩:=aFF hk;simp only [eX] at hv;simpa [execOp,ho] using aR1 hI hu (hO.out _ _ ha) hv
 |oG x=>
  obtain⟨a,ho,ha⟩:=aHc hk;simp only [eX] at hv;simpa [execOp,ho] using aTT (ty:=o.type) hI (hO.out _ _ ha) hv
 |append tk esz bytes a x=>
  obtain⟨c,xa,xx,t,t2,e,e2,ho,hc,hargs,ht,hu,ht2,hu2,hz,rfl,rfl,ha,hx⟩:=aKG hk;have hca:c.args= #[xa,xx]:=by rw [←Array.toArray_toList (xs:=c.args),hargs]
  simp only [eX] at hv;split at hv
  ·cases hv
  simpa [execOp,ho,resolve,hc,invoke,builtin,hca] using aQ1 (ty:=o.type) hI ht hu ht2 hu2 hz (hO.out _ _ ha) (hO.out _ _ hx) rfl rfl hv
 |copy esz a x=>
  obtain⟨c,xa,xx,t,e,ho,hc,hargs,ht,hu,hi,rfl,ha,hx⟩:=aOB hk;have hca:c.args= #[xa,xx]:=by rw [←Array.toArray_toList (xs:=c.args),hargs]
  simp only [eX] at hv;simpa [execOp,ho,resolve,hc,invoke,builtin,hca] using aUS (ty:=o.type) hI ht hu hi (hO.out _ _ ha) (hO.out _ _ hx) rfl hv
 |_=>simp [eX] at hv
end
section
variable {P : Program} {B : Bs} {G : Gh} {s s1 : ASt} {w : World} {P' : bA} {env : Env} {ρ : Operand → Value}
theorem Inv.freeze(hI:Inv P B G s w){l b:Nat}(hL:G.L l=some b){cs:List AV}{wr:Bool}(hb:s.blks[l]?=some (.cells cs wr)):
  ∃vs e,w.heap[b]?=some (.cells (List.toArray vs) e (0,0))∧G.le (G.mB b 0 vs.length vs)∧Inv P B (G.mB b 0 vs.length vs) {s with blks:=s.blks.set l (.cells cs false)} w:=by
 obtain⟨o,ho,hok⟩:=hI.at hL hb;obtain⟨vs,e,rfl,hk,h3,h4⟩:=hok;have hin: ∀o,0≤o→o<vs.length→ ∀x,G.M b o=some x→vs[o]?=some x:=fun o _ _ x hx=>by
  have:=hI.m b o x hx;rwa [w8 ho] at this
 have hle:G.le (G.mB b 0 vs.length vs):=Gh.aBl hin;refine⟨vs,e,ho,hle,hI.aVh hle (fun _=>rfl) (fun _ _=>rfl) hL (fun x j hx=>zX hx) (fun j x hx=> ?_) (fun o ho'=> ?_)⟩
 ·by_cases hj:0≤j∧j<vs.length
  ·rw [p5 hj.1 hj.2] at hx;rw [w8 ho];exact hx
  ·rw [aB0 hj] at hx;exact hI.m b j x hx
 ·rw [ho] at ho';cases ho';refine⟨vs,e,rfl,hk.mono hle,fun h=>(by cases h),fun _ j x hx=> ?_⟩;have hj:j<vs.length:=by
   rcases Nat.lt_or_ge j vs.length with q|q
   ·exact q
   ·rw [List.getElem?_eq_none q] at hx;cases hx
  rw [p5 (Nat.zero_le _) hj];exact hx
theorem aM7(hI:Inv P B G s w){a a':AV}{x:Value}(r:R G (.v a x))(h:aFO s a=some (a',s1)): ∃G',G.le G'∧Inv P B G' s1 w∧R G' (.v a' x):=by
 unfold aFO at h;split at h
 ·rename_i l off len cap sz;cases r with
  |ms hL hc hm=>
  rename_i b;split at h
  ·rename_i xs cs wr hrow hb;cases h;obtain⟨css,hcs,hxl,hcell⟩:=aEt hI hL hrow;obtain⟨vs,e,ho,hle,hinv⟩:=hI.freeze hL hb;refine⟨_,hle,hinv,?_⟩;subst hxl;refine .dQ hc hm ((hcs.mono hle).row fun j y hy=> ?_) trivial;have:=hcell j y hy;rw [w8 ho] at this;have hj:off+j<vs.length:=by
    rcases Nat.lt_or_ge (off+j) vs.length with q|q
    ·exact q
    ·rw [List.getElem?_eq_none q] at this;cases this
   rw [p5 (Nat.zero_le _) hj];exact this
  ·cases h
 ·split at h
  ·rename_i y hy;cases h;exact⟨G,.refl _,hI,(qX hy r).1⟩
  ·cases h
theorem aEW: ∀{a_ as':List AV}{s s1:ASt}{G:Gh}{xs:List Value},Inv P B G s w→R G (.l a_ xs)→tH s a_=some (as',s1)→ ∃G',G.le G'∧Inv P B G' s1 w∧R G' (.l as' xs)
 | [],as',s,s1,G,xs,hI,r,h=>by simp [tH] at h;obtain⟨rfl,rfl⟩:=h;exact⟨G,.refl _,hI,r⟩
 |a::a_,as',s,s1,G,xs,hI,r,h=>by
  cases r with
  |gN r1 r2=>
   simp only [tH] at h;split at h
   ·cases h
   ·rename_i y s2 hy;split at h
    ·cases h
    ·rename_i ys s3 hys;cases h;obtain⟨G1,h1,h2,h3⟩:=aM7 hI r1 hy;obtain⟨G2,k1,k2,k3⟩:=aEW h2 (r2.mono h1) hys;exact⟨G2,h1.trans k1,k2,.gN (h3.mono k1) k3⟩
structure Bs.ext(B B':Bs):Prop where
 pr: ∀b,B.Pr b→B'.Pr b
 os:B'.w0.os=B.w0.os
 tape:B'.w0.tape=B.w0.tape
 output:B'.w0.output=B.w0.output
 size:B.w0.heap.size≤B'.w0.heap.size
 heap: ∀b,B.Pr b→B'.w0.heap[b]?=B.w0.heap[b]?
 M0: ∀b,B.Pr b→ ∀o,B'.M0 b o=B.M0 b o
theorem Bs.ext.refl(B:Bs):B.ext B:=⟨fun _ h=>h,rfl,rfl,rfl,Nat.le_refl _,fun _ _=>rfl,fun _ _ _=>rfl⟩
theorem Inv.base{B':Bs}(h:Inv P B' G s w)(e:B.ext B'):Inv P B G s w where
 os:=h.os.trans e.os
 tape:=h.tape.trans e.tape
 output:=h.output.trans e.output
 size:=Nat.le_trans e.size h.size
 pr:=fun b hb=>(h.pr b (e.pr b hb)).trans (e.heap b hb)
 prM:=fun b hb o=>(h.prM b (e.pr b hb) o).trans (e.M0 b hb o)
 m:=h.m
 l:=fun ℓ b hl=>⟨(h.l ℓ b hl).1,(h.l ℓ b hl).2.1,fun hp=>(h.l ℓ b hl).2.2 (e.pr b hp)⟩
 inj:=h.inj
 blk:=h.blk
 tok:=fun t n ht=>by
  obtain⟨b,c,sz,k⟩:=h.tok t n ht;exact⟨b,c,sz,k.h,fun hp=>k.np (e.pr b hp),k.lt,k.blk,k.szp,k.nc,k.cm,k.m,k.l⟩
 nP:=h.nP
 hh:=h.hh
 tot:=h.tot
def Bs.now(_:Bs)(w:World)(G:Gh)(Pr:Nat→Prop)(lt: ∀b,Pr b→b<w.heap.size):Bs:=⟨Pr,w,G.M,lt⟩
theorem Inv.aUn(h:Inv P B G s w)(Pr:Nat→Prop)(lt: ∀b,Pr b→b<w.heap.size)(hl: ∀ℓ b,G.L ℓ=some b→ ¬Pr b)(ht: ∀t n b c sz,s.toks[t]?=some n→G.H t n=some (b,c,sz)→ ¬Pr b):
  Inv P (B.now w G Pr lt) G s w where
 os:=rfl
 tape:=rfl
 output:=rfl
 size:=Nat.le_refl _
 pr:=fun _ _=>rfl
 prM:=fun _ _ _=>rfl
 m:=h.m
 l:=fun ℓ b hl'=>⟨(h.l ℓ b hl').1,(h.l ℓ b hl').2.1,hl ℓ b hl'⟩
 inj:=h.inj
 blk:=h.blk
 tok:=fun t n ht'=>by
  obtain⟨b,c,sz,k⟩:=h.tok t n ht';exact⟨b,c,sz,k.h,ht t n b c sz ht' k.h,k.lt,k.blk,k.szp,k.nc,k.cm,k.m,k.l⟩
 nP:=h.nP
 hh:=h.hh
 tot:=h.tot
theorem Inv.aR5{B':Bs}(h:Inv P B' G s w)(e:B.ext B')(Pr:Nat→Prop)(lt: ∀b,Pr b→b<w.heap.size)(hp: ∀b,B.Pr b→Pr b):B.ext (B'.now w G Pr lt) where
 pr:=hp
 os:=h.os.trans e.os
 tape:=h.tape.trans e.tape
 output:=h.output.trans e.output
 size:=Nat.le_trans e.size h.size
 heap:=fun b hb=>(h.pr b (e.pr b hb)).trans (e.heap b hb)
 M0:=fun b hb o=>(h.prM b (e.pr b hb) o).trans (e.M0 b hb o)
structure aOm(B B':Bs)(pd:List (Nat×Nat))(tmps:Array Value):Prop where
 at_: ∀d n,(d,n)∈pd→ ∃b e vs,tmps.getD d undef= .pointer (some ⟨b,0,none⟩)∧ ¬B.Pr b∧B'.Pr b∧B'.w0.heap[b]?=some (.cells (List.toArray vs) e (0,0))∧vs.length=n∧ ∀o,B'.M0 b o=none
 inj: ∀d n d' n' b,(d,n)∈pd→(d',n')∈pd→tmps.getD d undef= .pointer (some ⟨b,0,none⟩)→tmps.getD d' undef= .pointer (some ⟨b,0,none⟩)→d=d'
theorem aOm.nil{B':Bs}{tmps:Array Value}:aOm B B' [] tmps:=⟨fun _ _ h=>(by cases h),fun _ _ _ _ _ h=>(by cases h)⟩
theorem aKl{tmps:Array Value}{d i:Nat}{v:Value}(h:i≠d):(tmps.setIfInBounds d v).getD i undef=tmps.getD i undef:=by
 simp [Array.getD_eq_getD_getElem?,Array.getElem?_setIfInBounds_ne (Ne.symm h)]
theorem aAI{tmps:Array Value}{d:Nat}{v:Value}(h:d<tmps.size):(tmps.setIfInBounds d v).getD d undef=v:=by
 simp [Array.getD_eq_getD_getElem?,h]
theorem lP{d:Option Nat}{pd:List (Nat×Nat)}{x:Nat×Nat}(h:x∈aS d pd):x∈pd∧ ∀e,d=some e→x.1≠e:=by
 unfold aS at h;split at h
 ·exact⟨h,fun e he=>by cases he⟩
 ·rename_i d;rw [List.mem_filter] at h;refine⟨h.1,fun e he=> ?_⟩;cases he;intro q;rw [q] at h;simp at h
theorem aOm.put{B':Bs}{pd:List (Nat×Nat)}{tmps:Array Value}(h:aOm B B' pd tmps)(d:Option Nat)(v:Value):aOm B B' (aS d pd) (match d with|some d=>tmps.setIfInBounds d v|none=>tmps):=by
 have hg: ∀x,x∈aS d pd→(match d with|some d=>tmps.setIfInBounds d v|none=>tmps).getD x.1 undef=tmps.getD x.1 undef:=by
  intro x hx;cases d with
  |none=>rfl
  |some d=>exact aKl ((lP hx).2 d rfl)
 refine⟨fun e n he=> ?_,fun e n e' n' b h1 h2 h3 h4=> ?_⟩
 ·rw [hg _ he];exact h.at_ e n (lP he).1
 ·rw [hg _ h1] at h3;rw [hg _ h2] at h4;exact h.inj e n e' n' b (lP h1).1 (lP h2).1 h3 h4
end
def aVz(G:Gh):kO→Ending→Prop
 | .ret v,.returned x=>R G (.v v x)
 | .panic v,.panicked chain=> ∃x,chain= [{v:=x,recovered:=false}]∧R G (.v v x)
 |_,_=>False
def xN(P:Program)(B:Bs)(G:Gh)(s':ASt)(r:kO)(e:Ending)(w':World):Prop:= ∃G',G.le G'∧Inv P B G' s' w'∧aVz G' r e
def FV(P:Program):Fence:={fn:=fun f=> ∃fn,P.funcs[f]?=some fn,depth:=none,alive:=false}
theorem aRY{P:Program}(n:Nat):(FV P).room n:=fun _ h=>by simp [FV] at h
def aQs(P:Program)(m:Sem Next)(w:World)(R:Ending→World→Prop):Prop:=
 ∃n w1,m.run P w= .ok n w1∧(match n with| .enter f args=>CallsIn (FV P) 0 P f args w1 R| .value x=>R (.returned x) w1|_=>False)
def uX(G:Gh):DM→FrameMode→Prop
 | .ret,.returning=>True
 | .pan v,.panicking chain=> ∃x,chain= [{v:=x,recovered:=false}]∧R G (.v v x)
 |_,_=>False
structure HOk(P:Program)(P':bA)(H:Handler):Prop where
 func: ∀f args s r s',H.call (.func f) args s=some (r,s')→ ∀B G w xs,Inv P B G s w→iY P' G→R G (.l args xs)→aQs P (callFunc f xs.toArray) w (xN P B G s' r)
 yield: ∀l args s r s',H.call (.yield l) args s=some (r,s')→ ∀B G w xs b,Inv P B G s w→iY P' G→R G (.l args xs)→G.L l=some b→
  ∃f tmps a_ bd,(Instr.yield b xs.toArray).run P w= .ok (.round b f tmps a_ bd) w∧RoundIn (FV P) 0 P b f tmps a_ bd w (xN P B G s' r)
 dcall: ∀f args m s m' s',H.dcall f args m s=some (m',s')→ ∀B G w xs u,Inv P B G s w→iY P' G→R G (.l args xs)→uX G m u→
  (callFunc f xs.toArray).run P w= .ok (.enter f xs.toArray) w∧CallsDIn (FV P) 0 P f xs.toArray u w fun e u' w'=> ∃G',G.le G'∧Inv P B G' s' w'∧(∃x,e= .returned x)∧uX G' m' (Go.settle u')
def DOk(G:Gh):jI→Deferred→Prop
 | .mark l,d=> ∃b,d.target= .collected b∧G.L l=some b
 | .call f args,d=> ∃cap:List Value,∃xs:List Value,d.target= .fn (.func f) cap.toArray∧d.args=xs.toArray∧R G (.l args (xs++cap))
inductive rU(G:Gh):List jI→List Deferred→Prop
 |nil:rU G [] []
 |cons {a d a_ ds} (h:DOk G a d) (t:rU G a_ ds):rU G (a::a_) (d::ds)
theorem DOk.mono{G G':Gh}(hG:G.le G'){a:jI}{d:Deferred}(h:DOk G a d):DOk G' a d:=by
 cases a with
 |mark l=>obtain⟨b,h1,h2⟩:=h;exact⟨b,h1,hG.L _ _ h2⟩
 |call f args=>obtain⟨cap,xs,h1,h2,h3⟩:=h;exact⟨cap,xs,h1,h2,h3.mono hG⟩
theorem rU.mono{G G':Gh}(hG:G.le G'){a_:List jI}{ds:List Deferred}(h:rU G a_ ds):rU G' a_ ds:=by
 induction h with
 |nil=>exact .nil
 |cons h _ ih=>exact .cons (h.mono hG) ih
def FR(P:Program)(rd:Option Nat):Fence:={(FV P) with round:=rd}
theorem aEi{rd:Option Nat}{P:Program}{f:FuncId}{args:Array Value}{w:World}{R:Ending→World→Prop}(h:CallsIn (FV P) 0 P f args w R):CallsIn (FR P rd) 0 P f args w R:=h
theorem aQK{rd:Option Nat}{P:Program}{l:Nat}{f:FuncId}{tmps:Array Value}{a_ bd:Code}{w:World}{R:Ending→World→Prop}(h:RoundIn (FV P) 0 P l f tmps a_ bd w R):RoundIn (FR P rd) 0 P l f tmps a_ bd w R:=h
structure RI(P:Program)(B:Bs)(P':bA)(nt:Nat)(pd:List (Nat×Nat))(fr:Fr)(s:ASt)(a:Act)(w:World)(G:Gh)(B':Bs):Prop where
 ext:B.ext B'
 inv:Inv P B' G s w
 pend:aOm B B' pd a.tmps
 env:kG G nt fr.env a.tmps
 aAe:iY P' G
 ds:rU G fr.ds a.defers
theorem kG.put{G:Gh}{nt:Nat}{env:Env}{tmps:Array Value}(h:kG G nt env tmps){d:Nat}(hd:d<nt){v:AV}{x:Value}(r:R G (.v v x)):kG G nt (upd env d v) (tmps.setIfInBounds d x):=by
 refine⟨by simp [h.1],fun i=> ?_⟩;unfold upd;by_cases e:i=d
 ·subst e;rw [aAI (by rw [h.1];exact hd)];simp only [Nat.beq_refl];exact r
 ·rw [aKl e];have:Nat.beq i d=false:=by
   cases hb:Nat.beq i d with
   |false=>rfl
   |true=>exact absurd (Nat.eq_of_beq_eq_true hb) e
  rw [this];exact h.2 i
theorem kG.aRs{G:Gh}{nt:Nat}{env:Env}{a:Act}(h:kG G nt env a.tmps){d:Option Nat}(hd: ∀e,d=some e→e<nt){v:AV}{x:Value}(r:R G (.v v x)):kG G nt (fQ env d v) (a.put d x).tmps:=by
 cases d with
 |none=>exact h
 |some d=>exact h.put (hd d rfl) r
theorem aEE(a:Act)(d:Option Nat)(x:Value):(a.put d x).tmps=(match d with|some d=>a.tmps.setIfInBounds d x|none=>a.tmps):=by cases d<;>rfl
theorem put_defers(a:Act)(d:Option Nat)(x:Value):(a.put d x).defers=a.defers:=by cases d<;>rfl
section
variable {P : Program} {B B' : Bs} {P' : bA} {nt : Nat} {pd : List (Nat × Nat)} {fr : Fr} {s s1 : ASt} {a : Act} {w w' : World} {G G' : Gh}
theorem RI.put(h:RI P B P' nt pd fr s a w G B')(hle:G.le G')(hI:Inv P B' G' s1 w'){d:Option Nat}(hd: ∀e,d=some e→e<nt){v:AV}{x:Value}(r:R G' (.v v x)):
  RI P B P' nt (aS d pd) {fr with env:=fQ fr.env d v} s1 (a.put d x) w' G' B' where
 ext:=h.ext
 inv:=hI
 pend:=by rw [aEE];exact h.pend.put d x
 env:=(h.env.mono hle).aRs hd r
 aAe:=h.aAe.mono hle
 ds:=by rw [put_defers];exact h.ds.mono hle
structure aCr(P:Program)(h:Hint)(all:Array Oper)(o:Oper)(ai:AI):Prop where
 d:ai.d=o.dst
 op:ai.op= .bad∨cP P h o.dst o.op=some ai.op
 gd:match o.guard with|none=>ai.gd=none|some (j,b)=> ∃t,(all[j]?).bind (·.dst)=some t∧ai.gd=some (t,b)
theorem qV{h:Hint}{all:Array Oper}{o:Oper}{ai:AI}(hc:aCr P h all o ai)(hE:kG G nt fr.env a.tmps){b:Bool}(hw:wanted fr.env ai.gd=some b):Region.wanted o (yielded all a.tmps)=b:=by
 have hg:=hc.gd;unfold Region.wanted;cases hgo:o.guard with
 |none=>
  rw [hgo] at hg;rw [hg] at hw;simp [wanted] at hw;simp [hw]
 |some jb=>
  obtain⟨j,b'⟩:=jb;rw [hgo] at hg;obtain⟨t,ht,hg⟩:=hg;rw [hg] at hw;have hr:=hE.2 t;simp only [wanted] at hw;simp only [yielded,ht,Option.bind_some];have hget:a.tmps.getD t undef=(a.tmps[t]?).getD undef:=by simp [Array.getD_eq_getD_getElem?]
  rw [hget] at hr;split at hw
  ·rename_i c hc';rw [hc'] at hr;cases hw;cases hx:a.tmps[t]? with
   |none=>rw [hx] at hr;cases hr
   |some x=>
    rw [hx] at hr;simp only [Option.getD_some] at hr;cases hr;simp
  ·rename_i hc';rw [hc'] at hr;cases hw;cases hx:a.tmps[t]? with
   |none=>simp
   |some x=>
    rw [hx] at hr;simp only [Option.getD_some] at hr;cases hr;simp
  ·cases hw
def tT(rd:Option Nat)(P:Program)(all:Array Oper)(o:Oper)(a:Act)(w:World)(K:Act→World→Prop)(Q:Exit→Act→World→Prop):Prop:=
 if Region.wanted o (yielded all a.tmps) then o.wpIn (FR P rd) 0 P a w K Q else(∀f,o.about P w a.eval=some f→(FR P rd).fn f)∧K (a.put o.dst undef) w
theorem tM{o:Oper}(hab: ∀f,o.about P w a.eval=some f→ ∃fn,P.funcs[f]?=some fn){rd:Option Nat}{all:Array Oper}{K:Act→World→Prop}{Q:Exit→Act→World→Prop}(hw:Region.wanted o (yielded all a.tmps)=true)(hd: ∀c,o.op≠ .defer c){n:Next}{x:Value}
(hr:(execOp a.eval o).run P w= .ok n w')(hn:n= .value x∨(n= .skip∧x=undef))(hk:K (a.put o.dst x) w'):tT rd P all o a w K Q:=by
 unfold tT;rw [if_pos hw];refine⟨hab,?_⟩;rw [Oper.semAt_eq _ _ _ hd,hr];rcases hn with rfl|⟨rfl,rfl⟩<;>exact hk
theorem aFZ{o:Oper}(hab: ∀f,o.about P w a.eval=some f→ ∃fn,P.funcs[f]?=some fn){rd:Option Nat}{all:Array Oper}{K:Act→World→Prop}{Q:Exit→Act→World→Prop}(hw:Region.wanted o (yielded all a.tmps)=true)(hd: ∀c,o.op≠ .defer c){R:Ending→World→Prop}
(hr:aQs P (execOp a.eval o) w R)(hk: ∀x w',R (.returned x) w'→K (a.put o.dst x) w')(hp: ∀c w',R (.panicked c) w'→Q (.panic c) a w')(ho: ∀w',¬R .outgrown w'):tT rd P all o a w K Q:=by
 unfold tT;rw [if_pos hw];refine⟨hab,?_⟩;obtain⟨n,w1,hrun,hn⟩:=hr;rw [Oper.semAt_eq _ _ _ hd,hrun];cases n<;>first|exact hn.elim|skip
 ·exact hk _ _ hn
 ·refine⟨fun h=> ?_,aEi (hn.mono fun e w2 h=> ?_)⟩
  ·simp [FR,FV] at h
  ·cases e with
   |returned v=>exact hk _ _ h
   |panicked c=>exact hp _ _ h
   |outgrown=>exact absurd h (ho _)
theorem aL4{o:Oper}(hab: ∀f,o.about P w a.eval=some f→ ∃fn,P.funcs[f]?=some fn){rd:Option Nat}{all:Array Oper}{K:Act→World→Prop}{Q:Exit→Act→World→Prop}(hw:Region.wanted o (yielded all a.tmps)=true)(hd: ∀c,o.op≠ .defer c){R:Ending→World→Prop}{l:Nat}{f:FuncId}{tmps:Array Value}{a_ bd:Code}
(hr:(execOp a.eval o).run P w= .ok (.round l f tmps a_ bd) w)(h:RoundIn (FV P) 0 P l f tmps a_ bd w R)(hk: ∀x w',R (.returned x) w'→K (a.put o.dst x) w')(hp: ∀c w',R (.panicked c) w'→Q (.panic c) a w')(ho: ∀w',¬R .outgrown w'):tT rd P all o a w K Q:=by
 unfold tT;rw [if_pos hw];refine⟨hab,?_⟩;rw [Oper.semAt_eq _ _ _ hd,hr];refine⟨fun h=> ?_,aQK (h.mono fun e w2 h=> ?_)⟩
 ·simp [FR,FV] at h
 ·cases e with
  |returned v=>exact hk _ _ h
  |panicked c=>exact hp _ _ h
  |outgrown=>exact absurd h (ho _)
end
def m6:Sh→Bool
 | .v a _=>dC a
 | .l a_ _=>fH a_
 | .k a_ _=>fH a_
 | .c a _=>dC a
 | .r _ a_ _ _=>fH a_
def aRq(G:Gh):Prop:=(∀l b,G.L l≠some b)∧ ∀t n x,G.H t n≠some x
theorem R.swap{G:Gh}{L:Nat→Option Nat}{H:Nat→Nat→Option (Nat×Nat×Nat)}{sh:Sh}(r:R G sh)(h:m6 sh=true∨aRq G):R ⟨G.M,L,H⟩ sh:=by
 have own: ∀{o:Own}{xs:List AV}{sz:Nat}{A:Option Addr}{n c:Nat},(dC (.slice sz xs o)=true∨aRq G)→qD G o A sz n c→qD ⟨G.M,L,H⟩ o A sz n c:=by
  intro o xs sz A n c hh ho;cases o with
  |no=>trivial
  |full=>exact ho
  |tok t=>
   rcases hh with hh|hh
   ·simp [dC] at hh
   ·obtain⟨b,_,h2⟩:=ho;exact absurd h2 (hh.2 _ _ _)
 have noL: ∀{l b:Nat}{X:Prop},aRq G→G.L l=some b→X:=fun hh e=>absurd e (hh.1 _ _)
 induction r with
 |int h'=>exact .int h'
 |bool b=>exact .bool b
 |str s hs=>exact .str s hs
 |cZ hm ho=>exact .cZ hm (own h ho)
 |dQ hc hm _ ho ih=>
  refine .dQ hc hm (ih ?_) (own h ho);rcases h with h|h
  ·left
   simp only [m6,dC] at h⊢;split at h
   ·cases h
   ·exact h
  ·exact .inr h
 |ms hL hc hm=>rcases h with h|h;simp [m6,dC] at h;exact noL h hL
 |agg _ ih=>exact .agg (ih (by simpa [m6,dC] using h))
 |tuple _ ih=>exact .tuple (ih (by simpa [m6,dC] using h))
 |eH=>exact .eH
 |ptr off hL=>rcases h with h|h;simp [m6,dC] at h;exact noL h hL
 |aG off _ hM ih=>exact .aG off (ih (by simpa [m6,dC] using h)) hM
 |func _ _ ha hb=>
  simp only [m6,dC,Bool.and_eq_true] at h;exact .func (ha (by rcases h with h|h;exact .inl h.1;exact .inr h)) (hb (by rcases h with h|h;exact .inl h.2;exact .inr h))
 |dP=>exact .dP
 |yield hL=>rcases h with h|h;simp [m6,dC] at h;exact noL h hL
 |map hL=>rcases h with h|h;simp [m6,dC] at h;exact noL h hL
 |eQ=>exact .eQ
 |iface _ ih=>exact .iface (ih (by simpa [m6,dC] using h))
 |cI=>exact .cI
 |iter hL=>rcases h with h|h;simp [m6,dC] at h;exact noL h hL
 |nX x=>exact .nX x
 |tF=>exact .tF
 |gN _ _ h1 h2=>
  simp only [m6,fH,Bool.and_eq_true] at h h1 h2;exact .gN (h1 (by rcases h with h|h;exact .inl h.1;exact .inr h)) (h2 (by rcases h with h|h;exact .inl h.2;exact .inr h))
 |iI=>exact .iI
 |cY _ hc _ h1 h2=>
  simp only [m6,fH,Bool.and_eq_true] at h h1 h2;exact .cY (h1 (by rcases h with h|h;exact .inl h.1;exact .inr h)) hc (h2 (by rcases h with h|h;exact .inl h.2;exact .inr h))
 |wI _ ih=>exact .wI (ih (by simpa [m6,dC] using h))
 |yC ha h1 _ ih=>exact .yC ha h1 (ih h)
 |aAj sz b o=>exact .aAj sz b o
 |n6 _ hl hM _ h1 h2=>
  simp only [m6,fH,Bool.and_eq_true] at h h1 h2;exact .n6 (h1 (by rcases h with h|h;exact .inl h.1;exact .inr h)) hl hM (h2 (by rcases h with h|h;exact .inl h.2;exact .inr h))
section
variable {P : Program} {B B' : Bs} {P' : bA} {nt : Nat} {pd : List (Nat × Nat)} {fr : Fr} {s s1 : ASt} {a : Act} {w w' : World} {G G' : Gh}
theorem Inv.aNc(h:Inv P B G s w)(he:isE s=true):aRq G:=by
 unfold isE at he;split at he
 ·rename_i h1 h2;refine⟨fun l b hl=> ?_,fun t n x hx=> ?_⟩
  ·have:=(h.l l b hl).1;rw [h1] at this;simp at this
  ·obtain⟨n0,h3,_⟩:=h.hh t n x hx;rw [h2] at h3;simp at h3
 ·cases he
def aF6(G:Gh):Gh:=⟨G.M,fun _=>none,fun _ _=>none⟩
def aNn(w:World)(G:Gh):Bs:=⟨fun b=>b<w.heap.size,w,G.M,fun _ h=>h⟩
theorem Inv.bare(h:Inv P B G s w):Inv P (aNn w G) (aF6 G) eB w where
 os:=rfl
 tape:=rfl
 output:=rfl
 size:=Nat.le_refl _
 pr:=fun _ _=>rfl
 prM:=fun _ _ _=>rfl
 m:=h.m
 l:=fun _ _ h=>by cases h
 inj:=fun _ _ _ h=>by cases h
 blk:=fun _ _ _ _ h=>by cases h
 tok:=fun t n h=>by simp [eB] at h
 nP:=fun _ _ _ _ _ _ _ _ _ h=>by simp [eB] at h
 hh:=fun _ _ _ h=>by cases h
 tot:=fun _ h=>absurd h (Nat.not_lt_zero _)
theorem Inv.aTY(h:Inv P B G s w){G2:Gh}{s2:ASt}(hle:(aF6 G).le G2)(h2:Inv P (aNn w G) G2 s2 w'):xQ G w ⟨G2.M,G.L,G.H⟩ w' where
 le:=⟨hle.M,fun _ _ h=>h,fun _ _ _ h=>h⟩
 L:=fun _=>rfl
 H:=fun _ _=>rfl
 os:=h2.os
 tape:=h2.tape
 output:=h2.output
 size:=h2.size
 aDI:=fun b hb=>h2.pr b hb
 old:=fun b hb o=>h2.prM b hb o
 new:=fun b o x _ hx=>h2.m b o x hx
theorem iY.bare(h:iY P' G)(hp: ∀g,dC (P'.gl g)=true):iY P' (aF6 G):=fun g=>(h g).swap (.inl (by simpa [m6,dC] using hp g))
end
structure Eff where
 t:Option Nat
 v:AV
 add:Option Nat:=none
 aUc:Option (Nat×Nat):=none
def yV(E:Eff)(pd:List (Nat×Nat)):List (Nat×Nat):=
 match E.add,E.t with
 |some n,some d=>(d,n)::aS E.t pd
 |_,_=>aS E.t pd
def u6(E:Eff)(pd:List (Nat×Nat)):Bool:=match E.aUc with|none=>true|some (d,sz)=>pd.any fun p=>Nat.beq p.1 d&&Nat.beq p.2 sz
theorem lS{pd:List (Nat×Nat)}{t:Option Nat}{v:AV}{n:Option (Nat×Nat)}:yV ⟨t,v,none,n⟩ pd=aS t pd:=by cases t<;>rfl
def eff(H:Handler)(P:bA)(i:AI)(e:Env)(ds:List jI)(s:ASt):Option (Eff×List jI×ASt):=
 match wanted e i.gd with
 |none=>none
 |some false=>some (⟨i.d,fW,none,none⟩,ds,s)
 |some true=>
  match i.op with
  | .pend z=>match i.d with|some d=>some (⟨some d,.nX,some z.length,none⟩,ds,s)|none=>none
  | .shut d sz x=>
   match i.d,iK (evO P e x) with
   |none,some v=>if(cellsOf v).length=sz then some (⟨some d,.aG v 0,none,some (d,sz)⟩,ds,s) else none
   |_,_=>none
  | .defer f args=>
   match evO P e f,eD (args.map (evO P e)) with
   | .func g a b,some vs=>some (⟨i.d,fW,none,none⟩,.call g (a++vs++b)::ds,s)
   |_,_=>none
  | .panic _=>none
  | .aN st f args=>
   match evO P e f,eD (args.map (evO P e)) with
   | .func g a b,some vs=>
    match(!st&&isE s)||fH (a++vs++b),H.call (.func g) (a++vs++b) eB with
    |true,some (.ret v,s2)=>
     match oM v with
     |some v=>match isE s2||dC v with|true=>some (⟨i.d,v,none,none⟩,ds,s)|false=>none
     |none=>none
    |_,_=>none
   |_,_=>none
  | .call _ _=>none
  |op=>
   match bX P e op with
   |some v=>some (⟨i.d,v,none,none⟩,ds,s)
   |none=>
    match gO P e s op with
    |some v=>some (⟨i.d,v,none,none⟩,ds,s)
    |none=>
     match eX P e s op with
     |some (v,s1)=>some (⟨i.d,v,none,none⟩,ds,s1)
     |none=>none
section
variable {H : Handler} {P : bA} {i : AI} {e e' : Env} {ds : List jI} {s : ASt}
theorem oW{rest:List AI}{pd:List (Nat×Nat)}(hc:eS i.op≠3):
  bS H P (i::rest) pd ⟨e,ds⟩ s=
   match eff H P i e ds s with
   |some (E,ds',s')=>match u6 E pd with|true=>bS H P rest (yV E pd) ⟨fQ e E.t E.v,ds'⟩ s'|false=>none
   |none=>none:=by
 obtain⟨d,op,gd,pre⟩:=i;simp only [bS,eff];cases hw:wanted e gd with
 |none=>rfl
 |some b=>
  cases b with
  |false=>rfl
  |true=>
   cases op with
   |call f args=>simp [eS] at hc
   |panic x=>simp [eS] at hc
   |pend z=>cases d<;>rfl
   |shut d' sz x=>
    simp only;cases d with
    |some d=>cases iK (evO P e x)<;>rfl
    |none=>
     cases iK (evO P e x) with
     |none=>rfl
     |some v=>
      by_cases h1:(cellsOf v).length=sz
      ·simp only [h1,decide_true,Bool.true_and,if_true,u6];cases pd.any fun p=>Nat.beq p.1 d'&&Nat.beq p.2 sz<;>rfl
      ·simp [h1]
   |defer f args=>
    simp only;split<;>first|rfl|simp_all [yV,u6]
   |aN st f args=>
    simp only;generalize evO P e f=fv;cases fv with
    |func g a b=>
     cases eD (args.map (evO P e)) with
     |none=>rfl
     |some vs=>
      simp only;cases ((!st&&isE s)||fH (a++vs++b)) with
      |false=>rfl
      |true=>
       cases H.call (.func g) (a++vs++b) eB with
       |none=>rfl
       |some rs=>
        obtain⟨r,s2⟩:=rs;cases r with
        |panic v=>rfl
        |ret v=>
         simp only;cases oM v with
         |none=>rfl
         |some v=>simp only;cases (isE s2||dC v)<;>rfl
    |_=>rfl
   |_=>
    simp only;split
    ·rename_i h;simp only [h,u6,lS]
    ·rename_i h;split
     ·rename_i h2;simp only [h,h2,u6,lS]
     ·rename_i h2;split<;>(rename_i h3;simp only [h,h2,h3,u6,lS])
theorem cM{x:aQ}(h: ∀t∈kV x,e t=e' t):evO P e x=evO P e' x:=by
 cases x<;>simp [evO];exact h _ (by simp [kV])
theorem pM{xs:List aQ}(h: ∀t∈xs.flatMap kV,e t=e' t):xs.map (evO P e)=xs.map (evO P e'):=
 List.map_congr_left fun x hx=>cM fun t ht=>h t (List.mem_flatMap.2 ⟨x,hx,ht⟩)
theorem lO{d:Nat}{x:Option aQ}(h: ∀t∈zU x,e t=e' t):cS P e d x=cS P e' d x:=by
 cases x with
 |none=>rfl
 |some x=>simp only [cS];rw [cM h]
theorem aLw{op:AOp}(h: ∀t∈eV op,e t=e' t):bX P e op=bX P e' op:=by
 cases op with
 |un u x=>cases u<;>simp only [bX]<;>simp only [eV] at h<;>rw [cM h]
 |aBh m xs=>
  rcases xs with _|⟨x,_|⟨y,_|⟨z,zs⟩⟩⟩<;>simp only [bX];simp only [eV,List.flatMap_cons,List.flatMap_nil,List.append_nil,List.mem_append] at h;rw [cM fun t ht=>h t (.inl ht),cM fun t ht=>h t (.inr ht)]
 |pick c a b=>
  simp only [eV,List.mem_append] at h;simp only [bX];rw [cM fun t ht=>h t (.inl (.inl ht)),cM fun t ht=>h t (.inl (.inr ht)),cM fun t ht=>h t (.inr ht)]
 |build z ps=>
  simp only [bX];rw [List.map_congr_left (g:=fun p=>(p.1,p.2.1,evO P e' p.2.2)) fun p hp=>by
   rw [cM fun t ht=>h t (by simp only [eV];exact List.mem_flatMap.2 ⟨p,hp,ht⟩)]]
 |iD a b c ps=>
  simp only [bX];rw [List.map_congr_left (g:=fun p=>evO P e' p.2) fun p hp=>by
   rw [cM fun t ht=>h t (by simp only [eV];exact List.mem_flatMap.2 ⟨p,hp,ht⟩)]]
 |nT f a b=>
  simp only [eV,List.mem_append] at h;simp only [bX];rw [pM fun t ht=>h t (.inl ht),pM fun t ht=>h t (.inr ht)]
 |aAg z x lo hi mx=>
  simp only [eV,List.mem_append] at h;simp only [bX];rw [cM fun t ht=>h t (.inl (.inl (.inl ht)))];simp only [lO (P:=P) fun t ht=>h t (.inl (.inl (.inr ht))),lO (P:=P) fun t ht=>h t (.inl (.inr ht)),lO (P:=P) fun t ht=>h t (.inr ht)]
 |aFp x lo hi=>
  simp only [eV,List.mem_append] at h;simp only [bX];rw [cM fun t ht=>h t (.inl (.inl ht))];simp only [lO (P:=P) fun t ht=>h t (.inl (.inr ht)),lO (P:=P) fun t ht=>h t (.inr ht)]
 |aQm n z x lo hi=>
  simp only [eV,List.mem_append] at h;simp only [bX];rw [cM fun t ht=>h t (.inl (.inl ht))];simp only [lO (P:=P) fun t ht=>h t (.inl (.inr ht)),lO (P:=P) fun t ht=>h t (.inr ht)]
 |_=>
  first
   |rfl
   |(simp only [bX];simp only [eV] at h;rw [cM h];done)
   |(simp only [bX];simp only [eV,List.mem_append] at h;rw [cM fun t ht=>h t (.inl ht),cM fun t ht=>h t (.inr ht)];done)
theorem aLy{op:AOp}(h: ∀t∈eV op,e t=e' t):gO P e s op=gO P e' s op:=by
 cases op with
 |load a sz x=>simp only [eV] at h;simp only [gO];rw [cM h]
 |lookup ok kk z m k=>
  simp only [eV,List.mem_append] at h;simp only [gO];rw [cM fun t ht=>h t (.inl ht),cM fun t ht=>h t (.inr ht)]
 |_=>rfl
theorem aMc{op:AOp}(h: ∀t∈eV op,e t=e' t):eX P e s op=eX P e' s op:=by
 cases op with
 |mC kk m k v=>
  simp only [eV,List.mem_append] at h;simp only [eX];rw [cM fun t ht=>h t (.inl (.inl ht)),cM fun t ht=>h t (.inl (.inr ht)),cM fun t ht=>h t (.inr ht)]
 |_=>
  first
   |rfl
   |(simp only [eX];simp only [eV] at h;rw [cM h];done)
   |(simp only [eX];simp only [eV,List.mem_append] at h;rw [cM fun t ht=>h t (.inl ht),cM fun t ht=>h t (.inr ht)];done)
theorem aHe{gd:Option (Nat×Bool)}(h: ∀t b,gd=some (t,b)→e t=e' t):wanted e gd=wanted e' gd:=by
 cases gd with
 |none=>rfl
 |some g=>obtain⟨t,b⟩:=g;simp only [wanted];rw [h t b rfl]
theorem aFX(h: ∀t∈pR i,e t=e' t):eff H P i e ds s=eff H P i e' ds s:=by
 obtain⟨d,op,gd,pre⟩:=i;have hw:wanted e gd=wanted e' gd:=aHe fun t b hg=>h t (by subst hg;simp [pR]);have hr: ∀t∈eV op,e t=e' t:=fun t ht=>h t (by simp [pR,ht]);simp only [eff,hw];cases op with
 |pend z=>rfl
 |shut d' sz x=>
  have:evO P e x=evO P e' x:=cM fun t ht=>hr t (by simp [eV,ht]);simp only [this]
 |defer f args=>
  have h1:evO P e f=evO P e' f:=cM fun t ht=>hr t (by simp [eV,ht]);have h2:args.map (evO P e)=args.map (evO P e'):=pM fun t ht=>hr t (by simp only [eV,List.mem_append];exact .inr ht);simp only [h1,h2]
 |aN st f args=>
  have h1:evO P e f=evO P e' f:=cM fun t ht=>hr t (by simp [eV,ht]);have h2:args.map (evO P e)=args.map (evO P e'):=pM fun t ht=>hr t (by simp only [eV,List.mem_append];exact .inr ht);simp only [h1,h2]
 |panic x=>rfl
 |call f args=>rfl
 |_=>simp only [aLw hr,aLy hr,aMc hr]
theorem aGm{E:Eff}{ds':List jI}{s':ASt}(h:eff H P i e ds s=some (E,ds',s')): ∀t,E.t=some t→t∈fK i:=by
 obtain⟨d,op,gd,pre⟩:=i;have hd: ∀t,d=some t→t∈fK ⟨d,op,gd,pre⟩:=fun t ht=>by subst ht;simp [fK]
 simp only [eff] at h;split at h
 ·cases h
 ·cases h;exact hd
 ·split at h
  ·split at h<;>cases h;exact hd
  ·rename_i d' sz x _;split at h
   ·split at h
    ·cases h;intro t ht;cases ht;simp [fK]
    ·cases h
   ·cases h
  ·split at h<;>cases h;exact hd
  ·cases h
  ·split at h
   ·split at h
    ·split at h
     ·split at h<;>cases h;exact hd
     ·cases h
    ·cases h
   ·cases h
  ·cases h
  ·split at h
   ·cases h;exact hd
   ·split at h
    ·cases h;exact hd
    ·split at h<;>cases h;exact hd
theorem aKM{E:Eff}{ds':List jI}{s':ASt}(h:eff H P i e ds s=some (E,ds',s')): ∀t n,E.aUc=some (t,n)→t∈fK i:=by
 obtain⟨d,op,gd,pre⟩:=i;simp only [eff] at h;split at h
 ·cases h
 ·cases h;intro t n hn;cases hn
 ·split at h
  ·split at h<;>cases h;intro t n hn;cases hn
  ·rename_i d' sz x _;split at h
   ·split at h
    ·cases h;intro t n ht;cases ht;simp [fK]
    ·cases h
   ·cases h
  ·split at h<;>cases h;intro t n hn;cases hn
  ·cases h
  ·split at h
   ·split at h
    ·split at h
     ·split at h<;>cases h;intro t n hn;cases hn
     ·cases h
    ·cases h
   ·cases h
  ·cases h
  ·split at h
   ·cases h;intro t n hn;cases hn
   ·split at h
    ·cases h;intro t n hn;cases hn
    ·split at h<;>cases h;intro t n hn;cases hn
theorem aJY{op:AOp}(h:eS op≠2)(h4:eS op≠4):eX P e s op=none:=by
 cases op with
 |append tk a b c d=>cases tk<;>simp [eS] at h h4
 |_=>first|rfl|(simp [eS] at h)
theorem aO4{op:AOp}(h:eS op≠1):gO P e s op=none:=by cases op<;>first|rfl|(simp [eS] at h)
theorem sZ{E:Eff}{ds':List jI}{s':ASt}(hc:eS i.op≠2)(hc4:eS i.op≠4)(h:eff H P i e ds s=some (E,ds',s')):ds'=ds∧s'=s:=by
 obtain⟨d,op,gd,pre⟩:=i;simp only at hc hc4;simp only [eff] at h;split at h
 ·cases h
 ·cases h;exact⟨rfl,rfl⟩
 ·split at h
  ·split at h<;>cases h;exact⟨rfl,rfl⟩
  ·split at h
   ·split at h
    ·cases h;exact⟨rfl,rfl⟩
    ·cases h
   ·cases h
  ·simp [eS] at hc
  ·cases h
  ·split at h
   ·split at h
    ·split at h
     ·split at h<;>cases h;exact⟨rfl,rfl⟩
     ·cases h
    ·cases h
   ·cases h
  ·cases h
  ·split at h
   ·cases h;exact⟨rfl,rfl⟩
   ·split at h
    ·cases h;exact⟨rfl,rfl⟩
    ·rw [aJY hc hc4] at h;cases h
theorem aF9 {E : Eff} {ds0 : List jI} {s0 : ASt} (hc : eS i.op = 0) (h : eff H P i e ds s = some (E, ds, s)) : eff H P i e ds0 s0 = some (E, ds0, s0) := by
  obtain ⟨d, op, gd, pre⟩ := i;simp only at hc;have h2 : eS op ≠ 2 := by rw [hc]; simp
  have h4 : eS op ≠ 4 := by rw [hc]; simp
  have h1 : eS op ≠ 1 := by rw [hc]; simp
  simp only [eff] at h ⊢;split at h
  · cases h
  · cases h; rfl
  · cases op with
    | pend z => simp only at h ⊢; split at h <;> cases h; rfl
    | shut d' sz x =>
      simp only at h ⊢;split at h
      · split at h
        · rename_i hl; cases h; simp [hl]
        · cases h
      · cases h
    | defer f args => simp [eS] at hc
    | panic x => simp [eS] at hc
    | call f args => simp [eS] at hc
    | aN st f args =>
      cases st with
      | false => simp [eS] at hc
      | true =>
        simp only [Bool.not_true, Bool.false_and, Bool.false_or] at h ⊢;split at h
        · split at h
          · split at h
            · split at h
              · cases h; simp [*]
              · cases h
            · cases h
          · cases h
        · cases h
    | _ =>
      first
        | (simp [eS] at hc; done)
        | (simp only at h ⊢
           split at h
           · cases h; rfl
           · rw [aO4 h1, aJY h2 h4] at h; cases h)
theorem aQC{E:Eff}{ds0:List jI}{s0:ASt}(hc:eS i.op=1)(hb:s0.blks=s.blks)(h:eff H P i e ds s=some (E,ds,s)):eff H P i e ds0 s0=some (E,ds0,s0):=by
 obtain⟨d,op,gd,pre⟩:=i;simp only at hc;simp only [eff] at h⊢;split at h
 ·cases h
 ·cases h;rfl
 ·cases op with
  |load ag sz x=>
   simp only [bX,gO,eX,hb] at h⊢;split at h
   ·rename_i h1;cases h;rfl
   ·cases h
  |lookup ok kk z m k=>
   simp only [bX,gO,eX,hb] at h⊢;split at h
   ·rename_i h1;cases h;rfl
   ·cases h
  |append tk a b c d=>cases tk<;>simp [eS] at hc
  |aN st f args=>cases st<;>simp [eS] at hc
  |_=>simp [eS] at hc
theorem aRe{esz bytes:Nat}{a x:aQ}{v:AV}{s1:ASt}(h:eX P e s (.append true esz bytes a x)=some (v,s1)):s1.blks=s.blks:=by
 simp only [eX] at h;split at h
 ·cases h
 rename_i hsl;simp only [Bool.not_true,Bool.false_or,Bool.and_eq_true] at hsl;split at h
 ·split at h
  ·cases h;rfl
  ·cases h;rfl
  ·cases h
 ·split at h
  ·split at h
   ·split at h
    ·cases h;rfl
    ·split at h
     ·split at h
      ·cases h;rfl
      ·cases h
     ·cases h
    ·cases h
   ·cases h
  ·rename_i ha;rw [ha] at hsl;simp [u9] at hsl
  ·cases h
 ·cases h
theorem aNv{E:Eff}{ds':List jI}{s':ASt}(hc:eS i.op=4)(h:eff H P i e ds s=some (E,ds',s')):ds'=ds∧s'.blks=s.blks:=by
 obtain⟨d,op,gd,pre⟩:=i;simp only at hc;cases op with
 |append tk a b c d=>
  cases tk with
  |false=>simp [eS] at hc
  |true=>
   simp only [eff] at h;split at h
   ·cases h
   ·cases h;exact⟨rfl,rfl⟩
   ·simp only [bX,gO] at h;split at h
    ·rename_i hw;cases h;exact⟨rfl,aRe hw⟩
    ·cases h
 |aN st f args=>cases st<;>simp [eS] at hc
 |_=>simp [eS] at hc
theorem aAK{a b:Nat}(h:a≠b):Nat.beq a b=false:=by
 cases hb:Nat.beq a b with
 |false=>rfl
 |true=>exact absurd (Nat.eq_of_beq_eq_true hb) h
theorem aM8{t:Option Nat}{v:AV}{j:Nat}(h: ∀k,t=some k→j≠k):fQ e t v j=e j:=by
 cases t with
 |none=>rfl
 |some k=>simp only [fQ,upd,aAK (h k rfl)]
theorem aOD{t u:Option Nat}{v w:AV}(h: ∀k,t=some k→u≠some k):fQ (fQ e t v) u w=fQ (fQ e u w) t v:=by
 cases t with
 |none=>rfl
 |some k=>
  cases u with
  |none=>rfl
  |some l=>
   have hkl:l≠k:=fun q=>h k rfl (by rw [q])
   funext j
   simp only [fQ,upd];by_cases h1:j=k
   ·subst h1;simp [aAK (Ne.symm hkl)]
   ·by_cases h2:j=l
    ·subst h2;simp [aAK hkl]
    ·simp [aAK h1,aAK h2]
def uW(a b:List (Nat×Nat)):Prop:= ∀x,x∈a↔x∈b
theorem uW.drop{a b:List (Nat×Nat)}(h:uW a b)(d:Option Nat):uW (aS d a) (aS d b):=by
 cases d with
 |none=>exact h
 |some d=>intro x;simp only [aS,List.mem_filter,h x]
theorem uW.yV{a b:List (Nat×Nat)}(h:uW a b)(E:Eff):uW (yV E a) (yV E b):=by
 unfold Fw.yV;split
 ·intro x;simp only [List.mem_cons,h.drop _ x]
 ·exact h.drop _
theorem uW.u6{a b:List (Nat×Nat)}(h:uW a b)(E:Eff):u6 E a=u6 E b:=by
 unfold Fw.u6;split
 ·rfl
 ·rw [Bool.eq_iff_iff,List.any_eq_true,List.any_eq_true];exact⟨fun⟨x,h1,h2⟩=>⟨x,(h x).1 h1,h2⟩,fun⟨x,h1,h2⟩=>⟨x,(h x).2 h1,h2⟩⟩
theorem aHV{d:Option Nat}{pd:List (Nat×Nat)}{x:Nat×Nat}:x∈aS d pd↔x∈pd∧ ∀e,d=some e→x.1≠e:=by
 cases d with
 |none=>simp [aS]
 |some d=>
  simp only [aS,List.mem_filter,Option.some.injEq,forall_eq'];constructor
  ·rintro ⟨h1,h2⟩;exact⟨h1,fun q=>by rw [q] at h2;simp at h2⟩
  ·rintro ⟨h1,h2⟩;exact⟨h1,by rw [aAK h2];rfl⟩
theorem aFa{E:Eff}{pd:List (Nat×Nat)}{x:Nat×Nat}:x∈yV E pd↔(∃n d,E.add=some n∧E.t=some d∧x=(d,n))∨(x∈pd∧ ∀e,E.t=some e→x.1≠e):=by
 unfold yV;split
 ·rename_i n d h1 h2;rw [List.mem_cons,aHV,h1,h2];simp
 ·rename_i h1;rw [aHV];constructor
  ·exact .inr
  ·rintro (⟨n,d,h2,h3,_⟩|h)
   ·exact absurd h3 (by intro q;exact h1 n d h2 q)
   ·exact h
theorem aNV{E F:Eff}{pd:List (Nat×Nat)}(h: ∀k,E.t=some k→F.t≠some k):uW (yV E (yV F pd)) (yV F (yV E pd)):=by
 intro x;simp only [aFa];constructor
 ·rintro (⟨n,d,h1,h2,rfl⟩|⟨⟨n,d,h1,h2,rfl⟩|⟨h1,h2⟩,h3⟩)
  ·exact .inr ⟨.inl ⟨n,d,h1,h2,rfl⟩,fun e he q=>by subst q;exact h _ h2 he⟩
  ·exact .inl ⟨n,d,h1,h2,rfl⟩
  ·exact .inr ⟨.inr ⟨h1,h3⟩,h2⟩
 ·rintro (⟨n,d,h1,h2,rfl⟩|⟨⟨n,d,h1,h2,rfl⟩|⟨h1,h2⟩,h3⟩)
  ·exact .inr ⟨.inl ⟨n,d,h1,h2,rfl⟩,fun e he q=>by subst q;exact h _ he h2⟩
  ·exact .inl ⟨n,d,h1,h2,rfl⟩
  ·exact .inr ⟨.inr ⟨h1,h3⟩,h2⟩
theorem aF5{E F:Eff}{pd:List (Nat×Nat)}(h: ∀k n,E.aUc=some (k,n)→F.t≠some k):u6 E (yV F pd)=u6 E pd:=by
 unfold u6;split
 ·rfl
 ·rename_i d sz hn;have hk:=h d sz hn;rw [Bool.eq_iff_iff,List.any_eq_true,List.any_eq_true];constructor
  ·rintro ⟨x,h1,h2⟩
   rcases aFa.1 h1 with ⟨n,d',_,h4,rfl⟩|⟨h3,_⟩
   ·rw [Bool.and_eq_true] at h2;have:=Nat.eq_of_beq_eq_true h2.1;simp only at this;subst this;exact absurd h4 hk
   ·exact⟨x,h3,h2⟩
  ·rintro ⟨x,h1,h2⟩
   refine⟨x,aFa.2 (.inr ⟨h1,fun e he q=> ?_⟩),h2⟩;rw [Bool.and_eq_true] at h2;have:=Nat.eq_of_beq_eq_true h2.1;rw [q] at this;exact hk (by rw [he,this])
theorem aBt: ∀{is:List AI}{pd pd':List (Nat×Nat)}{fr:Fr}{s:ASt},uW pd pd'→bS H P is pd fr s=bS H P is pd' fr s
 | [],_,_,_,_,_=>rfl
 |i::rest,pd,pd',⟨e,ds⟩,s,h=>by
  by_cases hc:eS i.op=3
  ·obtain⟨d,op,gd,pre⟩:=i;simp only [bS];cases hw:wanted e gd with
   |none=>rfl
   |some b=>
    cases b with
    |false=>exact aBt (h.drop d)
    |true=>
     cases op with
     |call f args=>
      simp only;split
      ·split
       ·exact aBt (h.drop d)
       ·rfl
       ·rfl
      ·rfl
     |panic x=>rfl
     |aN st f args=>cases st<;>simp [eS] at hc
     |append tk a b c d=>cases tk<;>simp [eS] at hc
     |_=>simp [eS] at hc
  ·rw [oW hc,oW hc];split
   ·rename_i E ds' s' _;rw [h.u6 E];cases u6 E pd' with
    |false=>rfl
    |true=>exact aBt (h.yV E)
   ·rfl
def apart(a b:AI):Prop:=aCV (eS a.op) (eS b.op)=false∧(∀t∈fK a,t∉pR b)∧(∀t∈fK b,t∉pR a)
theorem aKk{a b:Nat}(h:aCV a b=false):a≠3:=by rintro rfl;simp [aCV] at h
theorem aPC{a b:Nat}(h:aCV a b=false):b≠3:=by rintro rfl;unfold aCV at h;split at h<;>simp_all
theorem aJE(op:AOp):eS op≤5:=by
 cases op with
 |aN st f args=>cases st<;>simp [eS]
 |append tk a b c d=>cases tk<;>simp [eS]
 |_=>simp [eS]
theorem aH6{x y:Nat}(hx:x≤5)(hy:y≤5)(h:aCV x y=false):
  ((x≠2∧x≠4)∧(y≠2∧y≠4))∨y=0∨x=0∨(x=1∧y=4)∨(x=4∧y=1):=by
 have:(x=0∨x=1∨x=2∨x=3∨x=4∨x=5)∧(y=0∨y=1∨y=2∨y=3∨y=4∨y=5):=by omega
 rcases this with ⟨rfl|rfl|rfl|rfl|rfl|rfl,rfl|rfl|rfl|rfl|rfl|rfl⟩<;>simp [aCV] at h⊢
theorem wK{i:AI}{t:Nat}(h:t∈fK i):t∈pR i:=by simp [pR,h]
theorem aMb{a b:AI}{rest:List AI}{pd:List (Nat×Nat)}{fr:Fr}{r:rP}(hab:apart a b)(h:bS H P (a::b::rest) pd fr s=some r):
  bS H P (b::a::rest) pd fr s=some r:=by
 obtain⟨hc,hw1,hw2⟩:=hab;obtain⟨e,ds⟩:=fr;have ha3:=aKk hc;have hb3:=aPC hc;rw [oW ha3] at h;cases hea:eff H P a e ds s with
 |none=>rw [hea] at h;cases h
 |some x=>
  obtain⟨Ea,ds1,s1⟩:=x;rw [hea] at h;simp only at h;cases hoka:u6 Ea pd with
  |false=>rw [hoka] at h;cases h
  |true=>
   rw [hoka] at h;simp only at h;rw [oW hb3] at h;have hag: ∀t∈pR b,fQ e Ea.t Ea.v t=e t:=fun t ht=>aM8 fun k hk q=>by
    subst q;exact hw1 _ (aGm hea _ hk) ht
   rw [aFX hag] at h;cases heb:eff H P b e ds1 s1 with
   |none=>rw [heb] at h;cases h
   |some y=>
    obtain⟨Eb,ds2,s2⟩:=y;rw [heb] at h;simp only at h;cases hokb:u6 Eb (yV Ea pd) with
    |false=>rw [hokb] at h;cases h
    |true=>
     rw [hokb] at h;simp only at h;have hne: ∀k,Ea.t=some k→Eb.t≠some k:=fun k h1 h2=>hw1 k (aGm hea k h1) (wK (aGm heb k h2));have hcases:=aH6 (aJE a.op) (aJE b.op) hc;have key: ∃ds3 s3,eff H P b e ds s=some (Eb,ds3,s3)∧eff H P a e ds3 s3=some (Ea,ds2,s2):=by
      rcases hcases with ⟨q1,q2⟩|q2|q1|⟨q1,q2⟩|⟨q1,q2⟩
      ·obtain⟨rfl,rfl⟩:=sZ q1.1 q1.2 hea;obtain⟨rfl,rfl⟩:=sZ q2.1 q2.2 heb;exact⟨_,_,heb,hea⟩
      ·obtain⟨rfl,rfl⟩:=sZ (by rw [q2];simp) (by rw [q2];simp) heb;exact⟨_,_,aF9 q2 heb,hea⟩
      ·obtain⟨rfl,rfl⟩:=sZ (by rw [q1];simp) (by rw [q1];simp) hea;exact⟨_,_,heb,aF9 q1 hea⟩
      ·obtain⟨rfl,rfl⟩:=sZ (by rw [q1];simp) (by rw [q1];simp) hea;obtain⟨rfl,hb⟩:=aNv q2 heb;exact⟨_,_,heb,aQC q1 hb hea⟩
      ·obtain⟨hd,hb⟩:=aNv q1 hea;obtain⟨hd2,hs2⟩:=sZ (by rw [q2];simp) (by rw [q2];simp) heb;rw [hd2,hs2] at heb⊢;rw [hd] at heb hea⊢;exact⟨_,_,aQC q2 hb.symm heb,hea⟩
     obtain⟨ds3,s3,hb',ha'⟩:=key;have hag2: ∀t∈pR a,fQ e Eb.t Eb.v t=e t:=fun t ht=>aM8 fun k hk q=>by
      subst q;exact hw2 _ (aGm heb _ hk) ht
     rw [oW hb3,hb'];simp only;rw [aF5 fun k n hk hq=>hw1 k (aGm hea k hq) (wK (aKM heb k n hk))] at hokb;rw [hokb];simp only;rw [oW ha3,aFX hag2,ha'];simp only;rw [aF5 fun k n hk hq=>hw2 k (aGm heb k hq) (wK (aKM hea k n hk)),hoka];simp only;rw [aOD fun k h1 h2=>hne k h2 h1,aBt (aNV fun k h1 h2=>hne k h1 h2)];exact h
theorem aC8{i:AI}{rest:List AI}{r:rP}: ∀{A:List AI}{pd:List (Nat×Nat)}{fr:Fr}{s:ASt},(∀a∈A,apart a i)→bS H P (A++i::rest) pd fr s=some r→bS H P (i::(A++rest)) pd fr s=some r
 | [],_,_,_,_,h=>h
 |a::A,pd,⟨e,ds⟩,s,hA,h=>by
  refine aMb (hA a (by simp)) ?_;have ha3:=aKk (hA a (by simp)).1;simp only [List.cons_append] at h;rw [oW ha3] at h⊢;split at h
  ·rename_i E ds' s' _;cases hok:u6 E pd with
   |false=>rw [hok] at h;cases h
   |true=>
    rw [hok] at h;simp only at h⊢;exact aC8 (fun x hx=>hA x (by simp [hx])) h
  ·cases h
end
section
variable {P : Program} {B B' : Bs} {P' : bA} {nt : Nat} {pd : List (Nat × Nat)} {fr : Fr} {e : Env} {ds ds' : List jI} {s s' : ASt} {a : Act} {w : World} {G : Gh}
theorem R.aGL{G:Gh}:R G (.v fW undef):= .tuple .tF
theorem aFs{h:Hint}{d:Option Nat}{op:Op}{aop:AOp}(hk:cP P h d op=some aop)(hn: ∀f xs,aop≠ .defer f xs): ∀c,op≠ .defer c:=by
 intro c hc;subst hc;simp only [cP] at hk;split at hk
 ·split at hk
  ·cases hk;exact hn _ _ rfl
  ·cases hk
 ·cases hk
theorem aOx{h:Hint}{d:Option Nat}{op:Op}{z:List AV}(hk:cP P h d op=some (.pend z)): ∃t,op= .alloc t∧zeroOf P t=some z:=by
 unfold cP at hk;split at hk
 all_goals (try unfold cO at hk);(try unfold lD at hk)
 all_goals (repeat' split at hk)
 all_goals first
  |(cases hk;done)
  |(simp only [Option.map_eq_some_iff,reduceCtorEq,and_false,exists_false] at hk;done)
  |(cases hk;exact⟨_,rfl,by assumption⟩)
theorem aNZ{h:Hint}{d:Option Nat}{op:Op}{i sz:Nat}{x:aQ}(hk:cP P h d op=some (.shut i sz x)):
  ∃t ti xv,op= .store t (.tmp i) xv∧P.info? t=some ti∧dH xv=some x∧sz=P.cellsOf t:=by
 unfold cP at hk;split at hk
 case h_9=>
  rename_i t xa xv;split at hk
  ·rename_i ti a v h1 h2 h3;simp only [Option.some.injEq] at hk;split at hk
   ·rename_i j;split at hk
    ·cases hk;cases xa with
     |tmp k=>simp [dH] at h2;subst h2;exact⟨_,_,_,rfl,h1,h3,rfl⟩
     |const v=>simp [dH] at h2
     |global g=>simp [dH] at h2
     |func f=>simp [dH] at h2
    ·cases hk
   ·cases hk
  ·cases hk
 all_goals (try unfold cO at hk);(try unfold lD at hk)
 all_goals (repeat' split at hk)
 all_goals first
  |(cases hk;done)
  |(simp only [Option.map_eq_some_iff,reduceCtorEq,and_false,exists_false] at hk;done)
  |(simp only [Option.some.injEq] at hk;split at hk<;>first|cases hk|(split at hk<;>cases hk))
theorem zY{h:Hint}{d:Option Nat}{op:Op}{f:aQ}{xs:List aQ}(hk:cP P h d op=some (.call f xs)∨ ∃st,cP P h d op=some (.aN st f xs)):
  ∃c fo,op= .call c∧c.callee= .value fo∧dH fo=some f∧uL c.args.toList=some xs∧aSo P fo=true:=by
 rcases hk with hk|⟨st,hk⟩
 all_goals
  unfold cP at hk;split at hk
  case h_30=>
   rename_i c;split at hk
   ·unfold cO at hk
    repeat' split at hk
    all_goals first|(cases hk;done)|(simp only [Option.map_eq_some_iff,reduceCtorEq,and_false,exists_false] at hk;done)
   ·rename_i fo hc;split at hk
    ·rename_i f' xs' h0 h1 h2;simp only [Option.some.injEq] at hk;split at hk
     ·first|(cases hk;done)|(cases hk;exact⟨_,_,rfl,hc,h1,h2,h0⟩)
     ·split at hk<;>first|(cases hk;done)|(cases hk;exact⟨_,_,rfl,hc,h1,h2,h0⟩)
    ·cases hk
   ·cases hk
  all_goals (try unfold cO at hk);(try unfold lD at hk)
  all_goals (repeat' split at hk)
  all_goals first
   |(cases hk;done)
   |(simp only [Option.map_eq_some_iff,reduceCtorEq,and_false,exists_false] at hk;done)
   |(simp only [Option.some.injEq] at hk;split at hk<;>first|cases hk|(split at hk<;>cases hk))
theorem aLr{h:Hint}{d:Option Nat}{op:Op}{f:aQ}{xs:List aQ}(hk:cP P h d op=some (.defer f xs)):
  ∃c fo,op= .defer c∧c.callee= .value fo∧dH fo=some f∧uL c.args.toList=some xs:=by
 unfold cP at hk;split at hk
 case h_31=>
  rename_i c;split at hk
  ·rename_i fo hc;split at hk
   ·rename_i f' xs' h1 h2;cases hk;exact⟨_,_,rfl,hc,h1,h2⟩
   ·cases hk
  ·cases hk
 all_goals (try unfold cO at hk);(try unfold lD at hk)
 all_goals (repeat' split at hk)
 all_goals first
  |(cases hk;done)
  |(simp only [Option.map_eq_some_iff,reduceCtorEq,and_false,exists_false] at hk;done)
  |(simp only [Option.some.injEq] at hk;split at hk<;>first|cases hk|(split at hk<;>cases hk))
theorem aMe{h:Hint}{d:Option Nat}{op:Op}{x:aQ}(hk:cP P h d op=some (.panic x)): ∃xo,op= .panic xo∧dH xo=some x:=by
 unfold cP at hk;split at hk
 case h_32=>
  simp only [Option.map_eq_some_iff] at hk;obtain⟨y,h1,h2⟩:=hk;cases h2;exact⟨_,rfl,h1⟩
 all_goals (try unfold cO at hk);(try unfold lD at hk)
 all_goals (repeat' split at hk)
 all_goals first
  |(cases hk;done)
  |(simp only [Option.map_eq_some_iff,reduceCtorEq,and_false,exists_false] at hk;done)
  |(simp only [Option.some.injEq] at hk;split at hk<;>first|cases hk|(split at hk<;>cases hk))
theorem rH{ρ:Operand→Value}{c:Call}{fo:Operand}(hc:c.callee= .value fo){fn:Fn}{fa fb:Array Value}(hv:ρ fo= .func fn fa fb)(ty:TypeId)(w:World):
  (resolve ρ c ty).run P w= .ok {target:= .fn fn fb,args:=fa++c.args.map ρ} w:=by
 simp [resolve,hc,Deferred.ofValue,hv]
theorem zR{ρ:Operand→Value}{o:Oper}{c:Call}(ho:o.op= .call c){fo:Operand}(hc:c.callee= .value fo){fn:Fn}{fa fb:Array Value}(hv:ρ fo= .func fn fa fb)(w:World):
  (execOp ρ o).run P w=(invoke (.fn fn fb) (fa++c.args.map ρ)).run P w:=by
 simp only [execOp,ho,Sem.run_bind,rH hc hv,Result.andThen]
theorem aBu{ρ:Operand→Value}{o:Oper}{w:World}(h: ∀c,o.op≠ .call c): ∀f,o.about P w ρ=some f→ ∃fn,P.funcs[f]?=some fn:=by
 intro f hf;unfold Oper.about at hf;split at hf
 ·rename_i c hc;exact absurd hc (h c)
 ·cases hf
theorem tD{f:FuncId}{args:Array Value}{w w':World}{n:Next}(h:(callFunc f args).run P w= .ok n w'): ∃fn,P.funcs[f]?=some fn:=by
 cases hf:P.funcs[f]? with
 |some fn=>exact⟨fn,rfl⟩
 |none=>simp [callFunc,hf] at h
theorem aBd{ρ:Operand→Value}{o:Oper}{c:Call}(ho:o.op= .call c){fo:Operand}(hc:c.callee= .value fo){g:Nat}{fa fb:Array Value}(hv:ρ fo= .func (.func g) fa fb){w:World}(hg: ∃fn,P.funcs[g]?=some fn):
  ∀f,o.about P w ρ=some f→ ∃fn,P.funcs[f]?=some fn:=by
 intro f hf;simp only [Oper.about,ho,rH hc hv,Target.leads,Option.some.injEq] at hf;subst hf;exact hg
theorem aIs{ρ:Operand→Value}{o:Oper}{c:Call}(ho:o.op= .call c){fo:Operand}(hc:c.callee= .value fo){l:Nat}{fa fb:Array Value}(hv:ρ fo= .func (.yield l) fa fb){w:World}:
  ∀f,o.about P w ρ=some f→ ∃fn,P.funcs[f]?=some fn:=by
 intro f hf;simp [Oper.about,ho,rH hc hv,Target.leads] at hf
theorem oU{h:Hint}{all:Array Oper}{ρ:Operand→Value}{o:Oper}{ai:AI}{w:World}(hc:aCr P h all o ai)(hb:ai.op≠ .bad)(h1: ∀f xs,ai.op≠ .call f xs)(h2: ∀st f xs,ai.op≠ .aN st f xs):
  ∀f,o.about P w ρ=some f→ ∃fn,P.funcs[f]?=some fn:=by
 intro f hf;have hk:=hc.op.resolve_left hb;unfold Oper.about at hf;split at hf
 ·rename_i c ho;rw [ho] at hk;cases hcal:c.callee with
  |builtin b=>simp [resolve,hcal,Target.leads] at hf
  |invoke r n=>simp [cP,hcal] at hk
  |value fo=>
   simp only [cP,hcal] at hk;split at hk
   ·rename_i f' xs' _ _ _;simp only [Option.some.injEq] at hk;split at hk
    ·exact absurd hk.symm (h2 _ _ _)
    ·split at hk
     ·exact absurd hk.symm (h2 _ _ _)
     ·exact absurd hk.symm (h1 _ _)
   ·cases hk
 ·cases hf
theorem aFj{h:Hint}{all:Array Oper}{ρ:Operand→Value}(hρ: ∀g,ρ (.func g)= .func (.func g) #[] #[]){o:Oper}{ai:AI}{w:World}(hc:aCr P h all o ai)(hs:aBf ai.op=true):
  ∀f,o.about P w ρ=some f→ ∃fn,P.funcs[f]?=some fn:=by
 have key: ∀{c:Call}{fo:Operand}{g:Nat},o.op= .call c→c.callee= .value fo→dH fo=some (.f g)→aSo P fo=true→ ∀f,o.about P w ρ=some f→ ∃fn,P.funcs[f]?=some fn:=by
  intro c fo g ho hcal hfo hok;cases fo with
  |func g'=>
   simp only [aSo,Option.isSome_iff_exists] at hok;exact aBd ho hcal (hρ g') hok
  |tmp t=>simp [dH] at hfo
  |const v=>simp [dH] at hfo
  |global g=>simp [dH] at hfo
 obtain⟨d,op,gd,pre⟩:=ai;simp only at hs;cases op with
 |call f xs=>
  cases f<;>simp [aBf] at hs;obtain⟨c,fo,ho,hcal,hfo,hargs,hok⟩:=zY (.inl (hc.op.resolve_left (by simp)));exact key ho hcal hfo hok
 |aN st f xs=>
  cases f<;>simp [aBf] at hs;obtain⟨c,fo,ho,hcal,hfo,hargs,hok⟩:=zY (.inr ⟨st,hc.op.resolve_left (by simp)⟩);exact key ho hcal hfo hok
 |bad=>simp [aBf] at hs
 |_=>exact oU hc (by simp) (by simp) (by simp)
theorem aRK{v v':AV}{x:Value}(h:oM v=some v')(r:R G (.v v x)):R G (.v v' x):=by
 cases v with
 |tuple vs=>
  simp only [oM] at h;split at h
  ·cases h;cases r with
   |tuple r=>exact .tuple (tR (by assumption) r)
  ·cases h
 |_=>simp only [oM] at h;exact(qX h r).1
theorem RI.quiet(h:RI P B P' nt pd ⟨e,ds⟩ s a w G B'){G':Gh}{w':World}(q:xQ G w G' w'){d:Option Nat}(hd: ∀t,d=some t→t<nt){v:AV}{x:Value}(r:R G' (.v v x)):
  RI P B P' nt (aS d pd) ⟨fQ e d v,ds⟩ s (a.put d x) w' G' B':=h.put q.le (q.inv h.inv) hd r
theorem aAR{b:Nat}{vs us:List Value}{el:TypeId}(hb:w.heap[b]?=some (.cells vs.toArray el (0,0)))(hl:us.length=vs.length)(h1: ∀x∈us,x.oneCell'=true):
  (storeCells ⟨b,0,none⟩ us).run P w= .ok () (w.putObj b (.cells us.toArray el (0,0))):=by
 have hrun:=run_storeCells_at P b 0 el us 0 vs.toArray w hb (by simp;omega) h1;rw [hrun,uU hb];have hd:vs.drop us.length= []:=List.drop_eq_nil_of_le (by omega);simp [hd]
end
section
variable {P : Program} {B B' : Bs} {P' : bA} {nt : Nat} {pd : List (Nat × Nat)} {fr : Fr} {e : Env} {ds ds' : List jI} {s s' : ASt} {a : Act} {w : World} {G : Gh}
variable {H : Handler} {rb : Option Nat} {all : Array Oper} {o : Oper} {ai : AI} {h : Hint} {E : Eff} {K : Act → World → Prop} {Q : Exit → Act → World → Prop}
theorem RI.aQQ(hi:RI P B P' nt pd ⟨e,ds⟩ s a w G B'){d n:Nat}(hd:d<nt)(vs:List Value)(hn:vs.length=n)(t:TypeId):
  ∃B'',RI P B P' nt ((d,n)::aS (some d) pd) ⟨upd e d .nX,ds⟩ s (a.put (some d) (.pointer (some ⟨w.heap.size,0,none⟩))) (w.alloc (.cells vs.toArray t (0,0))) G B'':=by
 have hB': ∀x,B'.Pr x→x<w.heap.size:=fun x hx=>Nat.lt_of_lt_of_le (B'.lt x hx) hi.inv.size;have hI1:=hi.inv.alloc (.cells vs.toArray t (0,0));have hlt: ∀x,(B'.Pr x∨x=w.heap.size)→x<(w.alloc (.cells vs.toArray t (0,0))).heap.size:=by
  rintro x (hx|rfl)
  ·have:=hB' x hx;simp;omega
  ·simp
 refine⟨B'.now (w.alloc (.cells vs.toArray t (0,0))) G (fun x=>B'.Pr x∨x=w.heap.size) hlt,?_,?_,?_,?_,hi.aAe,hi.ds⟩
 ·exact hI1.aR5 hi.ext _ _ fun b hb=> .inl (hi.ext.pr b hb)
 ·refine hI1.aUn _ _ (fun ℓ b hl=> ?_) (fun t n b c sz ht hh=> ?_)
  ·have:=hi.inv.l ℓ b hl
   rintro (hx|rfl)
   ·exact this.2.2 hx
   ·exact absurd this.2.1 (Nat.lt_irrefl _)
  ·obtain⟨b',c',sz',k⟩:=hi.inv.tok t n ht;have:=k.h.symm.trans hh;cases this
   rintro (hx|rfl)
   ·exact k.np hx
   ·exact absurd k.lt (Nat.lt_irrefl _)
 ·have hold:=hi.pend.put (some d) (.pointer (some ⟨w.heap.size,0,none⟩));have hsz:d<a.tmps.size:=by rw [hi.env.1];exact hd
  have hnew:(a.put (some d) (.pointer (some ⟨w.heap.size,0,none⟩))).tmps.getD d undef= .pointer (some ⟨w.heap.size,0,none⟩):=aAI hsz;have hnB: ¬B.Pr w.heap.size:=fun hx=>absurd (hB' _ (hi.ext.pr _ hx)) (Nat.lt_irrefl _);refine⟨fun d' n' hm=> ?_,fun d1 n1 d2 n2 b h1 h2 h3 h4=> ?_⟩
  ·rcases List.mem_cons.1 hm with hm|hm
   ·cases hm;refine⟨w.heap.size,t,vs,hnew,hnB,.inr rfl,rC,hn,fun o=>hi.inv.aO6 o⟩
   ·obtain⟨b,el,us,h1,h2,h3,h4,h5,h6⟩:=hold.at_ d' n' hm;have hb:=hB' b h3;refine⟨b,el,us,h1,h2,.inl h3,?_,h5,fun o=> ?_⟩
    ·exact(uT (Nat.ne_of_lt hb)).trans ((hi.inv.pr b h3).trans h4)
    ·exact(hi.inv.prM b h3 o).trans (h6 o)
  ·have hlt': ∀d' n',(d',n')∈aS (some d) pd→(a.put (some d) (.pointer (some ⟨w.heap.size,0,none⟩))).tmps.getD d' undef= .pointer (some ⟨b,0,none⟩)→b<w.heap.size:=by
    intro d' n' hm hq;obtain⟨b',el,us,h1,h2,h3,_⟩:=hold.at_ d' n' hm;have h1':(a.put (some d) (.pointer (some ⟨w.heap.size,0,none⟩))).tmps.getD d' undef= .pointer (some ⟨b',0,none⟩):=h1;rw [h1'] at hq;cases hq;exact hB' _ h3
   rcases List.mem_cons.1 h1 with h1|h1<;>rcases List.mem_cons.1 h2 with h2|h2
   ·cases h1;cases h2;rfl
   ·cases h1;rw [hnew] at h3;cases h3;exact absurd (hlt' _ _ h2 h4) (Nat.lt_irrefl _)
   ·cases h2;rw [hnew] at h4;cases h4;exact absurd (hlt' _ _ h1 h3) (Nat.lt_irrefl _)
   ·exact hold.inj d1 n1 d2 n2 b h1 h2 h3 h4
 ·exact hi.env.put hd (.nX _)
theorem Inv.aQo(hI:Inv P B' G s w){b:Nat}(hb:B'.Pr b)(hM: ∀o,G.M b o=none)(o':Obj)(lt: ∀x,(B'.Pr x∧x≠b)→x<(w.putObj b o').heap.size):
  Inv P ⟨fun x=>B'.Pr x∧x≠b,w.putObj b o',G.M,lt⟩ G s (w.putObj b o'):=by
 have hne: ∀{x},x≠b→(w.putObj b o').heap[x]?=w.heap[x]?:=fun hx=>World.putObj_heap_other hx;have hsz:(w.putObj b o').heap.size=w.heap.size:=by simp
 have hL: ∀ℓ x,G.L ℓ=some x→x≠b:=fun ℓ x hx q=>(hI.l ℓ x hx).2.2 (q▸hb);exact{
  os:=rfl,tape:=rfl,output:=rfl,size:=Nat.le_refl _,pr:=fun _ _=>rfl,prM:=fun _ _ _=>rfl
  m:=fun x o v hv=>by
   have hx:x≠b:=fun q=>by subst q;rw [hM o] at hv;cases hv
   rw [qO (hne hx)];exact hI.m x o v hv
  l:=fun ℓ x hx=>⟨(hI.l ℓ x hx).1,by rw [hsz];exact(hI.l ℓ x hx).2.1,fun hp=>(hI.l ℓ x hx).2.2 hp.1⟩
  inj:=hI.inj
  blk:=fun ℓ x o k hx ho hk=>by rw [hne (hL ℓ x hx)] at ho;exact hI.blk ℓ x o k hx ho hk
  tok:=fun t n ht=>by
   obtain⟨x,c,sz,k⟩:=hI.tok t n ht;have hx:x≠b:=fun q=>k.np (q▸hb);exact⟨x,c,sz,k.h,fun hp=>k.np hp.1,by rw [hsz];exact k.lt,by rw [hne hx];exact k.blk,k.szp,k.nc,k.cm,k.m,k.l⟩
  nP:=hI.nP,hh:=hI.hh,tot:=hI.tot}
theorem RI.shut(hi:RI P B P' nt pd ⟨e,ds⟩ s a w G B'){d sz:Nat}(hd:d<nt)(hm:(d,sz)∈pd){v:AV}{us:List Value}(hc:R G (.c v us))(hl:us.length=sz):
  ∃b el vs G' B'',a.tmps.getD d undef= .pointer (some ⟨b,0,none⟩)∧w.heap[b]?=some (.cells (List.toArray vs) el (0,0))∧vs.length=sz∧G.le G'∧
   RI P B P' nt (aS (some d) pd) ⟨upd e d (.aG v 0),ds⟩ s a (w.putObj b (.cells us.toArray el (0,0))) G' B'':=by
 obtain⟨b,el,vs,h1,h2,h3,h4,h5,h6⟩:=hi.pend.at_ d sz hm;have hbl:b<w.heap.size:=Nat.lt_of_lt_of_le (B'.lt b h3) hi.inv.size;have hheap:w.heap[b]?=some (.cells vs.toArray el (0,0)):=(hi.inv.pr b h3).trans h4;have hM: ∀o,G.M b o=none:=fun o=>(hi.inv.prM b h3 o).trans (h6 o);have hne: ∀{x},x≠b→(w.putObj b (.cells us.toArray el (0,0))).heap[x]?=w.heap[x]?:=fun hx=>World.putObj_heap_other hx;have lt: ∀x,(B'.Pr x∧x≠b)→x<(w.putObj b (.cells us.toArray el (0,0))).heap.size:=fun x hx=>by
  have:=Nat.lt_of_lt_of_le (B'.lt x hx.1) hi.inv.size;simpa using this
 have hI1:=hi.inv.aQo h3 hM (.cells us.toArray el (0,0)) lt;have hI2:=hI1.aF3 (b:=b) (vs:=us) (World.putObj_heap_same hbl) hM (fun ℓ hℓ=>(hi.inv.l ℓ b hℓ).2.2 h3) (fun t n b' c sz ht hh q=>by
  obtain⟨b2,c2,sz2,k⟩:=hi.inv.tok t n ht;have:=k.h.symm.trans hh;cases this;exact k.np (q▸h3)) (fun hp=>hp.2 rfl) 0 us.length
 have hle:G.le (G.mB b 0 us.length us):=Gh.aBl fun o _ _ x hx=>by rw [hM o] at hx;cases hx
 refine⟨b,el,vs,_,_,h1,hheap,h5,hle,?_,hI2,?_,?_,hi.aAe.mono hle,hi.ds.mono hle⟩
 ·exact{
   pr:=fun x hx=>⟨hi.ext.pr x hx,fun q=>h2 (q▸hx)⟩
   os:=hi.inv.os.trans hi.ext.os
   tape:=hi.inv.tape.trans hi.ext.tape
   output:=hi.inv.output.trans hi.ext.output
   size:=by simpa using Nat.le_trans hi.ext.size hi.inv.size
   heap:=fun x hx=>(hne (fun q=>h2 (q▸hx))).trans ((hi.inv.pr x (hi.ext.pr x hx)).trans (hi.ext.heap x hx))
   M0:=fun x hx o=>(hi.inv.prM x (hi.ext.pr x hx) o).trans (hi.ext.M0 x hx o)}
 ·refine⟨fun d' n' hm'=> ?_,fun d1 n1 d2 n2 b' q1 q2 q3 q4=>hi.pend.inj d1 n1 d2 n2 b' (lP q1).1 (lP q2).1 q3 q4⟩;obtain⟨hm1,hm2⟩:=lP hm';obtain⟨b',el',vs',k1,k2,k3,k4,k5,k6⟩:=hi.pend.at_ d' n' hm1;have hbb:b'≠b:=fun q=>by subst q;exact hm2 d rfl (hi.pend.inj _ _ _ _ _ hm1 hm k1 h1)
  refine⟨b',el',vs',k1,k2,⟨k3,hbb⟩,?_,k5,fun o=> ?_⟩
  ·exact(hne hbb).trans ((hi.inv.pr b' k3).trans k4)
  ·exact(hi.inv.prM b' k3 o).trans (k6 o)
 ·refine⟨hi.env.1,fun i=> ?_⟩;unfold upd;by_cases q:i=d
  ·subst q;rw [h1];simp only [Nat.beq_refl];have:=R.aG (G:=G.mB b 0 us.length us) (v:=v) (vs:=us) (b:=b) (o:=0) 0 (hc.mono hle) (fun j x hx=>by
    have hj:j<us.length:=by
     rcases Nat.lt_or_ge j us.length with q|q
     ·exact q
     ·rw [List.getElem?_eq_none q] at hx;cases hx
    rw [Nat.zero_add,p5 (Nat.zero_le _) hj];exact hx)
   simpa using this
  ·simp only [aAK q];exact(hi.env.2 i).mono hle
theorem aJy{fa fb:List Value}{α:Type}{xs:Array α}{ρ:α→Value}:(fa++xs.toList.map ρ++fb).toArray=fa.toArray++xs.map ρ++fb.toArray:=by
 apply Array.toList_inj.1;simp
theorem aUu(hH:HOk P P' H)(hp: ∀g,dC (P'.gl g)=true)(hc:aCr P h all o ai)(hgs:ai.gd≠none→aBf ai.op=true)(hi:RI P B P' nt pd ⟨e,ds⟩ s a w G B')(hwr: ∀t∈fK ai,t<nt)
(hrd: ∀f xs,ai.op= .defer f xs→rb=none)(hE:eff H P' ai e ds s=some (E,ds',s'))(hok:u6 E pd=true)
(hK: ∀a' w' G' B'',G.le G'→RI P B P' nt (yV E pd) ⟨fQ e E.t E.v,ds'⟩ s' a' w' G' B''→K a' w'):tT rb P all o a w K Q:=by
 obtain⟨d,op,gd,pre⟩:=ai;have hcd:=hc.d;simp only at hcd;subst hcd;have hd: ∀t,o.dst=some t→t<nt:=fun t ht=>hwr t (by simp [fK,ht]);have hO:Opn P' e G a.eval:=zO hi.env hi.aAe;have hcst: ∀v,a.eval (.const v)=v:=fun _=>rfl;simp only [eff] at hE;split at hE
 ·cases hE
 ·rename_i hwt;cases hE;have hw:=qV (fr:=⟨e,ds⟩) hc hi.env hwt;unfold tT;rw [if_neg (by rw [hw];simp)];refine⟨aFj (fun _=>rfl) hc (hgs (fun hn=>by simp only at hn;rw [hn] at hwt;simp [wanted] at hwt)),hK _ _ G B' (.refl _) ?_⟩;rw [lS];exact hi.quiet hi.inv.quiet hd .aGL
 ·rename_i hwt;have hw:=qV (fr:=⟨e,ds⟩) hc hi.env hwt;have hcop:=hc.op;simp only at hcop;cases op with
  |pend z=>
   simp only at hE;split at hE
   ·rename_i d0 hd0;cases hE;have hk:=hcop.resolve_left (by simp);obtain⟨t,ho,hz⟩:=aOx hk;obtain⟨i,zv,hti,hzv,hr⟩:=qF (G:=G) hz;obtain⟨B'',hRI⟩:=hi.aQQ (hd d0 hd0) zv.cells.toList hr.kW.symm t;refine tM (aBu (by simp [ho])) hw (by simp [ho]) (n:= .value (.pointer (some ⟨w.heap.size,0,none⟩))) (w':=w.alloc (.cells zv.cells.toList.toArray t (0,0))) ?_ (.inl rfl) ?_
    ·simp [execOp,ho,Instr.alloc,eC hti hzv,newVar,newRow]
    ·rw [hd0];exact hK _ _ _ _ (.refl _) hRI
   ·cases hE
  |shut d0 sz x=>
   simp only at hE;split at hE
   ·rename_i v hd0 hv;split at hE
    ·rename_i hsz;cases hE;have hk:=hcop.resolve_left (by simp);obtain⟨t,ti,xv,ho,hti,hx,rfl⟩:=aNZ hk;obtain⟨_,hcx⟩:=qX hv (hO.out _ _ hx);have hm:(d0,P.cellsOf t)∈pd:=by
      simp only [u6,List.any_eq_true,Bool.and_eq_true] at hok;obtain⟨p,hp1,hp2,hp3⟩:=hok;obtain⟨p1,p2⟩:=p;have e1:=Nat.eq_of_beq_eq_true hp2;have e2:=Nat.eq_of_beq_eq_true hp3;simp only at e1 e2;subst e1;subst e2;exact hp1
     have hul:(a.eval xv).cells.toList.length=P.cellsOf t:=by rw [←hcx.aEm,hsz]
     obtain⟨b,el,vs,G',B'',k1,k2,k3,k4,k5⟩:=hi.shut (hwr d0 (by simp [fK])) hm hcx hul;have hrun:=aAR (P:=P) k2 (us:=(a.eval xv).cells.toList) (by rw [hul,k3]) hcx.c_k.aOT;have hta:a.eval (.tmp d0)= .pointer (some ⟨b,0,none⟩):=k1;refine tM (aBu (by simp [ho])) hw (by simp [ho]) (n:= .skip) (x:=undef) (w':=w.putObj b (.cells (a.eval xv).cells.toList.toArray el (0,0))) ?_ (.inr ⟨rfl,rfl⟩) ?_
     ·have hsz':(a.eval xv).cells.size=P.cellsOf t:=by rw [←hul];simp
      have hrun':(storeCells ⟨b,0,none⟩ (a.eval xv).cells.toList).run P w= .ok () (w.putObj b (.cells (a.eval xv).cells (el) (0,0))):=by simpa using hrun
      simp [execOp,ho,hta,Instr.storeAt,Instr.sureAddr,storeVar,lH hti,hsz',hrun']
     ·rw [show o.dst=none from hd0];exact hK _ _ _ _ k4 k5
    ·cases hE
   ·cases hE
  |defer f args=>
   simp only at hE;split at hE
   ·rename_i g x y vs hf hvs;cases hE;have hk:=hcop.resolve_left (by simp);obtain⟨c,fo,ho,hcal,hfo,hargs⟩:=aLr hk;have hrf:=hO.out _ _ hfo;rw [hf] at hrf;have hrx:=tR hvs (vI hO hargs);generalize hfv:a.eval fo=fv at hrf;cases hrf with
    | @func _ _ _ fa fb ha hb=>
    have hrb:=hrd f args rfl;subst hrb;unfold tT;rw [if_pos hw];refine⟨aBu (by simp [ho]),?_⟩;have hrun:(Oper.semAt (FR P none).round a.eval o).run P w= .ok (.defer {target:= .fn (.func g) fb.toArray,args:=fa.toArray++c.args.map a.eval}) w:=by
     show(execOp a.eval o).run P w=_;simp [execOp,ho,rH hcal hfv]
    rw [hrun];refine hK _ _ G B' (.refl _) ?_;rw [lS];have:=hi.quiet hi.inv.quiet hd R.aGL;refine⟨this.ext,this.inv,?_,?_,this.aAe,?_⟩
    ·have hp:=this.pend;rw [aEE] at hp⊢;exact hp
    ·have hp:=this.env;rw [aEE] at hp⊢;exact hp
    ·rw [put_defers];refine .cons ⟨fb,fa++(c.args.toList.map a.eval),rfl,by simp,?_⟩ hi.ds;simpa using (ha.rM hrx).rM hb
   ·cases hE
  |panic x=>simp only at hE;cases hE
  |call f args=>simp only at hE;cases hE
  |aN st f args=>
   simp only at hE;split at hE
   ·rename_i g x y vs hf hvs;split at hE
    ·rename_i v s2 hpure hcall;split at hE
     ·rename_i v' hv';split at hE
      ·rename_i hpv;cases hE;have hk:=hcop.resolve_left (by simp);obtain⟨c,fo,ho,hcal,hfo,hargs,_⟩:=zY (.inr ⟨st,hk⟩);have hrf:=hO.out _ _ hfo;rw [hf] at hrf;have hrx:=tR hvs (vI hO hargs);generalize hfv:a.eval fo=fv at hrf;cases hrf with
       | @func _ _ _ fa fb ha hb=>
       have hargs':R G (.l (x++vs++y) (fa++c.args.toList.map a.eval++fb)):=(ha.rM hrx).rM hb;have hsw:R (aF6 G) (.l (x++vs++y) (fa++c.args.toList.map a.eval++fb)):=hargs'.swap (by
        simp only [Bool.or_eq_true,Bool.and_eq_true] at hpure;rcases hpure with hq|hq
        ·exact .inr (hi.inv.aNc hq.2)
        ·exact .inl hq)
       have hup:=hH.func g _ _ _ _ hcall (aNn w G) (aF6 G) w _ hi.inv.bare (hi.aAe.bare hp) hsw;refine aFZ (aBd ho hcal hfv (by obtain⟨n,w1,h1,_⟩:=hup;exact tD h1)) hw (by simp [ho]) (R:=xN P (aNn w G) (aF6 G) s2 (.ret v)) ?_ (fun x' w' hR=> ?_) (fun ch w' hR=> ?_) (fun w' hR=> ?_)
       ·have he:(execOp a.eval o).run P w=(callFunc g (fa++c.args.toList.map a.eval++fb).toArray).run P w:=by
         rw [zR ho hcal hfv,aJy]
         rfl
        unfold aQs;rw [he];exact hup
       ·obtain⟨G2,hle,hI2,hres⟩:=hR;have hq:=hi.inv.aTY hle hI2;have hr2:R ⟨G2.M,G.L,G.H⟩ (.v v' x'):=(aRK hv' hres).swap (by
         simp only [Bool.or_eq_true] at hpv;rcases hpv with hq|hq
         ·exact .inr (hI2.aNc hq)
         ·exact .inl hq)
        have:=hi.quiet hq hd hr2;exact hK _ _ _ B' hq.le (by rw [lS];exact this)
       ·obtain⟨G2,hle,hI2,hres⟩:=hR;exact hres.elim
       ·obtain⟨G2,hle,hI2,hres⟩:=hR;exact hres.elim
      ·cases hE
     ·cases hE
    ·cases hE
   ·cases hE
  |_=>
   simp only at hE;have hnd: ∀c,o.op≠ .defer c:=by
    rcases hcop with hq|hq
    ·cases hq<;>simp [bX,gO,eX] at hE
    ·exact aFs hq (by simp)
   split at hE
   ·rename_i v hv;cases hE;rcases hcop with hq|hq
    ·cases hq<;>simp [bX] at hv
    ·obtain⟨x,w',G',hrun,q,r⟩:=aPz hi.inv hO hcst hq hv;refine tM (oU hc (by first|(intro hbad;simp [bX,gO,eX] at hv;done)|simp) (by simp) (by simp)) hw hnd hrun (.inl rfl) (hK _ _ _ B' q.le ?_);rw [lS];exact hi.quiet q hd r
   ·split at hE
    ·rename_i v hv;cases hE;rcases hcop with hq|hq
     ·cases hq<;>simp [gO] at hv
     ·obtain⟨x,w',G',hrun,q,r⟩:=aUk hi.inv hO hq hv;refine tM (oU hc (by first|(intro hbad;simp [bX,gO,eX] at hv;done)|simp) (by simp) (by simp)) hw hnd hrun (.inl rfl) (hK _ _ _ B' q.le ?_);rw [lS];exact hi.quiet q hd r
    ·split at hE
     ·rename_i v s1 hv;cases hE;rcases hcop with hq|hq
      ·cases hq<;>simp [eX] at hv
      ·obtain⟨n,x,w',G',hrun,hn,hle,hI',r⟩:=aUr hi.inv hO hq hv;refine tM (oU hc (by first|(intro hbad;simp [bX,gO,eX] at hv;done)|simp) (by simp) (by simp)) hw hnd hrun hn (hK _ _ _ B' hle ?_);rw [lS];exact hi.put hle hI' hd r
     ·cases hE
end
def aKx(G:Gh):dO→Exit→Prop
 | .normal,.normal=>True
 | .exit i,.exit j=>i=j
 | .ret,.ret=>True
 | .panic v,.panic chain=> ∃x,chain= [{v:=x,recovered:=false}]∧R G (.v v x)
 |_,_=>False
def CQ(P:Program)(B:Bs)(nt:Nat)(G:Gh)(ex:dO)(fr:Fr)(s:ASt)(e:Exit)(a:Act)(w:World):Prop:=
 ∃G',G.le G'∧Inv P B G' s w∧kG G' nt fr.env a.tmps∧rU G' fr.ds a.defers∧aKx G' ex e
theorem CQ.le{P:Program}{B:Bs}{nt:Nat}{G G1:Gh}{ex:dO}{fr:Fr}{s:ASt}{e:Exit}{a:Act}{w:World}(hle:G.le G1)(h:CQ P B nt G1 ex fr s e a w):CQ P B nt G ex fr s e a w:=by
 obtain⟨G',h1,h2⟩:=h;exact⟨G',hle.trans h1,h2⟩
def OQ(P:Program)(B:Bs)(nt:Nat)(G:Gh)(r:rP):Exit→Act→World→Prop:=
 match r with
 | .norm fr s=>CQ P B nt G .normal fr s
 | .pan v fr s=>CQ P B nt G (.panic v) fr s
theorem OQ.le{P:Program}{B:Bs}{nt:Nat}{G G1:Gh}{r:rP}{e:Exit}{a:Act}{w:World}(hle:G.le G1)(h:OQ P B nt G1 r e a w):OQ P B nt G r e a w:=by
 cases r<;>exact CQ.le hle h
structure aJe(P:Program)(h:Hint)(nt:Nat)(rb:Option Nat)(all:Array Oper)(o:Oper)(ai:AI):Prop where
 c:aCr P h all o ai
 wr: ∀t∈fK ai,t<nt
 rd: ∀f xs,ai.op= .defer f xs→rb=none
 gs:ai.gd≠none→aBf ai.op=true
section
variable {P : Program} {B B' : Bs} {P' : bA} {nt : Nat} {pd : List (Nat × Nat)} {fr : Fr} {e : Env} {ds ds' : List jI} {s s' : ASt} {a : Act} {w : World} {G G0 : Gh}
variable {H : Handler} {rb : Option Nat} {all : Array Oper} {o : Oper} {ai : AI} {h : Hint}
theorem RI.cq(hi:RI P B P' nt pd fr s a w G B')(hle:G0.le G):CQ P B nt G0 .normal fr s .normal a w:=⟨G,hle,hi.inv.base hi.ext,hi.env,hi.ds,trivial⟩
theorem aND(hH:HOk P P' H){f:aQ}{args:List aQ}{gd:Option (Nat×Bool)}{pre:List Nat}{d:Option Nat}(hc:aJe P h nt rb all o ⟨d,.call f args,gd,pre⟩)(hi:RI P B P' nt pd ⟨e,ds⟩ s a w G B')
(hwt:wanted e gd=some true){g:AFn}{x y:List AV}(ht:target (evO P' e f)=some (g,x,y)){vs:List AV}{s1:ASt}(hvs:tH s (args.map (evO P' e))=some (vs,s1)){r:kO}{s2:ASt}
(hcall:H.call g (x++vs++y) s1=some (r,s2)){K:Act→World→Prop}{Q:Exit→Act→World→Prop}
(hK: ∀v a' w' G' B'',r= .ret v→G.le G'→RI P B P' nt (aS d pd) ⟨fQ e d v,ds⟩ s2 a' w' G' B''→K a' w')
(hQ: ∀v x w',r= .panic v→CQ P B nt G (.panic v) ⟨e,ds⟩ s2 (.panic [{v:=x,recovered:=false}]) a w'→Q (.panic [{v:=x,recovered:=false}]) a w'):tT rb P all o a w K Q:=by
 have hcd:=hc.c.d;simp only at hcd;subst hcd;have hd: ∀t,o.dst=some t→t<nt:=fun t ht=>hc.wr t (by simp [fK,ht]);have hw:=qV (fr:=⟨e,ds⟩) hc.c hi.env hwt;have hO:Opn P' e G a.eval:=zO hi.env hi.aAe;have hk:=hc.c.op.resolve_left (by simp);obtain⟨c,fo,ho,hcal,hfo,hargs,_⟩:=zY (.inl hk);have hnd: ∀c,o.op≠ .defer c:=by simp [ho]
 obtain⟨G1,hle1,hI1,hr1⟩:=aEW hi.inv (vI hO hargs) hvs;have hrf:=(hO.out _ _ hfo).mono hle1;have hg1:=hi.aAe.mono hle1;have hret: ∀xv w',xN P B' G1 s2 r (.returned xv) w'→K (a.put o.dst xv) w':=by
  rintro xv w' ⟨G2,hle2,hI2,hres⟩
  cases r with
  |ret v=>exact hK v _ _ G2 B' rfl (hle1.trans hle2) (hi.put (hle1.trans hle2) hI2 hd hres)
  |panic v=>exact hres.elim
 have hpan: ∀ch w',xN P B' G1 s2 r (.panicked ch) w'→Q (.panic ch) a w':=by
  rintro ch w' ⟨G2,hle2,hI2,hres⟩
  cases r with
  |ret v=>exact hres.elim
  |panic v=>
   obtain⟨x,rfl,hx⟩:=hres;exact hQ v x w' rfl ⟨G2,hle1.trans hle2,hI2.base hi.ext,hi.env.mono (hle1.trans hle2),hi.ds.mono (hle1.trans hle2),x,rfl,hx⟩
 have hout: ∀w',¬xN P B' G1 s2 r .outgrown w':=by
  rintro w' ⟨G2,_,_,hres⟩
  cases r<;>exact hres.elim
 generalize hfv:a.eval fo=fv at hrf;generalize evO P' e f=av at ht hrf;cases hrf with
 | @func g' a' b' fa fb ha hb=>
  simp only [target,Option.some.injEq,Prod.mk.injEq] at ht;obtain⟨rfl,rfl,rfl⟩:=ht;have hr:R G1 (.l (a'++vs++b') (fa++c.args.toList.map a.eval++fb)):=(ha.rM hr1).rM hb;have hup:=hH.func g' _ _ _ _ hcall B' G1 w _ hI1 hg1 hr;refine aFZ (aBd ho hcal hfv (by obtain⟨n,w1,h1,_⟩:=hup;exact tD h1)) hw hnd (R:=xN P B' G1 s2 r) ?_ hret hpan hout;have he:(execOp a.eval o).run P w=(callFunc g' (fa++c.args.toList.map a.eval++fb).toArray).run P w:=by
   rw [zR ho hcal hfv,aJy]
   rfl
  unfold aQs;rw [he];exact hup
 | @yield l b hLb=>
  simp only [target,Option.some.injEq,Prod.mk.injEq] at ht;obtain⟨rfl,rfl,rfl⟩:=ht;have hr:R G1 (.l ([]++vs++ []) (c.args.toList.map a.eval)):=by simpa using hr1
  obtain⟨f',tmps,a_,bd,h1,h2⟩:=hH.yield l _ _ _ _ hcall B' G1 w _ b hI1 hg1 hr hLb;refine aL4 (aIs ho hcal hfv) hw hnd (R:=xN P B' G1 s2 r) ?_ h2 hret hpan hout;have e1:(c.args.toList.map a.eval).toArray= #[]++c.args.map a.eval:=by apply Array.toList_inj.1;simp
  rw [zR ho hcal hfv,←e1];exact h1
 |_=>simp [target] at ht
theorem aSX(hH:HOk P P' H)(hp: ∀g,dC (P'.gl g)=true){rest:List AI}{r:rP}(hc:aJe P h nt rb all o ai)(hi:RI P B P' nt pd fr s a w G B')(hr:bS H P' (ai::rest) pd fr s=some r){K:Act→World→Prop}
(hK: ∀pd' fr' s' a' w' G' B'',bS H P' rest pd' fr' s'=some r→G.le G'→RI P B P' nt pd' fr' s' a' w' G' B''→K a' w'):tT rb P all o a w K (OQ P B nt G r):=by
 obtain⟨e,ds⟩:=fr;by_cases h3:eS ai.op=3
 ·obtain⟨d,op,gd,pre⟩:=ai;have hcd:=hc.c.d;simp only at hcd;subst hcd;have hd: ∀t,o.dst=some t→t<nt:=fun t ht=>hc.wr t (by simp [fK,ht]);simp only [bS] at hr;split at hr
  ·cases hr
  ·rename_i hwt;have hw:=qV (fr:=⟨e,ds⟩) hc.c hi.env hwt;unfold tT;rw [if_neg (by rw [hw];simp)];exact⟨aFj (fun _=>rfl) hc.c (hc.gs (fun hn=>by simp only at hn;rw [hn] at hwt;simp [wanted] at hwt)),hK _ _ _ _ _ G B' hr (.refl _) (hi.quiet hi.inv.quiet hd .aGL)⟩
  ·rename_i hwt;cases op with
   |call f args=>
    simp only at hr;split at hr
    ·rename_i g x y vs s1 ht hvs;split at hr
     ·rename_i v s2 hcall;refine aND hH hc hi hwt ht hvs hcall (fun v' a' w' G' B'' hv hle hri=> ?_) (fun v' x w' hv=>by cases hv);cases hv;exact hK _ _ _ _ _ _ _ hr hle hri
     ·rename_i v s2 hcall;cases hr;refine aND hH hc hi hwt ht hvs hcall (fun v' a' w' G' B'' hv=>by cases hv) (fun v' x w' hv hcq=> ?_);cases hv;exact hcq
     ·cases hr
    ·cases hr
   |panic x=>
    simp only at hr;split at hr
    ·rename_i t v hx;cases hr;have hw:=qV (fr:=⟨e,ds⟩) hc.c hi.env hwt;have hO:Opn P' e G a.eval:=zO hi.env hi.aAe;obtain⟨xo,ho,hxo⟩:=aMe (hc.c.op.resolve_left (by simp));have hrx:=hO.out _ _ hxo;rw [hx] at hrx;generalize hxv:a.eval xo=xv at hrx;cases hrx with
     | @iface _ _ y hy=>
     unfold tT;rw [if_pos hw];refine⟨aBu (by simp [ho]),?_⟩;have hrun:(o.semAt (FR P rb).round a.eval).run P w= .halt (.panic (.iface t y)) w:=by
      rw [Oper.semAt_eq _ _ _ (by simp [ho])];simp only [execOp,ho,hxv,Sem.run_bind]
      rfl
     rw [hrun];exact⟨G,.refl _,hi.inv.base hi.ext,hi.env,hi.ds,_,rfl,.iface hy⟩
    ·cases hr
   |aN st f args=>cases st<;>simp [eS] at h3
   |append tk a b c d=>cases tk<;>simp [eS] at h3
   |_=>simp [eS] at h3
 ·rw [oW h3] at hr;split at hr
  ·rename_i E ds' s' hE;cases hok:u6 E pd with
   |false=>rw [hok] at hr;cases hr
   |true=>
    rw [hok] at hr;exact aUu hH hp hc.c hc.gs hi hc.wr hc.rd hE hok fun a' w' G' B'' hle hri=>hK _ _ _ _ _ _ _ hr hle hri
  ·cases hr
theorem aD1(hH:HOk P P' H)(hp: ∀g,dC (P'.gl g)=true){r:rP}{f:Nat→AI}: ∀(l:List Nat),(∀j∈l,∃o,all[j]?=some o∧aJe P h nt rb all o (f j))→ ∀{pd:List (Nat×Nat)}{fr:Fr}{s:ASt}{a:Act}{w:World}{G:Gh}{B':Bs},
  RI P B P' nt pd fr s a w G B'→bS H P' (l.map f) pd fr s=some r→G0.le G→wpOpsIn (FR P rb) 0 P all (OQ P B nt G0 r) l a w
 | [],_,pd,fr,s,a,w,G,B',hi,hr,hle=>by
  simp only [List.map_nil,bS,Option.some.injEq] at hr;subst hr;exact hi.cq hle
 |j::l,hl,pd,fr,s,a,w,G,B',hi,hr,hle=>by
  obtain⟨o,ho,hok⟩:=hl j (by simp);simp only [List.map_cons] at hr;have hs:=aSX hH hp hok hi hr (K:=wpOpsIn (FR P rb) 0 P all (OQ P B nt G0 r) l) fun pd' fr' s' a' w' G' B'' hr' hle' hi'=>
   aD1 hH hp l (fun j hj=>hl j (by simp [hj])) hi' hr' (hle.trans hle')
  rw [wpOpsIn_cons];simp only [wpOpIn,ho];unfold tT at hs;split
  ·rename_i hw;rw [if_pos hw] at hs;refine⟨hs.1,?_⟩;exact uponIn_mono (fun a w h=>h) (fun e a w h=>OQ.le hle h) hs.2
  ·rename_i hw;rw [if_neg hw] at hs;exact hs
where
 uponIn_mono {F : Fence} {n : Nat} {o : Oper} {a : Act} {K K' : Act → World → Prop} {Q Q' : Exit → Act → World → Prop} (hk : ∀ a w, K a w → K' a w) (hq : ∀ e a w, Q e a w → Q' e a w) {r : Result Next}
   (hh : o.uponIn F n P a K Q r) : o.uponIn F n P a K' Q' r := by
  cases r with
  | ok x w' =>
   cases x <;> simp only [Oper.uponIn] at hh ⊢ <;>
    first
     | exact hk _ _ hh
     | exact ⟨hh.1, CallsIn.mono hh.2 (fun e w'' he => by cases e <;> first | exact hk _ _ he | exact hq _ _ _ he | exact (let ⟨a, w, h⟩ := he; ⟨a, w, hq _ _ _ h⟩))⟩
     | exact ⟨hh.1, RowsIn.mono hh.2 (fun _ _ he => hk _ _ he)⟩
     | exact ⟨hh.1, RoundIn.mono hh.2 (fun e w'' he => by cases e <;> first | exact hk _ _ he | exact hq _ _ _ he | exact (let ⟨a, w, h⟩ := he; ⟨a, w, hq _ _ _ h⟩))⟩
  | halt x w' => cases x <;> simp only [Oper.uponIn] at hh ⊢ <;> exact hq _ _ _ hh
end
section
variable {P : Program} {B B' : Bs} {P' : bA} {nt : Nat} {pd : List (Nat × Nat)} {fr : Fr} {s : ASt} {a : Act} {w : World} {G G0 : Gh}
variable {H : Handler} {rb : Option Nat} {all : Array Oper} {h : Hint}
structure aSY(P:Program)(h:Hint)(nt:Nat)(rb:Option Nat)(all:Array Oper)(f:Nat→AI):Prop where
 op: ∀j,j<all.size→ ∃o,all[j]?=some o∧aJe P h nt rb all o (f j)
structure aO1(all:Array Oper)(f:Nat→AI):Prop where
 aVp: ∀(j:Nat)(o:Oper),all[j]?=some o→ ∀e∈o.after,Region.binds .any e=true→e.on<j
 pre: ∀(j:Nat)(o:Oper),all[j]?=some o→ ∀m∈(f j).pre,∃e∈o.after,Region.binds .any e=true∧(m=e.on∨m∈(f e.on).pre)
 apart: ∀i j,i<j→j<all.size→i∉(f j).pre→Fw.apart (f i) (f j)
theorem aOA{md:Region.Mode}{e:Edge}(h:Region.binds .any e=true):Region.binds md e=true:=by
 unfold Region.binds at*;cases hg:e.ground<;>simp [hg] at h⊢
def aM5(f:Nat→AI)(listed:Array Bool):Prop:= ∀k,listed.getD k false=true→ ∀m∈(f k).pre,listed.getD m false=true
def open_(n:Nat)(listed:Array Bool):List Nat:=(List.range n).filter fun j=> !listed.getD j true
theorem aJ3{l:Array Bool}{i j:Nat}{d:Bool}(hi:i<l.size):(l.setIfInBounds i true).getD j d=if j=i then true else l.getD j d:=by
 simp only [Array.getD_eq_getD_getElem?,Array.getElem?_setIfInBounds];by_cases h:i=j
 ·subst h;simp [hi]
 ·simp [h,Ne.symm h]
theorem aJq{l:Array Bool}{j:Nat}(hj:j<l.size)(d d':Bool):l.getD j d=l.getD j d':=by
 simp [Array.getD_eq_getD_getElem?,hj]
theorem aQf{n i:Nat}{listed:Array Bool}(hs:listed.size=n){A C:List Nat}(hi:open_ n listed=A++i::C):open_ n (listed.setIfInBounds i true)=A++C:=by
 have hmem:i∈open_ n listed:=by rw [hi];simp
 have hin:i<listed.size:=by
  simp only [open_,List.mem_filter,List.mem_range] at hmem;omega
 have h1:open_ n (listed.setIfInBounds i true)=(open_ n listed).filter fun j=> !(j==i):=by
  unfold open_;rw [List.filter_filter];refine List.filter_congr fun j hj=> ?_;rw [aJ3 hin];by_cases q:j=i
  ·subst q;simp
  ·simp [q]
 have hnd:(open_ n listed).Nodup:=List.Pairwise.filter _ List.nodup_range;rw [hi] at hnd;rw [h1,hi,List.filter_append,List.filter_cons];have hA:A.filter (fun j=> !(j==i))=A:=List.filter_eq_self.2 fun j hj=>by
  have:j≠i:=fun q=>by
   subst q;exact(List.nodup_append.1 hnd).2.2 _ hj _ (by simp) rfl
  simp [this]
 have hC:C.filter (fun j=> !(j==i))=C:=List.filter_eq_self.2 fun j hj=>by
  have:j≠i:=fun q=>by
   subst q;exact(List.nodup_cons.1 (List.nodup_append.1 hnd).2.1).1 hj
  simp [this]
 rw [hA,hC];simp
theorem aSq(hH:HOk P P' H)(hp: ∀g,dC (P'.gl g)=true){r:rP}{f:Nat→AI}(hR:aSY P h nt rb all f)(hD:aO1 all f){md:Region.Mode}(hmd:md= .any):
  ∀(fuel t:Nat)(listed:Array Bool),listed.size=all.size→(open_ all.size listed).length≤fuel→aM5 f listed→ ∀{pd:List (Nat×Nat)}{fr:Fr}{s:ASt}{a:Act}{w:World}{G:Gh}{B':Bs},
  RI P B P' nt pd fr s a w G B'→bS H P' ((open_ all.size listed).map f) pd fr s=some r→G0.le G→wpOpsIn (FR P rb) 0 P all (OQ P B nt G0 r) (Region.linearise.go md all fuel t listed []) a w:=by
 intro fuel
 induction fuel with
 |zero=>
  intro t listed hs hl hcl pd fr s a w G B' hi hr hle;have h0:open_ all.size listed= []:=List.length_eq_zero_iff.1 (Nat.le_zero.1 hl);rw [h0] at hr;exact aD1 (h:=h) hH hp [] (by simp) hi hr hle
 |succ fuel ih=>
  intro t listed hs hl hcl pd fr s a w G B' hi hr hle;simp only [Region.linearise.go];split
  ·rename_i i hi';have hready:=List.mem_of_getElem? hi';rw [List.mem_filter] at hready;obtain⟨hir,hcond⟩:=hready;have hin:i<all.size:=by simpa using hir
   obtain⟨o,ho,hok⟩:=hR.op i hin;rw [Bool.and_eq_true] at hcond;obtain⟨hun,hedge⟩:=hcond;rw [ho] at hedge;simp only [Option.map_some,Option.getD_some] at hedge;rw [Array.all_eq_true_iff_forall_mem] at hedge;have hmem:i∈open_ all.size listed:=by simp only [open_,List.mem_filter,List.mem_range];exact⟨hin,hun⟩
   obtain⟨A,C,hAC⟩:=List.append_of_mem hmem;have hpre: ∀m∈(f i).pre,listed.getD m false=true:=by
    intro m hm;obtain⟨e,he,hb,hme⟩:=hD.pre i o ho m hm;have hel:listed.getD e.on false=true:=by
     have:=hedge e he;rw [aOA hb] at this;simpa using this
    rcases hme with rfl|hme
    ·exact hel
    ·exact hcl _ hel m hme
   have hsorted:(open_ all.size listed).Pairwise (· < ·):=List.Pairwise.filter _ List.pairwise_lt_range;rw [hAC] at hsorted;have hA: ∀j∈A,Fw.apart (f j) (f i):=by
    intro j hj;have hji:j<i:=(List.pairwise_append.1 hsorted).2.2 j hj i (by simp);refine hD.apart j i hji hin fun hjp=> ?_;have h1:=hpre j hjp;have h2:j∈open_ all.size listed:=by rw [hAC];simp [hj]
    simp only [open_,List.mem_filter,List.mem_range] at h2;rw [aJq (by omega) true false,h1] at h2;simp at h2
   rw [linearise_go_acc,List.reverse_singleton,List.singleton_append,wpOpsIn_cons];rw [hAC,List.map_append,List.map_cons] at hr;have hr2:=aC8 (fun x hx=>by
    obtain⟨j,hj,rfl⟩:=List.mem_map.1 hx;exact hA j hj) hr
   have hopen:=aQf hs hAC;have hlen:(open_ all.size (listed.setIfInBounds i true)).length≤fuel:=by
    rw [hopen];rw [hAC] at hl;simp only [List.length_append,List.length_cons] at hl⊢;omega
   have hcl':aM5 f (listed.setIfInBounds i true):=by
    have hin':i<listed.size:=by omega
    intro k hk m hm;rw [aJ3 hin'] at hk⊢;split
    ·rfl
    ·by_cases q:k=i
     ·subst q;exact hpre m hm
     ·rw [if_neg q] at hk;exact hcl k hk m hm
   have hs2:=aSX hH hp hok hi hr2 (K:=wpOpsIn (FR P rb) 0 P all (OQ P B nt G0 r) (Region.linearise.go md all fuel (t/((List.range all.size).filter fun i=> !listed.getD i true&&((all[i]?).map (·.after.all fun e=> !Region.binds md e||listed.getD e.on false)).getD false).length) (listed.setIfInBounds i true) [])) fun pd' fr' s' a' w' G' B'' hr' hle' hi'=>
    ih _ _ (by simpa using hs) hlen hcl' hi' (by rw [hopen,List.map_append];exact hr') (hle.trans hle')
   simp only [wpOpIn,ho];unfold tT at hs2;split
   ·rename_i hw;rw [if_pos hw] at hs2;exact⟨hs2.1,aD1.uponIn_mono (fun a w h=>h) (fun e a w h=>OQ.le hle h) hs2.2⟩
   ·rename_i hw;rw [if_neg hw] at hs2;exact hs2
  ·rename_i hnone;have h0:open_ all.size listed= []:=by
    cases hop:open_ all.size listed with
    |nil=>rfl
    |cons i rest=>
     exfalso;have hmem:i∈open_ all.size listed:=by rw [hop];simp
     have hsorted:(open_ all.size listed).Pairwise (· < ·):=List.Pairwise.filter _ List.pairwise_lt_range;rw [hop] at hsorted;have hmin: ∀j,j<i→listed.getD j false=true:=by
      intro j hj;have hin:i<all.size:=by
       simp only [open_,List.mem_filter,List.mem_range] at hmem;exact hmem.1
      cases hq:listed.getD j false with
      |true=>rfl
      |false=>
       have:j∈open_ all.size listed:=by
        simp only [open_,List.mem_filter,List.mem_range];refine⟨by omega,?_⟩;rw [aJq (by omega) true false,hq];rfl
       rw [hop] at this;rcases List.mem_cons.1 this with rfl|h2
       ·exact absurd hj (Nat.lt_irrefl _)
       ·have:=(List.pairwise_cons.1 hsorted).1 j h2;omega
     simp only [open_,List.mem_filter,List.mem_range] at hmem;obtain⟨o,ho,hok⟩:=hR.op i hmem.1;have hr':i∈(List.range all.size).filter fun i=> !listed.getD i true&&((all[i]?).map (·.after.all fun e=> !Region.binds md e||listed.getD e.on false)).getD false:=by
      rw [List.mem_filter];refine⟨by simpa using hmem.1,?_⟩;rw [Bool.and_eq_true,ho];refine⟨hmem.2,?_⟩;simp only [Option.map_some,Option.getD_some];rw [Array.all_eq_true_iff_forall_mem];intro e he;cases hb:Region.binds md e with
      |false=>rfl
      |true=>rw [hmin _ (hD.aVp i o ho e he (by rw [←hmd];exact hb))];rfl
     have hlt:t%((List.range all.size).filter fun i=> !listed.getD i true&&((all[i]?).map (·.after.all fun e=> !Region.binds md e||listed.getD e.on false)).getD false).length<((List.range all.size).filter fun i=> !listed.getD i true&&((all[i]?).map (·.after.all fun e=> !Region.binds md e||listed.getD e.on false)).getD false).length:=
      Nat.mod_lt _ (List.length_pos_of_mem hr')
     have:=List.getElem?_eq_none_iff.1 hnone;omega
   rw [h0] at hr;exact aD1 (h:=h) hH hp [] (by simp) hi hr hle
theorem aBe{draw:Bool}{pre:List (List Nat)}: ∀{l:List Oper}{i:Nat}{is:List AI},aBD P h draw all pre i l=some is→
  is.length=l.length∧ ∀j o,l[j]?=some o→ ∃ai,is[j]?=some ai∧aCr P h all o ai∧ai.pre=if draw then(pre.getD (i+j) []).eraseDups else []
 | [],i,is,hk=>by simp [aBD] at hk;subst hk;exact⟨rfl,fun j o hj=>by simp at hj⟩
 |o::l,i,is,hk=>by
  simp only [aBD] at hk;split at hk
  ·rename_i is' g h1 h2;cases hk;obtain⟨hlen,hih⟩:=aBe h1;refine⟨by simp [hlen],fun j o' hj=> ?_⟩;cases j with
   |zero=>
    simp only [List.getElem?_cons_zero,Option.some.injEq] at hj;subst hj;refine⟨_,rfl,⟨rfl,?_,?_⟩,rfl⟩
    ·simp only;cases hc:cP P h o.dst o.op with
     |none=>exact .inl rfl
     |some x=>exact .inr rfl
    ·revert h2
     cases o.guard with
     |none=>simp only [Option.some.injEq];intro h2;exact h2.symm
     |some jb=>
      obtain⟨j,b⟩:=jb;simp only;split
      ·rename_i t ht;intro h2;cases h2;exact⟨t,ht,rfl⟩
      ·intro h2;cases h2
   |succ j=>
    obtain⟨ai,k1,k2,k3⟩:=hih j o' (by simpa using hj);refine⟨ai,by simpa using k1,k2,?_⟩;rw [k3,show i+1+j=i+(j+1) from by omega]
  ·cases hk
theorem aLN(l:List Oper): ∀(acc:List (List Nat))(done:List Oper),acc.length=done.length→
  (∀j o,done[j]?=some o→ ∀m∈acc.getD j [],∃e∈o.after,Region.binds .any e=true∧(m=e.on∨m∈acc.getD e.on []))→
  ∀j o,(done++l)[j]?=some o→ ∀m∈(l.foldl (fun acc o=>acc++ [((o.after.toList.filter (Region.binds .any)).flatMap fun e=>e.on::acc.getD e.on []).eraseDups]) acc).getD j [],
   ∃e∈o.after,Region.binds .any e=true∧(m=e.on∨m∈(l.foldl (fun acc o=>acc++ [((o.after.toList.filter (Region.binds .any)).flatMap fun e=>e.on::acc.getD e.on []).eraseDups]) acc).getD e.on []):=by
 induction l with
 |nil=>intro acc done _ h1 j o hj m hm;simp only [List.append_nil] at hj;exact h1 j o hj m hm
 |cons x l ih=>
  intro acc done hl h1 j o hj;simp only [List.foldl_cons];refine ih _ (done++ [x]) (by simp [hl]) (fun j o hj m hm=> ?_) j o (by simpa using hj);have hget: ∀k,k<acc.length→(acc++ [((x.after.toList.filter (Region.binds .any)).flatMap fun e=>e.on::acc.getD e.on []).eraseDups]).getD k []=acc.getD k []:=by
   intro k hk;simp [List.getD_eq_getElem?_getD,List.getElem?_append_left hk]
  have hmono: ∀k m,m∈acc.getD k []→m∈(acc++ [((x.after.toList.filter (Region.binds .any)).flatMap fun e=>e.on::acc.getD e.on []).eraseDups]).getD k []:=by
   intro k m hm;rcases Nat.lt_or_ge k acc.length with hk|hk
   ·rw [hget k hk];exact hm
   ·simp [List.getD_eq_getElem?_getD,List.getElem?_eq_none hk] at hm
  rcases Nat.lt_or_ge j done.length with hjl|hjl
  ·rw [List.getElem?_append_left hjl] at hj;rw [hget j (by omega)] at hm;obtain⟨e,he,hb,hme⟩:=h1 j o hj m hm;exact⟨e,he,hb,hme.imp id (hmono _ _)⟩
  ·have hj0:j=done.length:=by
    have:j<(done++ [x]).length:=(List.getElem?_eq_some_iff.1 hj).1;simp at this;omega
   subst hj0;simp at hj;subst hj;have:(acc++ [((x.after.toList.filter (Region.binds .any)).flatMap fun e=>e.on::acc.getD e.on []).eraseDups]).getD done.length []=((x.after.toList.filter (Region.binds .any)).flatMap fun e=>e.on::acc.getD e.on []).eraseDups:=by
    rw [←hl];simp [List.getD_eq_getElem?_getD]
   rw [this,List.mem_eraseDups] at hm;obtain⟨e,he,hme⟩:=List.mem_flatMap.1 hm;rw [List.mem_filter] at he;refine⟨e,Array.mem_toList_iff.1 he.1,he.2,?_⟩;rcases List.mem_cons.1 hme with q|q
   ·exact .inl q
   ·exact .inr (hmono _ _ q)
theorem aPO(l:List Oper): ∀j o,l[j]?=some o→ ∀m∈(aIB l).getD j [],∃e∈o.after,Region.binds .any e=true∧(m=e.on∨m∈(aIB l).getD e.on []):=by
 have:=aLN l [] [] rfl (by simp);simpa [aIB] using this
theorem aAS: ∀{l:List Oper}{i:Nat},aDO i l=true→ ∀j o,l[j]?=some o→ ∀e∈o.after,Region.binds .any e=true→e.on<i+j
 | [],i,_,j,o,hj=>by simp at hj
 |x::l,i,he,j,o,hj=>by
  simp only [aDO,Bool.and_eq_true] at he;cases j with
  |zero=>
   simp at hj;subst hj;intro e hm hb;have:=(Array.all_eq_true_iff_forall_mem.1 he.1) e hm;rw [hb] at this;simp only [Bool.not_true,Bool.false_or,Nat.blt_eq] at this;omega
  |succ j=>
   intro e hm hb;have:=aAS he.2 j o (by simpa using hj) e hm hb;omega
theorem aGq(hmix:P.follows .mixedOrders=true)(hH:HOk P P' H)(hp: ∀g,dC (P'.gl g)=true){id:Nat}{draw:Bool}{ops:List AI}(hk:eP P h (.region id all draw)=some (.reg draw ops))(hok:pL nt rb.isSome (.reg draw ops)=true)
{r:rP}(hi:RI P B P' nt [] fr s a w G B)(hr:bS H P' ops [] fr s=some r):(Code.region id all draw).wpIn (FR P rb) 0 P (OQ P B nt G r) a w:=by
 simp only [eP] at hk;split at hk
 ·cases hk
 rename_i hedge;simp only [Option.map_eq_some_iff,AC.reg.injEq,true_and,exists_eq_right] at hk;obtain⟨hlen,hck⟩:=aBe hk;simp only [pL,Bool.and_eq_true] at hok;obtain⟨hok1,hok2⟩:=hok;have hall: ∀j,j<all.size→ ∃o ai,all[j]?=some o∧ops[j]?=some ai∧aJe P h nt rb all o ai∧ai.pre=if draw then((if draw then aIB all.toList else []).getD j []).eraseDups else []:=by
  intro j hj;obtain⟨ai,k1,k2,k3⟩:=hck j all[j] (by simp [hj]);refine⟨all[j],ai,by simp [hj],k1,⟨k2,?_,?_,?_⟩,by simpa using k3⟩
  ·intro t ht;simp only [aGF,List.all_eq_true,Bool.and_eq_true] at hok1;have:=((hok1 ai (List.mem_of_getElem? k1)).1.1) t ht;simpa using this
  ·intro f xs hd;simp only [aGF,List.all_eq_true,Bool.and_eq_true] at hok1;have:=(hok1 ai (List.mem_of_getElem? k1)).1.2;rw [hd] at this;cases rb with
   |none=>rfl
   |some b=>simp at this
  ·intro hg;simp only [aGF,List.all_eq_true,Bool.and_eq_true] at hok1;have:=(hok1 ai (List.mem_of_getElem? k1)).2;cases hgd:ai.gd with
   |none=>exact absurd hgd hg
   |some x=>rw [hgd] at this;exact this
 have hf: ∀j ai,ops[j]?=some ai→ops.getD j default=ai:=fun j ai hj=>by simp [List.getD_eq_getElem?_getD,hj]
 have hmap:(List.range all.size).map (fun j=>ops.getD j default)=ops:=by
  apply List.ext_getElem?;intro j;rcases Nat.lt_or_ge j all.size with hj|hj
  ·obtain⟨o,ai,_,k2,_⟩:=hall j hj;simp [hj,k2]
  ·have h1:ops.length≤j:=by rw [hlen];simpa using hj
   rw [List.getElem?_eq_none h1,List.getElem?_eq_none (by simpa using hj)]
 cases draw with
 |false=>
  refine wpIn_region (aD1 (h:=h) hH hp (f:=fun j=>ops.getD j default) _ (fun j hj=> ?_) hi (by rw [hmap];exact hr) (.refl _));obtain⟨o,ai,k1,k2,k3,_⟩:=hall j (by simpa using hj);exact⟨o,k1,by rw [hf j ai k2];exact k3⟩
 |true=>
  simp only [Bool.true_and,Bool.not_eq_true',Bool.not_eq_false] at hedge;have hR:aSY P h nt rb all (fun j=>ops.getD j default):=⟨fun j hj=>by
   obtain⟨o,ai,k1,k2,k3,_⟩:=hall j hj;exact⟨o,k1,by rw [hf j ai k2];exact k3⟩⟩
  have hD:aO1 all (fun j=>ops.getD j default):=by
   refine⟨fun j o ho e he hb=> ?_,fun j o ho m hm=> ?_,fun i j hij hj hn=> ?_⟩
   ·have:=aAS hedge j o (by simpa using ho) e he hb;omega
   ·obtain⟨o',ai,k1,k2,_,k4⟩:=hall j (Array.getElem?_eq_some_iff.1 ho).1;simp only [hf j ai k2,k4,if_true,List.mem_eraseDups] at hm;obtain⟨e,he,hb,hme⟩:=aPO all.toList j o (by simpa using ho) m hm;refine⟨e,he,hb,hme.imp (fun q=>q) fun hq=> ?_⟩;have hel:e.on<all.size:=by
     have h1:=aAS hedge j o (by simpa using ho) e he hb;have h2:=(Array.getElem?_eq_some_iff.1 ho).1;omega
    obtain⟨o2,ai2,_,q2,_,q4⟩:=hall e.on hel;rw [hf _ ai2 q2,q4];simpa [List.mem_eraseDups] using hq
   ·simp only [Bool.not_true,Bool.false_or] at hok2;simp only [aPW,List.all_eq_true,List.mem_range] at hok2;have hil:i<all.size:=Nat.lt_trans hij hj;obtain⟨o1,a1,_,q2,_,_⟩:=hall i hil;obtain⟨o2,a2,_,p2,_,_⟩:=hall j hj;have:=hok2 j (by rw [hlen];simpa using hj) i hij;rw [q2,p2] at this;rw [hf j a2 p2] at hn⊢;rw [hf i a1 q2];simp only [Bool.or_eq_true,List.contains_iff_mem,Bool.not_eq_true',Bool.or_eq_false_iff,List.any_eq_false] at this;rcases this with hq|⟨⟨h1,h2⟩,h3⟩
    ·exact absurd hq hn
    ·exact⟨h1,h2,h3⟩
  refine wpIn_region_draw fun t=> ?_;have hi':RI P B P' nt [] fr s a {w with drawn:=w.drawn+1} G B:=⟨hi.ext,hi.inv.drawn _,hi.pend,hi.env,hi.aAe,hi.ds⟩
  have h0:open_ all.size (Array.replicate all.size false)=List.range all.size:=by
   unfold open_;rw [List.filter_eq_self];intro j hj;have:j<all.size:=by simpa using hj
   simp [Array.getD_eq_getD_getElem?,this]
  have hgo: ∀t,wpOpsIn (FR P rb) 0 P all (OQ P B nt G r) (Region.linearise .any all t) a {w with drawn:=w.drawn+1}:=fun t=>by
   unfold Region.linearise;refine aSq hH hp hR hD rfl all.size t _ (by simp) (by rw [h0];simp) (fun k hk=> ?_) hi' (by rw [h0,hmap];exact hr) (.refl _);simp only [Array.getD_eq_getD_getElem?,Array.getElem?_replicate] at hk;split at hk<;>simp at hk
  simp only [Region.schedule,hmix,Bool.true_or,if_true];exact hgo _
end
structure POk(P:Program)(P':bA):Prop where
 fn: ∀f af,P'.fn f=some af→ ∃(fn:Func)(h:Hint),P.funcs[f]?=some fn∧yJ P h fn=some af∧pL fn.ntmps false af.body=true∧(fn.name== "runtime.NumGoroutine")=false
 aAe: ∀g,dC (P'.gl g)=true
 mixed:P.follows .mixedOrders=true
theorem lR{P:Program}{f:Nat}{fn:Func}(hf:P.funcs[f]?=some fn){c:Code}(hb:fn.body=some c)(hn:(fn.name== "runtime.NumGoroutine")=false)(args:Array Value)(w:World):
  (callFunc f args).run P w= .ok (.enter f args) w:=by
 unfold callFunc;simp only [Sem.run_bind];have:(program:Sem Program).run P w= .ok P w:=rfl;rw [this];simp only [Result.andThen,hf,hn,hb,Option.isNone_some]
 rfl
theorem aAU{P:Program}{h:Hint}{fn:Func}{af:AF}(hc:yJ P h fn=some af): ∃c,fn.body=some c∧eP P h c=some af.body:=by
 unfold yJ at hc;split at hc
 ·rename_i b r hb hr;cases hc;obtain⟨c,h1,h2⟩:=Option.bind_eq_some_iff.1 hb;exact⟨c,h1,h2⟩
 ·cases hc
def aQg(G:Gh):Option Nat→Option Nat→Prop
 |none,none=>True
 |some l,some b=>G.L l=some b
 |_,_=>False
theorem aQg.mono{G G':Gh}(hG:G.le G'){rd rb:Option Nat}(h:aQg G rd rb):aQg G' rd rb:=by
 cases rd<;>cases rb<;>first|exact h|exact hG.L _ _ h
section
variable {P : Program} {B : Bs} {P' : bA} {nt : Nat} {s : ASt} {w : World} {G : Gh} {H : Handler} {h : Hint}
theorem aB7{l₀:Nat}{r₀:Loop}(h:w.heap[l₀]?=some (.loop r₀))(fn:FuncId)(tmps:Array Value)(ps:Array Tmp)(assign body:Code):
  (Instr.enterLoop fn tmps ps assign body<|some l₀).run P w=
   .ok (w.heap.size,[]) (w.alloc<|.loop {state:= .ready,pending:=none,fn,tmps,params:=ps,assign,body,defers:=r₀.defers}):=by
 unfold Instr.enterLoop;simp only [Sem.run_bind,run_getLoop h,run_newObj_alloc,Result.andThen,Sem.run_pure]
theorem aMk{F:Fence}{n:Nat}{c:Code}{Q:Exit→Act→World→Prop}{a:Act}{w:World}(hg: ∀l a w,¬Q (.goto l) a w)(h:c.wpIn F n P Q a w):(Code.scope c).wpIn F n P Q a w:=by
 intro b k cs hro hb hr;have s0:step P (lone (b.atR a (.code (.scope c)::k)) cs w)= .next (lone (b.atR a (.code c:: .inScope c::k)) cs w):=
  step_lone_go (by simp [stepG,stepG.exec,Frame.atR])
 have s1: ∀a w,step P (lone (b.atR a (.inScope c::k)) cs w)= .next (lone (b.atR a k) cs w):=
  fun a w=>step_lone_go (by simp [stepG,stepG.exec,Frame.atR])
 have h0:(lone (b.atR a (.code (.scope c)::k)) cs w).fenced P F:=fenced_calm hb hr rfl;obtain⟨e,a₁,w₁,hq,harr⟩:=h b (.inScope c::k) cs hro hb hr;cases e with
 |normal=>exact⟨.normal,a₁,w₁,hq,.head h0 s0<|StepsIn.trans harr<|.one (fenced_calm hb hr rfl)<|s1 _ _⟩
 |exit id=>
  have hx:exitTo id (.inScope c::k)=exitTo id k:=by simp [exitTo]
  exact⟨.exit id,a₁,w₁,hq,fun k' hk=> .head h0 s0 (harr.1 k' (by rw [hx];exact hk)),fun hr' hk=>let ⟨k₁,h1,h2⟩:=harr.2 hr' (by rw [hx];exact hk);⟨k₁,h1,.head h0 s0 h2⟩⟩
 |goto l=>exact absurd hq (hg _ _ _)
 |ret=>exact⟨_,a₁,w₁,hq,.of_steps (.one h0 s0) harr⟩
 |panic ch=>exact⟨_,a₁,w₁,hq,.of_steps (.one h0 s0) harr⟩
 |outgrown=>exact⟨_,a₁,w₁,hq,.of_steps (.one h0 s0) harr⟩
theorem aD4(hI:Inv P B G s w){fr:Fr}{a:Act}(hE:kG G nt fr.env a.tmps){rd rb:Option Nat}(hrd:aQg G rd rb){ps:Array Nat}{assign body:Code}{a_ bd:AC}
(hps:ps.toList.all (fun d=>Nat.blt d nt)=true)(ha:eP P h assign=some a_)(hao:pL nt true a_=true)(hb:eP P h body=some bd)(hbo:pL nt true bd=true)
{l:Nat}{mk:List jI}{s1:ASt}(hl:sL rd ps.toList a_ bd fr s=some (l,mk,s1))(fn:FuncId)(hfn: ∃f,P.funcs[fn]?=some f):
  ∃bl mark w1 G1,(Instr.enterLoop fn a.tmps ps assign body rb).run P w= .ok (bl,mark) w1∧G.le G1∧Inv P B G1 s1 w1∧G1.L l=some bl∧rU G1 mk mark:=by
 have hEn: ∀{G1:Gh},G.le G1→ ∀i,R G1 (.v (fr.env i)<|a.tmps.getD i undef):=fun hle i=>(hE.2 i).mono hle;have hsz:=hE.1;cases rd with
 |none=>
  cases rb with
  |some b=>exact hrd.elim
  |none=>
   simp only [sL,Option.some.injEq,Prod.mk.injEq] at hl;obtain⟨rfl,rfl,rfl⟩:=hl;have hI1:=hI.aCo (.deferred<|some []) .tW rfl;have hle1:G.le (G.yH s.blks.length w.heap.size):=Gh.wQ hI.aLV;have hle2:=Gh.wQ (l:=s.blks.length+1) (b:=w.heap.size+1) (G:=G.yH s.blks.length w.heap.size) (by
    have:=hI1.aLV;simpa using this)
   have hI2:=hI1.aCo (.loop {state:= .ready,pending:=none,fn,tmps:=a.tmps,params:=ps,assign,body,defers:=w.heap.size})
    (.loop {st:= .ready,pend:=none,env:=fr.env,dq:=s.blks.length,params:=ps.toList,assign:=a_,body:=bd}) ?_
   ·refine⟨w.heap.size+1,_,_,_,run_enterLoop_outer fn a.tmps ps assign body,hle1.trans hle2,?_,?_,?_⟩
    ·simpa using hI2
    ·simp [qZ]
    ·exact .cons ⟨w.heap.size,rfl,hle2.L _ _ qZ⟩ .nil
   ·refine⟨_,rfl,trivial,trivial,?_,rfl,?_,⟨h,ha,?_⟩,⟨h,hb,?_⟩,?_,hfn⟩
    ·have h2:=hEn (hle1.trans hle2);simpa using h2
    ·simpa [hsz] using hps
    ·simpa [hsz] using hao
    ·simpa [hsz] using hbo
    ·have:=hle2.L _ _ (qZ (G:=G) (l:=s.blks.length) (b:=w.heap.size));simpa using this
 |some r=>
  cases rb with
  |none=>exact hrd.elim
  |some b=>
   simp only [sL] at hl;split at hl
   ·rename_i lp hlp;cases hl;obtain⟨o,ho,hok⟩:=hI.at hrd hlp;obtain⟨L0,rfl,hL0⟩:=hok;have hle1:G.le (G.yH s.blks.length w.heap.size):=Gh.wQ hI.aLV;have hI1:=hI.aCo (.loop {state:= .ready,pending:=none,fn,tmps:=a.tmps,params:=ps,assign,body,defers:=L0.defers})
     (.loop {st:= .ready,pend:=none,env:=fr.env,dq:=lp.dq,params:=ps.toList,assign:=a_,body:=bd}) ?_
    ·exact⟨w.heap.size,_,_,_,aB7 ho fn a.tmps ps assign body,hle1,hI1,qZ,.nil⟩
    ·refine⟨_,rfl,trivial,trivial,hEn hle1,rfl,?_,⟨h,ha,?_⟩,⟨h,hb,?_⟩,hle1.L _ _ hL0.dq,hfn⟩
     ·simpa [hsz] using hps
     ·simpa [hsz] using hao
     ·simpa [hsz] using hbo
   ·cases hl
theorem Inv.eR(hI:Inv P B G s w){l b:Nat}(hL:G.L l=some b){lp lp':xR}(hb:s.blks[l]?=some (.loop lp)){L L':Loop}(ho:w.heap[b]?=some (.loop L))(hk:aEB P G lp' L'):
  Inv P B G {s with blks:=s.blks.set l (.loop lp')} (w.putObj b<|.loop L'):=
 hI.put hL ⟨L',rfl,hk⟩ fun j x hx=>by
  have:=hI.m b j x hx;simp [World.cell?,ho] at this
theorem aKx.w9{ex:dO}{e:Exit}(h:aKx G ex e)(hn:ex= .normal):e= .normal:=by
 subst hn;cases e<;>first|rfl|exact h.elim
theorem aKx.aA2{ex:dO}{e:Exit}(h:aKx G ex e)(hn:ex≠ .normal):e≠ .normal:=by
 rintro rfl;cases ex<;>first|exact hn rfl|exact h.elim
theorem xL{K:Act→World→Prop}{Q:Exit→Act→World→Prop}{e:Exit}{a:Act}{w:World}(hn:e≠ .normal)(h:Q e a w):Exit.then K Q e a w:=by
 cases e<;>first|exact absurd rfl hn|exact h
theorem aGC{a:Act}{g:Operand}{fn:Fn}{fa fb:Array Value}(hv:a.eval g= .func fn fa fb){bl:Nat}(w:World):
  (resolve a.eval (rangeCall g bl) 0).run P w= .ok {target:= .fn fn fb,args:=fa++ #[.func (.yield bl) #[] #[]]} w:=by
 have h:=rH (P:=P) (ρ:=a.eval) (c:=rangeCall g bl) rfl hv 0 w;have h1:(rangeCall g bl).args.map a.eval= #[.func (.yield bl) #[] #[]]:=by simp [rangeCall,Act.eval]
 rw [h1] at h;exact h
theorem aHa(hP:POk P P')(hH:HOk P P' H){lf:Nat}{rd rb:Option Nat}: ∀(code:Code){c:AC}{nt:Nat}{B:Bs}{G:Gh}{fr:Fr}{s:ASt}{a:Act}{w:World}{r:CR},
  eP P h code=some c→pL nt rb.isSome c=true→evC H P' rd lf c fr s=some r→
  Inv P B G s w→kG G nt fr.env a.tmps→iY P' G→rU G fr.ds a.defers→aQg G rd rb→code.wpIn (FR P rb) 0 P (CQ P B nt G r.ex r.fr r.s) a w:=by
 intro code
 induction code with
 |skip=>
  intro c nt B G fr s a w r hk hok hev hI hE hG hD hR;simp only [eP,Option.some.injEq] at hk;subst hk;simp only [evC,Option.some.injEq] at hev;subst hev;exact wpIn_skip ⟨G,.refl _,hI,hE,hD,trivial⟩
 |label l=>
  intro c nt B G fr s a w r hk hok hev hI hE hG hD hR;simp only [eP,Option.some.injEq] at hk;subst hk;simp only [evC,Option.some.injEq] at hev;subst hev;exact wpIn_label ⟨G,.refl _,hI,hE,hD,trivial⟩
 |ret=>
  intro c nt B G fr s a w r hk hok hev hI hE hG hD hR;simp only [eP,Option.some.injEq] at hk;subst hk;simp only [evC,Option.some.injEq] at hev;subst hev;exact wpIn_ret ⟨G,.refl _,hI,hE,hD,trivial⟩
 |exit id=>
  intro c nt B G fr s a w r hk hok hev hI hE hG hD hR;simp only [eP,Option.some.injEq] at hk;subst hk;simp only [evC,Option.some.injEq] at hev;subst hev;exact wpIn_exit ⟨G,.refl _,hI,hE,hD,rfl⟩
 |goto l=>intro c nt B G fr s a w r hk;simp [eP] at hk
 |refuse y=>intro c nt B G fr s a w r hk;simp [eP] at hk
 |scope b ih=>
  intro c nt B G fr s a w r hk hok hev hI hE hG hD hR;simp only [eP,Option.map_eq_some_iff] at hk;obtain⟨cb,hb,rfl⟩:=hk;simp only [evC] at hev;simp only [pL] at hok;refine aMk (fun l a w hq=> ?_)<|ih hb hok hev hI hE hG hD hR;obtain⟨_,_,_,_,_,hX⟩:=hq;cases hx:r.ex<;>rw [hx] at hX<;>exact hX.elim
 |region id all draw=>
  intro c nt B G fr s a w r hk hok hev hI hE hG hD hR;have hk':=hk;simp only [eP] at hk';split at hk'
  ·cases hk'
  simp only [Option.map_eq_some_iff] at hk';obtain⟨ops,_,rfl⟩:=hk';have hi:RI P B P' nt [] fr s a w G B:=⟨.refl _,hI,.nil,hE,hG,hD⟩
  simp only [evC] at hev;split at hev
  ·rename_i fr' s' hr;cases hev;exact aGq hP.mixed hH hP.aAe hk hok hi hr
  ·rename_i v fr' s' hr;cases hev;exact aGq hP.mixed hH hP.aAe hk hok hi hr
  ·cases hev
 |seq x y ihx ihy=>
  intro c nt B G fr s a w r hk hok hev hI hE hG hD hR;simp only [eP] at hk;split at hk
  ·rename_i cx cy hx hy;cases hk;simp only [pL,Bool.and_eq_true] at hok;simp only [evC] at hev;cases hr1:evC H P' rd lf cx fr s with
   |none=>rw [hr1] at hev;cases hev
   |some r1=>
    rw [hr1] at hev;simp only at hev;refine wpIn_seq<|wpIn_mono (ihx hx hok.1 hr1 hI hE hG hD hR) fun e a1 w1 hq=> ?_;obtain⟨G1,hle,hI1,hE1,hD1,hX⟩:=hq;by_cases hn:r1.ex= .normal
    ·have he:=hX.w9 hn;subst he;rw [hn] at hev;exact wpIn_mono (ihy hy hok.2 hev hI1 hE1 (hG.mono hle) hD1<|hR.mono hle) fun e a w h=>h.le hle
    ·refine xL (hX.aA2 hn) ?_;have:r1=r:=by
      revert hev
      cases hq:r1.ex with
      |normal=>exact absurd hq hn
      |_=>simp
     subst this;exact⟨G1,hle,hI1,hE1,hD1,hX⟩
  ·cases hk
 |cond co x y ihx ihy=>
  intro c nt B G fr s a w r hk hok hev hI hE hG hD hR;simp only [eP] at hk;split at hk
  ·rename_i ac cx cy hc hx hy;cases hk;simp only [pL,Bool.and_eq_true] at hok;simp only [evC] at hev;have hro:=(zO hE hG).out _ _ hc;split at hev
   ·rename_i b hb;rw [hb] at hro;generalize hv:a.eval co=v at hro;cases hro;cases b with
    |true=>exact wpIn_cond_true hv (ihx hx hok.1 hev hI hE hG hD hR)
    |false=>exact wpIn_cond_false hv (ihy hy hok.2 hev hI hE hG hD hR)
   ·cases hev
  ·cases hk
 |block id b ih=>
  intro c nt B G fr s a w r hk hok hev hI hE hG hD hR;simp only [eP,Option.map_eq_some_iff] at hk;obtain⟨cb,hb,rfl⟩:=hk;simp only [pL] at hok;simp only [evC] at hev;cases hr1:evC H P' rd lf cb fr s with
  |none=>rw [hr1] at hev;cases hev
  |some r1=>
   rw [hr1] at hev;simp only at hev;refine wpIn_block<|wpIn_mono (ih hb hok hr1 hI hE hG hD hR) fun e a1 w1 hq=> ?_;obtain⟨G1,hle,hI1,hE1,hD1,hX⟩:=hq
   revert hev hX
   cases hex:r1.ex with
   |exit j=>
    simp only;intro hev hX;cases e<;>first|exact hX.elim|skip
    rename_i j';have hjj:j=j':=hX;subst hjj;cases hj:Nat.beq j id with
    |true=>
     rw [hj] at hev;cases hev;have:=Nat.eq_of_beq_eq_true hj;simp only [Exit.inBlock,this,if_true];exact⟨G1,hle,hI1,hE1,hD1,trivial⟩
    |false=>
     rw [hj] at hev;cases hev;have:j≠id:=fun q=>by subst q;simp at hj
     simp only [Exit.inBlock,this,if_false];exact⟨G1,hle,hI1,hE1,hD1,by rw [hex];rfl⟩
   |normal=>
    simp only [Option.some.injEq]
    rintro rfl hX
    cases e<;>first|exact hX.elim|skip
    exact⟨G1,hle,hI1,hE1,hD1,by rw [hex];exact hX⟩
   |ret=>
    simp only [Option.some.injEq]
    rintro rfl hX
    cases e<;>first|exact hX.elim|skip
    exact⟨G1,hle,hI1,hE1,hD1,by rw [hex];exact hX⟩
   |panic v=>
    simp only [Option.some.injEq]
    rintro rfl hX
    cases e<;>first|exact hX.elim|skip
    exact⟨G1,hle,hI1,hE1,hD1,by rw [hex];exact hX⟩
 |loop b ih=>
  intro c nt B G fr s a w r hk hok hev hI hE hG hD hR;simp only [eP,Option.map_eq_some_iff] at hk;obtain⟨cb,hb,rfl⟩:=hk;simp only [pL] at hok;simp only [evC] at hev;refine wpIn_loop_rounds lf ?_;have key: ∀(n:Nat){G1:Gh}{fr:Fr}{s:ASt}{a:Act}{w:World},G.le G1→oQ (evC H P' rd lf cb) n fr s=some r→Inv P B G1 s w→kG G1 nt fr.env a.tmps→rU G1 fr.ds a.defers→
    Code.roundsIn (FR P rb) 0 P b (CQ P B nt G r.ex r.fr r.s) n a w:=by
   intro n
   induction n with
   |zero=>intro G1 fr s a w _ hev;simp [oQ] at hev
   |succ n ihn=>
    intro G1 fr s a w hle hev hI hE hD;simp only [oQ] at hev;cases hr1:evC H P' rd lf cb fr s with
    |none=>rw [hr1] at hev;cases hev
    |some r1=>
     rw [hr1] at hev;simp only at hev;rw [roundsIn_succ];refine wpIn_mono (ih hb hok hr1 hI hE (hG.mono hle) hD<|hR.mono hle) fun e a1 w1 hq=> ?_;obtain⟨G2,hle2,hI2,hE2,hD2,hX⟩:=hq;by_cases hn:r1.ex= .normal
     ·have he:=hX.w9 hn;subst he;rw [hn] at hev;exact ihn (hle.trans hle2) hev hI2 hE2 hD2
     ·refine xL (hX.aA2 hn) ?_;have:r1=r:=by
       revert hev
       cases hq:r1.ex with
       |normal=>exact absurd hq hn
       |_=>simp
      subst this;exact⟨G2,hle.trans hle2,hI2,hE2,hD2,hX⟩
  exact key lf (.refl _) hev hI hE hD
 |rangeFunc g ps a_ bd iha ihb=>
  intro c nt B G fr s a w r hk hok hev hI hE hG hD hR;simp only [eP] at hk;split at hk
  ·rename_i cg ca cb hg ha hb;cases hk;simp only [pL,Bool.and_eq_true] at hok;simp only [evC] at hev;split at hev
   ·rename_i l mk s1 gf x y hlay hfv;split at hev
    ·
     rename_i v s2 hbody hcall;split at hev
     ·rename_i lp hlp;refine wpIn_rangeFunc fun fn hfnv=> ?_;obtain⟨bl,mark,w1,G1,hrun,hle1,hI1,hL1,hD1⟩:=aD4 hI hE hR hok.1.1 ha hok.1.2 hb hok.2 hlay fn hfnv;have hrf:=((zO hE hG).out _ _ hg).mono hle1;rw [hfv] at hrf;generalize hxv:a.eval g=xv at hrf;cases hrf with
      | @func _ _ _ fa fb hfa hfb=>
      have hargs:R G1 (.l (x++ .yield l::y) (fa++ .func (.yield bl) #[] #[]::fb)):=hfa.rM (.gN (.yield hL1) hfb);obtain⟨n,w1',hn1,hn2⟩:=hH.func gf _ _ _ _ hcall B G1 w1 _ hI1 (hG.mono hle1) hargs;simp only [aBN,Bool.and_eq_true,Option.isSome_iff_exists] at hbody;obtain⟨af,haf⟩:=hbody.2;obtain⟨gfn,gh,hgf,hgc,_,hgn⟩:=hP.fn gf af haf;obtain⟨gc,hgb,_⟩:=aAU hgc;rw [lR hgf hgb hgn] at hn1;cases hn1;refine⟨bl,mark,w1,{target:= .fn (.func gf) fb.toArray,args:=fa.toArray++ #[.func (.yield bl) #[] #[]]},w1,gf,(fa++ .func (.yield bl) #[] #[]::fb).toArray,w1,hrun,?_,(by intro f' hf';simp only [Target.leads,Option.some.injEq] at hf';subst hf';exact⟨_,hgf⟩),?_,by simp [FR,FV],aEi<|hn2.mono ?_⟩
      ·exact aGC hxv w1
      ·have:=lR hgf hgb hgn ((fa++ .func (.yield bl) #[] #[]::fb).toArray) w1;simpa [invoke] using this
      ·rintro e w2 ⟨G2,hle2,hI2,hres⟩
       cases e with
       |panicked chain=>exact hres.elim
       |outgrown=>exact hres.elim
       |returned xr=>
        have hL2:=hle2.L _ _ hL1;obtain⟨o,ho,hok2⟩:=hI2.at hL2 hlp;obtain⟨L,rfl,hLk⟩:=hok2;have hnb:L.state≠ .busy:=by
         intro hq;have:=hLk.st;rw [hq] at this
         revert hev
         cases hst:lp.st with
         |busy=>simp
         |_=>rw [hst] at this;exact this.elim
        have hI3:=hI2.eR (lp':={lp with st:= .exhausted}) (L':={L with state:= .exhausted}) hL2 hlp ho ⟨trivial,hLk.pend,hLk.env,hLk.params,hLk.pok,hLk.assign,hLk.body,hLk.dq,hLk.aMn⟩;refine⟨L.pending,_,run_endLoop ho hnb,?_⟩;have hr:r=⟨lp.pend.getD .normal,{fr with ds:=mk++fr.ds},{s2 with blks:=s2.blks.set l (.loop {lp with st:= .exhausted})}⟩:=by
         revert hev
         cases hst:lp.st with
         |busy=>simp
         |_=>simp only [Option.some.injEq];exact fun q=>q.symm
        subst hr;have hDs: ∀{a_ ds as' ds'},rU G2 a_ ds→rU G2 as' ds'→rU G2 (a_++as') (ds++ds'):=by
         intro a_ ds as' ds' h1 h2
         induction h1 with
         |nil=>exact h2
         |cons h _ ih=>exact .cons h ih
        have hD3:rU G2 (mk++fr.ds) (mark++a.defers):=hDs (hD1.mono hle2) (hD.mono<|hle1.trans hle2);have hE3:=hE.mono (hle1.trans hle2);have hp:=hLk.pend;cases hpa:lp.pend with
        |none=>
         rw [hpa] at hp hI3;cases hpl:L.pending with
         |some j=>rw [hpl] at hp;exact hp.elim
         |none=>rw [hpl] at hI3;exact⟨G2,hle1.trans hle2,hI3,hE3,hD3,trivial⟩
        |some ex=>
         rw [hpa] at hp hI3;cases hpl:L.pending with
         |none=>rw [hpl] at hp;cases ex<;>exact hp.elim
         |some j=>
          rw [hpl] at hp hI3;cases ex with
          |ret=>
           cases j<;>first|exact hp.elim|skip
           exact wpIn_ret ⟨G2,hle1.trans hle2,hI3,hE3,hD3,trivial⟩
          |exit i=>
           cases j<;>first|exact hp.elim|skip
           exact wpIn_exit ⟨G2,hle1.trans hle2,hI3,hE3,hD3,hp⟩
          |normal=>exact hp.elim
          |panic v=>exact hp.elim
     ·cases hev
    ·
     rename_i v s2 hbody hcall;cases hev;refine wpIn_rangeFunc fun fn hfnv=> ?_;obtain⟨bl,mark,w1,G1,hrun,hle1,hI1,hL1,hD1⟩:=aD4 hI hE hR hok.1.1 ha hok.1.2 hb hok.2 hlay fn hfnv;have hrf:=((zO hE hG).out _ _ hg).mono hle1;rw [hfv] at hrf;generalize hxv:a.eval g=xv at hrf;cases hrf with
     | @func _ _ _ fa fb hfa hfb=>
     have hargs:R G1 (.l (x++ .yield l::y) (fa++ .func (.yield bl) #[] #[]::fb)):=hfa.rM (.gN (.yield hL1) hfb);obtain⟨n,w1',hn1,hn2⟩:=hH.func gf _ _ _ _ hcall B G1 w1 _ hI1 (hG.mono hle1) hargs;simp only [aBN,Bool.and_eq_true,Option.isSome_iff_exists] at hbody;obtain⟨af,haf⟩:=hbody.2;obtain⟨gfn,gh,hgf,hgc,_,hgn⟩:=hP.fn gf af haf;obtain⟨gc,hgb,_⟩:=aAU hgc;rw [lR hgf hgb hgn] at hn1;cases hn1;refine⟨bl,mark,w1,{target:= .fn (.func gf) fb.toArray,args:=fa.toArray++ #[.func (.yield bl) #[] #[]]},w1,gf,(fa++ .func (.yield bl) #[] #[]::fb).toArray,w1,hrun,?_,(by intro f' hf';simp only [Target.leads,Option.some.injEq] at hf';subst hf';exact⟨_,hgf⟩),?_,by simp [FR,FV],aEi<|hn2.mono ?_⟩
     ·exact aGC hxv w1
     ·have:=lR hgf hgb hgn ((fa++ .func (.yield bl) #[] #[]::fb).toArray) w1;simpa [invoke] using this
     ·rintro e w2 ⟨G2,hle2,hI2,hres⟩
      cases e with
      |returned v=>exact hres.elim
      |outgrown=>exact hres.elim
      |panicked chain=>
       have hDs: ∀{a_ ds as' ds'},rU G2 a_ ds→rU G2 as' ds'→rU G2 (a_++as') (ds++ds'):=by
        intro a_ ds as' ds' h1 h2
        induction h1 with
        |nil=>exact h2
        |cons h _ ih=>exact .cons h ih
       exact⟨G2,hle1.trans hle2,hI2,hE.mono<|hle1.trans hle2,hDs (hD1.mono hle2)<|hD.mono<|hle1.trans hle2,hres⟩
    ·cases hev
   ·cases hev
  ·cases hk
end
def Gh.uC(n:Nat)(G:Gh):Gh:=⟨G.M,fun l=>if l<n then G.L l else none,G.H⟩
def Gh.qU(n:Nat)(G:Gh):Gh:=⟨G.M,G.L,fun t m=>if t<n then G.H t m else none⟩
def gP(n:Nat):Sh→Bool
 | .v a _=>jZ n a
 | .l a_ _=>iH n a_
 | .k a_ _=>iH n a_
 | .c a _=>jZ n a
 | .r _ a_ _ _=>iH n a_
def jJ(n:Nat):Sh→Bool
 | .v a _=>kN n a
 | .l a_ _=>hZ n a_
 | .k a_ _=>hZ n a_
 | .c a _=>kN n a
 | .r _ a_ _ _=>hZ n a_
theorem R.uC{G:Gh}{n:Nat}{sh:Sh}(r:R G sh)(h:gP n sh=true):R (G.uC n) sh:=by
 have hL: ∀{l b:Nat},Nat.blt l n=true→G.L l=some b→(G.uC n).L l=some b:=fun hl hb=>by
  simp only [Nat.blt_eq] at hl;simp [Gh.uC,hl,hb]
 have hO: ∀{o A sz m c},qD G o A sz m c→qD (G.uC n) o A sz m c:=by
  intro o A sz m c ho;cases o<;>exact ho
 induction r with
 |int h'=>exact .int h'
 |bool b=>exact .bool b
 |str s hs=>exact .str s hs
 |cZ hm ho=>exact .cZ hm (hO ho)
 |dQ hc hm _ ho ih=>exact .dQ hc hm (ih (by simpa [gP,jZ] using h)) (hO ho)
 |ms hL' hc hm=>exact .ms (hL (by simpa [gP,jZ] using h) hL') hc hm
 |agg _ ih=>exact .agg (ih (by simpa [gP,jZ] using h))
 |tuple _ ih=>exact .tuple (ih (by simpa [gP,jZ] using h))
 |eH=>exact .eH
 |ptr off hL'=>exact .ptr off (hL (by simpa [gP,jZ] using h) hL')
 |aG off _ hM ih=>exact .aG off (ih (by simpa [gP,jZ] using h)) hM
 |func _ _ ha hb=>simp only [gP,jZ,Bool.and_eq_true] at h;exact .func (ha h.1) (hb h.2)
 |dP=>exact .dP
 |yield hL'=>exact .yield (hL (by simpa [gP,jZ] using h) hL')
 |map hL'=>exact .map (hL (by simpa [gP,jZ] using h) hL')
 |eQ=>exact .eQ
 |iface _ ih=>exact .iface (ih (by simpa [gP,jZ] using h))
 |cI=>exact .cI
 |iter hL'=>exact .iter (hL (by simpa [gP,jZ] using h) hL')
 |nX x=>exact .nX x
 |tF=>exact .tF
 |gN _ _ h1 h2=>simp only [gP,iH,Bool.and_eq_true] at h;exact .gN (h1 h.1) (h2 h.2)
 |iI=>exact .iI
 |cY _ hc _ h1 h2=>simp only [gP,iH,Bool.and_eq_true] at h;exact .cY (h1 h.1) hc (h2 h.2)
 |wI _ ih=>exact .wI (ih (by simpa [gP,jZ] using h))
 |yC ha h1 _ ih=>exact .yC ha h1 (ih h)
 |aAj sz b o=>exact .aAj sz b o
 |n6 _ hl hM _ h1 h2=>simp only [gP,iH,Bool.and_eq_true] at h;exact .n6 (h1 h.1) hl hM (h2 h.2)
theorem R.qU{G:Gh}{n:Nat}{sh:Sh}(r:R G sh)(h:jJ n sh=true):R (G.qU n) sh:=by
 have hO: ∀{xs:List AV} {o A sz m c},kN n (.slice sz xs o)=true→qD G o A sz m c→qD (G.qU n) o A sz m c:=by
  intro xs o A sz m c hb ho;cases o with
  |no=>trivial
  |full=>exact ho
  |tok t=>
   simp only [kN,Bool.and_eq_true,Nat.blt_eq] at hb;obtain⟨b,h1,h2⟩:=ho;exact⟨b,h1,by simp [Gh.qU,hb.1,h2]⟩
 induction r with
 |int h'=>exact .int h'
 |bool b=>exact .bool b
 |str s hs=>exact .str s hs
 |cZ hm ho=>exact .cZ hm (hO h ho)
 |dQ hc hm _ ho ih=>
  refine .dQ hc hm (ih ?_) (hO h ho);simp only [jJ,kN,Bool.and_eq_true] at h⊢;exact h.2
 |ms hL' hc hm=>exact .ms hL' hc hm
 |agg _ ih=>exact .agg (ih (by simpa [jJ,kN] using h))
 |tuple _ ih=>exact .tuple (ih (by simpa [jJ,kN] using h))
 |eH=>exact .eH
 |ptr off hL'=>exact .ptr off hL'
 |aG off _ hM ih=>exact .aG off (ih (by simpa [jJ,kN] using h)) hM
 |func _ _ ha hb=>simp only [jJ,kN,Bool.and_eq_true] at h;exact .func (ha h.1) (hb h.2)
 |dP=>exact .dP
 |yield hL'=>exact .yield hL'
 |map hL'=>exact .map hL'
 |eQ=>exact .eQ
 |iface _ ih=>exact .iface (ih (by simpa [jJ,kN] using h))
 |cI=>exact .cI
 |iter hL'=>exact .iter hL'
 |nX x=>exact .nX x
 |tF=>exact .tF
 |gN _ _ h1 h2=>simp only [jJ,hZ,Bool.and_eq_true] at h;exact .gN (h1 h.1) (h2 h.2)
 |iI=>exact .iI
 |cY _ hc _ h1 h2=>simp only [jJ,hZ,Bool.and_eq_true] at h;exact .cY (h1 h.1) hc (h2 h.2)
 |wI _ ih=>exact .wI (ih (by simpa [jJ,kN] using h))
 |yC ha h1 _ ih=>exact .yC ha h1 (ih h)
 |aAj sz b o=>exact .aAj sz b o
 |n6 _ hl hM _ h1 h2=>simp only [jJ,hZ,Bool.and_eq_true] at h;exact .n6 (h1 h.1) hl hM (h2 h.2)
theorem R.jZ{G:Gh}{n:Nat}(hn: ∀l b,G.L l=some b→l<n){sh:Sh}(r:R G sh):gP n sh=true:=by
 induction r with
 |ms hL' hc hm=>simpa [gP,Fw.jZ] using hn _ _ hL'
 |ptr off hL'=>simpa [gP,Fw.jZ] using hn _ _ hL'
 |yield hL'=>simpa [gP,Fw.jZ] using hn _ _ hL'
 |map hL'=>simpa [gP,Fw.jZ] using hn _ _ hL'
 |iter hL'=>simpa [gP,Fw.jZ] using hn _ _ hL'
 |func _ _ ha hb=>simp only [gP,Fw.jZ,Bool.and_eq_true] at*;exact⟨ha,hb⟩
 |gN _ _ h1 h2=>simp only [gP,iH,Bool.and_eq_true] at*;exact⟨h1,h2⟩
 |cY _ hc _ h1 h2=>simp only [gP,iH,Bool.and_eq_true] at*;exact⟨h1,h2⟩
 |n6 _ hl hM _ h1 h2=>simp only [gP,iH,Bool.and_eq_true] at*;exact⟨h1,h2⟩
 |yC ha h1 _ ih=>exact ih
 |dQ hc hm _ ho ih=>simpa [gP,Fw.jZ] using ih
 |agg _ ih=>simpa [gP,Fw.jZ] using ih
 |tuple _ ih=>simpa [gP,Fw.jZ] using ih
 |aG off _ hM ih=>simpa [gP,Fw.jZ] using ih
 |iface _ ih=>simpa [gP,Fw.jZ] using ih
 |wI _ ih=>simpa [gP,Fw.jZ] using ih
 |_=>rfl
theorem R.kN{G:Gh}{n:Nat}(hn: ∀t m x,G.H t m=some x→t<n){sh:Sh}(r:R G sh):jJ n sh=true:=by
 have hO: ∀{o A sz m c},qD G o A sz m c→(match o with| .tok t=>Nat.blt t n|_=>true)=true:=by
  intro o A sz m c ho;cases o with
  |no=>rfl
  |full=>rfl
  |tok t=>obtain⟨b,_,h2⟩:=ho;simpa using hn _ _ _ h2
 induction r with
 |cZ hm ho=>simp only [jJ,Fw.kN,hZ,Bool.and_true];exact hO ho
 |dQ hc hm _ ho ih=>simp only [jJ,Fw.kN,Bool.and_eq_true] at*;exact⟨hO ho,ih⟩
 |func _ _ ha hb=>simp only [jJ,Fw.kN,Bool.and_eq_true] at*;exact⟨ha,hb⟩
 |gN _ _ h1 h2=>simp only [jJ,hZ,Bool.and_eq_true] at*;exact⟨h1,h2⟩
 |cY _ hc _ h1 h2=>simp only [jJ,hZ,Bool.and_eq_true] at*;exact⟨h1,h2⟩
 |n6 _ hl hM _ h1 h2=>simp only [jJ,hZ,Bool.and_eq_true] at*;exact⟨h1,h2⟩
 |yC ha h1 _ ih=>exact ih
 |agg _ ih=>simpa [jJ,Fw.kN] using ih
 |tuple _ ih=>simpa [jJ,Fw.kN] using ih
 |aG off _ hM ih=>simpa [jJ,Fw.kN] using ih
 |iface _ ih=>simpa [jJ,Fw.kN] using ih
 |wI _ ih=>simpa [jJ,Fw.kN] using ih
 |_=>rfl
section
variable {P : Program} {B : Bs} {G G3 : Gh} {s s3 : ASt} {w w3 : World}
theorem oO.jZ{n b:Nat}{o:Obj}{k:dG}(hn: ∀l b,G.L l=some b→l<n)(h:oO P G b o k):aFM n k:=by
 cases k with
 |cells cs wr=>obtain⟨vs,e,_,h2,_⟩:=h;exact h2.jZ hn
 |map es=>
  obtain⟨ents,clock,h1,h2⟩:=h;intro p hp;clear h1
  induction h2 with
  |nil=>cases hp
  |cons hk hv _ ih=>
   rcases List.mem_cons.1 hp with rfl|hp
   ·exact⟨hk.jZ hn,hv.jZ hn⟩
   ·exact ih hp
 |loop lp=>obtain⟨L,_,h2⟩:=h;exact⟨fun i=>(h2.env i).jZ hn,hn _ _ h2.dq⟩
 |_=>trivial
theorem oO.kN{n b:Nat}{o:Obj}{k:dG}(hn: ∀t m x,G.H t m=some x→t<n)(h:oO P G b o k):aFV n k:=by
 cases k with
 |cells cs wr=>obtain⟨vs,e,_,h2,_⟩:=h;exact h2.kN hn
 |map es=>
  obtain⟨ents,clock,h1,h2⟩:=h;intro p hp;clear h1
  induction h2 with
  |nil=>cases hp
  |cons hk hv _ ih=>
   rcases List.mem_cons.1 hp with rfl|hp
   ·exact⟨hk.kN hn,hv.kN hn⟩
   ·exact ih hp
 |loop lp=>obtain⟨L,_,h2⟩:=h;exact fun i=>(h2.env i).kN hn
 |_=>trivial
theorem oO.uC{n b:Nat}{o:Obj}{k:dG}(h:oO P G b o k)(hk:aFM n k):oO P (G.uC n) b o k:=by
 cases k with
 |cells cs wr=>obtain⟨vs,e,h1,h2,h3,h4⟩:=h;exact⟨vs,e,h1,h2.uC hk,h3,h4⟩
 |map es=>
  obtain⟨ents,clock,h1,h2⟩:=h;refine⟨ents,clock,h1,?_⟩;clear h1
  induction h2 with
  |nil=>exact .nil
  |cons hk' hv _ ih=>
   have:=hk _ (List.mem_cons_self ..);exact .cons (hk'.uC this.1) (hv.uC this.2) (ih fun p hp=>hk p (List.mem_cons_of_mem _ hp))
 |loop lp=>
  obtain⟨L,h1,h2⟩:=h;refine⟨L,h1,h2.st,h2.pend,fun i=>(h2.env i).uC (hk.1 i),h2.params,h2.pok,h2.assign,h2.body,?_,h2.aMn⟩;simp [Gh.uC,hk.2,h2.dq]
 |iter t pos=>exact h
 |tW=>exact h
 |dead=>trivial
theorem oO.qU{n b:Nat}{o:Obj}{k:dG}(h:oO P G b o k)(hk:aFV n k):oO P (G.qU n) b o k:=by
 cases k with
 |cells cs wr=>obtain⟨vs,e,h1,h2,h3,h4⟩:=h;exact⟨vs,e,h1,h2.qU hk,h3,h4⟩
 |map es=>
  obtain⟨ents,clock,h1,h2⟩:=h;refine⟨ents,clock,h1,?_⟩;clear h1
  induction h2 with
  |nil=>exact .nil
  |cons hk' hv _ ih=>
   have:=hk _ (List.mem_cons_self ..);exact .cons (hk'.qU this.1) (hv.qU this.2) (ih fun p hp=>hk p (List.mem_cons_of_mem _ hp))
 |loop lp=>
  obtain⟨L,h1,h2⟩:=h;exact⟨L,h1,h2.st,h2.pend,fun i=>(h2.env i).qU (hk i),h2.params,h2.pok,h2.assign,h2.body,h2.dq,h2.aMn⟩
 |iter t pos=>exact h
 |tW=>exact h
 |dead=>trivial
theorem Inv.uC(h:Inv P B G s w){n:Nat}(hk: ∀(l:Nat)(k:dG),l<n→s.blks[l]?=some k→aFM n k):Inv P B (G.uC n) {s with blks:=s.blks.take n} w:=by
 have hL: ∀{l b},(G.uC n).L l=some b→l<n∧G.L l=some b:=by
  intro l b hl;simp only [Gh.uC] at hl;split at hl
  ·exact⟨by assumption,hl⟩
  ·cases hl
 exact{
  os:=h.os,tape:=h.tape,output:=h.output,size:=h.size,pr:=h.pr,prM:=h.prM,m:=h.m
  l:=fun l b hl=>⟨by have:=(h.l l b (hL hl).2).1;have:=(hL hl).1;simp;omega,(h.l l b (hL hl).2).2⟩
  inj:=fun l l' b h1 h2=>h.inj _ _ _ (hL h1).2 (hL h2).2
  blk:=fun l b o k hl ho hk'=>by
   obtain⟨h1,h2⟩:=hL hl;simp only [List.getElem?_take_of_lt h1] at hk';exact(h.blk l b o k h2 ho hk').uC (hk l k h1 hk')
  tok:=fun t m ht=>by
   obtain⟨b,c,sz,k⟩:=h.tok t m ht;exact⟨b,c,sz,k.h,k.np,k.lt,k.blk,k.szp,k.nc,k.cm,k.m,fun l hl=>k.l l (hL hl).2⟩
  nP:=h.nP,hh:=h.hh
  tot:=fun l hl=>by
   have hl':l<n∧l<s.blks.length:=by simp at hl;omega
   obtain⟨b,hb⟩:=h.tot l hl'.2;exact⟨b,by simp [Gh.uC,hl'.1,hb]⟩}
theorem Inv.qU(h:Inv P B G s w){n:Nat}(hk: ∀(l:Nat)(k:dG),s.blks[l]?=some k→aFV n k):Inv P B (G.qU n) {s with toks:=s.toks.take n} w:=by
 have hH: ∀{t m x},(G.qU n).H t m=some x→t<n∧G.H t m=some x:=by
  intro t m x hx;simp only [Gh.qU] at hx;split at hx
  ·exact⟨by assumption,hx⟩
  ·cases hx
 have ht: ∀{t m:Nat},(s.toks.take n)[t]?=some m→t<n∧s.toks[t]?=some m:=by
  intro t m h1;have hlt:t<n:=by
   have:=(List.getElem?_eq_some_iff.1 h1).1;simp at this;omega
  rw [List.getElem?_take_of_lt hlt] at h1;exact⟨hlt,h1⟩
 exact{
  os:=h.os,tape:=h.tape,output:=h.output,size:=h.size,pr:=h.pr,prM:=h.prM,m:=h.m,l:=h.l,inj:=h.inj
  blk:=fun l b o k hl ho hk'=>(h.blk l b o k hl ho hk').qU (hk l k hk')
  tok:=fun t m h1=>by
   obtain⟨hlt,h2⟩:=ht h1;obtain⟨b,c,sz,k⟩:=h.tok t m h2;exact⟨b,c,sz,by simp [Gh.qU,hlt,k.h],k.np,k.lt,k.blk,k.szp,k.nc,k.cm,k.m,k.l⟩
  nP:=fun t t' m m' b c sz c' sz' h1 h2 h3 h4=>h.nP t t' m m' b c sz c' sz' (ht h1).2 (ht h2).2 (hH h3).2 (hH h4).2
  hh:=fun t m x hx=>by
   obtain⟨h1,h2⟩:=hH hx;obtain⟨m0,h3,h4⟩:=h.hh t m x h2;exact⟨m0,by simp only [List.getElem?_take_of_lt h1];exact h3,h4⟩
  tot:=h.tot}
theorem aJm(hI:Inv P B G s w)(hl:Low (aU s) s3)(hle:G.le G3)(hI3:Inv P B G3 s3 w3)(d:Bool):
  ∃G4,G.le G4∧Inv P B G4 (dS s d s3) w3∧G4.M=G3.M∧G4.H=G3.H∧ ∀sh,R G3 sh→(d=true∨ ∀n,gP n sh=true)→R G4 sh:=by
 unfold dS;split
 ·exact⟨G3,hle,hI3.aFu rfl rfl,rfl,rfl,fun _ h _=>h⟩
 ·split
  ·exact⟨G3,hle,hI3.aFu rfl rfl,rfl,rfl,fun _ h _=>h⟩
  ·rename_i hd;simp only [Bool.or_eq_false_iff] at hd;have hcut:=hI3.uC (n:=s.blks.length) fun l k hln hk=>by
    obtain⟨b,hb⟩:=hI.tot l hln;obtain⟨k0,hk0⟩: ∃k0,s.blks[l]?=some k0:=⟨_,List.getElem?_eq_getElem hln⟩
    obtain⟨o,ho,hok⟩: ∃o,w.heap[b]?=some o∧oO P G b o k0:=by
     have:=(hI.l l b hb).2.1;exact⟨_,Array.getElem?_eq_getElem this,hI.blk l b _ k0 hb (Array.getElem?_eq_getElem this) hk0⟩
    exact(hl.B _ (Nat.le_refl _) hd.1).2 l k hln hk k0 hk0 (hok.jZ fun l b h=>(hI.l l b h).1)
   refine⟨G3.uC s.blks.length,⟨hle.M,fun l b h=> ?_,hle.H⟩,hcut.aFu rfl rfl,rfl,rfl,fun sh h hb=>h.uC ?_⟩
   ·have:=(hI.l l b h).1;simp [Gh.uC,this,hle.L _ _ h]
   ·rcases hb with hb|hb
    ·rw [hd.2] at hb;cases hb
    ·exact hb _
theorem aMT(hI:Inv P B G s w)(hl:Low (aU s) s3){G4:Gh}{s4:ASt}(hle:G.le G4)(hI4:Inv P B G4 s4 w3)(hb4: ∀l,l<s.blks.length→s4.blks[l]?=s3.blks[l]?)(ht4:s4.lowT=s3.lowT){d:Bool}(hc:aDs s d s4=true):
  G.le (G4.qU s.toks.length)∧Inv P B (G4.qU s.toks.length) {s4 with toks:=s4.toks.take s.toks.length} w3:=by
 simp only [aDs,Bool.and_eq_true,Bool.not_eq_true',Bool.or_eq_false_iff] at hc;have hlen:=Nat.eq_of_beq_eq_true hc.1;refine⟨⟨hle.M,hle.L,fun t m x hx=> ?_⟩,hI4.qU fun l k hk=> ?_⟩
 ·obtain⟨m0,h1,_⟩:=hI.hh t m x hx;have:=(List.getElem?_eq_some_iff.1 h1).1;simp [Gh.qU,this,hle.H _ _ _ hx]
 ·have hln:l<s.blks.length:=by
   have:=(List.getElem?_eq_some_iff.1 hk).1;omega
  rw [hb4 l hln] at hk;obtain⟨b,hb⟩:=hI.tot l hln;obtain⟨k0,hk0⟩: ∃k0,s.blks[l]?=some k0:=⟨_,List.getElem?_eq_getElem hln⟩
  obtain⟨o,ho,hok⟩: ∃o,w.heap[b]?=some o∧oO P G b o k0:=by
   have:=(hI.l l b hb).2.1;exact⟨_,Array.getElem?_eq_getElem this,hI.blk l b _ k0 hb (Array.getElem?_eq_getElem this) hk0⟩
  rw [ht4] at hc;exact(hl.T _ (Nat.le_refl _) hc.2.1).2 _ l k hln hk k0 hk0 (hok.kN fun t m x hx=>by
   obtain⟨m0,h1,_⟩:=hI.hh t m x hx;exact(List.getElem?_eq_some_iff.1 h1).1)
theorem aOX(hI:Inv P B G s w)(hl:Low (aU s) s3){G4:Gh}{s4:ASt}(hle:G.le G4)(hI4:Inv P B G4 s4 w3)(hb4: ∀l,l<s.blks.length→s4.blks[l]?=s3.blks[l]?)(ht4:s4.lowT=s3.lowT)(d:Bool):
  ∃G5,G.le G5∧Inv P B G5 (fL s d s4) w3∧ ∀sh,R G4 sh→(d=true∨jJ s.toks.length sh=true)→R G5 sh:=by
 unfold fL;split
 ·exact⟨G4,hle,hI4.aFu rfl rfl,fun _ h _=>h⟩
 ·split
  ·rename_i hc;obtain⟨h1,h2⟩:=aMT hI hl hle hI4 hb4 ht4 hc;refine⟨_,h1,h2.aFu rfl rfl,fun sh h hb=>h.qU ?_⟩;rcases hb with hb|hb
   ·simp only [aDs,Bool.and_eq_true,Bool.not_eq_true',Bool.or_eq_false_iff] at hc;rw [hc.2.2] at hb;cases hb
   ·exact hb
  ·exact⟨G4,hle,hI4.aFu rfl rfl,fun _ h _=>h⟩
theorem aLd{v:AV}(x:Value):pA v=true∨ ∀n,gP n (.v v x)=true:=by
 cases h:pA v with
 |true=>exact .inl rfl
 |false=>exact .inr fun n=>aDK n v h
theorem aKO{v:AV}(x:Value)(n:Nat):toks v=true∨jJ n (.v v x)=true:=by
 cases h:toks v with
 |true=>exact .inl rfl
 |false=>exact .inr (aDU n v h)
theorem aDJ(hI:Inv P B G s w)(hl:Low (aU s) s3)(hle:G.le G3)(hI3:Inv P B G3 s3 w3)(d d':Bool):
  ∃G4,G.le G4∧Inv P B G4 (fL s d' (dS s d s3)) w3∧ ∀sh,R G3 sh→(d=true∨ ∀n,gP n sh=true)→(d'=true∨jJ s.toks.length sh=true)→R G4 sh:=by
 obtain⟨G4,h1,h2,_,_,h3⟩:=aJm hI hl hle hI3 d;obtain⟨_,_,a3,a4,_⟩:=Low.dS (d:=d) hl;obtain⟨G5,k1,k2,k3⟩:=aOX hI hl h1 h2 a4 a3 d';exact⟨G5,k1,k2,fun sh h hb ht=>k3 sh (h3 sh h hb) ht⟩
theorem aLF(hI:Inv P B G s w)(hl:Low (aU s) s3)(hle:G.le G3)(hI3:Inv P B G3 s3 w3){v:AV}{x:Value}(r:R G3 (.v v x)):
  ∃G4,G.le G4∧Inv P B G4 (fL s (toks v) (dS s (pA v) s3)) w3∧R G4 (.v v x):=by
 obtain⟨G4,h1,h2,h3⟩:=aDJ hI hl hle hI3 (pA v) (toks v);exact⟨G4,h1,h2,h3 _ r (aLd x) (aKO x _)⟩
theorem R.aLh{G:Gh}{sz:Nat}{xs:List AV}{o:Own}{x:Value}(r:R G (.v (.slice sz xs o) x)):R G (.v (.slice sz xs .no) x):=by
 cases r with
 |cZ hm ho=>exact .cZ hm trivial
 |dQ hc hm hr ho=>exact .dQ hc hm hr trivial
theorem R.aN0{G:Gh}{sz:Nat}{xs:List AV}{o:Own}{b off c:Nat}{x:Value}(r:R G (.v (.slice sz xs .no) x))(ho:qD G o (some ⟨b,off,none⟩) sz xs.length c)(hx:x= .slice (some ⟨b,off,none⟩) xs.length c):R G (.v (.slice sz xs o) x):=by
 cases r with
 |cZ hm _=>cases hx;exact .cZ hm ho
 |dQ hc hm hr _=>cases hx;exact .dQ hc hm hr ho
theorem _root_.Go.Fw.R.aSh{G:Gh}{sz:Nat}{xs:List AV}{x:Value}(r:R G (.v (.slice sz xs .no) x)):R G (.v (.slice (szC sz xs) xs .no) x):=by
 cases r with
 |cZ hm ho=>exact .cZ hm trivial
 |dQ hc hm hr ho=>
  cases xs with
  |nil=>exact .cZ hm trivial
  |cons y ys=>exact .dQ hc hm hr trivial
theorem aOk(hI:Inv P B G s w)(hl:Low (aU s) s3)(hle:G.le G3)(hI3:Inv P B G3 s3 w3){v v':AV}{x:Value}(r:R G3 (.v v x)){s4:ASt}(h:settle s v s3=(v',s4)):
  ∃G4,G.le G4∧Inv P B G4 s4 w3∧R G4 (.v v' x):=by
 have hel: ∀{sz:Nat}{xs:List AV}{o:Own},jX xs=true∨ ∀n,gP n (.v (.slice sz xs o) x)=true:=by
  intro sz xs o;cases q:jX xs with
  |true=>exact .inl rfl
  |false=>exact .inr fun n=>by simpa [gP,jZ] using rF n xs q
 have helT: ∀{sz:Nat}{xs:List AV}{n:Nat},lV xs=true∨jJ n (.v (.slice sz xs .no) x)=true:=by
  intro sz xs n;cases q:lV xs with
  |true=>exact .inl rfl
  |false=>exact .inr (by simpa [jJ,kN] using mO n xs q)
 have hno: ∀{sz:Nat}{xs:List AV}{t:Nat},R G3 (.v (.slice sz xs (.tok t)) x)→ ∃G4,G.le G4∧Inv P B G4 (fL s (lV xs) (dS s (jX xs) s3)) w3∧R G4 (.v (.slice (szC sz xs) xs .no) x):=by
  intro sz xs t r;obtain⟨G4,h1,h2,h3⟩:=aDJ hI hl hle hI3 (jX xs) (lV xs);exact⟨G4,h1,h2,(h3 _ r.aLh hel helT).aSh⟩
 unfold settle at h;split at h
 ·rename_i sz xs t;split at h
  ·rename_i hlt;cases h;obtain⟨G4,h1,h2,h3⟩:=aDJ hI hl hle hI3 (jX xs) (lV xs);refine⟨G4,h1,h2,h3 _ r hel ?_⟩;cases q:lV xs with
   |true=>exact .inl rfl
   |false=>
    right
    have hlt':t<s.toks.length:=by simpa using hlt
    simp [jJ,kN,hlt',mO _ xs q]
  ·rename_i hge0;split at h
   ·rename_i n hc hn;split at h
    ·rename_i hnx;cases h;have hnx:=Nat.eq_of_beq_eq_true hnx;subst hnx;obtain⟨G4,h1,h2,hM4,hH4,h3⟩:=aJm hI hl hle hI3 (jX xs);obtain⟨_,a2,a3,a4,_⟩:=Low.dS (d:=jX xs) hl;obtain⟨k1,k2⟩:=aMT hI hl h1 h2 a4 a3 hc;have r4:=h3 _ r hel;obtain⟨b,c,sz',tk⟩:=hI3.tok t xs.length hn;have htx:lV xs=false:=by
      simp only [aDs,Bool.and_eq_true,Bool.not_eq_true',Bool.or_eq_false_iff] at hc;exact hc.2.2
     have hge:s.toks.length≤t:=by simpa using hge0
     have tk4: ∃b' c' sz2,aTm G4 B.Pr w3 t xs.length b' c' sz2:=h2.tok t xs.length (by rw [a2];exact hn);obtain⟨b',c',sz2,tk4⟩:=tk4;obtain⟨e,cur,hcur,hcs⟩:=tk4.blk;have hnew:=k2.aPL (t:=s.toks.length) (n:=xs.length) (b:=b') (c:=c') (sz:=sz2) (toks':=(dS s (jX xs) s3).toks.take s.toks.length++ [xs.length])
      (by
       have:((dS s (jX xs) s3).toks.take s.toks.length).length=s.toks.length:=by
        rw [a2];have:=hl.aDq;simp [aU] at this;simp;omega
       rw [List.getElem?_append_right (by omega)];simp [this])
      (fun t' ht'=>by
       have hlen:((dS s (jX xs) s3).toks.take s.toks.length).length=s.toks.length:=by
        rw [a2];have:=hl.aDq;simp [aU] at this;simp;omega
       rcases Nat.lt_or_ge t' s.toks.length with q|q
       ·rw [List.getElem?_append_left (by omega)]
       ·rw [List.getElem?_eq_none (by simp [hlen];omega),List.getElem?_eq_none (by simp only;omega)])
      (fun n0 hn0=>by
       have hlen:((dS s (jX xs) s3).toks.take s.toks.length).length=s.toks.length:=by
        rw [a2];have:=hl.aDq;simp [aU] at this;simp;omega
       simp only at hn0;rw [List.getElem?_eq_none (by omega)] at hn0;cases hn0)
      tk4.np hcur hcs tk4.szp tk4.nc tk4.cm tk4.m tk4.l
      (fun t' n' b2 c2 sz3 hne ht' hH' q=>by
       have hlt':t'<s.toks.length:=by
        have:=(List.getElem?_eq_some_iff.1 ht').1;simp at this;omega
       simp only at ht';rw [List.getElem?_take_of_lt hlt'] at ht';have hH'':G4.H t' n'=some (b2,c2,sz3):=by simpa [Gh.qU,hlt'] using hH'
       have:=h2.nP t' t n' xs.length b2 c2 sz3 c' sz2 ht' (by rw [a2];exact hn) hH'' (by rw [q];exact tk4.h);omega)
     have hleN:(G4.qU s.toks.length).le ((G4.qU s.toks.length).aBp s.toks.length xs.length b' c' sz2):=aDW hnew.1;refine⟨_,k1.trans hleN,(hnew.2.aFu rfl (by simp [a2])),?_⟩;have r5:R (G4.qU s.toks.length) (.v (.slice sz xs .no) x):=(r4.aLh).qU (by simpa [jJ,kN] using mO _ xs htx);have r6:=r5.mono hleN;have hown: ∀{A c0},qD G4 (.tok t) A sz xs.length c0→qD ((G4.qU s.toks.length).aBp s.toks.length xs.length b' c' sz2) (.tok s.toks.length) A sz xs.length c0:=by
      rintro A c0 ⟨b2,q1,q2⟩
      have:=tk4.h.symm.trans q2;cases this;exact⟨b',q1,sJ⟩
     cases r4 with
     |cZ hm ho=>exact .cZ hm (hown ho)
     |dQ hc' hm hr ho=>exact(r6.aN0 (hown ho) rfl)
    ·cases h;exact hno r
   ·cases h;exact hno r
 ·cases h;exact aLF hI hl hle hI3 r
end
def aL2(P:Program)(l:Nat)(R:Ending→World→Prop):Exit→Act→World→Prop
 | .panic chain,a,w=>a.defers= []∧R (.panicked chain) w
 |e,a,w=>roundPost P l R e a w
theorem aCs{P:Program}{l:Nat}{f:FuncId}{tmps:Array Value}{assign body:Code}{w:World}{R:Ending→World→Prop}(hF:(FV P).fn f)
(h:assign.wpIn ((FV P).inRound l) 0 P (Exit.then (fun a₁ w₁=> ∃w₂,(Instr.beginRound l).run P w₁= .ok () w₂∧body.wpIn ((FV P).inRound l) 0 P (aL2 P l R) a₁ w₂) (fun _ _ _=>False))
   {tmps:=tmps,defers:= []} w):
  RoundIn (FV P) 0 P l f tmps assign body w R:=by
 refine⟨hF,fun c cs hr=> ?_⟩
 let b:Frame:={(default:Frame) with fn:=f,kind:= .normal,roundOf:=some l}
 have hb0:Frame.round l f tmps assign body .normal=b.atR {tmps:=tmps,defers:= []} [.code assign,.beginRound,.code body]:=by
  simp [Frame.round,Frame.atR,b]
 have hr':((FV P).inRound l).room ((c::cs).length+1+0):=hr;have hF':((FV P).inRound l).fn b.fn:=hF;obtain⟨e,a₁,w₁,hq,harr⟩:=h b [.beginRound,.code body] (c::cs) rfl hF' hr';rw [←hb0] at harr;cases e with
 |normal=>
  obtain⟨w₂,hbr,hbody⟩:=hq;have s1:StepsIn (Machine.fenced P ((FV P).inRound l)) P (lone (b.atR a₁ [.beginRound,.code body]) (c::cs) w₁) (lone (b.atR a₁ [.code body]) (c::cs) w₂):=
   .one (fenced_calm (fr:=b.atR a₁ [.beginRound,.code body]) hF' hr' rfl) (stepR_beginRound rfl hbr)
  obtain⟨e₂,a₂,w₃,hq₂,harr₂⟩:=hbody b [] (c::cs) rfl hF' hr';cases e₂ with
  |normal=>
   obtain⟨v,w₄,hend,hR⟩:=hq₂;exact⟨.returned v,w₄,hR,(StepsIn.trans harr s1).trans (StepsIn.trans harr₂ (.one (fenced_calm (fr:=b.atR a₂ []) hF' hr' rfl) (stepR_round_end rfl rfl hend)))⟩
  |ret=>
   obtain⟨v,w₄,hend,hR⟩:=hq₂;obtain⟨k₁,hs⟩:=harr₂.2 rfl;exact⟨.returned v,w₄,hR,(StepsIn.trans harr s1).trans (StepsIn.trans hs (.one (fenced_calm (fr:=b.atR a₂ (.code .ret::k₁)) hF' hr' rfl) (stepR_round_ret rfl rfl hend)))⟩
  |exit id=>
   obtain⟨v,w₄,hend,hR⟩:=hq₂;obtain⟨k₁,hk,hs⟩:=harr₂.2 rfl rfl;exact⟨.returned v,w₄,hR,(StepsIn.trans harr s1).trans (StepsIn.trans hs (.one (fenced_calm (fr:=b.atR a₂ (.code (.exit id)::k₁)) hF' hr' rfl) (stepR_round_exit rfl rfl hk hend)))⟩
  |goto t=>
   obtain⟨v,w₄,hend,hR⟩:=hq₂;obtain⟨k₁,hk,hs⟩:=harr₂.2 rfl rfl;exact⟨.returned v,w₄,hR,(StepsIn.trans harr s1).trans (StepsIn.trans hs (.one (fenced_calm (fr:=b.atR a₂ (.code (.goto t)::k₁)) hF' hr' rfl) (stepR_round_goto rfl rfl hk hend)))⟩
  |panic chain=>
   obtain⟨hd,hR⟩:=hq₂;obtain⟨todo,hs⟩:=harr₂;obtain⟨fn,hfn⟩:=hF;have hl:({b.atR a₂ todo with mode:= .panicking chain}:Frame).leaving P w₃ (.panicked chain):=⟨rfl,hd,fn,hfn⟩
   exact⟨.panicked chain,w₃,hR,(StepsIn.trans harr s1).trans (StepsIn.trans hs (.one (fenced_leaving (F:=(FV P).inRound l) (n:=0) ⟨fn,hfn⟩ hr' hl) (step_leave_panicked hl)))⟩
  |outgrown=>exact hq₂.elim
 |exit id=>exact hq.elim
 |goto t=>exact hq.elim
 |ret=>exact hq.elim
 |panic chain=>exact hq.elim
 |outgrown=>exact hq.elim
section
variable {P : Program} {B : Bs} {P' : bA} {nt : Nat} {s : ASt} {w : World} {G : Gh} {H : Handler}
theorem aB2: ∀{ps:List Nat}{vs:List AV}{xs:List Value}{env:Env}{tmps:Array Value},kG G nt env tmps→R G (.l vs xs)→ps.length=vs.length→ps.all (fun d=>Nat.blt d nt)=true→
  kG G nt (oP env ps vs) ((ps.zip xs).foldl (fun tmps (p:Nat×Value)=>tmps.setIfInBounds p.1 p.2) tmps)
 | [],vs,xs,env,tmps,hE,_,hl,_=>by
  cases vs with
  |nil=>simpa [oP] using hE
  |cons v vs=>simp at hl
 |p::ps,vs,xs,env,tmps,hE,r,hl,hp=>by
  cases vs with
  |nil=>simp at hl
  |cons v vs=>
   cases r with
   | @gN _ x _ xs r1 r2=>
    simp only [List.all_cons,Bool.and_eq_true,Nat.blt_eq] at hp;simp only [oP,List.zip_cons_cons,List.foldl_cons];exact aB2 (hE.put hp.1 r1) r2 (by simpa using hl) hp.2
theorem rU.aG1{ds:List Deferred}(h:rU G [] ds):ds= []:=by cases h;rfl
theorem aOY(hP:POk P P')(hH:HOk P P' H){lf l:Nat}{args:List AV}{r:kO}{s':ASt}(h:p7 H P' lf l args s=some (r,s'))(hI:Inv P B G s w)(hG:iY P' G){xs:List Value}(hr:R G (.l args xs)){b:Nat}(hL:G.L l=some b):
  ∃f tmps a_ bd,(Instr.yield b xs.toArray).run P w= .ok (.round b f tmps a_ bd) w∧RoundIn (FV P) 0 P b f tmps a_ bd w (xN P B G s' r):=by
 unfold p7 at h;split at h
 ·rename_i lp hlp;split at h
  ·rename_i hst hlen;split at h
   ·rename_i e1 s1 hev1;split at h
    ·rename_i s2 hs2;split at h
     ·rename_i ex e3 s3 hev3;obtain⟨o,ho,hok⟩:=hI.at hL hlp;obtain⟨L,rfl,hLk⟩:=hok;have hlen':args.length=lp.params.length:=by simpa using hlen
      have hsize:xs.toArray.size=L.params.size:=by
       have:=hLk.params;have h2:=hr.aBG;have h3:L.params.toList.length=lp.params.length:=by rw [this]
       simp at h3⊢;omega
      refine⟨_,_,_,_,run_yield ho hsize,?_⟩;obtain⟨ha,hca,hoa⟩:=hLk.assign;obtain⟨hb,hcb,hob⟩:=hLk.body;have hE0:kG G L.tmps.size (oP lp.env lp.params args) ((L.params.zip xs.toArray).foldl (fun tmps (x:Nat×Value)=>tmps.setIfInBounds x.1 x.2) L.tmps):=by
       have:=aB2 (G:=G) (nt:=L.tmps.size) (env:=lp.env) (tmps:=L.tmps) ⟨rfl,hLk.env⟩ hr hlen'.symm hLk.pok;rw [←hLk.params] at this⊢;rw [←Array.foldl_toList,Array.toList_zip];exact this
      refine aCs hLk.aMn ?_;have hw1:=aHa hP hH (rd:=some l) (rb:=some b) (h:=ha) L.assign hca hoa hev1 (a:={tmps:=(L.params.zip xs.toArray).foldl (fun tmps (x:Nat×Value)=>tmps.setIfInBounds x.1 x.2) L.tmps,defers:= []}) hI hE0 hG .nil hL;refine wpIn_mono hw1 fun e a1 w1 hq=> ?_;obtain⟨G1,hle1,hI1,hE1,hD1,hX⟩:=hq;cases e<;>first|exact hX.elim|skip
      have hd1:=hD1.aG1;show∃w₂,_;have hL1:=hle1.L _ _ hL;unfold j6 at hs2;split at hs2
      ·rename_i lp1 hlp1;split at hs2
       ·rename_i hst1;cases hs2;obtain⟨o1,ho1,hok1⟩:=hI1.at hL1 hlp1;obtain⟨L1,rfl,hLk1⟩:=hok1;have hready:L1.state= .ready:=by
         have:=hLk1.st;rw [hst1] at this;cases hq:L1.state<;>rw [hq] at this<;>first|rfl|exact this.elim
        refine⟨_,run_beginRound ho1 hready,?_⟩;have hI2:=hI1.eR (lp':={lp1 with st:= .busy}) (L':={L1 with state:= .busy}) hL1 hlp1 ho1 ⟨trivial,hLk1.pend,hLk1.env,hLk1.params,hLk1.pok,hLk1.assign,hLk1.body,hLk1.dq,hLk1.aMn⟩;have hw3:=aHa hP hH (rd:=some l) (rb:=some b) (h:=hb) L.body hcb hob hev3 (a:=a1) hI2 hE1 (hG.mono hle1) (by rw [hd1];exact .nil) hL1;refine wpIn_mono hw3 fun e2 a2 w2 hq2=> ?_;obtain⟨G3,hle3,hI3,hE3,hD3,hX3⟩:=hq2;have hL3:=hle3.L _ _ hL1;have hfin: ∀{st:LSt}{st':LoopState}{pd:Option dO}{jump:Option Code}{s4:ASt},aVy st st'→aU4 pd jump→eR s3 l (fun lp=>{lp with st:=st,pend:=pd})=some s4→(st'=if jump.isNone then .ready else .done)→
          ∃v w',(Instr.endRound b jump).run P w2= .ok v w'∧v= .bool jump.isNone∧Inv P B G3 s4 w':=by
         intro st st' pd jump s4 h1 h2 h3 h4;unfold eR at h3;split at h3
         ·rename_i lp3 hlp3;cases h3;obtain⟨o3,ho3,hok3⟩:=hI3.at hL3 hlp3;obtain⟨L3,rfl,hLk3⟩:=hok3;refine⟨_,_,run_endRound jump ho3,rfl,?_⟩;exact hI3.eR hL3 hlp3 ho3 ⟨h4▸h1,h2,hLk3.env,hLk3.params,hLk3.pok,hLk3.assign,hLk3.body,hLk3.dq,hLk3.aMn⟩
         ·cases h3
        have hle:=hle1.trans hle3;split at h
        ·cases h;cases e2<;>first|exact hX3.elim|skip
         obtain⟨x,hch,hx⟩:=hX3;exact⟨hD3.aG1,G3,hle,hI3,x,hch,hx⟩
        ·split at h
         ·rename_i s4 hs4;cases h;cases e2<;>first|exact hX3.elim|skip
          obtain⟨v,w',q1,q2,q3⟩:=hfin (st:= .ready) (st':= .ready) (pd:=none) (jump:=none) trivial trivial hs4 rfl;subst q2;exact⟨_,w',q1,G3,hle,q3,.bool true⟩
         ·cases h
        ·rename_i hnn hnp;split at h
         ·rename_i s4 hs4;cases h;cases ex with
          |normal=>exact absurd rfl hnp
          |panic v=>exact absurd rfl (hnn v)
          |ret=>
           cases e2<;>first|exact hX3.elim|skip
           obtain⟨v,w',q1,q2,q3⟩:=hfin (st:= .done) (st':= .done) (pd:=some .ret) (jump:=some .ret) trivial trivial hs4 rfl;subst q2;exact⟨_,w',q1,G3,hle,q3,.bool false⟩
          |exit i=>
           cases e2<;>first|exact hX3.elim|skip
           rename_i j;obtain⟨v,w',q1,q2,q3⟩:=hfin (st:= .done) (st':= .done) (pd:=some (.exit i)) (jump:=some (.exit j)) trivial hX3 hs4 rfl;subst q2;exact⟨_,w',q1,G3,hle,q3,.bool false⟩
         ·cases h
       ·cases hs2
      ·cases hs2
     ·cases h
    ·cases h
   ·cases h
  ·cases h
 ·cases h
theorem tK{a:Addr}: ∀{n i:Nat}{acc:Array Value}{y:Array Value}{w w':World},(loadCellsFrom a i n acc).run P w= .ok y w'→w'=w
 |0,i,acc,y,w,w',h=>by simp [loadCellsFrom] at h;exact h.2.symm
 |n+1,i,acc,y,w,w',h=>by
  simp only [loadCellsFrom,Sem.run_bind,run_load] at h;cases hc:w.cell? (a.add i) with
  |none=>
   simp only [hc] at h;cases hf:World.farLoad P w (a.add i) (Mode.plain==Mode.atomic) with
   |ok x=>simp [hf,Result.andThen] at h;exact tK h
   |error x=>simp [hf,Result.andThen] at h
  |some v=>simp [hc,Result.andThen] at h;exact tK h
theorem aMf{t:TypeId}{ag:Bool}(hag:pC P t=some ag){x y:Value}{w':World}(h:(Instr.loadAt t x).run P w= .ok y w'):(do loadVar t (←asAddr x)).run P w= .ok y w∧w'=w:=by
 obtain⟨d,hd⟩:=wX hag;cases x with
 |pointer p=>
  cases p with
  |none=>simp [Instr.loadAt,Instr.sureAddr,stuck] at h
  |some a=>
   have e1:(do loadVar t (←asAddr (.pointer (some a)))).run P w=(Instr.loadAt t (.pointer (some a))).run P w:=by
    simp [Instr.loadAt,Instr.sureAddr,asAddr]
   have e2:w'=w:=by
    simp only [Instr.loadAt,Instr.sureAddr,loadVar,Sem.run_bind,Sem.run_pure,Result.andThen,v9 hag] at h;cases ag with
    |true=>
     simp only [if_true,Sem.run_bind,lQ hd,Result.andThen,loadCells] at h;cases hq:(loadCellsFrom a 0 (P.cellsOf t) #[]).run P w with
     |ok z w2=>
      rw [hq] at h;simp at h;rw [←h.2];exact tK hq
     |halt z w2=>rw [hq] at h;simp at h
    |false=>
     simp only [Bool.false_eq_true,if_false,run_load] at h;cases hc:w.cell? a with
     |none=>
      simp only [hc] at h;cases hf:World.farLoad P w a (Mode.plain==Mode.atomic) with
      |ok x=>simp [hf] at h;exact h.2.symm
      |error x=>simp [hf] at h
     |some v=>simp [hc] at h;exact h.2.symm
   rw [e1,h];exact⟨by rw [e2],e2⟩
 |_=>simp [Instr.loadAt,Instr.sureAddr,stuck] at h
theorem aCu(hI:Inv P B G s w){env:Env}{tmps:Array Value}(hE:kG G nt env tmps): ∀{rs:List ResultVar}{a_:List ARV}{vs:List AV},uE P rs=some a_→kQ P' env s a_=some vs→
  ∃xs,(rs.mapM (fun(r:ResultVar)=>(match r with| .tmp t=>pure (tmps.getD t undef)| .cell a t=>do loadVar t (←asAddr (tmps.getD a undef)):Sem Value))).run P w= .ok xs w∧R G (.l vs xs)
 | [],a_,vs,hk,h=>by
  simp [uE] at hk;subst hk;simp [kQ] at h;subst h;exact⟨[],rfl,.tF⟩
 | .tmp t::rs,a_,vs,hk,h=>by
  simp only [uE,Option.map_eq_some_iff] at hk;obtain⟨as',h1,rfl⟩:=hk;simp only [kQ,aCS] at h;split at h
  ·rename_i v vs' hv hvs;cases h;cases hv;obtain⟨xs,q1,q2⟩:=aCu hI hE h1 hvs;refine⟨_::xs,?_,.gN (hE.2 t) q2⟩;rw [List.mapM_cons];simp only [Sem.run_bind,Sem.run_pure,Result.andThen_ok,q1]
  ·cases h
 | .cell a t::rs,a_,vs,hk,h=>by
  simp only [uE] at hk;split at hk
  ·rename_i ag as' hag h1;cases hk;simp only [kQ,aCS] at h;split at h
   ·rename_i v vs' hv hvs;cases h;obtain⟨xs,q1,q2⟩:=aCu hI hE h1 hvs;simp only [gO] at hv;obtain⟨x,w',G',hx,hq,hr⟩:=aNy hI hag (hE.2 a) hv;obtain⟨k1,k2⟩:=aMf hag hx;subst k2;have hxr:R G (.v v x):=by
     refine R.mono (G:=G') ?_ hr;exact{
      M:=fun b o y hy=>by
       have h2:=hq.new;have h3:=hq.old;rcases Nat.lt_or_ge b w'.heap.size with hb|hb
       ·rw [h3 b hb] at hy;exact hy
       ·have:=h2 b o y hb hy;have:=aM4 (a:=⟨b,o,none⟩) this;exact absurd this (Nat.not_lt.2 hb)
      L:=fun l b hl=>by rw [hq.L] at hl;exact hl
      H:=fun t n y hy=>by rw [hq.H] at hy;exact hy}
    refine⟨x::xs,?_,.gN hxr q2⟩;rw [List.mapM_cons];rw [Sem.run_bind,k1];simp only [Sem.run_bind,Sem.run_pure,Result.andThen_ok,q1]
   ·cases h
  ·cases hk
theorem aEr(hI:Inv P B G s w){fn:Func}{env:Env}{tmps:Array Value}(hE:kG G nt env tmps){a_:List ARV}{vs:List AV}(hk:uE P fn.results.toList=some a_)(h:kQ P' env s a_=some vs)
{v:AV}{s1:ASt}(hv:pT s vs=some (v,s1)): ∃x G',(results fn tmps).run P w= .ok x w∧G.le G'∧Inv P B G' s1 w∧R G' (.v v x):=by
 obtain⟨xs,h1,h2⟩:=aCu hI hE hk h;have hrun:(results fn tmps).run P w= .ok (if h:xs.toArray.size=1 then xs.toArray[0] else .tuple xs.toArray) w:=by
  unfold results;rw [Sem.run_bind,Array.mapM_eq_mapM_toList,Sem.run_map]
  erw [h1]
  rfl
 unfold pT at hv;split at hv
 ·cases hv;cases h2 with
  |gN h3 h4=>
   cases h4;exact⟨_,G,by rw [hrun];rfl,.refl _,hI,h3⟩
 ·cases h2 with
  |gN h3 h4=>
   cases h4;obtain⟨G',q1,q2,q3⟩:=aM7 hI h3 hv;exact⟨_,G',by rw [hrun];rfl,q1,q2,q3⟩
 ·rename_i hn1 hn2;split at hv
  ·rename_i ws s2 hf;cases hv;obtain⟨G',q1,q2,q3⟩:=aEW hI h2 hf;have hne: ¬xs.toArray.size=1:=by
    intro hq;have hl:=h2.aBG;simp at hq;rw [hq] at hl
    match vs,hl with
    | [v],_=>exact hn2 v rfl
   exact⟨_,G',by rw [hrun,dif_neg hne],q1,q2,.tuple q3⟩
  ·cases hv
theorem aE7{args:List AV}{xs:List Value}(r:R G (.l args xs))(hn:args.length≤nt):kG G nt (hJ args) (xs.toArray++Array.replicate (nt-xs.toArray.size) undef):=by
 have hl:=r.aBG;refine⟨by simp;omega,fun i=> ?_⟩;unfold hJ;have hget:(xs.toArray++Array.replicate (nt-xs.toArray.size) undef).getD i undef=xs.getD i undef:=by
  simp only [Array.getD_eq_getD_getElem?,List.getD_eq_getElem?_getD];rcases Nat.lt_or_ge i xs.length with h|h
  ·rw [Array.getElem?_append_left (by simpa using h)];simp
  ·rw [Array.getElem?_append_right (by simpa using h),List.getElem?_eq_none h];simp only [Array.getElem?_replicate];split<;>rfl
 rw [hget];simp only [List.getD_eq_getElem?_getD];rcases Nat.lt_or_ge i args.length with h|h
 ·obtain⟨x,h1,h2⟩:=r.aTa (List.getElem?_eq_getElem h);rw [h1,List.getElem?_eq_getElem h];exact h2
 ·rw [List.getElem?_eq_none h,List.getElem?_eq_none (by omega)];exact .aGL
end
def oN(G:Gh):RC→FrameMode→Prop
 | .ret,.returning=>True
 | .pan v,.panicking chain=> ∃x,chain= [{v:=x,recovered:=false}]∧R G (.v v x)
 | .aOa,.panicking chain=> ∃x,chain= [{v:=x,recovered:=true}]
 |_,_=>False
theorem oN.mono{G G':Gh}(hG:G.le G'){rc:RC}{u:FrameMode}(h:oN G rc u):oN G' rc u:=by
 cases rc<;>cases u<;>first|exact h|(obtain⟨x,h1,h2⟩:=h;exact⟨x,h1,h2.mono hG⟩)
theorem oN.settle{G:Gh}{rc:RC}{u:FrameMode}(h:oN G rc u):uX G (match rc with| .pan v=>DM.pan v|_=> .ret) (Go.settle u):=by
 cases rc with
 |ret=>cases u<;>first|exact h.elim|trivial
 |pan v=>
  cases u<;>first|exact h.elim|skip
  obtain⟨x,rfl,hx⟩:=h;exact⟨x,rfl,hx⟩
 |aOa=>
  cases u<;>first|exact h.elim|skip
  obtain⟨x,rfl⟩:=h
  trivial
section
variable {P : Program} {B : Bs} {P' : bA} {nt : Nat} {H : Handler} {h : Hint}
def DQ(P:Program)(B:Bs)(nt:Nat)(G:Gh)(c₀:Frame)(cs:List Frame)(ex:dO)(fr:Fr)(rc:RC)(s:ASt)(e:Exit)(a:Act)(cs':List Frame)(w:World):Prop:=
 ∃u G',G.le G'∧Inv P B G' s w∧kG G' nt fr.env a.tmps∧rU G' fr.ds a.defers∧aKx G' ex e∧cs'={c₀ with mode:=u}::cs∧oN G' rc u
theorem DQ.aVj{G:Gh}{c₀:Frame}{cs:List Frame}{ex:dO}{fr:Fr}{rc:RC}{s:ASt}{e:Exit}{a:Act}{w:World}{u:FrameMode}(hq:CQ P B nt G ex fr s e a w)(hr:oN G rc u):
  DQ P B nt G c₀ cs ex fr rc s e a ({c₀ with mode:=u}::cs) w:=by
 obtain⟨G',h1,h2,h3,h4,h5⟩:=hq;exact⟨u,G',h1,h2,h3,h4,h5,rfl,hr.mono h1⟩
theorem DQ.le{G G1:Gh}{c₀:Frame}{cs:List Frame}{ex:dO}{fr:Fr}{rc:RC}{s:ASt}{e:Exit}{a:Act}{cs':List Frame}{w:World}(hle:G.le G1)(hq:DQ P B nt G1 c₀ cs ex fr rc s e a cs' w):DQ P B nt G c₀ cs ex fr rc s e a cs' w:=by
 obtain⟨u,G',h1,h2⟩:=hq;exact⟨u,G',hle.trans h1,h2⟩
theorem aLE{G:Gh}{rc:RC}{u:FrameMode}(hr:oN G rc u)(c₀:Frame)(cs:List Frame):
  (∃v x u',rc= .pan v∧recoverD ({c₀ with mode:=u}::cs)=some (x,{c₀ with mode:=u'}::cs)∧R G (.v v x)∧oN G .aOa u')∨((∀v,rc≠ .pan v)∧recoverD ({c₀ with mode:=u}::cs)=none):=by
 cases rc with
 |ret=>cases u<;>first|exact hr.elim|exact .inr ⟨by simp,rfl⟩
 |pan v=>
  cases u<;>first|exact hr.elim|skip
  obtain⟨x,rfl,hx⟩:=hr;exact .inl ⟨v,x,.panicking [{v:=x,recovered:=true}],rfl,rfl,hx,x,rfl⟩
 |aOa=>
  cases u<;>first|exact hr.elim|skip
  obtain⟨x,rfl⟩:=hr;exact .inr ⟨by simp,rfl⟩
theorem aLG{d:Option Nat}{op:Op}(hk:cP P h d op=some .aCW): ∃c,op= .call c∧c.callee= .builtin .recover:=by
 unfold cP at hk;split at hk
 case h_30=>
  rename_i c;split at hk
  ·rename_i b hb;unfold cO at hk;split at hk
   ·exact⟨c,rfl,hb⟩
   all_goals (repeat' split at hk)
   all_goals first|(cases hk;done)|(simp only [Option.map_eq_some_iff,reduceCtorEq,and_false,exists_false] at hk;done)
  ·repeat' split at hk
   all_goals cases hk
  ·cases hk
 all_goals (try unfold lD at hk)
 all_goals (repeat' split at hk)
 all_goals first|(cases hk;done)|(simp only [Option.map_eq_some_iff,reduceCtorEq,and_false,exists_false] at hk;done)
theorem z0(hp: ∀g,dC (P'.gl g)=true){all:Array Oper}{f:Nat→AI}{c₀:Frame}{cs:List Frame}{fr':Fr}{rc':RC}{s':ASt}{G0:Gh}: ∀(l:List Nat),(∀j∈l,∃o,all[j]?=some o∧aJe P h nt none all o (f j))→
  ∀{fr:Fr}{rc:RC}{s:ASt}{a:Act}{w:World}{G:Gh}{u:FrameMode},tJ P' (l.map f) fr rc s=some (fr',rc',s')→Inv P B G s w→kG G nt fr.env a.tmps→iY P' G→rU G fr.ds a.defers→oN G rc u→G0.le G→
  wpOpsSIn (FV P) 0 P all (DQ P B nt G0 c₀ cs .normal fr' rc' s') l a ({c₀ with mode:=u}::cs) w
 | [],_,fr,rc,s,a,w,G,u,hev,hI,hE,hG,hD,hR,hle=>by
  simp only [List.map_nil,tJ,Option.some.injEq,Prod.mk.injEq] at hev;obtain⟨rfl,rfl,rfl⟩:=hev;exact⟨u,G,hle,hI,hE,hD,trivial,rfl,hR⟩
 |j::l,hl,fr,rc,s,a,w,G,u,hev,hI,hE,hG,hD,hR,hle=>by
  obtain⟨o,ho,hok⟩:=hl j (by simp);have hl': ∀j∈l,∃o,all[j]?=some o∧aJe P h nt none all o (f j):=fun j hj=>hl j (by simp [hj]);simp only [List.map_cons] at hev;simp only [wpOpsSIn,ho];generalize f j=i at hok hev;obtain⟨d,op,gd,pre⟩:=i;have hcd:=hok.c.d;simp only at hcd;subst hcd;have hd: ∀t,o.dst=some t→t<nt:=fun t ht=>hok.wr t (by simp [fK,ht]);simp only [tJ] at hev;split at hev
  ·
   have hw:=qV (fr:=fr) (b:=true) hok.c hE rfl;refine⟨oU (ρ:=a.eval) hok.c (by simp) (by simp) (by simp),?_⟩;rw [if_pos hw];have hk:=hok.c.op.resolve_left (by simp);obtain⟨c,hoc,hcal⟩:=aLG hk;have hrun:(execOp a.eval o).run P w= .ok .recover w:=by
    simp [execOp,hoc,resolve,hcal,invoke,builtin]
   rw [hrun];rcases aLE hR c₀ cs with ⟨v,x,u',rfl,hrec,hx,hR'⟩|⟨hn,hrec⟩
   ·simp only [hrec];simp only at hev;exact z0 hp l hl' hev hI (hE.aRs hd hx) hG (by rw [put_defers];exact hD) hR' hle
   ·simp only [hrec];split at hev
    ·exact absurd rfl (hn _)
    ·exact z0 hp l hl' hev hI (hE.aRs hd .cI) hG (by rw [put_defers];exact hD) hR hle
  ·split at hev
   ·rename_i v hwt hv;have hw:=qV (fr:=fr) hok.c hE hwt;refine⟨oU (ρ:=a.eval) hok.c (fun hb=>by simp only at hb;subst hb;simp [bX] at hv) (fun f xs hb=>by simp only at hb;subst hb;simp [bX] at hv) (fun st f xs hb=>by simp only at hb;subst hb;simp [bX] at hv),?_⟩;rw [if_pos hw];rcases hok.c.op with hq|hq
    ·simp only at hq;subst hq;simp [bX] at hv
    ·obtain⟨x,w',G',hrun,q,r⟩:=aPz hI (zO hE hG) (fun _=>rfl) hq hv;rw [hrun];exact z0 hp l hl' hev (q.inv hI) ((hE.mono q.le).aRs hd r) (hG.mono q.le) (by rw [put_defers];exact hD.mono q.le) (hR.mono q.le) (hle.trans q.le)
   ·cases hev
theorem aCi{K:Act→List Frame→World→Prop}{Q:Exit→Act→List Frame→World→Prop}{e:Exit}{a:Act}{cs:List Frame}{w:World}(hn:e≠ .normal)(h:Q e a cs w):Exit.thenS K Q e a cs w:=by
 cases e<;>first|exact absurd rfl hn|exact h
theorem w6{F:Fence}{n:Nat}{c:Code}{Q Q':Exit→Act→List Frame→World→Prop}{a:Act}{cs:List Frame}{w:World}(h:c.wpSIn F n P Q a cs w)(hq: ∀e a cs w,Q e a cs w→Q' e a cs w):c.wpSIn F n P Q' a cs w:=
 fun b k h1 h2 h3 h4=>let ⟨e,a',cs',w',l,q,r⟩:=h b k h1 h2 h3 h4;⟨e,a',cs',w',l,hq _ _ _ _ q,r⟩
theorem aTK(hP:POk P P')(hH:HOk P P' H){lf:Nat}{c₀:Frame}{cs:List Frame}: ∀(code:Code){c:AC}{G:Gh}{fr fr':Fr}{rc rc':RC}{s s':ASt}{ex:dO}{a:Act}{w:World}{u:FrameMode},
  eP P h code=some c→pL nt false c=true→evD H P' lf c fr rc s=some (ex,fr',rc',s')→
  Inv P B G s w→kG G nt fr.env a.tmps→iY P' G→rU G fr.ds a.defers→oN G rc u→code.wpSIn (FV P) 0 P (DQ P B nt G c₀ cs ex fr' rc' s') a ({c₀ with mode:=u}::cs) w:=by
 intro code;have plain: ∀{code:Code}{c:AC}{G:Gh}{fr fr':Fr}{rc rc':RC}{s s':ASt}{ex:dO}{a:Act}{w:World}{u:FrameMode},eP P h code=some c→pL nt false c=true→
   (match evC H P' none lf c fr s with|some r=>some (r.ex,r.fr,rc,r.s)|none=>none)=some (ex,fr',rc',s')→
   Inv P B G s w→kG G nt fr.env a.tmps→iY P' G→rU G fr.ds a.defers→oN G rc u→code.wpSIn (FV P) 0 P (DQ P B nt G c₀ cs ex fr' rc' s') a ({c₀ with mode:=u}::cs) w:=by
  intro code c G fr fr' rc rc' s s' ex a w u hk hok hev hI hE hG hD hR;split at hev
  ·rename_i r hr;cases hev;refine wpSIn_of_wpIn rfl (wpIn_mono (aHa hP hH (rd:=none) (rb:=none) code hk hok hr hI hE hG hD trivial) fun e a1 w1 hq=> ?_);exact DQ.aVj hq hR
  ·cases hev
 induction code with
 |region id all draw=>
  intro c G fr fr' rc rc' s s' ex a w u hk hok hev hI hE hG hD hR;have hk':=hk;simp only [eP] at hk';split at hk'
  ·cases hk'
  simp only [Option.map_eq_some_iff] at hk';obtain⟨ops,hops,rfl⟩:=hk';simp only [evD] at hev;split at hev
  ·split at hev
   ·rename_i hev2 _;cases hev;obtain⟨hlen,hck⟩:=aBe hops;simp only [pL,Bool.and_eq_true] at hok;have hall: ∀j,j<all.size→ ∃o ai,all[j]?=some o∧ops[j]?=some ai∧aJe P h nt none all o ai:=by
     intro j hj;obtain⟨ai,k1,k2,_⟩:=hck j all[j] (by simp [hj]);refine⟨all[j],ai,by simp [hj],k1,⟨k2,?_,fun _ _ _=>rfl,?_⟩⟩
     ·intro t ht;have:=hok.1;simp only [aGF,List.all_eq_true,Bool.and_eq_true] at this;have:=((this ai (List.mem_of_getElem? k1)).1.1) t ht;simpa using this
     ·intro hg;have:=hok.1;simp only [aGF,List.all_eq_true,Bool.and_eq_true] at this;have:=(this ai (List.mem_of_getElem? k1)).2;cases hgd:ai.gd with
      |none=>exact absurd hgd hg
      |some x=>rw [hgd] at this;exact this
    have hf: ∀j ai,ops[j]?=some ai→ops.getD j default=ai:=fun j ai hj=>by simp [List.getD_eq_getElem?_getD,hj]
    have hmap:(List.range all.size).map (fun j=>ops.getD j default)=ops:=by
     apply List.ext_getElem?;intro j;rcases Nat.lt_or_ge j all.size with hj|hj
     ·obtain⟨o,ai,_,k2,_⟩:=hall j hj;simp [hj,k2]
     ·have h1:ops.length≤j:=by rw [hlen];simpa using hj
      rw [List.getElem?_eq_none h1,List.getElem?_eq_none (by simpa using hj)]
    refine wpSIn_region (z0 (h:=h) hP.aAe (f:=fun j=>ops.getD j default) _ (fun j hj=> ?_) (by rw [hmap];exact hev2) hI hE hG hD hR (.refl _));obtain⟨o,ai,k1,k2,k3⟩:=hall j (by simpa using hj);exact⟨o,k1,by rw [hf j ai k2];exact k3⟩
   ·cases hev
  ·exact plain hk hok hev hI hE hG hD hR
 |seq x y ihx ihy=>
  intro c G fr fr' rc rc' s s' ex a w u hk hok hev hI hE hG hD hR;have hk':=hk;simp only [eP] at hk';split at hk'
  ·rename_i cx cy hx hy;cases hk';simp only [pL,Bool.and_eq_true] at hok;simp only [evD] at hev;split at hev
   ·rename_i fr1 rc1 s1 h1;refine wpSIn_seq (w6 (ihx hx hok.1 h1 hI hE hG hD hR) fun e a1 cs1 w1 hq=> ?_);obtain⟨u1,G1,hle,hI1,hE1,hD1,hX,rfl,hR1⟩:=hq;have he:=hX.w9 rfl;subst he;exact w6 (ihy hy hok.2 hev hI1 hE1 (hG.mono hle) hD1 hR1) fun e a cs w h=>h.le hle
   ·rename_i hnn;refine wpSIn_seq (w6 (ihx hx hok.1 hev hI hE hG hD hR) fun e a1 cs1 w1 hq=> ?_);have hne:ex≠ .normal:=by rintro rfl;exact hnn _ _ _ hev
    obtain⟨u1,G1,hle,hI1,hE1,hD1,hX,rfl,hR1⟩:=hq;exact aCi (hX.aA2 hne) ⟨u1,G1,hle,hI1,hE1,hD1,hX,rfl,hR1⟩
  ·cases hk'
 |cond co x y ihx ihy=>
  intro c G fr fr' rc rc' s s' ex a w u hk hok hev hI hE hG hD hR;have hk':=hk;simp only [eP] at hk';split at hk'
  ·rename_i ac cx cy hc hx hy;cases hk';simp only [pL,Bool.and_eq_true] at hok;simp only [evD] at hev;have hro:=(zO hE hG).out _ _ hc;split at hev
   ·rename_i b hb;rw [hb] at hro;generalize hv:a.eval co=v at hro;cases hro;cases b with
    |true=>exact wpSIn_cond hv (ihx hx hok.1 hev hI hE hG hD hR)
    |false=>exact wpSIn_cond hv (ihy hy hok.2 hev hI hE hG hD hR)
   ·cases hev
  ·cases hk'
 |skip=>intro c G fr fr' rc rc' s s' ex a w u hk hok hev hI hE hG hD hR;have hk':=hk;simp only [eP,Option.some.injEq] at hk';subst hk';exact plain hk hok hev hI hE hG hD hR
 |label l=>intro c G fr fr' rc rc' s s' ex a w u hk hok hev hI hE hG hD hR;have hk':=hk;simp only [eP,Option.some.injEq] at hk';subst hk';exact plain hk hok hev hI hE hG hD hR
 |ret=>intro c G fr fr' rc rc' s s' ex a w u hk hok hev hI hE hG hD hR;have hk':=hk;simp only [eP,Option.some.injEq] at hk';subst hk';exact plain hk hok hev hI hE hG hD hR
 |exit id=>intro c G fr fr' rc rc' s s' ex a w u hk hok hev hI hE hG hD hR;have hk':=hk;simp only [eP,Option.some.injEq] at hk';subst hk';exact plain hk hok hev hI hE hG hD hR
 |goto l=>intro c G fr fr' rc rc' s s' ex a w u hk;simp [eP] at hk
 |refuse y=>intro c G fr fr' rc rc' s s' ex a w u hk;simp [eP] at hk
 |scope b ih=>
  intro c G fr fr' rc rc' s s' ex a w u hk hok hev hI hE hG hD hR;have hk':=hk;simp only [eP,Option.map_eq_some_iff] at hk';obtain⟨cb,_,rfl⟩:=hk';exact plain hk hok hev hI hE hG hD hR
 |block id b ih=>
  intro c G fr fr' rc rc' s s' ex a w u hk hok hev hI hE hG hD hR;have hk':=hk;simp only [eP,Option.map_eq_some_iff] at hk';obtain⟨cb,_,rfl⟩:=hk';exact plain hk hok hev hI hE hG hD hR
 |loop b ih=>
  intro c G fr fr' rc rc' s s' ex a w u hk hok hev hI hE hG hD hR;have hk':=hk;simp only [eP,Option.map_eq_some_iff] at hk';obtain⟨cb,_,rfl⟩:=hk';exact plain hk hok hev hI hE hG hD hR
 |rangeFunc g ps a_ bd iha ihb=>
  intro c G fr fr' rc rc' s s' ex a w u hk hok hev hI hE hG hD hR;have hk':=hk;simp only [eP] at hk';split at hk'
  ·cases hk';exact plain hk hok hev hI hE hG hD hR
  ·cases hk'
theorem oN.aSD{G:Gh}{m:DM}{u:FrameMode}(h:uX G m u):oN G (aTD m) u:=by
 cases m<;>cases u<;>exact h
end
section
variable {P : Program} {B : Bs} {P' : bA} {nt : Nat} {s : ASt} {w : World} {G : Gh} {H : Handler}
theorem aBJ(hH:HOk P P' H){fn:Func}{env:Env}{tmps:Array Value}{R:Ending→World→Prop}: ∀{a_:List jI}{ds:List Deferred}{m m':DM}{s s':ASt}{G:Gh}{w:World}{u:FrameMode},rU G a_ ds→iX H a_ m s=some (m',s')→Inv P B G s w→
  kG G nt env tmps→iY P' G→uX G m u→
  (∀G' w' u',G.le G'→Inv P B G' s' w'→kG G' nt env tmps→uX G' m' u'→LeavesIn (FV P) 0 P fn tmps R [] u' w')→LeavesInM (FV P) 0 P fn tmps R ds u w
 | [],ds,m,m',s,s',G,w,u,hD,h,hI,hE,hG,hM,hK=>by
  cases hD;simp only [iX,Option.some.injEq,Prod.mk.injEq] at h;obtain⟨rfl,rfl⟩:=h;exact hK G w u (.refl _) hI hE hM
 | .mark l::a_,ds,m,m',s,s',G,w,u,hD,h,hI,hE,hG,hM,hK=>by
  cases hD with
  | @cons _ d _ ds hd hds=>
   obtain⟨b,ht,hL⟩:=hd;simp only [iX] at h;split at h
   ·rename_i hl;obtain⟨o,ho,hok⟩:=hI.at hL hl;have hok':o= .deferred (some []):=hok;subst hok';have hI2:Inv P B G {s with blks:=s.blks.set l .dead} (w.putObj b (.deferred none)):=hI.put hL trivial fun j x hx=>by
     have:=hI.m b j x hx;simp [World.cell?,ho] at this
    refine⟨by rintro rfl;cases m<;>exact hM,.inl ⟨b,_,ht,run_takeDeferred ho,?_⟩⟩;exact aBJ hH hds h hI2 hE hG hM hK
   ·cases h
 | .call f args::a_,ds,m,m',s,s',G,w,u,hD,h,hI,hE,hG,hM,hK=>by
  cases hD with
  | @cons _ d _ ds hd hds=>
   obtain⟨cap,xs,ht,ha,hr⟩:=hd;simp only [iX] at h;split at h
   ·rename_i m1 s1 hc;obtain⟨h1,h2⟩:=hH.dcall f args m s m1 s1 hc B G w _ u hI hG hr hM;have e1:(xs++cap).toArray=xs.toArray++cap.toArray:=by simp
    refine⟨by rintro rfl;cases m<;>exact hM,.inr ⟨by simp [FV],.func f,cap.toArray,f,(xs++cap).toArray,ht,?_,?_,?_⟩⟩
    ·rw [ht,ha];show(callFunc f (xs.toArray++cap.toArray)).run P w=_;rw [←e1];exact h1
    ·intro f' hf';rw [ht] at hf';simp only [Target.leads,Option.some.injEq] at hf';subst hf';exact tD h1
    ·refine h2.mono fun e u' w' hq=> ?_;obtain⟨G1,hle,hI1,⟨x,rfl⟩,hM1⟩:=hq;exact aBJ hH (hds.mono hle) h hI1 (hE.mono hle) (hG.mono hle) hM1 fun G' w'' u'' hle'=>hK G' w'' u'' (hle.trans hle')
   ·cases h
theorem aKx.mode{ex:dO}{e:Exit}{m:DM}(h:(match ex with| .normal=>some DM.ret| .ret=>some DM.ret| .panic v=>some (DM.pan v)| .exit _=>none)=some m)(hX:aKx G ex e):
  (∃u,uX G m u∧((e= .normal∨e= .ret)∧u= .returning∨ ∃chain,e= .panic chain∧u= .panicking chain)):=by
 cases ex with
 |normal=>cases h;cases e<;>first|exact hX.elim|exact⟨.returning,trivial,.inl ⟨.inl rfl,rfl⟩⟩
 |ret=>cases h;cases e<;>first|exact hX.elim|exact⟨.returning,trivial,.inl ⟨.inr rfl,rfl⟩⟩
 |exit i=>cases h
 |panic v=>cases h;cases e<;>first|exact hX.elim|exact⟨.panicking _,hX,.inr ⟨_,rfl,rfl⟩⟩
theorem aSG(hP:POk P P')(hH:HOk P P' H)(hLow:aRu H){lf:Nat}{f:Nat}{af:AF}(haf:P'.fn f=some af){args:List AV}{r:kO}{s':ASt}(h:aBI H P' lf af args s=some (r,s'))(hI:Inv P B G s w)(hG:iY P' G)
{xs:List Value}(hr:R G (.l args xs)):(callFunc f xs.toArray).run P w= .ok (.enter f xs.toArray) w∧CallsIn (FV P) 0 P f xs.toArray w (xN P B G s' r):=by
 obtain⟨fn,hh,hf,hc,hok,hn⟩:=hP.fn f af haf;have hc':=hc;unfold yJ at hc';split at hc'
 ·rename_i cb cr hcb hcr;cases hc';obtain⟨c,hb,hcc⟩:=Option.bind_eq_some_iff.1 hcb;refine⟨lR hf hb hn _ _,?_⟩;unfold aBI at h;split at h
  ·cases h
  rename_i hnt;have hnt:args.length≤fn.ntmps:=by simpa using Nat.le_of_ble_eq_true hnt
  split at h
  ·rename_i ex fr s1 hev;have hlow1:=zW hLow _ hev;split at h
   ·rename_i m hm;refine callsIn_of_wp_marks hf hb ⟨_,hf⟩ ?_;have hIc:Inv P B G (aU s) w:=hI.aFu rfl rfl;have hw:=aHa hP hH (rd:=none) (rb:=none) (h:=hh) c (a:={tmps:=xs.toArray++Array.replicate (fn.ntmps-xs.toArray.size) undef,defers:= []}) hcc hok hev hIc (aE7 hr hnt) hG .nil trivial;refine wpIn_mono hw fun e a1 w1 hq=> ?_;obtain⟨G1,hle1,hI1,hE1,hD1,hX⟩:=hq;obtain⟨u,hM,hu⟩:=hX.mode hm;have key:LeavesInM (FV P) 0 P fn a1.tmps (xN P B G s' r) a1.defers u w1:=by
     split at h
     ·rename_i v s2 hrd;cases h;have hlow2:=hlow1.trans (sW hLow hrd);refine aBJ hH hD1 hrd hI1 hE1 (hG.mono hle1) hM fun G2 w2 u2 hle2 hI2 hE2 hM2=> ?_;cases u2 with
      |run=>exact hM2.elim
      |returning=>exact hM2.elim
      |panicking chain=>
       obtain⟨x,rfl,hx⟩:=hM2;obtain⟨G4,k1,k2,k3⟩:=aLF hI hlow2 (hle1.trans hle2) hI2 hx;exact⟨G4,k1,k2,x,rfl,k3⟩
     ·rename_i s2 hrd;split at h
      ·rename_i vs hvs;split at h
       ·rename_i v s3 hrv;split at h;rename_i v' s4 hset;cases h;have hlow3:=(hlow1.trans (sW hLow hrd)).trans (aD6 hrv);refine aBJ hH hD1 hrd hI1 hE1 (hG.mono hle1) hM fun G2 w2 u2 hle2 hI2 hE2 hM2=> ?_;cases u2 with
        |run=>exact hM2.elim
        |panicking chain=>exact hM2.elim
        |returning=>
         obtain⟨x,G3,q1,q2,q3,q4⟩:=aEr hI2 hE2 hcr hvs hrv;obtain⟨G4,k1,k2,k3⟩:=aOk hI hlow3 ((hle1.trans hle2).trans q2) q3 q4 hset;exact⟨x,q1,G4,k1,k2,k3⟩
       ·cases h
      ·cases h
     ·cases h
    rcases hu with ⟨he|he,rfl⟩|⟨chain,rfl,rfl⟩
    ·subst he;exact key
    ·subst he;exact key
    ·exact key
   ·cases h
  ·cases h
 ·cases hc'
theorem aSC(hP:POk P P')(hH:HOk P P' H)(hLow:aRu H){lf:Nat}{f:Nat}{af:AF}(haf:P'.fn f=some af){args:List AV}{m m':DM}{s':ASt}(h:aDD H P' lf af args m s=some (m',s'))(hI:Inv P B G s w)(hG:iY P' G)
{xs:List Value}(hr:R G (.l args xs)){u:FrameMode}(hm:uX G m u):
  (callFunc f xs.toArray).run P w= .ok (.enter f xs.toArray) w∧CallsDIn (FV P) 0 P f xs.toArray u w fun e u' w'=> ∃G',G.le G'∧Inv P B G' s' w'∧(∃x,e= .returned x)∧uX G' m' (Go.settle u'):=by
 obtain⟨fn,hh,hf,hc,hok,hn⟩:=hP.fn f af haf;have hc':=hc;unfold yJ at hc';split at hc'
 ·rename_i cb cr hcb hcr;cases hc';obtain⟨c,hb,hcc⟩:=Option.bind_eq_some_iff.1 hcb;refine⟨lR hf hb hn _ _,?_⟩;unfold aDD at h;split at h
  ·cases h
  rename_i hnt0;have hnt:args.length≤fn.ntmps:=by simpa using Nat.le_of_ble_eq_true hnt0
  split at h
  ·rename_i ex env rc s1 hev;have hlow1:=aNm hLow _ hev;split at h
   ·rename_i hex;split at h
    ·rename_i hres;simp only at hres;clear hnt0;subst hres;refine callsDIn_of_wpSIn hf hb ⟨_,hf⟩ fun c₀ cs hc0=> ?_;have hIc:Inv P B G (aU s) w:=hI.aFu rfl rfl;have hw:=aTK (c₀:=c₀) (cs:=cs) (h:=hh) (a:={tmps:=xs.toArray++Array.replicate (fn.ntmps-xs.toArray.size) undef,defers:= []}) hP hH c hcc hok hev hIc (aE7 hr hnt) hG .nil (oN.aSD hm);have e0:({c₀ with mode:=u}:Frame)=c₀:=by subst hc0;rfl
     rw [e0] at hw;refine w6 hw fun e a1 cs1 w1 hq=> ?_;obtain⟨u1,G1,hle,hI1,hE1,hD1,hX,rfl,hR1⟩:=hq;have hd1:=hD1.aG1;obtain⟨x,G3,q1,q2,q3,_⟩:=aEr (P':=P') hI1 hE1 hcr (vs:= []) rfl (v:= .tuple []) (s1:=s1) rfl;have hfin: ∃G',G.le G'∧Inv P B G' s' w1∧(∃y,Ending.returned x= .returned y)∧uX G' m' (Go.settle u1):=by
      have hset:=hR1.settle;split at h
      ·rename_i v;cases h;simp only at hset;cases hu:Go.settle u1 with
       |run=>rw [hu] at hset;exact hset.elim
       |returning=>rw [hu] at hset;exact hset.elim
       |panicking chain=>
        rw [hu] at hset;obtain⟨y,rfl,hy⟩:=hset;obtain⟨G4,k1,k2,k3⟩:=aLF hI hlow1 (hle.trans q2) q3 (hy.mono q2);exact⟨G4,k1,k2,⟨x,rfl⟩,y,rfl,k3⟩
      ·rename_i hnp;cases h;obtain⟨G4,k1,k2,_⟩:=aDJ hI hlow1 (hle.trans q2) q3 false false;refine⟨G4,k1,k2,⟨x,rfl⟩,?_⟩;cases rc with
       |pan v=>exact absurd rfl (hnp v)
       |ret=>simp only at hset;cases hu:Go.settle u1<;>rw [hu] at hset<;>first|exact hset.elim|trivial
       |aOa=>simp only at hset;cases hu:Go.settle u1<;>rw [hu] at hset<;>first|exact hset.elim|trivial
     cases ex with
     |normal=>
      have he:=hX.w9 rfl;subst he;exact⟨hd1,u1,rfl,x,q1,hfin⟩
     |ret=>
      cases e<;>first|exact hX.elim|skip
      exact⟨hd1,u1,rfl,x,q1,hfin⟩
     |exit i=>cases hex
     |panic v=>cases hex
    ·cases h
   ·cases h
  ·cases h
 ·cases hc'
structure aHq(P:Program)(P':bA):Prop where
 low: ∀f p,P'.prim f=some p→ ∀args s r s',p args s=some (r,s')→Low s s'
 ok: ∀f p,P'.prim f=some p→ ∀args s r s',p args s=some (r,s')→ ∀B G w xs,Inv P B G s w→iY P' G→R G (.l args xs)→aQs P (callFunc f xs.toArray) w (xN P B G s' r)
theorem aKL(hP:POk P P')(hp:aHq P P'): ∀n,HOk P P' (cU P' n)
 |0=>⟨fun _ _ _ _ _ h=>by simp [cU] at h,fun _ _ _ _ _ h=>by simp [cU] at h,fun _ _ _ _ _ _ h=>by simp [cU] at h⟩
 |n+1=>by
  have ih:=aKL hP hp n;have hl:=aCn (P:=P') hp.low n;refine⟨fun f args s r s' h B G w xs hI hG hr=> ?_,fun l args s r s' h B G w xs b hI hG hr hL=> ?_,fun f args m s m' s' h B G w xs u hI hG hr hm=> ?_⟩
  ·simp only [cU] at h;split at h
   ·rename_i p hq;exact hp.ok _ _ hq _ _ _ _ h B G w xs hI hG hr
   ·split at h
    ·rename_i af haf;obtain⟨k1,k2⟩:=aSG hP ih hl haf h hI hG hr;exact⟨_,_,k1,k2⟩
    ·cases h
  ·simp only [cU] at h;exact aOY hP ih h hI hG hr hL
  ·simp only [cU] at h;split at h
   ·rename_i af haf;exact aSC hP ih hl haf h hI hG hr hm
   ·cases h
end
inductive Tab where
 |none
 |leaf (k:Nat) (a:AF)
 |node (m:Nat) (l r:Tab)
def Tab.get:Tab→Nat→Option AF
 | .none,_=>Option.none
 | .leaf k a,n=>match Nat.beq n k with|true=>some a|false=>Option.none
 | .node m l r,n=>match Nat.blt n m with|true=>l.get n|false=>r.get n
def Tab.list:Tab→List (Nat×AF)
 | .none=> []
 | .leaf k a=> [(k,a)]
 | .node _ l r=>l.list++r.list
theorem Tab.get_mem: ∀{t:Tab}{n:Nat}{a:AF},t.get n=some a→(n,a)∈t.list
 | .none,_,_,h=>by cases h
 | .leaf k b,n,a,h=>by
  simp only [Tab.get] at h;split at h
  ·rename_i hb;cases h;rw [Nat.eq_of_beq_eq_true hb];simp [Tab.list]
  ·cases h
 | .node m l r,n,a,h=>by
  simp only [Tab.get] at h;simp only [Tab.list,List.mem_append];split at h
  ·exact .inl (Tab.get_mem h)
  ·exact .inr (Tab.get_mem h)
abbrev cR(P:Program)(k:Nat)(a:AF):Prop:=
 ∃(fn:Func)(h:Hint),P.funcs[k]?=some fn∧yJ P h fn=some a∧pL fn.ntmps false a.body=true∧(fn.name== "runtime.NumGoroutine")=false
inductive aSR{α:Type}(Q:α→Prop):List α→Prop
 |nil:aSR Q []
 |cons {x:α} {xs:List α} (h:Q x) (t:aSR Q xs):aSR Q (x::xs)
theorem aT7{α:Type}{Q:α→Prop}{l:List α}(h:aSR Q l): ∀p∈l,Q p:=by
 induction h with
 |nil=>intro p hp;cases hp
 |cons h _ ih=>intro p hp;rcases List.mem_cons.1 hp with rfl|hp;exact h;exact ih p hp
def aEG:List (Nat×AV)→Nat→AV
 | [],_=> .agg []
 |(k,v)::r,n=>match Nat.beq n k with|true=>v|false=>aEG r n
def aAP(t:Tab)(gl:List (Nat×AV)):bA:={fn:=t.get,gl:=aEG gl,prim:=fun _=>none}
theorem aFi: ∀{gl:List (Nat×AV)},(gl.all fun p=>dC p.2)=true→ ∀g,dC (aEG gl g)=true
 | [],_,_=>rfl
 |(k,v)::r,h,g=>by
  simp only [List.all_cons,Bool.and_eq_true] at h;simp only [aEG];split
  ·exact h.1
  ·exact aFi h.2 g
theorem aNX{P:Program}{t:Tab}{gl:List (Nat×AV)}(ht: ∀p∈t.list,cR P p.1 p.2)(hg:(gl.all fun p=>dC p.2)=true)(hm:P.follows .mixedOrders=true):POk P (aAP t gl) where
 fn:=fun _ _ h=>ht _ (Tab.get_mem h)
 aAe:=aFi hg
 mixed:=hm
theorem aKR{P:Program}{t:Tab}{gl:List (Nat×AV)}:aHq P (aAP t gl):=⟨fun _ _ h=>(by cases h),fun _ _ h=>(by cases h)⟩
def G0(W:World):Gh:=⟨fun b o=>W.cell? ⟨b,o,none⟩,fun _=>none,fun _ _=>none⟩
def B0(W:World):Bs:=⟨fun b=>b<W.heap.size,W,(G0 W).M,fun _ h=>h⟩
theorem aWE{P:Program}(W:World):Inv P (B0 W) (G0 W) eB W where
 os:=rfl
 tape:=rfl
 output:=rfl
 size:=Nat.le_refl _
 pr:=fun _ _=>rfl
 prM:=fun _ _ _=>rfl
 m:=fun _ _ _ h=>h
 l:=fun _ _ h=>by cases h
 inj:=fun _ _ _ h=>by cases h
 blk:=fun _ _ _ _ h=>by cases h
 tok:=fun t n h=>by simp [eB] at h
 nP:=fun _ _ _ _ _ _ _ _ _ h=>by simp [eB] at h
 hh:=fun _ _ _ h=>by cases h
 tot:=fun _ h=>absurd h (Nat.not_lt_zero _)
theorem aPE{P:Program}{P':bA}(hP:POk P P')(hp:aHq P P'){n f:Nat}{af:AF}(haf:P'.fn f=some af){args:List AV}{v:AV}{s':ASt}(h:(cU P' n).call (.func f) args eB=some (.ret v,s'))(W:World){xs:List Value}
(hr:R (G0 W) (.l args xs))(hg:iY P' (G0 W)):Calls P f xs.toArray W fun e W'=> ∃x G',e= .returned x∧R G' (.v v x)∧RowKit.Below W.heap.size W W':=by
 obtain⟨nx,w1,h1,h2⟩:=(aKL hP hp n).func f _ _ _ _ h (B0 W) (G0 W) W xs (aWE W) hg hr;obtain⟨fn,hh,hf,hc,_,hn⟩:=hP.fn f af haf;obtain⟨c,hb,_⟩:=aAU hc;rw [lR hf hb hn] at h1;cases h1;refine(h2.calls aRY).mono fun e W' hq=> ?_;obtain⟨G',hle,hI,hres⟩:=hq;cases e with
 |returned x=>exact⟨x,G',rfl,hres,hI.os,hI.tape,hI.output,hI.size,fun k hk=>hI.pr k hk⟩
 |panicked ch=>exact hres.elim
 |outgrown=>exact hres.elim
def mkV(P:Program)(e:TypeId)(cs:List AV):AV:=match pC P e with|some false=>cs.headD fW|_=> .agg cs
def xX(P:Program):Nat→List Field→Option Nat
 |off,[]=>some off
 |off,f::fs=>match Nat.beq f.offset off with|true=>xX P (off+P.cellsOf f.type) fs|false=>none
def aKf(P:Program)(ts:List TypeId)(t:TypeId):Bool:=
 match P.underlying t with
 |some .bool|some .string|some (.int _)=>true
 |some (.pointer e)|some (.slice e)=>ts.contains e&&Nat.blt 0 (P.cellsOf e)
 |some (.struct fs)=>xX P 0 fs.toList==some (P.cellsOf t)&&fs.toList.all fun f=>ts.contains f.type
 |some (.array n e)=>ts.contains e&&n*P.cellsOf e==P.cellsOf t
 |_=>false
inductive TyC(P:Program):TypeId→List AV→Prop
 |bool {t:TypeId} (b:Bool) (h:P.underlying t=some .bool):TyC P t [.bool b]
 |int {t:TypeId} {k:IntKind} {n:Int} (h:P.underlying t=some (.int k)) (hn:k.wrap n=n):TyC P t [.int k n]
 |str {t:TypeId} (s:List UInt8) (h:P.underlying t=some .string) (hs:s.length≤maxLen):TyC P t [.str s]
 |aOu {t e:TypeId} (h:P.underlying t=some (.pointer e)):TyC P t [.eH]
 |ptr {t e:TypeId} {cs:List AV} (h:P.underlying t=some (.pointer e)) (hc:TyC P e cs):TyC P t [.aG (mkV P e cs) 0]
 |slice {t e:TypeId} {css:List (List AV)} (h:P.underlying t=some (.slice e)) (hl:css.length≤maxLen) (hc: ∀cs∈css,TyC P e cs):TyC P t [.slice (szC (P.cellsOf e) (css.map (mkV P e))) (css.map (mkV P e)) .no]
 |struct {t:TypeId} {fs:Array Field} {css:List (List AV)} (h:P.underlying t=some (.struct fs)) (hl:css.length=fs.size) (hc: ∀(i:Nat)(f:Field)(cs:List AV),fs[i]?=some f→css[i]?=some cs→TyC P f.type cs):TyC P t css.flatten
 |array {t e:TypeId} {n:Nat} {css:List (List AV)} (h:P.underlying t=some (.array n e)) (hl:css.length=n) (hc: ∀cs∈css,TyC P e cs):TyC P t css.flatten
mutual
def iE {H:Type} (P:Program) (t:TypeId):DataW H→Option (List AV)
 | .lit l=>match l with| .bool b=>some [.bool b]| .int k n=>some [.int k n]| .string bs=>some [.str bs]|_=>none
 | .nil=>match P.underlying t with|some (.pointer _)=>some [.eH]|some (.slice e)=>some [.slice 0 [] .no]|_=>none
 | .ptr d=>match P.underlying t with|some (.pointer e)=>(match iE P e d with|some cs=>some [.aG (mkV P e cs) 0]|none=>none)|_=>none
 | .slice elems _=>match P.underlying t with|some (.slice e)=>(match rK P e elems with|some css=>some [.slice (szC (P.cellsOf e) (css.map (mkV P e))) (css.map (mkV P e)) .no]|none=>none)|_=>none
 | .agg parts=>
  match P.underlying t with
  |some (.struct fs)=>(match oZ P (fs.toList.map (·.type)) parts with|some css=>some css.flatten|none=>none)
  |some (.array _ e)=>(match rK P e parts with|some css=>some css.flatten|none=>none)
  |_=>none
 | .iface _ _=>none
 | .map _=>none
 | .held _=>none
def rK {H:Type} (P:Program) (e:TypeId):List (DataW H)→Option (List (List AV))
 | []=>some []
 |d::r=>match iE P e d,rK P e r with|some x,some xs=>some (x::xs)|_,_=>none
def oZ {H:Type} (P:Program):List TypeId→List (DataW H)→Option (List (List AV))
 | [],[]=>some []
 |t::ts,d::r=>match iE P t d,oZ P ts r with|some x,some xs=>some (x::xs)|_,_=>none
 |_,_=>none
end
section
variable {P : Program} {H : Type} {enc : TypeId × Value → H} {w : World} {sp : Nat → Bool} {held : Bool}
theorem TyC.lone{t:TypeId}{cs:List AV}(h:TyC P t cs)(ha:pC P t=some false): ∃a,cs= [a]∧tG a=false:=by
 cases h with
 |bool b h=>exact⟨_,rfl,rfl⟩
 |int h hn=>exact⟨_,rfl,rfl⟩
 |str s h hs=>exact⟨_,rfl,rfl⟩
 |aOu h=>exact⟨_,rfl,rfl⟩
 |ptr h hc=>exact⟨_,rfl,rfl⟩
 |slice h hl hc=>exact⟨_,rfl,rfl⟩
 |struct h hl hc=>rw [pC,h] at ha;cases ha
 |array h hl hc=>rw [pC,h] at ha;cases ha
theorem TyC.c{G:Gh}{t:TypeId}{cs:List AV}{vs:List Value}(h:TyC P t cs)(r:R G (.k cs vs)):R G (.c (mkV P t cs) vs):=by
 unfold mkV;cases ha:pC P t with
 |none=>exact .wI r
 |some b=>
  cases b with
  |true=>exact .wI r
  |false=>
   obtain⟨a,rfl,h1⟩:=h.lone ha;cases r with
   |cY r1 h2 r3=>cases r3;exact .yC h1 h2 r1
theorem aCk{a:Addr}{n:Nat}{cs:List Value}(h:w.cells? 0 a n=some cs):cs.length=n∧ ∀j y,cs[j]?=some y→w.cell? (a.add j)=some y:=by
 unfold World.cells? at h;rw [if_pos (Nat.zero_le _)] at h;have hl:cs.length=n:=by simpa using mapM_some_length h
 refine⟨hl,fun j y hj=> ?_⟩;have hjn:j<n:=by
  have:=(List.getElem?_eq_some_iff.1 hj).1;omega
 have:=mapM_some_get h j j (by simp [hjn]);rw [this,hj]
theorem aE4{k:IntKind}{n:Int}(h:(Lit.int k n).wf=true):k.wrap n=n:=by
 simp only [Lit.wf,Bool.and_eq_true,decide_eq_true_eq] at h;unfold IntKind.wrap;cases k<;>simp [IntKind.min,IntKind.max,IntKind.signed,IntKind.bits] at h⊢ <;>(try split)<;>omega
theorem aQV{G:Gh}{sz b:Nat}{e:TypeId}: ∀{css:List (List AV)}{vss:List (List Value)}{o:Nat},css.length=vss.length→
  (∀(i:Nat)(a_:List AV)(vs:List Value),css[i]?=some a_→vss[i]?=some vs→TyC P e a_∧R G (.k a_ vs)∧vs.length=sz∧ ∀j y,vs[j]?=some y→G.M b (o+i*sz+j)=some y)→R G (.r sz (css.map (mkV P e)) b o)
 | [],vss,o,_,_=> .aAj sz b o
 |a_::css,[],o,hl,_=>by simp at hl
 |a_::css,vs::vss,o,hl,h=>by
  obtain⟨h1,h2,h3,h4⟩:=h 0 a_ vs rfl rfl;refine .n6 (h1.c h2) h3 (by simpa using h4) (aQV (by simpa using hl) fun i as' vs' ha hv=> ?_);obtain⟨k1,k2,k3,k4⟩:=h (i+1) as' vs' (by simpa using ha) (by simpa using hv);refine⟨k1,k2,k3,fun j y hy=> ?_⟩;have:=k4 j y hy;rw [show o+sz+i*sz+j=o+(i+1)*sz+j from by rw [Nat.add_mul];omega];exact this
theorem contains_of{ts:List TypeId}{t:TypeId}(h:ts.contains t=true):t∈ts:=by simpa using h
theorem aC0{G:Gh}: ∀{fs:List Field}{off m:Nat}{css:List (List AV)}{cs:List Value},xX P off fs=some m→cs.length=m→css.length=fs.length→
  (∀(i:Nat)(f:Field)(a_:List AV),fs[i]?=some f→css[i]?=some a_→R G (.k a_ ((cs.drop f.offset).take (P.cellsOf f.type))))→R G (.k css.flatten (cs.drop off))∧off≤m
 | [],off,m,css,cs,h,hl,hcl,_=>by
  simp only [xX,Option.some.injEq] at h;subst h;have:css= []:=List.length_eq_zero_iff.1 hcl;subst this;rw [List.drop_eq_nil_of_le (by omega)];exact⟨.iI,Nat.le_refl _⟩
 |f::fs,off,m,css,cs,h,hl,hcl,hk=>by
  simp only [xX] at h;split at h
  ·rename_i hb;have hoff:=Nat.eq_of_beq_eq_true hb;cases css with
   |nil=>simp at hcl
   |cons a_ css=>
    obtain⟨h1,h2⟩:=aC0 (cs:=cs) h hl (by simpa using hcl) fun i g as' hg ha=>hk (i+1) g as' (by simpa using hg) (by simpa using ha);have h0:=hk 0 f a_ rfl rfl;rw [hoff] at h0;refine⟨?_,by omega⟩;rw [List.flatten_cons];have e1:cs.drop off=(cs.drop off).take (P.cellsOf f.type)++cs.drop (off+P.cellsOf f.type):=by
     rw [←List.drop_drop,List.take_append_drop]
    rw [e1];exact h0.vH h1
  ·cases h
theorem aGK{α β:Type}{n:Nat}{f:Nat→α→β→Prop}: ∀{xs:List α},xs.length=n→(∀i x,xs[i]?=some x→ ∃y,f i x y)→ ∃ys:List β,ys.length=n∧ ∀i x y,xs[i]?=some x→ys[i]?=some y→f i x y:=by
 induction n with
 |zero=>intro xs hl _;exact⟨[],rfl,fun i x y _ h=>by simp at h⟩
 |succ n ih=>
  intro xs hl h;have hne:n<xs.length:=by omega
  obtain⟨ys,h1,h2⟩:=ih (xs:=xs.take n) (by simp;omega) fun i x hx=>by
   have:i<n:=by
    have:=(List.getElem?_eq_some_iff.1 hx).1;simp at this;omega
   rw [List.getElem?_take_of_lt this] at hx;exact h i x hx
  obtain⟨y,hy⟩:=h n xs[n] (List.getElem?_eq_getElem hne);refine⟨ys++ [y],by simp [h1],fun i x z hx hz=> ?_⟩;rcases Nat.lt_or_ge i n with q|q
  ·rw [List.getElem?_append_left (by omega)] at hz;exact h2 i x z (by rw [List.getElem?_take_of_lt q];exact hx) hz
  ·have:i=n:=by
    have:=(List.getElem?_eq_some_iff.1 hz).1;simp at this;omega
   subst this;rw [List.getElem?_append_right (by omega)] at hz;simp [h1] at hz;subst hz;rw [List.getElem?_eq_getElem hne] at hx;cases hx;exact hy
theorem zC{e:TypeId}: ∀{ds:List (DataW H)}{css:List (List AV)},css.length=ds.length→(∀(i:Nat)(d:DataW H)(cs:List AV),ds[i]?=some d→css[i]?=some cs→iE P e d=some cs)→rK P e ds=some css
 | [],css,hl,_=>by
  have:css= []:=List.length_eq_zero_iff.1 hl;subst this;rfl
 |d::ds,[],hl,_=>by simp at hl
 |d::ds,cs::css,hl,h=>by
  simp only [rK];rw [h 0 d cs rfl rfl,zC (by simpa using hl) fun i d' cs' hd hc=>h (i+1) d' cs' (by simpa using hd) (by simpa using hc)]
theorem aBY: ∀{ts:List TypeId}{ds:List (DataW H)}{css:List (List AV)},ts.length=ds.length→css.length=ds.length→(∀(i:Nat)(t:TypeId)(d:DataW H)(cs:List AV),ts[i]?=some t→ds[i]?=some d→css[i]?=some cs→iE P t d=some cs)→oZ P ts ds=some css
 | [],[],css,_,hl,_=>by
  have:css= []:=List.length_eq_zero_iff.1 hl;subst this;rfl
 | [],d::ds,_,ht,_,_=>by simp at ht
 |t::ts,[],_,ht,_,_=>by simp at ht
 |t::ts,d::ds,[],_,hl,_=>by simp at hl
 |t::ts,d::ds,cs::css,ht,hl,h=>by
  simp only [oZ];rw [h 0 t d cs rfl rfl rfl,aBY (by simpa using ht) (by simpa using hl) fun i t' d' cs' h0 hd hc=>h (i+1) t' d' cs' (by simpa using h0) (by simpa using hd) (by simpa using hc)]
theorem aEL{G:Gh}{sz:Nat}: ∀{css:List (List AV)}{cs:List Value}(off:Nat),off+css.length*sz=cs.length→
  (∀i a_,css[i]?=some a_→R G (.k a_ ((cs.drop (off+i*sz)).take sz)))→R G (.k css.flatten (cs.drop off))
 | [],cs,off,hl,_=>by
  rw [List.drop_eq_nil_of_le (by simp at hl;omega)];exact .iI
 |a_::css,cs,off,hl,h=>by
  have hl':off+sz+css.length*sz=cs.length:=by
   simp only [List.length_cons,Nat.add_mul] at hl;omega
  have h1:=aEL (css:=css) (cs:=cs) (off+sz) hl' fun i as' ha=>by
   have:=h (i+1) as' (by simpa using ha);rw [show off+(i+1)*sz=off+sz+i*sz from by rw [Nat.add_mul];omega] at this;exact this
  have h0:=h 0 a_ rfl;simp only [Nat.zero_mul,Nat.add_zero] at h0;have e1:cs.drop off=(cs.drop off).take sz++cs.drop (off+sz):=by rw [←List.drop_drop,List.take_append_drop]
  rw [List.flatten_cons,e1];exact h0.vH h1
theorem aGs{a:Addr}{v:Value}(h:w.cell? a=some v):a.spot=none:=by
 unfold World.cell? at h;split at h
 ·split at h
  ·cases h
  ·rename_i hq;simpa using hq
 ·cases h
theorem add_eq{a:Addr}{n:Nat}(h:a.spot=none):a.add n=⟨a.block,a.off+n,none⟩:=by
 unfold Addr.add;split
 ·rename_i q;subst q;cases a;simp at h;simp [h]
 ·rfl
theorem aMQ{ts:List TypeId}(hts:ts.all (aKf P ts)=true): ∀(fuel:Nat){t:TypeId}{cs:List Value}{x:DataW H×List MemPlace},t∈ts→DataW.trod enc P w 0 sp held fuel t cs=some x→
  ∃a_,iE P t x.1=some a_∧TyC P t a_∧R (G0 w) (.k a_ cs):=by
 intro fuel
 induction fuel with
 |zero=>intro t cs x _ h;simp [DataW.trod] at h
 |succ fuel ih=>
  intro t cs x hmem h;have hok:=List.all_eq_true.1 hts t hmem;unfold aKf at hok;cases hu:P.underlying t with
  |none=>rw [hu] at hok;cases hok
  |some u=>
   rw [hu] at hok;cases u with
   |bool=>
    obtain⟨b,rfl,rfl⟩:=DataW.trod_bool hu h;exact⟨_,rfl,.bool b hu,.cY (.bool b) rfl .iI⟩
   |int k=>
    obtain⟨n,rfl,rfl,hw⟩:=DataW.trod_int hu h;exact⟨_,rfl,.int hu (aE4 hw),.cY (.int (aE4 hw)) rfl .iI⟩
   |string=>
    obtain⟨s,rfl,rfl,hs⟩:=DataW.trod_string hu h;exact⟨_,rfl,.str _ hu (by simpa using hs),.cY (.str s hs) rfl .iI⟩
   |pointer e=>
    simp only [Bool.and_eq_true] at hok;rcases DataW.trod_pointer hu h with ⟨rfl,rfl⟩|⟨a,cs',y,n,hn,rfl,rfl,hc,hy⟩
    ·exact⟨[.eH],by simp [iE,hu],.aOu hu,.cY .eH rfl .iI⟩
    ·cases hn;obtain⟨a_,h1,h2,h3⟩:=ih (contains_of hok.1) hy;obtain⟨hl,hcell⟩:=aCk hc;refine⟨[.aG (mkV P e a_) 0],by simp [iE,hu,h1],.ptr hu h2,.cY ?_ rfl .iI⟩;have hpos:0<P.cellsOf e:=by simpa using hok.2
     have hspot:a.spot=none:=by
      obtain⟨v,hv⟩: ∃v,cs'[0]?=some v:=⟨_,List.getElem?_eq_getElem (by omega)⟩
      exact aGs (by simpa [Addr.add] using hcell 0 v hv)
     have hcell': ∀j y,cs'[j]?=some y→(G0 w).M a.block (a.off+j)=some y:=fun j y hj=>by
      have:=hcell j y hj;rw [add_eq hspot] at this;exact this
     have:=R.aG (G:=G0 w) (b:=a.block) (o:=a.off) 0 (h2.c h3) hcell';have e1:(⟨a.block,a.off+0,none⟩:Addr)=a:=by cases a;simp at hspot;simp [hspot]
     rw [e1] at this;exact this
   |slice e=>
    simp only [Bool.and_eq_true] at hok;have hpos:0<P.cellsOf e:=by simpa using hok.2
    rcases DataW.trod_slice hu h with ⟨rfl,rfl⟩|⟨a,len,cap,elems,rest,n,hn,rfl,rfl,_,hlc,hcm,hel,hget,_,_⟩
    ·exact⟨[.slice 0 [] .no],by simp [iE,hu],.slice (css:= []) hu (Nat.zero_le _) (by simp),.cY (.cZ (Nat.zero_le _) trivial) rfl .iI⟩
    ·cases hn;have hone: ∀i x,elems[i]?=some x→ ∃p:List AV×List Value,iE P e x.1=some p.1∧TyC P e p.1∧R (G0 w) (.k p.1 p.2)∧w.cells? 0 (a.add (i*P.cellsOf e)) (P.cellsOf e)=some p.2:=by
      intro i x hx;have hi:i<len:=by
       have:=(List.getElem?_eq_some_iff.1 hx).1;omega
      have:=hget i hi;rw [hx,Option.bind_eq_some_iff] at this;obtain⟨vs,h1,h2⟩:=this;obtain⟨a_,k1,k2,k3⟩:=ih (contains_of hok.1) h2;exact⟨(a_,vs),k1,k2,k3,h1⟩
     obtain⟨ps,hpl,hps⟩:=aGK hel hone;have hcss:(ps.map (·.1)).length=elems.length:=by simp [hpl,hel]
     refine⟨[.slice (szC (P.cellsOf e) ((ps.map (·.1)).map (mkV P e))) ((ps.map (·.1)).map (mkV P e)) .no],?_,.slice hu ?_ ?_,?_⟩
     ·simp only [iE,hu];rw [zC (css:=ps.map (·.1)) (by simp [hpl,hel]) fun i d cs hd hc=> ?_];simp only [List.getElem?_map,Option.map_eq_some_iff] at hd hc;obtain⟨x,hx,rfl⟩:=hd;obtain⟨p,hp,rfl⟩:=hc;exact(hps i x p hx hp).1
     ·simp [hpl];omega
     ·intro cs hcs;obtain⟨p,hp,rfl⟩:=List.mem_map.1 hcs;obtain⟨i,hi⟩:=List.getElem?_of_mem hp;obtain⟨x,hx⟩: ∃x,elems[i]?=some x:=⟨_,List.getElem?_eq_getElem (by have:=(List.getElem?_eq_some_iff.1 hi).1;omega)⟩
      exact(hps i x p hx hi).2.1
     ·refine .cY ?_ rfl .iI;have hlen:((ps.map (·.1)).map (mkV P e)).length=len:=by simp [hpl]
      rcases Nat.eq_zero_or_pos len with h0|hposl
      ·subst h0;have:ps= []:=List.length_eq_zero_iff.1 hpl;subst this;exact .cZ hcm trivial
      ·have hfirst:a.spot=none:=by
        obtain⟨x,hx⟩: ∃x,elems[0]?=some x:=⟨_,List.getElem?_eq_getElem (by omega)⟩
        obtain⟨p,hp⟩: ∃p,ps[0]?=some p:=⟨_,List.getElem?_eq_getElem (by omega)⟩
        obtain⟨hl,hcell⟩:=aCk (hps 0 x p hx hp).2.2.2;obtain⟨v,hv⟩: ∃v,p.2[0]?=some v:=⟨_,List.getElem?_eq_getElem (by omega)⟩
        exact aGs (by simpa [Addr.add] using hcell 0 v hv)
       have hr:R (G0 w) (.r (P.cellsOf e) ((ps.map (·.1)).map (mkV P e)) a.block a.off):=by
        refine aQV (vss:=ps.map (·.2)) (by simp) fun i a_ vs ha hv=> ?_;simp only [List.getElem?_map,Option.map_eq_some_iff] at ha hv;obtain⟨p,hp,rfl⟩:=ha;obtain⟨p',hp',rfl⟩:=hv;rw [hp] at hp';cases hp';obtain⟨x,hx⟩: ∃x,elems[i]?=some x:=⟨_,List.getElem?_eq_getElem (by have:=(List.getElem?_eq_some_iff.1 hp).1;omega)⟩
        obtain⟨k1,k2,k3,k4⟩:=hps i x p hx hp;obtain⟨hl,hcell⟩:=aCk k4;refine⟨k2,k3,hl,fun j y hy=> ?_⟩;have:=hcell j y hy;rw [add_eq hfirst,add_eq rfl] at this;exact this
       have ea:a=⟨a.block,a.off,none⟩:=by cases a;simp at hfirst;simp [hfirst]
       rw [ea];have:=R.dQ (G:=G0 w) (sz:=P.cellsOf e) (xs:=(ps.map (·.1)).map (mkV P e)) (o:= .no) (b:=a.block) (off:=a.off) (c:=cap) (by rw [hlen];exact hlc) hcm hr trivial;rw [hlen] at this;have hne:szC (P.cellsOf e) ((ps.map (·.1)).map (mkV P e))=P.cellsOf e:=by
        cases hq:(ps.map (·.1)).map (mkV P e) with
        |nil=>rw [hq] at hlen;simp at hlen;omega
        |cons y ys=>rfl
       rw [hne];exact this
   |struct fs=>
    simp only [Bool.and_eq_true,beq_iff_eq] at hok;obtain⟨xs,n,hn,rfl,hl,hxl,hget⟩:=DataW.trod_struct hu h;cases hn;have hone: ∀(i:Nat)(x:DataW H×List MemPlace),xs[i]?=some x→ ∃a_:List AV,∀f:Field,fs[i]?=some f→iE P f.type x.1=some a_∧TyC P f.type a_∧R (G0 w) (.k a_ ((cs.drop f.offset).take (P.cellsOf f.type))):=by
     intro i x hx;obtain⟨f,hf⟩: ∃f,fs[i]?=some f:=⟨_,Array.getElem?_eq_getElem (by have:=(List.getElem?_eq_some_iff.1 hx).1;omega)⟩
     have h1:=hget i f hf;rw [hx] at h1;obtain⟨a_,k1,k2,k3⟩:=ih (contains_of (List.all_eq_true.1 hok.2 f (Array.mem_toList_iff.2 (Array.mem_of_getElem? hf)))) h1;exact⟨a_,fun g hg=>by rw [hf] at hg;cases hg;exact⟨k1,k2,k3⟩⟩
    obtain⟨css,hcl,hcs⟩:=aGK (β:=List AV) hxl hone;have hxi: ∀(i:Nat)(f:Field),fs[i]?=some f→ ∃x,xs[i]?=some x:=fun i f hf=>⟨_,List.getElem?_eq_getElem (by have:=(Array.getElem?_eq_some_iff.1 hf).1;omega)⟩
    refine⟨css.flatten,?_,.struct hu hcl fun i f a_ hf ha=> ?_,?_⟩
    ·simp only [iE,hu];rw [aBY (css:=css) (by simp [hxl]) (by simp [hxl,hcl]) fun i t d a_ ht hd ha=> ?_];simp only [List.getElem?_map,Option.map_eq_some_iff] at ht hd;obtain⟨f,hf,rfl⟩:=ht;obtain⟨x,hx,rfl⟩:=hd;exact(hcs i x a_ hx ha f (by simpa using hf)).1
    ·obtain⟨x,hx⟩:=hxi i f hf;exact(hcs i x a_ hx ha f hf).2.1
    ·have:=(aC0 (P:=P) (G:=G0 w) (css:=css) (cs:=cs) hok.1 hl (by simpa using hcl) fun i f a_ hf ha=>by
      obtain⟨x,hx⟩:=hxi i f (by simpa using hf);exact(hcs i x a_ hx ha f (by simpa using hf)).2.2).1
     simpa using this
   |array n e=>
    simp only [Bool.and_eq_true,beq_iff_eq] at hok;obtain⟨xs,m,hm,rfl,hl,hxl,hget⟩:=DataW.trod_array hu h;cases hm;have hone: ∀i x,xs[i]?=some x→ ∃a_:List AV,iE P e x.1=some a_∧TyC P e a_∧R (G0 w) (.k a_ ((cs.drop (i*P.cellsOf e)).take (P.cellsOf e))):=by
     intro i x hx;have hi:i<n:=by have:=(List.getElem?_eq_some_iff.1 hx).1;omega
     have h1:=hget i hi;rw [hx] at h1;exact ih (contains_of hok.1) h1
    obtain⟨css,hcl,hcs⟩:=aGK hxl hone;have hxi: ∀i a_,css[i]?=some a_→ ∃x,xs[i]?=some x:=fun i a_ hf=>⟨_,List.getElem?_eq_getElem (by have:=(List.getElem?_eq_some_iff.1 hf).1;omega)⟩
    refine⟨css.flatten,?_,.array hu hcl fun a_ ha=> ?_,?_⟩
    ·simp only [iE,hu];rw [zC (css:=css) (by simp [hxl,hcl]) fun i d a_ hd ha=> ?_];simp only [List.getElem?_map,Option.map_eq_some_iff] at hd;obtain⟨x,hx,rfl⟩:=hd;exact(hcs i x a_ hx ha).1
    ·obtain⟨i,hi⟩:=List.getElem?_of_mem ha;obtain⟨x,hx⟩:=hxi i a_ hi;exact(hcs i x a_ hx hi).2.1
    ·have:=aEL (G:=G0 w) (sz:=P.cellsOf e) (css:=css) (cs:=cs) 0 (by rw [hcl];omega) fun i a_ ha=>by
      obtain⟨x,hx⟩:=hxi i a_ ha;simpa using (hcs i x a_ hx ha).2.2
     simpa using this
   |_=>cases hok
end
end Go.Fw
namespace Go.Fw
open Go Go.WideShapes
inductive Typed(P:Program):List TypeId→List AV→Prop
 |nil:Typed P [] []
 |cons {t:TypeId} {ts:List TypeId} {cs:List AV} {avs:List AV} (h:TyC P t cs) (k:Typed P ts avs):Typed P (t::ts) (mkV P t cs::avs)
def aHx(P:Program):List (String×DataW Unit)→Option (List (Nat×AV))
 | []=>some []
 |(n,d)::r=>
  match P.globalNamed n,aHx P r with
  |some g,some gs=>
   match(P.globals[g]?).map (·.type) with
   |some t=>match iE P t d with|some cs=>some ((g,mkV P t cs)::gs)|none=>none
   |none=>none
  |_,_=>none
def aHG(P:Program)(ts:List TypeId):List (String×DataW Unit)→Bool
 | []=>true
 |(n,_)::r=>(match P.globalNamed n with|some g=>(match(P.globals[g]?).map (·.type) with|some t=>ts.contains t|none=>false)|none=>false)&&aHG P ts r
section
variable {P : Program} {P' : bA} {H : Type} {enc : TypeId × Value → H} {W : World} {ts : List TypeId}
theorem trod_lt{t:TypeId}{v:Value}{d:DataW H}{ps:List MemPlace}{sp:Nat→Bool}{held:Bool}(h:DataW.Trod enc P W 0 sp held t v d ps): ∀x∈ps,x.block<W.heap.size:=by
 obtain⟨m,hm⟩:=h;exact DataW.trod_lt m _ _ _ hm
theorem aAF(hl:laidOutB P=true){W':World}(hb:RowKit.Below W.heap.size W W'): ∀{us:List TypeId}{vs:List Value}{ds:List (DataW H)}{ps:List MemPlace},(us.all fun t=>P.readableRec t&&decide (t<P.types.size))=true→
  DataW.TrodAll enc P W 0 (fun _=>true) true us vs ds ps→DataW.TrodAll enc P W' 0 (fun b=>decide (b<W.heap.size)) true us vs ds ps
 | [],[],[],_,_,h=>h
 |t::us,v::vs,d::ds,ps,hc,h=>by
  obtain⟨p,q,h1,h2,h3⟩:=h;simp only [List.all_cons,Bool.and_eq_true,decide_eq_true_eq] at hc;exact⟨p,q,RowKit.Below.trod hl hc.1.1 hc.1.2 h1 hb (trod_lt h1),aAF hl hb (by simpa using hc.2) h2,h3⟩
 | [],[],_::_,_,_,h=>h.elim
 | [],_::_,_,_,_,h=>h.elim
 |_::_,[],_,_,_,h=>h.elim
 |_::_,_::_,[],_,_,h=>h.elim
theorem aM0(hts:ts.all (aKf P ts)=true): ∀{l:List (String×DataW Unit)}{ps:List MemPlace}{gl:List (Nat×AV)},aHG P ts l=true→aHx P l=some gl→DataW.LaidVars P W l ps→ ∀g,R (G0 W) (.v (.aG (aEG gl g) 0) (.pointer (some ⟨g,0,none⟩)))
 | [],ps,gl,_,hg,_,g=>by
  simp only [aHx,Option.some.injEq] at hg;subst hg;have:=R.aG (G:=G0 W) (v:= .agg []) (vs:= []) (b:=g) (o:=0) 0 (.wI .iI) (fun j x hx=>by simp at hx);simpa [aEG] using this
 |(n,d)::r,ps,gl,ht,hg,h,g=>by
  obtain⟨g0,t,cs,fuel,p,q,h1,h2,h3,h4,h5,_⟩:=h;simp only [aHG,Bool.and_eq_true,h1,h2] at ht;simp only [aHx,h1] at hg;split at hg
  ·rename_i gg gs hgg hgs;cases hgg;obtain⟨a_,k1,k2,k3⟩:=aMQ hts fuel (contains_of ht.1) h4;have k1':iE P t d=some a_:=k1;rw [h2] at hg;simp only [k1',Option.some.injEq] at hg;subst hg;simp only [aEG];cases hb:Nat.beq g g0 with
   |false=>exact aM0 hts ht.2 hgs h5 g
   |true=>
    have:=Nat.eq_of_beq_eq_true hb;subst this;have hcell: ∀j x,cs.toList[j]?=some x→(G0 W).M g (0+j)=some x:=fun j x hx=>by
     unfold World.var? at h3;rw [h1] at h3;simp only [Option.bind_some] at h3;split at h3
     ·rename_i cs' _ _ hh;cases h3;simp only [G0,World.cell?,hh,Nat.zero_add];simpa using hx
     ·cases h3
    have:=R.aG (G:=G0 W) (b:=g) (o:=0) 0 (k2.c k3) hcell;simpa using this
  ·cases hg
end
end Go.Fw
set_option maxRecDepth 100000
namespace Go.Proofs.YtelnnehpbkainaaGreatDoor.Code
open Go Go.Fw
noncomputable def tab:Tab:=(.node 126 (.node 63 (.node 31 (.node 15 (.node 7 (.node 3 .none (.node 5 (.node 4 (.leaf 3 c3) .none) .none)) (.node 11 .none (.node 13 .none (.node 14 (.leaf 13 c13) (.leaf 14 c14))))) (.node 23 (.node 19 (.node 17 (.node 16 (.leaf 15 c15) (.leaf 16 c16)) (.node 18 (.leaf 17 c17) (.leaf 18 c18))) (.node 21 (.node 20 (.leaf 19 c19) (.leaf 20 c20)) (.node 22 (.leaf 21 (cD 21 ⟨[],[1],[183,178,173,166,107,106,102,101,99,98,94,93,91,90,86,85,84,83,82,78,77,76,75,74,73,69,68,67,66,65,64,60,54,53,52,51,46,41,40,36,35,34,33,31,30,29,28,27,26],[],[]⟩)) (.leaf 22 (cD 22 ⟨[3,2],[],[17,9],[],[]⟩))))) (.node 27 (.node 25 (.node 24 .none (.leaf 24 (cD 24 ⟨[1],[],[41,10],[],[]⟩))) (.node 26 .none (.leaf 26 (cD 26 hz)))) (.node 29 (.node 28 (.leaf 27 (cD 27 hz)) (.leaf 28 (cD 28 ⟨[],[],[4],[],[]⟩))) (.node 30 (.leaf 29 (cD 29 hz)) (.leaf 30 (cD 30 ⟨[5,4],[],[],[],[]⟩))))))) (.node 47 (.node 39 (.node 35 (.node 33 (.node 32 (.leaf 31 (cD 31 ⟨[1],[4,3],[],[],[]⟩)) (.leaf 32 c32)) .none) (.node 37 (.node 36 (.leaf 35 c35) .none) (.node 38 (.leaf 37 c37) (.leaf 38 c38)))) (.node 43 (.node 41 .none (.node 42 .none (.leaf 42 c42))) (.node 45 (.node 44 .none (.leaf 44 (cD 44 ⟨[5,4,3],[],[],[],[]⟩))) (.node 46 .none (.leaf 46 c46))))) (.node 55 (.node 51 (.node 49 (.node 48 (.leaf 47 c47) (.leaf 48 c48)) (.node 50 (.leaf 49 c49) (.leaf 50 c50))) (.node 53 (.node 52 (.leaf 51 c51) (.leaf 52 c52)) (.node 54 (.leaf 53 (cD 53 ⟨[3,2],[],[],[],[10,5]⟩)) (.leaf 54 (cD 54 ⟨[],[],[1],[],[]⟩))))) (.node 59 (.node 57 (.node 56 (.leaf 55 (cD 55 ⟨[],[],[11,6],[],[]⟩)) (.leaf 56 (cD 56 ⟨[3,2],[],[],[],[]⟩))) (.node 58 (.leaf 57 (cD 57 ⟨[3,2],[],[],[],[]⟩)) (.leaf 58 (cD 58 ⟨[1],[],[],[],[]⟩)))) (.node 61 (.node 60 .none (.leaf 60 c60)) (.node 62 (.leaf 61 c61) (.leaf 62 c62))))))) (.node 94 (.node 78 (.node 70 (.node 66 (.node 64 (.leaf 63 c63) (.node 65 (.leaf 64 c64) .none)) (.node 68 .none (.node 69 .none (.leaf 69 c69)))) (.node 74 (.node 72 (.node 71 (.leaf 70 c70) (.leaf 71 c71)) (.node 73 .none (.leaf 73 c73))) (.node 76 (.node 75 .none (.leaf 75 c75)) (.node 77 (.leaf 76 c76) (.leaf 77 c77))))) (.node 86 (.node 82 (.node 80 .none (.node 81 .none (.leaf 81 c81))) (.node 84 (.node 83 (.leaf 82 c82) (.leaf 83 c83)) (.node 85 (.leaf 84 c84) (.leaf 85 c85)))) (.node 90 (.node 88 (.node 87 (.leaf 86 c86) (.leaf 87 c87)) (.node 89 (.leaf 88 c88) (.leaf 89 (cD 89 hz)))) (.node 92 (.node 91 (.leaf 90 (cD 90 ⟨[],[],[8],[],[]⟩)) (.leaf 91 (cD 91 ⟨[13,1],[8,7,5],[],[],[]⟩))) (.node 93 (.leaf 92 (cD 92 ⟨[],[16,14,10,8,6],[29],[],[]⟩)) (.leaf 93 (cD 93 hz))))))) (.node 110 (.node 102 (.node 98 (.node 96 (.node 95 (.leaf 94 (cD 94 ⟨[3],[5,4],[],[],[]⟩)) (.leaf 95 (cD 95 ⟨[100,60,5,4,3],[7],[81,51],[],[42,24]⟩))) (.node 97 (.leaf 96 (cD 96 ⟨[],[3],[5],[],[]⟩)) (.leaf 97 (cD 97 ⟨[1],[11,7,4],[80,73,69,57,50,37],[],[]⟩)))) (.node 100 (.node 99 (.leaf 98 c98) .none) .none)) (.node 106 (.node 104 .none (.node 105 (.leaf 104 aUJ) (.leaf 105 aTy))) (.node 108 .none (.node 109 .none (.leaf 109 aSm))))) (.node 118 (.node 114 (.node 112 (.node 111 (.leaf 110 aUA) .none) (.node 113 .none (.leaf 113 aUp))) (.node 116 (.node 115 (.leaf 114 aUI) (.leaf 115 aT1)) (.node 117 (.leaf 116 aUV) (.leaf 117 aUP)))) (.node 122 (.node 120 (.node 119 (.leaf 118 aUo) (.leaf 119 aTU)) (.node 121 (.leaf 120 aUC) (.leaf 121 aUh))) (.node 124 (.node 123 (.leaf 122 aUG) (.leaf 123 aTF)) (.node 125 (.leaf 124 aTI) (.leaf 125 (cD 125 ⟨[],[2],[],[],[]⟩))))))))) (.node 189 (.node 157 (.node 141 (.node 133 (.node 129 (.node 127 (.leaf 126 (cD 126 ⟨[],[],[8],[],[]⟩)) (.node 128 (.leaf 127 aTs) (.leaf 128 (cD 128 hz)))) (.node 131 (.node 130 (.leaf 129 (cD 129 ⟨[4],[12,8],[64,20],[],[]⟩)) (.leaf 130 (cD 130 ⟨[3],[4],[],[],[]⟩))) (.node 132 (.leaf 131 (cD 131 ⟨[3],[4],[],[],[]⟩)) (.leaf 132 (cD 132 ⟨[3],[],[21],[],[]⟩))))) (.node 137 (.node 135 (.node 134 (.leaf 133 (cD 133 ⟨[3],[],[13],[],[23]⟩)) (.leaf 134 (cD 134 ⟨[3],[],[13],[],[]⟩))) (.node 136 (.leaf 135 (cD 135 ⟨[3],[],[25],[],[]⟩)) (.leaf 136 (cD 136 ⟨[1],[],[],[],[]⟩)))) (.node 139 (.node 138 (.leaf 137 aUD) (.leaf 138 (cD 138 hz))) (.node 140 (.leaf 139 (cD 139 ⟨[3,2],[6],[14],[],[44]⟩)) (.leaf 140 (cD 140 hz)))))) (.node 149 (.node 145 (.node 143 (.node 142 (.leaf 141 (cD 141 ⟨[],[],[6],[],[]⟩)) (.leaf 142 (cD 142 ⟨[2],[],[7],[],[]⟩))) (.node 144 (.leaf 143 (cD 143 ⟨[2],[],[],[],[]⟩)) (.leaf 144 (cD 144 ⟨[2],[],[11],[],[]⟩)))) (.node 147 (.node 146 (.leaf 145 (cD 145 ⟨[1],[5],[48,44,25,21],[],[]⟩)) (.leaf 146 (cD 146 ⟨[1],[4],[32,25,14],[],[]⟩))) (.node 148 (.leaf 147 aTM) (.leaf 148 (cD 148 ⟨[1],[5],[],[],[]⟩))))) (.node 153 (.node 151 (.node 150 (.leaf 149 aUL) (.leaf 150 aTt)) .none) (.node 155 .none (.node 156 (.leaf 155 aUq) (.leaf 156 aRv)))))) (.node 173 (.node 165 (.node 161 (.node 159 .none (.node 160 (.leaf 159 aTN) (.leaf 160 aTQ))) (.node 163 (.node 162 (.leaf 161 aRH) (.leaf 162 aQz)) (.node 164 .none (.leaf 164 aUv)))) (.node 169 (.node 167 (.node 166 (.leaf 165 (cD 165 ⟨[],[],[5],[],[]⟩)) .none) (.node 168 (.leaf 167 aRp) (.leaf 168 aKz))) (.node 171 (.node 170 (.leaf 169 aUe) (.leaf 170 aT2)) (.node 172 (.leaf 171 aUm) (.leaf 172 aTB))))) (.node 181 (.node 177 (.node 175 (.node 174 (.leaf 173 aUK) (.leaf 174 aUw)) (.node 176 (.leaf 175 aSQ) (.leaf 176 (cD 176 ⟨[3],[],[],[],[]⟩)))) (.node 179 (.node 178 (.leaf 177 (cD 177 ⟨[3,2],[],[],[],[]⟩)) (.leaf 178 (cD 178 ⟨[],[9,8],[],[],[]⟩))) (.node 180 (.leaf 179 (cD 179 ⟨[3,2],[],[],[],[]⟩)) (.leaf 180 (cD 180 ⟨[3,2],[],[],[],[]⟩))))) (.node 185 (.node 183 (.node 182 (.leaf 181 (cD 181 ⟨[2],[],[29,27,20,18],[],[]⟩)) (.leaf 182 (cD 182 ⟨[],[9],[],[],[]⟩))) (.node 184 (.leaf 183 (cD 183 ⟨[2],[7],[],[],[]⟩)) (.leaf 184 (cD 184 ⟨[3],[],[],[],[]⟩)))) (.node 187 (.node 186 (.leaf 185 (cD 185 ⟨[2],[],[],[],[]⟩)) (.leaf 186 (cD 186 ⟨[3],[8,6],[],[],[]⟩))) (.node 188 (.leaf 187 (cD 187 hz)) (.leaf 188 (cD 188 hz)))))))) (.node 220 (.node 204 (.node 196 (.node 192 (.node 190 (.leaf 189 (cD 189 ⟨[1],[],[],[],[]⟩)) (.node 191 (.leaf 190 aSf) (.leaf 191 (cD 191 ⟨[],[4],[18,13],[],[]⟩)))) (.node 194 (.node 193 (.leaf 192 aLH) (.leaf 193 aUN)) (.node 195 (.leaf 194 aUa) (.leaf 195 aSB)))) (.node 200 (.node 198 (.node 197 (.leaf 196 aUx) .none) .none) (.node 202 (.node 201 (.leaf 200 (cD 200 hz)) .none) (.node 203 (.leaf 202 aTC) (.leaf 203 aTP))))) (.node 212 (.node 208 (.node 206 (.node 205 (.leaf 204 aTw) (.leaf 205 (cD 205 hz))) (.node 207 (.leaf 206 (cD 206 ⟨[2],[],[],[],[]⟩)) (.leaf 207 (cD 207 hz)))) (.node 210 (.node 209 (.leaf 208 (cD 208 ⟨[2],[],[],[],[]⟩)) (.leaf 209 (cD 209 hz))) (.node 211 (.leaf 210 (cD 210 ⟨[1],[],[9],[],[]⟩)) (.leaf 211 (cD 211 ⟨[1],[],[],[],[]⟩))))) (.node 216 (.node 214 (.node 213 (.leaf 212 aUR) (.leaf 213 aTX)) .none) (.node 218 (.node 217 (.leaf 216 (cD 216 ⟨[],[11],[],[],[]⟩)) (.leaf 217 (cD 217 hz))) .none)))) (.node 236 (.node 228 (.node 224 (.node 222 .none (.node 223 (.leaf 222 (cD 222 hz)) (.leaf 223 (cD 223 hz)))) (.node 226 (.node 225 (.leaf 224 (cD 224 ⟨[5,4,3],[],[],[],[]⟩)) (.leaf 225 (cD 225 ⟨[1],[],[23,6],[],[]⟩))) (.node 227 (.leaf 226 (cD 226 hz)) (.leaf 227 (cD 227 ⟨[1],[],[],[],[]⟩))))) (.node 232 (.node 230 (.node 229 (.leaf 228 (cD 228 hz)) (.leaf 229 (cD 229 ⟨[1],[],[4],[],[]⟩))) (.node 231 (.leaf 230 aTr) (.leaf 231 aUT))) (.node 234 .none (.node 235 (.leaf 234 (cD 234 ⟨[],[],[58,38],[],[]⟩)) .none)))) (.node 244 (.node 240 .none (.node 242 (.node 241 (.leaf 240 (cD 240 ⟨[3],[],[],[],[]⟩)) (.leaf 241 (cD 241 ⟨[1],[],[65,57,46,39,15,10],[],[]⟩))) (.node 243 (.leaf 242 (cD 242 hz)) (.leaf 243 (cD 243 hz))))) (.node 248 (.node 246 (.node 245 (.leaf 244 aR7) (.leaf 245 (cD 245 hz))) (.node 247 (.leaf 246 (cD 246 ⟨[],[10],[],[],[]⟩)) .none)) (.node 250 (.node 249 .none (.leaf 249 (cD 249 hz))) (.node 251 (.leaf 250 (cD 250 ⟨[1],[4],[25,20,15],[],[]⟩)) .none))))))))
end Go.Proofs.YtelnnehpbkainaaGreatDoor.Code
namespace Go.Proofs.YtelnnehpbkainaaGreatDoor
open Go Go.Fw
set_option maxRecDepth 100000
def gl0:List (Nat×AV):= [(3,(.aG (.agg [(.slice 3 [(.agg [(.int .u16 9),(.int .u16 13),(.int .u16 1)]),(.agg [(.int .u16 32),(.int .u16 133),(.int .u16 101)]),(.agg [(.int .u16 160),(.int .u16 5760),(.int .u16 5600)]),(.agg [(.int .u16 8192),(.int .u16 8202),(.int .u16 1)]),(.agg [(.int .u16 8232),(.int .u16 8233),(.int .u16 1)]),(.agg [(.int .u16 8239),(.int .u16 8287),(.int .u16 48)]),(.agg [(.int .u16 12288),(.int .u16 12288),(.int .u16 1)])] .no),(.slice 0 [] .no),(.int .i64 2)]) 0)),(2,(.agg [(.int .u8 0),(.int .u8 0),(.int .u8 0),(.int .u8 0),(.int .u8 0),(.int .u8 0),(.int .u8 0),(.int .u8 0),(.int .u8 0),(.int .u8 1),(.int .u8 1),(.int .u8 1),(.int .u8 1),(.int .u8 1),(.int .u8 0),(.int .u8 0),(.int .u8 0),(.int .u8 0),(.int .u8 0),(.int .u8 0),(.int .u8 0),(.int .u8 0),(.int .u8 0),(.int .u8 0),(.int .u8 0),(.int .u8 0),(.int .u8 0),(.int .u8 0),(.int .u8 0),(.int .u8 0),(.int .u8 0),(.int .u8 0),(.int .u8 1),(.int .u8 0),(.int .u8 0),(.int .u8 0),(.int .u8 0),(.int .u8 0),(.int .u8 0),(.int .u8 0),(.int .u8 0),(.int .u8 0),(.int .u8 0),(.int .u8 0),(.int .u8 0),(.int .u8 0),(.int .u8 0),(.int .u8 0),(.int .u8 0),(.int .u8 0),(.int .u8 0),(.int .u8 0),(.int .u8 0),(.int .u8 0),(.int .u8 0),(.int .u8 0),(.int .u8 0),(.int .u8 0),(.int .u8 0),(.int .u8 0),(.int .u8 0),(.int .u8 0),(.int .u8 0),(.int .u8 0),(.int .u8 0),(.int .u8 0),(.int .u8 0),(.int .u8 0),(.int .u8 0),(.int .u8 0),(.int .u8 0),(.int .u8 0),(.int .u8 0),(.int .u8 0),(.int .u8 0),(.int .u8 0),(.int .u8 0),(.int .u8 0),(.int .u8 0),(.int .u8 0),(.int .u8 0),(.int .u8 0),(.int .u8 0),(.int .u8 0),(.int .u8 0),(.int .u8 0),(.int .u8 0),(.int .u8 0),(.int .u8 0),(.int .u8 0),(.int .u8 0),(.int .u8 0),(.int .u8 0),(.int .u8 0),(.int .u8 0),(.int .u8 0),(.int .u8 0),(.int .u8 0),(.int .u8 0),(.int .u8 0),(.int .u8 0),(.int .u8 0),(.int .u8 0),(.int .u8 0),(.int .u8 0),(.int .u8 0),(.int .u8 0),(.int .u8 0),(.int .u8 0),(.int .u8 0),(.int .u8 0),(.int .u8 0),(.int .u8 0),(.int .u8 0),(.int .u8 0),(.int .u8 0),(.int .u8 0),(.int .u8 0),(.int .u8 0),(.int .u8 0),(.int .u8 0),(.int .u8 0),(.int .u8 0),(.int .u8 0),(.int .u8 0),(.int .u8 0),(.int .u8 0),(.int .u8 0),(.int .u8 0),(.int .u8 0),(.int .u8 0),(.int .u8 0),(.int .u8 0),(.int .u8 0),(.int .u8 0),(.int .u8 0),(.int .u8 0),(.int .u8 0),(.int .u8 0),(.int .u8 0),(.int .u8 0),(.int .u8 0),(.int .u8 0),(.int .u8 0),(.int .u8 0),(.int .u8 0),(.int .u8 0),(.int .u8 0),(.int .u8 0),(.int .u8 0),(.int .u8 0),(.int .u8 0),(.int .u8 0),(.int .u8 0),(.int .u8 0),(.int .u8 0),(.int .u8 0),(.int .u8 0),(.int .u8 0),(.int .u8 0),(.int .u8 0),(.int .u8 0),(.int .u8 0),(.int .u8 0),(.int .u8 0),(.int .u8 0),(.int .u8 0),(.int .u8 0),(.int .u8 0),(.int .u8 0),(.int .u8 0),(.int .u8 0),(.int .u8 0),(.int .u8 0),(.int .u8 0),(.int .u8 0),(.int .u8 0),(.int .u8 0),(.int .u8 0),(.int .u8 0),(.int .u8 0),(.int .u8 0),(.int .u8 0),(.int .u8 0),(.int .u8 0),(.int .u8 0),(.int .u8 0),(.int .u8 0),(.int .u8 0),(.int .u8 0),(.int .u8 0),(.int .u8 0),(.int .u8 0),(.int .u8 0),(.int .u8 0),(.int .u8 0),(.int .u8 0),(.int .u8 0),(.int .u8 0),(.int .u8 0),(.int .u8 0),(.int .u8 0),(.int .u8 0),(.int .u8 0),(.int .u8 0),(.int .u8 0),(.int .u8 0),(.int .u8 0),(.int .u8 0),(.int .u8 0),(.int .u8 0),(.int .u8 0),(.int .u8 0),(.int .u8 0),(.int .u8 0),(.int .u8 0),(.int .u8 0),(.int .u8 0),(.int .u8 0),(.int .u8 0),(.int .u8 0),(.int .u8 0),(.int .u8 0),(.int .u8 0),(.int .u8 0),(.int .u8 0),(.int .u8 0),(.int .u8 0),(.int .u8 0),(.int .u8 0),(.int .u8 0),(.int .u8 0),(.int .u8 0),(.int .u8 0),(.int .u8 0),(.int .u8 0),(.int .u8 0),(.int .u8 0),(.int .u8 0),(.int .u8 0),(.int .u8 0),(.int .u8 0),(.int .u8 0),(.int .u8 0),(.int .u8 0),(.int .u8 0),(.int .u8 0),(.int .u8 0),(.int .u8 0),(.int .u8 0),(.int .u8 0),(.int .u8 0),(.int .u8 0),(.int .u8 0),(.int .u8 0),(.int .u8 0)])),(1,(.agg [(.int .i64 1),(.int .i64 0),(.int .i64 0),(.int .i64 0),(.int .i64 0),(.int .i64 0),(.bool false),(.int .i64 0),(.int .i64 0),(.int .i64 0),(.int .i64 0),(.int .i64 0),(.int .i64 0),(.int .i64 0),(.int .i64 0),(.bool false),(.int .i64 (-999999999)),(.int .i64 999999999),(.int .i64 0),(.int .i64 0),(.int .i64 0),(.int .i64 0),(.int .i64 0),(.int .i64 0),(.bool false),(.int .i64 0),(.int .i64 1),(.int .i64 0),(.int .i64 0),(.int .i64 0),(.int .i64 0),(.int .i64 0),(.int .i64 0),(.bool false),(.int .i64 0),(.int .i64 0),(.int .i64 0),(.int .i64 0),(.int .i64 1),(.int .i64 0),(.int .i64 1),(.int .i64 0),(.bool false),(.int .i64 0),(.int .i64 0),(.int .i64 0),(.int .i64 0),(.int .i64 0),(.int .i64 0),(.int .i64 2),(.int .i64 0),(.bool false),(.int .i64 0),(.int .i64 0),(.int .i64 0),(.int .i64 0),(.int .i64 1),(.int .i64 0),(.int .i64 2),(.int .i64 0),(.bool false),(.int .i64 0),(.int .i64 0),(.int .i64 0),(.int .i64 0),(.int .i64 2),(.int .i64 0),(.int .i64 2),(.int .i64 0),(.bool false),(.int .i64 0),(.int .i64 0),(.int .i64 0),(.int .i64 0),(.int .i64 0),(.int .i64 0),(.int .i64 3),(.int .i64 0),(.bool false),(.int .i64 0),(.int .i64 0),(.int .i64 3),(.int .i64 0),(.int .i64 0),(.int .i64 0),(.int .i64 2),(.int .i64 0),(.bool false),(.int .i64 0),(.int .i64 0),(.int .i64 2),(.int .i64 0),(.int .i64 0),(.int .i64 0),(.int .i64 0),(.int .i64 4),(.bool false),(.int .i64 0),(.int .i64 0),(.int .i64 0),(.int .i64 0),(.int .i64 0),(.int .i64 0),(.int .i64 1),(.int .i64 0),(.bool true),(.int .i64 0),(.int .i64 0),(.int .i64 1),(.int .i64 0),(.int .i64 0),(.int .i64 0),(.int .i64 1),(.int .i64 0),(.bool false),(.int .i64 0),(.int .i64 0),(.int .i64 1),(.int .i64 1),(.int .i64 0),(.int .i64 0),(.int .i64 1),(.int .i64 0),(.bool false),(.int .i64 0),(.int .i64 0),(.int .i64 2),(.int .i64 0),(.int .i64 0),(.int .i64 0),(.int .i64 1),(.int .i64 0),(.bool true),(.int .i64 0),(.int .i64 1),(.int .i64 2),(.int .i64 0),(.int .i64 1),(.int .i64 0),(.int .i64 1),(.int .i64 0),(.bool true),(.int .i64 0),(.int .i64 0),(.int .i64 2),(.int .i64 0),(.int .i64 0),(.int .i64 0),(.int .i64 1),(.int .i64 0),(.bool false),(.int .i64 0),(.int .i64 0),(.int .i64 0),(.int .i64 0),(.int .i64 1),(.int .i64 12),(.int .i64 3),(.int .i64 0),(.bool false),(.int .i64 0),(.int .i64 0),(.int .i64 1),(.int .i64 0),(.int .i64 0),(.int .i64 0),(.int .i64 1),(.int .i64 0),(.bool false),(.int .i64 0),(.int .i64 0),(.int .i64 1),(.int .i64 0),(.int .i64 0),(.int .i64 0),(.int .i64 0),(.int .i64 0),(.bool false),(.int .i64 0),(.int .i64 0)])),(0,(.agg [(.int .i64 0),(.int .i64 1),(.int .i64 2),(.int .i64 3),(.int .i64 4),(.int .i64 6),(.int .i64 8),(.int .i64 9),(.int .i64 10),(.int .i64 11)]))]
end Go.Proofs.YtelnnehpbkainaaGreatDoor
namespace Go.Proofs.YtelnnehpbkainaaGreatDoor
open Go Go.Fw
noncomputable abbrev PP:bA:=aAP Code.tab gl0
def fF:List Int:= [(0),(1),(2),(3),(4),(6),(8),(9),(10),(11)]
def kT:List bO:= [(bO.mk (1) (0) (0) (0) (0) (0) false (0) (0)),(bO.mk (0) (0) (0) (0) (0) (0) false (-999999999) (999999999)),(bO.mk (0) (0) (0) (0) (0) (0) false (0) (1)),(bO.mk (0) (0) (0) (0) (0) (0) false (0) (0)),(bO.mk (0) (0) (1) (0) (1) (0) false (0) (0)),(bO.mk (0) (0) (0) (0) (2) (0) false (0) (0)),(bO.mk (0) (0) (1) (0) (2) (0) false (0) (0)),(bO.mk (0) (0) (2) (0) (2) (0) false (0) (0)),(bO.mk (0) (0) (0) (0) (3) (0) false (0) (0)),(bO.mk (3) (0) (0) (0) (2) (0) false (0) (0)),(bO.mk (2) (0) (0) (0) (0) (4) false (0) (0)),(bO.mk (0) (0) (0) (0) (1) (0) true (0) (0)),(bO.mk (1) (0) (0) (0) (1) (0) false (0) (0)),(bO.mk (1) (1) (0) (0) (1) (0) false (0) (0)),(bO.mk (2) (0) (0) (0) (1) (0) true (0) (1)),(bO.mk (2) (0) (1) (0) (1) (0) true (0) (0)),(bO.mk (2) (0) (0) (0) (1) (0) false (0) (0)),(bO.mk (0) (0) (1) (12) (3) (0) false (0) (0)),(bO.mk (1) (0) (0) (0) (1) (0) false (0) (0)),(bO.mk (1) (0) (0) (0) (0) (0) false (0) (0))]
theorem aAk:cellsOf (PP.gl 1)=kT.flatMap fun x=>cellsOf (xM x):=by kernel_rfl
end Go.Proofs.YtelnnehpbkainaaGreatDoor
namespace Go.Fw
open Go
inductive Tr where
 |nil
 |node (v:Option AV) (l r:Tr)
def Tr.get:Tr→List Bool→Option AV
 | .nil,_=>none
 | .node v _ _,[]=>v
 | .node _ l _,true::p=>l.get p
 | .node _ _ r,false::p=>r.get p
def Tr.left:Tr→Tr
 | .nil=> .nil
 | .node _ l _=>l
def Tr.right:Tr→Tr
 | .nil=> .nil
 | .node _ _ r=>r
def Tr.val:Tr→Option AV
 | .nil=>none
 | .node v _ _=>v
def Tr.set:Tr→List Bool→AV→Tr
 |t,[],v=> .node (some v) t.left t.right
 |t,true::p,v=> .node t.val (t.left.set p v) t.right
 |t,false::p,v=> .node t.val t.left (t.right.set p v)
def path:Nat→Nat→List Bool
 |0,_=> []
 |f+1,i=>match i with
  |0=> []
  |_=>match Nat.beq (Nat.mod i 2) 1 with
   |true=>true::path f (Nat.div i 2)
   |false=>false::path f (Nat.sub (Nat.div i 2) 1)
def aAZ:List Bool→Nat
 | []=>0
 |true::p=>2*aAZ p+1
 |false::p=>2*aAZ p+2
theorem uF: ∀{f i:Nat},i≤f→aAZ (path f i)=i
 |0,i,h=>by simp [path,aAZ];omega
 |f+1,0,h=>by simp [path,aAZ]
 |f+1,i+1,h=>by
  simp only [path,show∀a b,Nat.mod a b=a%b from fun _ _=>rfl,show∀a b,Nat.div a b=a/b from fun _ _=>rfl,show∀a b,Nat.sub a b=a-b from fun _ _=>rfl];cases hb:Nat.beq ((i+1)%2) 1 with
  |true=>
   have:=Nat.eq_of_beq_eq_true hb;simp only [aAZ];rw [uF (by omega)];omega
  |false=>
   have:(i+1)%2≠1:=fun hq=>by rw [hq] at hb;cases hb
   simp only [aAZ];rw [uF (by omega)];omega
theorem aQu{i j:Nat}(h:path i i=path j j):i=j:=by
 rw [←uF (Nat.le_refl i),h,uF (Nat.le_refl j)]
theorem Tr.get_nil(p:List Bool):Tr.nil.get p=none:=by cases p<;>rfl
theorem Tr.aEJ(t:Tr)(p:List Bool):t.left.get p=t.get (true::p):=by cases t with|nil=>simp [Tr.left,Tr.get]|node=>rfl
theorem Tr.aCw(t:Tr)(p:List Bool):t.right.get p=t.get (false::p):=by cases t with|nil=>simp [Tr.right,Tr.get]|node=>rfl
theorem Tr.aMv(t:Tr):t.val=t.get []:=by cases t<;>rfl
theorem Tr.aHv: ∀(p:List Bool)(t:Tr)(v:AV)(q:List Bool),(t.set p v).get q=if q=p then some v else t.get q
 | [],t,v,q=>by
  cases q with
  |nil=>simp [Tr.set,Tr.get]
  |cons b q=>cases b<;>simp [Tr.set,Tr.get,Tr.aEJ,Tr.aCw]
 |true::p,t,v,q=>by
  cases q with
  |nil=>simp [Tr.set,Tr.get,Tr.aMv]
  |cons b q=>cases b<;>simp [Tr.set,Tr.get,Tr.aHv p,Tr.aEJ,Tr.aCw]
 |false::p,t,v,q=>by
  cases q with
  |nil=>simp [Tr.set,Tr.get,Tr.aMv]
  |cons b q=>cases b<;>simp [Tr.set,Tr.get,Tr.aHv p,Tr.aEJ,Tr.aCw]
structure TE where
 base:Env
 ov:Tr
def TE.env(t:TE):Env:=fun i=>match t.ov.get (path i i) with|some v=>v|none=>t.base i
def TE.upd(t:TE)(d:Nat)(v:AV):TE:={t with ov:=t.ov.set (path d d) v}
def TE.fQ(t:TE)(d:Option Nat)(v:AV):TE:=match d with|some i=>t.upd i v|none=>t
theorem TE.aRh(t:TE)(d:Nat)(v:AV):(t.upd d v).env=Fw.upd t.env d v:=by
 funext i
 simp only [TE.env,TE.upd,Tr.aHv,Fw.upd];cases hb:Nat.beq i d with
 |true=>rw [if_pos (by rw [Nat.eq_of_beq_eq_true hb])]
 |false=>rw [if_neg (fun h=>by rw [aQu h,Nat.beq_refl] at hb;cases hb)]
theorem TE.aJi(t:TE)(d:Option Nat)(v:AV):(t.fQ d v).env=Fw.fQ t.env d v:=by cases d with|none=>rfl|some i=>exact t.aRh i v
theorem TE.aNf(e:Env):(⟨e,.nil⟩:TE).env=e:=by funext i;simp [TE.env,Tr.get_nil]
structure TF where
 env:TE
 ds:List jI
def TF.fr(f:TF):Fr:=⟨f.env.env,f.ds⟩
def TF.put(f:TF)(d:Option Nat)(v:AV):TF:={f with env:=f.env.fQ d v}
theorem TF.aAN(f:TF)(d:Option Nat)(v:AV):(f.put d v).fr={f.fr with env:=fQ f.fr.env d v}:=by
 simp only [TF.fr,TF.put,TE.aJi]
inductive aOO where
 |norm (fr:TF) (s:ASt)
 |pan (v:AV) (fr:TF) (s:ASt)
def aOO.out:aOO→rP
 | .norm fr s=> .norm fr.fr s
 | .pan v fr s=> .pan v fr.fr s
abbrev aAd:=Nat→List AV→Option AV
def MOk(M:aAd)(H:Handler):Prop:= ∀g args v,M g args=some v→ ∃v0 s2,H.call (.func g) args eB=some (.ret v0,s2)∧oM v0=some v∧dC v=true
def gL(H:Handler)(P:bA)(M:aAd):List AI→List (Nat×Nat)→TF→ASt→Option aOO
 | [],_,fr,s=>some (.norm fr s)
 |i::rest,pd,fr,s=>
  match wanted fr.env.env i.gd with
  |none=>none
  |some false=>gL H P M rest (aS i.d pd) (fr.put i.d fW) s
  |some true=>
   match i.op with
   | .pend z=>match i.d with|some d=>gL H P M rest ((d,z.length)::aS i.d pd) (fr.put (some d) .nX) s|none=>none
   | .shut d sz x=>
    match i.d,iK (evO P fr.env.env x) with
    |none,some v=>match decide ((cellsOf v).length=sz)&&pd.any (fun p=>Nat.beq p.1 d&&Nat.beq p.2 sz) with|true=>gL H P M rest (aS (some d) pd) (fr.put (some d) (.aG v 0)) s|false=>none
    |_,_=>none
   | .defer f args=>
    match evO P fr.env.env f,eD (args.map (evO P fr.env.env)) with
    | .func g a b,some vs=>gL H P M rest (aS i.d pd) {env:=fr.env.fQ i.d fW,ds:= .call g (a++vs++b)::fr.ds} s
    |_,_=>none
   | .panic x=>match evO P fr.env.env x with| .iface t v=>some (.pan (.iface t v) fr s)|_=>none
   | .aN st f args=>
    match evO P fr.env.env f,eD (args.map (evO P fr.env.env)) with
    | .func g a b,some vs=>
     match(!st&&isE s)||fH (a++vs++b) with
     |true=>
      match M g (a++vs++b) with
      |some v=>gL H P M rest (aS i.d pd) (fr.put i.d v) s
      |none=>
       match H.call (.func g) (a++vs++b) eB with
       |some (.ret v,s2)=>
        match oM v with
        |some v=>match isE s2||dC v with|true=>gL H P M rest (aS i.d pd) (fr.put i.d v) s|false=>none
        |none=>none
       |_=>none
     |false=>none
    |_,_=>none
   | .call f args=>
    match target (evO P fr.env.env f),tH s (args.map (evO P fr.env.env)) with
    |some (g,a,b),some (vs,s1)=>
     match H.call g (a++vs++b) s1 with
     |some (.ret v,s2)=>gL H P M rest (aS i.d pd) (fr.put i.d v) s2
     |some (.panic v,s2)=>some (.pan v fr s2)
     |none=>none
    |_,_=>none
   |op=>
    match dM P fr.env.env s op with
    |some (v,s1)=>gL H P M rest (aS i.d pd) (fr.put i.d v) s1
    |none=>none
structure CT where
 ex:dO
 fr:TF
 s:ASt
def CT.out(r:CT):CR:=⟨r.ex,r.fr.fr,r.s⟩
def aCN(step:TF→ASt→Option CT):Nat→TF→ASt→Option CT
 |0,_,_=>none
 |n+1,fr,s=>
  match step fr s with
  |some r=>match r.ex with| .normal=>aCN step n r.fr r.s|_=>some r
  |none=>none
def pI(H:Handler)(P:bA)(M:aAd)(rd:Option Nat)(lf:Nat):AC→TF→ASt→Option CT
 | .skip,fr,s=>some ⟨.normal,fr,s⟩
 | .reg _ ops,fr,s=>
  match gL H P M ops [] fr s with
  |some (.norm fr s)=>some ⟨.normal,fr,s⟩
  |some (.pan v fr s)=>some ⟨.panic v,fr,s⟩
  |none=>none
 | .seq a b,fr,s=>
  match pI H P M rd lf a fr s with
  |some r=>match r.ex with| .normal=>pI H P M rd lf b r.fr r.s|_=>some r
  |none=>none
 | .cond c t e,fr,s=>
  match evO P fr.env.env c with
  | .bool b=>match b with|true=>pI H P M rd lf t fr s|false=>pI H P M rd lf e fr s
  |_=>none
 | .block id b,fr,s=>
  match pI H P M rd lf b fr s with
  |some r=>match r.ex with| .exit j=>(match Nat.beq j id with|true=>some ⟨.normal,r.fr,r.s⟩|false=>some r)|_=>some r
  |none=>none
 | .loop b,fr,s=>aCN (pI H P M rd lf b) lf fr s
 | .exit id,fr,s=>some ⟨.exit id,fr,s⟩
 | .ret,fr,s=>some ⟨.ret,fr,s⟩
 | .scope b,fr,s=>pI H P M rd lf b fr s
 | .nU f params assign body,fr,s=>
  match sL rd params assign body fr.fr s,evO P fr.env.env f with
  |some (l,mark,s1),.func g a b=>
   match aBN P g,H.call (.func g) (a++ .yield l::b) s1 with
   |true,some (.ret _,s2)=>
    match s2.blks[l]? with
    |some (.loop lp)=>
     match lp.st with
     | .busy=>none
     |_=>some ⟨lp.pend.getD .normal,{fr with ds:=mark++fr.ds},{s2 with blks:=s2.blks.set l (.loop {lp with st:= .exhausted})}⟩
    |_=>none
   |true,some (.panic v,s2)=>some ⟨.panic v,{fr with ds:=mark++fr.ds},s2⟩
   |_,_=>none
  |_,_=>none
def aEk(H:Handler)(P:bA)(M:aAd)(lf:Nat)(l:Nat)(args:List AV)(s:ASt):Option (kO×ASt):=
 match s.blks[l]? with
 |some (.loop lp)=>
  match decide (lp.st= .ready),decide (args.length=lp.params.length) with
  |true,true=>
   match pI H P M (some l) lf lp.assign ⟨⟨oP lp.env lp.params args,.nil⟩,[]⟩ s with
   |some ⟨.normal,⟨e1,[]⟩,s1⟩=>
    match j6 s1 l with
    |some s2=>
     match pI H P M (some l) lf lp.body ⟨e1,[]⟩ s2 with
     |some ⟨ex,⟨_,[]⟩,s3⟩=>
      match ex with
      | .panic v=>some (.panic v,s3)
      | .normal=>match eR s3 l fun lp=>{lp with st:= .ready,pend:=none} with|some s4=>some (.ret (.bool true),s4)|none=>none
      |ex=>match eR s3 l fun lp=>{lp with st:= .done,pend:=some ex} with|some s4=>some (.ret (.bool false),s4)|none=>none
     |_=>none
    |none=>none
   |_=>none
  |_,_=>none
 |_=>none
def runT(H:Handler)(P:bA)(M:aAd)(lf:Nat)(f:AF)(args:List AV)(s:ASt):Option (kO×ASt):=
 match Nat.ble args.length f.nt with
 |false=>none
 |true=>
 match pI H P M none lf f.body ⟨⟨hJ args,.nil⟩,[]⟩ (aU s) with
 |some ⟨ex,fr,s1⟩=>
  match(match ex with| .normal=>some DM.ret| .ret=>some DM.ret| .panic v=>some (DM.pan v)| .exit _=>none) with
  |some m=>
   match iX H fr.ds m s1 with
   |some (.pan v,s2)=>some (.panic v,fL s (toks v) (dS s (pA v) s2))
   |some (.ret,s2)=>
    match kQ P fr.env.env s2 f.res with
    |some vs=>
     match pT s2 vs with
     |some (v,s3)=>match settle s v s3 with|(v,s4)=>some (.ret v,s4)
     |none=>none
    |none=>none
   |none=>none
  |none=>none
 |none=>none
def vV(P:bA)(M:aAd):Nat→Handler
 |0=>{call:=fun _ _ _=>none,dcall:=fun _ _ _ _=>none}
 |n+1=>
  {call:=fun g args s=>
    match g with
    | .func f=>
     match P.prim f with
     |some p=>p args s
     |none=>match P.fn f with|some af=>runT (vV P M n) P M n af args s|none=>none
    | .yield l=>aEk (vV P M n) P M n l args s
   dcall:=fun f args m s=>match P.fn f with|some af=>aDD (vV P M n) P n af args m s|none=>none}
section
variable {H H' : Handler} {P : bA} {M : aAd}
theorem nD(hH:Hle H H')(hM:MOk M H'): ∀{is:List AI}{pd:List (Nat×Nat)}{fr:TF}{s:ASt}{r:aOO},gL H P M is pd fr s=some r→bS H' P is pd fr.fr s=some r.out
 | [],_,_,_,_,h=>by cases h;rfl
 |⟨d',op,gd,pre⟩::rest,pd,fr,s,r,h=>by
  cases hw:wanted fr.env.env gd with
  |none=>simp [gL,hw] at h
  |some b=>
   have hw':wanted fr.fr.env gd=some b:=hw;cases b with
   |false=>
    simp only [gL,hw] at h;simp only [bS,hw'];have:=nD hH hM h;rwa [TF.aAN] at this
   |true=>
    cases hp:plainO op with
    |true=>
     rw [aES hp hw'];have e1:gL H P M (⟨d',op,gd,pre⟩::rest) pd fr s=(match dM P fr.env.env s op with|some (v,s1)=>gL H P M rest (aS d' pd) (fr.put d' v) s1|none=>none):=by
      simp only [gL,hw];cases op<;>first|rfl|(simp [plainO] at hp)
     rw [e1] at h;have e2:fr.fr.env=fr.env.env:=rfl;rw [e2];cases hs:dM P fr.env.env s op with
     |none=>rw [hs] at h;cases h
     |some x=>
      rw [hs] at h;have:=nD hH hM h;rwa [TF.aAN] at this
    |false=>
     cases op<;>first|(simp [plainO] at hp;done)|skip
     case pend z=>
      cases d' with
      |none=>simp [gL,hw] at h
      |some d=>
       simp only [gL,hw] at h;simp only [bS,hw'];have:=nD hH hM h;rwa [TF.aAN] at this
     case shut d sz x=>
      cases d' with
      |some d=>simp [gL,hw] at h
      |none=>
       simp only [gL,hw] at h;simp only [bS,hw'];have e2:evO P fr.fr.env x=evO P fr.env.env x:=rfl;rw [e2];cases hf:iK (evO P fr.env.env x) with
       |none=>simp [hf] at h
       |some v=>
        simp only [hf] at h⊢;cases hc:(decide ((cellsOf v).length=sz)&&pd.any (fun p=>Nat.beq p.1 d&&Nat.beq p.2 sz)) with
        |false=>rw [hc] at h;cases h
        |true=>
         rw [hc] at h;rw [if_pos rfl];have:=nD hH hM h;rwa [TF.aAN] at this
     case defer f args=>
      simp only [gL,hw] at h;simp only [bS,hw'];have e2:fr.fr.env=fr.env.env:=rfl;rw [e2];split at h
      ·rename_i h1 h2
       (try simp only [h1,h2])
       have:=nD hH hM h;simp only [TF.fr,TE.aJi] at this;exact this
      ·cases h
     case panic x=>
      simp only [gL,hw] at h;simp only [bS,hw'];have e2:fr.fr.env=fr.env.env:=rfl;rw [e2];split at h
      ·rename_i t v hx;cases h;(try simp only [hx]);rfl
      ·cases h
     case aN st f args=>
      simp only [gL,hw] at h;simp only [bS,hw'];have e2:fr.fr.env=fr.env.env:=rfl;rw [e2];split at h
      ·rename_i g a b vs h1 h2
       (try simp only [h1,h2])
       cases hp3:((!st&&isE s)||fH (a++vs++b)) with
       |false=>rw [hp3] at h;cases h
       |true=>
        rw [hp3] at h;simp only at h;cases hm:M g (a++vs++b) with
        |some v=>
         rw [hm] at h;obtain⟨v0,s2,k1,k2,k3⟩:=hM _ _ _ hm;simp only [k1,k2,k3,Bool.or_true];have:=nD hH hM h;rwa [TF.aAN] at this
        |none=>
         rw [hm] at h;simp only at h;split at h
         ·rename_i v s2 h4;simp only [hH.call _ _ _ _ h4];split at h
          ·rename_i v' h5
           (try simp only [h5])
           split at h
           ·rename_i h6
            (try simp only [h6])
            have:=nD hH hM h;rwa [TF.aAN] at this
           ·cases h
          ·cases h
         ·cases h
      ·cases h
     case call f args=>
      simp only [gL,hw] at h;simp only [bS,hw'];have e2:fr.fr.env=fr.env.env:=rfl;rw [e2];split at h
      ·rename_i g a b vs s1 h1 h2
       (try simp only [h1,h2])
       split at h
       ·rename_i v s2 h3;simp only [hH.call _ _ _ _ h3];have:=nD hH hM h;rwa [TF.aAN] at this
       ·rename_i v s2 h3;simp only [hH.call _ _ _ _ h3];cases h;rfl
       ·cases h
      ·cases h
theorem aJ8{f:TF→ASt→Option CT}{f':Fr→ASt→Option CR}(hf: ∀fr s r,f fr s=some r→f' fr.fr s=some r.out): ∀{k k':Nat}{fr:TF}{s:ASt}{r:CT},k≤k'→aCN f k fr s=some r→oQ f' k' fr.fr s=some r.out
 |0,_,_,_,_,_,h=>by simp [aCN] at h
 |k+1,0,_,_,_,hk,_=>by omega
 |k+1,k'+1,fr,s,r,hk,h=>by
  simp only [aCN] at h;simp only [oQ];cases hs:f fr s with
  |none=>rw [hs] at h;cases h
  |some x=>
   rw [hs] at h;rw [hf _ _ _ hs];obtain⟨ex,fr1,s1⟩:=x;cases ex with
   |normal=>simp only [CT.out] at h⊢;exact aJ8 hf (by omega) h
   |exit i=>cases h;rfl
   |ret=>cases h;rfl
   |panic v=>cases h;rfl
theorem qY(hH:Hle H H')(hM:MOk M H'){rd:Option Nat}{lf lf':Nat}(hl:lf≤lf'): ∀(c:AC){fr:TF}{s:ASt}{r:CT},pI H P M rd lf c fr s=some r→evC H' P rd lf' c fr.fr s=some r.out
 | .skip,_,_,_,h=>by cases h;rfl
 | .exit _,_,_,_,h=>by cases h;rfl
 | .ret,_,_,_,h=>by cases h;rfl
 | .scope b,fr,s,r,h=>by simp only [pI] at h;simp only [evC];exact qY hH hM hl b h
 | .reg _ ops,fr,s,r,h=>by
  simp only [pI] at h;simp only [evC];cases he:gL H P M ops [] fr s with
  |none=>rw [he] at h;cases h
  |some x=>
   rw [he] at h;rw [nD hH hM he];cases x with
   |norm fr1 s1=>cases h;rfl
   |pan v fr1 s1=>cases h;rfl
 | .seq a b,fr,s,r,h=>by
  simp only [pI] at h;simp only [evC];cases he:pI H P M rd lf a fr s with
  |none=>rw [he] at h;cases h
  |some x=>
   rw [he] at h;rw [qY hH hM hl a he];obtain⟨ex,fr1,s1⟩:=x;cases ex with
   |normal=>simp only [CT.out] at h⊢;exact qY hH hM hl b h
   |exit i=>cases h;rfl
   |ret=>cases h;rfl
   |panic v=>cases h;rfl
 | .cond c t e,fr,s,r,h=>by
  simp only [pI] at h;simp only [evC];have e2:fr.fr.env=fr.env.env:=rfl;rw [e2];split at h
  ·rename_i b hb
   (try simp only [hb])
   cases b with
   |true=>exact qY hH hM hl t h
   |false=>exact qY hH hM hl e h
  ·cases h
 | .block id b,fr,s,r,h=>by
  simp only [pI] at h;simp only [evC];cases he:pI H P M rd lf b fr s with
  |none=>rw [he] at h;cases h
  |some x=>
   rw [he] at h;rw [qY hH hM hl b he];obtain⟨ex,fr1,s1⟩:=x;cases ex with
   |normal=>cases h;rfl
   |ret=>cases h;rfl
   |panic v=>cases h;rfl
   |exit j=>
    simp only [CT.out] at h⊢;cases hj:Nat.beq j id with
    |true=>rw [hj] at h;cases h;rfl
    |false=>rw [hj] at h;cases h;rfl
 | .loop b,fr,s,r,h=>by
  simp only [pI] at h;simp only [evC];exact aJ8 (fun _ _ _=>qY hH hM hl b) hl h
 | .nU f params assign body,fr,s,r,h=>by
  simp only [pI] at h;simp only [evC];have e2:fr.fr.env=fr.env.env:=rfl;rw [e2];split at h
  ·rename_i l mark s1 g a b h1 h2
   (try simp only [h1,h2])
   split at h
   ·rename_i v s2 h3 h4;simp only [hH.call _ _ _ _ h4]
    (try simp only [h3])
    split at h
    ·rename_i lp h5
     (try simp only [h5])
     cases hst:lp.st<;>simp only [hst] at h⊢ <;>first|(cases h;rfl)|cases h
    ·cases h
   ·rename_i v s2 h3 h4;simp only [hH.call _ _ _ _ h4];(try simp only [h3]);cases h;rfl
   ·cases h
  ·cases h
theorem aNU(hH:Hle H H')(hM:MOk M H'){lf lf':Nat}(hl:lf≤lf'){l:Nat}{args:List AV}{s:ASt}{r:kO×ASt}(h:aEk H P M lf l args s=some r):p7 H' P lf' l args s=some r:=by
 have e0: ∀e:Env,(⟨⟨e,.nil⟩,[]⟩:TF).fr=⟨e,[]⟩:=fun e=>by simp only [TF.fr,TE.aNf]
 unfold aEk at h;unfold p7;split at h
 ·rename_i lp h1
  (try simp only [h1])
  split at h
  ·rename_i h2 h3
   (try simp only [h2,h3])
   split at h
   ·rename_i e1 s1 h4;have:=qY (P:=P) hH hM hl _ h4;rw [e0] at this;simp only [this,CT.out,TF.fr];split at h
    ·rename_i s2 h5
     (try simp only [h5])
     split at h
     ·rename_i ex e2 s3 h6;have:=qY (P:=P) hH hM hl _ h6;simp only [CT.out,TF.fr] at this;simp only [this];exact h
     ·cases h
    ·cases h
   ·cases h
  ·cases h
 ·cases h
theorem aSk(hH:Hle H H')(hM:MOk M H'){lf lf':Nat}(hl:lf≤lf'){f:AF}{args:List AV}{s:ASt}{r:kO×ASt}(h:runT H P M lf f args s=some r):aBI H' P lf' f args s=some r:=by
 have e0: ∀e:Env,(⟨⟨e,.nil⟩,[]⟩:TF).fr=⟨e,[]⟩:=fun e=>by simp only [TF.fr,TE.aNf]
 unfold runT at h;unfold aBI;split at h
 ·cases h
 ·rename_i h0
  (try simp only [h0])
  split at h
  ·rename_i ex fr s1 h1;have:=qY (P:=P) hH hM hl _ h1;rw [e0] at this;simp only [this,CT.out];split at h
   ·rename_i m h2
    (try simp only [h2])
    split at h
    ·rename_i v s2 h3;have h3':iX H fr.fr.ds m s1=some (.pan v,s2):=h3;have e1:=qH hH h3';cases ex<;>cases h2<;>(simp only [e1];exact h)
    ·rename_i s2 h3;have h3':iX H fr.fr.ds m s1=some (.ret,s2):=h3;have e1:=qH hH h3';cases ex<;>cases h2<;>(simp only [e1];exact h)
    ·cases h
   ·cases h
  ·cases h
theorem aH0{N0:Nat}(hM: ∀m,N0≤m→MOk M (cU P m)): ∀{n m:Nat},N0+n≤m→Hle (vV P M n) (cU P m)
 |0,_,_=>⟨fun _ _ _ _ h=>by simp [vV] at h,fun _ _ _ _ _ h=>by simp [vV] at h⟩
 |n+1,0,h=>by omega
 |n+1,m+1,h=>by
  have ih:=aH0 hM (show N0+n≤m by omega);have hm:=hM m (by omega);refine⟨fun g a s r hr=> ?_,fun f a d s r hr=> ?_⟩
  ·cases g with
   |func f=>
    simp only [vV] at hr;simp only [cU];cases hp:P.prim f with
    |some p=>simp only [hp] at hr⊢;exact hr
    |none=>
     simp only [hp] at hr⊢;cases hf:P.fn f with
     |none=>simp only [hf] at hr;cases hr
     |some af=>simp only [hf] at hr⊢;exact aSk ih hm (by omega) hr
   |yield l=>simp only [vV] at hr;simp only [cU];exact aNU ih hm (by omega) hr
  ·simp only [vV] at hr;simp only [cU];cases hf:P.fn f with
   |none=>simp only [hf] at hr;cases hr
   |some af=>simp only [hf] at hr⊢;exact aGn ih (by omega) hr
theorem Ev.runT{N0 n:Nat}(hM: ∀m,N0≤m→MOk M (cU P m)){g:AFn}{args:List AV}{s:ASt}{r:kO×ASt}{Q:kO×ASt→Prop}(h:(vV P M n).call g args s=some r)(hq:Q r):Ev (fun n=>(cU P n).call g args s) Q:=
 ⟨r,N0+n,hq,fun _ hm=>(aH0 hM hm).call _ _ _ _ h⟩
mutual
def eqV:AV→AV→Bool
 | .int k a,.int k' b=>match Nat.beq (k.ctorIdx) (k'.ctorIdx) with|true=>a==b|false=>false
 | .bool a,.bool b=>match a with|true=>b|false=> !b
 | .str a,.str b=>eqB a b
 | .slice sz xs o,.slice sz' ys o'=>match Nat.beq sz sz'&&aSV o o' with|true=>aE3 xs ys|false=>false
 | .agg xs,.agg ys=>aE3 xs ys
 | .tuple xs,.tuple ys=>aE3 xs ys
 | .eH,.eH| .dP,.dP| .eQ,.eQ| .cI,.cI=>true
 | .aG a o,.aG b o'=>match Nat.beq o o' with|true=>eqV a b|false=>false
 | .func f a b,.func f' a' b'=>match Nat.beq f f' with|true=>(match aE3 a a' with|true=>aE3 b b'|false=>false)|false=>false
 | .iface t a,.iface t' b=>match Nat.beq t t' with|true=>eqV a b|false=>false
 |_,_=>false
def aE3:List AV→List AV→Bool
 | [],[]=>true
 |x::xs,y::ys=>match eqV x y with|true=>aE3 xs ys|false=>false
 |_,_=>false
def eqB:List UInt8→List UInt8→Bool
 | [],[]=>true
 |x::xs,y::ys=>match Nat.beq x.toNat y.toNat with|true=>eqB xs ys|false=>false
 |_,_=>false
def aSV:Own→Own→Bool
 | .no,.no| .full,.full=>true
 |_,_=>false
end
theorem aPM: ∀{a b:List UInt8},eqB a b=true→a=b
 | [],[],_=>rfl
 |x::xs,y::ys,h=>by
  simp only [eqB] at h;cases hq:Nat.beq x.toNat y.toNat with
  |false=>rw [hq] at h;cases h
  |true=>rw [hq] at h;rw [aPM h,UInt8.toNat_inj.1 (Nat.eq_of_beq_eq_true hq)]
 | [],_::_,h=>by cases h
 |_::_,[],h=>by cases h
theorem aQD{a b:Own}(h:aSV a b=true):a=b:=by cases a<;>cases b<;>first|rfl|cases h
mutual
theorem aCA: ∀{a b:AV},eqV a b=true→a=b
 | .int k a,.int k' b,h=>by
  simp only [eqV] at h;split at h
  ·rename_i hq;have e1:k=k':=by
    have:=Nat.eq_of_beq_eq_true hq;cases k<;>cases k'<;>first|rfl|(cases this)
   rw [e1,eq_of_beq h]
  ·cases h
 | .bool a,.bool b,h=>by cases a<;>cases b<;>first|rfl|cases h
 | .str a,.str b,h=>by rw [aPM (a:=a) (b:=b) h]
 | .slice sz xs o,.slice sz' ys o',h=>by
  simp only [eqV] at h;split at h
  ·rename_i hq;simp only [Bool.and_eq_true] at hq;rw [Nat.eq_of_beq_eq_true hq.1,aQD hq.2,uQ h]
  ·cases h
 | .agg xs,.agg ys,h=>by rw [uQ (xs:=xs) (ys:=ys) h]
 | .tuple xs,.tuple ys,h=>by rw [uQ (xs:=xs) (ys:=ys) h]
 | .eH,.eH,_=>rfl
 | .dP,.dP,_=>rfl
 | .eQ,.eQ,_=>rfl
 | .cI,.cI,_=>rfl
 | .aG a o,.aG b o',h=>by
  simp only [eqV] at h;split at h
  ·rename_i hq;rw [Nat.eq_of_beq_eq_true hq,aCA h]
  ·cases h
 | .func f a b,.func f' a' b',h=>by
  simp only [eqV] at h;split at h
  ·rename_i hq;split at h
   ·rename_i h2;rw [Nat.eq_of_beq_eq_true hq,uQ h2,uQ h]
   ·cases h
  ·cases h
 | .iface t a,.iface t' b,h=>by
  simp only [eqV] at h;split at h
  ·rename_i hq;rw [Nat.eq_of_beq_eq_true hq,aCA h]
  ·cases h
theorem uQ: ∀{xs ys:List AV},aE3 xs ys=true→xs=ys
 | [],[],_=>rfl
 |x::xs,y::ys,h=>by
  simp only [aE3] at h;split at h
  ·rename_i hq;rw [aCA hq,uQ h]
  ·cases h
 | [],_::_,h=>by cases h
 |_::_,[],h=>by cases h
end
structure ME where
 g:Nat
 args:List AV
 v:AV
def aCO:List ME→aAd
 | [],_,_=>none
 |e::r,g,args=>match Nat.beq e.g g with
  |true=>match aE3 e.args args with|true=>some e.v|false=>aCO r g args
  |false=>aCO r g args
theorem aCq: ∀{l:List ME}{g:Nat}{args:List AV}{v:AV},aCO l g args=some v→⟨g,args,v⟩∈l
 | [],_,_,_,h=>by cases h
 |e::r,g,args,v,h=>by
  simp only [aCO] at h;split at h
  ·rename_i hq;split at h
   ·rename_i h2;cases h;rw [←Nat.eq_of_beq_eq_true hq,←uQ h2];exact List.mem_cons_self ..
   ·exact List.mem_cons_of_mem _ (aCq h)
  ·exact List.mem_cons_of_mem _ (aCq h)
inductive dT(P:bA):List ME→Prop
 |nil:dT P []
 |cons {g:Nat} {args:List AV} {v:AV} {r:List ME} (h:Pf P g args v) (t:dT P r):dT P (⟨g,args,v⟩::r)
theorem dT.mem{l:List ME}(h:dT P l): ∃N0,∀m,N0≤m→ ∀e∈l,∃v0 s2,(cU P m).call (.func e.g) e.args eB=some (.ret v0,s2)∧oM v0=some e.v∧dC e.v=true:=by
 induction h with
 |nil=>exact⟨0,fun _ _ _ he=>by cases he⟩
 |cons h _ ih=>
  obtain⟨N,hN⟩:=ih;obtain⟨⟨r,s2⟩,N',⟨v0,h1,h2⟩,h3⟩:=h.ev.out;simp only at h1;subst h1;refine⟨max N N',fun m hm e he=> ?_⟩;rcases List.mem_cons.1 he with rfl|he
  ·exact⟨v0,s2,h3 m (by omega),h2,h.pure⟩
  ·exact hN m (by omega) e he
theorem dT.ok{l:List ME}(h:dT P l): ∃N0,∀m,N0≤m→MOk (aCO l) (cU P m):=by
 obtain⟨N0,hN⟩:=h.mem;exact⟨N0,fun m hm g args v hl=>hN m hm ⟨g,args,v⟩ (aCq hl)⟩
def aQ9(P:bA)(l:List ME)(n g:Nat)(args:List AV)(v:AV):Bool:=
 match(vV P (aCO l) n).call (.func g) args eB with
 |some (.ret w,_)=>match oM w,eD args with|some u,some us=>eqV u v&&dC v&&aE3 us args&&fH args|_,_=>false
 |_=>false
theorem aSg{l:List ME}(hl:dT P l){n g:Nat}{args:List AV}{v:AV}(h:aQ9 P l n g args v=true):Pf P g args v:=by
 unfold aQ9 at h;split at h
 ·rename_i w s' hc;split at h
  ·rename_i u us hu hus;simp only [Bool.and_eq_true] at h;obtain⟨N0,hN⟩:=hl.ok;refine⟨Ev.runT hN hc ⟨_,rfl,?_⟩,h.1.1.2,aMr ?_ h.2⟩
   ·rw [hu,aCA h.1.1.1]
   ·rw [hus,uQ h.1.2]
  ·cases h
 ·cases h
end
end Go.Fw
