/- Our own framework, the program's cooked code, and the proofs that a claim leans on: joined and shortened by a program of the prover's own. -/
import Derived.KernelRfl
import Derived.Test.YtelnnehpbkainaaGreatDoorPk2
set_option linter.unusedVariables false
set_option linter.unusedSimpArgs false
namespace Go.Fw
open Go
abbrev fE:=bA→Env→ASt→Option (AV×ASt)
def iJ(o:Option AV)(s:ASt):Option (AV×ASt):=match o with|some v=>some (v,s)|none=>none
def noF:fE:=fun _ _ _=>none
def aRI:IntKind→Nat
 | .i8=>128| .i16=>32768| .i32=>2147483648| .i64=>9223372036854775808
 | .u8=>256| .u16=>65536| .u32=>4294967296| .u64=>18446744073709551616
def aMz(k:IntKind)(n:Int):Int:=
 match n with
 | .ofNat m=>match Nat.blt m (aRI k) with|true=> .ofNat m|false=>k.wrap (.ofNat m)
 | .negSucc m=>k.wrap (.negSucc m)
theorem aPn(k:IntKind)(n:Int):aMz k n=k.wrap n:=by
 cases n with
 |negSucc m=>rfl
 |ofNat m=>
  simp only [aMz];cases h:Nat.blt m (aRI k) with
  |false=>rfl
  |true=>
   have h':m<aRI k:=Nat.blt_eq.mp h;unfold IntKind.wrap;cases k<;>simp [aRI,IntKind.signed,IntKind.bits] at h'⊢ <;>(try split)<;>omega
def aU6:Int→Int→Int
 | .ofNat m,.ofNat n=> .ofNat (Nat.add m n)
 |a,b=>a+b
theorem aSM(a b:Int):aU6 a b=a+b:=by cases a<;>cases b<;>rfl
def aUH:Int→Int→Int
 | .ofNat m,.ofNat n=>match Nat.ble n m with|true=> .ofNat (Nat.sub m n)|false=> .ofNat m- .ofNat n
 |a,b=>a-b
theorem aSj(a b:Int):aUH a b=a-b:=by
 cases a<;>cases b<;>try rfl
 rename_i m n;simp only [aUH];cases h:Nat.ble n m with
 |false=>rfl
 |true=>
  have:=Nat.le_of_ble_eq_true h;simp only [Int.ofNat_eq_natCast,Nat.sub_eq];omega
def ltQ:Int→Int→Bool
 | .ofNat m,.ofNat n=>Nat.blt m n
 |a,b=>decide (a<b)
theorem aTW(a b:Int):ltQ a b=decide (a<b):=by
 cases a<;>cases b<;>try rfl
 rename_i m n;simp only [ltQ,Int.ofNat_eq_natCast,Int.ofNat_lt];cases h:Nat.blt m n with
 |true=>exact(decide_eq_true (Nat.blt_eq.mp h)).symm
 |false=>exact(decide_eq_false (fun hlt=>by rw [Nat.blt_eq.mpr hlt] at h;cases h)).symm
def eqQ:Int→Int→Bool
 | .ofNat m,.ofNat n=>Nat.beq m n
 |a,b=>a==b
theorem aUj(a b:Int):eqQ a b=(a==b):=by
 cases a<;>cases b<;>try rfl
 rename_i m n;simp only [eqQ];cases h:Nat.beq m n with
 |true=>rw [Nat.eq_of_beq_eq_true h];simp
 |false=>
  have:m≠n:=fun hq=>by rw [hq,Nat.beq_refl] at h;cases h
  symm
  rw [beq_eq_false_iff_ne];intro hq;exact this (Int.ofNat.inj hq)
theorem aLo(a b:Int):decide (a≤b)= !decide (b<a):=by
 by_cases h:a≤b
 ·rw [decide_eq_true h,decide_eq_false (by omega)];rfl
 ·rw [decide_eq_false h,decide_eq_true (by omega)];rfl
def aRS(op:BinOp)(k:IntKind)(a b:Int):Option AV:=
 match op with
 | .add=>some (.int k (aMz k (aU6 a b)))
 | .sub=>some (.int k (aMz k (aUH a b)))
 | .eql=>some (.bool (eqQ a b))
 | .neq=>some (.bool (!eqQ a b))
 | .lss=>some (.bool (ltQ a b))
 | .leq=>some (.bool (!ltQ b a))
 | .gtr=>some (.bool (ltQ b a))
 | .geq=>some (.bool (!ltQ a b))
 |op=>kR op k a b
theorem aSe(op:BinOp)(k:IntKind)(a b:Int):aRS op k a b=kR op k a b:=by
 cases op<;>simp only [aRS,kR,aPn,aSM,aSj,aTW,aUj,aLo,bne,ge_iff_le,gt_iff_lt]
def aC1:IntKind→Nat
 | .i8=>0| .i16=>1| .i32=>2| .i64=>3| .u8=>4| .u16=>5| .u32=>6| .u64=>7
theorem aN7{k k':IntKind}(h:aC1 k=aC1 k'):k=k':=by cases k<;>cases k'<;>first|rfl|cases h
def aVc(op:BinOp)(x y:AV):Option AV:=
 match x with
 | .int k a=>
  match y with
  | .int k' b=>
   match op with
   | .shl=>aDz .shl (.int k a) (.int k' b)
   | .shr=>aDz .shr (.int k a) (.int k' b)
   |op=>match Nat.beq (aC1 k) (aC1 k') with|true=>aRS op k a b|false=>none
  |y=>aDz op (.int k a) y
 |x=>aDz op x y
theorem aRn(op:BinOp)(x y:AV):aVc op x y=aDz op x y:=by
 cases x with
 |int k a=>
  cases y with
  |int k' b=>
   have key:(match Nat.beq (aC1 k) (aC1 k') with|true=>aRS op k a b|false=>none)=if k=k' then kR op k a b else none:=by
    cases h:Nat.beq (aC1 k) (aC1 k') with
    |true=>rw [if_pos (aN7 (Nat.eq_of_beq_eq_true h))];exact aSe op k a b
    |false=>rw [if_neg (fun hq=>by rw [hq,Nat.beq_refl] at h;cases h)]
   cases op<;>first|rfl|exact key
  |_=>rfl
 |_=>rfl
def qMv(x:aQ):fE:=fun P e s=>some (evO P e x,s)
def aVl(c a b:aQ):fE:=fun P e s=>iJ (match evO P e c with| .bool t=>some (match t with|true=>evO P e a|false=>evO P e b)|_=>none) s
def aU7(x:aQ):fE:=fun P e s=>iJ (match iK (evO P e x) with|some v=>some (.aG v 0)|none=>none) s
def aUQ(z:List AV)(parts:List (Nat×Nat×aQ)):fE:=fun P e s=>iJ (match aEP z (parts.map fun p=>(p.1,p.2.1,evO P e p.2.2)) with|some cs=>some (.agg cs)|none=>none) s
def aRl(esz len:Nat)(z:List AV)(parts:List (Nat×aQ)):fE:=fun P e s=>iJ (
  match eD (parts.map fun p=>evO P e p.2) with
  |some vs=>
   if vs.all (fun v=>(cellsOf v).length==esz)&&decide (len*esz≤16777216) then
    match vS (List.replicate len (elemOf esz z)) ((parts.map (·.1)).zip vs) with
    |some xs=>some (.slice esz xs .full)
    |none=>none
   else none
  |none=>none) s
def aSs(x:aQ):fE:=fun P e s=>iJ (match evO P e x with| .ptr l o=>some (.ptr l o)| .aG v o=>some (.aG v o)| .func f a b=>some (.func f a b)| .yield l=>some (.yield l)|_=>none) s
def aWb(op:BinOp)(x y:aQ):fE:=fun P e s=>iJ (aVc op (evO P e x) (evO P e y)) s
def qEq(neg:Bool)(x y:aQ):fE:=fun P e s=>iJ (match eqA (evO P e x) (evO P e y) with|some b=>some (.bool (match neg with|true=> !b|false=>b))|none=>none) s
def aWp(neg:Bool)(ks:List KK)(x y:aQ):fE:=fun P e s=>iJ (
  match evO P e x,evO P e y with
  | .agg xs,.agg ys=>match uN ks xs ys with|some b=>some (.bool (match neg with|true=> !b|false=>b))|none=>none
  |_,_=>none) s
def aTZ(neg:Bool)(k:NK)(x:aQ):fE:=fun P e s=>iJ (match aFI k (evO P e x) with|some b=>some (.bool (match neg with|true=> !b|false=>b))|none=>none) s
def qUn(op:UnOp)(x:aQ):fE:=fun P e s=>iJ (bX P e (.un op x)) s
def aUF(k:IntKind)(x:aQ):fE:=fun P e s=>iJ (match evO P e x with| .int k' n=>some (.int k (if k=k' then n else k.wrap n))|_=>none) s
def aQI(t:Nat)(x:aQ):fE:=fun P e s=>iJ (match iK (evO P e x) with|some v=>some (.iface t v)|none=>none) s
def aR2(f:Nat)(a b:List aQ):fE:=fun P e s=>iJ (match eD (a.map (evO P e)),eD (b.map (evO P e)) with|some a,some b=>some (.func f a b)|_,_=>none) s
def aVg(esz:Nat)(x:aQ)(lo hi mx:Option aQ):fE:=fun P e s=>iJ (
  match evO P e x with
  | .slice sz xs o=>
   match cS P e xs.length mx,cS P e xs.length hi,cS P e 0 lo with
   |some m,some h,some l=>
    if l≤h&&h≤m&&m≤xs.length&&(sz=esz||xs.isEmpty)&&(mx.isNone||hi.isSome) then
     some (match lo,hi,mx with
      |none,none,none=> .slice sz xs o
      |_,_,some _=> .slice (szC sz ((xs.take h).drop l)) ((xs.take h).drop l) (if h=m then .full else .no)
      |_,_,_=> .slice (szC sz ((xs.take h).drop l)) ((xs.take h).drop l) .no)
    else none
   |_,_,_=>none
  | .cQ l0 off len cap sz=>
   match mx,cS P e len hi,cS P e 0 lo with
   |none,some h,some l=>if l≤h&&h≤len&&sz=esz&&(l=0||l<cap) then some (.cQ l0 (off+l*sz) (h-l) (cap-l) sz) else none
   |_,_,_=>none
  |_=>none) s
def aR6(x:aQ)(lo hi:Option aQ):fE:=fun P e s=>iJ (
  match evO P e x with
  | .str s=>
   match cS P e s.length hi,cS P e 0 lo with
   |some h,some l=>if l≤h&&h≤s.length then some (.str ((s.take h).drop l)) else none
   |_,_=>none
  |_=>none) s
def aVu(n esz:Nat)(x:aQ)(lo hi:Option aQ):fE:=fun P e s=>iJ (
  match evO P e x,cS P e n hi,cS P e 0 lo with
  | .aG v off,some h,some l=>
   if l≤h&&h≤n&&off+n*esz≤(cellsOf v).length then some (.slice esz (chunks esz (h-l) ((cellsOf v).drop (off+l*esz))) .no) else none
  | .ptr b off,some h,some l=>if l≤h&&h≤n&&(l=0||l<n) then some (.cQ b (off+l*esz) (h-l) (n-l) esz) else none
  |_,_,_=>none) s
def aRL(off:Nat)(x:aQ):fE:=fun P e s=>iJ (match evO P e x with| .ptr l o=>some (.ptr l (o+off))| .aG v o=>some (.aG v (o+off))|_=>none) s
def aT3(agg:Bool)(off sz:Nat)(x:aQ):fE:=fun P e s=>iJ (match evO P e x with| .agg cs=>partOf agg sz cs off|_=>none) s
def aVs(esz:Nat)(x i:aQ):fE:=fun P e s=>iJ (
  match evO P e x,jD (evO P e i) with
  | .slice sz xs _,some i=>if sz=esz then(match xs[i]? with|some x=>some (.aG x 0)|none=>none) else none
  | .cQ l off len _ sz,some i=>if sz=esz&&i<len then some (.ptr l (off+i*sz)) else none
  |_,_=>none) s
def aVa(n esz:Nat)(x i:aQ):fE:=fun P e s=>iJ (
  match evO P e x,jD (evO P e i) with
  | .ptr l o,some i=>if i<n then some (.ptr l (o+i*esz)) else none
  | .aG v o,some i=>if i<n then some (.aG v (o+i*esz)) else none
  |_,_=>none) s
def aSy(x i:aQ):fE:=fun P e s=>iJ (
  match evO P e x,jD (evO P e i) with
  | .str s,some i=>match s[i]? with|some b=>some (.int .u8 b.toNat)|none=>none
  |_,_=>none) s
def aRt(ok:Bool)(t:Nat)(z:AV)(x:aQ):fE:=fun P e s=>iJ (
  match evO P e x with
  | .iface t' v=>if t'=t then some (match ok with|true=> .tuple [v,.bool true]|false=>v) else(match ok with|true=>some (.tuple [z,.bool false])|false=>none)
  | .cI=>match ok with|true=>some (.tuple [z,.bool false])|false=>none
  |_=>none) s
def aO8(x:aQ)(i:Nat):fE:=fun P e s=>iJ (match evO P e x with| .tuple vs=>vs[i]?|_=>none) s
def aVr(x:aQ):fE:=fun P e s=>iJ (match evO P e x with| .slice _ xs _=>some (.int .i64 xs.length)| .cQ _ _ len _ _=>some (.int .i64 len)|_=>none) s
def aSH(x:aQ):fE:=fun P e s=>iJ (match evO P e x with| .str s=>some (.int .i64 s.length)|_=>none) s
def aVA(n:Nat):fE:=fun _ _ s=>some (.int .i64 n,s)
def aSr(mx:Bool)(xs:List aQ):fE:=fun P e s=>iJ (bX P e (.aBh mx xs)) s
def aVB(agg:Bool)(sz:Nat)(x:aQ):fE:=fun P e s=>iJ (
  match evO P e x with
  | .aG v off=>match agg with
   |true=>match off with
    |0=>if(cellsOf v).length=sz then some (.agg (cellsOf v)) else partOf true sz (cellsOf v) 0
    |off=>partOf true sz (cellsOf v) off
   |false=>(cellsOf v)[off]?
  | .ptr l off=>
   match s.blks[l]? with
   |some (.cells cs _)=>match agg with
    |true=>match partOf true sz cs off with|some v=>iK v|none=>none
    |false=>cs[off]?
   |_=>none
  |_=>none) s
def aSJ(ok:Bool)(kk:KK)(z:AV)(m k:aQ):fE:=fun P e s=>iJ (
  match evO P e m with
  | .map l=>
   match s.blks[l]? with
   |some (.map es)=>
    if keyOf kk (evO P e k) then
     match rI (evO P e k) es with
     |some (some v)=>some (match ok with|true=> .tuple [v,.bool true]|false=>v)
     |some none=>some (match ok with|true=> .tuple [z,.bool false]|false=>z)
     |none=>none
    else none
   |_=>none
  | .eQ=>some (match ok with|true=> .tuple [z,.bool false]|false=>z)
  |_=>none) s
def aWw(x:aQ):fE:=fun P e s=>match xH (evO P e x) with|true=>some (.ptr s.blks.length 0,{s with blks:=s.blks++ [.cells (cellsOf (evO P e x)) true]})|false=>none
def aUW(z:List AV):fE:=fun _ _ s=>some (.ptr s.blks.length 0,{s with blks:=s.blks++ [.cells z true]})
def aT4(sz:Nat)(a x:aQ):fE:=fun P e s=>
  match evO P e a with
  | .ptr l off=>
   match s.blks[l]? with
   |some (.cells cs true)=>
    if xH (evO P e x)&&(cellsOf (evO P e x)).length=sz&&off+sz≤cs.length then
     some (fW,mM s l (cellsOf (evO P e x)) (s.blks.set l (.cells (gK cs off (cellsOf (evO P e x))) true)))
    else none
   |_=>none
  |_=>none
def aT0:fE:=fun _ _ s=>some (.map s.blks.length,{s with blks:=s.blks++ [.map []]})
def aPG(esz bytes:Nat)(z:List AV)(l c:aQ):fE:=fun P e s=>
  match jD (evO P e l),jD (evO P e c) with
  |some l,some c=>
   if l≤c&&c*bytes≤big&&c≤big then some (.cQ s.blks.length 0 l c esz,{s with blks:=s.blks++ [.cells (aFz c z) true]}) else none
  |_,_=>none
def aRQ(kk:KK)(m k v:aQ):fE:=fun P e s=>
  match evO P e m,iK (evO P e v) with
  | .map l,some v=>
   match s.blks[l]? with
   |some (.map es)=>
    if keyOf kk (evO P e k) then
     match aEH (evO P e k) v es with
     |some es'=>some (fW,mM s l [v] (s.blks.set l (.map es')))
     |none=>none
    else none
   |_=>none
  |_,_=>none
def aOf(x:aQ):fE:=fun P e s=>match evO P e x with| .str t=>some (.iter s.blks.length,{s with blks:=s.blks++ [.iter t 0]})|_=>none
def aQj(it:aQ):fE:=fun P e s=>eX P e s (.oG it)
def aSa(tk:Bool)(esz bytes:Nat)(a x:aQ):fE:=fun P e s=>eX P e s (.append tk esz bytes a x)
def aU1(esz:Nat)(d x:aQ):fE:=fun P e s=>eX P e s (.copy esz d x)
inductive Sp where
 |plain (f:fE)
 |pend (z:List AV)
 |shut (d:Nat) (sz:Nat) (x:aQ)
 |defer (f:aQ) (args:List aQ)
 |panic (x:aQ)
 |aN (st:Bool) (f:aQ) (args:List aQ)
 |call (f:aQ) (args:List aQ)
noncomputable def aPU:AOp→Sp:=fun o=>AOp.rec
 (fun x=> .plain (qMv x)) (fun c a b=> .plain (aVl c a b)) (fun x=> .plain (aU7 x)) (fun x=> .plain (aWw x)) (fun z=> .pend z) (fun d sz x=> .shut d sz x)
 (fun z=> .plain (aUW z)) (fun z p=> .plain (aUQ z p)) (fun e l z p=> .plain (aRl e l z p)) (fun a sz x=> .plain (aVB a sz x)) (fun sz a x=> .plain (aT4 sz a x)) (fun x=> .plain (aSs x))
 (fun op x y=> .plain (aWb op x y)) (fun n x y=> .plain (qEq n x y)) (fun n ks x y=> .plain (aWp n ks x y)) (fun n k x=> .plain (aTZ n k x)) (fun op x=> .plain (qUn op x)) (fun k x=> .plain (aUF k x)) (fun t x=> .plain (aQI t x))
 (fun f a b=> .plain (aR2 f a b)) (.plain aT0) (fun e b z l c=> .plain (aPG e b z l c)) (fun e x l h m=> .plain (aVg e x l h m)) (fun x l h=> .plain (aR6 x l h)) (fun n e x l h=> .plain (aVu n e x l h))
 (fun o x=> .plain (aRL o x)) (fun a o sz x=> .plain (aT3 a o sz x)) (fun e x i=> .plain (aVs e x i)) (fun n e x i=> .plain (aVa n e x i)) (fun x i=> .plain (aSy x i)) (fun ok kk z m k=> .plain (aSJ ok kk z m k))
 (fun kk m k v=> .plain (aRQ kk m k v)) (fun x=> .plain (aOf x)) (fun x=> .plain (aQj x)) (fun ok t z x=> .plain (aRt ok t z x)) (fun x i=> .plain (aO8 x i)) (fun f xs=> .call f xs) (fun st f xs=> .aN st f xs)
 (fun x=> .plain (aVr x)) (fun x=> .plain (aSH x)) (fun n=> .plain (aVA n)) (fun tk e b a x=> .plain (aSa tk e b a x)) (fun e d x=> .plain (aU1 e d x)) (fun m xs=> .plain (aSr m xs)) (.plain noF)
 (fun f xs=> .defer f xs) (fun x=> .panic x) (.plain noF) o
theorem aO3{P:bA}{e:Env}{s:ASt}{op:AOp}(h1:gO P e s op=none)(h2:eX P e s op=none):dM P e s op=iJ (bX P e op) s:=by
 unfold dM iJ;cases bX P e op with
 |some v=>rfl
 |none=>simp only [h1,h2]
theorem aQi{P:bA}{e:Env}{s:ASt}{op:AOp}(h1:bX P e op=none)(h2:eX P e s op=none):dM P e s op=iJ (gO P e s op) s:=by
 unfold dM iJ;rw [h1];cases gO P e s op with
 |some v=>rfl
 |none=>simp only [h2]
theorem aLW{P:bA}{e:Env}{s:ASt}{op:AOp}(hp:plainO op=true): ∃f,aPU op= .plain f∧f P e s=dM P e s op:=by
 cases op with
 |pend z=>cases hp
 |shut d sz x=>cases hp
 |defer f xs=>cases hp
 |panic x=>cases hp
 |aN st f xs=>cases hp
 |call f xs=>cases hp
 |load a sz x=>exact⟨_,rfl,by rw [aQi (P:=P) (e:=e) (s:=s)]<;>rfl⟩
 |lookup ok kk z m k=>exact⟨_,rfl,by rw [aQi (P:=P) (e:=e) (s:=s)]<;>rfl⟩
 |bin op x y=>exact⟨_,rfl,by rw [aO3 (P:=P) (e:=e) (s:=s) (op:= .bin op x y) rfl rfl];exact congrArg (fun o=>iJ o s) (aRn op _ _)⟩
 |box x=>exact⟨_,rfl,rfl⟩
 |alloc z=>exact⟨_,rfl,rfl⟩
 |store sz a x=>exact⟨_,rfl,rfl⟩
 |mkMap=>exact⟨_,rfl,rfl⟩
 |mkSlice e b z l c=>exact⟨_,rfl,rfl⟩
 |mC kk m k v=>exact⟨_,rfl,rfl⟩
 |n4 x=>exact⟨_,rfl,rfl⟩
 |oG x=>exact⟨_,rfl,rfl⟩
 |append tk e b a x=>exact⟨_,rfl,rfl⟩
 |copy e d x=>exact⟨_,rfl,rfl⟩
 |aCW=>exact⟨_,rfl,rfl⟩
 |bad=>exact⟨_,rfl,rfl⟩
 |_=>exact⟨_,rfl,by rw [aO3 (P:=P) (e:=e) (s:=s)]<;>rfl⟩
def aBq{α:Type}:Tr→List Bool→AV→(Tr→α)→α
 |t,[],v,k=>match t with| .nil=>k (.node (some v) .nil .nil)| .node _ l r=>k (.node (some v) l r)
 |t,true::p,v,k=>match t with| .nil=>aBq .nil p v fun l'=>k (.node none l' .nil)| .node u l r=>aBq l p v fun l'=>k (.node u l' r)
 |t,false::p,v,k=>match t with| .nil=>aBq .nil p v fun r'=>k (.node none .nil r')| .node u l r=>aBq r p v fun r'=>k (.node u l r')
theorem aHh{α:Type}: ∀(p:List Bool)(t:Tr)(v:AV)(k:Tr→α),aBq t p v k=k (t.set p v)
 | [],t,v,k=>by cases t<;>rfl
 |true::p,t,v,k=>by cases t<;>(simp only [aBq,aHh p];rfl)
 |false::p,t,v,k=>by cases t<;>(simp only [aBq,aHh p];rfl)
def aLz{α:Type}(fr:TF)(d:Option Nat)(v:AV)(k:TF→α):α:=
 match fr with
 |⟨⟨base,ov⟩,ds⟩=>match d with|none=>k ⟨⟨base,ov⟩,ds⟩|some i=>aBq ov (path i i) v fun ov'=>k ⟨⟨base,ov'⟩,ds⟩
theorem aDT{α:Type}(fr:TF)(d:Option Nat)(v:AV)(k:TF→α):aLz fr d v k=k (fr.put d v):=by
 obtain⟨⟨base,ov⟩,ds⟩:=fr;cases d with
 |none=>rfl
 |some i=>simp only [aLz,aHh];rfl
def pdK{α:Type}(d:Option Nat)(pd:List (Nat×Nat))(k:List (Nat×Nat)→α):α:=match pd with| []=>k []|x::xs=>k (aS d (x::xs))
theorem aGV{α:Type}(d:Option Nat)(pd:List (Nat×Nat))(k:List (Nat×Nat)→α):pdK d pd k=k (aS d pd):=by
 cases pd with
 |nil=>cases d<;>rfl
 |cons x xs=>rfl
def stK{α:Type}(s:ASt)(k:ASt→α):α:=match s with|⟨b,t,lb,lt⟩=>k ⟨b,t,lb,lt⟩
theorem aLB{α:Type}(s:ASt)(k:ASt→α):stK s k=k s:=rfl
abbrev tY:=Handler→bA→aAd→List (Nat×Nat)→TF→ASt→Option aOO
def aWg:tY:=fun _ _ _ _ fr s=>some (.norm fr s)
def aMj(d:Option Nat)(f:fE)(rest:tY):tY:=fun H P M pd fr s=>
 match f P fr.env.env s with
 |some (v,s1)=>stK s1 fun s1=>pdK d pd fun pd=>aLz fr d v fun fr=>rest H P M pd fr s1
 |none=>none
def aU8(d:Option Nat)(z:List AV)(rest:tY):tY:=fun H P M pd fr s=>
 match d with|some d'=>rest H P M ((d',z.length)::aS d pd) (fr.put (some d') .nX) s|none=>none
def aVb(d0:Option Nat)(d sz:Nat)(x:aQ)(rest:tY):tY:=fun H P M pd fr s=>
 match d0,iK (evO P fr.env.env x) with
 |none,some v=>match decide ((cellsOf v).length=sz)&&pd.any (fun p=>Nat.beq p.1 d&&Nat.beq p.2 sz) with|true=>rest H P M (aS (some d) pd) (fr.put (some d) (.aG v 0)) s|false=>none
 |_,_=>none
def aUX(d:Option Nat)(f:aQ)(args:List aQ)(rest:tY):tY:=fun H P M pd fr s=>
 match evO P fr.env.env f,eD (args.map (evO P fr.env.env)) with
 | .func g a b,some vs=>rest H P M (aS d pd) {env:=fr.env.fQ d fW,ds:= .call g (a++vs++b)::fr.ds} s
 |_,_=>none
def aTH(x:aQ):tY:=fun _ P _ _ fr s=>match evO P fr.env.env x with| .iface t v=>some (.pan (.iface t v) fr s)|_=>none
def aL1(d:Option Nat)(st:Bool)(f:aQ)(args:List aQ)(rest:tY):tY:=fun H P M pd fr s=>
 match evO P fr.env.env f,eD (args.map (evO P fr.env.env)) with
 | .func g a b,some vs=>
  match(!st&&isE s)||fH (a++vs++b) with
  |true=>
   match M g (a++vs++b) with
   |some v=>pdK d pd fun pd=>aLz fr d v fun fr=>rest H P M pd fr s
   |none=>
    match H.call (.func g) (a++vs++b) eB with
    |some (.ret v,s2)=>
     match oM v with
     |some v=>match isE s2||dC v with|true=>pdK d pd fun pd=>aLz fr d v fun fr=>rest H P M pd fr s|false=>none
     |none=>none
    |_=>none
  |false=>none
 |_,_=>none
def aQ2(d:Option Nat)(f:aQ)(args:List aQ)(rest:tY):tY:=fun H P M pd fr s=>
 match target (evO P fr.env.env f),tH s (args.map (evO P fr.env.env)) with
 |some (g,a,b),some (vs,s1)=>
  match H.call g (a++vs++b) s1 with
  |some (.ret v,s2)=>stK s2 fun s2=>pdK d pd fun pd=>aLz fr d v fun fr=>rest H P M pd fr s2
  |some (.panic v,s2)=>some (.pan v fr s2)
  |none=>none
 |_,_=>none
noncomputable def kOp(d:Option Nat)(o:Sp)(rest:tY):tY:=
 Sp.rec (fun f=>aMj d f rest) (fun z=>aU8 d z rest) (fun d0 sz x=>aVb d d0 sz x rest) (fun f xs=>aUX d f xs rest) (fun x=>aTH x) (fun st f xs=>aL1 d st f xs rest) (fun f xs=>aQ2 d f xs rest) o
def kGd(gd:Option (Nat×Bool))(d:Option Nat)(op rest:tY):tY:=fun H P M pd fr s=>
 match wanted fr.env.env gd with
 |none=>none
 |some false=>pdK d pd fun pd=>aLz fr d fW fun fr=>rest H P M pd fr s
 |some true=>op H P M pd fr s
noncomputable def aU0(i:AI)(rest:tY):tY:=kGd i.gd i.d (kOp i.d (aPU i.op) rest) rest
noncomputable def aOo(is:List AI):tY:=List.rec aWg (fun i _ r=>aU0 i r) is
theorem aMZ: ∀(is:List AI),aOo is=fun H P M pd fr s=>gL H P M is pd fr s
 | []=>rfl
 |⟨d,op,gd,pre⟩::rest=>by
  funext H P M pd fr s
  show kGd gd d (kOp d (aPU op) (aOo rest)) (aOo rest) H P M pd fr s=_;rw [aMZ rest];unfold kGd;simp only [gL,aGV,aDT];cases hw:wanted fr.env.env gd with
  |none=>rfl
  |some b=>
   cases b with
   |false=>rfl
   |true=>
    simp only;cases hp:plainO op with
    |true=>
     obtain⟨f,h1,h2⟩:=aLW (P:=P) (e:=fr.env.env) (s:=s) hp;rw [h1];show aMj d f (fun H P M pd fr s=>gL H P M rest pd fr s) H P M pd fr s=_;unfold aMj;rw [h2];simp only [aLB,aGV,aDT];cases op<;>first|rfl|cases hp
    |false=>
     cases op<;>first|(cases hp;done)|rfl|(simp only [kOp,aPU,aL1,aQ2,aLB,aGV,aDT];done)|(simp only [kOp,aPU,aL1,aQ2,aLB,aGV,aDT];rfl)
theorem aSO{H:Handler}{P:bA}{M:aAd}{is:List AI}{pd:List (Nat×Nat)}{fr:TF}{s:ASt}:aOo is H P M pd fr s=gL H P M is pd fr s:=by rw [aMZ]
abbrev uM:=Handler→bA→aAd→Option Nat→Nat→TF→ASt→Option CT
def aVv:uM:=fun _ _ _ _ _ fr s=>some ⟨.normal,fr,s⟩
def aUB(ops:tY):uM:=fun H P M _ _ fr s=>
 match ops H P M [] fr s with
 |some (.norm fr s)=>some ⟨.normal,fr,s⟩
 |some (.pan v fr s)=>some ⟨.panic v,fr,s⟩
 |none=>none
def aT8(a b:uM):uM:=fun H P M rd lf fr s=>
 match a H P M rd lf fr s with
 |some r=>match r.ex with| .normal=>b H P M rd lf r.fr r.s|_=>some r
 |none=>none
def aOG(c:aQ)(t f:uM):uM:=fun H P M rd lf fr s=>
 match evO P fr.env.env c with
 | .bool b=>match b with|true=>t H P M rd lf fr s|false=>f H P M rd lf fr s
 |_=>none
def aMl(id:Nat)(b:uM):uM:=fun H P M rd lf fr s=>
 match b H P M rd lf fr s with
 |some r=>match r.ex with| .exit j=>(match Nat.beq j id with|true=>some ⟨.normal,r.fr,r.s⟩|false=>some r)|_=>some r
 |none=>none
def aPm(b:uM):uM:=fun H P M rd lf fr s=>aCN (b H P M rd lf) lf fr s
def aUf(f:aQ)(params:List Nat)(assign body:AC):uM:=fun H P M rd lf fr s=>pI H P M rd lf (.nU f params assign body) fr s
def aVm(id:Nat):uM:=fun _ _ _ _ _ fr s=>some ⟨.exit id,fr,s⟩
def aVL:uM:=fun _ _ _ _ _ fr s=>some ⟨.ret,fr,s⟩
noncomputable def kC(c:AC):uM:=
 AC.rec aVv (fun _ ops=>aUB (aOo ops)) (fun _ _ a b=>aT8 a b) (fun c _ _ t e=>aOG c t e) (fun id _ b=>aMl id b) (fun _ b=>aPm b) (fun f ps a b _ _=>aUf f ps a b) (fun id=>aVm id) aVL (fun _ b=>b) c
theorem aI5{f g:TF→ASt→Option CT}(h: ∀fr s,f fr s=g fr s): ∀{n:Nat}{fr:TF}{s:ASt},aCN f n fr s=aCN g n fr s:=by
 have:f=g:=by funext fr s;exact h fr s
 subst this;intros;rfl
theorem aDf{H:Handler}{P:bA}{M:aAd}{rd:Option Nat}{lf:Nat}: ∀(c:AC){fr:TF}{s:ASt},kC c H P M rd lf fr s=pI H P M rd lf c fr s
 | .skip,_,_=>rfl
 | .exit _,_,_=>rfl
 | .ret,_,_=>rfl
 | .nU ..,_,_=>rfl
 | .scope b,fr,s=>by simp only [pI];exact aDf b
 | .reg d ops,fr,s=>by
  show aUB (aOo ops) H P M rd lf fr s=_;simp only [pI,aUB,aSO]
  rfl
 | .seq a b,fr,s=>by
  show aT8 (kC a) (kC b) H P M rd lf fr s=_;simp only [pI,aT8,aDf a,aDf b]
  rfl
 | .cond c t e,fr,s=>by
  show aOG c (kC t) (kC e) H P M rd lf fr s=_;simp only [pI,aOG,aDf t,aDf e]
  rfl
 | .block id b,fr,s=>by
  show aMl id (kC b) H P M rd lf fr s=_;simp only [pI,aMl,aDf b]
  rfl
 | .loop b,fr,s=>by
  show aPm (kC b) H P M rd lf fr s=_;simp only [pI,aPm];exact aI5 fun fr s=>aDf b
def aU9:dO→Option DM
 | .normal=>some .ret
 | .ret=>some .ret
 | .panic v=>some (.pan v)
 | .exit _=>none
def aVD(P:bA)(res:List ARV)(s:ASt)(e:Env):DM→ASt→Option (kO×ASt)
 | .pan v,s2=>some (.panic v,fL s (toks v) (dS s (pA v) s2))
 | .ret,s2=>
  match kQ P e s2 res with
  |some vs=>
   match pT s2 vs with
   |some (v,s3)=>match settle s v s3 with|(v,s4)=>some (.ret v,s4)
   |none=>none
  |none=>none
noncomputable def aRx(H:Handler)(P:bA)(M:aAd)(lf:Nat)(f:AF)(args:List AV)(s:ASt):Option (kO×ASt):=
 match Nat.ble args.length f.nt with
 |false=>none
 |true=>
 match kC f.body H P M none lf ⟨⟨hJ args,.nil⟩,[]⟩ (aU s) with
 |some r=>
  match aU9 r.ex with
  |some m=>match iX H r.fr.ds m r.s with|some (m',s2)=>aVD P f.res s r.fr.env.env m' s2|none=>none
  |none=>none
 |none=>none
theorem aSv{H:Handler}{P:bA}{M:aAd}{lf:Nat}{f:AF}{args:List AV}{s:ASt}:aRx H P M lf f args s=runT H P M lf f args s:=by
 unfold aRx runT;cases Nat.ble args.length f.nt with
 |false=>rfl
 |true=>
  simp only;rw [aDf];cases pI H P M none lf f.body ⟨⟨hJ args,.nil⟩,[]⟩ (aU s) with
  |none=>rfl
  |some r=>
   obtain⟨ex,fr,s1⟩:=r;have key: ∀m,(match iX H fr.ds m s1 with|some (m',s2)=>aVD P f.res s fr.env.env m' s2|none=>none)=(match iX H fr.ds m s1 with
     |some (.pan v,s2)=>some (.panic v,fL s (toks v) (dS s (pA v) s2))
     |some (.ret,s2)=>
      match kQ P fr.env.env s2 f.res with
      |some vs=>
       match pT s2 vs with
       |some (v,s3)=>match settle s v s3 with|(v,s4)=>some (.ret v,s4)
       |none=>none
      |none=>none
     |none=>none):=by
    intro m;cases iX H fr.ds m s1 with
    |none=>rfl
    |some x=>obtain⟨m',s2⟩:=x;cases m'<;>rfl
   cases ex with
   |normal=>exact key _
   |ret=>exact key _
   |panic v=>exact key _
   |exit i=>rfl
noncomputable def aGD(P:bA)(M:aAd)(n:Nat):Handler:=
 Nat.rec {call:=fun _ _ _=>none,dcall:=fun _ _ _ _=>none}
  (fun n h=>
   {call:=fun g args s=>AFn.rec (fun f=>match P.prim f with|some p=>p args s|none=>match P.fn f with|some af=>aRx h P M n af args s|none=>none) (fun l=>aEk h P M n l args s) g
    dcall:=fun f args m s=>match P.fn f with|some af=>aDD h P n af args m s|none=>none}) n
theorem aFc{P:bA}{M:aAd}: ∀(n:Nat),aGD P M n=vV P M n
 |0=>rfl
 |n+1=>by
  have ih:=aFc (P:=P) (M:=M) n;show Handler.mk _ _=_;simp only [vV]
  congr 1
  ·funext g args s
   cases g with
   |func f=>
    show(match P.prim f with|some p=>p args s|none=>match P.fn f with|some af=>aRx (aGD P M n) P M n af args s|none=>none)=_;rw [ih];simp only [aSv]
    rfl
   |yield l=>
    show aEk (aGD P M n) P M n l args s=_;rw [ih]
  ·funext f args m s
   show(match P.fn f with|some af=>aDD (aGD P M n) P n af args m s|none=>none)=_;rw [ih]
   rfl
noncomputable def aTq(P:bA)(l:List ME)(n g:Nat)(args:List AV)(v:AV):Bool:=
 match(aGD P (aCO l) n).call (.func g) args eB with
 |some (.ret w,_)=>match oM w,eD args with|some u,some us=>eqV u v&&dC v&&aE3 us args&&fH args|_,_=>false
 |_=>false
theorem cG{P:bA}{l:List ME}(hl:dT P l){n g:Nat}{args:List AV}{v:AV}(h:aTq P l n g args v=true):Pf P g args v:=by
 refine aSg hl (n:=n) ?_;unfold aTq at h;unfold aQ9;rw [←aFc];exact h
end Go.Fw
namespace Go.Proofs.YtelnnehpbkainaaGreatDoor
open Go Go.Fw
set_option maxRecDepth 100000
abbrev _root_.Go.Fw.AV.z:AV:= .slice 0 [] .no
abbrev _root_.Go.Fw.AV.e:AV:= .str []
noncomputable abbrev bG:bA:=aAP Code.tab gl0
def aNB:List ME:= []
theorem aNJ:dT bG aNB:= .nil
def aMF:List AV:= [(.str [102,117,110,32,108,101,116,32,114,101,99,32,105,110,32,105,102,32,116,104,101,110,32,101,108,115,101,32,109,97,116,99,104,32,100,111,32,104,97,110,100,108,101,32,115,104,97,108,108,111,119,32,110,97,109,101,100,32,109,97,115,107,32,117,115,105,110,103,32,99,108,111,115,101,32,114,101,115,117,109,101,32,100,114,111,112,32,114,101,116,117,114,110,32,116,114,117,101,32,102,97,108,115,101,32,100,97,116,97,32,101,102,102,101,99,116,32,111,110,99,101,32,100,101,102,32,109,97,105,110])]
def aMy:AV:=(.slice 1 [(.str [102,117,110]),(.str [108,101,116]),(.str [114,101,99]),(.str [105,110]),(.str [105,102]),(.str [116,104,101,110]),(.str [101,108,115,101]),(.str [109,97,116,99,104]),(.str [100,111]),(.str [104,97,110,100,108,101]),(.str [115,104,97,108,108,111,119]),(.str [110,97,109,101,100]),(.str [109,97,115,107]),(.str [117,115,105,110,103]),(.str [99,108,111,115,101]),(.str [114,101,115,117,109,101]),(.str [100,114,111,112]),(.str [114,101,116,117,114,110]),(.str [116,114,117,101]),(.str [102,97,108,115,101]),(.str [100,97,116,97]),(.str [101,102,102,101,99,116]),(.str [111,110,99,101]),(.str [100,101,102]),(.str [109,97,105,110])] .no)
theorem aST:Pf bG 200 aMF aMy:=cG aNJ (n:=141) (by kernel_rfl)
def aMo:List ME:=⟨200,aMF,aMy⟩::aNB
theorem aNt:dT bG aMo:= .cons aST aNJ
def aMB:List AV:= [(.agg [(.i 6),(.i 0),.e,.e,(.slice 1 [(.str [121])] .no),(.slice 7 [(.agg [(.i 1),(.i 1),.e,.e,.z,.z,.z]),(.agg [(.i 0),(.i 0),(.str [121]),.e,.z,.z,.z])] .no),.z])]
def aMA:AV:=(.i 0)
theorem aSi:Pf bG 150 aMB aMA:=cG aNt (n:=44) (by kernel_rfl)
def aNF:List ME:=⟨150,aMB,aMA⟩::aMo
theorem aNG:dT bG aNF:= .cons aSi aNt
def aM2:List AV:= [(.agg [(.i 6),(.i 0),.e,.e,(.slice 1 [(.str [121])] .no),(.slice 7 [(.agg [(.i 1),(.i 1),.e,.e,.z,.z,.z]),(.agg [(.i 0),(.i 0),(.str [121]),.e,.z,.z,.z])] .no),.z]),(.str [107])]
def aMJ:AV:=(.tuple [(.bool true),(.i 0)])
theorem aRA:Pf bG 13 aM2 aMJ:=cG aNG (n:=40) (by kernel_rfl)
def aML:List ME:=⟨13,aM2,aMJ⟩::aNF
theorem aM9:dT bG aML:= .cons aRA aNG
def aNl:List AV:= [(.agg [(.i 0),(.i 0),(.str [107]),.e,.z,.z,.z]),(.str [107])]
def aMt:AV:=(.i 0)
theorem aR8:Pf bG 46 aNl aMt:=cG aM9 (n:=44) (by kernel_rfl)
def aMK:List ME:=⟨46,aNl,aMt⟩::aML
theorem aMx:dT bG aMK:= .cons aR8 aM9
def aMs:List AV:= [(.agg [(.i 18),(.i 0),(.str [107]),.e,.z,(.slice 7 [(.agg [(.i 1),(.i 1),.e,.e,.z,.z,.z])] .no),.z])]
def aNb:AV:=(.i 0)
theorem aRT:Pf bG 150 aMs aNb:=cG aMx (n:=41) (by kernel_rfl)
def aNC:List ME:=⟨150,aMs,aNb⟩::aMK
theorem aMP:dT bG aNC:= .cons aRT aMx
def aM3:List AV:= [(.agg [(.i 6),(.i 0),.e,.e,(.slice 1 [(.str [117])] .no),(.slice 7 [(.agg [(.i 19),(.i 0),(.str [107]),.e,.z,.z,.z]),(.agg [(.i 1),(.i 1),.e,.e,.z,.z,.z])] .no),.z])]
def aNs:AV:=(.i 0)
theorem aRB:Pf bG 150 aM3 aNs:=cG aMP (n:=44) (by kernel_rfl)
def aMV:List ME:=⟨150,aM3,aNs⟩::aNC
theorem aME:dT bG aMV:= .cons aRB aMP
def aNw:List AV:= [(.agg [(.i 8),(.i 0),.e,.e,.z,(.slice 7 [(.agg [(.i 0),(.i 0),(.str [98]),.e,.z,.z,.z]),(.agg [(.i 18),(.i 0),(.str [107]),.e,.z,(.slice 7 [(.agg [(.i 1),(.i 1),.e,.e,.z,.z,.z])] .no),.z]),(.agg [(.i 6),(.i 0),.e,.e,(.slice 1 [(.str [117])] .no),(.slice 7 [(.agg [(.i 19),(.i 0),(.str [107]),.e,.z,.z,.z]),(.agg [(.i 1),(.i 1),.e,.e,.z,.z,.z])] .no),.z])] .no),.z])]
def aNe:AV:=(.i 0)
theorem aRW:Pf bG 150 aNw aNe:=cG aME (n:=44) (by kernel_rfl)
def aMR:List ME:=⟨150,aNw,aNe⟩::aMV
theorem aNd:dT bG aMR:= .cons aRW aME
def aMH:List AV:= [(.agg [(.i 8),(.i 0),.e,.e,.z,(.slice 7 [(.agg [(.i 0),(.i 0),(.str [98]),.e,.z,.z,.z]),(.agg [(.i 18),(.i 0),(.str [107]),.e,.z,(.slice 7 [(.agg [(.i 1),(.i 1),.e,.e,.z,.z,.z])] .no),.z]),(.agg [(.i 6),(.i 0),.e,.e,(.slice 1 [(.str [117])] .no),(.slice 7 [(.agg [(.i 19),(.i 0),(.str [107]),.e,.z,.z,.z]),(.agg [(.i 1),(.i 1),.e,.e,.z,.z,.z])] .no),.z])] .no),.z]),(.str [107])]
def aMM:AV:=(.i 0)
theorem aRD:Pf bG 46 aMH aMM:=cG aNd (n:=39) (by kernel_rfl)
def aNI:List ME:=⟨46,aMH,aMM⟩::aMR
theorem aNi:dT bG aNI:= .cons aRD aNd
def aNj:List AV:= [(.agg [(.i 8),(.i 0),.e,.e,.z,(.slice 7 [(.agg [(.i 0),(.i 0),(.str [98]),.e,.z,.z,.z]),(.agg [(.i 18),(.i 0),(.str [107]),.e,.z,(.slice 7 [(.agg [(.i 1),(.i 1),.e,.e,.z,.z,.z])] .no),.z]),(.agg [(.i 6),(.i 0),.e,.e,(.slice 1 [(.str [117])] .no),(.slice 7 [(.agg [(.i 19),(.i 0),(.str [107]),.e,.z,.z,.z]),(.agg [(.i 1),(.i 1),.e,.e,.z,.z,.z])] .no),.z])] .no),.z]),(.str [107])]
def aNg:AV:=(.tuple [(.i 2),.z,(.i 0)])
theorem aSc:Pf bG 15 aNj aNg:=cG aNi (n:=22) (by kernel_rfl)
def aNz:List ME:=⟨15,aNj,aNg⟩::aNI
theorem aMO:dT bG aNz:= .cons aSc aNi
def aNp:List AV:= [(.agg [(.i 6),(.i 0),.e,.e,(.slice 1 [(.str [121])] .no),(.slice 7 [(.agg [(.i 18),(.i 0),(.str [107]),.e,.z,(.slice 7 [(.agg [(.i 1),(.i 1),.e,.e,.z,.z,.z])] .no),.z]),(.agg [(.i 18),(.i 0),(.str [107]),.e,.z,(.slice 7 [(.agg [(.i 1),(.i 1),.e,.e,.z,.z,.z])] .no),.z])] .no),.z])]
def aMu:AV:=(.tuple [(.agg [(.i 2995),(.i 3)]),(.i 0)])
theorem aRU:Pf bG 113 aNp aMu:=cG aMO (n:=43) (by kernel_rfl)
def aJD:List ME:=⟨113,aNp,aMu⟩::aNz
theorem aKK:dT bG aJD:= .cons aRU aMO
def aJQ:List AV:= [(.agg [(.i 6),(.i 0),.e,.e,(.slice 1 [(.str [121])] .no),(.slice 7 [(.agg [(.i 18),(.i 0),(.str [107]),.e,.z,(.slice 7 [(.agg [(.i 1),(.i 1),.e,.e,.z,.z,.z])] .no),.z]),(.agg [(.i 18),(.i 0),(.str [107]),.e,.z,(.slice 7 [(.agg [(.i 1),(.i 1),.e,.e,.z,.z,.z])] .no),.z])] .no),.z]),(.str [107])]
def aIe:AV:=(.tuple [(.i 0),(.slice 1 [(.i 1)] .no),(.i 10)])
theorem aPT:Pf bG 15 aJQ aIe:=cG aKK (n:=40) (by kernel_rfl)
def aJr:List ME:=⟨15,aJQ,aIe⟩::aJD
theorem aH2:dT bG aJr:= .cons aPT aKK
def aLi:List AV:= [(.agg [(.i 8),(.i 0),.e,.e,.z,(.slice 7 [(.agg [(.i 0),(.i 0),(.str [98]),.e,.z,.z,.z]),(.agg [(.i 18),(.i 0),(.str [107]),.e,.z,(.slice 7 [(.agg [(.i 1),(.i 1),.e,.e,.z,.z,.z])] .no),.z]),(.agg [(.i 6),(.i 0),.e,.e,(.slice 1 [(.str [117])] .no),(.slice 7 [(.agg [(.i 19),(.i 0),(.str [107]),.e,.z,.z,.z]),(.agg [(.i 1),(.i 1),.e,.e,.z,.z,.z])] .no),.z])] .no),.z]),(.str [107])]
def aKs:AV:=(.tuple [(.slice 1 [(.slice 1 [(.i 1)] .no),(.slice 1 [(.i 2),(.i 0)] .no)] .no),(.i 0)])
theorem aOM:Pf bG 18 aLi aKs:=cG aH2 (n:=22) (by kernel_rfl)
def aIc:List ME:=⟨18,aLi,aKs⟩::aJr
theorem aKt:dT bG aIc:= .cons aOM aH2
def aJZ:List AV:= [(.agg [(.str [65,115,107]),(.slice 14 [(.agg [(.str [97,115,107]),(.i 2),(.i 0),.e,.z,.z,(.i 0),(.i 2),(.i 0),.e,.z,.z,(.i 0),(.bool true)]),(.agg [(.str [116,101,108,108]),(.i 2),(.i 0),.e,.z,.z,(.i 0),(.i 4),(.i 0),.e,.z,.z,(.i 0),(.bool false)])] .no)])]
def aI8:AV:=(.i 0)
theorem aOH:Pf bG 146 aJZ aI8:=cG aKt (n:=40) (by kernel_rfl)
def aIa:List ME:=⟨146,aJZ,aI8⟩::aIc
theorem aKj:dT bG aIa:= .cons aOH aKt
def aJF:List AV:= [(.agg [(.str [84,105,99,107]),(.slice 14 [(.agg [(.str [116,105,99,107]),(.i 4),(.i 0),.e,.z,.z,(.i 0),(.i 2),(.i 0),.e,.z,.z,(.i 0),(.bool true)])] .no)])]
def aJ5:AV:=(.i 0)
theorem aRd:Pf bG 146 aJF aJ5:=cG aKj (n:=40) (by kernel_rfl)
def aH9:List ME:=⟨146,aJF,aJ5⟩::aIa
theorem aKI:dT bG aH9:= .cons aRd aKj
def aIt:List AV:= [(.agg [(.i 14),(.i 0),(.str [65,115,107]),.e,.z,(.slice 7 [(.agg [(.i 12),(.i 0),(.str [97,115,107]),.e,.z,(.slice 7 [(.agg [(.i 1),(.i 1),.e,.e,.z,.z,.z])] .no),.z])] .no),(.slice 9 [(.agg [(.str [114,101,116,117,114,110]),(.slice 1 [(.str [120])] .no),(.i 0),(.i 0),(.str [120]),.e,.z,.z,.z]),(.agg [(.str [97,115,107]),(.slice 1 [(.str [120]),(.str [107])] .no),(.i 18),(.i 0),(.str [107]),.e,.z,(.slice 7 [(.agg [(.i 1),(.i 1),.e,.e,.z,.z,.z])] .no),.z]),(.agg [(.str [116,101,108,108]),(.slice 1 [(.str [120]),(.str [107])] .no),(.i 5),(.i 0),.e,.e,.z,(.slice 7 [(.agg [(.i 0),(.i 0),(.str [107]),.e,.z,.z,.z]),(.agg [(.i 3),(.i 0),.e,.e,.z,.z,.z])] .no),.z])] .no)]),(.i 1)]
def aH4:AV:=(.i 0)
theorem aP5:Pf bG 213 aIt aH4:=cG aKI (n:=41) (by kernel_rfl)
def aHZ:List ME:=⟨213,aIt,aH4⟩::aH9
theorem aK5:dT bG aHZ:= .cons aP5 aKI
def aJd:List AV:= [(.agg [(.i 14),(.i 0),(.str [65,115,107]),.e,.z,(.slice 7 [(.agg [(.i 12),(.i 0),(.str [97,115,107]),.e,.z,(.slice 7 [(.agg [(.i 1),(.i 1),.e,.e,.z,.z,.z])] .no),.z])] .no),(.slice 9 [(.agg [(.str [114,101,116,117,114,110]),(.slice 1 [(.str [120])] .no),(.i 0),(.i 0),(.str [120]),.e,.z,.z,.z]),(.agg [(.str [97,115,107]),(.slice 1 [(.str [120]),(.str [107])] .no),(.i 18),(.i 0),(.str [107]),.e,.z,(.slice 7 [(.agg [(.i 1),(.i 1),.e,.e,.z,.z,.z])] .no),.z]),(.agg [(.str [116,101,108,108]),(.slice 1 [(.str [120]),(.str [107])] .no),(.i 5),(.i 0),.e,.e,.z,(.slice 7 [(.agg [(.i 0),(.i 0),(.str [107]),.e,.z,.z,.z]),(.agg [(.i 3),(.i 0),.e,.e,.z,.z,.z])] .no),.z])] .no)]),(.i 2)]
def aJx:AV:=(.i 0)
theorem aPw:Pf bG 213 aJd aJx:=cG aK5 (n:=41) (by kernel_rfl)
def aKA:List ME:=⟨213,aJd,aJx⟩::aHZ
theorem aI7:dT bG aKA:= .cons aPw aK5
def aK2:List AV:= [(.agg [(.i 14),(.i 0),(.str [65,115,107]),.e,.z,(.slice 7 [(.agg [(.i 12),(.i 0),(.str [97,115,107]),.e,.z,(.slice 7 [(.agg [(.i 1),(.i 1),.e,.e,.z,.z,.z])] .no),.z])] .no),(.slice 9 [(.agg [(.str [114,101,116,117,114,110]),(.slice 1 [(.str [120])] .no),(.i 0),(.i 0),(.str [120]),.e,.z,.z,.z]),(.agg [(.str [97,115,107]),(.slice 1 [(.str [120]),(.str [107])] .no),(.i 18),(.i 0),(.str [107]),.e,.z,(.slice 7 [(.agg [(.i 1),(.i 1),.e,.e,.z,.z,.z])] .no),.z]),(.agg [(.str [116,101,108,108]),(.slice 1 [(.str [120]),(.str [107])] .no),(.i 5),(.i 0),.e,.e,.z,(.slice 7 [(.agg [(.i 0),(.i 0),(.str [107]),.e,.z,.z,.z]),(.agg [(.i 3),(.i 0),.e,.e,.z,.z,.z])] .no),.z])] .no)])]
def aJ6:AV:=(.i 0)
theorem aQk:Pf bG 195 aK2 aJ6:=cG aI7 (n:=42) (by kernel_rfl)
def aJw:List ME:=⟨195,aK2,aJ6⟩::aKA
theorem aH1:dT bG aJw:= .cons aQk aI7
def aKS:List AV:= [(.agg [(.i 12),(.i 0),(.str [97,115,107]),.e,.z,(.slice 7 [(.agg [(.i 1),(.i 1),.e,.e,.z,.z,.z])] .no),.z])]
def aIH:AV:=(.i 0)
theorem aOQ:Pf bG 150 aKS aIH:=cG aH1 (n:=41) (by kernel_rfl)
def aIU:List ME:=⟨150,aKS,aIH⟩::aJw
theorem aIn:dT bG aIU:= .cons aOQ aH1
def aJ1:List AV:= [(.agg [(.i 5),(.i 0),.e,.e,.z,(.slice 7 [(.agg [(.i 0),(.i 0),(.str [107]),.e,.z,.z,.z]),(.agg [(.i 3),(.i 0),.e,.e,.z,.z,.z])] .no),.z])]
def aLk:AV:=(.i 0)
theorem aQt:Pf bG 150 aJ1 aLk:=cG aIn (n:=44) (by kernel_rfl)
def aId:List ME:=⟨150,aJ1,aLk⟩::aIU
theorem aIk:dT bG aId:= .cons aQt aIn
def aIu:List AV:= [(.agg [(.i 14),(.i 0),(.str [65,115,107]),.e,.z,(.slice 7 [(.agg [(.i 12),(.i 0),(.str [97,115,107]),.e,.z,(.slice 7 [(.agg [(.i 1),(.i 1),.e,.e,.z,.z,.z])] .no),.z])] .no),(.slice 9 [(.agg [(.str [114,101,116,117,114,110]),(.slice 1 [(.str [120])] .no),(.i 0),(.i 0),(.str [120]),.e,.z,.z,.z]),(.agg [(.str [97,115,107]),(.slice 1 [(.str [120]),(.str [107])] .no),(.i 18),(.i 0),(.str [107]),.e,.z,(.slice 7 [(.agg [(.i 1),(.i 1),.e,.e,.z,.z,.z])] .no),.z]),(.agg [(.str [116,101,108,108]),(.slice 1 [(.str [120]),(.str [107])] .no),(.i 5),(.i 0),.e,.e,.z,(.slice 7 [(.agg [(.i 0),(.i 0),(.str [107]),.e,.z,.z,.z]),(.agg [(.i 3),(.i 0),.e,.e,.z,.z,.z])] .no),.z])] .no)])]
def aIi:AV:=(.tuple [(.agg [(.i 2991),(.i 3)]),(.i 0)])
theorem aQS:Pf bG 113 aIu aIi:=cG aIk (n:=45) (by kernel_rfl)
def aKo:List ME:=⟨113,aIu,aIi⟩::aId
theorem aJA:dT bG aKo:= .cons aQS aIk
def aKD:List AV:= [(.agg [.z,(.slice 2 [(.agg [(.str [65,115,107]),(.slice 14 [(.agg [(.str [97,115,107]),(.i 2),(.i 0),.e,.z,.z,(.i 0),(.i 2),(.i 0),.e,.z,.z,(.i 0),(.bool true)]),(.agg [(.str [116,101,108,108]),(.i 2),(.i 0),.e,.z,.z,(.i 0),(.i 4),(.i 0),.e,.z,.z,(.i 0),(.bool false)])] .no)]),(.agg [(.str [84,105,99,107]),(.slice 14 [(.agg [(.str [116,105,99,107]),(.i 4),(.i 0),.e,.z,.z,(.i 0),(.i 2),(.i 0),.e,.z,.z,(.i 0),(.bool true)])] .no)])] .no),.z,(.i 1),(.i 1),.e,.e,.z,.z,.z]),(.agg [(.i 14),(.i 0),(.str [65,115,107]),.e,.z,(.slice 7 [(.agg [(.i 12),(.i 0),(.str [97,115,107]),.e,.z,(.slice 7 [(.agg [(.i 1),(.i 1),.e,.e,.z,.z,.z])] .no),.z])] .no),(.slice 9 [(.agg [(.str [114,101,116,117,114,110]),(.slice 1 [(.str [120])] .no),(.i 0),(.i 0),(.str [120]),.e,.z,.z,.z]),(.agg [(.str [97,115,107]),(.slice 1 [(.str [120]),(.str [107])] .no),(.i 18),(.i 0),(.str [107]),.e,.z,(.slice 7 [(.agg [(.i 1),(.i 1),.e,.e,.z,.z,.z])] .no),.z]),(.agg [(.str [116,101,108,108]),(.slice 1 [(.str [120]),(.str [107])] .no),(.i 5),(.i 0),.e,.e,.z,(.slice 7 [(.agg [(.i 0),(.i 0),(.str [107]),.e,.z,.z,.z]),(.agg [(.i 3),(.i 0),.e,.e,.z,.z,.z])] .no),.z])] .no)])]
def aK1:AV:=(.i 0)
theorem aQM:Pf bG 56 aKD aK1:=cG aJA (n:=23) (by kernel_rfl)
def aKi:List ME:=⟨56,aKD,aK1⟩::aKo
theorem aIg:dT bG aKi:= .cons aQM aJA
def aKW:List AV:= [(.agg [.z,(.slice 2 [(.agg [(.str [65,115,107]),(.slice 14 [(.agg [(.str [97,115,107]),(.i 2),(.i 0),.e,.z,.z,(.i 0),(.i 2),(.i 0),.e,.z,.z,(.i 0),(.bool true)]),(.agg [(.str [116,101,108,108]),(.i 2),(.i 0),.e,.z,.z,(.i 0),(.i 4),(.i 0),.e,.z,.z,(.i 0),(.bool false)])] .no)]),(.agg [(.str [84,105,99,107]),(.slice 14 [(.agg [(.str [116,105,99,107]),(.i 4),(.i 0),.e,.z,.z,(.i 0),(.i 2),(.i 0),.e,.z,.z,(.i 0),(.bool true)])] .no)])] .no),.z,(.i 1),(.i 1),.e,.e,.z,.z,.z]),(.agg [(.i 14),(.i 0),(.str [65,115,107]),.e,.z,(.slice 7 [(.agg [(.i 12),(.i 0),(.str [97,115,107]),.e,.z,(.slice 7 [(.agg [(.i 1),(.i 1),.e,.e,.z,.z,.z])] .no),.z])] .no),(.slice 9 [(.agg [(.str [114,101,116,117,114,110]),(.slice 1 [(.str [120])] .no),(.i 0),(.i 0),(.str [120]),.e,.z,.z,.z]),(.agg [(.str [97,115,107]),(.slice 1 [(.str [120]),(.str [107])] .no),(.i 18),(.i 0),(.str [107]),.e,.z,(.slice 7 [(.agg [(.i 1),(.i 1),.e,.e,.z,.z,.z])] .no),.z]),(.agg [(.str [116,101,108,108]),(.slice 1 [(.str [120]),(.str [107])] .no),(.i 5),(.i 0),.e,.e,.z,(.slice 7 [(.agg [(.i 0),(.i 0),(.str [107]),.e,.z,.z,.z]),(.agg [(.i 3),(.i 0),.e,.e,.z,.z,.z])] .no),.z])] .no),.z])]
def aJj:AV:=(.tuple [.z,(.i 0)])
theorem aQ8:Pf bG 57 aKW aJj:=cG aIg (n:=22) (by kernel_rfl)
def aKm:List ME:=⟨57,aKW,aJj⟩::aKi
theorem aJf:dT bG aKm:= .cons aQ8 aIg
def aK4:List AV:= [(.agg [(.i 14),(.i 0),(.str [65,115,107]),.e,.z,(.slice 7 [(.agg [(.i 12),(.i 0),(.str [97,115,107]),.e,.z,(.slice 7 [(.agg [(.i 1),(.i 1),.e,.e,.z,.z,.z])] .no),.z])] .no),(.slice 9 [(.agg [(.str [114,101,116,117,114,110]),(.slice 1 [(.str [120])] .no),(.i 0),(.i 0),(.str [120]),.e,.z,.z,.z]),(.agg [(.str [97,115,107]),(.slice 1 [(.str [120]),(.str [107])] .no),(.i 0),(.i 0),(.str [120]),.e,.z,.z,.z]),(.agg [(.str [116,101,108,108]),(.slice 1 [(.str [120]),(.str [107])] .no),(.i 5),(.i 0),.e,.e,.z,(.slice 7 [(.agg [(.i 0),(.i 0),(.str [107]),.e,.z,.z,.z]),(.agg [(.i 3),(.i 0),.e,.e,.z,.z,.z])] .no),.z])] .no)]),(.i 1)]
def aIZ:AV:=(.i 0)
theorem aPc:Pf bG 213 aK4 aIZ:=cG aJf (n:=41) (by kernel_rfl)
def aIo:List ME:=⟨213,aK4,aIZ⟩::aKm
theorem aIx:dT bG aIo:= .cons aPc aJf
def aJK:List AV:= [(.agg [(.i 14),(.i 0),(.str [65,115,107]),.e,.z,(.slice 7 [(.agg [(.i 12),(.i 0),(.str [97,115,107]),.e,.z,(.slice 7 [(.agg [(.i 1),(.i 1),.e,.e,.z,.z,.z])] .no),.z])] .no),(.slice 9 [(.agg [(.str [114,101,116,117,114,110]),(.slice 1 [(.str [120])] .no),(.i 0),(.i 0),(.str [120]),.e,.z,.z,.z]),(.agg [(.str [97,115,107]),(.slice 1 [(.str [120]),(.str [107])] .no),(.i 0),(.i 0),(.str [120]),.e,.z,.z,.z]),(.agg [(.str [116,101,108,108]),(.slice 1 [(.str [120]),(.str [107])] .no),(.i 5),(.i 0),.e,.e,.z,(.slice 7 [(.agg [(.i 0),(.i 0),(.str [107]),.e,.z,.z,.z]),(.agg [(.i 3),(.i 0),.e,.e,.z,.z,.z])] .no),.z])] .no)]),(.i 2)]
def aJ4:AV:=(.i 0)
theorem aPV:Pf bG 213 aJK aJ4:=cG aIx (n:=41) (by kernel_rfl)
def aKV:List ME:=⟨213,aJK,aJ4⟩::aIo
theorem aI0:dT bG aKV:= .cons aPV aIx
def aK3:List AV:= [(.agg [(.i 14),(.i 0),(.str [65,115,107]),.e,.z,(.slice 7 [(.agg [(.i 12),(.i 0),(.str [97,115,107]),.e,.z,(.slice 7 [(.agg [(.i 1),(.i 1),.e,.e,.z,.z,.z])] .no),.z])] .no),(.slice 9 [(.agg [(.str [114,101,116,117,114,110]),(.slice 1 [(.str [120])] .no),(.i 0),(.i 0),(.str [120]),.e,.z,.z,.z]),(.agg [(.str [97,115,107]),(.slice 1 [(.str [120]),(.str [107])] .no),(.i 0),(.i 0),(.str [120]),.e,.z,.z,.z]),(.agg [(.str [116,101,108,108]),(.slice 1 [(.str [120]),(.str [107])] .no),(.i 5),(.i 0),.e,.e,.z,(.slice 7 [(.agg [(.i 0),(.i 0),(.str [107]),.e,.z,.z,.z]),(.agg [(.i 3),(.i 0),.e,.e,.z,.z,.z])] .no),.z])] .no)])]
def aKw:AV:=(.i 0)
theorem aQl:Pf bG 195 aK3 aKw:=cG aI0 (n:=42) (by kernel_rfl)
def aJg:List ME:=⟨195,aK3,aKw⟩::aKV
theorem aJc:dT bG aJg:= .cons aQl aI0
def aKN:List AV:= [(.agg [(.i 14),(.i 0),(.str [65,115,107]),.e,.z,(.slice 7 [(.agg [(.i 12),(.i 0),(.str [97,115,107]),.e,.z,(.slice 7 [(.agg [(.i 1),(.i 1),.e,.e,.z,.z,.z])] .no),.z])] .no),(.slice 9 [(.agg [(.str [114,101,116,117,114,110]),(.slice 1 [(.str [120])] .no),(.i 0),(.i 0),(.str [120]),.e,.z,.z,.z]),(.agg [(.str [97,115,107]),(.slice 1 [(.str [120]),(.str [107])] .no),(.i 0),(.i 0),(.str [120]),.e,.z,.z,.z]),(.agg [(.str [116,101,108,108]),(.slice 1 [(.str [120]),(.str [107])] .no),(.i 5),(.i 0),.e,.e,.z,(.slice 7 [(.agg [(.i 0),(.i 0),(.str [107]),.e,.z,.z,.z]),(.agg [(.i 3),(.i 0),.e,.e,.z,.z,.z])] .no),.z])] .no)])]
def aKZ:AV:=(.i 0)
theorem aP8:Pf bG 150 aKN aKZ:=cG aJc (n:=44) (by kernel_rfl)
def aIh:List ME:=⟨150,aKN,aKZ⟩::aJg
theorem aID:dT bG aIh:= .cons aP8 aJc
def aJB:List AV:= [(.agg [.z,(.slice 2 [(.agg [(.str [65,115,107]),(.slice 14 [(.agg [(.str [97,115,107]),(.i 2),(.i 0),.e,.z,.z,(.i 0),(.i 2),(.i 0),.e,.z,.z,(.i 0),(.bool true)]),(.agg [(.str [116,101,108,108]),(.i 2),(.i 0),.e,.z,.z,(.i 0),(.i 4),(.i 0),.e,.z,.z,(.i 0),(.bool false)])] .no)]),(.agg [(.str [84,105,99,107]),(.slice 14 [(.agg [(.str [116,105,99,107]),(.i 4),(.i 0),.e,.z,.z,(.i 0),(.i 2),(.i 0),.e,.z,.z,(.i 0),(.bool true)])] .no)])] .no),.z,(.i 1),(.i 1),.e,.e,.z,.z,.z]),(.agg [(.i 14),(.i 0),(.str [65,115,107]),.e,.z,(.slice 7 [(.agg [(.i 12),(.i 0),(.str [97,115,107]),.e,.z,(.slice 7 [(.agg [(.i 1),(.i 1),.e,.e,.z,.z,.z])] .no),.z])] .no),(.slice 9 [(.agg [(.str [114,101,116,117,114,110]),(.slice 1 [(.str [120])] .no),(.i 0),(.i 0),(.str [120]),.e,.z,.z,.z]),(.agg [(.str [97,115,107]),(.slice 1 [(.str [120]),(.str [107])] .no),(.i 0),(.i 0),(.str [120]),.e,.z,.z,.z]),(.agg [(.str [116,101,108,108]),(.slice 1 [(.str [120]),(.str [107])] .no),(.i 5),(.i 0),.e,.e,.z,(.slice 7 [(.agg [(.i 0),(.i 0),(.str [107]),.e,.z,.z,.z]),(.agg [(.i 3),(.i 0),.e,.e,.z,.z,.z])] .no),.z])] .no)])]
def aKc:AV:=(.i 0)
theorem aQa:Pf bG 56 aJB aKc:=cG aID (n:=23) (by kernel_rfl)
def aHO:List ME:=⟨56,aJB,aKc⟩::aIh
theorem aJI:dT bG aHO:= .cons aQa aID
def aIF:List AV:= [(.agg [(.i 14),(.i 0),(.str [65,115,107]),.e,.z,(.slice 7 [(.agg [(.i 12),(.i 0),(.str [97,115,107]),.e,.z,(.slice 7 [(.agg [(.i 1),(.i 1),.e,.e,.z,.z,.z])] .no),.z])] .no),(.slice 9 [(.agg [(.str [114,101,116,117,114,110]),(.slice 1 [(.str [120])] .no),(.i 0),(.i 0),(.str [120]),.e,.z,.z,.z]),(.agg [(.str [97,115,107]),(.slice 1 [(.str [120]),(.str [107])] .no),(.i 18),(.i 0),(.str [107]),.e,.z,(.slice 7 [(.agg [(.i 1),(.i 1),.e,.e,.z,.z,.z])] .no),.z]),(.agg [(.str [116,101,108,108]),(.slice 1 [(.str [120]),(.str [107])] .no),(.i 18),(.i 0),(.str [107]),.e,.z,(.slice 7 [(.agg [(.i 1),(.i 1),.e,.e,.z,.z,.z])] .no),.z])] .no)]),(.i 1)]
def aIG:AV:=(.i 0)
theorem aPv:Pf bG 213 aIF aIG:=cG aJI (n:=41) (by kernel_rfl)
def aH8:List ME:=⟨213,aIF,aIG⟩::aHO
theorem aJ0:dT bG aH8:= .cons aPv aJI
def aIC:List AV:= [(.agg [(.i 14),(.i 0),(.str [65,115,107]),.e,.z,(.slice 7 [(.agg [(.i 12),(.i 0),(.str [97,115,107]),.e,.z,(.slice 7 [(.agg [(.i 1),(.i 1),.e,.e,.z,.z,.z])] .no),.z])] .no),(.slice 9 [(.agg [(.str [114,101,116,117,114,110]),(.slice 1 [(.str [120])] .no),(.i 0),(.i 0),(.str [120]),.e,.z,.z,.z]),(.agg [(.str [97,115,107]),(.slice 1 [(.str [120]),(.str [107])] .no),(.i 18),(.i 0),(.str [107]),.e,.z,(.slice 7 [(.agg [(.i 1),(.i 1),.e,.e,.z,.z,.z])] .no),.z]),(.agg [(.str [116,101,108,108]),(.slice 1 [(.str [120]),(.str [107])] .no),(.i 18),(.i 0),(.str [107]),.e,.z,(.slice 7 [(.agg [(.i 1),(.i 1),.e,.e,.z,.z,.z])] .no),.z])] .no)]),(.i 2)]
def aHP:AV:=(.i 0)
theorem aO7:Pf bG 213 aIC aHP:=cG aJ0 (n:=41) (by kernel_rfl)
def aJW:List ME:=⟨213,aIC,aHP⟩::aH8
theorem aJT:dT bG aJW:= .cons aO7 aJ0
def aKp:List AV:= [(.agg [(.i 14),(.i 0),(.str [65,115,107]),.e,.z,(.slice 7 [(.agg [(.i 12),(.i 0),(.str [97,115,107]),.e,.z,(.slice 7 [(.agg [(.i 1),(.i 1),.e,.e,.z,.z,.z])] .no),.z])] .no),(.slice 9 [(.agg [(.str [114,101,116,117,114,110]),(.slice 1 [(.str [120])] .no),(.i 0),(.i 0),(.str [120]),.e,.z,.z,.z]),(.agg [(.str [97,115,107]),(.slice 1 [(.str [120]),(.str [107])] .no),(.i 18),(.i 0),(.str [107]),.e,.z,(.slice 7 [(.agg [(.i 1),(.i 1),.e,.e,.z,.z,.z])] .no),.z]),(.agg [(.str [116,101,108,108]),(.slice 1 [(.str [120]),(.str [107])] .no),(.i 18),(.i 0),(.str [107]),.e,.z,(.slice 7 [(.agg [(.i 1),(.i 1),.e,.e,.z,.z,.z])] .no),.z])] .no)])]
def aJJ:AV:=(.i 0)
theorem aQG:Pf bG 195 aKp aJJ:=cG aJT (n:=42) (by kernel_rfl)
def aI4:List ME:=⟨195,aKp,aJJ⟩::aJW
theorem aLf:dT bG aI4:= .cons aQG aJT
def aJv:List AV:= [(.agg [.z,(.slice 2 [(.agg [(.str [65,115,107]),(.slice 14 [(.agg [(.str [97,115,107]),(.i 2),(.i 0),.e,.z,.z,(.i 0),(.i 2),(.i 0),.e,.z,.z,(.i 0),(.bool true)]),(.agg [(.str [116,101,108,108]),(.i 2),(.i 0),.e,.z,.z,(.i 0),(.i 4),(.i 0),.e,.z,.z,(.i 0),(.bool false)])] .no)]),(.agg [(.str [84,105,99,107]),(.slice 14 [(.agg [(.str [116,105,99,107]),(.i 4),(.i 0),.e,.z,.z,(.i 0),(.i 2),(.i 0),.e,.z,.z,(.i 0),(.bool true)])] .no)])] .no),.z,(.i 14),(.i 0),(.str [65,115,107]),.e,.z,(.slice 7 [(.agg [(.i 12),(.i 0),(.str [97,115,107]),.e,.z,(.slice 7 [(.agg [(.i 1),(.i 1),.e,.e,.z,.z,.z])] .no),.z])] .no),(.slice 9 [(.agg [(.str [114,101,116,117,114,110]),(.slice 1 [(.str [120])] .no),(.i 0),(.i 0),(.str [120]),.e,.z,.z,.z]),(.agg [(.str [97,115,107]),(.slice 1 [(.str [120]),(.str [107])] .no),(.i 18),(.i 0),(.str [107]),.e,.z,(.slice 7 [(.agg [(.i 1),(.i 1),.e,.e,.z,.z,.z])] .no),.z]),(.agg [(.str [116,101,108,108]),(.slice 1 [(.str [120]),(.str [107])] .no),(.i 18),(.i 0),(.str [107]),.e,.z,(.slice 7 [(.agg [(.i 1),(.i 1),.e,.e,.z,.z,.z])] .no),.z])] .no)])]
def aLb:AV:=(.i 0)
theorem aPe:Pf bG 97 aJv aLb:=cG aLf (n:=45) (by kernel_rfl)
def aJb:List ME:=⟨97,aJv,aLb⟩::aI4
theorem aHU:dT bG aJb:= .cons aPe aLf
def aK0:List AV:= [(.agg [.z,(.slice 2 [(.agg [(.str [65,115,107]),(.slice 14 [(.agg [(.str [97,115,107]),(.i 2),(.i 0),.e,.z,.z,(.i 0),(.i 2),(.i 0),.e,.z,.z,(.i 0),(.bool true)]),(.agg [(.str [116,101,108,108]),(.i 2),(.i 0),.e,.z,.z,(.i 0),(.i 4),(.i 0),.e,.z,.z,(.i 0),(.bool false)])] .no)]),(.agg [(.str [84,105,99,107]),(.slice 14 [(.agg [(.str [116,105,99,107]),(.i 4),(.i 0),.e,.z,.z,(.i 0),(.i 2),(.i 0),.e,.z,.z,(.i 0),(.bool true)])] .no)])] .no),.z,(.i 14),(.i 0),(.str [65,115,107]),.e,.z,(.slice 7 [(.agg [(.i 12),(.i 0),(.str [97,115,107]),.e,.z,(.slice 7 [(.agg [(.i 1),(.i 1),.e,.e,.z,.z,.z])] .no),.z])] .no),(.slice 9 [(.agg [(.str [114,101,116,117,114,110]),(.slice 1 [(.str [120])] .no),(.i 0),(.i 0),(.str [120]),.e,.z,.z,.z]),(.agg [(.str [97,115,107]),(.slice 1 [(.str [120]),(.str [107])] .no),(.i 18),(.i 0),(.str [107]),.e,.z,(.slice 7 [(.agg [(.i 1),(.i 1),.e,.e,.z,.z,.z])] .no),.z]),(.agg [(.str [116,101,108,108]),(.slice 1 [(.str [120]),(.str [107])] .no),(.i 18),(.i 0),(.str [107]),.e,.z,(.slice 7 [(.agg [(.i 1),(.i 1),.e,.e,.z,.z,.z])] .no),.z])] .no)])]
def aK9:AV:=(.i 0)
theorem aPr:Pf bG 58 aK0 aK9:=cG aHU (n:=23) (by kernel_rfl)
def aIL:List ME:=⟨58,aK0,aK9⟩::aJb
theorem aIN:dT bG aIL:= .cons aPr aHU
def aLc:List AV:= [(.agg [.z,(.slice 2 [(.agg [(.str [65,115,107]),(.slice 14 [(.agg [(.str [97,115,107]),(.i 2),(.i 0),.e,.z,.z,(.i 0),(.i 2),(.i 0),.e,.z,.z,(.i 0),(.bool true)]),(.agg [(.str [116,101,108,108]),(.i 2),(.i 0),.e,.z,.z,(.i 0),(.i 4),(.i 0),.e,.z,.z,(.i 0),(.bool false)])] .no)]),(.agg [(.str [84,105,99,107]),(.slice 14 [(.agg [(.str [116,105,99,107]),(.i 4),(.i 0),.e,.z,.z,(.i 0),(.i 2),(.i 0),.e,.z,.z,(.i 0),(.bool true)])] .no)])] .no),.z,(.i 14),(.i 0),(.str [65,115,107]),.e,.z,(.slice 7 [(.agg [(.i 12),(.i 0),(.str [97,115,107]),.e,.z,(.slice 7 [(.agg [(.i 1),(.i 1),.e,.e,.z,.z,.z])] .no),.z])] .no),(.slice 9 [(.agg [(.str [114,101,116,117,114,110]),(.slice 1 [(.str [120])] .no),(.i 0),(.i 0),(.str [120]),.e,.z,.z,.z]),(.agg [(.str [97,115,107]),(.slice 1 [(.str [120]),(.str [107])] .no),(.i 18),(.i 0),(.str [107]),.e,.z,(.slice 7 [(.agg [(.i 1),(.i 1),.e,.e,.z,.z,.z])] .no),.z]),(.agg [(.str [116,101,108,108]),(.slice 1 [(.str [120]),(.str [107])] .no),(.i 18),(.i 0),(.str [107]),.e,.z,(.slice 7 [(.agg [(.i 1),(.i 1),.e,.e,.z,.z,.z])] .no),.z])] .no)]),(.agg [(.i 14),(.i 0),(.str [65,115,107]),.e,.z,(.slice 7 [(.agg [(.i 12),(.i 0),(.str [97,115,107]),.e,.z,(.slice 7 [(.agg [(.i 1),(.i 1),.e,.e,.z,.z,.z])] .no),.z])] .no),(.slice 9 [(.agg [(.str [114,101,116,117,114,110]),(.slice 1 [(.str [120])] .no),(.i 0),(.i 0),(.str [120]),.e,.z,.z,.z]),(.agg [(.str [97,115,107]),(.slice 1 [(.str [120]),(.str [107])] .no),(.i 18),(.i 0),(.str [107]),.e,.z,(.slice 7 [(.agg [(.i 1),(.i 1),.e,.e,.z,.z,.z])] .no),.z]),(.agg [(.str [116,101,108,108]),(.slice 1 [(.str [120]),(.str [107])] .no),(.i 18),(.i 0),(.str [107]),.e,.z,(.slice 7 [(.agg [(.i 1),(.i 1),.e,.e,.z,.z,.z])] .no),.z])] .no),(.slice 1 [(.i 0)] .no)])]
def aJR:AV:=(.tuple [(.slice 1 [(.i 0),(.i 3)] .no),(.i 10)])
theorem aPX:Pf bG 57 aLc aJR:=cG aIN (n:=22) (by kernel_rfl)
def aII:List ME:=⟨57,aLc,aJR⟩::aIL
theorem aI1:dT bG aII:= .cons aPX aIN
def aIf:List AV:= [(.agg [(.i 17),(.i 0),.e,.e,(.slice 1 [(.str [114]),(.str [84,105,99,107])] .no),(.slice 7 [(.agg [(.i 1),(.i 1),.e,.e,.z,.z,.z]),(.agg [(.i 4),(.i 0),.e,.e,(.slice 1 [(.str [121])] .no),(.slice 7 [(.agg [(.i 3),(.i 0),.e,.e,.z,.z,.z])] .no),.z]),(.agg [(.i 0),(.i 0),(.str [114]),.e,.z,.z,.z])] .no),.z])]
def aHX:AV:=(.i 0)
theorem aPo:Pf bG 195 aIf aHX:=cG aI1 (n:=41) (by kernel_rfl)
def aI3:List ME:=⟨195,aIf,aHX⟩::aII
theorem aIr:dT bG aI3:= .cons aPo aI1
def aKJ:List AV:= [(.agg [(.i 4),(.i 0),.e,.e,(.slice 1 [(.str [121])] .no),(.slice 7 [(.agg [(.i 3),(.i 0),.e,.e,.z,.z,.z])] .no),.z])]
def aKe:AV:=(.i 0)
theorem aPt:Pf bG 150 aKJ aKe:=cG aIr (n:=42) (by kernel_rfl)
def aIE:List ME:=⟨150,aKJ,aKe⟩::aI3
theorem aLl:dT bG aIE:= .cons aPt aIr
def aHW:List AV:= [(.agg [(.i 17),(.i 0),.e,.e,(.slice 1 [(.str [114]),(.str [84,105,99,107])] .no),(.slice 7 [(.agg [(.i 1),(.i 1),.e,.e,.z,.z,.z]),(.agg [(.i 4),(.i 0),.e,.e,(.slice 1 [(.str [121])] .no),(.slice 7 [(.agg [(.i 3),(.i 0),.e,.e,.z,.z,.z])] .no),.z]),(.agg [(.i 0),(.i 0),(.str [114]),.e,.z,.z,.z])] .no),.z])]
def aHS:AV:=(.i 0)
theorem aRa:Pf bG 150 aHW aHS:=cG aLl (n:=44) (by kernel_rfl)
def aJM:List ME:=⟨150,aHW,aHS⟩::aIE
theorem aIA:dT bG aJM:= .cons aRa aLl
def aHY:List AV:= [(.agg [.z,(.slice 2 [(.agg [(.str [65,115,107]),(.slice 14 [(.agg [(.str [97,115,107]),(.i 2),(.i 0),.e,.z,.z,(.i 0),(.i 2),(.i 0),.e,.z,.z,(.i 0),(.bool true)]),(.agg [(.str [116,101,108,108]),(.i 2),(.i 0),.e,.z,.z,(.i 0),(.i 4),(.i 0),.e,.z,.z,(.i 0),(.bool false)])] .no)]),(.agg [(.str [84,105,99,107]),(.slice 14 [(.agg [(.str [116,105,99,107]),(.i 4),(.i 0),.e,.z,.z,(.i 0),(.i 2),(.i 0),.e,.z,.z,(.i 0),(.bool true)])] .no)])] .no),.z,(.i 1),(.i 1),.e,.e,.z,.z,.z]),(.agg [(.i 17),(.i 0),.e,.e,(.slice 1 [(.str [114]),(.str [84,105,99,107])] .no),(.slice 7 [(.agg [(.i 1),(.i 1),.e,.e,.z,.z,.z]),(.agg [(.i 4),(.i 0),.e,.e,(.slice 1 [(.str [121])] .no),(.slice 7 [(.agg [(.i 3),(.i 0),.e,.e,.z,.z,.z])] .no),.z]),(.agg [(.i 0),(.i 0),(.str [114]),.e,.z,.z,.z])] .no),.z])]
def aIz:AV:=(.i 0)
theorem aQT:Pf bG 56 aHY aIz:=cG aIA (n:=23) (by kernel_rfl)
def aLn:List ME:=⟨56,aHY,aIz⟩::aJM
theorem aIY:dT bG aLn:= .cons aQT aIA
def aJS:List AV:= [(.agg [.z,(.slice 2 [(.agg [(.str [65,115,107]),(.slice 14 [(.agg [(.str [97,115,107]),(.i 2),(.i 0),.e,.z,.z,(.i 0),(.i 2),(.i 0),.e,.z,.z,(.i 0),(.bool true)]),(.agg [(.str [116,101,108,108]),(.i 2),(.i 0),.e,.z,.z,(.i 0),(.i 4),(.i 0),.e,.z,.z,(.i 0),(.bool false)])] .no)]),(.agg [(.str [84,105,99,107]),(.slice 14 [(.agg [(.str [116,105,99,107]),(.i 4),(.i 0),.e,.z,.z,(.i 0),(.i 2),(.i 0),.e,.z,.z,(.i 0),(.bool true)])] .no)])] .no),.z,(.i 1),(.i 1),.e,.e,.z,.z,.z]),(.agg [(.i 17),(.i 0),.e,.e,(.slice 1 [(.str [114]),(.str [84,105,99,107])] .no),(.slice 7 [(.agg [(.i 1),(.i 1),.e,.e,.z,.z,.z]),(.agg [(.i 4),(.i 0),.e,.e,(.slice 1 [(.str [121])] .no),(.slice 7 [(.agg [(.i 3),(.i 0),.e,.e,.z,.z,.z])] .no),.z]),(.agg [(.i 0),(.i 0),(.str [114]),.e,.z,.z,.z])] .no),.z,.z])]
def aJ7:AV:=(.tuple [.z,(.i 0)])
theorem aPa:Pf bG 57 aJS aJ7:=cG aIY (n:=21) (by kernel_rfl)
def aJk:List ME:=⟨57,aJS,aJ7⟩::aLn
theorem aJN:dT bG aJk:= .cons aPa aIY
def aIy:List AV:= [(.agg [(.i 17),(.i 0),.e,.e,(.slice 1 [(.str [114]),(.str [84,105,99,107]),(.str [65,115,107])] .no),(.slice 7 [(.agg [(.i 1),(.i 1),.e,.e,.z,.z,.z]),(.agg [(.i 4),(.i 0),.e,.e,(.slice 1 [(.str [121])] .no),(.slice 7 [(.agg [(.i 3),(.i 0),.e,.e,.z,.z,.z])] .no),.z]),(.agg [(.i 0),(.i 0),(.str [114]),.e,.z,.z,.z])] .no),.z])]
def aJP:AV:=(.i 0)
theorem aOW:Pf bG 195 aIy aJP:=cG aJN (n:=41) (by kernel_rfl)
def aIM:List ME:=⟨195,aIy,aJP⟩::aJk
theorem aJa:dT bG aIM:= .cons aOW aJN
def aK7:List AV:= [(.agg [(.i 17),(.i 0),.e,.e,(.slice 1 [(.str [114]),(.str [84,105,99,107]),(.str [65,115,107])] .no),(.slice 7 [(.agg [(.i 1),(.i 1),.e,.e,.z,.z,.z]),(.agg [(.i 4),(.i 0),.e,.e,(.slice 1 [(.str [121])] .no),(.slice 7 [(.agg [(.i 3),(.i 0),.e,.e,.z,.z,.z])] .no),.z]),(.agg [(.i 0),(.i 0),(.str [114]),.e,.z,.z,.z])] .no),.z])]
def aIP:AV:=(.i 0)
theorem aRb:Pf bG 150 aK7 aIP:=cG aJa (n:=44) (by kernel_rfl)
def aHQ:List ME:=⟨150,aK7,aIP⟩::aIM
theorem aJo:dT bG aHQ:= .cons aRb aJa
def aIj:List AV:= [(.agg [.z,(.slice 2 [(.agg [(.str [65,115,107]),(.slice 14 [(.agg [(.str [97,115,107]),(.i 2),(.i 0),.e,.z,.z,(.i 0),(.i 2),(.i 0),.e,.z,.z,(.i 0),(.bool true)]),(.agg [(.str [116,101,108,108]),(.i 2),(.i 0),.e,.z,.z,(.i 0),(.i 4),(.i 0),.e,.z,.z,(.i 0),(.bool false)])] .no)]),(.agg [(.str [84,105,99,107]),(.slice 14 [(.agg [(.str [116,105,99,107]),(.i 4),(.i 0),.e,.z,.z,(.i 0),(.i 2),(.i 0),.e,.z,.z,(.i 0),(.bool true)])] .no)])] .no),.z,(.i 1),(.i 1),.e,.e,.z,.z,.z]),(.agg [(.i 17),(.i 0),.e,.e,(.slice 1 [(.str [114]),(.str [84,105,99,107]),(.str [65,115,107])] .no),(.slice 7 [(.agg [(.i 1),(.i 1),.e,.e,.z,.z,.z]),(.agg [(.i 4),(.i 0),.e,.e,(.slice 1 [(.str [121])] .no),(.slice 7 [(.agg [(.i 3),(.i 0),.e,.e,.z,.z,.z])] .no),.z]),(.agg [(.i 0),(.i 0),(.str [114]),.e,.z,.z,.z])] .no),.z])]
def aH7:AV:=(.i 0)
theorem aOZ:Pf bG 56 aIj aH7:=cG aJo (n:=23) (by kernel_rfl)
def aP1:List ME:=⟨56,aIj,aH7⟩::aHQ
theorem aP0:dT bG aP1:= .cons aOZ aJo
def aPI:List AV:= []
def aOJ:AV:=(.bool true)
theorem aQp:Pf bG 21 aPI aOJ:=cG aP0 (n:=23) (by kernel_rfl)
theorem aO2:Pf bG 21 [] (.bool true):=aQp
def kws : List Str :=
  [[102, 117, 110], [108, 101, 116], [114, 101, 99], [105, 110], [105, 102], [116, 104, 101, 110], [101, 108, 115, 101], [109, 97, 116, 99, 104], [100, 111], [104, 97, 110, 100, 108, 101],
   [115, 104, 97, 108, 108, 111, 119], [110, 97, 109, 101, 100], [109, 97, 115, 107], [117, 115, 105, 110, 103], [99, 108, 111, 115, 101], [114, 101, 115, 117, 109, 101], [100, 114, 111, 112],
   [114, 101, 116, 117, 114, 110], [116, 114, 117, 101], [102, 97, 108, 115, 101], [100, 97, 116, 97], [101, 102, 102, 101, 99, 116], [111, 110, 99, 101], [100, 101, 102], [109, 97, 105, 110]]
def aOV:List AV:= [(.str [102,117,110,32,108,101,116,32,114,101,99,32,105,110,32,105,102,32,116,104,101,110,32,101,108,115,101,32,109,97,116,99,104,32,100,111,32,104,97,110,100,108,101,32,115,104,97,108,108,111,119,32,110,97,109,101,100,32,109,97,115,107,32,117,115,105,110,103,32,99,108,111,115,101,32,114,101,115,117,109,101,32,100,114,111,112,32,114,101,116,117,114,110,32,116,114,117,101,32,102,97,108,115,101,32,100,97,116,97,32,101,102,102,101,99,116,32,111,110,99,101,32,100,101,102,32,109,97,105,110])]
theorem aOr:Pf PP 200 aOV (slA 1 (kws.map .str)):=cG .nil (n:=150) (by kernel_rfl)
def aG0:List (AV×AV):=kws.map fun k=>(.str k,.int .i64 1)
def aSK:List (AV×AV)→List (AV×AV)→Bool
 | [],[]=>true
 |(a,b)::xs,(c,d)::ys=>match eqV a c&&eqV b d with|true=>aSK xs ys|false=>false
 |_,_=>false
theorem aM1: ∀{xs ys:List (AV×AV)},aSK xs ys=true→xs=ys
 | [],[],_=>rfl
 |(a,b)::xs,(c,d)::ys,h=>by
  simp only [aSK] at h;split at h
  ·rename_i hq;simp only [Bool.and_eq_true] at hq;rw [aCA hq.1,aCA hq.2,aM1 h]
  ·cases h
 | [],_::_,h=>by cases h
 |_::_,[],h=>by cases h
def aTd(r:Option (kO×ASt)):Bool:=
 match r with
 |some (.ret (.map l),s)=>match s.blks[l]? with|some (.map es)=>aSK es aG0|_=>false
 |_=>false
theorem aGJ:aTd ((aGD PP (aCO [⟨200,aOV,slA 1 (kws.map .str)⟩]) 60).call (.func 165) [] eB)=true:=by kernel_rfl
theorem aKr:Ev (fun n=>(cU PP n).call (.func 165) [] eB) (fun r=> ∃l,r.1= .ret (.map l)∧r.2.blks[l]?=some (.map aG0)):=by
 obtain⟨N0,hN⟩:=(dT.cons aOr .nil:dT PP _).ok;have h:=aGJ;rw [aFc] at h;unfold aTd at h;split at h
 ·rename_i l s hr;split at h
  ·rename_i es hb;exact Ev.runT hN hr ⟨l,rfl,by rw [hb,aM1 h]⟩
  ·cases h
 ·cases h
theorem aJL(s:Str): ∀l:List Str,rI (.str s) (l.map fun k=>(AV.str k,AV.int .i64 1))=some (if l.contains s then some (.int .i64 1) else none)
 | []=>rfl
 |k::l=>by
  simp only [List.map_cons,rI,tI,List.contains_cons,aJL s l];cases h:(s==k)<;>simp
theorem aRf{P:bA}{af:AF}{ex:dO}{fr:Fr}{s s3:ASt}{vs:List AV}{v1 v:AV}(h1:aNE ex=true)(h2:fr.ds= [])(h3:kQ P fr.env s af.res=some vs)(h4:pT s vs=some (v1,s3))(h5:oM v1=some v):aVC P af v ex fr s:=⟨h1,h2,vs,v1,s3,h3,h4,h5⟩
theorem aL8(s:Str):Pf PP 110 [.str s] (.bool (kws.contains s)):=by
 refine aMS rfl rfl rfl rfl (.cons (aRR s) .nil) ?_
 (repeat first|refine wu rfl ?_|refine wv rfl ?_|refine aA ?_|refine aB ?_|refine aC ?_|refine aO ?_|refine aJ ?_|refine aK ?_|refine bY ?_|refine zA ?_|refine aFN rfl ?_|refine aCt rfl ?_)
 refine aBo (by rfl) (by rfl) (by rfl) (aKr.mono ?_)
 rintro ⟨r,s2⟩ ⟨l,h1,h2⟩
 simp only at h1 h2;subst h1;show Wo PP _ _ _ _ _
 (repeat first|refine wu rfl ?_|refine wv rfl ?_|refine aA ?_|refine aB ?_|refine aC ?_|refine aO ?_|refine aJ ?_|refine aK ?_|refine bY ?_|refine zA ?_|refine aFN rfl ?_|refine aCt rfl ?_)
 have hf:=aJL s kws;cases hc:kws.contains s with
 |true=>
  rw [if_pos hc] at hf;refine wg (v:= .tuple [.int .i64 1,.bool true]) (s1:=s2) (by rfl) (by rfl) (by simp [dM,bX,gO,evO,upd,fQ,h2,Fw.keyOf,aG0,hf]) ?_
  (repeat first|refine wu rfl ?_|refine wv rfl ?_|refine aA ?_|refine aB ?_|refine aC ?_|refine aO ?_|refine aJ ?_|refine aK ?_|refine bY ?_|refine zA ?_|refine aFN rfl ?_|refine aCt rfl ?_)
  exact aRf rfl rfl rfl rfl rfl
 |false=>
  rw [if_neg (by rw [hc];decide)] at hf;refine wg (v:= .tuple [.int .i64 0,.bool false]) (s1:=s2) (by rfl) (by rfl) (by simp [dM,bX,gO,evO,upd,fQ,h2,Fw.keyOf,aG0,hf]) ?_
  (repeat first|refine wu rfl ?_|refine wv rfl ?_|refine aA ?_|refine aB ?_|refine aC ?_|refine aO ?_|refine aJ ?_|refine aK ?_|refine bY ?_|refine zA ?_|refine aFN rfl ?_|refine aCt rfl ?_)
  exact aRf rfl rfl rfl rfl rfl
noncomputable def u0(s:Str):Option Bool:=some (kws.contains s)
theorem aCm{s:Str}{r:Bool}(h:u0 s=some r):Pf PP 110 [.str s] (.bool r):=by cases h;exact aL8 s
theorem aI2(z:AV): ∀n,aFz n [z]=List.replicate n z
 |0=>rfl
 |n+1=>by simp only [aFz,aI2 z n,List.replicate_succ];rfl
theorem aEq(l:List Int):lG (l.map (AV.int .i64))=l.map (AV.int .i64):=by
 unfold lG
 induction l with
 |nil=>rfl
 |cons x r ih=>rw [List.map_cons,List.flatMap_cons,ih];rfl
theorem aC2: ∀(l:List Int)(r:List AV),eD (chunks 1 l.length (l.map (AV.int .i64)++r))=some (l.map (AV.int .i64))
 | [],r=>rfl
 |x::l,r=>by
  simp only [List.length_cons,List.map_cons,List.cons_append,chunks,List.headD_cons,List.drop_succ_cons,List.drop_zero,eD,iK,j2,aC2 l r]
theorem aQr: ∀l:List Int,jX (l.map (AV.int .i64))=false
 | []=>rfl
 |x::l=>by simp only [List.map_cons,jX,pA,aQr l,Bool.or_self]
theorem aQ4: ∀l:List Int,lV (l.map (AV.int .i64))=false
 | []=>rfl
 |x::l=>by simp only [List.map_cons,lV,toks,aQ4 l,Bool.or_self]
def aPQ:Nat:=1000000000
noncomputable def iV(path:List Int)(i:Int):Option (List Int):=if path.length<aPQ then some (path++ [i]) else none
theorem aOp(path:List Int)(i:Int)(h:path.length<1000000000):Pf PP 202 [slA 1 (path.map (AV.int .i64)),.int .i64 i] (slA 1 ((path++ [i]).map (AV.int .i64))):=by
 have hl:IntKind.wrap .i64 ((path.length:Int)+1)=((path.length+1:Nat):Int):=by rw [wrap_i64 (by omega) (by omega)];rfl
 refine aMS rfl rfl rfl (cV (fun _=>rfl) _) (.cons ⟨rfl,cV (fun _=>rfl) _⟩ (.cons (aRo _ _) .nil)) ?_
 repeat' refine aB ?_
 refine aC ?_;refine wu rfl ?_;refine aA ?_;refine aB ?_;refine aC ?_;refine wu rfl ?_;refine bI (f:=AV.int .i64) (l:=path) rfl (.no _) ?_;refine wu rfl ?_;refine bI (f:=AV.int .i64) (l:=path) rfl (.no _) ?_;refine wgp (v:= .int .i64 ((path.length+1:Nat):Int)) (s1:=eB) rfl rfl (congrArg (fun z=>some (AV.int .i64 z,eB)) hl) ?_;refine wgp (v:= .cQ 0 0 path.length (path.length+1) 1) (s1:={eB with blks:= [.cells (List.replicate (path.length+1) (.int .i64 0)) true]}) rfl rfl ?_ ?_
 ·have h1:jD (.int .i64 (path.length:Int))=some path.length:=by simp [jD]
  have h2:jD (.int .i64 ((path.length+1:Nat):Int))=some (path.length+1):=by clear hl h1;simp only [jD];rw [if_pos (by omega)];rfl
  have hb:big=1099511627776:=rfl;refine Eq.trans (aQO (n:=path.length) (m:=path.length+1) (by exact h1) (by exact h2) (by omega) (by clear hl;omega) (by clear hl;omega)) ?_;rw [aI2];rfl
 refine wu rfl ?_;refine aA ?_;refine aB ?_;refine aC ?_;refine wu rfl ?_;refine wu rfl ?_;refine wgp (v:= .int .i64 ((path.length:Nat):Int)) (s1:={eB with blks:= [.cells (path.map (AV.int .i64)++ [.int .i64 0]) true]}) rfl rfl ?_ ?_
 ·have he:elems {eB with blks:= [.cells (List.replicate (path.length+1) (.int .i64 0)) true]} 1 (slA 1 (path.map (AV.int .i64)))=some (path.map (AV.int .i64)):=(Sl.no _).elems _;have hs:gK (List.replicate (path.length+1) (AV.int .i64 0)) 0 (path.map (AV.int .i64))=path.map (AV.int .i64)++ [.int .i64 0]:=by
   simp [gK]
  have hL:=aQr path;have hT:=aQ4 path;have ht:(path.map (AV.int .i64)).take path.length=path.map (AV.int .i64):=List.take_of_length_le (by simp);refine Eq.trans (aNL (l:=0) (off:=0) (len:=path.length) (cap:=path.length+1) (cs:=List.replicate (path.length+1) (.int .i64 0)) (by rfl) (by exact he) (by rfl) (by simp) (by rw [ht,aEq];simp)) ?_;rw [ht,aEq,hs];simp [mM,hL,hT,low,eB]
 refine aA ?_;refine aB ?_;refine aC ?_;refine wu rfl ?_;refine wu rfl ?_;refine wu rfl ?_;refine wgp (v:= .cQ 0 0 (path.length+1) (path.length+1) 1) (s1:={eB with blks:= [.cells (path.map (AV.int .i64)++ [.int .i64 i]) true]}) rfl rfl ?_ ?_
 ·have hs:gK (path.map (AV.int .i64)++ [AV.int .i64 0]) (0+path.length*1) [AV.int .i64 i]=path.map (AV.int .i64)++ [.int .i64 i]:=by
   simp [gK]
  have hb:big=1099511627776:=rfl;refine Eq.trans (aOl (l:=0) (off:=0) (len:=path.length) (cap:=path.length+1) (ys:= [.int .i64 i]) (cs:=path.map (AV.int .i64)++ [.int .i64 0]) (by rfl) (by rfl) (by rfl) (by simp) (by clear hl;simp;omega) (by clear hl;simp;omega) (by decide) (by simp) (by rfl) (by simp) (by rfl)) ?_;have:lG [AV.int .i64 i]= [AV.int .i64 i]:=rfl;rw [this,hs]
  rfl
 refine wu rfl ?_;refine aA ?_;refine aK ?_;have hrow:=aC2 (path++ [i]) [];have hne:szC 1 ((path++ [i]).map (AV.int .i64))=1:=by cases path<;>rfl
 refine aRf (v1:= .slice 1 ((path++ [i]).map (AV.int .i64)) .no) (s3:={eB with blks:= [.cells (path.map (AV.int .i64)++ [.int .i64 i]) false]}) rfl rfl rfl ?_ ?_
 ·show aFO {eB with blks:= [.cells (path.map (AV.int .i64)++ [.int .i64 i]) true]} (.cQ 0 0 (path.length+1) (path.length+1) 1)=_;have hr:rowOf {eB with blks:= [.cells (path.map (AV.int .i64)++ [.int .i64 i]) true]} 0 0 (path.length+1) 1=some ((path++ [i]).map (AV.int .i64)):=by
   show(if 0+(path.length+1)*1≤(path.map (AV.int .i64)++ [AV.int .i64 i]).length then eD (chunks 1 (path.length+1) (path.map (AV.int .i64)++ [.int .i64 i])) else none)=_;rw [if_pos (by simp)];simpa using hrow
  simp only [aFO,hr]
  rfl
 ·simp only [slA,hne];rfl
theorem vJ{path:List Int}{i:Int}{r:List Int}(h:iV path i=some r):Pf PP 202 [slA 1 (path.map (AV.int .i64)),.int .i64 i] (slA 1 (r.map (AV.int .i64))):=by
 unfold iV at h;split at h
 ·rename_i hl;cases h;exact aOp path i hl
 ·cases h
noncomputable def aCb:Option Bool:=some true
theorem aHi{r:Bool}(h:aCb=some r):Pf PP 21 [] (.bool r):=by cases h;exact aO2
end Go.Proofs.YtelnnehpbkainaaGreatDoor
set_option maxRecDepth 100000
set_option maxHeartbeats 4000000
set_option synthInstance.maxSize 10000
namespace Go.Proofs.YtelnnehpbkainaaGreatDoor
open Go Go.Fw
noncomputable def oH(c1:Int):Option Int:=
 ((if(c1==(32))=true then some true
 else some (c1==(9)):Option Bool)>>=fun c2=>
 ((if c2=true then some true
 else some (c1==(10)):Option Bool)>>=fun c3=>
 (if c3=true then some (1)
 else((if(c1==(95))=true then some true
 else((if(decide ((97)≤c1))=true then some (decide (c1≤(122)))
 else some false:Option Bool)>>=fun c5=>
 some c5):Option Bool)>>=fun c4=>
 (if c4=true then some (2)
 else((if(decide ((65)≤c1))=true then some (decide (c1≤(90)))
 else some false:Option Bool)>>=fun c6=>
 (if c6=true then some (3)
 else((if(decide ((48)≤c1))=true then some (decide (c1≤(57)))
 else some false:Option Bool)>>=fun c7=>
 (if c7=true then some (4)
 else some (0))))))))))
theorem aFy: ∀(c1:Int)(r:Int),oH c1=some r→ ∀s:ASt,Fc PP (.func 164) [(.int .u8 c1)] s (bW s<|.i r):=by
 intro c1 r u;unfold oH at u;intro s;refine bD rfl rfl rfl ?_;have J:=St.clean s;generalize aU s=σ1 at J⊢;refine aB<|aC<|wu rfl<|aA<|aB<|aO<|aB<|aC<|wu rfl<|wu rfl<|wu rfl ?_;obtain⟨c2,hc2,u⟩:=bs u;refine aW 3 [(0,(.int .u8 c1)),(9,(.bool c2))] σ1 ?_<|fun e=> ?_
 ·refine aX (t:=6) rfl (fun hc=> ?_)<|fun hc=> ?_
  ·replace hc2:=bE hc hc2;refine wu rfl<|wu rfl<|wu rfl<|aA ?_;cases hc2;exact Kept.mk rfl<|.cons rfl<|.cons rfl .nil
  ·replace hc2:=bC hc hc2;refine wu rfl<|wu rfl<|wu rfl<|aA ?_;cases hc2;exact Kept.mk rfl<|.cons rfl<|.cons rfl .nil
 ·refine wu rfl ?_;obtain⟨c3,hc3,u⟩:=bs u;refine aW 3 [(0,(.int .u8 c1)),(13,(.bool c3))] σ1 ?_<|fun e=> ?_
  ·refine aX (t:=10) rfl (fun hc=> ?_)<|fun hc=> ?_
   ·replace hc3:=bE hc hc3;refine wu rfl<|wu rfl<|wu rfl<|aA ?_;cases hc3;exact Kept.mk rfl<|.cons rfl<|.cons rfl .nil
   ·replace hc3:=bC hc hc3;refine wu rfl<|wu rfl<|wu rfl<|aA ?_;cases hc3;exact Kept.mk rfl<|.cons rfl<|.cons rfl .nil
  ·refine wu rfl<|aA ?_;refine aF u rfl (fun hc u=> ?_)<|fun hc u=> ?_
   ·refine aB<|aC<|wu rfl<|aA<|aK ?_;cases u;exact⟨rfl,_,fun _=>rfl,aY rfl rfl rfl rfl J.ext⟩
   ·refine aB<|aC<|wu rfl<|wu rfl<|wu rfl ?_;obtain⟨c4,hc4,u⟩:=bs u;refine aW 7 [(0,(.int .u8 c1)),(24,(.bool c4))] σ1 ?_<|fun e=> ?_
    ·refine aX (t:=17) rfl (fun hc=> ?_)<|fun hc=> ?_
     ·replace hc4:=bE hc hc4;refine wu rfl<|wu rfl<|wu rfl<|wu rfl<|wu rfl<|wu rfl<|wu rfl<|aA ?_;cases hc4;exact Kept.mk rfl<|.cons rfl<|.cons rfl .nil
     ·replace hc4:=bC hc hc4
      iterate 3 refine wu rfl ?_
      obtain⟨c5,hc5,hc4⟩:=bs hc4;refine aW 3 [(0,(.int .u8 c1)),(17,(.bool false)),(23,(.bool c5))] σ1 ?_<|fun e=> ?_
      ·refine aX (t:=20) rfl (fun hc=> ?_)<|fun hc=> ?_
       ·replace hc5:=bE hc hc5;refine wu rfl<|wu rfl<|wu rfl<|aA ?_;cases hc5;exact Kept.mk rfl<|.cons rfl<|.cons rfl<|.cons rfl .nil
       ·replace hc5:=bC hc hc5;refine wu rfl<|wu rfl<|wu rfl<|aA ?_;cases hc5;exact Kept.mk rfl<|.cons rfl<|.cons rfl<|.cons rfl .nil
      ·refine wu rfl<|aA ?_;cases hc4;exact Kept.mk rfl<|.cons rfl<|.cons rfl .nil
    ·refine wu rfl<|aA ?_;refine aF u rfl (fun hc u=> ?_)<|fun hc u=> ?_
     ·refine aB<|aC<|wu rfl<|aA<|aK ?_;cases u;exact⟨rfl,_,fun _=>rfl,aY rfl rfl rfl rfl J.ext⟩
     ·refine aB<|aC<|wu rfl<|wu rfl<|wu rfl ?_;obtain⟨c6,hc6,u⟩:=bs u;refine aW 3 [(0,(.int .u8 c1)),(31,(.bool c6))] σ1 ?_<|fun e=> ?_
      ·refine aX (t:=28) rfl (fun hc=> ?_)<|fun hc=> ?_
       ·replace hc6:=bE hc hc6;refine wu rfl<|wu rfl<|wu rfl<|aA ?_;cases hc6;exact Kept.mk rfl<|.cons rfl<|.cons rfl .nil
       ·replace hc6:=bC hc hc6;refine wu rfl<|wu rfl<|wu rfl<|aA ?_;cases hc6;exact Kept.mk rfl<|.cons rfl<|.cons rfl .nil
      ·refine wu rfl<|aA ?_;refine aF u rfl (fun hc u=> ?_)<|fun hc u=> ?_
       ·refine aB<|aC<|wu rfl<|aA<|aK ?_;cases u;exact⟨rfl,_,fun _=>rfl,aY rfl rfl rfl rfl J.ext⟩
       ·refine aB<|aC<|wu rfl<|wu rfl<|wu rfl ?_;obtain⟨c7,hc7,u⟩:=bs u;refine aW 3 [(38,(.bool c7))] σ1 ?_<|fun e=> ?_
        ·refine aX (t:=35) rfl (fun hc=> ?_)<|fun hc=> ?_
         ·replace hc7:=bE hc hc7;refine wu rfl<|wu rfl<|wu rfl<|aA ?_;cases hc7;exact Kept.mk rfl<|.cons rfl .nil
         ·replace hc7:=bC hc hc7;refine wu rfl<|wu rfl<|wu rfl<|aA ?_;cases hc7;exact Kept.mk rfl<|.cons rfl .nil
        ·refine wu rfl<|aA ?_;refine aF u rfl (fun hc u=> ?_)<|fun hc u=> ?_
         ·refine aB<|aC<|wu rfl<|aA<|aK ?_;cases u;exact⟨rfl,_,fun _=>rfl,aY rfl rfl rfl rfl J.ext⟩
         ·refine aJ<|aB<|aC<|wu rfl<|aA<|aK ?_;cases u;exact⟨rfl,_,fun _=>rfl,aY rfl rfl rfl rfl J.ext⟩
theorem aAA{c1:Int}{r:Int}(h:oH c1=some r):Pf PP 164 [(.int .u8 c1)] (.i r):=Pf.cB (aFy c1 r h _) rfl (.cons ⟨rfl,rfl⟩ .nil)
noncomputable def kD(s1:Str)(x9:Nat):Option (Ctl Bool Unit):=
 (if decide (x9<s1.length)=true then((if(decide (((rune s1 x9).1:Int)>(127)))=true then some true
 else((oH (IntKind.wrap .u8 ((rune s1 x9).1:Int)))>>=fun r12=>
 some (decide (r12<(2)))):Option Bool)>>=fun c11=>
 (if c11=true then some (.ret false)
 else kD (nf s1) (x9+(rune s1 x9).2)))
 else some (.nx ()))
 partial_fixpoint
abbrev xO(s1:Str)(x9:Nat)(o:(Ctl Bool Unit)):Prop:= ∀(e:Env)(s sv:ASt)(β7:Nat),St [] [] s sv [(β7,.iter s1 x9)] []→Wk PP none Code.aP6 ⟨bB e [(22,(.iter β7))],[]⟩ sv (fun ex fr s'=>(match o with| .ret oq0=>ex= .ret∧nQ PP Code.aSm (VQ (.bool oq0)<|Ext [] [] s) ex fr s'| .nx oq1=>ex= .exit 0∧ ∃(e:Env),fr=⟨bB e [],[]⟩∧St [] [] s s' [] []))
theorem aCd: ∀(s1:Str)(x9:Nat)(o:(Ctl Bool Unit)),kD s1 x9=some o→xO s1 x9 o:=by
 refine kD.partial_correctness (xO) ?_;intro _f ih_lexer_word_l0 s1 x9 o u;intro e s sv β7 J;refine bM<|aB<|aC ?_;refine aPJ 0 rfl J rfl rfl (fun hc σ10 J=> ?_)<|fun hc=> ?_
 ·replace u:=bE hc u;refine wu rfl<|aA<|aB<|aFN rfl<|aJ<|aO<|aB<|aC<|wu rfl<|wu rfl<|aA<|aB<|aC<|wu rfl<|wu rfl<|wu rfl ?_;obtain⟨c11,h11,u⟩:=bs u;refine aW 5 [(22,(.iter β7)),(33,(.bool c11))] σ10 ?_<|fun e=> ?_
  ·refine aX (t:=28) rfl (fun hc=> ?_)<|fun hc=> ?_
   ·replace h11:=bE hc h11;refine wu rfl<|wu rfl<|wu rfl<|wu rfl<|wu rfl<|aA ?_;cases h11;exact Kept.mk rfl<|.cons rfl<|.cons rfl .nil
   ·replace h11:=bC hc h11;refine wu rfl<|wu rfl ?_;obtain⟨r12,h12,h11⟩:=bs h11;refine wcD (aAA h12) rfl rfl (.cons rfl .nil)<|wu rfl<|wu rfl<|aA ?_;cases h11;exact Kept.mk rfl<|.cons rfl<|.cons rfl .nil
  ·refine aA ?_;refine aF u rfl (fun hc u=> ?_)<|fun hc u=> ?_
   ·refine aB<|aC<|wu rfl<|aA<|aK ?_;cases u;exact⟨rfl,⟨rfl,_,fun _=>rfl,aY rfl rfl rfl rfl J.ext⟩⟩
   ·refine aJ ?_;exact bV (fun e=>ih_lexer_word_l0 _ _ _ u e s _ β7 J) (.cons rfl .nil)<|fun _ _ _ h=>h
 ·replace u:=bC hc u;refine wu rfl<|aA<|aB<|aCt rfl<|bY ?_;cases u;exact⟨rfl,_,frE .nil,(J.vC 0)⟩
noncomputable def oK(s1:Str)(first2:Int):Option Bool:=
 ((if(s1==([]:Str))=true then some true
 else some (decide ((s1.length:Int)>(12))):Option Bool)>>=fun c3=>
 ((if c3=true then some true
 else((idx s1 (0))>>=fun b5=>
 ((oH (b5.toNat:Int))>>=fun r6=>
 some (r6 !=first2))):Option Bool)>>=fun c4=>
 (if c4=true then some false
 else((kD s1 0)>>=fun o13=>
 (match o13 with
 | .ret q14=>some q14
 | .nx q15=>some true)))))
theorem aFK: ∀(s1:Str)(first2:Int)(r:Bool),oK s1 first2=some r→ ∀s:ASt,Fc PP (.func 109) [(.str s1),(.i first2)] s (bW s<|.bool r):=by
 intro s1 first2 r u;unfold oK at u;intro s;refine bD rfl rfl rfl ?_;have J:=St.clean s;generalize aU s=σ1 at J⊢;refine aB<|aC<|wu rfl<|aA<|aB<|aB<|aC<|wu rfl<|wu rfl<|wu rfl ?_;obtain⟨c3,hc3,u⟩:=bs u;refine aW 4 [(0,(.str s1)),(1,(.i first2)),(13,(.bool c3))] σ1 ?_<|fun e=> ?_
 ·refine aX (t:=9) rfl (fun hc=> ?_)<|fun hc=> ?_
  ·replace hc3:=bE hc hc3;refine wu rfl<|wu rfl<|wu rfl<|wu rfl<|aA ?_;cases hc3;exact Kept.mk rfl<|.cons rfl<|.cons rfl<|.cons rfl .nil
  ·replace hc3:=bC hc hc3;refine wu rfl<|wu rfl<|wu rfl<|wu rfl<|aA ?_;cases hc3;exact Kept.mk rfl<|.cons rfl<|.cons rfl<|.cons rfl .nil
 ·refine wu rfl ?_;obtain⟨c4,hc4,u⟩:=bs u;refine aW 6 [(0,(.str s1)),(20,(.bool c4))] σ1 ?_<|fun e=> ?_
  ·refine aX (t:=14) rfl (fun hc=> ?_)<|fun hc=> ?_
   ·replace hc4:=bE hc hc4;refine wu rfl<|wu rfl<|wu rfl<|wu rfl<|wu rfl<|wu rfl<|aA ?_;cases hc4;exact Kept.mk rfl<|.cons rfl<|.cons rfl .nil
   ·replace hc4:=bC hc hc4;refine wu rfl ?_;obtain⟨b5,hb5,hc4⟩:=bs hc4;refine aKn rfl rfl rfl hb5 ?_;obtain⟨r6,hr6,hc4⟩:=bs hc4;refine wcD (aAA hr6) rfl rfl (.cons rfl .nil)<|wu rfl<|wu rfl<|wu rfl<|aA ?_;cases hc4;exact Kept.mk rfl<|.cons rfl<|.cons rfl .nil
  ·refine aA ?_;refine aF u rfl (fun hc u=> ?_)<|fun hc u=> ?_
   ·refine aB<|aC<|wu rfl<|aA<|aK ?_;cases u;exact⟨rfl,_,fun _=>rfl,aY rfl rfl rfl rfl J.ext⟩
   ·refine aJ<|aB<|aB<|aC<|wu rfl ?_;refine aN3 rfl J rfl<|fun β7 σ8 J=> ?_;refine aA<|aO ?_;obtain⟨o13,h13,u⟩:=bs u;refine bV (fun e=>aCd _ _ _ h13 e s _ β7 J) (.cons rfl .nil) ?_
    rintro _ _ _ hq
    rcases o13 with q14|q15
    ·obtain⟨rfl,hq⟩:=hq;cases u;exact hq
    ·obtain⟨rfl,e17,rfl,J⟩:=hq;refine aB<|aC<|wu rfl<|aA<|aK ?_;cases u;exact⟨rfl,_,fun _=>rfl,aY rfl rfl rfl rfl J.ext⟩
theorem aAH{s1:Str}{first2:Int}{r:Bool}(h:oK s1 first2=some r):Pf PP 109 [(.str s1),(.i first2)] (.bool r):=Pf.cB (aFK s1 first2 r h _) rfl (.cons ⟨rfl,rfl⟩<|.cons ⟨rfl,rfl⟩ .nil)
noncomputable def lX(s1:Str):Option Bool:=
 ((oK s1 (3))>>=fun r2=>
 some r2)
theorem aCL: ∀(s1:Str)(r:Bool),lX s1=some r→ ∀s:ASt,Fc PP (.func 194) [(.str s1)] s (bW s<|.bool r):=by
 intro s1 r u;unfold lX at u;intro s;refine bD rfl rfl rfl ?_;have J:=St.clean s;generalize aU s=σ1 at J⊢;refine aB<|aC<|wu rfl<|aA<|aB<|aC<|wu rfl ?_;obtain⟨r2,hr2,u⟩:=bs u;refine wcD (aAH hr2) rfl rfl (.cons rfl<|.cons rfl .nil)<|wu rfl<|aA<|aK ?_;cases u;exact⟨rfl,_,fun _=>rfl,aY rfl rfl rfl rfl J.ext⟩
theorem aCa{s1:Str}{r:Bool}(h:lX s1=some r):Pf PP 194 [(.str s1)] (.bool r):=Pf.cB (aCL s1 r h _) rfl (.cons ⟨rfl,rfl⟩ .nil)
noncomputable def mX(s1:Str):Option Bool:=
 ((oK s1 (2))>>=fun r2=>
 ((if r2=true then((u0 s1)>>=fun r4=>
 some (!r4))
 else some false:Option Bool)>>=fun c3=>
 some c3))
theorem aFg: ∀(s1:Str)(r:Bool),mX s1=some r→ ∀s:ASt,Fc PP (.func 77) [(.str s1)] s (bW s<|.bool r):=by
 intro s1 r u;unfold mX at u;intro s;refine bD rfl rfl rfl ?_;have J:=St.clean s;generalize aU s=σ1 at J⊢;refine aB<|aC<|wu rfl<|aA<|aB<|aC<|wu rfl ?_;obtain⟨r2,hr2,u⟩:=bs u;refine wcD (aAH hr2) rfl rfl (.cons rfl<|.cons rfl .nil)<|wu rfl ?_;obtain⟨c3,hc3,u⟩:=bs u;refine aW 4 [(9,(.bool c3))] σ1 ?_<|fun e=> ?_
 ·refine aX (t:=5) rfl (fun hc=> ?_)<|fun hc=> ?_
  ·replace hc3:=bE hc hc3;refine wu rfl ?_;obtain⟨r4,hr4,hc3⟩:=bs hc3;refine wcD (aCm hr4) rfl rfl (.cons rfl .nil)<|wu rfl<|wu rfl<|aA ?_;cases hc3;exact Kept.mk rfl<|.cons rfl .nil
  ·replace hc3:=bC hc hc3;refine wu rfl<|wu rfl<|wu rfl<|wu rfl<|aA ?_;cases hc3;exact Kept.mk rfl<|.cons rfl .nil
 ·refine wu rfl<|aA<|aK ?_;cases u;exact⟨rfl,_,fun _=>rfl,aY rfl rfl rfl rfl J.ext⟩
theorem xZ{s1:Str}{r:Bool}(h:mX s1=some r):Pf PP 77 [(.str s1)] (.bool r):=Pf.cB (aFg s1 r h _) rfl (.cons ⟨rfl,rfl⟩ .nil)
mutual
noncomputable def pN (e1:Expr) (f2:Int) (f3:aL):Option (Bool×aL):=
 ((fU e1 f2 (0) f3.left f3.deep)>>=fun o13=>
 (match o13 with
 | .ret q14=>some q14
 | .nx q15=>((fY e1 f2 (0) q15.1 q15.2)>>=fun o28=>
 (match o28 with
 | .ret q29=>some q29
 | .nx q30=>some (true,(aL.mk q30.1 q30.2))))))
 partial_fixpoint
noncomputable def fY (e1:Expr) (f2:Int) (x19:Int) (c20:Int) (c21:Int):Option (Ctl (Bool×aL)<|Int×Int):=
 (if(decide (x19<(e1.aT.length:Int)))=true then((idx e1.aT x19)>>=fun y22=>
 ((cF y22.body (nf f2) (aL.mk c20 c21))>>=fun r23=>
 (if(!r23.1)=true then some (.ret (false,(aL.mk r23.2.left r23.2.deep)))
 else fY (nf e1) (nf f2) (IntKind.wrap .i64 (x19+(1))) r23.2.left r23.2.deep)))
 else some (.nx (c20,c21)))
 partial_fixpoint
noncomputable def cF (x1:Expr) (x2:Int) (x3:aL):Option (Bool×aL):=
 ((dE (nf x1) (IntKind.wrap .i64 (x2+(1))) (nf x3))>>=fun r4=>
 some (r4.1,(aL.mk r4.2.left r4.2.deep)))
 partial_fixpoint
noncomputable def dE (e1:Expr) (depth2:Int) (m3:aL):Option (Bool×aL):=
 ((if(decide ((IntKind.wrap .i64 (m3.left-(1)))<(0)))=true then some true
 else some (decide (depth2>(200))):Option Bool)>>=fun c6=>
 (if c6=true then some (false,(aL.mk (IntKind.wrap .i64 (m3.left-(1))) (max m3.deep depth2)))
 else((pN (nf e1) (nf depth2) (aL.mk (IntKind.wrap .i64 (m3.left-(1))) (max m3.deep depth2)))>>=fun r7=>
 some (r7.1,(aL.mk r7.2.left r7.2.deep)))))
 partial_fixpoint
noncomputable def fU (e1:Expr) (f2:Int) (x4:Int) (c5:Int) (c6:Int):Option (Ctl (Bool×aL)<|Int×Int):=
 (if(decide (x4<(e1.l.length:Int)))=true then((idx e1.l x4)>>=fun y7=>
 ((cF (nf y7) (nf f2) (aL.mk c5 c6))>>=fun r8=>
 (if(!r8.1)=true then some (.ret (false,(aL.mk r8.2.left r8.2.deep)))
 else fU (nf e1) (nf f2) (IntKind.wrap .i64 (x4+(1))) r8.2.left r8.2.deep)))
 else some (.nx (c5,c6)))
 partial_fixpoint
end
abbrev v7(e1:Expr)(f2:Int)(f3:aL)(r:(Bool×aL)):Prop:= ∀(s:ASt)(β1:Nat),Kn s [(β1,.cells [(.i f3.left),(.i f3.deep)] true)] []→Fc PP (.func 192) [(aM e1),(.func 193 [] [(.aG (.ptr β1 0) 0),(.aG (.i f2) 0)])] s (nV s [β1] [] (.bool r.1) (fun a:Unit=> [(β1,.cells [(.i r.2.left),(.i r.2.deep)] true)]) (fun a:Unit=> []) (fun a:Unit=>True))
abbrev sF(e1:Expr)(f2:Int)(x19:Int)(c20:Int)(c21:Int)(o:(Ctl (Bool×aL)<|Int×Int)):Prop:= ∀(e:Env)(s sv:ASt)(β1:Nat),St [β1] [] s sv [(β1,.cells [(.i c20),(.i c21)] true)] []→Wk PP none Code.aLt ⟨bB e [(1,(.func 193 [] [(.aG (.ptr β1 0) 0),(.aG (.i f2) 0)])),(22,(slA 9<|e1.aT.map aZ)),(23,(.i (e1.aT.length:Int))),(24,(.i x19))],[]⟩ sv (fun ex fr s'=>(match o with| .ret oq0=>ex= .ret∧nQ PP Code.aLH (VQ (.bool oq0.1)<|RX s [β1] [] (fun a:Unit=> [(β1,.cells [(.i oq0.2.left),(.i oq0.2.deep)] true)]) (fun a:Unit=> []) (fun a:Unit=>True)) ex fr s'| .nx oq1=>ex= .exit 2∧ ∃(e:Env),fr=⟨bB e [],[]⟩∧St [β1] [] s s' [(β1,.cells [(.i oq1.1),(.i oq1.2)] true)] []))
abbrev mP(x1:Expr)(x2:Int)(x3:aL)(r:(Bool×aL)):Prop:= ∀(s:ASt)(β1:Nat),Kn s [(β1,.cells [(.i x3.left),(.i x3.deep)] true)] []→Fc PP (.func 193) [(aM x1),(.aG (.ptr β1 0) 0),(.aG (.i x2) 0)] s (nV s [β1] [] (.bool r.1) (fun a:Unit=> [(β1,.cells [(.i r.2.left),(.i r.2.deep)] true)]) (fun a:Unit=> []) (fun a:Unit=>True))
abbrev kA(e1:Expr)(depth2:Int)(m3:aL)(r:(Bool×aL)):Prop:= ∀(s:ASt)(β1:Nat),Kn s [(β1,.cells [(.i m3.left),(.i m3.deep)] true)] []→Fc PP (.func 147) [(.ptr β1 0),(aM e1),(.i depth2)] s (nV s [β1] [] (.bool r.1) (fun a:Unit=> [(β1,.cells [(.i r.2.left),(.i r.2.deep)] true)]) (fun a:Unit=> []) (fun a:Unit=>True))
abbrev sH(e1:Expr)(f2:Int)(x4:Int)(c5:Int)(c6:Int)(o:(Ctl (Bool×aL)<|Int×Int)):Prop:= ∀(e:Env)(s sv:ASt)(β1:Nat),St [β1] [] s sv [(β1,.cells [(.i c5),(.i c6)] true)] []→Wk PP none Code.aLp ⟨bB e [(1,(.func 193 [] [(.aG (.ptr β1 0) 0),(.aG (.i f2) 0)])),(2,(.aG (aM e1) 0)),(10,(slA 7<|e1.l.map aP)),(11,(.i (e1.l.length:Int))),(12,(.i x4))],[]⟩ sv (fun ex fr s'=>(match o with| .ret oq0=>ex= .ret∧nQ PP Code.aLH (VQ (.bool oq0.1)<|RX s [β1] [] (fun a:Unit=> [(β1,.cells [(.i oq0.2.left),(.i oq0.2.deep)] true)]) (fun a:Unit=> []) (fun a:Unit=>True)) ex fr s'| .nx oq1=>ex= .exit 0∧ ∃(e:Env),fr=⟨bB e [(1,(.func 193 [] [(.aG (.ptr β1 0) 0),(.aG (.i f2) 0)])),(2,(.aG (aM e1) 0))],[]⟩∧St [β1] [] s s' [(β1,.cells [(.i oq1.1),(.i oq1.2)] true)] []))
theorem aAT:(∀(e1:Expr)(f2:Int)(f3:aL)(r:(Bool×aL)),pN e1 f2 f3=some r→v7 e1 f2 f3 r)∧
  (∀(e1:Expr)(f2:Int)(x19:Int)(c20:Int)(c21:Int)(o:(Ctl (Bool×aL)<|Int×Int)),fY e1 f2 x19 c20 c21=some o→sF e1 f2 x19 c20 c21 o)∧
  (∀(x1:Expr)(x2:Int)(x3:aL)(r:(Bool×aL)),cF x1 x2 x3=some r→mP x1 x2 x3 r)∧
  (∀(e1:Expr)(depth2:Int)(m3:aL)(r:(Bool×aL)),dE e1 depth2 m3=some r→kA e1 depth2 m3 r)∧
  (∀(e1:Expr)(f2:Int)(x4:Int)(c5:Int)(c6:Int)(o:(Ctl (Bool×aL)<|Int×Int)),fU e1 f2 x4 c5 c6=some o→sH e1 f2 x4 c5 c6 o):=by
 refine pN.mutual_partial_correctness v7 sF mP kA sH ?_ ?_ ?_ ?_ ?_
 ·intro _f0 _f1 ih_syntax_each_s0_l1 ih_syntax_each_s0_l0 e1 f2 f3 r u;intro s β1 hK;refine rV hK (fun _=>rfl) (fun _=>aFC) rfl rfl rfl ?_;have J:=hK.start;generalize aU s=σ1 at J⊢;refine aB<|aC<|wu rfl<|wu rfl<|aA<|aB<|aB<|aC<|wu rfl<|wu rfl<|bI (f:=aP) (l:=e1.l) rfl (.no _)<|wu rfl<|aA<|aO ?_;obtain⟨o13,h13,u⟩:=bs u;refine bV (fun e=>ih_syntax_each_s0_l0 _ _ _ _ _ _ h13 e s _ β1 J) (.cons rfl<|.cons rfl<|.cons rfl<|.cons rfl<|.cons rfl .nil) ?_
  rintro _ _ _ hq
  rcases o13 with q14|q15
  ·obtain⟨rfl,hq⟩:=hq;cases u;exact hq
  ·obtain⟨rfl,e17,rfl,J⟩:=hq;refine aB<|aB<|aC<|wu rfl<|wu rfl<|bI (f:=aZ) (l:=e1.aT) rfl (.no _)<|wu rfl<|aA<|aO ?_;obtain⟨o28,h28,u⟩:=bs u;refine bV (fun e=>ih_syntax_each_s0_l1 _ _ _ _ _ _ h28 e s _ β1 J) (.cons rfl<|.cons rfl<|.cons rfl<|.cons rfl .nil) ?_
   rintro _ _ _ hq
   rcases o28 with q29|q30
   ·obtain⟨rfl,hq⟩:=hq;cases u;exact hq
   ·obtain⟨rfl,e32,rfl,J⟩:=hq;refine aB<|aC<|wu rfl<|aA<|aK ?_;cases u;exact⟨rfl,_,fun _=>rfl,aY rfl rfl rfl rfl ⟨(),trivial,J⟩⟩
 ·intro _f0 _f1 ih_syntax_each_s0_l1 ih_syntax_measure_take_1_s0 e1 f2 x19 c20 c21 o u;intro e s sv β1 J;refine bM<|aB<|aC<|wu rfl<|aA<|aB ?_;refine aF u rfl (fun hc u=> ?_)<|fun hc u=> ?_
  ·refine aJ<|aB<|aO<|aB<|aC ?_;obtain⟨y22,h22,u⟩:=bs u;refine bT (f:=aZ) rfl (.no _) rfl h22 (fD _)<|wu rfl<|wu rfl<|wu rfl<|aA<|aB<|aC<|wu rfl<|wu rfl<|wu rfl ?_;obtain⟨r23,h23,u⟩:=bs u;refine cN rfl (bs1:= [(β1,.cells [(.i c20),(.i c21)] true)]) (bs2:= []) (gs1:= []) (gs2:= []) rfl J (fun hK=>ih_syntax_measure_take_1_s0 _ _ _ _ h23 _ β1 hK) rfl rfl (fun _=>rfl) rfl (by exact(.cons rfl .nil)) rfl<|fun σ24 a25 hF J=> ?_;refine wu rfl<|aA ?_;refine aF u rfl (fun hc u=> ?_)<|fun hc u=> ?_
   ·refine aB<|aC<|wu rfl<|aA<|aK ?_;cases u;exact⟨rfl,⟨rfl,_,fun _=>rfl,aY rfl rfl rfl rfl ⟨(),trivial,J⟩⟩⟩
   ·refine aJ<|aC<|wu rfl<|wu rfl<|aA ?_;exact bV (fun e=>ih_syntax_each_s0_l1 _ _ _ _ _ _ u e s _ β1 J) (.cons rfl<|.cons rfl<|.cons rfl<|.cons rfl .nil)<|fun _ _ _ h=>h
  ·refine bY ?_;cases u;exact⟨rfl,_,frE .nil,J⟩
 ·intro _f0 ih_syntax_measure_take_s0 x1 x2 x3 r u;intro s β1 hK;refine rV hK (fun _=>rfl) (fun _=>aFC) rfl rfl rfl ?_;have J:=hK.start;generalize aU s=σ1 at J⊢;refine aB<|aC<|wu rfl<|wu rfl<|aA<|aB<|aC<|wu rfl<|wu rfl<|wu rfl<|wu rfl ?_;obtain⟨r4,hr4,u⟩:=bs u;refine cN rfl (bs1:= [(β1,.cells [(.i x3.left),(.i x3.deep)] true)]) (bs2:= []) (gs1:= []) (gs2:= []) rfl J (fun hK=>ih_syntax_measure_take_s0 _ _ _ _ hr4 _ β1 hK) rfl rfl (fun _=>rfl) rfl (by exact(.cons rfl<|.cons rfl<|.cons rfl .nil)) rfl<|fun σ5 a6 hF J=> ?_;refine wu rfl<|aA<|aK ?_;cases u;exact⟨rfl,_,fun _=>rfl,aY rfl rfl rfl rfl ⟨(),trivial,J⟩⟩
 ·intro _f0 ih_syntax_each_s0 e1 depth2 m3 r u;intro s β1 hK;refine rV hK (fun _=>rfl) (fun _=>aFC) rfl rfl rfl ?_;have J:=hK.start;generalize aU s=σ1 at J⊢;refine aB<|aC<|wu rfl<|wu rfl<|wu rfl<|wu rfl<|aA<|aB<|aC<|wu rfl<|wu rfl<|wu rfl<|lA 0 rfl J rfl rfl rfl<|wu rfl<|wu rfl<|wu rfl ?_;refine cJ (ds':= [(.i<|IntKind.wrap .i64<|m3.left-(1))]) (cs':= [(.i<|IntKind.wrap .i64<|m3.left-(1)),(.i m3.deep)]) 0 rfl J rfl rfl rfl rfl rfl (Nat.le_of_ble_eq_true rfl) (.cons (tkN rfl) .nil) (by kernel_rfl)<|fun σ4 J=> ?_;refine aA<|aB<|aC<|wu rfl<|wu rfl<|wu rfl<|wu rfl<|lA 0 rfl J rfl rfl rfl<|wu rfl<|wu rfl<|wu rfl<|wu rfl ?_;refine cJ (ds':= [(.i<|max m3.deep depth2)]) (cs':= [(.i<|IntKind.wrap .i64<|m3.left-(1)),(.i<|max m3.deep depth2)]) 0 rfl J rfl rfl rfl rfl rfl (Nat.le_of_ble_eq_true rfl) (.cons (tkN rfl) .nil) (by kernel_rfl)<|fun σ5 J=> ?_;refine aA<|aB<|aB<|aC<|wu rfl<|wu rfl<|wu rfl<|lA 0 rfl J rfl rfl rfl<|wu rfl<|wu rfl ?_;obtain⟨c6,hc6,u⟩:=bs u;refine aW 3 [(3,(.aG (.ptr β1 0) 0)),(4,(.aG (aM e1) 0)),(5,(.aG (.i depth2) 0)),(31,(.bool c6))] σ5 ?_<|fun e=> ?_
  ·refine aX (t:=28) rfl (fun hc=> ?_)<|fun hc=> ?_
   ·replace hc6:=bE hc hc6;refine wu rfl<|wu rfl<|wu rfl<|aA ?_;cases hc6;exact Kept.mk rfl<|.cons rfl<|.cons rfl<|.cons rfl<|.cons rfl .nil
   ·replace hc6:=bC hc hc6;refine wu rfl<|wu rfl<|wu rfl<|aA ?_;cases hc6;exact Kept.mk rfl<|.cons rfl<|.cons rfl<|.cons rfl<|.cons rfl .nil
  ·refine aA ?_;refine aF u rfl (fun hc u=> ?_)<|fun hc u=> ?_
   ·refine aB<|aC<|wu rfl<|aA<|aK ?_;cases u;exact⟨rfl,_,fun _=>rfl,aY rfl rfl rfl rfl ⟨(),trivial,J⟩⟩
   ·refine aJ<|aB<|aC<|wu rfl<|wu rfl ?_;obtain⟨r7,hr7,u⟩:=bs u;refine cN rfl (bs1:= [(β1,.cells [(.i<|IntKind.wrap .i64<|m3.left-(1)),(.i<|max m3.deep depth2)] true)]) (bs2:= []) (gs1:= []) (gs2:= []) rfl J (fun hK=>ih_syntax_each_s0 _ _ _ _ hr7 _ β1 hK) rfl rfl (fun _=>rfl) rfl (by exact(.cons rfl<|.cons rfl .nil)) rfl<|fun σ8 a9 hF J=> ?_;refine wu rfl<|aA<|aK ?_;cases u;exact⟨rfl,_,fun _=>rfl,aY rfl rfl rfl rfl ⟨(),trivial,J⟩⟩
 ·intro _f0 _f1 ih_syntax_measure_take_1_s0 ih_syntax_each_s0_l0 e1 f2 x4 c5 c6 o u;intro e s sv β1 J;refine bM<|aB<|aC<|wu rfl<|aA<|aB ?_;refine aF u rfl (fun hc u=> ?_)<|fun hc u=> ?_
  ·refine aJ<|aB<|aO<|aB<|aC ?_;obtain⟨y7,hy7,u⟩:=bs u;refine bT (f:=aP) rfl (.no _) rfl hy7 (bN _)<|wu rfl<|wu rfl<|wu rfl<|aA<|aB<|aC<|wu rfl<|wu rfl ?_;obtain⟨r8,hr8,u⟩:=bs u;refine cN rfl (bs1:= [(β1,.cells [(.i c5),(.i c6)] true)]) (bs2:= []) (gs1:= []) (gs2:= []) rfl J (fun hK=>ih_syntax_measure_take_1_s0 _ _ _ _ hr8 _ β1 hK) rfl rfl (fun _=>rfl) rfl (by exact(.cons rfl .nil)) rfl<|fun σ9 a10 hF J=> ?_;refine wu rfl<|aA ?_;refine aF u rfl (fun hc u=> ?_)<|fun hc u=> ?_
   ·refine aB<|aC<|wu rfl<|aA<|aK ?_;cases u;exact⟨rfl,⟨rfl,_,fun _=>rfl,aY rfl rfl rfl rfl ⟨(),trivial,J⟩⟩⟩
   ·refine aJ<|aC<|wu rfl<|wu rfl<|aA ?_;exact bV (fun e=>ih_syntax_each_s0_l0 _ _ _ _ _ _ u e s _ β1 J) (.cons rfl<|.cons rfl<|.cons rfl<|.cons rfl<|.cons rfl .nil)<|fun _ _ _ h=>h
  ·refine bY ?_;cases u;exact⟨rfl,_,frE<|.cons rfl<|.cons rfl .nil,J⟩
theorem tZ: ∀(e1:Expr)(depth2:Int)(m3:aL)(r:(Bool×aL)),dE e1 depth2 m3=some r→kA e1 depth2 m3 r:=aAT.2.2.2.1
noncomputable def iO(n1:Int)(l2:Int)(hi3:Int):Option Bool:=
 ((if(decide (l2≤n1))=true then some (decide (n1≤hi3))
 else some false:Option Bool)>>=fun c4=>
 some c4)
theorem aDn: ∀(n1:Int)(l2:Int)(hi3:Int)(r:Bool),iO n1 l2 hi3=some r→ ∀s:ASt,Fc PP (.func 212) [(.i n1),(.i l2),(.i hi3)] s (bW s<|.bool r):=by
 intro n1 l2 hi3 r u;unfold iO at u;intro s;refine bD rfl rfl rfl ?_;have J:=St.clean s;generalize aU s=σ1 at J⊢;refine aB<|aC<|wu rfl<|aA<|aB<|aC<|wu rfl<|wu rfl<|wu rfl<|wu rfl ?_;obtain⟨c4,hc4,u⟩:=bs u;refine aW 4 [(14,(.bool c4))] σ1 ?_<|fun e=> ?_
 ·refine aX (t:=10) rfl (fun hc=> ?_)<|fun hc=> ?_
  ·replace hc4:=bE hc hc4;refine wu rfl<|wu rfl<|wu rfl<|wu rfl<|aA ?_;cases hc4;exact Kept.mk rfl<|.cons rfl .nil
  ·replace hc4:=bC hc hc4;refine wu rfl<|wu rfl<|wu rfl<|wu rfl<|aA ?_;cases hc4;exact Kept.mk rfl<|.cons rfl .nil
 ·refine wu rfl<|aA<|aK ?_;cases u;exact⟨rfl,_,fun _=>rfl,aY rfl rfl rfl rfl J.ext⟩
theorem oD{n1:Int}{l2:Int}{hi3:Int}{r:Bool}(h:iO n1 l2 hi3=some r):Pf PP 212 [(.i n1),(.i l2),(.i hi3)] (.bool r):=Pf.cB (aDn n1 l2 hi3 r h _) rfl (.cons ⟨rfl,rfl⟩<|.cons ⟨rfl,rfl⟩<|.cons ⟨rfl,rfl⟩ .nil)
noncomputable def fO(s1:(List Str))(v2:Str)(x3:Int):Option (Ctl Int Unit):=
 (if(decide (x3<(s1.length:Int)))=true then((idx s1 x3)>>=fun y4=>
 (if(v2==y4)=true then some (.ret x3)
 else fO (nf s1) (nf v2) (IntKind.wrap .i64 (x3+(1)))))
 else some (.nx ()))
 partial_fixpoint
abbrev pE(s1:(List Str))(v2:Str)(x3:Int)(o:(Ctl Int Unit)):Prop:= ∀(e:Env)(s sv:ASt),St [] [] s sv [] []→Wk PP none Code.aQ3 ⟨bB e [(0,(slA 1<|s1.map AV.str)),(1,(.str v2)),(7,(.i (s1.length:Int))),(8,(.i x3))],[]⟩ sv (fun ex fr s'=>(match o with| .ret oq0=>ex= .ret∧nQ PP Code.aSQ (VQ (.i oq0)<|Ext [] [] s) ex fr s'| .nx oq1=>ex= .exit 0∧ ∃(e:Env),fr=⟨bB e [],[]⟩∧sv=s'))
theorem vO: ∀(s1:(List Str))(v2:Str)(x3:Int)(o:(Ctl Int Unit)),fO s1 v2 x3=some o→pE s1 v2 x3 o:=by
 refine fO.partial_correctness (pE) ?_;intro _f ih_slices_Index_g175_l0 s1 v2 x3 o u;intro e s sv J;refine bM<|aB<|aC<|wu rfl<|aA<|aB ?_;refine aF u rfl (fun hc u=> ?_)<|fun hc u=> ?_
 ·refine aJ<|aB<|aO<|aB<|aC<|wu rfl<|wu rfl<|aA<|aB<|aC<|wu rfl<|wu rfl<|wu rfl ?_;obtain⟨y4,hy4,u⟩:=bs u;refine bT (f:=AV.str) rfl (.no _) rfl hy4 rfl<|wu rfl<|wu rfl<|aA ?_;refine aF u rfl (fun hc u=> ?_)<|fun hc u=> ?_
  ·refine aB<|aC<|wu rfl<|wu rfl<|aA<|aK ?_;cases u;exact⟨rfl,⟨rfl,_,fun _=>rfl,aY rfl rfl rfl rfl J.ext⟩⟩
  ·refine aJ<|aC<|wu rfl<|wu rfl<|aA ?_;exact bV (fun e=>ih_slices_Index_g175_l0 _ _ _ _ u e s _ J) (.cons rfl<|.cons rfl<|.cons rfl<|.cons rfl .nil)<|fun _ _ _ h=>h
 ·refine bY ?_;cases u;exact⟨rfl,_,frE .nil,rfl⟩
noncomputable def hU(s1:(List Str))(v2:Str):Option Int:=
 ((fO s1 v2 (0))>>=fun o5=>
 (match o5 with
 | .ret q6=>some q6
 | .nx q7=>some (-1)))
theorem zS: ∀(s1:(List Str))(v2:Str)(r:Int),hU s1 v2=some r→ ∀s:ASt,Fc PP (.func 175) [(slA 1<|s1.map AV.str),(.str v2)] s (bW s<|.i r):=by
 intro s1 v2 r u;unfold hU at u;intro s;refine bD rfl rfl rfl ?_;have J:=St.clean s;generalize aU s=σ1 at J⊢;refine aB<|aC<|wu rfl<|aA<|aB<|aB<|aC<|wu rfl<|bI (f:=AV.str) (l:=s1) rfl (.no _)<|wu rfl<|aA<|aO ?_;obtain⟨o5,ho5,u⟩:=bs u;refine bV (fun e=>vO _ _ _ _ ho5 e s _ J) (.cons rfl<|.cons rfl<|.cons rfl<|.cons rfl .nil) ?_
 rintro _ _ _ hq
 rcases o5 with q6|q7
 ·obtain⟨rfl,hq⟩:=hq;cases u;exact hq
 ·obtain⟨rfl,e9,rfl,rfl⟩:=hq;refine aB<|aC<|wu rfl<|aA<|aK ?_;cases u;exact⟨rfl,_,fun _=>rfl,aY rfl rfl rfl rfl J.ext⟩
theorem yG{s1:(List Str)}{v2:Str}{r:Int}(h:hU s1 v2=some r):Pf PP 175 [(slA 1<|s1.map AV.str),(.str v2)] (.i r):=Pf.cB (zS s1 v2 r h _) rfl (.cons (j9<|cV (fun _=>rfl) _)<|.cons ⟨rfl,rfl⟩ .nil)
noncomputable def dF(s1:(List Str))(v2:Str):Option Bool:=
 ((hU s1 v2)>>=fun r3=>
 some (decide (r3≥(0))))
theorem vN: ∀(s1:(List Str))(v2:Str)(r:Bool),dF s1 v2=some r→ ∀s:ASt,Fc PP (.func 127) [(slA 1<|s1.map AV.str),(.str v2)] s (bW s<|.bool r):=by
 intro s1 v2 r u;unfold dF at u;intro s;refine bD rfl rfl rfl ?_;have J:=St.clean s;generalize aU s=σ1 at J⊢;refine aB<|aC<|wu rfl<|aA<|aB<|aC<|wu rfl<|wu rfl ?_;obtain⟨r3,hr3,u⟩:=bs u;refine wcD (yG hr3) rfl rfl (.cons rfl<|.cons rfl .nil)<|wu rfl<|wu rfl<|aA<|aK ?_;cases u;exact⟨rfl,_,fun _=>rfl,aY rfl rfl rfl rfl J.ext⟩
theorem kY{s1:(List Str)}{v2:Str}{r:Bool}(h:dF s1 v2=some r):Pf PP 127 [(slA 1<|s1.map AV.str),(.str v2)] (.bool r):=Pf.cB (vN s1 v2 r h _) rfl (.cons (j9<|cV (fun _=>rfl) _)<|.cons ⟨rfl,rfl⟩ .nil)
noncomputable def nF(s1:Str)(c2:Int):Option Bool:=
 (if(c2==(1))=true then((mX s1)>>=fun r3=>
 some r3)
 else(if(c2==(2))=true then((lX s1)>>=fun r4=>
 some r4)
 else(if(c2==(3))=true then((if(s1==([43]:Str))=true then some true
 else some (s1==([45]:Str)):Option Bool)>>=fun c5=>
 ((if c5=true then some true
 else some (s1==([42]:Str)):Option Bool)>>=fun c6=>
 ((if c6=true then some true
 else some (s1==([60]:Str)):Option Bool)>>=fun c7=>
 ((if c7=true then some true
 else some (s1==([61,61]:Str)):Option Bool)>>=fun c8=>
 some c8))))
 else some (s1==([]:Str)))))
theorem aHu: ∀(s1:Str)(c2:Int)(r:Bool),nF s1 c2=some r→ ∀s:ASt,Fc PP (.func 149) [(.str s1),(.i c2)] s (bW s<|.bool r):=by
 intro s1 c2 r u;unfold nF at u;intro s;refine bD rfl rfl rfl ?_;have J:=St.clean s;generalize aU s=σ1 at J⊢;refine aB<|aC<|wu rfl<|aA<|aB<|aB<|aC<|wu rfl<|aA<|aO<|aB<|aC<|wu rfl<|wu rfl ?_;refine aA ?_;refine aF u rfl (fun hc u=> ?_)<|fun hc u=> ?_
 ·refine aB<|aC<|wu rfl ?_;obtain⟨r3,hr3,u⟩:=bs u;refine wcD (xZ hr3) rfl rfl (.cons rfl .nil)<|wu rfl<|aA<|aK ?_;cases u;exact⟨rfl,_,fun _=>rfl,aY rfl rfl rfl rfl J.ext⟩
 ·refine aB<|aC<|wu rfl<|wu rfl<|aA ?_;refine aF u rfl (fun hc u=> ?_)<|fun hc u=> ?_
  ·refine aB<|aC<|wu rfl ?_;obtain⟨r4,hr4,u⟩:=bs u;refine wcD (aCa hr4) rfl rfl (.cons rfl .nil)<|wu rfl<|aA<|aK ?_;cases u;exact⟨rfl,_,fun _=>rfl,aY rfl rfl rfl rfl J.ext⟩
  ·refine aB<|aC<|wu rfl<|wu rfl<|aA ?_;refine aF u rfl (fun hc u=> ?_)<|fun hc u=> ?_
   ·refine aB<|aC<|wu rfl<|wu rfl<|wu rfl ?_;obtain⟨c5,hc5,u⟩:=bs u;refine aW 3 [(0,(.str s1)),(21,(.bool c5))] σ1 ?_<|fun e=> ?_
    ·refine aX (t:=18) rfl (fun hc=> ?_)<|fun hc=> ?_
     ·replace hc5:=bE hc hc5;refine wu rfl<|wu rfl<|wu rfl<|aA ?_;cases hc5;exact Kept.mk rfl<|.cons rfl<|.cons rfl .nil
     ·replace hc5:=bC hc hc5;refine wu rfl<|wu rfl<|wu rfl<|aA ?_;cases hc5;exact Kept.mk rfl<|.cons rfl<|.cons rfl .nil
    ·refine wu rfl ?_;obtain⟨c6,hc6,u⟩:=bs u;refine aW 3 [(0,(.str s1)),(25,(.bool c6))] σ1 ?_<|fun e=> ?_
     ·refine aX (t:=22) rfl (fun hc=> ?_)<|fun hc=> ?_
      ·replace hc6:=bE hc hc6;refine wu rfl<|wu rfl<|wu rfl<|aA ?_;cases hc6;exact Kept.mk rfl<|.cons rfl<|.cons rfl .nil
      ·replace hc6:=bC hc hc6;refine wu rfl<|wu rfl<|wu rfl<|aA ?_;cases hc6;exact Kept.mk rfl<|.cons rfl<|.cons rfl .nil
     ·refine wu rfl ?_;obtain⟨c7,hc7,u⟩:=bs u;refine aW 3 [(0,(.str s1)),(29,(.bool c7))] σ1 ?_<|fun e=> ?_
      ·refine aX (t:=26) rfl (fun hc=> ?_)<|fun hc=> ?_
       ·replace hc7:=bE hc hc7;refine wu rfl<|wu rfl<|wu rfl<|aA ?_;cases hc7;exact Kept.mk rfl<|.cons rfl<|.cons rfl .nil
       ·replace hc7:=bC hc hc7;refine wu rfl<|wu rfl<|wu rfl<|aA ?_;cases hc7;exact Kept.mk rfl<|.cons rfl<|.cons rfl .nil
      ·refine wu rfl ?_;obtain⟨c8,hc8,u⟩:=bs u;refine aW 3 [(33,(.bool c8))] σ1 ?_<|fun e=> ?_
       ·refine aX (t:=30) rfl (fun hc=> ?_)<|fun hc=> ?_
        ·replace hc8:=bE hc hc8;refine wu rfl<|wu rfl<|wu rfl<|aA ?_;cases hc8;exact Kept.mk rfl<|.cons rfl .nil
        ·replace hc8:=bC hc hc8;refine wu rfl<|wu rfl<|wu rfl<|aA ?_;cases hc8;exact Kept.mk rfl<|.cons rfl .nil
       ·refine wu rfl<|aA<|aK ?_;cases u;exact⟨rfl,_,fun _=>rfl,aY rfl rfl rfl rfl J.ext⟩
   ·refine aJ<|aB<|aC<|wu rfl<|wu rfl<|wu rfl<|aA<|aK ?_;cases u;exact⟨rfl,_,fun _=>rfl,aY rfl rfl rfl rfl J.ext⟩
theorem sK{s1:Str}{c2:Int}{r:Bool}(h:nF s1 c2=some r):Pf PP 149 [(.str s1),(.i c2)] (.bool r):=Pf.cB (aHu s1 c2 r h _) rfl (.cons ⟨rfl,rfl⟩<|.cons ⟨rfl,rfl⟩ .nil)
noncomputable def eM(l1:(List Str))(c2:Int)(x3:Int):Option (Ctl Int Unit):=
 (if(decide (x3<(l1.length:Int)))=true then((idx l1 x3)>>=fun y4=>
 ((nF y4 c2)>>=fun r5=>
 (if(!r5)=true then some (.ret (4))
 else((cut l1 (0) x3)>>=fun l6=>
 ((dF l6 y4)>>=fun r7=>
 (if r7=true then some (.ret (5))
 else eM (nf l1) (nf c2) (IntKind.wrap .i64 (x3+(1)))))))))
 else some (.nx ()))
 partial_fixpoint
abbrev rG(l1:(List Str))(c2:Int)(x3:Int)(o:(Ctl Int Unit)):Prop:= ∀(e:Env)(s sv:ASt),St [] [] s sv [] []→Wk PP none Code.aPF ⟨bB e [(0,(slA 1<|l1.map AV.str)),(1,(.i c2)),(7,(slA 1<|l1.map AV.str)),(8,(.i (l1.length:Int))),(9,(.i x3))],[]⟩ sv (fun ex fr s'=>(match o with| .ret oq0=>ex= .ret∧nQ PP Code.aSf (VQ (.i oq0)<|Ext [] [] s) ex fr s'| .nx oq1=>ex= .exit 0∧ ∃(e:Env),fr=⟨bB e [],[]⟩∧sv=s'))
theorem xS: ∀(l1:(List Str))(c2:Int)(x3:Int)(o:(Ctl Int Unit)),eM l1 c2 x3=some o→rG l1 c2 x3 o:=by
 refine eM.partial_correctness (rG) ?_;intro _f ih_syntax_distinct_l0 l1 c2 x3 o u;intro e s sv J;refine bM<|aB<|aC<|wu rfl<|aA<|aB ?_;refine aF u rfl (fun hc u=> ?_)<|fun hc u=> ?_
 ·refine aJ<|aB<|aO<|aB<|aC<|wu rfl ?_;obtain⟨y4,hy4,u⟩:=bs u;refine bT (f:=AV.str) rfl (.no _) rfl hy4 rfl<|wu rfl<|wu rfl<|wu rfl<|aA<|aO<|aB<|aC<|wu rfl<|wu rfl ?_;obtain⟨r5,hr5,u⟩:=bs u;refine wcD (sK hr5) rfl rfl (.cons rfl<|.cons rfl .nil)<|wu rfl<|wu rfl<|aA ?_;refine aF u rfl (fun hc u=> ?_)<|fun hc u=> ?_
  ·refine aB<|aC<|wu rfl<|aA<|aK ?_;cases u;exact⟨rfl,⟨rfl,_,fun _=>rfl,aY rfl rfl rfl rfl J.ext⟩⟩
  ·refine aB<|aC<|wu rfl<|wu rfl ?_;obtain⟨l6,hl6,u⟩:=bs u;refine rA (f:=AV.str) (lo':=(0)) (hi':=x3) rfl (.no _) (.inl ⟨rfl,rfl⟩) (.inr ⟨_,rfl⟩) (by rfl) hl6 ?_;refine wu rfl ?_;obtain⟨r7,hr7,u⟩:=bs u;refine wcD (kY hr7) rfl rfl (.cons rfl<|.cons rfl .nil)<|wu rfl<|aA ?_;refine aF u rfl (fun hc u=> ?_)<|fun hc u=> ?_
   ·refine aB<|aC<|wu rfl<|aA<|aK ?_;cases u;exact⟨rfl,⟨rfl,_,fun _=>rfl,aY rfl rfl rfl rfl J.ext⟩⟩
   ·refine aJ<|aC<|wu rfl<|wu rfl<|aA ?_;exact bV (fun e=>ih_syntax_distinct_l0 _ _ _ _ u e s _ J) (.cons rfl<|.cons rfl<|.cons rfl<|.cons rfl<|.cons rfl .nil)<|fun _ _ _ h=>h
 ·refine bY ?_;cases u;exact⟨rfl,_,frE .nil,rfl⟩
noncomputable def eO(l1:(List Str))(c2:Int):Option Int:=
 ((eM l1 c2 (0))>>=fun o8=>
 (match o8 with
 | .ret q9=>some q9
 | .nx q10=>some (0)))
theorem aAL: ∀(l1:(List Str))(c2:Int)(r:Int),eO l1 c2=some r→ ∀s:ASt,Fc PP (.func 190) [(slA 1<|l1.map AV.str),(.i c2)] s (bW s<|.i r):=by
 intro l1 c2 r u;unfold eO at u;intro s;refine bD rfl rfl rfl ?_;have J:=St.clean s;generalize aU s=σ1 at J⊢;refine aB<|aC<|wu rfl<|aA<|aB<|aB<|aC<|wu rfl<|bI (f:=AV.str) (l:=l1) rfl (.no _)<|wu rfl<|aA<|aO ?_;obtain⟨o8,ho8,u⟩:=bs u;refine bV (fun e=>xS _ _ _ _ ho8 e s _ J) (.cons rfl<|.cons rfl<|.cons rfl<|.cons rfl<|.cons rfl .nil) ?_
 rintro _ _ _ hq
 rcases o8 with q9|q10
 ·obtain⟨rfl,hq⟩:=hq;cases u;exact hq
 ·obtain⟨rfl,e12,rfl,rfl⟩:=hq;refine aB<|aC<|wu rfl<|aA<|aK ?_;cases u;exact⟨rfl,_,fun _=>rfl,aY rfl rfl rfl rfl J.ext⟩
theorem oI{l1:(List Str)}{c2:Int}{r:Int}(h:eO l1 c2=some r):Pf PP 190 [(slA 1<|l1.map AV.str),(.i c2)] (.i r):=Pf.cB (aAL l1 c2 r h _) rfl (.cons (j9<|cV (fun _=>rfl) _)<|.cons ⟨rfl,rfl⟩ .nil)
noncomputable def oC(b1:Arm)(x2:Arm):Option Bool:=
 some (b1.op==x2.op)
theorem aBi: ∀(b1:Arm)(x2:Arm)(r:Bool),oC b1 x2=some r→ ∀s:ASt,Fc PP (.func 231) [(gJ b1),(.aG (gJ x2) 0)] s (bW s<|.bool r):=by
 intro b1 x2 r u;unfold oC at u;intro s;refine bD rfl rfl rfl ?_;have J:=St.clean s;generalize aU s=σ1 at J⊢;refine aB<|aC<|wu rfl<|wu rfl<|aA<|aB<|aC<|wu rfl<|wu rfl<|wu rfl<|wu rfl<|wu rfl<|wu rfl<|aA ?_;refine aK ?_;cases u;exact⟨rfl,_,fun _=>rfl,aY rfl rfl rfl rfl J.ext⟩
theorem aAY{b1:Arm}{x2:Arm}{r:Bool}(h:oC b1 x2=some r):Pf PP 231 [(gJ b1),(.aG (gJ x2) 0)] (.bool r):=Pf.cB (aBi b1 x2 r h _) rfl (.cons (aDV _)<|.cons (aBO<|aDV _) .nil)
noncomputable def dK(s1:(List Arm))(f2:Arm)(x3:Int):Option (Ctl Int Unit):=
 (if(decide (x3<(s1.length:Int)))=true then((idx s1 x3)>>=fun y4=>
 ((oC y4 f2)>>=fun r5=>
 (if r5=true then some (.ret x3)
 else dK (nf s1) (nf f2) (IntKind.wrap .i64 (x3+(1))))))
 else some (.nx ()))
 partial_fixpoint
abbrev lL(s1:(List Arm))(f2:Arm)(x3:Int)(o:(Ctl Int Unit)):Prop:= ∀(e:Env)(s sv:ASt),St [] [] s sv [] []→Wk PP none Code.aPS ⟨bB e [(0,(slA 9<|s1.map aZ)),(1,(.func 231 [] [(.aG (gJ f2) 0)])),(7,(.i (s1.length:Int))),(8,(.i x3))],[]⟩ sv (fun ex fr s'=>(match o with| .ret oq0=>ex= .ret∧nQ PP Code.aR7 (VQ (.i oq0)<|Ext [] [] s) ex fr s'| .nx oq1=>ex= .exit 0∧ ∃(e:Env),fr=⟨bB e [],[]⟩∧St [] [] s s' [] []))
theorem qM: ∀(s1:(List Arm))(f2:Arm)(x3:Int)(o:(Ctl Int Unit)),dK s1 f2 x3=some o→lL s1 f2 x3 o:=by
 refine dK.partial_correctness (lL) ?_;intro _f ih_slices_IndexFunc_g244_s0_l0 s1 f2 x3 o u;intro e s sv J;refine bM<|aB<|aC<|wu rfl<|aA<|aB ?_;refine aF u rfl (fun hc u=> ?_)<|fun hc u=> ?_
 ·refine aJ<|aB<|aO<|aB<|aC<|wu rfl<|wu rfl<|aA<|aB<|aC<|wu rfl<|wu rfl<|wu rfl ?_;obtain⟨y4,hy4,u⟩:=bs u;refine bT (f:=aZ) rfl (.no _) rfl hy4 (fD _)<|wu rfl ?_;obtain⟨r5,hr5,u⟩:=bs u;refine wcC (aAY hr5) rfl rfl (.cons rfl .nil) rfl<|aA ?_;refine aF u rfl (fun hc u=> ?_)<|fun hc u=> ?_
  ·refine aB<|aC<|wu rfl<|wu rfl<|aA<|aK ?_;cases u;exact⟨rfl,⟨rfl,_,fun _=>rfl,aY rfl rfl rfl rfl J.ext⟩⟩
  ·refine aJ<|aC<|wu rfl<|wu rfl<|aA ?_;exact bV (fun e=>ih_slices_IndexFunc_g244_s0_l0 _ _ _ _ u e s _ J) (.cons rfl<|.cons rfl<|.cons rfl<|.cons rfl .nil)<|fun _ _ _ h=>h
 ·refine bY ?_;cases u;exact⟨rfl,_,frE .nil,J⟩
noncomputable def eF(s1:(List Arm))(f2:Arm):Option Int:=
 ((dK s1 f2 (0))>>=fun o6=>
 (match o6 with
 | .ret q7=>some q7
 | .nx q8=>some (-1)))
theorem sS: ∀(s1:(List Arm))(f2:Arm)(r:Int),eF s1 f2=some r→ ∀s:ASt,Fc PP (.func 244) [(slA 9<|s1.map aZ),(.func 231 [] [(.aG (gJ f2) 0)])] s (bW s<|.i r):=by
 intro s1 f2 r u;unfold eF at u;intro s;refine bD rfl rfl rfl ?_;have J:=St.clean s;generalize aU s=σ1 at J⊢;refine aB<|aC<|wu rfl<|aA<|aB<|aB<|aC<|wu rfl<|bI (f:=aZ) (l:=s1) rfl (.no _)<|wu rfl<|aA<|aO ?_;obtain⟨o6,ho6,u⟩:=bs u;refine bV (fun e=>qM _ _ _ _ ho6 e s _ J) (.cons rfl<|.cons rfl<|.cons rfl<|.cons rfl .nil) ?_
 rintro _ _ _ hq
 rcases o6 with q7|q8
 ·obtain⟨rfl,hq⟩:=hq;cases u;exact hq
 ·obtain⟨rfl,e10,rfl,J⟩:=hq;refine aB<|aC<|wu rfl<|aA<|aK ?_;cases u;exact⟨rfl,_,fun _=>rfl,aY rfl rfl rfl rfl J.ext⟩
theorem sO{s1:(List Arm)}{f2:Arm}{r:Int}(h:eF s1 f2=some r):Pf PP 244 [(slA 9<|s1.map aZ),(.func 231 [] [(.aG (gJ f2) 0)])] (.i r):=Pf.cB (sS s1 f2 r h _) rfl (.cons (j9<|cV aHt _)<|.cons (aLq .nil<|.cons (aBO<|aDV _) .nil) .nil)
noncomputable def dL(s1:(List Arm))(f2:Arm):Option Bool:=
 ((eF s1 f2)>>=fun r3=>
 some (decide (r3≥(0))))
theorem qG: ∀(s1:(List Arm))(f2:Arm)(r:Bool),dL s1 f2=some r→ ∀s:ASt,Fc PP (.func 230) [(slA 9<|s1.map aZ),(.func 231 [] [(.aG (gJ f2) 0)])] s (bW s<|.bool r):=by
 intro s1 f2 r u;unfold dL at u;intro s;refine bD rfl rfl rfl ?_;have J:=St.clean s;generalize aU s=σ1 at J⊢;refine aB<|aC<|wu rfl<|aA<|aB<|aC<|wu rfl<|wu rfl ?_;obtain⟨r3,hr3,u⟩:=bs u;refine wcD (sO hr3) rfl rfl (.cons rfl<|.cons rfl .nil)<|wu rfl<|wu rfl<|aA<|aK ?_;cases u;exact⟨rfl,_,fun _=>rfl,aY rfl rfl rfl rfl J.ext⟩
theorem qE{s1:(List Arm)}{f2:Arm}{r:Bool}(h:dL s1 f2=some r):Pf PP 230 [(slA 9<|s1.map aZ),(.func 231 [] [(.aG (gJ f2) 0)])] (.bool r):=Pf.cB (qG s1 f2 r h _) rfl (.cons (j9<|cV aHt _)<|.cons (aLq .nil<|.cons (aBO<|aDV _) .nil) .nil)
noncomputable def qI(e1:Expr)(i2:Int):Option Int:=
 ((idx e1.aT i2)>>=fun y3=>
 (((if(e1.kind==(11))=true then some ((2),(decide ((y3.names.length:Int)≤(4))))
 else(if(i2==(0))=true then((if((y3.names.length:Int)==(1))=true then some (y3.op==([114,101,116,117,114,110]:Str))
 else some false:Option Bool)>>=fun c5=>
 some ((0),c5))
 else some ((1),((y3.names.length:Int)==(2))))):Option (Int×Bool))>>=fun o4=>
 (if(!o4.2)=true then some (7)
 else((if(o4.1 !=(0))=true then((nF y3.op o4.1)>>=fun r9=>
 some (!r9))
 else some false:Option Bool)>>=fun c8=>
 (if c8=true then some (4)
 else((eO y3.names (1))>>=fun r10=>
 (if(r10 !=(0))=true then some r10
 else((cut e1.aT (0) i2)>>=fun l11=>
 ((dL l11 y3)>>=fun r12=>
 (if r12=true then some (5)
 else some (0)))))))))))
theorem aFG: ∀(e1:Expr)(i2:Int)(r:Int),qI e1 i2=some r→ ∀s:ASt,Fc PP (.func 213) [(aM e1),(.i i2)] s (bW s<|.i r):=by
 intro e1 i2 r u;unfold qI at u;intro s;refine bD rfl rfl rfl ?_;have J:=St.clean s;generalize aU s=σ1 at J⊢;refine aB<|aC<|wu rfl<|wu rfl<|aA<|aB<|aC<|wu rfl<|wu rfl<|wu rfl ?_;obtain⟨y3,hy3,u⟩:=bs u;refine bT (f:=aZ) rfl (.no _) rfl hy3 (fD _)<|wu rfl<|wu rfl<|wu rfl<|aA<|aB<|aC<|wu rfl<|wu rfl<|bI (f:=AV.str) (l:=y3.names) rfl (.no _)<|wu rfl<|wu rfl<|wu rfl<|aA ?_;refine aB<|aO<|aB<|aC<|wu rfl<|wu rfl<|wu rfl<|wu rfl<|aA ?_;obtain⟨o4,ho4,u⟩:=bs u;refine Wk.mono (Q:=fun ex fr s'=>ex= .normal∧ ∃(e:Env),fr=⟨bB e [(1,(.i i2)),(2,(.aG (aM e1) 0)),(5,(.aG (gJ y3) 0)),(6,(.i o4.1)),(7,(.bool o4.2))],[]⟩∧σ1=s') ?_ ?_
 ·refine aF ho4 rfl (fun hc ho4=> ?_)<|fun hc ho4=> ?_
  ·refine aC<|wu rfl<|wu rfl<|bI (f:=AV.str) (l:=y3.names) rfl (.no _)<|wu rfl<|wu rfl<|wu rfl<|aA ?_;cases ho4;exact⟨rfl,_,frE<|.cons rfl<|.cons rfl<|.cons rfl<|.cons rfl<|.cons rfl .nil,rfl⟩
  ·refine aB<|aC<|wu rfl<|wu rfl<|wu rfl<|aA ?_;refine aF ho4 rfl (fun hc ho4=> ?_)<|fun hc ho4=> ?_
   ·refine aC<|wu rfl<|wu rfl<|bI (f:=AV.str) (l:=y3.names) rfl (.no _)<|wu rfl<|wu rfl ?_;obtain⟨c5,hc5,ho4⟩:=bs ho4;refine aW 4 [(1,(.i i2)),(2,(.aG (aM e1) 0)),(5,(.aG (gJ y3) 0)),(37,(.bool c5))] σ1 ?_<|fun e=> ?_
    ·refine aX (t:=33) rfl (fun hc=> ?_)<|fun hc=> ?_
     ·replace hc5:=bE hc hc5;refine wu rfl<|wu rfl<|wu rfl<|wu rfl<|aA ?_;cases hc5;exact Kept.mk rfl<|.cons rfl<|.cons rfl<|.cons rfl<|.cons rfl .nil
     ·replace hc5:=bC hc hc5;refine wu rfl<|wu rfl<|wu rfl<|wu rfl<|aA ?_;cases hc5;exact Kept.mk rfl<|.cons rfl<|.cons rfl<|.cons rfl<|.cons rfl .nil
    ·refine wu rfl<|wu rfl<|aA ?_;cases ho4;exact⟨rfl,_,frE<|.cons rfl<|.cons rfl<|.cons rfl<|.cons rfl<|.cons rfl .nil,rfl⟩
   ·refine aJ ?_;cases ho4;exact⟨rfl,_,frE<|.cons rfl<|.cons rfl<|.cons rfl<|.cons rfl<|.cons rfl .nil,rfl⟩
 ·rintro _ _ _ hq
  obtain⟨rfl,e7,rfl,rfl⟩:=hq;refine aB<|aB<|aC<|wu rfl<|wu rfl<|aA ?_;refine aF u rfl (fun hc u=> ?_)<|fun hc u=> ?_
  ·refine aB<|aC<|wu rfl<|aA<|aK ?_;cases u;exact⟨rfl,_,fun _=>rfl,aY rfl rfl rfl rfl J.ext⟩
  ·refine aJ<|aB<|aB<|aC<|wu rfl<|wu rfl<|wu rfl ?_;obtain⟨c8,hc8,u⟩:=bs u;refine aW 6 [(1,(.i i2)),(2,(.aG (aM e1) 0)),(5,(.aG (gJ y3) 0)),(48,(.bool c8))] σ1 ?_<|fun e=> ?_
   ·refine aX (t:=42) rfl (fun hc=> ?_)<|fun hc=> ?_
    ·replace hc8:=bE hc hc8
     iterate 3 refine wu rfl ?_
     obtain⟨r9,hr9,hc8⟩:=bs hc8;refine wcD (sK hr9) rfl rfl (.cons rfl<|.cons rfl .nil)<|wu rfl<|wu rfl<|aA ?_;cases hc8;exact Kept.mk rfl<|.cons rfl<|.cons rfl<|.cons rfl<|.cons rfl .nil
    ·replace hc8:=bC hc hc8;refine wu rfl<|wu rfl<|wu rfl<|wu rfl<|wu rfl<|wu rfl<|aA ?_;cases hc8;exact Kept.mk rfl<|.cons rfl<|.cons rfl<|.cons rfl<|.cons rfl .nil
   ·refine aA ?_;refine aF u rfl (fun hc u=> ?_)<|fun hc u=> ?_
    ·refine aB<|aC<|wu rfl<|aA<|aK ?_;cases u;exact⟨rfl,_,fun _=>rfl,aY rfl rfl rfl rfl J.ext⟩
    ·refine aJ<|aB<|aB<|aC<|wu rfl<|wu rfl ?_;obtain⟨r10,h10,u⟩:=bs u;refine wcD (oI h10) rfl rfl (.cons rfl<|.cons rfl .nil)<|wu rfl<|aA<|aB<|aC<|wu rfl<|wu rfl<|aA ?_;refine aF u rfl (fun hc u=> ?_)<|fun hc u=> ?_
     ·refine aB<|aC<|wu rfl<|wu rfl<|aA<|aK ?_;cases u;exact⟨rfl,_,fun _=>rfl,aY rfl rfl rfl rfl J.ext⟩
     ·refine aJ<|aB<|aB<|aC<|wu rfl<|wu rfl<|wu rfl ?_;obtain⟨l11,h11,u⟩:=bs u;refine rA (f:=aZ) (lo':=(0)) (hi':=i2) rfl (.no _) (.inl ⟨rfl,rfl⟩) (.inr ⟨_,rfl⟩) (by rfl) h11 ?_;refine wu rfl ?_;obtain⟨r12,h12,u⟩:=bs u;refine wcD (qE h12) rfl rfl (.cons rfl<|.cons rfl .nil)<|aA ?_;refine aF u rfl (fun hc u=> ?_)<|fun hc u=> ?_
      ·refine aB<|aC<|wu rfl<|aA<|aK ?_;cases u;exact⟨rfl,_,fun _=>rfl,aY rfl rfl rfl rfl J.ext⟩
      ·refine aJ<|aB<|aC<|wu rfl<|aA<|aK ?_;cases u;exact⟨rfl,_,fun _=>rfl,aY rfl rfl rfl rfl J.ext⟩
theorem aFA{e1:Expr}{i2:Int}{r:Int}(h:qI e1 i2=some r):Pf PP 213 [(aM e1),(.i i2)] (.i r):=Pf.cB (aFG e1 i2 r h _) rfl (.cons (cC _)<|.cons ⟨rfl,rfl⟩ .nil)
noncomputable def fC(e1:Expr)(y3:bO)(x20:Int):Option (Ctl Int Unit):=
 (if(decide (x20<(e1.aT.length:Int)))=true then((qI e1 x20)>>=fun r21=>
 (if(r21 !=(0))=true then some (.ret r21)
 else fC (nf e1) (nf y3) (IntKind.wrap .i64 (x20+(1)))))
 else some (.nx ()))
 partial_fixpoint
abbrev wC(e1:Expr)(y3:bO)(x20:Int)(o:(Ctl Int Unit)):Prop:= ∀(e:Env)(s sv:ASt),St [] [] s sv [] []→Wk PP none Code.aPA ⟨bB e [(1,(.aG (aM e1) 0)),(3,(.aG (gI y3) 0)),(108,(.i (e1.aT.length:Int))),(109,(.i x20))],[]⟩ sv (fun ex fr s'=>(match o with| .ret oq0=>ex= .ret∧nQ PP Code.aSB (VQ (.i oq0)<|Ext [] [] s) ex fr s'| .nx oq1=>ex= .exit 1∧ ∃(e:Env),fr=⟨bB e [(1,(.aG (aM e1) 0)),(3,(.aG (gI y3) 0))],[]⟩∧sv=s'))
theorem aBA: ∀(e1:Expr)(y3:bO)(x20:Int)(o:(Ctl Int Unit)),fC e1 y3 x20=some o→wC e1 y3 x20 o:=by
 refine fC.partial_correctness (wC) ?_;intro _f ih_syntax_node_l0 e1 y3 x20 o u;intro e s sv J;refine bM<|aB<|aC<|wu rfl<|aA<|aB ?_;refine aF u rfl (fun hc u=> ?_)<|fun hc u=> ?_
 ·refine aJ<|aB<|aO<|aB<|aC<|wu rfl<|wu rfl<|aA<|aB<|aC<|wu rfl<|wu rfl ?_;obtain⟨r21,h21,u⟩:=bs u;refine wcD (aFA h21) rfl rfl (.cons rfl<|.cons rfl .nil)<|wu rfl<|aA<|aB<|aC<|wu rfl<|wu rfl<|aA ?_;refine aF u rfl (fun hc u=> ?_)<|fun hc u=> ?_
  ·refine aB<|aC<|wu rfl<|wu rfl<|aA<|aK ?_;cases u;exact⟨rfl,⟨rfl,_,fun _=>rfl,aY rfl rfl rfl rfl J.ext⟩⟩
  ·refine aJ<|aC<|wu rfl<|wu rfl<|aA ?_;exact bV (fun e=>ih_syntax_node_l0 _ _ _ _ u e s _ J) (.cons rfl<|.cons rfl<|.cons rfl<|.cons rfl .nil)<|fun _ _ _ h=>h
 ·refine bY ?_;cases u;exact⟨rfl,_,frE<|.cons rfl<|.cons rfl .nil,rfl⟩
noncomputable def eW(e1:Expr):Option Int:=
 ((iO e1.kind (0) (19))>>=fun r2=>
 (if(!r2)=true then some (1)
 else((idx kT e1.kind)>>=fun y3=>
 ((iO e1.n y3.low y3.high)>>=fun r4=>
 (if(!r4)=true then some (1)
 else((nF e1.s y3.s)>>=fun r5=>
 ((if(!r5)=true then some true
 else((nF e1.t y3.t)>>=fun r7=>
 some (!r7)):Option Bool)>>=fun c6=>
 (if c6=true then some (4)
 else((iO (e1.names.length:Int) y3.names (IntKind.wrap .i64 (y3.names+y3.more)))>>=fun r8=>
 ((if(!r8)=true then some true
 else((iO (e1.l.length:Int) y3.parts (IntKind.wrap .i64 (y3.parts+y3.plus)))>>=fun r10=>
 some (!r10)):Option Bool)>>=fun c9=>
 (if c9=true then some (7)
 else((if(!y3.aT)=true then some (decide ((e1.aT.length:Int)>(0)))
 else some false:Option Bool)>>=fun c11=>
 ((if c11=true then some true
 else some (decide ((e1.aT.length:Int)>(9))):Option Bool)>>=fun c12=>
 (if c12=true then some (7)
 else(((if(e1.kind==(17))=true then some (1)
 else some (e1.names.length:Int)):Option Int)>>=fun o13=>
 ((cut e1.names (0) o13)>>=fun l16=>
 ((eO l16 (1))>>=fun r17=>
 (if(r17 !=(0))=true then some r17
 else((cut e1.names o13 (e1.names.length:Int))>>=fun l18=>
 ((eO l18 (2))>>=fun r19=>
 (if(r19 !=(0))=true then some r19
 else((fC e1 y3 (0))>>=fun o22=>
 (match o22 with
 | .ret q23=>some q23
 | .nx q24=>((if(e1.kind !=(11))=true then some y3.aT
 else some false:Option Bool)>>=fun c27=>
 ((if c27=true then some ((e1.aT.length:Int)==(0))
 else some false:Option Bool)>>=fun c28=>
 (if c28=true then some (7)
 else some (0)))))))))))))))))))))))))))
theorem aEl: ∀(e1:Expr)(r:Int),eW e1=some r→ ∀s:ASt,Fc PP (.func 195) [(aM e1)] s (bW s<|.i r):=by
 intro e1 r u;unfold eW at u;intro s;refine bD rfl rfl rfl ?_;have J:=St.clean s;generalize aU s=σ1 at J⊢;refine aB<|aC<|wu rfl<|wu rfl<|aA<|aB<|aB<|aC<|wu rfl<|wu rfl ?_;obtain⟨r2,hr2,u⟩:=bs u;refine wcD (oD hr2) rfl rfl (.cons rfl<|.cons rfl<|.cons rfl .nil)<|wu rfl<|aA ?_;refine aF u rfl (fun hc u=> ?_)<|fun hc u=> ?_
 ·refine aB<|aC<|wu rfl<|aA<|aK ?_;cases u;exact⟨rfl,_,fun _=>rfl,aY rfl rfl rfl rfl J.ext⟩
 ·refine aJ<|aB<|aC<|wu rfl<|wu rfl ?_;obtain⟨y3,hy3,u⟩:=bs u;refine aUz rfl rfl rfl hy3 (by rfl) ?_;refine aTV (f:=xM) rfl rfl aAk (fun _=>rfl) hy3 ?_;refine wu rfl<|wu rfl<|aA<|aB<|aO<|aB<|aC<|wu rfl<|wu rfl<|wu rfl<|wu rfl<|wu rfl<|wu rfl ?_;obtain⟨r4,hr4,u⟩:=bs u;refine wcD (oD hr4) rfl rfl (.cons rfl<|.cons rfl<|.cons rfl .nil)<|wu rfl<|wu rfl<|aA ?_;refine aF u rfl (fun hc u=> ?_)<|fun hc u=> ?_
  ·refine aB<|aC<|wu rfl<|aA<|aK ?_;cases u;exact⟨rfl,_,fun _=>rfl,aY rfl rfl rfl rfl J.ext⟩
  ·refine aB<|aC<|wu rfl<|wu rfl<|wu rfl<|wu rfl ?_;obtain⟨r5,hr5,u⟩:=bs u;refine wcD (sK hr5) rfl rfl (.cons rfl<|.cons rfl .nil)<|wu rfl<|wu rfl ?_;obtain⟨c6,hc6,u⟩:=bs u;refine aW 7 [(1,(.aG (aM e1) 0)),(3,(.aG (gI y3) 0)),(40,(.bool c6))] σ1 ?_<|fun e=> ?_
   ·refine aX (t:=33) rfl (fun hc=> ?_)<|fun hc=> ?_
    ·replace hc6:=bE hc hc6;refine wu rfl<|wu rfl<|wu rfl<|wu rfl<|wu rfl<|wu rfl<|wu rfl<|aA ?_;cases hc6;exact Kept.mk rfl<|.cons rfl<|.cons rfl<|.cons rfl .nil
    ·replace hc6:=bC hc hc6
     iterate 4 refine wu rfl ?_
     obtain⟨r7,hr7,hc6⟩:=bs hc6;refine wcD (sK hr7) rfl rfl (.cons rfl<|.cons rfl .nil)<|wu rfl<|wu rfl<|aA ?_;cases hc6;exact Kept.mk rfl<|.cons rfl<|.cons rfl<|.cons rfl .nil
   ·refine wu rfl<|aA ?_;refine aF u rfl (fun hc u=> ?_)<|fun hc u=> ?_
    ·refine aB<|aC<|wu rfl<|aA<|aK ?_;cases u;exact⟨rfl,_,fun _=>rfl,aY rfl rfl rfl rfl J.ext⟩
    ·refine aB<|aC<|wu rfl<|wu rfl<|bI (f:=AV.str) (l:=e1.names) rfl (.no _)<|wu rfl<|wu rfl<|wu rfl<|wu rfl<|wu rfl<|wu rfl<|wu rfl ?_;obtain⟨r8,hr8,u⟩:=bs u;refine wcD (oD hr8) rfl rfl (.cons rfl<|.cons rfl<|.cons rfl .nil)<|wu rfl<|wu rfl ?_;obtain⟨c9,hc9,u⟩:=bs u;refine aW 13 [(1,(.aG (aM e1) 0)),(3,(.aG (gI y3) 0)),(67,(.bool c9))] σ1 ?_<|fun e=> ?_
     ·refine aX (t:=54) rfl (fun hc=> ?_)<|fun hc=> ?_
      ·replace hc9:=bE hc hc9;refine wu rfl<|wu rfl<|wu rfl<|wu rfl<|wu rfl<|wu rfl<|wu rfl<|wu rfl<|wu rfl<|wu rfl<|wu rfl<|wu rfl<|wu rfl<|aA ?_;cases hc9;exact Kept.mk rfl<|.cons rfl<|.cons rfl<|.cons rfl .nil
      ·replace hc9:=bC hc hc9;refine wu rfl<|wu rfl<|bI (f:=aP) (l:=e1.l) rfl (.no _)<|wu rfl<|wu rfl<|wu rfl<|wu rfl<|wu rfl<|wu rfl<|wu rfl ?_;obtain⟨r10,h10,hc9⟩:=bs hc9;refine wcD (oD h10) rfl rfl (.cons rfl<|.cons rfl<|.cons rfl .nil)<|wu rfl<|wu rfl<|aA ?_;cases hc9;exact Kept.mk rfl<|.cons rfl<|.cons rfl<|.cons rfl .nil
     ·refine wu rfl<|aA ?_;refine aF u rfl (fun hc u=> ?_)<|fun hc u=> ?_
      ·refine aB<|aC<|wu rfl<|aA<|aK ?_;cases u;exact⟨rfl,_,fun _=>rfl,aY rfl rfl rfl rfl J.ext⟩
      ·refine aB<|aC<|wu rfl<|wu rfl<|wu rfl<|wu rfl ?_;obtain⟨c11,h11,u⟩:=bs u;refine aW 5 [(1,(.aG (aM e1) 0)),(3,(.aG (gI y3) 0)),(77,(.bool c11))] σ1 ?_<|fun e=> ?_
       ·refine aX (t:=72) rfl (fun hc=> ?_)<|fun hc=> ?_
        ·replace h11:=bE hc h11;refine wu rfl<|wu rfl<|bI (f:=aZ) (l:=e1.aT) rfl (.no _)<|wu rfl<|wu rfl<|aA ?_;cases h11;exact Kept.mk rfl<|.cons rfl<|.cons rfl<|.cons rfl .nil
        ·replace h11:=bC hc h11;refine wu rfl<|wu rfl<|wu rfl<|wu rfl<|wu rfl<|aA ?_;cases h11;exact Kept.mk rfl<|.cons rfl<|.cons rfl<|.cons rfl .nil
       ·refine wu rfl ?_;obtain⟨c12,h12,u⟩:=bs u;refine aW 5 [(1,(.aG (aM e1) 0)),(3,(.aG (gI y3) 0)),(83,(.bool c12))] σ1 ?_<|fun e=> ?_
        ·refine aX (t:=78) rfl (fun hc=> ?_)<|fun hc=> ?_
         ·replace h12:=bE hc h12;refine wu rfl<|wu rfl<|wu rfl<|wu rfl<|wu rfl<|aA ?_;cases h12;exact Kept.mk rfl<|.cons rfl<|.cons rfl<|.cons rfl .nil
         ·replace h12:=bC hc h12;refine wu rfl<|wu rfl<|bI (f:=aZ) (l:=e1.aT) rfl (.no _)<|wu rfl<|wu rfl<|aA ?_;cases h12;exact Kept.mk rfl<|.cons rfl<|.cons rfl<|.cons rfl .nil
        ·refine wu rfl<|aA ?_;refine aF u rfl (fun hc u=> ?_)<|fun hc u=> ?_
         ·refine aB<|aC<|wu rfl<|aA<|aK ?_;cases u;exact⟨rfl,_,fun _=>rfl,aY rfl rfl rfl rfl J.ext⟩
         ·refine aJ<|aB<|aC<|wu rfl<|wu rfl<|bI (f:=AV.str) (l:=e1.names) rfl (.no _)<|wu rfl<|aA<|aB<|aB<|aC<|wu rfl<|wu rfl<|wu rfl ?_;refine aA ?_;obtain⟨o13,h13,u⟩:=bs u;refine Wk.mono (Q:=fun ex fr s'=>ex= .normal∧ ∃(e:Env),fr=⟨bB e [(1,(.aG (aM e1) 0)),(3,(.aG (gI y3) 0)),(4,(.i o13))],[]⟩∧σ1=s') ?_ ?_
          ·refine aF h13 rfl (fun hc h13=> ?_)<|fun hc h13=> ?_
           ·refine aC<|wu rfl<|aA ?_;cases h13;exact⟨rfl,_,frE<|.cons rfl<|.cons rfl<|.cons rfl .nil,rfl⟩
           ·refine aJ ?_;cases h13;exact⟨rfl,_,frE<|.cons rfl<|.cons rfl<|.cons rfl .nil,rfl⟩
          ·rintro _ _ _ hq
           obtain⟨rfl,e15,rfl,rfl⟩:=hq;refine aB<|aB<|aC<|wu rfl<|wu rfl<|wu rfl ?_;obtain⟨l16,h16,u⟩:=bs u;refine rA (f:=AV.str) (lo':=(0)) (hi':=o13) rfl (.no _) (.inl ⟨rfl,rfl⟩) (.inr ⟨_,rfl⟩) (by rfl) h16 ?_;obtain⟨r17,h17,u⟩:=bs u;refine wcD (oI h17) rfl rfl (.cons rfl<|.cons rfl .nil)<|wu rfl<|aA<|aB<|aC<|wu rfl<|wu rfl<|aA ?_;refine aF u rfl (fun hc u=> ?_)<|fun hc u=> ?_
           ·refine aB<|aC<|wu rfl<|wu rfl<|aA<|aK ?_;cases u;exact⟨rfl,_,fun _=>rfl,aY rfl rfl rfl rfl J.ext⟩
           ·refine aJ<|aB<|aB<|aC<|wu rfl<|wu rfl<|wu rfl ?_;obtain⟨l18,h18,u⟩:=bs u;refine rA (f:=AV.str) (lo':=o13) (hi':=(e1.names.length:Int)) rfl (.no _) (.inr ⟨_,rfl⟩) (.inl ⟨rfl,rfl⟩) (by rfl) h18 ?_;obtain⟨r19,h19,u⟩:=bs u;refine wcD (oI h19) rfl rfl (.cons rfl<|.cons rfl .nil)<|wu rfl<|aA<|aB<|aC<|wu rfl<|wu rfl<|aA ?_;refine aF u rfl (fun hc u=> ?_)<|fun hc u=> ?_
            ·refine aB<|aC<|wu rfl<|wu rfl<|aA<|aK ?_;cases u;exact⟨rfl,_,fun _=>rfl,aY rfl rfl rfl rfl J.ext⟩
            ·refine aJ<|aB<|aB<|aC<|wu rfl<|wu rfl<|bI (f:=aZ) (l:=e1.aT) rfl (.no _)<|wu rfl<|aA<|aO ?_;obtain⟨o22,h22,u⟩:=bs u;refine bV (fun e=>aBA _ _ _ _ h22 e s _ J) (.cons rfl<|.cons rfl<|.cons rfl<|.cons rfl .nil) ?_
             rintro _ _ _ hq
             rcases o22 with q23|q24
             ·obtain⟨rfl,hq⟩:=hq;cases u;exact hq
             ·obtain⟨rfl,e26,rfl,rfl⟩:=hq;refine aB<|aB<|aC<|wu rfl<|wu rfl<|wu rfl<|wu rfl ?_;obtain⟨c27,h27,u⟩:=bs u;refine aW 3 [(1,(.aG (aM e1) 0)),(125,(.bool c27))] σ1 ?_<|fun e=> ?_
              ·refine aX (t:=122) rfl (fun hc=> ?_)<|fun hc=> ?_
               ·replace h27:=bE hc h27;refine wu rfl<|wu rfl<|wu rfl<|aA ?_;cases h27;exact Kept.mk rfl<|.cons rfl<|.cons rfl .nil
               ·replace h27:=bC hc h27;refine wu rfl<|wu rfl<|wu rfl<|aA ?_;cases h27;exact Kept.mk rfl<|.cons rfl<|.cons rfl .nil
              ·refine wu rfl ?_;obtain⟨c28,h28,u⟩:=bs u;refine aW 5 [(131,(.bool c28))] σ1 ?_<|fun e=> ?_
               ·refine aX (t:=126) rfl (fun hc=> ?_)<|fun hc=> ?_
                ·replace h28:=bE hc h28;refine wu rfl<|wu rfl<|bI (f:=aZ) (l:=e1.aT) rfl (.no _)<|wu rfl<|wu rfl<|aA ?_;cases h28;exact Kept.mk rfl<|.cons rfl .nil
                ·replace h28:=bC hc h28;refine wu rfl<|wu rfl<|wu rfl<|wu rfl<|wu rfl<|aA ?_;cases h28;exact Kept.mk rfl<|.cons rfl .nil
               ·refine aA ?_;refine aF u rfl (fun hc u=> ?_)<|fun hc u=> ?_
                ·refine aB<|aC<|wu rfl<|aA<|aK ?_;cases u;exact⟨rfl,_,fun _=>rfl,aY rfl rfl rfl rfl J.ext⟩
                ·refine aJ<|aB<|aC<|wu rfl<|aA<|aK ?_;cases u;exact⟨rfl,_,fun _=>rfl,aY rfl rfl rfl rfl J.ext⟩
theorem aEK{e1:Expr}{r:Int}(h:eW e1=some r):Pf PP 195 [(aM e1)] (.i r):=Pf.cB (aEl e1 r h _) rfl (.cons (cC _) .nil)
mutual
noncomputable def pZ (e1:Expr) (f2:Int):Option (Bool×Int):=
 ((fZ e1 (0) f2)>>=fun o11=>
 (match o11 with
 | .ret q12=>some q12
 | .nx q13=>((fX e1 (0) q13)>>=fun o25=>
 (match o25 with
 | .ret q26=>some q26
 | .nx q27=>some (true,q27)))))
 partial_fixpoint
noncomputable def fX (e1:Expr) (x17:Int) (c18:Int):Option (Ctl (Bool×Int) Int):=
 (if(decide (x17<(e1.aT.length:Int)))=true then((idx e1.aT x17)>>=fun y19=>
 ((jR y19.body (nf c18))>>=fun r20=>
 (if(!r20.1)=true then some (.ret (false,r20.2))
 else fX (nf e1) (IntKind.wrap .i64 (x17+(1))) r20.2)))
 else some (.nx c18))
 partial_fixpoint
noncomputable def jR (x1:Expr) (x2:Int):Option (Bool×Int):=
 ((j5 (nf x1))>>=fun r3=>
 some ((r3==(0)),r3))
 partial_fixpoint
noncomputable def j5 (e1:Expr):Option Int:=
 ((eW e1)>>=fun r2=>
 (if(r2==(0))=true then((pZ (nf e1) (nf r2))>>=fun r6=>
 some r6.2)
 else some r2))
 partial_fixpoint
noncomputable def fZ (e1:Expr) (x3:Int) (c4:Int):Option (Ctl (Bool×Int) Int):=
 (if(decide (x3<(e1.l.length:Int)))=true then((idx e1.l x3)>>=fun y5=>
 ((jR (nf y5) (nf c4))>>=fun r6=>
 (if(!r6.1)=true then some (.ret (false,r6.2))
 else fZ (nf e1) (IntKind.wrap .i64 (x3+(1))) r6.2)))
 else some (.nx c4))
 partial_fixpoint
end
abbrev vX(e1:Expr)(f2:Int)(r:(Bool×Int)):Prop:= ∀(s:ASt)(β1:Nat),Kn s [(β1,.cells [(.i f2)] true)] []→Fc PP (.func 192) [(aM e1),(.func 196 [] [(.ptr β1 0)])] s (nV s [β1] [] (.bool r.1) (fun a:Unit=> [(β1,.cells [(.i r.2)] true)]) (fun a:Unit=> []) (fun a:Unit=>True))
abbrev sE(e1:Expr)(x17:Int)(c18:Int)(o:(Ctl (Bool×Int) Int)):Prop:= ∀(e:Env)(s sv:ASt)(β1:Nat),St [β1] [] s sv [(β1,.cells [(.i c18)] true)] []→Wk PP none Code.aLt ⟨bB e [(1,(.func 196 [] [(.ptr β1 0)])),(22,(slA 9<|e1.aT.map aZ)),(23,(.i (e1.aT.length:Int))),(24,(.i x17))],[]⟩ sv (fun ex fr s'=>(match o with| .ret oq0=>ex= .ret∧nQ PP Code.aLH (VQ (.bool oq0.1)<|RX s [β1] [] (fun a:Unit=> [(β1,.cells [(.i oq0.2)] true)]) (fun a:Unit=> []) (fun a:Unit=>True)) ex fr s'| .nx oq1=>ex= .exit 2∧ ∃(e:Env),fr=⟨bB e [],[]⟩∧St [β1] [] s s' [(β1,.cells [(.i oq1)] true)] []))
abbrev sG(x1:Expr)(x2:Int)(r:(Bool×Int)):Prop:= ∀(s:ASt)(β1:Nat),Kn s [(β1,.cells [(.i x2)] true)] []→Fc PP (.func 196) [(aM x1),(.ptr β1 0)] s (nV s [β1] [] (.bool r.1) (fun a:Unit=> [(β1,.cells [(.i r.2)] true)]) (fun a:Unit=> []) (fun a:Unit=>True))
abbrev tC(e1:Expr)(r:Int):Prop:= ∀s:ASt,Fc PP (.func 150) [(aM e1)] s (bW s<|.i r)
abbrev sD(e1:Expr)(x3:Int)(c4:Int)(o:(Ctl (Bool×Int) Int)):Prop:= ∀(e:Env)(s sv:ASt)(β1:Nat),St [β1] [] s sv [(β1,.cells [(.i c4)] true)] []→Wk PP none Code.aLp ⟨bB e [(1,(.func 196 [] [(.ptr β1 0)])),(2,(.aG (aM e1) 0)),(10,(slA 7<|e1.l.map aP)),(11,(.i (e1.l.length:Int))),(12,(.i x3))],[]⟩ sv (fun ex fr s'=>(match o with| .ret oq0=>ex= .ret∧nQ PP Code.aLH (VQ (.bool oq0.1)<|RX s [β1] [] (fun a:Unit=> [(β1,.cells [(.i oq0.2)] true)]) (fun a:Unit=> []) (fun a:Unit=>True)) ex fr s'| .nx oq1=>ex= .exit 0∧ ∃(e:Env),fr=⟨bB e [(1,(.func 196 [] [(.ptr β1 0)])),(2,(.aG (aM e1) 0))],[]⟩∧St [β1] [] s s' [(β1,.cells [(.i oq1)] true)] []))
theorem xK{e1:Expr}{r:Int}(h: ∀s:ASt,Fc PP (.func 150) [(aM e1)] s<|bW s<|.i r):Pf PP 150 [(aM e1)] (.i r):=Pf.cB (h _) rfl (.cons (cC _) .nil)
theorem aA1:(∀(e1:Expr)(f2:Int)(r:(Bool×Int)),pZ e1 f2=some r→vX e1 f2 r)∧
  (∀(e1:Expr)(x17:Int)(c18:Int)(o:(Ctl (Bool×Int) Int)),fX e1 x17 c18=some o→sE e1 x17 c18 o)∧
  (∀(x1:Expr)(x2:Int)(r:(Bool×Int)),jR x1 x2=some r→sG x1 x2 r)∧
  (∀(e1:Expr)(r:Int),j5 e1=some r→tC e1 r)∧
  (∀(e1:Expr)(x3:Int)(c4:Int)(o:(Ctl (Bool×Int) Int)),fZ e1 x3 c4=some o→sD e1 x3 c4 o):=by
 refine pZ.mutual_partial_correctness vX sE sG tC sD ?_ ?_ ?_ ?_ ?_
 ·intro _f0 _f1 ih_syntax_each_s1_l1 ih_syntax_each_s1_l0 e1 f2 r u;intro s β1 hK;refine rV hK (fun _=>rfl) (fun _=>aFC) rfl rfl rfl ?_;have J:=hK.start;generalize aU s=σ1 at J⊢;refine aB<|aC<|wu rfl<|wu rfl<|aA<|aB<|aB<|aC<|wu rfl<|wu rfl<|bI (f:=aP) (l:=e1.l) rfl (.no _)<|wu rfl<|aA<|aO ?_;obtain⟨o11,h11,u⟩:=bs u;refine bV (fun e=>ih_syntax_each_s1_l0 _ _ _ _ h11 e s _ β1 J) (.cons rfl<|.cons rfl<|.cons rfl<|.cons rfl<|.cons rfl .nil) ?_
  rintro _ _ _ hq
  rcases o11 with q12|q13
  ·obtain⟨rfl,hq⟩:=hq;cases u;exact hq
  ·obtain⟨rfl,e15,rfl,J⟩:=hq;refine aB<|aB<|aC<|wu rfl<|wu rfl<|bI (f:=aZ) (l:=e1.aT) rfl (.no _)<|wu rfl<|aA<|aO ?_;obtain⟨o25,h25,u⟩:=bs u;refine bV (fun e=>ih_syntax_each_s1_l1 _ _ _ _ h25 e s _ β1 J) (.cons rfl<|.cons rfl<|.cons rfl<|.cons rfl .nil) ?_
   rintro _ _ _ hq
   rcases o25 with q26|q27
   ·obtain⟨rfl,hq⟩:=hq;cases u;exact hq
   ·obtain⟨rfl,e29,rfl,J⟩:=hq;refine aB<|aC<|wu rfl<|aA<|aK ?_;cases u;exact⟨rfl,_,fun _=>rfl,aY rfl rfl rfl rfl ⟨(),trivial,J⟩⟩
 ·intro _f0 _f1 ih_syntax_each_s1_l1 ih_syntax_nodes_1_s0 e1 x17 c18 o u;intro e s sv β1 J;refine bM<|aB<|aC<|wu rfl<|aA<|aB ?_;refine aF u rfl (fun hc u=> ?_)<|fun hc u=> ?_
  ·refine aJ<|aB<|aO<|aB<|aC ?_;obtain⟨y19,h19,u⟩:=bs u;refine bT (f:=aZ) rfl (.no _) rfl h19 (fD _)<|wu rfl<|wu rfl<|wu rfl<|aA<|aB<|aC<|wu rfl<|wu rfl<|wu rfl ?_;obtain⟨r20,h20,u⟩:=bs u;refine cN rfl (bs1:= [(β1,.cells [(.i c18)] true)]) (bs2:= []) (gs1:= []) (gs2:= []) rfl J (fun hK=>ih_syntax_nodes_1_s0 _ _ _ h20 _ β1 hK) rfl rfl (fun _=>rfl) rfl (by exact(.cons rfl .nil)) rfl<|fun σ21 a22 hF J=> ?_;refine wu rfl<|aA ?_;refine aF u rfl (fun hc u=> ?_)<|fun hc u=> ?_
   ·refine aB<|aC<|wu rfl<|aA<|aK ?_;cases u;exact⟨rfl,⟨rfl,_,fun _=>rfl,aY rfl rfl rfl rfl ⟨(),trivial,J⟩⟩⟩
   ·refine aJ<|aC<|wu rfl<|wu rfl<|aA ?_;exact bV (fun e=>ih_syntax_each_s1_l1 _ _ _ _ u e s _ β1 J) (.cons rfl<|.cons rfl<|.cons rfl<|.cons rfl .nil)<|fun _ _ _ h=>h
  ·refine bY ?_;cases u;exact⟨rfl,_,frE .nil,J⟩
 ·intro _f0 ih_syntax_nodes x1 x2 r u;intro s β1 hK;refine rV hK (fun _=>rfl) (fun _=>aFC) rfl rfl rfl ?_;have J:=hK.start;generalize aU s=σ1 at J⊢;refine aB<|aC<|wu rfl<|wu rfl<|aA<|aB<|aC<|wu rfl ?_;obtain⟨r3,hr3,u⟩:=bs u;refine wcD (xK<|ih_syntax_nodes _ _ hr3) rfl rfl (.cons rfl .nil) ?_;refine cJ (ds':= [(.i r3)]) (cs':= [(.i r3)]) 0 rfl J rfl rfl rfl rfl rfl (Nat.le_of_ble_eq_true rfl) (.cons (tkN rfl) .nil) (by kernel_rfl)<|fun σ4 J=> ?_;refine aA<|aB<|aC<|lA 0 rfl J rfl rfl rfl<|wu rfl<|wu rfl<|aA<|aK ?_;cases u;exact⟨rfl,_,fun _=>rfl,aY rfl rfl rfl rfl ⟨(),trivial,J⟩⟩
 ·intro _f0 ih_syntax_each_s1 e1 r u;intro s;refine bD rfl rfl rfl ?_;have J:=St.clean s;generalize aU s=σ1 at J⊢;refine aB<|aC<|wu rfl<|wu rfl<|aA<|aB<|aC<|wu rfl ?_;obtain⟨r2,hr2,u⟩:=bs u;refine wcD (aEK hr2) rfl rfl (.cons rfl .nil) ?_;refine lU rfl J rfl<|fun β3 σ4 J=> ?_;refine cJ (ds':= [(.i r2)]) (cs':= [(.i r2)]) 0 rfl J rfl rfl rfl rfl rfl (Nat.le_of_ble_eq_true rfl) (.cons (tkN rfl) .nil) (by kernel_rfl)<|fun σ5 J=> ?_;refine aA<|aB<|aB<|aC<|lA 0 rfl J rfl rfl rfl<|wu rfl<|aA ?_;refine aF u rfl (fun hc u=> ?_)<|fun hc u=> ?_
  ·refine aC<|wu rfl<|wu rfl ?_;obtain⟨r6,hr6,u⟩:=bs u;refine cN rfl (bs1:= [(β3,.cells [(.i r2)] true)]) (bs2:= []) (gs1:= []) (gs2:= []) rfl J (fun hK=>ih_syntax_each_s1 _ _ _ hr6 _ β3 hK) rfl rfl (fun _=>rfl) rfl (by exact(.cons rfl<|.cons rfl .nil)) rfl<|fun σ7 a8 hF J=> ?_;refine aA<|aB<|aC<|lA 0 rfl J rfl rfl rfl<|wu rfl<|aA<|aK ?_;cases u;exact⟨rfl,_,fun _=>rfl,aY rfl rfl rfl rfl J.ext⟩
  ·refine aJ<|aB<|aC<|lA 0 rfl J rfl rfl rfl<|wu rfl<|aA<|aK ?_;cases u;exact⟨rfl,_,fun _=>rfl,aY rfl rfl rfl rfl J.ext⟩
 ·intro _f0 _f1 ih_syntax_nodes_1_s0 ih_syntax_each_s1_l0 e1 x3 c4 o u;intro e s sv β1 J;refine bM<|aB<|aC<|wu rfl<|aA<|aB ?_;refine aF u rfl (fun hc u=> ?_)<|fun hc u=> ?_
  ·refine aJ<|aB<|aO<|aB<|aC ?_;obtain⟨y5,hy5,u⟩:=bs u;refine bT (f:=aP) rfl (.no _) rfl hy5 (bN _)<|wu rfl<|wu rfl<|wu rfl<|aA<|aB<|aC<|wu rfl<|wu rfl ?_;obtain⟨r6,hr6,u⟩:=bs u;refine cN rfl (bs1:= [(β1,.cells [(.i c4)] true)]) (bs2:= []) (gs1:= []) (gs2:= []) rfl J (fun hK=>ih_syntax_nodes_1_s0 _ _ _ hr6 _ β1 hK) rfl rfl (fun _=>rfl) rfl (by exact(.cons rfl .nil)) rfl<|fun σ7 a8 hF J=> ?_;refine wu rfl<|aA ?_;refine aF u rfl (fun hc u=> ?_)<|fun hc u=> ?_
   ·refine aB<|aC<|wu rfl<|aA<|aK ?_;cases u;exact⟨rfl,⟨rfl,_,fun _=>rfl,aY rfl rfl rfl rfl ⟨(),trivial,J⟩⟩⟩
   ·refine aJ<|aC<|wu rfl<|wu rfl<|aA ?_;exact bV (fun e=>ih_syntax_each_s1_l0 _ _ _ _ u e s _ β1 J) (.cons rfl<|.cons rfl<|.cons rfl<|.cons rfl<|.cons rfl .nil)<|fun _ _ _ h=>h
  ·refine bY ?_;cases u;exact⟨rfl,_,frE<|.cons rfl<|.cons rfl .nil,J⟩
theorem aDE: ∀(e1:Expr)(r:Int),j5 e1=some r→tC e1 r:=aA1.2.2.2.1
theorem aDr{e1:Expr}{r:Int}(h:j5 e1=some r):Pf PP 150 [(aM e1)] (.i r):=xK (aDE e1 r h)
noncomputable def lT(e1:Expr):Option (aL×Int):=
 ((dE e1 (1) (aL.mk ((aL.mk (3000) (0)).left) ((aL.mk (3000) (0)).deep)))>>=fun r7=>
 (if(!r7.1)=true then some ((aL.mk ((aL.mk r7.2.left r7.2.deep).left) ((aL.mk r7.2.left r7.2.deep).deep)),(3))
 else((j5 e1)>>=fun r13=>
 some ((aL.mk ((aL.mk r7.2.left r7.2.deep).left) ((aL.mk r7.2.left r7.2.deep).deep)),r13))))
theorem aA9: ∀(e1:Expr)(r:(aL×Int)),lT e1=some r→ ∀s:ASt,Fc PP (.func 113) [(aM e1)] s (bW s<|.tuple [(j1 r.1),(.i r.2)]):=by
 intro e1 r u;unfold lT at u;intro s;refine bD rfl rfl rfl ?_;have J:=St.clean s;generalize aU s=σ1 at J⊢;refine aB<|aC<|wu rfl ?_;refine lU rfl J rfl<|fun β2 σ3 J=> ?_;refine wu rfl<|aA<|aB<|aC ?_;refine wgv (v:=(j1<|aL.mk (3000)<|0)) rfl rfl (by kernel_rfl) ?_;refine lU rfl J rfl<|fun β4 σ5 J=> ?_;refine cJ (ds':= [(.i (aL.mk (3000)<|0).left),(.i (aL.mk (3000)<|0).deep)]) (cs':= [(.i (aL.mk (3000)<|0).left),(.i (aL.mk (3000)<|0).deep)]) 0 rfl J rfl rfl rfl rfl rfl (Nat.le_of_ble_eq_true rfl) (.cons (tkN rfl)<|.cons (tkN rfl) .nil) (by kernel_rfl)<|fun σ6 J=> ?_;refine aA<|aB<|aB<|aC<|wu rfl ?_;obtain⟨r7,hr7,u⟩:=bs u;refine cN rfl (bs1:= [(β4,.cells [(.i (aL.mk (3000)<|0).left),(.i (aL.mk (3000)<|0).deep)] true)]) (bs2:= [(β2,.cells [(.i<|0),(.i<|0)] true)]) (gs1:= []) (gs2:= []) rfl J (fun hK=>tZ _ _ _ _ hr7 _ β4 hK) rfl rfl (fun _=>rfl) rfl (by exact(.cons rfl<|.cons rfl<|.cons rfl .nil)) rfl<|fun σ8 a9 hF J=> ?_;refine wu rfl<|aA ?_;refine aF u rfl (fun hc u=> ?_)<|fun hc u=> ?_
 ·refine aB<|aC<|aCF (us:= [(.i r7.2.left),(.i r7.2.deep)]) (ws:= [(.i r7.2.left),(.i r7.2.deep)]) 0 rfl J rfl rfl (Nat.le_of_ble_eq_true rfl) rfl (.cons rfl<|.cons rfl .nil) ?_;refine cJ (ds':= [(.i (aL.mk r7.2.left r7.2.deep).left),(.i (aL.mk r7.2.left r7.2.deep).deep)]) (cs':= [(.i (aL.mk r7.2.left r7.2.deep).left),(.i (aL.mk r7.2.left r7.2.deep).deep)]) 1 rfl J rfl rfl rfl rfl rfl (Nat.le_of_ble_eq_true rfl) (.cons (tkN rfl)<|.cons (tkN rfl) .nil) (by kernel_rfl)<|fun σ12 J=> ?_;refine wu rfl<|aA<|aK ?_;cases u;exact⟨rfl,_,fun _=>rfl,dN (xC.eq<|.cons (z5 (us:= [(.i (aL.mk r7.2.left r7.2.deep).left),(.i (aL.mk r7.2.left r7.2.deep).deep)]) J 1 rfl rfl (Nat.le_of_ble_eq_true rfl) rfl<|.cons rfl<|.cons rfl .nil)<|.cons rfl .nil) (.cons rfl<|.cons rfl .nil) J.ext⟩
 ·refine aJ<|aB<|aC<|aCF (us:= [(.i r7.2.left),(.i r7.2.deep)]) (ws:= [(.i r7.2.left),(.i r7.2.deep)]) 0 rfl J rfl rfl (Nat.le_of_ble_eq_true rfl) rfl (.cons rfl<|.cons rfl .nil)<|wu rfl ?_;obtain⟨r13,h13,u⟩:=bs u;refine wcD (aDr h13) rfl rfl (.cons rfl .nil) ?_;refine cJ (ds':= [(.i (aL.mk r7.2.left r7.2.deep).left),(.i (aL.mk r7.2.left r7.2.deep).deep)]) (cs':= [(.i (aL.mk r7.2.left r7.2.deep).left),(.i (aL.mk r7.2.left r7.2.deep).deep)]) 1 rfl J rfl rfl rfl rfl rfl (Nat.le_of_ble_eq_true rfl) (.cons (tkN rfl)<|.cons (tkN rfl) .nil) (by kernel_rfl)<|fun σ14 J=> ?_;refine wu rfl<|aA<|aK ?_;cases u;exact⟨rfl,_,fun _=>rfl,dN (xC.eq<|.cons (z5 (us:= [(.i (aL.mk r7.2.left r7.2.deep).left),(.i (aL.mk r7.2.left r7.2.deep).deep)]) J 1 rfl rfl (Nat.le_of_ble_eq_true rfl) rfl<|.cons rfl<|.cons rfl .nil)<|.cons rfl .nil) (.cons rfl<|.cons rfl .nil) J.ext⟩
theorem aBg{e1:Expr}{r:(aL×Int)}(h:lT e1=some r):Pf PP 113 [(aM e1)] (.tuple [(j1 r.1),(.i r.2)]):=Pf.cB (aA9 e1 r h _) (rW<|.cons (aA8 _).2<|.cons rfl<|.nil) (.cons (cC _) .nil)
noncomputable def lN(e1:Expr):Option Int:=
 ((lT e1)>>=fun r2=>
 some r2.2)
theorem aDj: ∀(e1:Expr)(r:Int),lN e1=some r→ ∀s:ASt,Fc PP (.func 81) [(aM e1)] s (bW s<|.i r):=by
 intro e1 r u;unfold lN at u;intro s;refine bD rfl rfl rfl ?_;have J:=St.clean s;generalize aU s=σ1 at J⊢;refine aB<|aC<|wu rfl<|wu rfl<|aA<|aB<|aC<|wu rfl ?_;obtain⟨r2,hr2,u⟩:=bs u;refine wcD (aBg hr2) rfl rfl (.cons rfl .nil)<|wu rfl<|wu rfl<|wu rfl<|wu rfl<|wu rfl<|wu rfl<|aA<|aB<|aC<|wu rfl<|wu rfl<|aA<|aK ?_;cases u;exact⟨rfl,_,fun _=>rfl,aY rfl rfl rfl rfl J.ext⟩
theorem aDp{e1:Expr}{r:Int}(h:lN e1=some r):Pf PP 81 [(aM e1)] (.i r):=Pf.cB (aDj e1 r h _) rfl (.cons (cC _) .nil)
noncomputable def gX(e1:Expr)(k2:Str):Option Int:=
 ((lN e1)>>=fun r3=>
 (if(r3 !=(0))=true then some r3
 else((mX k2)>>=fun r4=>
 (if(!r4)=true then some (4)
 else some (0)))))
theorem aBF: ∀(e1:Expr)(k2:Str)(r:Int),gX e1 k2=some r→ ∀s:ASt,Fc PP (.func 46) [(aM e1),(.str k2)] s (bW s<|.i r):=by
 intro e1 k2 r u;unfold gX at u;intro s;refine bD rfl rfl rfl ?_;have J:=St.clean s;generalize aU s=σ1 at J⊢;refine aB<|aC<|wu rfl<|wu rfl<|aA<|aB<|aB<|aC<|wu rfl ?_;obtain⟨r3,hr3,u⟩:=bs u;refine wcD (aDp hr3) rfl rfl (.cons rfl .nil)<|wu rfl<|aA<|aB<|aC<|wu rfl<|wu rfl<|aA ?_;refine aF u rfl (fun hc u=> ?_)<|fun hc u=> ?_
 ·refine aB<|aC<|wu rfl<|wu rfl<|aA<|aK ?_;cases u;exact⟨rfl,_,fun _=>rfl,aY rfl rfl rfl rfl J.ext⟩
 ·refine aJ<|aB<|aB<|aC<|wu rfl ?_;obtain⟨r4,hr4,u⟩:=bs u;refine wcD (xZ hr4) rfl rfl (.cons rfl .nil)<|wu rfl<|aA ?_;refine aF u rfl (fun hc u=> ?_)<|fun hc u=> ?_
  ·refine aB<|aC<|wu rfl<|aA<|aK ?_;cases u;exact⟨rfl,_,fun _=>rfl,aY rfl rfl rfl rfl J.ext⟩
  ·refine aJ<|aB<|aC<|wu rfl<|aA<|aK ?_;cases u;exact⟨rfl,_,fun _=>rfl,aY rfl rfl rfl rfl J.ext⟩
theorem pJ{e1:Expr}{k2:Str}{r:Int}(h:gX e1 k2=some r):Pf PP 46 [(aM e1),(.str k2)] (.i r):=Pf.cB (aBF e1 k2 r h _) rfl (.cons (cC _)<|.cons ⟨rfl,rfl⟩ .nil)
noncomputable def qP(p1:(List Int))(e2:Int):Option ((List Int)×Int):=
 some (p1,e2)
theorem aAl: ∀(p1:(List Int))(e2:Int)(r:((List Int)×Int)),qP p1 e2=some r→ ∀(s:ASt)(β1:Nat)(β2:Nat)(ρ1:AV),Sl 1 ρ1 (p1.map<|AV.i)→Kn s [(β1,.cells [ρ1] true),(β2,.cells [(.i e2)] true)] []→aQE PP 83 [(.ptr β1 0),(.ptr β2 0)] .ret s (aSd s [β1,β2] [] (fun a:AV=> [(β1,.cells [a] true),(β2,.cells [(.i r.2)] true)]) (fun a:AV=> []) (fun a:AV=>Sl 1 a (r.1.map<|AV.i))):=by
 intro p1 e2 r u;unfold qP at u;intro s β1 β2 ρ1 hρ1 hK;refine aMX hK (fun _=>rfl) (fun _=>aFC) rfl rfl ?_;have J:=hK.start;generalize aU s=σ1 at J⊢;refine aPh<|aP3 rfl rfl ?_;refine aVd (fun _ _=>rfl) ?_;refine aO<|aB<|aC<|wu rfl<|aA<|aFN rfl<|aC<|wu rfl<|aA ?_;cases u;have J:=J.aV 1 rfl;have J:=J.aV 1 rfl;exact⟨rfl,rfl,rfl,rfl,⟨ρ1,hρ1,J⟩⟩
noncomputable def qL(x3:lB)(p1:(List Int))(e2:Int):Option ((List Int)×Int):=
 some (x3.path,(10))
theorem aAf: ∀(x3:lB)(p1:(List Int))(e2:Int)(r:((List Int)×Int)),qL x3 p1 e2=some r→ ∀(s:ASt)(β1:Nat)(β2:Nat)(ρ1:AV),Sl 1 ρ1 (p1.map<|AV.i)→Kn s [(β1,.cells [ρ1] true),(β2,.cells [(.i e2)] true)] []→aQE PP 83 [(.ptr β1 0),(.ptr β2 0)] (.pan<|pG<|.aAi x3) s (aSd s [β1,β2] [] (fun a:AV=> [(β1,.cells [a] true),(β2,.cells [(.i r.2)] true)]) (fun a:AV=> []) (fun a:AV=>Sl 1 a (r.1.map<|AV.i))):=by
 intro x3 p1 e2 r u;unfold qL at u;intro s β1 β2 ρ1 hρ1 hK;refine aMX hK (fun _=>rfl) (fun _=>aFC) rfl rfl ?_;have J:=hK.start;generalize aU s=σ1 at J⊢;refine aPh<|aP3 rfl rfl ?_;refine aVd (fun _ _=>rfl) ?_;refine aO<|aB<|aC<|wu rfl<|aA<|aCt rfl<|aB<|aC<|wu rfl<|wu rfl<|wu rfl<|aA<|aFN rfl<|aB ?_;refine aC<|wu rfl<|wu rfl<|aA<|aC<|wu rfl<|wu rfl<|wu rfl<|wu rfl<|wu rfl ?_;refine cJ (ds':= [(slA 1<|x3.path.map<|AV.i)]) (cs':= [(slA 1<|x3.path.map<|AV.i)]) 0 rfl J rfl rfl rfl rfl rfl (Nat.le_of_ble_eq_true rfl) (.cons (tkN rfl) .nil) (by kernel_rfl)<|fun σ4 J=> ?_;refine wu rfl ?_;refine cJ (ds':= [(.i<|10)]) (cs':= [(.i<|10)]) 1 rfl J rfl rfl rfl rfl rfl (Nat.le_of_ble_eq_true rfl) (.cons (tkN rfl) .nil) (by kernel_rfl)<|fun σ5 J=> ?_;refine aA ?_;cases u;have J:=J.aV 1 rfl;have J:=J.aV 1 rfl;exact⟨rfl,rfl,rfl,rfl,⟨(slA 1<|x3.path.map<|AV.i),(.no _),J⟩⟩
noncomputable def eI(s1:aE)(i2:Int)(x3:Str):Option Bool:=
 (if(decide (i2≥(s1.expr.l.length:Int)))=true then((idx s1.expr.aT (IntKind.wrap .i64 (i2-(s1.expr.l.length:Int))))>>=fun y4=>
 ((dF y4.names x3)>>=fun r5=>
 some r5))
 else(if(s1.expr.kind==(4))=true then((idx s1.expr.names (0))>>=fun y6=>
 some (y6==x3))
 else(if(s1.expr.kind==(6))=true then((if(i2==(1))=true then((idx s1.expr.names (0))>>=fun y8=>
 some (y8==x3))
 else some false:Option Bool)>>=fun c7=>
 some c7)
 else(if(s1.expr.kind==(17))=true then((if(i2==(2))=true then((idx s1.expr.names (0))>>=fun y10=>
 some (y10==x3))
 else some false:Option Bool)>>=fun c9=>
 some c9)
 else(if(s1.expr.kind==(7))=true then((cut s1.expr.names (0) (IntKind.wrap .i64 ((2)-i2)))>>=fun l11=>
 ((dF l11 x3)>>=fun r12=>
 some r12))
 else some false)))))
theorem zI: ∀(s1:aE)(i2:Int)(x3:Str)(r:Bool),eI s1 i2 x3=some r→ ∀s:ASt,Fc PP (.func 117) [(aD s1),(.i i2),(.str x3)] s (bW s<|.bool r):=by
 intro s1 i2 x3 r u;unfold eI at u;intro s;refine bD rfl rfl rfl ?_;have J:=St.clean s;generalize aU s=σ1 at J⊢;refine aB<|aC<|wu rfl<|wu rfl<|aA<|aB<|aB<|aC<|wu rfl<|wu rfl<|wu rfl<|wu rfl<|bI (f:=aP) (l:=s1.expr.l) rfl (.no _)<|wu rfl ?_;refine aA ?_;refine aF u rfl (fun hc u=> ?_)<|fun hc u=> ?_
 ·refine aB<|aC<|wu rfl<|wu rfl<|wu rfl<|wu rfl<|wu rfl<|wu rfl<|wu rfl<|bI (f:=aP) (l:=s1.expr.l) rfl (.no _)<|wu rfl ?_;obtain⟨y4,hy4,u⟩:=bs u;refine bT (f:=aZ) rfl (.no _) rfl hy4 (fD _)<|wu rfl<|wu rfl<|wu rfl ?_;obtain⟨r5,hr5,u⟩:=bs u;refine wcD (kY hr5) rfl rfl (.cons rfl<|.cons rfl .nil)<|wu rfl<|aA<|aK ?_;cases u;exact⟨rfl,_,fun _=>rfl,aY rfl rfl rfl rfl J.ext⟩
 ·refine aJ<|aB<|aB<|aC<|wu rfl<|wu rfl<|wu rfl<|aA<|aO<|aB<|aC<|wu rfl<|wu rfl<|aA ?_;refine aF u rfl (fun hc u=> ?_)<|fun hc u=> ?_
  ·refine aB<|aC<|wu rfl<|wu rfl<|wu rfl ?_;obtain⟨y6,hy6,u⟩:=bs u;refine bT (f:=AV.str) rfl (.no _) rfl hy6 rfl<|wu rfl<|wu rfl<|wu rfl<|wu rfl<|aA<|aK ?_;cases u;exact⟨rfl,_,fun _=>rfl,aY rfl rfl rfl rfl J.ext⟩
  ·refine aB<|aC<|wu rfl<|wu rfl<|aA ?_;refine aF u rfl (fun hc u=> ?_)<|fun hc u=> ?_
   ·refine aB<|aC<|wu rfl<|wu rfl<|wu rfl ?_;obtain⟨c7,hc7,u⟩:=bs u;refine aW 8 [(51,(.bool c7))] σ1 ?_<|fun e=> ?_
    ·refine aX (t:=43) rfl (fun hc=> ?_)<|fun hc=> ?_
     ·replace hc7:=bE hc hc7
      iterate 3 refine wu rfl ?_
      obtain⟨y8,hy8,hc7⟩:=bs hc7;refine bT (f:=AV.str) rfl (.no _) rfl hy8 rfl<|wu rfl<|wu rfl<|wu rfl<|wu rfl<|aA ?_;cases hc7;exact Kept.mk rfl<|.cons rfl .nil
     ·replace hc7:=bC hc hc7;refine wu rfl<|wu rfl<|wu rfl<|wu rfl<|wu rfl<|wu rfl<|wu rfl<|wu rfl<|aA ?_;cases hc7;exact Kept.mk rfl<|.cons rfl .nil
    ·refine wu rfl<|aA<|aK ?_;cases u;exact⟨rfl,_,fun _=>rfl,aY rfl rfl rfl rfl J.ext⟩
   ·refine aB<|aC<|wu rfl<|wu rfl<|aA ?_;refine aF u rfl (fun hc u=> ?_)<|fun hc u=> ?_
    ·refine aB<|aC<|wu rfl<|wu rfl<|wu rfl ?_;obtain⟨c9,hc9,u⟩:=bs u;refine aW 8 [(64,(.bool c9))] σ1 ?_<|fun e=> ?_
     ·refine aX (t:=56) rfl (fun hc=> ?_)<|fun hc=> ?_
      ·replace hc9:=bE hc hc9
       iterate 3 refine wu rfl ?_
       obtain⟨y10,h10,hc9⟩:=bs hc9;refine bT (f:=AV.str) rfl (.no _) rfl h10 rfl<|wu rfl<|wu rfl<|wu rfl<|wu rfl<|aA ?_;cases hc9;exact Kept.mk rfl<|.cons rfl .nil
      ·replace hc9:=bC hc hc9;refine wu rfl<|wu rfl<|wu rfl<|wu rfl<|wu rfl<|wu rfl<|wu rfl<|wu rfl<|aA ?_;cases hc9;exact Kept.mk rfl<|.cons rfl .nil
     ·refine wu rfl<|aA<|aK ?_;cases u;exact⟨rfl,_,fun _=>rfl,aY rfl rfl rfl rfl J.ext⟩
    ·refine aB<|aC<|wu rfl<|wu rfl<|aA ?_;refine aF u rfl (fun hc u=> ?_)<|fun hc u=> ?_
     ·refine aB<|aC<|wu rfl<|wu rfl<|wu rfl<|wu rfl<|wu rfl ?_;obtain⟨l11,h11,u⟩:=bs u;refine rA (f:=AV.str) (lo':=(0)) (hi':=(IntKind.wrap .i64<|(2)-i2)) rfl (.no _) (.inl ⟨rfl,rfl⟩) (.inr ⟨_,rfl⟩) (by rfl) h11 ?_;refine wu rfl ?_;obtain⟨r12,h12,u⟩:=bs u;refine wcD (kY h12) rfl rfl (.cons rfl<|.cons rfl .nil)<|wu rfl<|aA<|aK ?_;cases u;exact⟨rfl,_,fun _=>rfl,aY rfl rfl rfl rfl J.ext⟩
     ·refine aJ<|aB<|aC<|wu rfl<|aA<|aK ?_;cases u;exact⟨rfl,_,fun _=>rfl,aY rfl rfl rfl rfl J.ext⟩
theorem jW{s1:aE}{i2:Int}{x3:Str}{r:Bool}(h:eI s1 i2 x3=some r):Pf PP 117 [(aD s1),(.i i2),(.str x3)] (.bool r):=Pf.cB (zI s1 i2 x3 r h _) rfl (.cons (fG _)<|.cons ⟨rfl,rfl⟩<|.cons ⟨rfl,rfl⟩ .nil)
noncomputable def jA(s1:aE)(x2:Str):Option Bool:=
 ((if(s1.expr.s==x2)=true then((if(s1.expr.kind==(0))=true then some true
 else some (s1.expr.kind==(18)):Option Bool)>>=fun c4=>
 ((if c4=true then some true
 else some (s1.expr.kind==(19)):Option Bool)>>=fun c5=>
 some c5))
 else some false:Option Bool)>>=fun c3=>
 some c3)
theorem aBW: ∀(s1:aE)(x2:Str)(r:Bool),jA s1 x2=some r→ ∀s:ASt,Fc PP (.func 114) [(aD s1),(.str x2)] s (bW s<|.bool r):=by
 intro s1 x2 r u;unfold jA at u;intro s;refine bD rfl rfl rfl ?_;have J:=St.clean s;generalize aU s=σ1 at J⊢;refine aB<|aC<|wu rfl<|wu rfl<|aA<|aB<|aC<|wu rfl<|wu rfl<|wu rfl<|wu rfl<|wu rfl<|wu rfl ?_;obtain⟨c3,hc3,u⟩:=bs u;refine aW 17 [(27,(.bool c3))] σ1 ?_<|fun e=> ?_
 ·refine aX (t:=10) rfl (fun hc=> ?_)<|fun hc=> ?_
  ·replace hc3:=bE hc hc3
   iterate 5 refine wu rfl ?_
   obtain⟨c4,hc4,hc3⟩:=bs hc3;refine aW 5 [(2,(.aG (aD s1) 0)),(10,(.bool true)),(20,(.bool c4))] σ1 ?_<|fun e=> ?_
   ·refine aX (t:=15) rfl (fun hc=> ?_)<|fun hc=> ?_
    ·replace hc4:=bE hc hc4;refine wu rfl<|wu rfl<|wu rfl<|wu rfl<|wu rfl<|aA ?_;cases hc4;exact Kept.mk rfl<|.cons rfl<|.cons rfl<|.cons rfl .nil
    ·replace hc4:=bC hc hc4;refine wu rfl<|wu rfl<|wu rfl<|wu rfl<|wu rfl<|aA ?_;cases hc4;exact Kept.mk rfl<|.cons rfl<|.cons rfl<|.cons rfl .nil
   ·refine wu rfl ?_;obtain⟨c5,hc5,hc3⟩:=bs hc3;refine aW 5 [(10,(.bool true)),(26,(.bool c5))] σ1 ?_<|fun e=> ?_
    ·refine aX (t:=21) rfl (fun hc=> ?_)<|fun hc=> ?_
     ·replace hc5:=bE hc hc5;refine wu rfl<|wu rfl<|wu rfl<|wu rfl<|wu rfl<|aA ?_;cases hc5;exact Kept.mk rfl<|.cons rfl<|.cons rfl .nil
     ·replace hc5:=bC hc hc5;refine wu rfl<|wu rfl<|wu rfl<|wu rfl<|wu rfl<|aA ?_;cases hc5;exact Kept.mk rfl<|.cons rfl<|.cons rfl .nil
    ·refine wu rfl<|aA ?_;cases hc3;exact Kept.mk rfl<|.cons rfl .nil
  ·replace hc3:=bC hc hc3
   iterate 17 refine wu rfl ?_
   refine aA ?_;cases hc3;exact Kept.mk rfl<|.cons rfl .nil
 ·refine wu rfl<|aA<|aK ?_;cases u;exact⟨rfl,_,fun _=>rfl,aY rfl rfl rfl rfl J.ext⟩
theorem uH{s1:aE}{x2:Str}{r:Bool}(h:jA s1 x2=some r):Pf PP 114 [(aD s1),(.str x2)] (.bool r):=Pf.cB (aBW s1 x2 r h _) rfl (.cons (fG _)<|.cons ⟨rfl,rfl⟩ .nil)
noncomputable def bF(s1:aE)(i2:Int):Option aE:=
 (if(decide (i2<(s1.expr.l.length:Int)))=true then((idx s1.expr.l i2)>>=fun y8=>
 ((iV s1.path i2)>>=fun r10=>
 some (aE.mk (Expr.mk ((aE.mk y8 r10).expr.kind) ((aE.mk y8 r10).expr.n) ((aE.mk y8 r10).expr.s) ((aE.mk y8 r10).expr.t) ((aE.mk y8 r10).expr.names) ((aE.mk y8 r10).expr.l) ((aE.mk y8 r10).expr.aT)) ((aE.mk y8 r10).path))))
 else((idx s1.expr.aT (IntKind.wrap .i64 (i2-(s1.expr.l.length:Int))))>>=fun y12=>
 ((iV s1.path i2)>>=fun r14=>
 some (aE.mk (Expr.mk ((aE.mk y12.body r14).expr.kind) ((aE.mk y12.body r14).expr.n) ((aE.mk y12.body r14).expr.s) ((aE.mk y12.body r14).expr.t) ((aE.mk y12.body r14).expr.names) ((aE.mk y12.body r14).expr.l) ((aE.mk y12.body r14).expr.aT)) ((aE.mk y12.body r14).path)))))
theorem aAa: ∀(s1:aE)(i2:Int)(r:aE),bF s1 i2=some r→ ∀s:ASt,Fc PP (.func 169) [(aD s1),(.i i2)] s (bW s<|aD r):=by
 intro s1 i2 r u;unfold bF at u;intro s;refine bD rfl rfl rfl ?_;have J:=St.clean s;generalize aU s=σ1 at J⊢;refine aB<|aC<|wu rfl ?_;refine lU rfl J rfl<|fun β3 σ4 J=> ?_;refine aA<|aB<|aC ?_;refine wgv (v:=(.agg [(.i<|0),(.i<|0),(.str ([]:Str)),(.str ([]:Str)),(.slice 0 (([]:(List Str)).map AV.str) .full),(.slice 0 (([]:(List Expr)).map aP) .full),(.slice 0 (([]:(List Arm)).map aZ) .full)])) rfl rfl (by kernel_rfl) ?_;refine lU rfl J rfl<|fun β5 σ6 J=> ?_;refine cJ (ds':= [(.i<|0),(.i<|0),(.str ([]:Str)),(.str ([]:Str)),(.slice 0 (([]:(List Str)).map AV.str) .full),(.slice 0 (([]:(List Expr)).map aP) .full),(.slice 0 (([]:(List Arm)).map aZ) .full)]) (cs':= [(.i<|0),(.i<|0),(.str ([]:Str)),(.str ([]:Str)),(.slice 0 (([]:(List Str)).map AV.str) .full),(.slice 0 (([]:(List Expr)).map aP) .full),(.slice 0 (([]:(List Arm)).map aZ) .full)]) 0 rfl J rfl rfl rfl rfl rfl (Nat.le_of_ble_eq_true rfl) (.cons (tkN rfl)<|.cons (tkN rfl)<|.cons (tkN rfl)<|.cons (tkN rfl)<|.cons (tkN rfl)<|.cons (tkN rfl)<|.cons (tkN rfl) .nil) (by kernel_rfl)<|fun σ7 J=> ?_;refine aA<|aB<|aB<|aC<|wu rfl<|wu rfl<|wu rfl<|wu rfl<|bI (f:=aP) (l:=s1.expr.l) rfl (.no _)<|wu rfl<|aA ?_;refine aF u rfl (fun hc u=> ?_)<|fun hc u=> ?_
 ·refine aC<|wu rfl<|wu rfl<|wu rfl<|wu rfl ?_;obtain⟨y8,hy8,u⟩:=bs u;refine bT (f:=aP) rfl (.no _) rfl hy8 (bN _)<|wu rfl ?_;refine cJ (ds':= [(.i y8.kind),(.i y8.n),(.str y8.s),(.str y8.t),(slA 1<|y8.names.map AV.str),(slA 7<|y8.l.map aP),(slA 9<|y8.aT.map aZ)]) (cs':= [(.i y8.kind),(.i y8.n),(.str y8.s),(.str y8.t),(slA 1<|y8.names.map AV.str),(slA 7<|y8.l.map aP),(slA 9<|y8.aT.map aZ)]) 0 rfl J rfl rfl rfl rfl rfl (Nat.le_of_ble_eq_true rfl) (.cons (tkN rfl)<|.cons (tkN rfl)<|.cons (tkN rfl)<|.cons (tkN rfl)<|.cons (tkN rfl)<|.cons (tkN rfl)<|.cons (tkN rfl) .nil) (by kernel_rfl)<|fun σ9 J=> ?_;refine aA<|aB<|aC<|aCF (us:= [(.i y8.kind),(.i y8.n),(.str y8.s),(.str y8.t),(slA 1<|y8.names.map AV.str),(slA 7<|y8.l.map aP),(slA 9<|y8.aT.map aZ)]) (ws:= [(.i y8.kind),(.i y8.n),(.str y8.s),(.str y8.t),(slA 1<|y8.names.map AV.str),(slA 7<|y8.l.map aP),(slA 9<|y8.aT.map aZ)]) 0 rfl J rfl rfl (Nat.le_of_ble_eq_true rfl) rfl (.cons rfl<|.cons rfl<|.cons rfl<|.cons rfl<|.cons rfl<|.cons rfl<|.cons rfl .nil)<|wu rfl<|wu rfl<|wu rfl ?_;obtain⟨r10,h10,u⟩:=bs u;refine wcD (vJ h10) rfl rfl (.cons rfl<|.cons rfl .nil) ?_;refine wgv (v:=(aD<|aE.mk y8 r10)) rfl rfl (by kernel_rfl) ?_;refine cJ (ds':= [(.i (aE.mk y8 r10).expr.kind),(.i (aE.mk y8 r10).expr.n),(.str (aE.mk y8 r10).expr.s),(.str (aE.mk y8 r10).expr.t),(slA 1<|(aE.mk y8 r10).expr.names.map AV.str),(slA 7<|(aE.mk y8 r10).expr.l.map aP),(slA 9<|(aE.mk y8 r10).expr.aT.map aZ),(slA 1<|(aE.mk y8 r10).path.map<|AV.i)]) (cs':= [(.i (aE.mk y8 r10).expr.kind),(.i (aE.mk y8 r10).expr.n),(.str (aE.mk y8 r10).expr.s),(.str (aE.mk y8 r10).expr.t),(slA 1<|(aE.mk y8 r10).expr.names.map AV.str),(slA 7<|(aE.mk y8 r10).expr.l.map aP),(slA 9<|(aE.mk y8 r10).expr.aT.map aZ),(slA 1<|(aE.mk y8 r10).path.map<|AV.i)]) 1 rfl J rfl rfl rfl rfl rfl (Nat.le_of_ble_eq_true rfl) (.cons (tkN rfl)<|.cons (tkN rfl)<|.cons (tkN rfl)<|.cons (tkN rfl)<|.cons (tkN rfl)<|.cons (tkN rfl)<|.cons (tkN rfl)<|.cons (tkN rfl) .nil) (by kernel_rfl)<|fun σ11 J=> ?_;refine aA<|aK ?_;cases u;exact⟨rfl,_,fun _=>rfl,aY (xC.eq<|.cons (z5 (us:= [(.i (aE.mk y8 r10).expr.kind),(.i (aE.mk y8 r10).expr.n),(.str (aE.mk y8 r10).expr.s),(.str (aE.mk y8 r10).expr.t),(slA 1<|(aE.mk y8 r10).expr.names.map AV.str),(slA 7<|(aE.mk y8 r10).expr.l.map aP),(slA 9<|(aE.mk y8 r10).expr.aT.map aZ),(slA 1<|(aE.mk y8 r10).path.map<|AV.i)]) J 1 rfl rfl (Nat.le_of_ble_eq_true rfl) rfl<|.cons rfl<|.cons rfl<|.cons rfl<|.cons rfl<|.cons rfl<|.cons rfl<|.cons rfl<|.cons rfl .nil) .nil) rfl rfl rfl J.ext⟩
 ·refine aC<|wu rfl<|wu rfl<|wu rfl<|wu rfl<|wu rfl<|wu rfl<|wu rfl<|bI (f:=aP) (l:=s1.expr.l) rfl (.no _)<|wu rfl ?_;obtain⟨y12,h12,u⟩:=bs u;refine bT (f:=aZ) rfl (.no _) rfl h12 (fD _)<|wu rfl<|wu rfl ?_;refine cJ (ds':= [(.i y12.body.kind),(.i y12.body.n),(.str y12.body.s),(.str y12.body.t),(slA 1<|y12.body.names.map AV.str),(slA 7<|y12.body.l.map aP),(slA 9<|y12.body.aT.map aZ)]) (cs':= [(.i y12.body.kind),(.i y12.body.n),(.str y12.body.s),(.str y12.body.t),(slA 1<|y12.body.names.map AV.str),(slA 7<|y12.body.l.map aP),(slA 9<|y12.body.aT.map aZ)]) 0 rfl J rfl rfl rfl rfl rfl (Nat.le_of_ble_eq_true rfl) (.cons (tkN rfl)<|.cons (tkN rfl)<|.cons (tkN rfl)<|.cons (tkN rfl)<|.cons (tkN rfl)<|.cons (tkN rfl)<|.cons (tkN rfl) .nil) (by kernel_rfl)<|fun σ13 J=> ?_;refine aA<|aB<|aC<|aCF (us:= [(.i y12.body.kind),(.i y12.body.n),(.str y12.body.s),(.str y12.body.t),(slA 1<|y12.body.names.map AV.str),(slA 7<|y12.body.l.map aP),(slA 9<|y12.body.aT.map aZ)]) (ws:= [(.i y12.body.kind),(.i y12.body.n),(.str y12.body.s),(.str y12.body.t),(slA 1<|y12.body.names.map AV.str),(slA 7<|y12.body.l.map aP),(slA 9<|y12.body.aT.map aZ)]) 0 rfl J rfl rfl (Nat.le_of_ble_eq_true rfl) rfl (.cons rfl<|.cons rfl<|.cons rfl<|.cons rfl<|.cons rfl<|.cons rfl<|.cons rfl .nil)<|wu rfl<|wu rfl<|wu rfl ?_;obtain⟨r14,h14,u⟩:=bs u;refine wcD (vJ h14) rfl rfl (.cons rfl<|.cons rfl .nil) ?_;refine wgv (v:=(aD<|aE.mk y12.body r14)) rfl rfl (by kernel_rfl) ?_;refine cJ (ds':= [(.i (aE.mk y12.body r14).expr.kind),(.i (aE.mk y12.body r14).expr.n),(.str (aE.mk y12.body r14).expr.s),(.str (aE.mk y12.body r14).expr.t),(slA 1<|(aE.mk y12.body r14).expr.names.map AV.str),(slA 7<|(aE.mk y12.body r14).expr.l.map aP),(slA 9<|(aE.mk y12.body r14).expr.aT.map aZ),(slA 1<|(aE.mk y12.body r14).path.map<|AV.i)]) (cs':= [(.i (aE.mk y12.body r14).expr.kind),(.i (aE.mk y12.body r14).expr.n),(.str (aE.mk y12.body r14).expr.s),(.str (aE.mk y12.body r14).expr.t),(slA 1<|(aE.mk y12.body r14).expr.names.map AV.str),(slA 7<|(aE.mk y12.body r14).expr.l.map aP),(slA 9<|(aE.mk y12.body r14).expr.aT.map aZ),(slA 1<|(aE.mk y12.body r14).path.map<|AV.i)]) 1 rfl J rfl rfl rfl rfl rfl (Nat.le_of_ble_eq_true rfl) (.cons (tkN rfl)<|.cons (tkN rfl)<|.cons (tkN rfl)<|.cons (tkN rfl)<|.cons (tkN rfl)<|.cons (tkN rfl)<|.cons (tkN rfl)<|.cons (tkN rfl) .nil) (by kernel_rfl)<|fun σ15 J=> ?_;refine aA<|aK ?_;cases u;exact⟨rfl,_,fun _=>rfl,aY (xC.eq<|.cons (z5 (us:= [(.i (aE.mk y12.body r14).expr.kind),(.i (aE.mk y12.body r14).expr.n),(.str (aE.mk y12.body r14).expr.s),(.str (aE.mk y12.body r14).expr.t),(slA 1<|(aE.mk y12.body r14).expr.names.map AV.str),(slA 7<|(aE.mk y12.body r14).expr.l.map aP),(slA 9<|(aE.mk y12.body r14).expr.aT.map aZ),(slA 1<|(aE.mk y12.body r14).path.map<|AV.i)]) J 1 rfl rfl (Nat.le_of_ble_eq_true rfl) rfl<|.cons rfl<|.cons rfl<|.cons rfl<|.cons rfl<|.cons rfl<|.cons rfl<|.cons rfl<|.cons rfl .nil) .nil) rfl rfl rfl J.ext⟩
theorem cE{s1:aE}{i2:Int}{r:aE}(h:bF s1 i2=some r):Pf PP 169 [(aD s1),(.i i2)] (aD r):=Pf.cB (aAa s1 i2 r h _) ((fG _).2) (.cons (fG _)<|.cons ⟨rfl,rfl⟩ .nil)
noncomputable def bP(s1:aE):Option aE:=
 some s1
theorem zP: ∀(s1:aE)(r:aE),bP s1=some r→ ∀s:ASt,Fc PP (.func 116) [(aD s1)] s (bW s<|.func 168 [] [(.aG (aD r) 0)]):=by
 intro s1 r u;unfold bP at u;intro s;refine bD rfl rfl rfl ?_;have J:=St.clean s;generalize aU s=σ1 at J⊢;refine aB<|aC<|wu rfl<|wu rfl<|aA<|aB<|aC<|wu rfl<|wu rfl<|aA<|aK ?_;cases u;exact⟨rfl,_,fun _=>rfl,aY rfl rfl rfl rfl J.ext⟩
theorem gY{s1:aE}{r:aE}(h:bP s1=some r):Pf PP 116 [(aD s1)] (.func 168 [] [(.aG (aD r) 0)]):=Pf.cB (zP s1 r h _) ((aLq .nil<|.cons (aBO<|fG _) .nil).2) (.cons (fG _) .nil)
mutual
noncomputable def dV (s1:aE) (x2:Str):Option ((List Int)×Bool):=
 ((jA s1 x2)>>=fun r7=>
 (if r7=true then some (s1.path,true)
 else((bP s1)>>=fun r10=>
 ((jG (nf s1) (nf x2) (nf r10) (nf false) ([]:(List Int)))>>=fun r32=>
 (if(r32.1==(none:Option Nat))=true then some (([]:(List Int)),false)
 else(if(r32.1==(some 0))=true then some (r32.2.2,r32.2.1)
 else none))))))
 partial_fixpoint
noncomputable def jG (s1:aE) (x2:Str) (r10:aE) (x16:Bool) (x17:(List Int)):Option ((Option Nat)×Bool×(List Int)):=
 ((dI s1 x2 r10 (0) none x16 x17)>>=fun o1041=>
 (match o1041 with
 | .ret q1042=>some q1042
 | .nx q1043=>some (q1043.1,q1043.2.1,q1043.2.2)))
 partial_fixpoint
noncomputable def dI (s1:aE) (x2:Str) (r10:aE) (x1032:Int) (c1033:(Option Nat)) (x1034:Bool) (x1035:(List Int)):Option (Ctl ((Option Nat)×Bool×(List Int))<|(Option Nat)×Bool×(List Int)):=
 (if(decide (x1032<(IntKind.wrap .i64 ((r10.expr.l.length:Int)+(r10.expr.aT.length:Int)))))=true then((bF r10 x1032)>>=fun r1036=>
 (if(c1033==(none:Option Nat))=true then((jH (nf s1) (nf x2) (nf r10) (nf x1032) (nf r1036) (nf x1034) (nf x1035))>>=fun r1037=>
 (if(!r1037.1.isNone)=true then some (.ret (r1037.1,r1037.2.1,r1037.2.2))
 else dI (nf s1) (nf x2) (nf r10) (IntKind.wrap .i64 (x1032+(1))) r1037.1 r1037.2.1 r1037.2.2))
 else none))
 else some (.nx (c1033,x1034,x1035)))
 partial_fixpoint
noncomputable def jH (s1:aE) (x2:Str) (r10:aE) (x18:Int) (x19:aE) (x16:Bool) (x17:(List Int)):Option ((Option Nat)×Bool×(List Int)):=
 ((eI s1 x18 x2)>>=fun r22=>
 (if r22=true then some ((none:Option Nat),x16,x17)
 else((dV (nf x19) (nf x2))>>=fun r25=>
 (if r25.2=true then some ((some 0),true,r25.1)
 else some ((none:Option Nat),x16,x17)))))
 partial_fixpoint
end
abbrev mZ(s1:aE)(x2:Str)(r:((List Int)×Bool)):Prop:= ∀s:ASt,Fc PP (.func 170) [(aD s1),(.str x2)] s (bW s<|.tuple [(slA 1<|r.1.map<|AV.i),(.bool r.2)])
abbrev oX(s1:aE)(x2:Str)(r10:aE)(x16:Bool)(x17:(List Int))(r:((Option Nat)×Bool×(List Int))):Prop:= ∀(s:ASt)(ε11:Env)(κ13:Nat)(ℓ12:Nat)(β5:Nat)(β3:Nat)(or0_1:AV),Sl 1 or0_1 (x17.map<|AV.i)→Kn s [(ℓ12,.loop ⟨eU none,bR none,bB ε11 [(2,(.aG (aD s1) 0)),(3,(.aG (.str x2) 0)),(4,(.ptr β3 0)),(5,(.ptr β5 0)),(16,(.func 168 [] [(.aG (aD r10) 0)]))],κ13,[17,18],Code.jU,Code.jN⟩),(β5,.cells [(.bool x16)] true),(β3,.cells [or0_1] true)] []→Fc PP (.func 168) [(.yield ℓ12),(.aG (aD r10) 0)] s (nV s [ℓ12,β5,β3] [] (.tuple []) (fun a:AV=> [(ℓ12,.loop ⟨eU r.1,bR r.1,bB ε11 [(2,(.aG (aD s1) 0)),(3,(.aG (.str x2) 0)),(4,(.ptr β3 0)),(5,(.ptr β5 0)),(16,(.func 168 [] [(.aG (aD r10) 0)]))],κ13,[17,18],Code.jU,Code.jN⟩),(β5,.cells [(.bool r.2.1)] true),(β3,.cells [a] true)]) (fun a:AV=> []) (fun a:AV=>Sl 1 a (r.2.2.map<|AV.i)))
abbrev mU(s1:aE)(x2:Str)(r10:aE)(x1032:Int)(c1033:(Option Nat))(x1034:Bool)(x1035:(List Int))(o:(Ctl ((Option Nat)×Bool×(List Int))<|(Option Nat)×Bool×(List Int))):Prop:= ∀(e:Env)(s sv:ASt)(ε11:Env)(κ13:Nat)(or0_1:AV)(ℓ12:Nat)(β5:Nat)(β3:Nat)(ow0_1:AV),Sl 1 ow0_1 (x1035.map<|AV.i)→St [ℓ12,β5,β3] [] s sv [(ℓ12,.loop ⟨eU c1033,bR c1033,bB ε11 [(2,(.aG (aD s1) 0)),(3,(.aG (.str x2) 0)),(4,(.ptr β3 0)),(5,(.ptr β5 0)),(16,(.func 168 [] [(.aG (aD r10) 0)]))],κ13,[17,18],Code.jU,Code.jN⟩),(β5,.cells [(.bool x1034)] true),(β3,.cells [ow0_1] true)] []→Wk PP none Code.aB8 ⟨bB e [(0,(.yield ℓ12)),(1,(.aG (aD r10) 0)),(12,(.i<|IntKind.wrap .i64<|(r10.expr.l.length:Int)+(r10.expr.aT.length:Int))),(13,(.i x1032))],[]⟩ sv (fun ex fr s'=>(match o with| .ret oq0=>ex= .ret∧nQ PP Code.aKz (VQ (.tuple [])<|RX s [ℓ12,β5,β3] [] (fun a:AV=> [(ℓ12,.loop ⟨eU oq0.1,bR oq0.1,bB ε11 [(2,(.aG (aD s1) 0)),(3,(.aG (.str x2) 0)),(4,(.ptr β3 0)),(5,(.ptr β5 0)),(16,(.func 168 [] [(.aG (aD r10) 0)]))],κ13,[17,18],Code.jU,Code.jN⟩),(β5,.cells [(.bool oq0.2.1)] true),(β3,.cells [a] true)]) (fun a:AV=> []) (fun a:AV=>Sl 1 a (oq0.2.2.map<|AV.i))) ex fr s'| .nx oq1=>ex= .exit 0∧ ∃(pw1:AV)(e:Env),fr=⟨bB e [],[]⟩∧Sl 1 pw1 (oq1.2.2.map<|AV.i)∧St [ℓ12,β5,β3] [] s s' [(ℓ12,.loop ⟨eU oq1.1,bR oq1.1,bB ε11 [(2,(.aG (aD s1) 0)),(3,(.aG (.str x2) 0)),(4,(.ptr β3 0)),(5,(.ptr β5 0)),(16,(.func 168 [] [(.aG (aD r10) 0)]))],κ13,[17,18],Code.jU,Code.jN⟩),(β5,.cells [(.bool oq1.2.1)] true),(β3,.cells [pw1] true)] []))
abbrev oT(s1:aE)(x2:Str)(r10:aE)(x18:Int)(x19:aE)(x16:Bool)(x17:(List Int))(r:((Option Nat)×Bool×(List Int))):Prop:= ∀(s:ASt)(ε11:Env)(κ13:Nat)(ℓ12:Nat)(β5:Nat)(β3:Nat)(or0_1:AV),Sl 1 or0_1 (x17.map<|AV.i)→Kn s [(ℓ12,.loop ⟨eU none,bR none,bB ε11 [(2,(.aG (aD s1) 0)),(3,(.aG (.str x2) 0)),(4,(.ptr β3 0)),(5,(.ptr β5 0)),(16,(.func 168 [] [(.aG (aD r10) 0)]))],κ13,[17,18],Code.jU,Code.jN⟩),(β5,.cells [(.bool x16)] true),(β3,.cells [or0_1] true)] []→Fc PP (.yield ℓ12) [(.i x18),(aD x19)] s (nV s [ℓ12,β5,β3] [] (.bool r.1.isNone) (fun a:AV=> [(ℓ12,.loop ⟨eU r.1,bR r.1,bB ε11 [(2,(.aG (aD s1) 0)),(3,(.aG (.str x2) 0)),(4,(.ptr β3 0)),(5,(.ptr β5 0)),(16,(.func 168 [] [(.aG (aD r10) 0)]))],κ13,[17,18],Code.jU,Code.jN⟩),(β5,.cells [(.bool r.2.1)] true),(β3,.cells [a] true)]) (fun a:AV=> []) (fun a:AV=>Sl 1 a (r.2.2.map<|AV.i)))
theorem p9{s1:aE}{x2:Str}{r:((List Int)×Bool)}(h: ∀s:ASt,Fc PP (.func 170) [(aD s1),(.str x2)] s<|bW s<|.tuple [(slA 1<|r.1.map<|AV.i),(.bool r.2)]):Pf PP 170 [(aD s1),(.str x2)] (.tuple [(slA 1<|r.1.map<|AV.i),(.bool r.2)]):=Pf.cB (h _) (rW<|.cons (iC (fun _=>rfl) _)<|.cons rfl<|.nil) (.cons (fG _)<|.cons ⟨rfl,rfl⟩ .nil)
theorem wG:(∀(s1:aE)(x2:Str)(r:((List Int)×Bool)),dV s1 x2=some r→mZ s1 x2 r)∧
  (∀(s1:aE)(x2:Str)(r10:aE)(x16:Bool)(x17:(List Int))(r:((Option Nat)×Bool×(List Int))),jG s1 x2 r10 x16 x17=some r→oX s1 x2 r10 x16 x17 r)∧
  (∀(s1:aE)(x2:Str)(r10:aE)(x1032:Int)(c1033:(Option Nat))(x1034:Bool)(x1035:(List Int))(o:(Ctl ((Option Nat)×Bool×(List Int))<|(Option Nat)×Bool×(List Int))),dI s1 x2 r10 x1032 c1033 x1034 x1035=some o→mU s1 x2 r10 x1032 c1033 x1034 x1035 o)∧
  (∀(s1:aE)(x2:Str)(r10:aE)(x18:Int)(x19:aE)(x16:Bool)(x17:(List Int))(r:((Option Nat)×Bool×(List Int))),jH s1 x2 r10 x18 x19 x16 x17=some r→oT s1 x2 r10 x18 x19 x16 x17 r):=by
 refine dV.mutual_partial_correctness mZ oX mU oT ?_ ?_ ?_ ?_
 ·intro _f0 ih_linear_spot_occurs_i0 s1 x2 r u;intro s;refine bD rfl rfl rfl ?_;have J:=St.clean s;generalize aU s=σ1 at J⊢;refine aB<|aC<|wu rfl<|wu rfl ?_;refine lU rfl J rfl<|fun β3 σ4 J=> ?_;refine lU rfl J rfl<|fun β5 σ6 J=> ?_;refine aA<|aB<|aB<|aC<|wu rfl<|wu rfl ?_;obtain⟨r7,hr7,u⟩:=bs u;refine wcD (uH hr7) rfl rfl (.cons rfl<|.cons rfl .nil)<|aA ?_;refine aF u rfl (fun hc u=> ?_)<|fun hc u=> ?_
  ·refine aB<|aC<|wu rfl<|wu rfl ?_;refine cJ (ds':= [(slA 1<|s1.path.map<|AV.i)]) (cs':= [(slA 1<|s1.path.map<|AV.i)]) 1 rfl J rfl rfl rfl rfl rfl (Nat.le_of_ble_eq_true rfl) (.cons (tkN rfl) .nil) (by kernel_rfl)<|fun σ8 J=> ?_;refine cJ (ds':= [(.bool true)]) (cs':= [(.bool true)]) 0 rfl J rfl rfl rfl rfl rfl (Nat.le_of_ble_eq_true rfl) (.cons (tkN rfl) .nil) (by kernel_rfl)<|fun σ9 J=> ?_;refine aA<|aK ?_;cases u;exact⟨rfl,_,fun _=>rfl,dN (xC.eq<|.cons (nS J 1 rfl rfl rfl)<|.cons (nS J 0 rfl rfl rfl) .nil) (.cons rfl<|.cons rfl .nil) J.ext⟩
  ·refine aJ<|aB<|aB<|aC<|wu rfl ?_;obtain⟨r10,h10,u⟩:=bs u;refine wcD (gY h10) rfl rfl (.cons rfl .nil)<|aA<|aO ?_;refine aFd (S:= [(2,(.aG (aD s1) 0)),(3,(.aG (.str x2) 0)),(4,(.ptr β3 0)),(5,(.ptr β5 0)),(16,(.func 168 [] [(.aG (aD r10) 0)]))]) (.cons rfl<|.cons rfl<|.cons rfl<|.cons rfl<|.cons rfl .nil)<|fun ε11=> ?_;obtain⟨κ13,ℓ12,σ14,hl15,J⟩:=yY (params:= [17,18]) (assign:=Code.jU) (body:=Code.jN) (fr:=⟨bB ε11 [(2,(.aG (aD s1) 0)),(3,(.aG (.str x2) 0)),(4,(.ptr β3 0)),(5,(.ptr β5 0)),(16,(.func 168 [] [(.aG (aD r10) 0)]))],[]⟩) J;refine yP hl15 rfl rfl ?_;obtain⟨r32,h32,u⟩:=bs u;have J:=J.aV 3 rfl;have J:=J.aV 3 rfl;have J:=J.aV 2 rfl;rcases Bool.eq_false_or_eq_true (r32.1==(none:Option Nat)) with hc|hc
   ·replace u:=bE hc u;refine qQ (bs1:= [(ℓ12,.loop ⟨eU none,bR none,bB ε11 [(2,(.aG (aD s1) 0)),(3,(.aG (.str x2) 0)),(4,(.ptr β3 0)),(5,(.ptr β5 0)),(16,(.func 168 [] [(.aG (aD r10) 0)]))],κ13,[17,18],Code.jU,Code.jN⟩),(β5,.cells [(.bool false)] true),(β3,.cells [(.slice 0 (([]:(List Int)).map<|AV.i) .full)] true)]) (bs2:= [(κ13,.tW)]) (gs1:= []) (gs2:= []) (pd:=r32.1) (ex:= .normal) J (fun hK=>ih_linear_spot_occurs_i0 _ _ _ _ _ _ h32 _ ε11 κ13 ℓ12 β5 β3 (.slice 0 (([]:(List Int)).map<|AV.i) .full) (.full<|.inr rfl) hK) rfl rfl (fun _=>rfl) (by rw [eq_of_beq hc];rfl)<|fun σ33 a34 hF J=> ?_;have h35:=hF;refine aB<|aC ?_;refine cJ (ds':= [(.slice 0 (([]:(List Int)).map<|AV.i) .full)]) (cs':= [(.slice 0 (([]:(List Int)).map<|AV.i) .full)]) 1 rfl J rfl rfl rfl rfl rfl (Nat.le_of_ble_eq_true rfl) (.cons (tkN rfl) .nil) (by kernel_rfl)<|fun σ36 J=> ?_;refine cJ (ds':= [(.bool false)]) (cs':= [(.bool false)]) 0 rfl J rfl rfl rfl rfl rfl (Nat.le_of_ble_eq_true rfl) (.cons (tkN rfl) .nil) (by kernel_rfl)<|fun σ37 J=> ?_;refine aA<|aK ?_;cases u;obtain⟨σ38,J,h39⟩:=J.mark 2 rfl;exact⟨rfl,σ38,(h39<|fun _=>rfl),dN (xC.eq<|.cons (nS J 1 rfl rfl rfl)<|.cons (nS J 0 rfl rfl rfl) .nil) (.cons rfl<|.cons rfl .nil) J.ext⟩
   ·replace u:=bC hc u;rcases Bool.eq_false_or_eq_true (r32.1==(some 0)) with hc|hc
    ·replace u:=bE hc u;refine qQ (bs1:= [(ℓ12,.loop ⟨eU none,bR none,bB ε11 [(2,(.aG (aD s1) 0)),(3,(.aG (.str x2) 0)),(4,(.ptr β3 0)),(5,(.ptr β5 0)),(16,(.func 168 [] [(.aG (aD r10) 0)]))],κ13,[17,18],Code.jU,Code.jN⟩),(β5,.cells [(.bool false)] true),(β3,.cells [(.slice 0 (([]:(List Int)).map<|AV.i) .full)] true)]) (bs2:= [(κ13,.tW)]) (gs1:= []) (gs2:= []) (pd:=r32.1) (ex:= .ret) J (fun hK=>ih_linear_spot_occurs_i0 _ _ _ _ _ _ h32 _ ε11 κ13 ℓ12 β5 β3 (.slice 0 (([]:(List Int)).map<|AV.i) .full) (.full<|.inr rfl) hK) rfl rfl (fun _=>rfl) (by rw [eq_of_beq hc];rfl)<|fun σ40 a41 hF J=> ?_;have h42:=hF;cases u;obtain⟨σ43,J,h44⟩:=J.mark 2 rfl;exact⟨rfl,σ43,(h44<|fun _=>rfl),dN (xC.eq<|.cons (nS J 1 rfl rfl rfl)<|.cons (nS J 0 rfl rfl rfl) .nil) (.cons (h42).fix<|.cons rfl .nil) J.ext⟩
    ·replace u:=bC hc u;cases u
 ·intro _f0 ih_linear_spot_occurs_i0_l0 s1 x2 r10 x16 x17 r u;intro s ε11 κ13 ℓ12 β5 β3 or0_1 hor0_1 hK;refine rV hK (fun _=>rfl) (fun _=>aFC) rfl rfl rfl ?_;have J:=hK.start;generalize aU s=σ1 at J⊢;refine aB<|aC<|wu rfl<|wu rfl<|wu rfl<|bI (f:=aP) (l:=r10.expr.l) rfl (.no _)<|wu rfl<|wu rfl<|wu rfl<|bI (f:=aZ) (l:=r10.expr.aT) rfl (.no _)<|wu rfl<|wu rfl<|aA<|aO ?_;obtain⟨o1041,h1041,u⟩:=bs u;have J:=J.aV 2 rfl;have J:=J.aV 2 rfl;have J:=J.aV 2 rfl;refine bV (fun e=>ih_linear_spot_occurs_i0_l0 _ _ _ _ _ _ _ _ h1041 e s _ ε11 κ13 or0_1 ℓ12 β5 β3 or0_1 hor0_1 J) (.cons rfl<|.cons rfl<|.cons rfl<|.cons rfl .nil) ?_
  rintro _ _ _ hq
  rcases o1041 with q1042|q1043
  ·obtain⟨rfl,hq⟩:=hq;cases u;exact hq
  ·obtain⟨rfl,w1044_1,e1045,rfl,hw1044_1,J⟩:=hq;cases u;have J:=J.aV 2 rfl;have J:=J.aV 2 rfl;have J:=J.aV 2 rfl;exact⟨rfl,_,fun _=>rfl,iF rfl ⟨w1044_1,hw1044_1,J⟩⟩
 ·intro _f0 _f1 ih_linear_spot_occurs_i0_l0 ih_linear_spot_occurs_r0 s1 x2 r10 x1032 c1033 x1034 x1035 o u;intro e s sv ε11 κ13 or0_1 ℓ12 β5 β3 ow0_1 how0_1 J;refine bM<|aB<|aC<|wu rfl<|aA<|aB ?_;refine aF u rfl (fun hc u=> ?_)<|fun hc u=> ?_
  ·refine aJ<|aB<|aO<|aB<|aC<|wu rfl<|wu rfl<|aA<|aB<|aC<|wu rfl<|wu rfl<|wu rfl<|wu rfl ?_;obtain⟨r1036,h1036,u⟩:=bs u;refine wcD (cE h1036) rfl rfl (.cons rfl<|.cons rfl .nil) ?_;rcases Bool.eq_false_or_eq_true (c1033==(none:Option Nat)) with hc|hc
   ·replace u:=bE hc u;have J:=J.aBq (b1:= .loop ⟨eU none,bR none,bB ε11 [(2,(.aG (aD s1) 0)),(3,(.aG (.str x2) 0)),(4,(.ptr β3 0)),(5,(.ptr β5 0)),(16,(.func 168 [] [(.aG (aD r10) 0)]))],κ13,[17,18],Code.jU,Code.jN⟩) 0 rfl (by rw [eq_of_beq hc]);obtain⟨r1037,h1037,u⟩:=bs u;have J:=J.aV 2 rfl;have J:=J.aV 2 rfl;have J:=J.aV 2 rfl;refine cN rfl (bs1:= [(ℓ12,.loop ⟨eU none,bR none,bB ε11 [(2,(.aG (aD s1) 0)),(3,(.aG (.str x2) 0)),(4,(.ptr β3 0)),(5,(.ptr β5 0)),(16,(.func 168 [] [(.aG (aD r10) 0)]))],κ13,[17,18],Code.jU,Code.jN⟩),(β5,.cells [(.bool x1034)] true),(β3,.cells [ow0_1] true)]) (bs2:= []) (gs1:= []) (gs2:= []) rfl J (fun hK=>ih_linear_spot_occurs_r0 _ _ _ _ _ _ _ _ h1037 _ ε11 κ13 ℓ12 β5 β3 ow0_1 how0_1 hK) rfl rfl (fun _=>rfl) rfl (by exact(.cons rfl<|.cons rfl .nil)) rfl<|fun σ1038 a1039 hF J=> ?_;have h1040:=hF;refine wu rfl<|aA ?_;refine aF u rfl (fun hc u=> ?_)<|fun hc u=> ?_
    ·refine aK ?_;cases u;have J:=J.aV 2 rfl;have J:=J.aV 2 rfl;have J:=J.aV 2 rfl;exact⟨rfl,⟨rfl,_,fun _=>rfl,iF rfl ⟨a1039,h1040,J⟩⟩⟩
    ·refine aJ<|aC<|wu rfl<|wu rfl<|aA ?_;have J:=J.aV 2 rfl;have J:=J.aV 2 rfl;have J:=J.aV 2 rfl;exact bV (fun e=>ih_linear_spot_occurs_i0_l0 _ _ _ _ _ _ _ _ u e s _ ε11 κ13 or0_1 ℓ12 β5 β3 a1039 h1040 J) (.cons rfl<|.cons rfl<|.cons rfl<|.cons rfl .nil)<|fun _ _ _ h=>h
   ·replace u:=bC hc u;cases u
  ·refine bY ?_;cases u;have J:=J.aV 2 rfl;have J:=J.aV 2 rfl;have J:=J.aV 2 rfl;exact⟨rfl,ow0_1,_,frE .nil,how0_1,J⟩
 ·intro _f0 ih_linear_spot_occurs s1 x2 r10 x18 x19 x16 x17 r u;intro s ε11 κ13 ℓ12 β5 β3 or0_1 hor0_1 hK;refine aOs.reg rfl ?_;refine yX (lp:=⟨.ready,none,bB ε11 [(2,(.aG (aD s1) 0)),(3,(.aG (.str x2) 0)),(4,(.ptr β3 0)),(5,(.ptr β5 0)),(16,(.func 168 [] [(.aG (aD r10) 0)]))],κ13,[17,18],Code.jU,Code.jN⟩) (hK.b _<|.head _) rfl rfl ?_;have J:=hK.st;refine aB<|aC<|wu rfl<|aA<|aC<|wu rfl<|wu rfl<|aA ?_;obtain⟨σ20,hr21,J⟩:=J.j6 0 rfl rfl;refine⟨rfl,rfl,σ20,hr21,?_⟩;refine aO<|aB<|aB<|aC<|wu rfl<|wu rfl<|wu rfl ?_;obtain⟨r22,h22,u⟩:=bs u;refine wcD (jW h22) rfl rfl (.cons rfl<|.cons rfl<|.cons rfl .nil)<|aA ?_;refine aF u rfl (fun hc u=> ?_)<|fun hc u=> ?_
  ·refine bY ?_;cases u;obtain⟨σ23,hs24,J⟩:=J.eR 0 rfl (fun lp=>{lp with st:= .ready,pend:=none});have J:=J.aV 2 rfl;have J:=J.aV 2 rfl;have J:=J.aV 2 rfl;exact⟨rfl,σ23,hs24,rfl,or0_1,hor0_1,J⟩
  ·refine aJ<|aB<|aC<|wu rfl<|wu rfl ?_;obtain⟨r25,h25,u⟩:=bs u;refine wcD (p9<|ih_linear_spot_occurs _ _ _ h25) rfl rfl (.cons rfl<|.cons rfl .nil)<|wu rfl<|wu rfl<|wu rfl<|wu rfl<|wu rfl<|aA<|aB<|aC<|wu rfl<|aA ?_;refine aF u rfl (fun hc u=> ?_)<|fun hc u=> ?_
   ·refine aB<|aC<|wu rfl ?_;refine cJ (ds':= [(slA 1<|r25.1.map<|AV.i)]) (cs':= [(slA 1<|r25.1.map<|AV.i)]) 2 rfl J rfl rfl rfl rfl rfl (Nat.le_of_ble_eq_true rfl) (.cons (tkN rfl) .nil) (by kernel_rfl)<|fun σ26 J=> ?_;refine cJ (ds':= [(.bool true)]) (cs':= [(.bool true)]) 1 rfl J rfl rfl rfl rfl rfl (Nat.le_of_ble_eq_true rfl) (.cons (tkN rfl) .nil) (by kernel_rfl)<|fun σ27 J=> ?_;refine aA<|aK ?_;cases u;obtain⟨σ28,hs29,J⟩:=J.eR 0 rfl (fun lp=>{lp with st:= .done,pend:=some .ret});have J:=J.aV 2 rfl;have J:=J.aV 2 rfl;have J:=J.aV 2 rfl;exact⟨rfl,σ28,hs29,rfl,(slA 1<|r25.1.map<|AV.i),(.no _),J⟩
   ·refine aJ ?_;cases u;obtain⟨σ30,hs31,J⟩:=J.eR 0 rfl (fun lp=>{lp with st:= .ready,pend:=none});have J:=J.aV 2 rfl;have J:=J.aV 2 rfl;have J:=J.aV 2 rfl;exact⟨rfl,σ30,hs31,rfl,or0_1,hor0_1,J⟩
theorem xT: ∀(s1:aE)(x2:Str)(r:((List Int)×Bool)),dV s1 x2=some r→mZ s1 x2 r:=wG.1
theorem qC{s1:aE}{x2:Str}{r:((List Int)×Bool)}(h:dV s1 x2=some r):Pf PP 170 [(aD s1),(.str x2)] (.tuple [(slA 1<|r.1.map<|AV.i),(.bool r.2)]):=p9 (xT s1 x2 r h)
noncomputable def g6(p1:(List Int))(is2:Bool):Option (Ctl Unit Pan):=
 (if is2=true then some (.nx (.aAi (lB.mk p1)))
 else some (.ret ()))
theorem dD: ∀(p1:(List Int))(is2:Bool)(r:(Ctl Unit Pan)),g6 p1 is2=some r→ ∀(s:ASt),Kn s [] []→Fc PP (.func 137) [(slA 1<|p1.map<|AV.i),(.bool is2)] s (aAb r (fun q=>nV s [] [] (.tuple []) (fun a:Unit=> []) (fun a:Unit=> []) (fun a:Unit=>True))<|fun p=>xW s [] [] (pG p)):=by
 intro p1 is2 r u;unfold g6 at u;intro s hK;refine uY r (v:=fun q:Unit=>(.tuple [])) (bs:=fun(q:Unit)=>(fun a:Unit=> [])) (gs:=fun(q:Unit)=>(fun a:Unit=> [])) (fs:=fun(q:Unit)=>(fun a:Unit=>True)) hK (fun _ _=>rfl) (fun _ _=>aFC) rfl rfl rfl ?_;have J:=hK.start;generalize aU s=σ1 at J⊢;refine aB<|aC<|wu rfl<|aA ?_;refine aF u rfl (fun hc u=> ?_)<|fun hc u=> ?_
 ·refine aC<|wu rfl ?_;refine wgv (v:=(tV<|lB.mk p1)) rfl rfl (by kernel_rfl) ?_;refine wu rfl<|aIQ rfl rfl ?_;cases u;exact⟨rfl,_,fun _=>rfl,J.ext⟩
 ·refine aJ ?_;cases u;exact⟨rfl,_,fun _=>rfl,iF rfl ⟨(),trivial,J⟩⟩
noncomputable def gD(s1:aE)(c2:Str)(r7:((List<|List Int)×Int×Int))(r14:aE)(x21:Int)(x22:aE)(c20:(List<|List Int)):Option (Ctl ((Option Nat)×(List<|List Int)) Pan):=
 ((if(x21==(0))=true then some true
 else((eI s1 x21 c2)>>=fun r26=>
 some r26):Option Bool)>>=fun c25=>
 (if c25=true then some (.ret ((none:Option Nat),c20))
 else((dV x22 c2)>>=fun r29=>
 ((g6 r29.1 r29.2)>>=fun o30=>
 (match o30 with
 | .ret r30=>some (.ret ((none:Option Nat),c20))
 | .nx p35=>some (.nx p35))))))
theorem lC: ∀(s1:aE)(c2:Str)(r7:((List<|List Int)×Int×Int))(r14:aE)(x21:Int)(x22:aE)(c20:(List<|List Int))(r:(Ctl ((Option Nat)×(List<|List Int)) Pan)),gD s1 c2 r7 r14 x21 x22 c20=some r→ ∀(s:ASt)(ε15:Env)(κ17:Nat)(ℓ16:Nat)(β1:Nat)(or0_1:AV),Kn s [(ℓ16,.loop ⟨eU none,bR none,bB ε15 [(2,(.aG (.ptr β1 0) 0)),(3,(.aG (aD s1) 0)),(11,(.func 168 [] [(.aG (aD r14) 0)]))],κ17,[12,13],Code.gE,Code.gA⟩),(β1,.cells [(.str c2),or0_1,(.i r7.2.1),(.i r7.2.2)] true)] [(or0_1,1,(c20.map<|a0 1<|AV.i))]→Fc PP (.yield ℓ16) [(.i x21),(aD x22)] s (aAb r (fun q=>nV s [ℓ16,β1] (dA [(or0_1,1,(c20.map<|a0 1<|AV.i))]) (.bool q.1.isNone) (fun a:AV=> [(ℓ16,.loop ⟨eU q.1,bR q.1,bB ε15 [(2,(.aG (.ptr β1 0) 0)),(3,(.aG (aD s1) 0)),(11,(.func 168 [] [(.aG (aD r14) 0)]))],κ17,[12,13],Code.gE,Code.gA⟩),(β1,.cells [(.str c2),a,(.i r7.2.1),(.i r7.2.2)] true)]) (fun a:AV=> [(a,1,(q.2.map<|a0 1<|AV.i))]) (fun a:AV=>True))<|fun p=>xW s [ℓ16,β1] (dA [(or0_1,1,(c20.map<|a0 1<|AV.i))]) (pG p)):=by
 intro s1 c2 r7 r14 x21 x22 c20 r u;unfold gD at u;intro s ε15 κ17 ℓ16 β1 or0_1 hK;refine aGN r (b:=fun q:((Option Nat)×(List<|List Int))=>q.1.isNone) (bs:=fun(q:((Option Nat)×(List<|List Int)))=>(fun a:AV=> [(ℓ16,.loop ⟨eU q.1,bR q.1,bB ε15 [(2,(.aG (.ptr β1 0) 0)),(3,(.aG (aD s1) 0)),(11,(.func 168 [] [(.aG (aD r14) 0)]))],κ17,[12,13],Code.gE,Code.gA⟩),(β1,.cells [(.str c2),a,(.i r7.2.1),(.i r7.2.2)] true)])) (gs:=fun(q:((Option Nat)×(List<|List Int)))=>(fun a:AV=> [(a,1,(q.2.map<|a0 1<|AV.i))])) (fs:=fun(q:((Option Nat)×(List<|List Int)))=>(fun a:AV=>True)) rfl ?_;refine yX (lp:=⟨.ready,none,bB ε15 [(2,(.aG (.ptr β1 0) 0)),(3,(.aG (aD s1) 0)),(11,(.func 168 [] [(.aG (aD r14) 0)]))],κ17,[12,13],Code.gE,Code.gA⟩) (hK.b _<|.head _) rfl rfl ?_;have J:=hK.st;refine aB<|aC<|wu rfl<|aA<|aC<|wu rfl<|wu rfl<|aA ?_;obtain⟨σ23,hr24,J⟩:=J.j6 0 rfl rfl;refine⟨rfl,rfl,σ23,hr24,?_⟩;refine aO<|aB<|aB<|aC<|wu rfl<|wu rfl<|wu rfl ?_;obtain⟨c25,h25,u⟩:=bs u;refine aW 8 [(2,(.aG (.ptr β1 0) 0)),(5,(.aG (aD x22) 0)),(24,(.bool c25))] σ23 ?_<|fun e=> ?_
 ·refine aX (t:=16) rfl (fun hc=> ?_)<|fun hc=> ?_
  ·replace h25:=bE hc h25;refine wu rfl<|wu rfl<|wu rfl<|wu rfl<|wu rfl<|wu rfl<|wu rfl<|wu rfl<|aA ?_;cases h25;exact Kept.mk rfl<|.cons rfl<|.cons rfl<|.cons rfl .nil
  ·replace h25:=bC hc h25;refine wu rfl<|wu rfl<|wu rfl<|wu rfl<|wu rfl<|lA 1 rfl J rfl rfl rfl ?_;obtain⟨r26,h26,h25⟩:=bs h25;refine wcD (jW h26) rfl rfl (.cons rfl<|.cons rfl<|.cons rfl .nil)<|wu rfl<|aA ?_;cases h25;exact Kept.mk rfl<|.cons rfl<|.cons rfl<|.cons rfl .nil
 ·refine aA ?_;refine aF u rfl (fun hc u=> ?_)<|fun hc u=> ?_
  ·refine bY ?_;cases u;obtain⟨σ27,hs28,J⟩:=J.eR 0 rfl (fun lp=>{lp with st:= .ready,pend:=none});have J:=J.aV 1 rfl;have J:=J.aV 1 rfl;exact⟨rfl,σ27,hs28,rfl,or0_1,trivial,J⟩
  ·refine aJ<|aC<|wu rfl<|wu rfl<|wu rfl<|wu rfl<|lA 1 rfl J rfl rfl rfl ?_;obtain⟨r29,h29,u⟩:=bs u;refine wcD (qC h29) rfl rfl (.cons rfl<|.cons rfl .nil)<|wu rfl<|wu rfl ?_;obtain⟨o30,ho30,u⟩:=bs u;rcases o30 with r30|p35
   ·refine cN rfl (bs1:= []) (bs2:= [(ℓ16,.loop ⟨.busy,none,bB ε15 [(2,(.aG (.ptr β1 0) 0)),(3,(.aG (aD s1) 0)),(11,(.func 168 [] [(.aG (aD r14) 0)]))],κ17,[12,13],Code.gE,Code.gA⟩),(β1,.cells [(.str c2),or0_1,(.i r7.2.1),(.i r7.2.2)] true)]) (gs1:= []) (gs2:= [(or0_1,1,(c20.map<|a0 1<|AV.i))]) rfl J (fun hK=>dD _ _ _ ho30 _ hK) rfl rfl (fun _=>rfl) rfl (by exact(.cons rfl<|.cons rfl .nil)) rfl<|fun σ31 a32 hF J=> ?_;refine aA ?_;cases u;obtain⟨σ37,hs38,J⟩:=J.eR 0 rfl (fun lp=>{lp with st:= .ready,pend:=none});have J:=J.aV 1 rfl;have J:=J.aV 1 rfl;exact⟨rfl,σ37,hs38,rfl,or0_1,trivial,J⟩
   ·refine iR (bs1:= []) (bs2:= [(ℓ16,.loop ⟨.busy,none,bB ε15 [(2,(.aG (.ptr β1 0) 0)),(3,(.aG (aD s1) 0)),(11,(.func 168 [] [(.aG (aD r14) 0)]))],κ17,[12,13],Code.gE,Code.gA⟩),(β1,.cells [(.str c2),or0_1,(.i r7.2.1),(.i r7.2.2)] true)]) (gs1:= []) (gs2:= [(or0_1,1,(c20.map<|a0 1<|AV.i))]) rfl J (fun hK=>dD _ _ _ ho30 _ hK) rfl rfl rfl (by exact(.cons rfl<|.cons rfl .nil)) rfl<|fun σ36 J=> ?_;cases u;exact⟨rfl,rfl,J.ext⟩
noncomputable def bU(s1:aE)(c2:Str)(r7:((List<|List Int)×Int×Int))(r14:aE)(c20:(List<|List Int))(x1039:Int)(c1040:(Option Nat))(c1041:(List<|List Int)):Option (Ctl ((Option Nat)×(List<|List Int))<|Ctl Pan<|(Option Nat)×(List<|List Int)):=
 (if(decide (x1039<(IntKind.wrap .i64 ((r14.expr.l.length:Int)+(r14.expr.aT.length:Int)))))=true then((bF r14 x1039)>>=fun r1042=>
 (if(c1040==(none:Option Nat))=true then((gD s1 c2 r7 r14 x1039 r1042 c1041)>>=fun o1043=>
 (match o1043 with
 | .ret r1043=>(if(!r1043.1.isNone)=true then some (.ret (r1043.1,r1043.2))
 else bU (nf s1) (nf c2) (nf r7) (nf r14) (nf c20) (IntKind.wrap .i64 (x1039+(1))) r1043.1 r1043.2)
 | .nx p1046=>some (.nx (.ret p1046))))
 else none))
 else some (.nx (.nx (c1040,c1041))))
 partial_fixpoint
abbrev kH(s1:aE)(c2:Str)(r7:((List<|List Int)×Int×Int))(r14:aE)(c20:(List<|List Int))(x1039:Int)(c1040:(Option Nat))(c1041:(List<|List Int))(o:(Ctl ((Option Nat)×(List<|List Int))<|Ctl Pan<|(Option Nat)×(List<|List Int))):Prop:= ∀(e:Env)(s sv:ASt)(ε15:Env)(κ17:Nat)(or0_1:AV)(ℓ16:Nat)(β1:Nat)(ow0_1:AV),St [ℓ16,β1] (dA [(or0_1,1,(c20.map<|a0 1<|AV.i))]) s sv [(ℓ16,.loop ⟨eU c1040,bR c1040,bB ε15 [(2,(.aG (.ptr β1 0) 0)),(3,(.aG (aD s1) 0)),(11,(.func 168 [] [(.aG (aD r14) 0)]))],κ17,[12,13],Code.gE,Code.gA⟩),(β1,.cells [(.str c2),ow0_1,(.i r7.2.1),(.i r7.2.2)] true)] [(ow0_1,1,(c1041.map<|a0 1<|AV.i))]→Wk PP none Code.aB8 ⟨bB e [(0,(.yield ℓ16)),(1,(.aG (aD r14) 0)),(12,(.i<|IntKind.wrap .i64<|(r14.expr.l.length:Int)+(r14.expr.aT.length:Int))),(13,(.i x1039))],[]⟩ sv (fun ex fr s'=>(match o with| .ret oq0=>ex= .ret∧nQ PP Code.aKz (VQ (.tuple [])<|RX s [ℓ16,β1] (dA [(or0_1,1,(c20.map<|a0 1<|AV.i))]) (fun a:AV=> [(ℓ16,.loop ⟨eU oq0.1,bR oq0.1,bB ε15 [(2,(.aG (.ptr β1 0) 0)),(3,(.aG (aD s1) 0)),(11,(.func 168 [] [(.aG (aD r14) 0)]))],κ17,[12,13],Code.gE,Code.gA⟩),(β1,.cells [(.str c2),a,(.i r7.2.1),(.i r7.2.2)] true)]) (fun a:AV=> [(a,1,(oq0.2.map<|a0 1<|AV.i))]) (fun a:AV=>True)) ex fr s'| .nx oq1=>(match oq1 with| .ret oq2=>aOE (pG oq2) (Ext [ℓ16,β1] (dA [(or0_1,1,(c20.map<|a0 1<|AV.i))]) s) ex fr s'| .nx oq3=>ex= .exit 0∧ ∃(pw1:AV)(e:Env),fr=⟨bB e [],[]⟩∧St [ℓ16,β1] (dA [(or0_1,1,(c20.map<|a0 1<|AV.i))]) s s' [(ℓ16,.loop ⟨eU oq3.1,bR oq3.1,bB ε15 [(2,(.aG (.ptr β1 0) 0)),(3,(.aG (aD s1) 0)),(11,(.func 168 [] [(.aG (aD r14) 0)]))],κ17,[12,13],Code.gE,Code.gA⟩),(β1,.cells [(.str c2),pw1,(.i r7.2.1),(.i r7.2.2)] true)] [(pw1,1,(oq3.2.map<|a0 1<|AV.i))])))
theorem pY: ∀(s1:aE)(c2:Str)(r7:((List<|List Int)×Int×Int))(r14:aE)(c20:(List<|List Int))(x1039:Int)(c1040:(Option Nat))(c1041:(List<|List Int))(o:(Ctl ((Option Nat)×(List<|List Int))<|Ctl Pan<|(Option Nat)×(List<|List Int))),bU s1 c2 r7 r14 c20 x1039 c1040 c1041=some o→kH s1 c2 r7 r14 c20 x1039 c1040 c1041 o:=by
 refine bU.partial_correctness (kH) ?_;intro _f ih_linear_clause_around_s0_i0_l0 s1 c2 r7 r14 c20 x1039 c1040 c1041 o u;intro e s sv ε15 κ17 or0_1 ℓ16 β1 ow0_1 J;refine bM<|aB<|aC<|wu rfl<|aA<|aB ?_;refine aF u rfl (fun hc u=> ?_)<|fun hc u=> ?_
 ·refine aJ<|aB<|aO<|aB<|aC<|wu rfl<|wu rfl<|aA<|aB<|aC<|wu rfl<|wu rfl<|wu rfl<|wu rfl ?_;obtain⟨r1042,h1042,u⟩:=bs u;refine wcD (cE h1042) rfl rfl (.cons rfl<|.cons rfl .nil) ?_;rcases Bool.eq_false_or_eq_true (c1040==(none:Option Nat)) with hc|hc
  ·replace u:=bE hc u;have J:=J.aBq (b1:= .loop ⟨eU none,bR none,bB ε15 [(2,(.aG (.ptr β1 0) 0)),(3,(.aG (aD s1) 0)),(11,(.func 168 [] [(.aG (aD r14) 0)]))],κ17,[12,13],Code.gE,Code.gA⟩) 0 rfl (by rw [eq_of_beq hc]);obtain⟨o1043,h1043,u⟩:=bs u;have J:=J.aV 1 rfl;have J:=J.aV 1 rfl;rcases o1043 with r1043|p1046
   ·refine cN rfl (bs1:= [(ℓ16,.loop ⟨eU none,bR none,bB ε15 [(2,(.aG (.ptr β1 0) 0)),(3,(.aG (aD s1) 0)),(11,(.func 168 [] [(.aG (aD r14) 0)]))],κ17,[12,13],Code.gE,Code.gA⟩),(β1,.cells [(.str c2),ow0_1,(.i r7.2.1),(.i r7.2.2)] true)]) (bs2:= []) (gs1:= [(ow0_1,1,(c1041.map<|a0 1<|AV.i))]) (gs2:= []) rfl J (fun hK=>lC _ _ _ _ _ _ _ _ h1043 _ ε15 κ17 ℓ16 β1 ow0_1 hK) rfl rfl (fun _=>rfl) rfl (by exact(.cons rfl<|.cons rfl .nil)) rfl<|fun σ1044 a1045 hF J=> ?_;refine wu rfl<|aA ?_;refine aF u rfl (fun hc u=> ?_)<|fun hc u=> ?_
    ·refine aK ?_;cases u;have J:=J.aV 1 rfl;have J:=J.aV 1 rfl;exact⟨rfl,⟨rfl,_,fun _=>rfl,iF rfl ⟨a1045,trivial,J⟩⟩⟩
    ·refine aJ<|aC<|wu rfl<|wu rfl<|aA ?_;have J:=J.aV 1 rfl;have J:=J.aV 1 rfl;exact bV (fun e=>ih_linear_clause_around_s0_i0_l0 _ _ _ _ _ _ _ _ _ u e s _ ε15 κ17 or0_1 ℓ16 β1 a1045 J) (.cons rfl<|.cons rfl<|.cons rfl<|.cons rfl .nil)<|fun _ _ _ h=>h
   ·refine iR (bs1:= [(ℓ16,.loop ⟨eU none,bR none,bB ε15 [(2,(.aG (.ptr β1 0) 0)),(3,(.aG (aD s1) 0)),(11,(.func 168 [] [(.aG (aD r14) 0)]))],κ17,[12,13],Code.gE,Code.gA⟩),(β1,.cells [(.str c2),ow0_1,(.i r7.2.1),(.i r7.2.2)] true)]) (bs2:= []) (gs1:= [(ow0_1,1,(c1041.map<|a0 1<|AV.i))]) (gs2:= []) rfl J (fun hK=>lC _ _ _ _ _ _ _ _ h1043 _ ε15 κ17 ℓ16 β1 ow0_1 hK) rfl rfl rfl (by exact(.cons rfl<|.cons rfl .nil)) rfl<|fun σ1047 J=> ?_;cases u;exact⟨rfl,_,fun _=>rfl,J.ext⟩
  ·replace u:=bC hc u;cases u
 ·refine bY ?_;cases u;have J:=J.aV 1 rfl;have J:=J.aV 1 rfl;exact⟨rfl,ow0_1,_,frE .nil,J⟩
noncomputable def fT(s1:aE)(c2:Str)(r7:((List<|List Int)×Int×Int))(r14:aE)(c20:(List<|List Int)):Option (Ctl ((Option Nat)×(List<|List Int)) Pan):=
 ((bU s1 c2 r7 r14 c20 (0) none c20)>>=fun o1048=>
 (match o1048 with
 | .ret q1049=>some (.ret q1049)
 | .nx q1050=>(match q1050 with
 | .ret q1051=>some (.nx q1051)
 | .nx q1052=>some (.ret (q1052.1,q1052.2)))))
theorem lJ: ∀(s1:aE)(c2:Str)(r7:((List<|List Int)×Int×Int))(r14:aE)(c20:(List<|List Int))(r:(Ctl ((Option Nat)×(List<|List Int)) Pan)),fT s1 c2 r7 r14 c20=some r→ ∀(s:ASt)(ε15:Env)(κ17:Nat)(ℓ16:Nat)(β1:Nat)(or0_1:AV),Kn s [(ℓ16,.loop ⟨eU none,bR none,bB ε15 [(2,(.aG (.ptr β1 0) 0)),(3,(.aG (aD s1) 0)),(11,(.func 168 [] [(.aG (aD r14) 0)]))],κ17,[12,13],Code.gE,Code.gA⟩),(β1,.cells [(.str c2),or0_1,(.i r7.2.1),(.i r7.2.2)] true)] [(or0_1,1,(c20.map<|a0 1<|AV.i))]→Fc PP (.func 168) [(.yield ℓ16),(.aG (aD r14) 0)] s (aAb r (fun q=>nV s [ℓ16,β1] (dA [(or0_1,1,(c20.map<|a0 1<|AV.i))]) (.tuple []) (fun a:AV=> [(ℓ16,.loop ⟨eU q.1,bR q.1,bB ε15 [(2,(.aG (.ptr β1 0) 0)),(3,(.aG (aD s1) 0)),(11,(.func 168 [] [(.aG (aD r14) 0)]))],κ17,[12,13],Code.gE,Code.gA⟩),(β1,.cells [(.str c2),a,(.i r7.2.1),(.i r7.2.2)] true)]) (fun a:AV=> [(a,1,(q.2.map<|a0 1<|AV.i))]) (fun a:AV=>True))<|fun p=>xW s [ℓ16,β1] (dA [(or0_1,1,(c20.map<|a0 1<|AV.i))]) (pG p)):=by
 intro s1 c2 r7 r14 c20 r u;unfold fT at u;intro s ε15 κ17 ℓ16 β1 or0_1 hK;refine uY r (v:=fun q:((Option Nat)×(List<|List Int))=>(.tuple [])) (bs:=fun(q:((Option Nat)×(List<|List Int)))=>(fun a:AV=> [(ℓ16,.loop ⟨eU q.1,bR q.1,bB ε15 [(2,(.aG (.ptr β1 0) 0)),(3,(.aG (aD s1) 0)),(11,(.func 168 [] [(.aG (aD r14) 0)]))],κ17,[12,13],Code.gE,Code.gA⟩),(β1,.cells [(.str c2),a,(.i r7.2.1),(.i r7.2.2)] true)])) (gs:=fun(q:((Option Nat)×(List<|List Int)))=>(fun a:AV=> [(a,1,(q.2.map<|a0 1<|AV.i))])) (fs:=fun(q:((Option Nat)×(List<|List Int)))=>(fun a:AV=>True)) hK (fun _ _=>rfl) (fun _ a q hq=>by
  simp only [List.mem_cons,List.not_mem_nil,or_false] at hq;subst hq;exact⟨_,(.tail _ (.head _)),_,_,rfl,(.tail _ (.head _))⟩) rfl rfl rfl ?_
 have J:=hK.start;generalize aU s=σ1 at J⊢;refine aB<|aC<|wu rfl<|wu rfl<|wu rfl<|bI (f:=aP) (l:=r14.expr.l) rfl (.no _)<|wu rfl<|wu rfl<|wu rfl<|bI (f:=aZ) (l:=r14.expr.aT) rfl (.no _)<|wu rfl<|wu rfl<|aA<|aO ?_;obtain⟨o1048,h1048,u⟩:=bs u;have J:=J.aV 1 rfl;have J:=J.aV 1 rfl;refine bV (fun e=>pY _ _ _ _ _ _ _ _ _ h1048 e s _ ε15 κ17 or0_1 ℓ16 β1 or0_1 J) (.cons rfl<|.cons rfl<|.cons rfl<|.cons rfl .nil) ?_
 rintro _ _ _ hq
 rcases o1048 with q1049|q1050
 ·obtain⟨rfl,hq⟩:=hq;cases u;exact hq
 ·rcases q1050 with q1051|q1052
  ·obtain⟨rfl,hq⟩:=hq;cases u;exact⟨rfl,hq⟩
  ·obtain⟨rfl,w1053_1,e1054,rfl,J⟩:=hq;cases u;have J:=J.aV 1 rfl;have J:=J.aV 1 rfl;exact⟨rfl,_,fun _=>rfl,iF rfl ⟨w1053_1,trivial,J⟩⟩
noncomputable def jM(s1:(List Int))(v2:Int)(x3:Int):Option (Ctl Int Unit):=
 (if(decide (x3<(s1.length:Int)))=true then((idx s1 x3)>>=fun y4=>
 (if(v2==y4)=true then some (.ret x3)
 else jM (nf s1) (nf v2) (IntKind.wrap .i64 (x3+(1)))))
 else some (.nx ()))
 partial_fixpoint
abbrev uI(s1:(List Int))(v2:Int)(x3:Int)(o:(Ctl Int Unit)):Prop:= ∀(e:Env)(s sv:ASt),St [] [] s sv [] []→Wk PP none Code.aPs ⟨bB e [(0,(slA 1<|s1.map<|AV.i)),(1,(.i v2)),(7,(.i (s1.length:Int))),(8,(.i x3))],[]⟩ sv (fun ex fr s'=>(match o with| .ret oq0=>ex= .ret∧nQ PP Code.aRp (VQ (.i oq0)<|Ext [] [] s) ex fr s'| .nx oq1=>ex= .exit 0∧ ∃(e:Env),fr=⟨bB e [],[]⟩∧sv=s'))
theorem aA7: ∀(s1:(List Int))(v2:Int)(x3:Int)(o:(Ctl Int Unit)),jM s1 v2 x3=some o→uI s1 v2 x3 o:=by
 refine jM.partial_correctness (uI) ?_;intro _f ih_slices_Index_l0 s1 v2 x3 o u;intro e s sv J;refine bM<|aB<|aC<|wu rfl<|aA<|aB ?_;refine aF u rfl (fun hc u=> ?_)<|fun hc u=> ?_
 ·refine aJ<|aB<|aO<|aB<|aC<|wu rfl<|wu rfl<|aA<|aB<|aC<|wu rfl<|wu rfl<|wu rfl ?_;obtain⟨y4,hy4,u⟩:=bs u;refine bT (f:=(AV.i)) rfl (.no _) rfl hy4 rfl<|wu rfl<|wu rfl<|aA ?_;refine aF u rfl (fun hc u=> ?_)<|fun hc u=> ?_
  ·refine aB<|aC<|wu rfl<|wu rfl<|aA<|aK ?_;cases u;exact⟨rfl,⟨rfl,_,fun _=>rfl,aY rfl rfl rfl rfl J.ext⟩⟩
  ·refine aJ<|aC<|wu rfl<|wu rfl<|aA ?_;exact bV (fun e=>ih_slices_Index_l0 _ _ _ _ u e s _ J) (.cons rfl<|.cons rfl<|.cons rfl<|.cons rfl .nil)<|fun _ _ _ h=>h
 ·refine bY ?_;cases u;exact⟨rfl,_,frE .nil,rfl⟩
noncomputable def nI(s1:(List Int))(v2:Int):Option Int:=
 ((jM s1 v2 (0))>>=fun o5=>
 (match o5 with
 | .ret q6=>some q6
 | .nx q7=>some (-1)))
theorem aDi: ∀(s1:(List Int))(v2:Int)(r:Int),nI s1 v2=some r→ ∀s:ASt,Fc PP (.func 167) [(slA 1<|s1.map<|AV.i),(.i v2)] s (bW s<|.i r):=by
 intro s1 v2 r u;unfold nI at u;intro s;refine bD rfl rfl rfl ?_;have J:=St.clean s;generalize aU s=σ1 at J⊢;refine aB<|aC<|wu rfl<|aA<|aB<|aB<|aC<|wu rfl<|bI (f:=(AV.i)) (l:=s1) rfl (.no _)<|wu rfl<|aA<|aO ?_;obtain⟨o5,ho5,u⟩:=bs u;refine bV (fun e=>aA7 _ _ _ _ ho5 e s _ J) (.cons rfl<|.cons rfl<|.cons rfl<|.cons rfl .nil) ?_
 rintro _ _ _ hq
 rcases o5 with q6|q7
 ·obtain⟨rfl,hq⟩:=hq;cases u;exact hq
 ·obtain⟨rfl,e9,rfl,rfl⟩:=hq;refine aB<|aC<|wu rfl<|aA<|aK ?_;cases u;exact⟨rfl,_,fun _=>rfl,aY rfl rfl rfl rfl J.ext⟩
theorem aDl{s1:(List Int)}{v2:Int}{r:Int}(h:nI s1 v2=some r):Pf PP 167 [(slA 1<|s1.map<|AV.i),(.i v2)] (.i r):=Pf.cB (aDi s1 v2 r h _) rfl (.cons (j9<|cV (fun _=>rfl) _)<|.cons ⟨rfl,rfl⟩ .nil)
noncomputable def jL(s1:(List Int))(v2:Int):Option Bool:=
 ((nI s1 v2)>>=fun r3=>
 some (decide (r3≥(0))))
theorem aAW: ∀(s1:(List Int))(v2:Int)(r:Bool),jL s1 v2=some r→ ∀s:ASt,Fc PP (.func 115) [(slA 1<|s1.map<|AV.i),(.i v2)] s (bW s<|.bool r):=by
 intro s1 v2 r u;unfold jL at u;intro s;refine bD rfl rfl rfl ?_;have J:=St.clean s;generalize aU s=σ1 at J⊢;refine aB<|aC<|wu rfl<|aA<|aB<|aC<|wu rfl<|wu rfl ?_;obtain⟨r3,hr3,u⟩:=bs u;refine wcD (aDl hr3) rfl rfl (.cons rfl<|.cons rfl .nil)<|wu rfl<|wu rfl<|aA<|aK ?_;cases u;exact⟨rfl,_,fun _=>rfl,aY rfl rfl rfl rfl J.ext⟩
theorem aA3{s1:(List Int)}{v2:Int}{r:Bool}(h:jL s1 v2=some r):Pf PP 115 [(slA 1<|s1.map<|AV.i),(.i v2)] (.bool r):=Pf.cB (aAW s1 v2 r h _) rfl (.cons (j9<|cV (fun _=>rfl) _)<|.cons ⟨rfl,rfl⟩ .nil)
mutual
noncomputable def dB (s1:aE) (k2:Str) (hi3:Bool) (w4:Bool):Option ((List Int)×Bool):=
 ((if(!hi3)=true then((jA s1 k2)>>=fun r10=>
 some r10)
 else some false:Option Bool)>>=fun c9=>
 ((if c9=true then some true
 else((if(!w4)=true then((jL fF s1.expr.kind)>>=fun r13=>
 some (!r13))
 else some false:Option Bool)>>=fun c12=>
 some c12):Option Bool)>>=fun c11=>
 (if c11=true then some (s1.path,true)
 else((bP s1)>>=fun r16=>
 ((kJ (nf s1) (nf k2) (nf hi3) (nf w4) (nf r16) (nf false) ([]:(List Int)))>>=fun r38=>
 (if(r38.1==(none:Option Nat))=true then some (([]:(List Int)),false)
 else(if(r38.1==(some 0))=true then some (r38.2.2,r38.2.1)
 else none)))))))
 partial_fixpoint
noncomputable def kJ (s1:aE) (k2:Str) (hi3:Bool) (w4:Bool) (r16:aE) (x22:Bool) (x23:(List Int)):Option ((Option Nat)×Bool×(List Int)):=
 ((dY s1 k2 hi3 w4 r16 (0) none x22 x23)>>=fun o1047=>
 (match o1047 with
 | .ret q1048=>some q1048
 | .nx q1049=>some (q1049.1,q1049.2.1,q1049.2.2)))
 partial_fixpoint
noncomputable def dY (s1:aE) (k2:Str) (hi3:Bool) (w4:Bool) (r16:aE) (x1038:Int) (c1039:(Option Nat)) (x1040:Bool) (x1041:(List Int)):Option (Ctl ((Option Nat)×Bool×(List Int))<|(Option Nat)×Bool×(List Int)):=
 (if(decide (x1038<(IntKind.wrap .i64 ((r16.expr.l.length:Int)+(r16.expr.aT.length:Int)))))=true then((bF r16 x1038)>>=fun r1042=>
 (if(c1039==(none:Option Nat))=true then((kK (nf s1) (nf k2) (nf hi3) (nf w4) (nf r16) (nf x1038) (nf r1042) (nf x1040) (nf x1041))>>=fun r1043=>
 (if(!r1043.1.isNone)=true then some (.ret (r1043.1,r1043.2.1,r1043.2.2))
 else dY (nf s1) (nf k2) (nf hi3) (nf w4) (nf r16) (IntKind.wrap .i64 (x1038+(1))) r1043.1 r1043.2.1 r1043.2.2))
 else none))
 else some (.nx (c1039,x1040,x1041)))
 partial_fixpoint
noncomputable def kK (s1:aE) (k2:Str) (hi3:Bool) (w4:Bool) (r16:aE) (x24:Int) (x25:aE) (x22:Bool) (x23:(List Int)):Option ((Option Nat)×Bool×(List Int)):=
 ((if hi3=true then some true
 else((eI s1 x24 k2)>>=fun r29=>
 some r29):Option Bool)>>=fun c28=>
 ((if w4=true then some true
 else some (s1.expr.kind==(4)):Option Bool)>>=fun c30=>
 ((dB (nf x25) (nf k2) (nf c28) (nf c30))>>=fun r31=>
 (if r31.2=true then some ((some 0),true,r31.1)
 else some ((none:Option Nat),x22,x23)))))
 partial_fixpoint
end
abbrev oJ(s1:aE)(k2:Str)(hi3:Bool)(w4:Bool)(r:((List Int)×Bool)):Prop:= ∀s:ASt,Fc PP (.func 82) [(aD s1),(.str k2),(.bool hi3),(.bool w4)] s (bW s<|.tuple [(slA 1<|r.1.map<|AV.i),(.bool r.2)])
abbrev p8(s1:aE)(k2:Str)(hi3:Bool)(w4:Bool)(r16:aE)(x22:Bool)(x23:(List Int))(r:((Option Nat)×Bool×(List Int))):Prop:= ∀(s:ASt)(ε17:Env)(κ19:Nat)(ℓ18:Nat)(β7:Nat)(β5:Nat)(or0_1:AV),Sl 1 or0_1 (x23.map<|AV.i)→Kn s [(ℓ18,.loop ⟨eU none,bR none,bB ε17 [(4,(.aG (aD s1) 0)),(5,(.aG (.str k2) 0)),(6,(.aG (.bool hi3) 0)),(7,(.aG (.bool w4) 0)),(8,(.ptr β5 0)),(9,(.ptr β7 0)),(36,(.func 168 [] [(.aG (aD r16) 0)]))],κ19,[37,38],Code.mE,Code.mG⟩),(β7,.cells [(.bool x22)] true),(β5,.cells [or0_1] true)] []→Fc PP (.func 168) [(.yield ℓ18),(.aG (aD r16) 0)] s (nV s [ℓ18,β7,β5] [] (.tuple []) (fun a:AV=> [(ℓ18,.loop ⟨eU r.1,bR r.1,bB ε17 [(4,(.aG (aD s1) 0)),(5,(.aG (.str k2) 0)),(6,(.aG (.bool hi3) 0)),(7,(.aG (.bool w4) 0)),(8,(.ptr β5 0)),(9,(.ptr β7 0)),(36,(.func 168 [] [(.aG (aD r16) 0)]))],κ19,[37,38],Code.mE,Code.mG⟩),(β7,.cells [(.bool r.2.1)] true),(β5,.cells [a] true)]) (fun a:AV=> []) (fun a:AV=>Sl 1 a (r.2.2.map<|AV.i)))
abbrev nY(s1:aE)(k2:Str)(hi3:Bool)(w4:Bool)(r16:aE)(x1038:Int)(c1039:(Option Nat))(x1040:Bool)(x1041:(List Int))(o:(Ctl ((Option Nat)×Bool×(List Int))<|(Option Nat)×Bool×(List Int))):Prop:= ∀(e:Env)(s sv:ASt)(ε17:Env)(κ19:Nat)(or0_1:AV)(ℓ18:Nat)(β7:Nat)(β5:Nat)(ow0_1:AV),Sl 1 ow0_1 (x1041.map<|AV.i)→St [ℓ18,β7,β5] [] s sv [(ℓ18,.loop ⟨eU c1039,bR c1039,bB ε17 [(4,(.aG (aD s1) 0)),(5,(.aG (.str k2) 0)),(6,(.aG (.bool hi3) 0)),(7,(.aG (.bool w4) 0)),(8,(.ptr β5 0)),(9,(.ptr β7 0)),(36,(.func 168 [] [(.aG (aD r16) 0)]))],κ19,[37,38],Code.mE,Code.mG⟩),(β7,.cells [(.bool x1040)] true),(β5,.cells [ow0_1] true)] []→Wk PP none Code.aB8 ⟨bB e [(0,(.yield ℓ18)),(1,(.aG (aD r16) 0)),(12,(.i<|IntKind.wrap .i64<|(r16.expr.l.length:Int)+(r16.expr.aT.length:Int))),(13,(.i x1038))],[]⟩ sv (fun ex fr s'=>(match o with| .ret oq0=>ex= .ret∧nQ PP Code.aKz (VQ (.tuple [])<|RX s [ℓ18,β7,β5] [] (fun a:AV=> [(ℓ18,.loop ⟨eU oq0.1,bR oq0.1,bB ε17 [(4,(.aG (aD s1) 0)),(5,(.aG (.str k2) 0)),(6,(.aG (.bool hi3) 0)),(7,(.aG (.bool w4) 0)),(8,(.ptr β5 0)),(9,(.ptr β7 0)),(36,(.func 168 [] [(.aG (aD r16) 0)]))],κ19,[37,38],Code.mE,Code.mG⟩),(β7,.cells [(.bool oq0.2.1)] true),(β5,.cells [a] true)]) (fun a:AV=> []) (fun a:AV=>Sl 1 a (oq0.2.2.map<|AV.i))) ex fr s'| .nx oq1=>ex= .exit 0∧ ∃(pw1:AV)(e:Env),fr=⟨bB e [],[]⟩∧Sl 1 pw1 (oq1.2.2.map<|AV.i)∧St [ℓ18,β7,β5] [] s s' [(ℓ18,.loop ⟨eU oq1.1,bR oq1.1,bB ε17 [(4,(.aG (aD s1) 0)),(5,(.aG (.str k2) 0)),(6,(.aG (.bool hi3) 0)),(7,(.aG (.bool w4) 0)),(8,(.ptr β5 0)),(9,(.ptr β7 0)),(36,(.func 168 [] [(.aG (aD r16) 0)]))],κ19,[37,38],Code.mE,Code.mG⟩),(β7,.cells [(.bool oq1.2.1)] true),(β5,.cells [pw1] true)] []))
abbrev qA(s1:aE)(k2:Str)(hi3:Bool)(w4:Bool)(r16:aE)(x24:Int)(x25:aE)(x22:Bool)(x23:(List Int))(r:((Option Nat)×Bool×(List Int))):Prop:= ∀(s:ASt)(ε17:Env)(κ19:Nat)(ℓ18:Nat)(β7:Nat)(β5:Nat)(or0_1:AV),Sl 1 or0_1 (x23.map<|AV.i)→Kn s [(ℓ18,.loop ⟨eU none,bR none,bB ε17 [(4,(.aG (aD s1) 0)),(5,(.aG (.str k2) 0)),(6,(.aG (.bool hi3) 0)),(7,(.aG (.bool w4) 0)),(8,(.ptr β5 0)),(9,(.ptr β7 0)),(36,(.func 168 [] [(.aG (aD r16) 0)]))],κ19,[37,38],Code.mE,Code.mG⟩),(β7,.cells [(.bool x22)] true),(β5,.cells [or0_1] true)] []→Fc PP (.yield ℓ18) [(.i x24),(aD x25)] s (nV s [ℓ18,β7,β5] [] (.bool r.1.isNone) (fun a:AV=> [(ℓ18,.loop ⟨eU r.1,bR r.1,bB ε17 [(4,(.aG (aD s1) 0)),(5,(.aG (.str k2) 0)),(6,(.aG (.bool hi3) 0)),(7,(.aG (.bool w4) 0)),(8,(.ptr β5 0)),(9,(.ptr β7 0)),(36,(.func 168 [] [(.aG (aD r16) 0)]))],κ19,[37,38],Code.mE,Code.mG⟩),(β7,.cells [(.bool r.2.1)] true),(β5,.cells [a] true)]) (fun a:AV=> []) (fun a:AV=>Sl 1 a (r.2.2.map<|AV.i)))
theorem sC{s1:aE}{k2:Str}{hi3:Bool}{w4:Bool}{r:((List Int)×Bool)}(h: ∀s:ASt,Fc PP (.func 82) [(aD s1),(.str k2),(.bool hi3),(.bool w4)] s<|bW s<|.tuple [(slA 1<|r.1.map<|AV.i),(.bool r.2)]):Pf PP 82 [(aD s1),(.str k2),(.bool hi3),(.bool w4)] (.tuple [(slA 1<|r.1.map<|AV.i),(.bool r.2)]):=Pf.cB (h _) (rW<|.cons (iC (fun _=>rfl) _)<|.cons rfl<|.nil) (.cons (fG _)<|.cons ⟨rfl,rfl⟩<|.cons ⟨rfl,rfl⟩<|.cons ⟨rfl,rfl⟩ .nil)
theorem y1:(∀(s1:aE)(k2:Str)(hi3:Bool)(w4:Bool)(r:((List Int)×Bool)),dB s1 k2 hi3 w4=some r→oJ s1 k2 hi3 w4 r)∧
  (∀(s1:aE)(k2:Str)(hi3:Bool)(w4:Bool)(r16:aE)(x22:Bool)(x23:(List Int))(r:((Option Nat)×Bool×(List Int))),kJ s1 k2 hi3 w4 r16 x22 x23=some r→p8 s1 k2 hi3 w4 r16 x22 x23 r)∧
  (∀(s1:aE)(k2:Str)(hi3:Bool)(w4:Bool)(r16:aE)(x1038:Int)(c1039:(Option Nat))(x1040:Bool)(x1041:(List Int))(o:(Ctl ((Option Nat)×Bool×(List Int))<|(Option Nat)×Bool×(List Int))),dY s1 k2 hi3 w4 r16 x1038 c1039 x1040 x1041=some o→nY s1 k2 hi3 w4 r16 x1038 c1039 x1040 x1041 o)∧
  (∀(s1:aE)(k2:Str)(hi3:Bool)(w4:Bool)(r16:aE)(x24:Int)(x25:aE)(x22:Bool)(x23:(List Int))(r:((Option Nat)×Bool×(List Int))),kK s1 k2 hi3 w4 r16 x24 x25 x22 x23=some r→qA s1 k2 hi3 w4 r16 x24 x25 x22 x23 r):=by
 refine dB.mutual_partial_correctness oJ p8 nY qA ?_ ?_ ?_ ?_
 ·intro _f0 ih_linear_spot_loud_i0 s1 k2 hi3 w4 r u;intro s;refine bD rfl rfl rfl ?_;have J:=St.clean s;generalize aU s=σ1 at J⊢;refine aB<|aC<|wu rfl<|wu rfl<|wu rfl<|wu rfl ?_;refine lU rfl J rfl<|fun β5 σ6 J=> ?_;refine lU rfl J rfl<|fun β7 σ8 J=> ?_;refine aA<|aB<|aB<|aC<|wu rfl<|wu rfl<|wu rfl ?_;obtain⟨c9,hc9,u⟩:=bs u;refine aW 4 [(4,(.aG (aD s1) 0)),(5,(.aG (.str k2) 0)),(6,(.aG (.bool hi3) 0)),(7,(.aG (.bool w4) 0)),(8,(.ptr β5 0)),(9,(.ptr β7 0)),(20,(.bool c9))] σ8 ?_<|fun e=> ?_
  ·refine aX (t:=16) rfl (fun hc=> ?_)<|fun hc=> ?_
   ·replace hc9:=bE hc hc9;refine wu rfl<|wu rfl ?_;obtain⟨r10,h10,hc9⟩:=bs hc9;refine wcD (uH h10) rfl rfl (.cons rfl<|.cons rfl .nil)<|wu rfl<|aA ?_;cases hc9;exact Kept.mk rfl<|.cons rfl<|.cons rfl<|.cons rfl<|.cons rfl<|.cons rfl<|.cons rfl<|.cons rfl .nil
   ·replace hc9:=bC hc hc9;refine wu rfl<|wu rfl<|wu rfl<|wu rfl<|aA ?_;cases hc9;exact Kept.mk rfl<|.cons rfl<|.cons rfl<|.cons rfl<|.cons rfl<|.cons rfl<|.cons rfl<|.cons rfl .nil
  ·refine wu rfl ?_;obtain⟨c11,h11,u⟩:=bs u;refine aW 11 [(4,(.aG (aD s1) 0)),(5,(.aG (.str k2) 0)),(6,(.aG (.bool hi3) 0)),(7,(.aG (.bool w4) 0)),(8,(.ptr β5 0)),(9,(.ptr β7 0)),(32,(.bool c11))] σ8 ?_<|fun e=> ?_
   ·refine aX (t:=21) rfl (fun hc=> ?_)<|fun hc=> ?_
    ·replace h11:=bE hc h11;refine wu rfl<|wu rfl<|wu rfl<|wu rfl<|wu rfl<|wu rfl<|wu rfl<|wu rfl<|wu rfl<|wu rfl<|wu rfl<|aA ?_;cases h11;exact Kept.mk rfl<|.cons rfl<|.cons rfl<|.cons rfl<|.cons rfl<|.cons rfl<|.cons rfl<|.cons rfl .nil
    ·replace h11:=bC hc h11
     iterate 3 refine wu rfl ?_
     obtain⟨c12,h12,h11⟩:=bs h11;refine aW 7 [(4,(.aG (aD s1) 0)),(5,(.aG (.str k2) 0)),(6,(.aG (.bool hi3) 0)),(7,(.aG (.bool w4) 0)),(8,(.ptr β5 0)),(9,(.ptr β7 0)),(21,(.bool false)),(31,(.bool c12))] σ8 ?_<|fun e=> ?_
     ·refine aX (t:=24) rfl (fun hc=> ?_)<|fun hc=> ?_
      ·replace h12:=bE hc h12;refine wgv (v:=(slA 1<|fF.map<|AV.i)) rfl rfl (by kernel_rfl) ?_
       iterate 3 refine wu rfl ?_
       obtain⟨r13,h13,h12⟩:=bs h12;refine wcD (aA3 h13) rfl rfl (.cons rfl<|.cons rfl .nil)<|wu rfl<|wu rfl<|aA ?_;cases h12;exact Kept.mk rfl<|.cons rfl<|.cons rfl<|.cons rfl<|.cons rfl<|.cons rfl<|.cons rfl<|.cons rfl<|.cons rfl .nil
      ·replace h12:=bC hc h12;refine wu rfl<|wu rfl<|wu rfl<|wu rfl<|wu rfl<|wu rfl<|wu rfl<|aA ?_;cases h12;exact Kept.mk rfl<|.cons rfl<|.cons rfl<|.cons rfl<|.cons rfl<|.cons rfl<|.cons rfl<|.cons rfl<|.cons rfl .nil
     ·refine wu rfl<|aA ?_;cases h11;exact Kept.mk rfl<|.cons rfl<|.cons rfl<|.cons rfl<|.cons rfl<|.cons rfl<|.cons rfl<|.cons rfl .nil
   ·refine aA ?_;refine aF u rfl (fun hc u=> ?_)<|fun hc u=> ?_
    ·refine aB<|aC<|wu rfl<|wu rfl ?_;refine cJ (ds':= [(slA 1<|s1.path.map<|AV.i)]) (cs':= [(slA 1<|s1.path.map<|AV.i)]) 1 rfl J rfl rfl rfl rfl rfl (Nat.le_of_ble_eq_true rfl) (.cons (tkN rfl) .nil) (by kernel_rfl)<|fun σ14 J=> ?_;refine cJ (ds':= [(.bool true)]) (cs':= [(.bool true)]) 0 rfl J rfl rfl rfl rfl rfl (Nat.le_of_ble_eq_true rfl) (.cons (tkN rfl) .nil) (by kernel_rfl)<|fun σ15 J=> ?_;refine aA<|aK ?_;cases u;exact⟨rfl,_,fun _=>rfl,dN (xC.eq<|.cons (nS J 1 rfl rfl rfl)<|.cons (nS J 0 rfl rfl rfl) .nil) (.cons rfl<|.cons rfl .nil) J.ext⟩
    ·refine aJ<|aB<|aB<|aC<|wu rfl ?_;obtain⟨r16,h16,u⟩:=bs u;refine wcD (gY h16) rfl rfl (.cons rfl .nil)<|aA<|aO ?_;refine aFd (S:= [(4,(.aG (aD s1) 0)),(5,(.aG (.str k2) 0)),(6,(.aG (.bool hi3) 0)),(7,(.aG (.bool w4) 0)),(8,(.ptr β5 0)),(9,(.ptr β7 0)),(36,(.func 168 [] [(.aG (aD r16) 0)]))]) (.cons rfl<|.cons rfl<|.cons rfl<|.cons rfl<|.cons rfl<|.cons rfl<|.cons rfl .nil)<|fun ε17=> ?_;obtain⟨κ19,ℓ18,σ20,hl21,J⟩:=yY (params:= [37,38]) (assign:=Code.mE) (body:=Code.mG) (fr:=⟨bB ε17 [(4,(.aG (aD s1) 0)),(5,(.aG (.str k2) 0)),(6,(.aG (.bool hi3) 0)),(7,(.aG (.bool w4) 0)),(8,(.ptr β5 0)),(9,(.ptr β7 0)),(36,(.func 168 [] [(.aG (aD r16) 0)]))],[]⟩) J;refine yP hl21 rfl rfl ?_;obtain⟨r38,h38,u⟩:=bs u;have J:=J.aV 3 rfl;have J:=J.aV 3 rfl;have J:=J.aV 2 rfl;rcases Bool.eq_false_or_eq_true (r38.1==(none:Option Nat)) with hc|hc
     ·replace u:=bE hc u;refine qQ (bs1:= [(ℓ18,.loop ⟨eU none,bR none,bB ε17 [(4,(.aG (aD s1) 0)),(5,(.aG (.str k2) 0)),(6,(.aG (.bool hi3) 0)),(7,(.aG (.bool w4) 0)),(8,(.ptr β5 0)),(9,(.ptr β7 0)),(36,(.func 168 [] [(.aG (aD r16) 0)]))],κ19,[37,38],Code.mE,Code.mG⟩),(β7,.cells [(.bool false)] true),(β5,.cells [(.slice 0 (([]:(List Int)).map<|AV.i) .full)] true)]) (bs2:= [(κ19,.tW)]) (gs1:= []) (gs2:= []) (pd:=r38.1) (ex:= .normal) J (fun hK=>ih_linear_spot_loud_i0 _ _ _ _ _ _ _ _ h38 _ ε17 κ19 ℓ18 β7 β5 (.slice 0 (([]:(List Int)).map<|AV.i) .full) (.full<|.inr rfl) hK) rfl rfl (fun _=>rfl) (by rw [eq_of_beq hc];rfl)<|fun σ39 a40 hF J=> ?_;have h41:=hF;refine aB<|aC ?_;refine cJ (ds':= [(.slice 0 (([]:(List Int)).map<|AV.i) .full)]) (cs':= [(.slice 0 (([]:(List Int)).map<|AV.i) .full)]) 1 rfl J rfl rfl rfl rfl rfl (Nat.le_of_ble_eq_true rfl) (.cons (tkN rfl) .nil) (by kernel_rfl)<|fun σ42 J=> ?_;refine cJ (ds':= [(.bool false)]) (cs':= [(.bool false)]) 0 rfl J rfl rfl rfl rfl rfl (Nat.le_of_ble_eq_true rfl) (.cons (tkN rfl) .nil) (by kernel_rfl)<|fun σ43 J=> ?_;refine aA<|aK ?_;cases u;obtain⟨σ44,J,h45⟩:=J.mark 2 rfl;exact⟨rfl,σ44,(h45<|fun _=>rfl),dN (xC.eq<|.cons (nS J 1 rfl rfl rfl)<|.cons (nS J 0 rfl rfl rfl) .nil) (.cons rfl<|.cons rfl .nil) J.ext⟩
     ·replace u:=bC hc u;rcases Bool.eq_false_or_eq_true (r38.1==(some 0)) with hc|hc
      ·replace u:=bE hc u;refine qQ (bs1:= [(ℓ18,.loop ⟨eU none,bR none,bB ε17 [(4,(.aG (aD s1) 0)),(5,(.aG (.str k2) 0)),(6,(.aG (.bool hi3) 0)),(7,(.aG (.bool w4) 0)),(8,(.ptr β5 0)),(9,(.ptr β7 0)),(36,(.func 168 [] [(.aG (aD r16) 0)]))],κ19,[37,38],Code.mE,Code.mG⟩),(β7,.cells [(.bool false)] true),(β5,.cells [(.slice 0 (([]:(List Int)).map<|AV.i) .full)] true)]) (bs2:= [(κ19,.tW)]) (gs1:= []) (gs2:= []) (pd:=r38.1) (ex:= .ret) J (fun hK=>ih_linear_spot_loud_i0 _ _ _ _ _ _ _ _ h38 _ ε17 κ19 ℓ18 β7 β5 (.slice 0 (([]:(List Int)).map<|AV.i) .full) (.full<|.inr rfl) hK) rfl rfl (fun _=>rfl) (by rw [eq_of_beq hc];rfl)<|fun σ46 a47 hF J=> ?_;have h48:=hF;cases u;obtain⟨σ49,J,h50⟩:=J.mark 2 rfl;exact⟨rfl,σ49,(h50<|fun _=>rfl),dN (xC.eq<|.cons (nS J 1 rfl rfl rfl)<|.cons (nS J 0 rfl rfl rfl) .nil) (.cons (h48).fix<|.cons rfl .nil) J.ext⟩
      ·replace u:=bC hc u;cases u
 ·intro _f0 ih_linear_spot_loud_i0_l0 s1 k2 hi3 w4 r16 x22 x23 r u;intro s ε17 κ19 ℓ18 β7 β5 or0_1 hor0_1 hK;refine rV hK (fun _=>rfl) (fun _=>aFC) rfl rfl rfl ?_;have J:=hK.start;generalize aU s=σ1 at J⊢;refine aB<|aC<|wu rfl<|wu rfl<|wu rfl<|bI (f:=aP) (l:=r16.expr.l) rfl (.no _)<|wu rfl<|wu rfl<|wu rfl<|bI (f:=aZ) (l:=r16.expr.aT) rfl (.no _)<|wu rfl<|wu rfl<|aA<|aO ?_;obtain⟨o1047,h1047,u⟩:=bs u;have J:=J.aV 2 rfl;have J:=J.aV 2 rfl;have J:=J.aV 2 rfl;refine bV (fun e=>ih_linear_spot_loud_i0_l0 _ _ _ _ _ _ _ _ _ _ h1047 e s _ ε17 κ19 or0_1 ℓ18 β7 β5 or0_1 hor0_1 J) (.cons rfl<|.cons rfl<|.cons rfl<|.cons rfl .nil) ?_
  rintro _ _ _ hq
  rcases o1047 with q1048|q1049
  ·obtain⟨rfl,hq⟩:=hq;cases u;exact hq
  ·obtain⟨rfl,w1050_1,e1051,rfl,hw1050_1,J⟩:=hq;cases u;have J:=J.aV 2 rfl;have J:=J.aV 2 rfl;have J:=J.aV 2 rfl;exact⟨rfl,_,fun _=>rfl,iF rfl ⟨w1050_1,hw1050_1,J⟩⟩
 ·intro _f0 _f1 ih_linear_spot_loud_i0_l0 ih_linear_spot_loud_r0 s1 k2 hi3 w4 r16 x1038 c1039 x1040 x1041 o u;intro e s sv ε17 κ19 or0_1 ℓ18 β7 β5 ow0_1 how0_1 J;refine bM<|aB<|aC<|wu rfl<|aA<|aB ?_;refine aF u rfl (fun hc u=> ?_)<|fun hc u=> ?_
  ·refine aJ<|aB<|aO<|aB<|aC<|wu rfl<|wu rfl<|aA<|aB<|aC<|wu rfl<|wu rfl<|wu rfl<|wu rfl ?_;obtain⟨r1042,h1042,u⟩:=bs u;refine wcD (cE h1042) rfl rfl (.cons rfl<|.cons rfl .nil) ?_;rcases Bool.eq_false_or_eq_true (c1039==(none:Option Nat)) with hc|hc
   ·replace u:=bE hc u;have J:=J.aBq (b1:= .loop ⟨eU none,bR none,bB ε17 [(4,(.aG (aD s1) 0)),(5,(.aG (.str k2) 0)),(6,(.aG (.bool hi3) 0)),(7,(.aG (.bool w4) 0)),(8,(.ptr β5 0)),(9,(.ptr β7 0)),(36,(.func 168 [] [(.aG (aD r16) 0)]))],κ19,[37,38],Code.mE,Code.mG⟩) 0 rfl (by rw [eq_of_beq hc]);obtain⟨r1043,h1043,u⟩:=bs u;have J:=J.aV 2 rfl;have J:=J.aV 2 rfl;have J:=J.aV 2 rfl;refine cN rfl (bs1:= [(ℓ18,.loop ⟨eU none,bR none,bB ε17 [(4,(.aG (aD s1) 0)),(5,(.aG (.str k2) 0)),(6,(.aG (.bool hi3) 0)),(7,(.aG (.bool w4) 0)),(8,(.ptr β5 0)),(9,(.ptr β7 0)),(36,(.func 168 [] [(.aG (aD r16) 0)]))],κ19,[37,38],Code.mE,Code.mG⟩),(β7,.cells [(.bool x1040)] true),(β5,.cells [ow0_1] true)]) (bs2:= []) (gs1:= []) (gs2:= []) rfl J (fun hK=>ih_linear_spot_loud_r0 _ _ _ _ _ _ _ _ _ _ h1043 _ ε17 κ19 ℓ18 β7 β5 ow0_1 how0_1 hK) rfl rfl (fun _=>rfl) rfl (by exact(.cons rfl<|.cons rfl .nil)) rfl<|fun σ1044 a1045 hF J=> ?_;have h1046:=hF;refine wu rfl<|aA ?_;refine aF u rfl (fun hc u=> ?_)<|fun hc u=> ?_
    ·refine aK ?_;cases u;have J:=J.aV 2 rfl;have J:=J.aV 2 rfl;have J:=J.aV 2 rfl;exact⟨rfl,⟨rfl,_,fun _=>rfl,iF rfl ⟨a1045,h1046,J⟩⟩⟩
    ·refine aJ<|aC<|wu rfl<|wu rfl<|aA ?_;have J:=J.aV 2 rfl;have J:=J.aV 2 rfl;have J:=J.aV 2 rfl;exact bV (fun e=>ih_linear_spot_loud_i0_l0 _ _ _ _ _ _ _ _ _ _ u e s _ ε17 κ19 or0_1 ℓ18 β7 β5 a1045 h1046 J) (.cons rfl<|.cons rfl<|.cons rfl<|.cons rfl .nil)<|fun _ _ _ h=>h
   ·replace u:=bC hc u;cases u
  ·refine bY ?_;cases u;have J:=J.aV 2 rfl;have J:=J.aV 2 rfl;have J:=J.aV 2 rfl;exact⟨rfl,ow0_1,_,frE .nil,how0_1,J⟩
 ·intro _f0 ih_linear_spot_loud s1 k2 hi3 w4 r16 x24 x25 x22 x23 r u;intro s ε17 κ19 ℓ18 β7 β5 or0_1 hor0_1 hK;refine aOs.reg rfl ?_;refine yX (lp:=⟨.ready,none,bB ε17 [(4,(.aG (aD s1) 0)),(5,(.aG (.str k2) 0)),(6,(.aG (.bool hi3) 0)),(7,(.aG (.bool w4) 0)),(8,(.ptr β5 0)),(9,(.ptr β7 0)),(36,(.func 168 [] [(.aG (aD r16) 0)]))],κ19,[37,38],Code.mE,Code.mG⟩) (hK.b _<|.head _) rfl rfl ?_;have J:=hK.st;refine aB<|aC<|wu rfl<|aA<|aC<|wu rfl<|wu rfl<|aA ?_;obtain⟨σ26,hr27,J⟩:=J.j6 0 rfl rfl;refine⟨rfl,rfl,σ26,hr27,?_⟩;refine aO<|aB<|aC<|wu rfl<|wu rfl<|wu rfl<|wu rfl ?_;obtain⟨c28,h28,u⟩:=bs u;refine aW 5 [(4,(.aG (aD s1) 0)),(7,(.aG (.bool w4) 0)),(8,(.ptr β5 0)),(9,(.ptr β7 0)),(40,(aD x25)),(41,(.str k2)),(48,(.bool c28))] σ26 ?_<|fun e=> ?_
  ·refine aX (t:=43) rfl (fun hc=> ?_)<|fun hc=> ?_
   ·replace h28:=bE hc h28;refine wu rfl<|wu rfl<|wu rfl<|wu rfl<|wu rfl<|aA ?_;cases h28;exact Kept.mk rfl<|.cons rfl<|.cons rfl<|.cons rfl<|.cons rfl<|.cons rfl<|.cons rfl<|.cons rfl .nil
   ·replace h28:=bC hc h28
    iterate 3 refine wu rfl ?_
    obtain⟨r29,h29,h28⟩:=bs h28;refine wcD (jW h29) rfl rfl (.cons rfl<|.cons rfl<|.cons rfl .nil)<|wu rfl<|aA ?_;cases h28;exact Kept.mk rfl<|.cons rfl<|.cons rfl<|.cons rfl<|.cons rfl<|.cons rfl<|.cons rfl<|.cons rfl .nil
  ·refine wu rfl<|wu rfl ?_;obtain⟨c30,h30,u⟩:=bs u;refine aW 5 [(8,(.ptr β5 0)),(9,(.ptr β7 0)),(40,(aD x25)),(41,(.str k2)),(48,(.bool c28)),(55,(.bool c30))] σ26 ?_<|fun e=> ?_
   ·refine aX (t:=50) rfl (fun hc=> ?_)<|fun hc=> ?_
    ·replace h30:=bE hc h30;refine wu rfl<|wu rfl<|wu rfl<|wu rfl<|wu rfl<|aA ?_;cases h30;exact Kept.mk rfl<|.cons rfl<|.cons rfl<|.cons rfl<|.cons rfl<|.cons rfl<|.cons rfl .nil
    ·replace h30:=bC hc h30;refine wu rfl<|wu rfl<|wu rfl<|wu rfl<|wu rfl<|aA ?_;cases h30;exact Kept.mk rfl<|.cons rfl<|.cons rfl<|.cons rfl<|.cons rfl<|.cons rfl<|.cons rfl .nil
   ·obtain⟨r31,h31,u⟩:=bs u;refine wcD (sC<|ih_linear_spot_loud _ _ _ _ _ h31) rfl rfl (.cons rfl<|.cons rfl<|.cons rfl<|.cons rfl .nil)<|wu rfl<|wu rfl<|wu rfl<|wu rfl<|wu rfl<|aA<|aB<|aC<|wu rfl<|aA ?_;refine aF u rfl (fun hc u=> ?_)<|fun hc u=> ?_
    ·refine aB<|aC<|wu rfl ?_;refine cJ (ds':= [(slA 1<|r31.1.map<|AV.i)]) (cs':= [(slA 1<|r31.1.map<|AV.i)]) 2 rfl J rfl rfl rfl rfl rfl (Nat.le_of_ble_eq_true rfl) (.cons (tkN rfl) .nil) (by kernel_rfl)<|fun σ32 J=> ?_;refine cJ (ds':= [(.bool true)]) (cs':= [(.bool true)]) 1 rfl J rfl rfl rfl rfl rfl (Nat.le_of_ble_eq_true rfl) (.cons (tkN rfl) .nil) (by kernel_rfl)<|fun σ33 J=> ?_;refine aA<|aK ?_;cases u;obtain⟨σ34,hs35,J⟩:=J.eR 0 rfl (fun lp=>{lp with st:= .done,pend:=some .ret});have J:=J.aV 2 rfl;have J:=J.aV 2 rfl;have J:=J.aV 2 rfl;exact⟨rfl,σ34,hs35,rfl,(slA 1<|r31.1.map<|AV.i),(.no _),J⟩
    ·refine aJ ?_;cases u;obtain⟨σ36,hs37,J⟩:=J.eR 0 rfl (fun lp=>{lp with st:= .ready,pend:=none});have J:=J.aV 2 rfl;have J:=J.aV 2 rfl;have J:=J.aV 2 rfl;exact⟨rfl,σ36,hs37,rfl,or0_1,hor0_1,J⟩
theorem aAc: ∀(s1:aE)(k2:Str)(hi3:Bool)(w4:Bool)(r:((List Int)×Bool)),dB s1 k2 hi3 w4=some r→oJ s1 k2 hi3 w4 r:=y1.1
theorem iL{s1:aE}{k2:Str}{hi3:Bool}{w4:Bool}{r:((List Int)×Bool)}(h:dB s1 k2 hi3 w4=some r):Pf PP 82 [(aD s1),(.str k2),(.bool hi3),(.bool w4)] (.tuple [(slA 1<|r.1.map<|AV.i),(.bool r.2)]):=sC (aAc s1 k2 hi3 w4 r h)
noncomputable def gW(s1:aE)(c2:Str)(c4:Int)(c5:Int)(r6:aE)(x13:Int)(x14:aE)(c12:(List<|List Int)):Option (Ctl ((Option Nat)×(List<|List Int)) Pan):=
 ((dB x14 c2 false false)>>=fun r17=>
 ((g6 r17.1 r17.2)>>=fun o18=>
 (match o18 with
 | .ret r18=>some (.ret ((none:Option Nat),c12))
 | .nx p23=>some (.nx p23))))
theorem mH: ∀(s1:aE)(c2:Str)(c4:Int)(c5:Int)(r6:aE)(x13:Int)(x14:aE)(c12:(List<|List Int))(r:(Ctl ((Option Nat)×(List<|List Int)) Pan)),gW s1 c2 c4 c5 r6 x13 x14 c12=some r→ ∀(s:ASt)(ε7:Env)(κ9:Nat)(ℓ8:Nat)(β1:Nat)(or0_1:AV),Kn s [(ℓ8,.loop ⟨eU none,bR none,bB ε7 [(2,(.aG (.ptr β1 0) 0)),(3,(.aG (aD s1) 0)),(7,(.func 168 [] [(.aG (aD r6) 0)]))],κ9,[8,9],Code.fV,Code.gC⟩),(β1,.cells [(.str c2),or0_1,(.i c4),(.i c5)] true)] [(or0_1,1,(c12.map<|a0 1<|AV.i))]→Fc PP (.yield ℓ8) [(.i x13),(aD x14)] s (aAb r (fun q=>nV s [ℓ8,β1] (dA [(or0_1,1,(c12.map<|a0 1<|AV.i))]) (.bool q.1.isNone) (fun a:AV=> [(ℓ8,.loop ⟨eU q.1,bR q.1,bB ε7 [(2,(.aG (.ptr β1 0) 0)),(3,(.aG (aD s1) 0)),(7,(.func 168 [] [(.aG (aD r6) 0)]))],κ9,[8,9],Code.fV,Code.gC⟩),(β1,.cells [(.str c2),a,(.i c4),(.i c5)] true)]) (fun a:AV=> [(a,1,(q.2.map<|a0 1<|AV.i))]) (fun a:AV=>True))<|fun p=>xW s [ℓ8,β1] (dA [(or0_1,1,(c12.map<|a0 1<|AV.i))]) (pG p)):=by
 intro s1 c2 c4 c5 r6 x13 x14 c12 r u;unfold gW at u;intro s ε7 κ9 ℓ8 β1 or0_1 hK;refine aGN r (b:=fun q:((Option Nat)×(List<|List Int))=>q.1.isNone) (bs:=fun(q:((Option Nat)×(List<|List Int)))=>(fun a:AV=> [(ℓ8,.loop ⟨eU q.1,bR q.1,bB ε7 [(2,(.aG (.ptr β1 0) 0)),(3,(.aG (aD s1) 0)),(7,(.func 168 [] [(.aG (aD r6) 0)]))],κ9,[8,9],Code.fV,Code.gC⟩),(β1,.cells [(.str c2),a,(.i c4),(.i c5)] true)])) (gs:=fun(q:((Option Nat)×(List<|List Int)))=>(fun a:AV=> [(a,1,(q.2.map<|a0 1<|AV.i))])) (fs:=fun(q:((Option Nat)×(List<|List Int)))=>(fun a:AV=>True)) rfl ?_;refine yX (lp:=⟨.ready,none,bB ε7 [(2,(.aG (.ptr β1 0) 0)),(3,(.aG (aD s1) 0)),(7,(.func 168 [] [(.aG (aD r6) 0)]))],κ9,[8,9],Code.fV,Code.gC⟩) (hK.b _<|.head _) rfl rfl ?_;have J:=hK.st;refine aC<|wu rfl<|wu rfl<|aA ?_;obtain⟨σ15,hr16,J⟩:=J.j6 0 rfl rfl;refine⟨rfl,rfl,σ15,hr16,?_⟩;refine aO<|aC<|wu rfl<|wu rfl<|wu rfl<|wu rfl<|lA 1 rfl J rfl rfl rfl ?_;obtain⟨r17,h17,u⟩:=bs u;refine wcD (iL h17) rfl rfl (.cons rfl<|.cons rfl<|.cons rfl<|.cons rfl .nil)<|wu rfl<|wu rfl ?_;obtain⟨o18,ho18,u⟩:=bs u;rcases o18 with r18|p23
 ·refine cN rfl (bs1:= []) (bs2:= [(ℓ8,.loop ⟨.busy,none,bB ε7 [(2,(.aG (.ptr β1 0) 0)),(3,(.aG (aD s1) 0)),(7,(.func 168 [] [(.aG (aD r6) 0)]))],κ9,[8,9],Code.fV,Code.gC⟩),(β1,.cells [(.str c2),or0_1,(.i c4),(.i c5)] true)]) (gs1:= []) (gs2:= [(or0_1,1,(c12.map<|a0 1<|AV.i))]) rfl J (fun hK=>dD _ _ _ ho18 _ hK) rfl rfl (fun _=>rfl) rfl (by exact(.cons rfl<|.cons rfl .nil)) rfl<|fun σ19 a20 hF J=> ?_;refine aA ?_;cases u;obtain⟨σ25,hs26,J⟩:=J.eR 0 rfl (fun lp=>{lp with st:= .ready,pend:=none});have J:=J.aV 1 rfl;have J:=J.aV 1 rfl;exact⟨rfl,σ25,hs26,rfl,or0_1,trivial,J⟩
 ·refine iR (bs1:= []) (bs2:= [(ℓ8,.loop ⟨.busy,none,bB ε7 [(2,(.aG (.ptr β1 0) 0)),(3,(.aG (aD s1) 0)),(7,(.func 168 [] [(.aG (aD r6) 0)]))],κ9,[8,9],Code.fV,Code.gC⟩),(β1,.cells [(.str c2),or0_1,(.i c4),(.i c5)] true)]) (gs1:= []) (gs2:= [(or0_1,1,(c12.map<|a0 1<|AV.i))]) rfl J (fun hK=>dD _ _ _ ho18 _ hK) rfl rfl rfl (by exact(.cons rfl<|.cons rfl .nil)) rfl<|fun σ24 J=> ?_;cases u;exact⟨rfl,rfl,J.ext⟩
noncomputable def cA(s1:aE)(c2:Str)(c4:Int)(c5:Int)(r6:aE)(c12:(List<|List Int))(x1027:Int)(c1028:(Option Nat))(c1029:(List<|List Int)):Option (Ctl ((Option Nat)×(List<|List Int))<|Ctl Pan<|(Option Nat)×(List<|List Int)):=
 (if(decide (x1027<(IntKind.wrap .i64 ((r6.expr.l.length:Int)+(r6.expr.aT.length:Int)))))=true then((bF r6 x1027)>>=fun r1030=>
 (if(c1028==(none:Option Nat))=true then((gW s1 c2 c4 c5 r6 x1027 r1030 c1029)>>=fun o1031=>
 (match o1031 with
 | .ret r1031=>(if(!r1031.1.isNone)=true then some (.ret (r1031.1,r1031.2))
 else cA (nf s1) (nf c2) (nf c4) (nf c5) (nf r6) (nf c12) (IntKind.wrap .i64 (x1027+(1))) r1031.1 r1031.2)
 | .nx p1034=>some (.nx (.ret p1034))))
 else none))
 else some (.nx (.nx (c1028,c1029))))
 partial_fixpoint
abbrev lE(s1:aE)(c2:Str)(c4:Int)(c5:Int)(r6:aE)(c12:(List<|List Int))(x1027:Int)(c1028:(Option Nat))(c1029:(List<|List Int))(o:(Ctl ((Option Nat)×(List<|List Int))<|Ctl Pan<|(Option Nat)×(List<|List Int))):Prop:= ∀(e:Env)(s sv:ASt)(ε7:Env)(κ9:Nat)(or0_1:AV)(ℓ8:Nat)(β1:Nat)(ow0_1:AV),St [ℓ8,β1] (dA [(or0_1,1,(c12.map<|a0 1<|AV.i))]) s sv [(ℓ8,.loop ⟨eU c1028,bR c1028,bB ε7 [(2,(.aG (.ptr β1 0) 0)),(3,(.aG (aD s1) 0)),(7,(.func 168 [] [(.aG (aD r6) 0)]))],κ9,[8,9],Code.fV,Code.gC⟩),(β1,.cells [(.str c2),ow0_1,(.i c4),(.i c5)] true)] [(ow0_1,1,(c1029.map<|a0 1<|AV.i))]→Wk PP none Code.aB8 ⟨bB e [(0,(.yield ℓ8)),(1,(.aG (aD r6) 0)),(12,(.i<|IntKind.wrap .i64<|(r6.expr.l.length:Int)+(r6.expr.aT.length:Int))),(13,(.i x1027))],[]⟩ sv (fun ex fr s'=>(match o with| .ret oq0=>ex= .ret∧nQ PP Code.aKz (VQ (.tuple [])<|RX s [ℓ8,β1] (dA [(or0_1,1,(c12.map<|a0 1<|AV.i))]) (fun a:AV=> [(ℓ8,.loop ⟨eU oq0.1,bR oq0.1,bB ε7 [(2,(.aG (.ptr β1 0) 0)),(3,(.aG (aD s1) 0)),(7,(.func 168 [] [(.aG (aD r6) 0)]))],κ9,[8,9],Code.fV,Code.gC⟩),(β1,.cells [(.str c2),a,(.i c4),(.i c5)] true)]) (fun a:AV=> [(a,1,(oq0.2.map<|a0 1<|AV.i))]) (fun a:AV=>True)) ex fr s'| .nx oq1=>(match oq1 with| .ret oq2=>aOE (pG oq2) (Ext [ℓ8,β1] (dA [(or0_1,1,(c12.map<|a0 1<|AV.i))]) s) ex fr s'| .nx oq3=>ex= .exit 0∧ ∃(pw1:AV)(e:Env),fr=⟨bB e [],[]⟩∧St [ℓ8,β1] (dA [(or0_1,1,(c12.map<|a0 1<|AV.i))]) s s' [(ℓ8,.loop ⟨eU oq3.1,bR oq3.1,bB ε7 [(2,(.aG (.ptr β1 0) 0)),(3,(.aG (aD s1) 0)),(7,(.func 168 [] [(.aG (aD r6) 0)]))],κ9,[8,9],Code.fV,Code.gC⟩),(β1,.cells [(.str c2),pw1,(.i c4),(.i c5)] true)] [(pw1,1,(oq3.2.map<|a0 1<|AV.i))])))
theorem qJ: ∀(s1:aE)(c2:Str)(c4:Int)(c5:Int)(r6:aE)(c12:(List<|List Int))(x1027:Int)(c1028:(Option Nat))(c1029:(List<|List Int))(o:(Ctl ((Option Nat)×(List<|List Int))<|Ctl Pan<|(Option Nat)×(List<|List Int))),cA s1 c2 c4 c5 r6 c12 x1027 c1028 c1029=some o→lE s1 c2 c4 c5 r6 c12 x1027 c1028 c1029 o:=by
 refine cA.partial_correctness (lE) ?_;intro _f ih_linear_clause_site_s0_i0_l0 s1 c2 c4 c5 r6 c12 x1027 c1028 c1029 o u;intro e s sv ε7 κ9 or0_1 ℓ8 β1 ow0_1 J;refine bM<|aB<|aC<|wu rfl<|aA<|aB ?_;refine aF u rfl (fun hc u=> ?_)<|fun hc u=> ?_
 ·refine aJ<|aB<|aO<|aB<|aC<|wu rfl<|wu rfl<|aA<|aB<|aC<|wu rfl<|wu rfl<|wu rfl<|wu rfl ?_;obtain⟨r1030,h1030,u⟩:=bs u;refine wcD (cE h1030) rfl rfl (.cons rfl<|.cons rfl .nil) ?_;rcases Bool.eq_false_or_eq_true (c1028==(none:Option Nat)) with hc|hc
  ·replace u:=bE hc u;have J:=J.aBq (b1:= .loop ⟨eU none,bR none,bB ε7 [(2,(.aG (.ptr β1 0) 0)),(3,(.aG (aD s1) 0)),(7,(.func 168 [] [(.aG (aD r6) 0)]))],κ9,[8,9],Code.fV,Code.gC⟩) 0 rfl (by rw [eq_of_beq hc]);obtain⟨o1031,h1031,u⟩:=bs u;have J:=J.aV 1 rfl;have J:=J.aV 1 rfl;rcases o1031 with r1031|p1034
   ·refine cN rfl (bs1:= [(ℓ8,.loop ⟨eU none,bR none,bB ε7 [(2,(.aG (.ptr β1 0) 0)),(3,(.aG (aD s1) 0)),(7,(.func 168 [] [(.aG (aD r6) 0)]))],κ9,[8,9],Code.fV,Code.gC⟩),(β1,.cells [(.str c2),ow0_1,(.i c4),(.i c5)] true)]) (bs2:= []) (gs1:= [(ow0_1,1,(c1029.map<|a0 1<|AV.i))]) (gs2:= []) rfl J (fun hK=>mH _ _ _ _ _ _ _ _ _ h1031 _ ε7 κ9 ℓ8 β1 ow0_1 hK) rfl rfl (fun _=>rfl) rfl (by exact(.cons rfl<|.cons rfl .nil)) rfl<|fun σ1032 a1033 hF J=> ?_;refine wu rfl<|aA ?_;refine aF u rfl (fun hc u=> ?_)<|fun hc u=> ?_
    ·refine aK ?_;cases u;have J:=J.aV 1 rfl;have J:=J.aV 1 rfl;exact⟨rfl,⟨rfl,_,fun _=>rfl,iF rfl ⟨a1033,trivial,J⟩⟩⟩
    ·refine aJ<|aC<|wu rfl<|wu rfl<|aA ?_;have J:=J.aV 1 rfl;have J:=J.aV 1 rfl;exact bV (fun e=>ih_linear_clause_site_s0_i0_l0 _ _ _ _ _ _ _ _ _ _ u e s _ ε7 κ9 or0_1 ℓ8 β1 a1033 J) (.cons rfl<|.cons rfl<|.cons rfl<|.cons rfl .nil)<|fun _ _ _ h=>h
   ·refine iR (bs1:= [(ℓ8,.loop ⟨eU none,bR none,bB ε7 [(2,(.aG (.ptr β1 0) 0)),(3,(.aG (aD s1) 0)),(7,(.func 168 [] [(.aG (aD r6) 0)]))],κ9,[8,9],Code.fV,Code.gC⟩),(β1,.cells [(.str c2),ow0_1,(.i c4),(.i c5)] true)]) (bs2:= []) (gs1:= [(ow0_1,1,(c1029.map<|a0 1<|AV.i))]) (gs2:= []) rfl J (fun hK=>mH _ _ _ _ _ _ _ _ _ h1031 _ ε7 κ9 ℓ8 β1 ow0_1 hK) rfl rfl rfl (by exact(.cons rfl<|.cons rfl .nil)) rfl<|fun σ1035 J=> ?_;cases u;exact⟨rfl,_,fun _=>rfl,J.ext⟩
  ·replace u:=bC hc u;cases u
 ·refine bY ?_;cases u;have J:=J.aV 1 rfl;have J:=J.aV 1 rfl;exact⟨rfl,ow0_1,_,frE .nil,J⟩
noncomputable def gV(s1:aE)(c2:Str)(c4:Int)(c5:Int)(r6:aE)(c12:(List<|List Int)):Option (Ctl ((Option Nat)×(List<|List Int)) Pan):=
 ((cA s1 c2 c4 c5 r6 c12 (0) none c12)>>=fun o1036=>
 (match o1036 with
 | .ret q1037=>some (.ret q1037)
 | .nx q1038=>(match q1038 with
 | .ret q1039=>some (.nx q1039)
 | .nx q1040=>some (.ret (q1040.1,q1040.2)))))
theorem mI: ∀(s1:aE)(c2:Str)(c4:Int)(c5:Int)(r6:aE)(c12:(List<|List Int))(r:(Ctl ((Option Nat)×(List<|List Int)) Pan)),gV s1 c2 c4 c5 r6 c12=some r→ ∀(s:ASt)(ε7:Env)(κ9:Nat)(ℓ8:Nat)(β1:Nat)(or0_1:AV),Kn s [(ℓ8,.loop ⟨eU none,bR none,bB ε7 [(2,(.aG (.ptr β1 0) 0)),(3,(.aG (aD s1) 0)),(7,(.func 168 [] [(.aG (aD r6) 0)]))],κ9,[8,9],Code.fV,Code.gC⟩),(β1,.cells [(.str c2),or0_1,(.i c4),(.i c5)] true)] [(or0_1,1,(c12.map<|a0 1<|AV.i))]→Fc PP (.func 168) [(.yield ℓ8),(.aG (aD r6) 0)] s (aAb r (fun q=>nV s [ℓ8,β1] (dA [(or0_1,1,(c12.map<|a0 1<|AV.i))]) (.tuple []) (fun a:AV=> [(ℓ8,.loop ⟨eU q.1,bR q.1,bB ε7 [(2,(.aG (.ptr β1 0) 0)),(3,(.aG (aD s1) 0)),(7,(.func 168 [] [(.aG (aD r6) 0)]))],κ9,[8,9],Code.fV,Code.gC⟩),(β1,.cells [(.str c2),a,(.i c4),(.i c5)] true)]) (fun a:AV=> [(a,1,(q.2.map<|a0 1<|AV.i))]) (fun a:AV=>True))<|fun p=>xW s [ℓ8,β1] (dA [(or0_1,1,(c12.map<|a0 1<|AV.i))]) (pG p)):=by
 intro s1 c2 c4 c5 r6 c12 r u;unfold gV at u;intro s ε7 κ9 ℓ8 β1 or0_1 hK;refine uY r (v:=fun q:((Option Nat)×(List<|List Int))=>(.tuple [])) (bs:=fun(q:((Option Nat)×(List<|List Int)))=>(fun a:AV=> [(ℓ8,.loop ⟨eU q.1,bR q.1,bB ε7 [(2,(.aG (.ptr β1 0) 0)),(3,(.aG (aD s1) 0)),(7,(.func 168 [] [(.aG (aD r6) 0)]))],κ9,[8,9],Code.fV,Code.gC⟩),(β1,.cells [(.str c2),a,(.i c4),(.i c5)] true)])) (gs:=fun(q:((Option Nat)×(List<|List Int)))=>(fun a:AV=> [(a,1,(q.2.map<|a0 1<|AV.i))])) (fs:=fun(q:((Option Nat)×(List<|List Int)))=>(fun a:AV=>True)) hK (fun _ _=>rfl) (fun _ a q hq=>by
  simp only [List.mem_cons,List.not_mem_nil,or_false] at hq;subst hq;exact⟨_,(.tail _ (.head _)),_,_,rfl,(.tail _ (.head _))⟩) rfl rfl rfl ?_
 have J:=hK.start;generalize aU s=σ1 at J⊢;refine aB<|aC<|wu rfl<|wu rfl<|wu rfl<|bI (f:=aP) (l:=r6.expr.l) rfl (.no _)<|wu rfl<|wu rfl<|wu rfl<|bI (f:=aZ) (l:=r6.expr.aT) rfl (.no _)<|wu rfl<|wu rfl<|aA<|aO ?_;obtain⟨o1036,h1036,u⟩:=bs u;have J:=J.aV 1 rfl;have J:=J.aV 1 rfl;refine bV (fun e=>qJ _ _ _ _ _ _ _ _ _ _ h1036 e s _ ε7 κ9 or0_1 ℓ8 β1 or0_1 J) (.cons rfl<|.cons rfl<|.cons rfl<|.cons rfl .nil) ?_
 rintro _ _ _ hq
 rcases o1036 with q1037|q1038
 ·obtain⟨rfl,hq⟩:=hq;cases u;exact hq
 ·rcases q1038 with q1039|q1040
  ·obtain⟨rfl,hq⟩:=hq;cases u;exact⟨rfl,hq⟩
  ·obtain⟨rfl,w1041_1,e1042,rfl,J⟩:=hq;cases u;have J:=J.aV 1 rfl;have J:=J.aV 1 rfl;exact⟨rfl,_,fun _=>rfl,iF rfl ⟨w1041_1,trivial,J⟩⟩
noncomputable def eY(s1:aE)(c2:Str)(c3:(List<|List Int))(c4:Int)(c5:Int):Option (Ctl ((List<|List Int)×Int×Int) Pan):=
 ((bP s1)>>=fun r6=>
 ((gV s1 c2 c4 c5 r6 c3)>>=fun o27=>
 (match o27 with
 | .ret r27=>(if(r27.1==(none:Option Nat))=true then((app 24 r27.2 [s1.path])>>=fun l30=>
 (if(s1.expr.kind==(18))=true then some (.ret (l30,(IntKind.wrap .i64 (c4+(1))),c5))
 else some (.ret (l30,c4,(IntKind.wrap .i64 (c5+(1)))))))
 else none)
 | .nx p40=>some (.nx p40))))
theorem gU: ∀(s1:aE)(c2:Str)(c3:(List<|List Int))(c4:Int)(c5:Int)(r:(Ctl ((List<|List Int)×Int×Int) Pan)),eY s1 c2 c3 c4 c5=some r→ ∀(s:ASt)(β1:Nat)(ρ1:AV),Kn s [(β1,.cells [(.str c2),ρ1,(.i c4),(.i c5)] true)] [(ρ1,1,(c3.map<|a0 1<|AV.i))]→Fc PP (.func 119) [(.ptr β1 0),(aD s1)] s (aAb r (fun q=>nV s [β1] (dA [(ρ1,1,(c3.map<|a0 1<|AV.i))]) (.tuple []) (fun a:AV=> [(β1,.cells [(.str c2),a,(.i q.2.1),(.i q.2.2)] true)]) (fun a:AV=> [(a,1,(q.1.map<|a0 1<|AV.i))]) (fun a:AV=>True))<|fun p=>xW s [β1] (dA [(ρ1,1,(c3.map<|a0 1<|AV.i))]) (pG p)):=by
 intro s1 c2 c3 c4 c5 r u;unfold eY at u;intro s β1 ρ1 hK;refine uY r (v:=fun q:((List<|List Int)×Int×Int)=>(.tuple [])) (bs:=fun(q:((List<|List Int)×Int×Int))=>(fun a:AV=> [(β1,.cells [(.str c2),a,(.i q.2.1),(.i q.2.2)] true)])) (gs:=fun(q:((List<|List Int)×Int×Int))=>(fun a:AV=> [(a,1,(q.1.map<|a0 1<|AV.i))])) (fs:=fun(q:((List<|List Int)×Int×Int))=>(fun a:AV=>True)) hK (fun _ _=>rfl) (fun _ a q hq=>by
  simp only [List.mem_cons,List.not_mem_nil,or_false] at hq;subst hq;exact⟨_,(.head _),_,_,rfl,(.tail _ (.head _))⟩) rfl rfl rfl ?_
 have J:=hK.start;generalize aU s=σ1 at J⊢;refine aB<|aC<|wu rfl<|wu rfl<|aA<|aB<|aB<|aC<|wu rfl ?_;obtain⟨r6,hr6,u⟩:=bs u;refine wcD (gY hr6) rfl rfl (.cons rfl .nil)<|aA<|aO ?_;refine aFd (S:= [(2,(.aG (.ptr β1 0) 0)),(3,(.aG (aD s1) 0)),(7,(.func 168 [] [(.aG (aD r6) 0)]))]) (.cons rfl<|.cons rfl<|.cons rfl .nil)<|fun ε7=> ?_;obtain⟨κ9,ℓ8,σ10,hl11,J⟩:=yY (params:= [8,9]) (assign:=Code.fV) (body:=Code.gC) (fr:=⟨bB ε7 [(2,(.aG (.ptr β1 0) 0)),(3,(.aG (aD s1) 0)),(7,(.func 168 [] [(.aG (aD r6) 0)]))],[]⟩) J;refine yP hl11 rfl rfl ?_;obtain⟨o27,h27,u⟩:=bs u;have J:=J.aV 2 rfl;have J:=J.aV 1 rfl;rcases o27 with r27|p40
 ·rcases Bool.eq_false_or_eq_true (r27.1==(none:Option Nat)) with hc|hc
  ·replace u:=bE hc u;refine qQ (bs1:= [(ℓ8,.loop ⟨eU none,bR none,bB ε7 [(2,(.aG (.ptr β1 0) 0)),(3,(.aG (aD s1) 0)),(7,(.func 168 [] [(.aG (aD r6) 0)]))],κ9,[8,9],Code.fV,Code.gC⟩),(β1,.cells [(.str c2),ρ1,(.i c4),(.i c5)] true)]) (bs2:= [(κ9,.tW)]) (gs1:= [(ρ1,1,(c3.map<|a0 1<|AV.i))]) (gs2:= []) (pd:=r27.1) (ex:= .normal) J (fun hK=>mI _ _ _ _ _ _ _ h27 _ ε7 κ9 ℓ8 β1 ρ1 hK) rfl rfl (fun _=>rfl) (by rw [eq_of_beq hc];rfl)<|fun σ28 a29 hF J=> ?_;refine aB<|aC<|wu rfl<|wu rfl<|wu rfl<|wu rfl<|lA 0 rfl J rfl rfl rfl<|wu rfl<|wu rfl ?_;refine mJ (f:=(a0 1<|AV.i)) (l:= [s1.path]) rfl (.cons rfl .nil) rfl (fun _=>rfl) rfl rfl (by decide) ?_;obtain⟨l30,h30,u⟩:=bs u;have h32:=(J.slG 0 rfl)
   refine wF (f:=(a0 1<|AV.i)) (xs:=r27.2) (ys:= [s1.path]) rfl J rfl (.full<|.inl rfl) h30 (by decide)<|fun w30 σ31 J=> ?_;refine wu rfl<|wu rfl ?_;refine cJ (ds':= [w30]) (cs':= [(.str c2),w30,(.i c4),(.i c5)]) 0 rfl J rfl rfl ((J.slG 0 rfl)).cells ((J.slG 0 rfl)).box rfl (Nat.le_of_ble_eq_true rfl) (.cons (J.tkG 0 rfl) .nil) (by kernel_rfl)<|fun σ33 J=> ?_;refine aA<|aB<|aC<|wu rfl<|wu rfl<|wu rfl<|wu rfl<|aA ?_;refine aF u rfl (fun hc u=> ?_)<|fun hc u=> ?_
   ·refine aC<|wu rfl<|wu rfl<|wu rfl<|wu rfl<|lA 0 rfl J rfl rfl rfl<|wu rfl<|wu rfl<|wu rfl<|wu rfl ?_;refine cJ (ds':= [(.i<|IntKind.wrap .i64<|c4+(1))]) (cs':= [(.str c2),w30,(.i<|IntKind.wrap .i64<|c4+(1)),(.i c5)]) 0 rfl J rfl rfl rfl rfl rfl (Nat.le_of_ble_eq_true rfl) (.cons (tkN rfl) .nil) (by kernel_rfl)<|fun σ34 J=> ?_;refine aA ?_;cases u;obtain⟨σ35,J,h36⟩:=J.mark 1 rfl;exact⟨rfl,σ35,(h36<|fun _=>rfl),iF rfl ⟨w30,trivial,(J.vC 1)⟩⟩
   ·refine aC<|wu rfl<|wu rfl<|wu rfl<|wu rfl<|lA 0 rfl J rfl rfl rfl<|wu rfl<|wu rfl<|wu rfl<|wu rfl ?_;refine cJ (ds':= [(.i<|IntKind.wrap .i64<|c5+(1))]) (cs':= [(.str c2),w30,(.i c4),(.i<|IntKind.wrap .i64<|c5+(1))]) 0 rfl J rfl rfl rfl rfl rfl (Nat.le_of_ble_eq_true rfl) (.cons (tkN rfl) .nil) (by kernel_rfl)<|fun σ37 J=> ?_;refine aA ?_;cases u;obtain⟨σ38,J,h39⟩:=J.mark 1 rfl;exact⟨rfl,σ38,(h39<|fun _=>rfl),iF rfl ⟨w30,trivial,(J.vC 1)⟩⟩
  ·replace u:=bC hc u;cases u
 ·refine aCz (bs1:= [(ℓ8,.loop ⟨eU none,bR none,bB ε7 [(2,(.aG (.ptr β1 0) 0)),(3,(.aG (aD s1) 0)),(7,(.func 168 [] [(.aG (aD r6) 0)]))],κ9,[8,9],Code.fV,Code.gC⟩),(β1,.cells [(.str c2),ρ1,(.i c4),(.i c5)] true)]) (bs2:= [(κ9,.tW)]) (gs1:= [(ρ1,1,(c3.map<|a0 1<|AV.i))]) (gs2:= []) J (fun hK=>mI _ _ _ _ _ _ _ h27 _ ε7 κ9 ℓ8 β1 ρ1 hK) rfl rfl<|fun σ41 J=> ?_;cases u;obtain⟨σ42,J,h43⟩:=J.mark 0 rfl;exact⟨rfl,σ42,(h43<|fun _=>rfl),J.ext⟩
noncomputable def eK(s1:aE)(c2:Str)(c3:(List<|List Int))(c4:Int)(c5:Int):Option Bool:=
 ((if(s1.expr.kind==(18))=true then some true
 else some (s1.expr.kind==(19)):Option Bool)>>=fun c6=>
 ((if c6=true then some (s1.expr.s==c2)
 else some false:Option Bool)>>=fun c7=>
 some c7))
theorem m4: ∀(s1:aE)(c2:Str)(c3:(List<|List Int))(c4:Int)(c5:Int)(r:Bool),eK s1 c2 c3 c4 c5=some r→ ∀(s:ASt)(β1:Nat)(ρ1:AV),Kn s [(β1,.cells [(.str c2),ρ1,(.i c4),(.i c5)] true)] [(ρ1,1,(c3.map<|a0 1<|AV.i))]→Fc PP (.func 118) [(.ptr β1 0),(aD s1)] s (nV s [β1] (dA [(ρ1,1,(c3.map<|a0 1<|AV.i))]) (.bool r) (fun a:AV=> [(β1,.cells [(.str c2),a,(.i c4),(.i c5)] true)]) (fun a:AV=> [(a,1,(c3.map<|a0 1<|AV.i))]) (fun a:AV=>True)):=by
 intro s1 c2 c3 c4 c5 r u;unfold eK at u;intro s β1 ρ1 hK;refine rV hK (fun _=>rfl) (fun a q hq=>by
  simp only [List.mem_cons,List.not_mem_nil,or_false] at hq;subst hq;exact⟨_,(.head _),_,_,rfl,(.tail _ (.head _))⟩) rfl rfl rfl ?_
 have J:=hK.start;generalize aU s=σ1 at J⊢;refine aB<|aC<|wu rfl<|wu rfl<|aA<|aB<|aC<|wu rfl<|wu rfl<|wu rfl<|wu rfl<|wu rfl ?_;obtain⟨c6,hc6,u⟩:=bs u;refine aW 5 [(0,(.ptr β1 0)),(3,(.aG (aD s1) 0)),(14,(.bool c6))] σ1 ?_<|fun e=> ?_
 ·refine aX (t:=9) rfl (fun hc=> ?_)<|fun hc=> ?_
  ·replace hc6:=bE hc hc6;refine wu rfl<|wu rfl<|wu rfl<|wu rfl<|wu rfl<|aA ?_;cases hc6;exact Kept.mk rfl<|.cons rfl<|.cons rfl<|.cons rfl .nil
  ·replace hc6:=bC hc hc6;refine wu rfl<|wu rfl<|wu rfl<|wu rfl<|wu rfl<|aA ?_;cases hc6;exact Kept.mk rfl<|.cons rfl<|.cons rfl<|.cons rfl .nil
 ·refine wu rfl ?_;obtain⟨c7,hc7,u⟩:=bs u;refine aW 9 [(24,(.bool c7))] σ1 ?_<|fun e=> ?_
  ·refine aX (t:=15) rfl (fun hc=> ?_)<|fun hc=> ?_
   ·replace hc7:=bE hc hc7;refine wu rfl<|wu rfl<|wu rfl<|wu rfl<|wu rfl<|wu rfl<|lA 0 rfl J rfl rfl rfl<|wu rfl<|wu rfl<|aA ?_;cases hc7;exact Kept.mk rfl<|.cons rfl .nil
   ·replace hc7:=bC hc hc7;refine wu rfl<|wu rfl<|wu rfl<|wu rfl<|wu rfl<|wu rfl<|wu rfl<|wu rfl<|wu rfl<|aA ?_;cases hc7;exact Kept.mk rfl<|.cons rfl .nil
  ·refine wu rfl<|aA<|aK ?_;cases u;exact⟨rfl,_,fun _=>rfl,aY rfl rfl rfl rfl ⟨ρ1,trivial,J⟩⟩
noncomputable def iQ(x1:aE)(x2:Str)(x3:(List<|List Int))(x4:Int)(x5:Int):Option ((List Int)×Bool):=
 ((dB x1 x2 false false)>>=fun r6=>
 some (r6.1,r6.2))
theorem uA: ∀(x1:aE)(x2:Str)(x3:(List<|List Int))(x4:Int)(x5:Int)(r:((List Int)×Bool)),iQ x1 x2 x3 x4 x5=some r→ ∀(s:ASt)(β1:Nat)(ρ1:AV),Kn s [(β1,.cells [(.str x2),ρ1,(.i x4),(.i x5)] true)] [(ρ1,1,(x3.map<|a0 1<|AV.i))]→Fc PP (.func 172) [(.aG (aD x1) 0),(.aG (.ptr β1 0) 0)] s (nV s [β1] (dA [(ρ1,1,(x3.map<|a0 1<|AV.i))]) (.tuple [(slA 1<|r.1.map<|AV.i),(.bool r.2)]) (fun a:AV=> [(β1,.cells [(.str x2),a,(.i x4),(.i x5)] true)]) (fun a:AV=> [(a,1,(x3.map<|a0 1<|AV.i))]) (fun a:AV=>True)):=by
 intro x1 x2 x3 x4 x5 r u;unfold iQ at u;intro s β1 ρ1 hK;refine rV hK (fun _=>rfl) (fun a q hq=>by
  simp only [List.mem_cons,List.not_mem_nil,or_false] at hq;subst hq;exact⟨_,(.head _),_,_,rfl,(.tail _ (.head _))⟩) rfl rfl rfl ?_
 have J:=hK.start;generalize aU s=σ1 at J⊢;refine aB<|aC<|wu rfl<|wu rfl<|aA<|aB<|aC<|wu rfl<|wu rfl<|wu rfl<|wu rfl<|lA 0 rfl J rfl rfl rfl ?_;obtain⟨r6,hr6,u⟩:=bs u;refine wcD (iL hr6) rfl rfl (.cons rfl<|.cons rfl<|.cons rfl<|.cons rfl .nil)<|wu rfl<|wu rfl<|wu rfl<|wu rfl<|aA<|aK ?_;cases u;exact⟨rfl,_,fun _=>rfl,dN rfl (.cons rfl<|.cons rfl .nil) ⟨ρ1,trivial,J⟩⟩
noncomputable def iN(x1:aE)(x2:Str)(x3:(List<|List Int))(x4:Int)(x5:Int):Option ((List Int)×Bool):=
 ((idx x1.expr.names (0))>>=fun y6=>
 some (x1.path,(y6==x2)))
theorem uB: ∀(x1:aE)(x2:Str)(x3:(List<|List Int))(x4:Int)(x5:Int)(r:((List Int)×Bool)),iN x1 x2 x3 x4 x5=some r→ ∀(s:ASt)(β1:Nat)(ρ1:AV),Kn s [(β1,.cells [(.str x2),ρ1,(.i x4),(.i x5)] true)] [(ρ1,1,(x3.map<|a0 1<|AV.i))]→Fc PP (.func 173) [(.aG (aD x1) 0),(.aG (.ptr β1 0) 0)] s (nV s [β1] (dA [(ρ1,1,(x3.map<|a0 1<|AV.i))]) (.tuple [(slA 1<|r.1.map<|AV.i),(.bool r.2)]) (fun a:AV=> [(β1,.cells [(.str x2),a,(.i x4),(.i x5)] true)]) (fun a:AV=> [(a,1,(x3.map<|a0 1<|AV.i))]) (fun a:AV=>True)):=by
 intro x1 x2 x3 x4 x5 r u;unfold iN at u;intro s β1 ρ1 hK;refine rV hK (fun _=>rfl) (fun a q hq=>by
  simp only [List.mem_cons,List.not_mem_nil,or_false] at hq;subst hq;exact⟨_,(.head _),_,_,rfl,(.tail _ (.head _))⟩) rfl rfl rfl ?_
 have J:=hK.start;generalize aU s=σ1 at J⊢;refine aB<|aC<|wu rfl<|wu rfl<|aA<|aB<|aC<|wu rfl<|wu rfl<|wu rfl<|wu rfl<|wu rfl ?_;obtain⟨y6,hy6,u⟩:=bs u;refine bT (f:=AV.str) rfl (.no _) rfl hy6 rfl<|wu rfl<|wu rfl<|wu rfl<|wu rfl<|lA 0 rfl J rfl rfl rfl<|wu rfl<|wu rfl<|wu rfl<|aA<|aK ?_;cases u;exact⟨rfl,_,fun _=>rfl,dN rfl (.cons rfl<|.cons rfl .nil) ⟨ρ1,trivial,J⟩⟩
noncomputable def oF(l1:aE)(l2:aE)(l3:Str)(l4:(List<|List Int))(l5:Int)(l6:Int):Option ((List Int)×Bool):=
 ((iQ l1 l3 l4 l5 l6)>>=fun r7=>
 (if r7.2=true then some (r7.1,true)
 else((iN l2 l3 l4 l5 l6)>>=fun r12=>
 (if r12.2=true then some (r12.1,true)
 else some (([]:(List Int)),false)))))
theorem aA4: ∀(l1:aE)(l2:aE)(l3:Str)(l4:(List<|List Int))(l5:Int)(l6:Int)(r:((List Int)×Bool)),oF l1 l2 l3 l4 l5 l6=some r→ ∀(s:ASt)(β1:Nat)(ρ1:AV),Kn s [(β1,.cells [(.str l3),ρ1,(.i l5),(.i l6)] true)] [(ρ1,1,(l4.map<|a0 1<|AV.i))]→Fc PP (.func 171) [(slA 1 [(.func 172 [] [(.aG (aD l1) 0),(.aG (.ptr β1 0) 0)]),(.func 173 [] [(.aG (aD l2) 0),(.aG (.ptr β1 0) 0)])])] s (nV s [β1] (dA [(ρ1,1,(l4.map<|a0 1<|AV.i))]) (.tuple [(slA 1<|r.1.map<|AV.i),(.bool r.2)]) (fun a:AV=> [(β1,.cells [(.str l3),a,(.i l5),(.i l6)] true)]) (fun a:AV=> [(a,1,(l4.map<|a0 1<|AV.i))]) (fun a:AV=>True)):=by
 intro l1 l2 l3 l4 l5 l6 r u;unfold oF at u;intro s β1 ρ1 hK;refine rV hK (fun _=>rfl) (fun a q hq=>by
  simp only [List.mem_cons,List.not_mem_nil,or_false] at hq;subst hq;exact⟨_,(.head _),_,_,rfl,(.tail _ (.head _))⟩) rfl rfl rfl ?_
 have J:=hK.start;generalize aU s=σ1 at J⊢;refine aB<|aC<|wu rfl<|wu rfl<|aA<|aB<|aB<|aC<|wu rfl ?_;refine wgv (v:=(.i<|2)) rfl rfl (by kernel_rfl) ?_;refine wu rfl<|aA<|aO<|bM<|aB<|aC ?_;refine wgv (v:=(.bool true)) rfl rfl (by kernel_rfl) ?_;refine aA<|aB<|aFN rfl<|aJ<|aB<|aO<|aB<|aC ?_;refine wgv (v:=(.aG (.func 172 [] [(.aG (aD l1) 0),(.aG (.ptr β1 0) 0)]) 0)) rfl rfl (by kernel_rfl) ?_;refine wu rfl<|wu rfl<|aA<|aB<|aC<|wu rfl ?_;obtain⟨r7,hr7,u⟩:=bs u;refine cN rfl (bs1:= [(β1,.cells [(.str l3),ρ1,(.i l5),(.i l6)] true)]) (bs2:= []) (gs1:= [(ρ1,1,(l4.map<|a0 1<|AV.i))]) (gs2:= []) rfl J (fun hK=>uA _ _ _ _ _ _ hr7 _ β1 ρ1 hK) rfl rfl (fun _=>rfl) rfl (by exact .nil) rfl<|fun σ8 a9 hF J=> ?_;refine wu rfl<|wu rfl<|wu rfl<|wu rfl<|wu rfl<|aA<|aB<|aC<|wu rfl<|aA ?_;refine aF u rfl (fun hc u=> ?_)<|fun hc u=> ?_
 ·refine aB<|aC<|wu rfl<|wu rfl<|wu rfl<|aA<|aK ?_;cases u;exact⟨rfl,_,fun _=>rfl,dN rfl (.cons rfl<|.cons rfl .nil) ⟨a9,trivial,J⟩⟩
 ·refine aJ<|aC ?_;refine wgv (v:=(.i<|1)) rfl rfl (by kernel_rfl) ?_;refine wu rfl<|aA<|bM<|aB<|aC ?_;refine wgv (v:=(.bool true)) rfl rfl (by kernel_rfl) ?_;refine aA<|aB<|aFN rfl<|aJ<|aB<|aO<|aB<|aC ?_;refine wgv (v:=(.aG (.func 173 [] [(.aG (aD l2) 0),(.aG (.ptr β1 0) 0)]) 0)) rfl rfl (by kernel_rfl) ?_;refine wu rfl<|wu rfl<|aA<|aB<|aC<|wu rfl ?_;obtain⟨r12,h12,u⟩:=bs u;refine cN rfl (bs1:= [(β1,.cells [(.str l3),a9,(.i l5),(.i l6)] true)]) (bs2:= []) (gs1:= [(a9,1,(l4.map<|a0 1<|AV.i))]) (gs2:= []) rfl J (fun hK=>uB _ _ _ _ _ _ h12 _ β1 a9 hK) rfl rfl (fun _=>rfl) rfl (by exact .nil) rfl<|fun σ13 a14 hF J=> ?_;refine wu rfl<|wu rfl<|wu rfl<|wu rfl<|wu rfl<|aA<|aB<|aC<|wu rfl<|aA ?_;refine aF u rfl (fun hc u=> ?_)<|fun hc u=> ?_
  ·refine aB<|aC<|wu rfl<|wu rfl<|wu rfl<|aA<|aK ?_;cases u;exact⟨rfl,_,fun _=>rfl,dN rfl (.cons rfl<|.cons rfl .nil) ⟨a14,trivial,J⟩⟩
  ·refine aJ<|aC ?_;refine wgv (v:=(.i<|2)) rfl rfl (by kernel_rfl) ?_;refine wu rfl<|aA<|bM<|aB<|aC ?_;refine wgv (v:=(.bool false)) rfl rfl (by kernel_rfl) ?_;refine aA<|aB<|aCt rfl<|bY<|aB<|aC<|wu rfl<|aA<|aB<|aC<|wu rfl<|wu rfl<|wu rfl<|aA ?_;refine aK ?_;cases u;exact⟨rfl,_,fun _=>rfl,dN rfl (.cons rfl<|.cons rfl .nil) ⟨a14,trivial,J⟩⟩
mutual
noncomputable def dR (s1:aE) (c2:Str) (c3:(List<|List Int)) (c4:Int) (c5:Int):Option (Ctl ((List<|List Int)×Int×Int) Pan):=
 ((bF s1 (0))>>=fun r6=>
 ((cK (nf r6) (nf c2) (nf c3) (nf c4) (nf c5))>>=fun or7=>
 (match or7 with
 | .ret r7=>((bP s1)>>=fun r14=>
 ((fT s1 c2 r7 r14 r7.1)>>=fun o39=>
 (match o39 with
 | .ret r39=>(if(r39.1==(none:Option Nat))=true then some (.ret (r39.2,r7.2.1,r7.2.2))
 else none)
 | .nx p44=>some (.nx p44))))
 | .nx p12=>some (.nx p12))))
 partial_fixpoint
noncomputable def cK (s1:aE) (c2:Str) (c3:(List<|List Int)) (c4:Int) (c5:Int):Option (Ctl ((List<|List Int)×Int×Int) Pan):=
 ((eK s1 c2 c3 c4 c5)>>=fun r6=>
 (if r6=true then((eY s1 c2 c3 c4 c5)>>=fun o11=>
 (match o11 with
 | .ret r11=>some (.ret (r11.1,r11.2.1,r11.2.2))
 | .nx p16=>some (.nx p16)))
 else(if(s1.expr.kind==(6))=true then((jV (nf s1) (nf c2) (nf c3) (nf c4) (nf c5))>>=fun o26=>
 (match o26 with
 | .ret r26=>some (.ret (r26.1,r26.2.1,r26.2.2))
 | .nx p31=>some (.nx p31)))
 else(if(s1.expr.kind==(8))=true then((hY (nf s1) (nf c2) (nf c3) (nf c4) (nf c5))>>=fun o34=>
 (match o34 with
 | .ret r34=>some (.ret (r34.1,r34.2.1,r34.2.2))
 | .nx p39=>some (.nx p39)))
 else(if(s1.expr.kind==(11))=true then((iP (nf s1) (nf c2) (nf c3) (nf c4) (nf c5))>>=fun o42=>
 (match o42 with
 | .ret r42=>some (.ret (r42.1,r42.2.1,r42.2.2))
 | .nx p47=>some (.nx p47)))
 else(if(s1.expr.kind==(14))=true then((dR (nf s1) (nf c2) (nf c3) (nf c4) (nf c5))>>=fun o50=>
 (match o50 with
 | .ret r50=>some (.ret (r50.1,r50.2.1,r50.2.2))
 | .nx p55=>some (.nx p55)))
 else(if(s1.expr.kind==(15))=true then((dR (nf s1) (nf c2) (nf c3) (nf c4) (nf c5))>>=fun o58=>
 (match o58 with
 | .ret r58=>some (.ret (r58.1,r58.2.1,r58.2.2))
 | .nx p63=>some (.nx p63)))
 else(if(s1.expr.kind==(16))=true then((dR (nf s1) (nf c2) (nf c3) (nf c4) (nf c5))>>=fun o66=>
 (match o66 with
 | .ret r66=>some (.ret (r66.1,r66.2.1,r66.2.2))
 | .nx p71=>some (.nx p71)))
 else some (.nx (.aAi (lB.mk s1.path)))))))))))
 partial_fixpoint
noncomputable def iP (s1:aE) (c2:Str) (c3:(List<|List Int)) (c4:Int) (c5:Int):Option (Ctl ((List<|List Int)×Int×Int) Pan):=
 ((bF s1 (0))>>=fun r6=>
 ((dB r6 c2 false false)>>=fun r7=>
 ((g6 r7.1 r7.2)>>=fun or8=>
 (match or8 with
 | .ret r8=>((bP s1)>>=fun r15=>
 ((jK (nf s1) (nf c2) (nf r15) (nf c3) (nf c4) (nf c5))>>=fun o47=>
 (match o47 with
 | .ret r47=>(if(r47.1==(none:Option Nat))=true then some (.ret (r47.2.1,r47.2.2.1,r47.2.2.2))
 else none)
 | .nx p52=>some (.nx p52))))
 | .nx p13=>some (.nx p13)))))
 partial_fixpoint
noncomputable def jK (s1:aE) (c2:Str) (r15:aE) (c21:(List<|List Int)) (c22:Int) (c23:Int):Option (Ctl ((Option Nat)×(List<|List Int)×Int×Int) Pan):=
 ((cL s1 c2 r15 c21 (0) none c21 c22 c23)>>=fun o1058=>
 (match o1058 with
 | .ret q1059=>some (.ret q1059)
 | .nx q1060=>(match q1060 with
 | .ret q1061=>some (.nx q1061)
 | .nx q1062=>some (.ret (q1062.1,q1062.2.1,q1062.2.2.1,q1062.2.2.2)))))
 partial_fixpoint
noncomputable def cL (s1:aE) (c2:Str) (r15:aE) (c21:(List<|List Int)) (x1047:Int) (c1048:(Option Nat)) (c1049:(List<|List Int)) (c1050:Int) (c1051:Int):Option (Ctl ((Option Nat)×(List<|List Int)×Int×Int)<|Ctl Pan<|(Option Nat)×(List<|List Int)×Int×Int):=
 (if(decide (x1047<(IntKind.wrap .i64 ((r15.expr.l.length:Int)+(r15.expr.aT.length:Int)))))=true then((bF r15 x1047)>>=fun r1052=>
 (if(c1048==(none:Option Nat))=true then((gM (nf s1) (nf c2) (nf r15) (nf x1047) (nf r1052) (nf c1049) (nf c1050) (nf c1051))>>=fun o1053=>
 (match o1053 with
 | .ret r1053=>(if(!r1053.1.isNone)=true then some (.ret (r1053.1,r1053.2.1,r1053.2.2.1,r1053.2.2.2))
 else cL (nf s1) (nf c2) (nf r15) (nf c21) (IntKind.wrap .i64 (x1047+(1))) r1053.1 r1053.2.1 r1053.2.2.1 r1053.2.2.2)
 | .nx p1056=>some (.nx (.ret p1056))))
 else none))
 else some (.nx (.nx (c1048,c1049,c1050,c1051))))
 partial_fixpoint
noncomputable def gM (s1:aE) (c2:Str) (r15:aE) (x24:Int) (x25:aE) (c21:(List<|List Int)) (c22:Int) (c23:Int):Option (Ctl ((Option Nat)×(List<|List Int)×Int×Int) Pan):=
 (if(x24==(0))=true then some (.ret ((none:Option Nat),c21,c22,c23))
 else((eI s1 x24 c2)>>=fun r30=>
 ((g6 x25.path r30)>>=fun o31=>
 (match o31 with
 | .ret r31=>((cK (nf x25) (nf c2) (nf c21) (nf c22) (nf c23))>>=fun o38=>
 (match o38 with
 | .ret r38=>some (.ret ((none:Option Nat),r38.1,r38.2.1,r38.2.2))
 | .nx p43=>some (.nx p43)))
 | .nx p36=>some (.nx p36)))))
 partial_fixpoint
noncomputable def hY (s1:aE) (c2:Str) (c3:(List<|List Int)) (c4:Int) (c5:Int):Option (Ctl ((List<|List Int)×Int×Int) Pan):=
 ((bF s1 (0))>>=fun r6=>
 ((dB r6 c2 false false)>>=fun r7=>
 ((g6 r7.1 r7.2)>>=fun or8=>
 (match or8 with
 | .ret r8=>((bF s1 (1))>>=fun r15=>
 ((cK (nf r15) (nf c2) (nf c3) (nf c4) (nf c5))>>=fun o16=>
 (match o16 with
 | .ret r16=>((bF s1 (2))>>=fun r23=>
 ((cK (nf r23) (nf c2) r16.1 r16.2.1 r16.2.2)>>=fun o24=>
 (match o24 with
 | .ret r24=>some (.ret (r24.1,r24.2.1,r24.2.2))
 | .nx p29=>some (.nx p29))))
 | .nx p21=>some (.nx p21))))
 | .nx p13=>some (.nx p13)))))
 partial_fixpoint
noncomputable def jV (s1:aE) (c2:Str) (c3:(List<|List Int)) (c4:Int) (c5:Int):Option (Ctl ((List<|List Int)×Int×Int) Pan):=
 ((bF s1 (0))>>=fun r6=>
 ((bF s1 (1))>>=fun r7=>
 ((eK r6 c2 c3 c4 c5)>>=fun r8=>
 (if r8=true then((eY r6 c2 c3 c4 c5)>>=fun o13=>
 (match o13 with
 | .ret r13=>((idx s1.expr.names (0))>>=fun y20=>
 (((if(!(y20==c2))=true then((dV r7 c2)>>=fun r22=>
 ((g6 r22.1 r22.2)>>=fun o23=>
 (match o23 with
 | .ret r23=>some (.nx ())
 | .nx p28=>some (.ret p28))))
 else some (.nx ())):Option (Ctl Pan Unit))>>=fun o21=>
 (match o21 with
 | .ret q30=>some (.nx q30)
 | .nx q31=>some (.ret (r13.1,r13.2.1,r13.2.2)))))
 | .nx p18=>some (.nx p18)))
 else((oF r6 s1 c2 c3 c4 c5)>>=fun r35=>
 ((g6 r35.1 r35.2)>>=fun o40=>
 (match o40 with
 | .ret r40=>((cK (nf r7) (nf c2) (nf c3) (nf c4) (nf c5))>>=fun o47=>
 (match o47 with
 | .ret r47=>some (.ret (r47.1,r47.2.1,r47.2.2))
 | .nx p52=>some (.nx p52)))
 | .nx p45=>some (.nx p45))))))))
 partial_fixpoint
end
abbrev nO(s1:aE)(c2:Str)(c3:(List<|List Int))(c4:Int)(c5:Int)(r:(Ctl ((List<|List Int)×Int×Int) Pan)):Prop:= ∀(s:ASt)(β1:Nat)(ρ1:AV),Kn s [(β1,.cells [(.str c2),ρ1,(.i c4),(.i c5)] true)] [(ρ1,1,(c3.map<|a0 1<|AV.i))]→Fc PP (.func 123) [(.ptr β1 0),(aD s1)] s (aAb r (fun q=>nV s [β1] (dA [(ρ1,1,(c3.map<|a0 1<|AV.i))]) (.tuple []) (fun a:AV=> [(β1,.cells [(.str c2),a,(.i q.2.1),(.i q.2.2)] true)]) (fun a:AV=> [(a,1,(q.1.map<|a0 1<|AV.i))]) (fun a:AV=>True))<|fun p=>xW s [β1] (dA [(ρ1,1,(c3.map<|a0 1<|AV.i))]) (pG p))
abbrev kL(s1:aE)(c2:Str)(c3:(List<|List Int))(c4:Int)(c5:Int)(r:(Ctl ((List<|List Int)×Int×Int) Pan)):Prop:= ∀(s:ASt)(β1:Nat)(ρ1:AV),Kn s [(β1,.cells [(.str c2),ρ1,(.i c4),(.i c5)] true)] [(ρ1,1,(c3.map<|a0 1<|AV.i))]→Fc PP (.func 84) [(.ptr β1 0),(aD s1)] s (aAb r (fun q=>nV s [β1] (dA [(ρ1,1,(c3.map<|a0 1<|AV.i))]) (.tuple []) (fun a:AV=> [(β1,.cells [(.str c2),a,(.i q.2.1),(.i q.2.2)] true)]) (fun a:AV=> [(a,1,(q.1.map<|a0 1<|AV.i))]) (fun a:AV=>True))<|fun p=>xW s [β1] (dA [(ρ1,1,(c3.map<|a0 1<|AV.i))]) (pG p))
abbrev oA(s1:aE)(c2:Str)(c3:(List<|List Int))(c4:Int)(c5:Int)(r:(Ctl ((List<|List Int)×Int×Int) Pan)):Prop:= ∀(s:ASt)(β1:Nat)(ρ1:AV),Kn s [(β1,.cells [(.str c2),ρ1,(.i c4),(.i c5)] true)] [(ρ1,1,(c3.map<|a0 1<|AV.i))]→Fc PP (.func 122) [(.ptr β1 0),(aD s1)] s (aAb r (fun q=>nV s [β1] (dA [(ρ1,1,(c3.map<|a0 1<|AV.i))]) (.tuple []) (fun a:AV=> [(β1,.cells [(.str c2),a,(.i q.2.1),(.i q.2.2)] true)]) (fun a:AV=> [(a,1,(q.1.map<|a0 1<|AV.i))]) (fun a:AV=>True))<|fun p=>xW s [β1] (dA [(ρ1,1,(c3.map<|a0 1<|AV.i))]) (pG p))
abbrev mF(s1:aE)(c2:Str)(r15:aE)(c21:(List<|List Int))(c22:Int)(c23:Int)(r:(Ctl ((Option Nat)×(List<|List Int)×Int×Int) Pan)):Prop:= ∀(s:ASt)(ε16:Env)(κ18:Nat)(ℓ17:Nat)(β1:Nat)(or0_1:AV),Kn s [(ℓ17,.loop ⟨eU none,bR none,bB ε16 [(2,(.aG (.ptr β1 0) 0)),(3,(.aG (aD s1) 0)),(17,(.func 168 [] [(.aG (aD r15) 0)]))],κ18,[18,19],Code.fB,Code.eZ⟩),(β1,.cells [(.str c2),or0_1,(.i c22),(.i c23)] true)] [(or0_1,1,(c21.map<|a0 1<|AV.i))]→Fc PP (.func 168) [(.yield ℓ17),(.aG (aD r15) 0)] s (aAb r (fun q=>nV s [ℓ17,β1] (dA [(or0_1,1,(c21.map<|a0 1<|AV.i))]) (.tuple []) (fun a:AV=> [(ℓ17,.loop ⟨eU q.1,bR q.1,bB ε16 [(2,(.aG (.ptr β1 0) 0)),(3,(.aG (aD s1) 0)),(17,(.func 168 [] [(.aG (aD r15) 0)]))],κ18,[18,19],Code.fB,Code.eZ⟩),(β1,.cells [(.str c2),a,(.i q.2.2.1),(.i q.2.2.2)] true)]) (fun a:AV=> [(a,1,(q.2.1.map<|a0 1<|AV.i))]) (fun a:AV=>True))<|fun p=>xW s [ℓ17,β1] (dA [(or0_1,1,(c21.map<|a0 1<|AV.i))]) (pG p))
abbrev kM(s1:aE)(c2:Str)(r15:aE)(c21:(List<|List Int))(x1047:Int)(c1048:(Option Nat))(c1049:(List<|List Int))(c1050:Int)(c1051:Int)(o:(Ctl ((Option Nat)×(List<|List Int)×Int×Int)<|Ctl Pan<|(Option Nat)×(List<|List Int)×Int×Int)):Prop:= ∀(e:Env)(s sv:ASt)(ε16:Env)(κ18:Nat)(or0_1:AV)(ℓ17:Nat)(β1:Nat)(ow0_1:AV),St [ℓ17,β1] (dA [(or0_1,1,(c21.map<|a0 1<|AV.i))]) s sv [(ℓ17,.loop ⟨eU c1048,bR c1048,bB ε16 [(2,(.aG (.ptr β1 0) 0)),(3,(.aG (aD s1) 0)),(17,(.func 168 [] [(.aG (aD r15) 0)]))],κ18,[18,19],Code.fB,Code.eZ⟩),(β1,.cells [(.str c2),ow0_1,(.i c1050),(.i c1051)] true)] [(ow0_1,1,(c1049.map<|a0 1<|AV.i))]→Wk PP none Code.aB8 ⟨bB e [(0,(.yield ℓ17)),(1,(.aG (aD r15) 0)),(12,(.i<|IntKind.wrap .i64<|(r15.expr.l.length:Int)+(r15.expr.aT.length:Int))),(13,(.i x1047))],[]⟩ sv (fun ex fr s'=>(match o with| .ret oq0=>ex= .ret∧nQ PP Code.aKz (VQ (.tuple [])<|RX s [ℓ17,β1] (dA [(or0_1,1,(c21.map<|a0 1<|AV.i))]) (fun a:AV=> [(ℓ17,.loop ⟨eU oq0.1,bR oq0.1,bB ε16 [(2,(.aG (.ptr β1 0) 0)),(3,(.aG (aD s1) 0)),(17,(.func 168 [] [(.aG (aD r15) 0)]))],κ18,[18,19],Code.fB,Code.eZ⟩),(β1,.cells [(.str c2),a,(.i oq0.2.2.1),(.i oq0.2.2.2)] true)]) (fun a:AV=> [(a,1,(oq0.2.1.map<|a0 1<|AV.i))]) (fun a:AV=>True)) ex fr s'| .nx oq1=>(match oq1 with| .ret oq2=>aOE (pG oq2) (Ext [ℓ17,β1] (dA [(or0_1,1,(c21.map<|a0 1<|AV.i))]) s) ex fr s'| .nx oq3=>ex= .exit 0∧ ∃(pw1:AV)(e:Env),fr=⟨bB e [],[]⟩∧St [ℓ17,β1] (dA [(or0_1,1,(c21.map<|a0 1<|AV.i))]) s s' [(ℓ17,.loop ⟨eU oq3.1,bR oq3.1,bB ε16 [(2,(.aG (.ptr β1 0) 0)),(3,(.aG (aD s1) 0)),(17,(.func 168 [] [(.aG (aD r15) 0)]))],κ18,[18,19],Code.fB,Code.eZ⟩),(β1,.cells [(.str c2),pw1,(.i oq3.2.2.1),(.i oq3.2.2.2)] true)] [(pw1,1,(oq3.2.1.map<|a0 1<|AV.i))])))
abbrev mD(s1:aE)(c2:Str)(r15:aE)(x24:Int)(x25:aE)(c21:(List<|List Int))(c22:Int)(c23:Int)(r:(Ctl ((Option Nat)×(List<|List Int)×Int×Int) Pan)):Prop:= ∀(s:ASt)(ε16:Env)(κ18:Nat)(ℓ17:Nat)(β1:Nat)(or0_1:AV),Kn s [(ℓ17,.loop ⟨eU none,bR none,bB ε16 [(2,(.aG (.ptr β1 0) 0)),(3,(.aG (aD s1) 0)),(17,(.func 168 [] [(.aG (aD r15) 0)]))],κ18,[18,19],Code.fB,Code.eZ⟩),(β1,.cells [(.str c2),or0_1,(.i c22),(.i c23)] true)] [(or0_1,1,(c21.map<|a0 1<|AV.i))]→Fc PP (.yield ℓ17) [(.i x24),(aD x25)] s (aAb r (fun q=>nV s [ℓ17,β1] (dA [(or0_1,1,(c21.map<|a0 1<|AV.i))]) (.bool q.1.isNone) (fun a:AV=> [(ℓ17,.loop ⟨eU q.1,bR q.1,bB ε16 [(2,(.aG (.ptr β1 0) 0)),(3,(.aG (aD s1) 0)),(17,(.func 168 [] [(.aG (aD r15) 0)]))],κ18,[18,19],Code.fB,Code.eZ⟩),(β1,.cells [(.str c2),a,(.i q.2.2.1),(.i q.2.2.2)] true)]) (fun a:AV=> [(a,1,(q.2.1.map<|a0 1<|AV.i))]) (fun a:AV=>True))<|fun p=>xW s [ℓ17,β1] (dA [(or0_1,1,(c21.map<|a0 1<|AV.i))]) (pG p))
abbrev nN(s1:aE)(c2:Str)(c3:(List<|List Int))(c4:Int)(c5:Int)(r:(Ctl ((List<|List Int)×Int×Int) Pan)):Prop:= ∀(s:ASt)(β1:Nat)(ρ1:AV),Kn s [(β1,.cells [(.str c2),ρ1,(.i c4),(.i c5)] true)] [(ρ1,1,(c3.map<|a0 1<|AV.i))]→Fc PP (.func 121) [(.ptr β1 0),(aD s1)] s (aAb r (fun q=>nV s [β1] (dA [(ρ1,1,(c3.map<|a0 1<|AV.i))]) (.tuple []) (fun a:AV=> [(β1,.cells [(.str c2),a,(.i q.2.1),(.i q.2.2)] true)]) (fun a:AV=> [(a,1,(q.1.map<|a0 1<|AV.i))]) (fun a:AV=>True))<|fun p=>xW s [β1] (dA [(ρ1,1,(c3.map<|a0 1<|AV.i))]) (pG p))
abbrev pO(s1:aE)(c2:Str)(c3:(List<|List Int))(c4:Int)(c5:Int)(r:(Ctl ((List<|List Int)×Int×Int) Pan)):Prop:= ∀(s:ASt)(β1:Nat)(ρ1:AV),Kn s [(β1,.cells [(.str c2),ρ1,(.i c4),(.i c5)] true)] [(ρ1,1,(c3.map<|a0 1<|AV.i))]→Fc PP (.func 120) [(.ptr β1 0),(aD s1)] s (aAb r (fun q=>nV s [β1] (dA [(ρ1,1,(c3.map<|a0 1<|AV.i))]) (.tuple []) (fun a:AV=> [(β1,.cells [(.str c2),a,(.i q.2.1),(.i q.2.2)] true)]) (fun a:AV=> [(a,1,(q.1.map<|a0 1<|AV.i))]) (fun a:AV=>True))<|fun p=>xW s [β1] (dA [(ρ1,1,(c3.map<|a0 1<|AV.i))]) (pG p))
theorem sP:(∀(s1:aE)(c2:Str)(c3:(List<|List Int))(c4:Int)(c5:Int)(r:(Ctl ((List<|List Int)×Int×Int) Pan)),dR s1 c2 c3 c4 c5=some r→nO s1 c2 c3 c4 c5 r)∧
  (∀(s1:aE)(c2:Str)(c3:(List<|List Int))(c4:Int)(c5:Int)(r:(Ctl ((List<|List Int)×Int×Int) Pan)),cK s1 c2 c3 c4 c5=some r→kL s1 c2 c3 c4 c5 r)∧
  (∀(s1:aE)(c2:Str)(c3:(List<|List Int))(c4:Int)(c5:Int)(r:(Ctl ((List<|List Int)×Int×Int) Pan)),iP s1 c2 c3 c4 c5=some r→oA s1 c2 c3 c4 c5 r)∧
  (∀(s1:aE)(c2:Str)(r15:aE)(c21:(List<|List Int))(c22:Int)(c23:Int)(r:(Ctl ((Option Nat)×(List<|List Int)×Int×Int) Pan)),jK s1 c2 r15 c21 c22 c23=some r→mF s1 c2 r15 c21 c22 c23 r)∧
  (∀(s1:aE)(c2:Str)(r15:aE)(c21:(List<|List Int))(x1047:Int)(c1048:(Option Nat))(c1049:(List<|List Int))(c1050:Int)(c1051:Int)(o:(Ctl ((Option Nat)×(List<|List Int)×Int×Int)<|Ctl Pan<|(Option Nat)×(List<|List Int)×Int×Int)),cL s1 c2 r15 c21 x1047 c1048 c1049 c1050 c1051=some o→kM s1 c2 r15 c21 x1047 c1048 c1049 c1050 c1051 o)∧
  (∀(s1:aE)(c2:Str)(r15:aE)(x24:Int)(x25:aE)(c21:(List<|List Int))(c22:Int)(c23:Int)(r:(Ctl ((Option Nat)×(List<|List Int)×Int×Int) Pan)),gM s1 c2 r15 x24 x25 c21 c22 c23=some r→mD s1 c2 r15 x24 x25 c21 c22 c23 r)∧
  (∀(s1:aE)(c2:Str)(c3:(List<|List Int))(c4:Int)(c5:Int)(r:(Ctl ((List<|List Int)×Int×Int) Pan)),hY s1 c2 c3 c4 c5=some r→nN s1 c2 c3 c4 c5 r)∧
  (∀(s1:aE)(c2:Str)(c3:(List<|List Int))(c4:Int)(c5:Int)(r:(Ctl ((List<|List Int)×Int×Int) Pan)),jV s1 c2 c3 c4 c5=some r→pO s1 c2 c3 c4 c5 r):=by
 refine dR.mutual_partial_correctness nO kL oA mF kM mD nN pO ?_ ?_ ?_ ?_ ?_ ?_ ?_ ?_
 ·intro _f0 ih_linear_clause_look_s0 s1 c2 c3 c4 c5 r u;intro s β1 ρ1 hK;refine uY r (v:=fun q:((List<|List Int)×Int×Int)=>(.tuple [])) (bs:=fun(q:((List<|List Int)×Int×Int))=>(fun a:AV=> [(β1,.cells [(.str c2),a,(.i q.2.1),(.i q.2.2)] true)])) (gs:=fun(q:((List<|List Int)×Int×Int))=>(fun a:AV=> [(a,1,(q.1.map<|a0 1<|AV.i))])) (fs:=fun(q:((List<|List Int)×Int×Int))=>(fun a:AV=>True)) hK (fun _ _=>rfl) (fun _ a q hq=>by
   simp only [List.mem_cons,List.not_mem_nil,or_false] at hq;subst hq;exact⟨_,(.head _),_,_,rfl,(.tail _ (.head _))⟩) rfl rfl rfl ?_
  have J:=hK.start;generalize aU s=σ1 at J⊢;refine aB<|aC<|wu rfl<|wu rfl<|aA<|zA<|aB<|aC<|wu rfl<|wu rfl ?_;obtain⟨r6,hr6,u⟩:=bs u;refine wcD (cE hr6) rfl rfl (.cons rfl<|.cons rfl .nil) ?_;obtain⟨or7,ho7,u⟩:=bs u;rcases or7 with r7|p12
  ·refine cN rfl (bs1:= [(β1,.cells [(.str c2),ρ1,(.i c4),(.i c5)] true)]) (bs2:= []) (gs1:= [(ρ1,1,(c3.map<|a0 1<|AV.i))]) (gs2:= []) rfl J (fun hK=>ih_linear_clause_look_s0 _ _ _ _ _ _ ho7 _ β1 ρ1 hK) rfl rfl (fun _=>rfl) rfl (by exact(.cons rfl<|.cons rfl .nil)) rfl<|fun σ8 a9 hF J=> ?_;refine aA<|aB<|aJ<|aB<|aC<|wu rfl ?_;obtain⟨r14,h14,u⟩:=bs u;refine wcD (gY h14) rfl rfl (.cons rfl .nil)<|aA<|aO ?_;refine aFd (S:= [(2,(.aG (.ptr β1 0) 0)),(3,(.aG (aD s1) 0)),(11,(.func 168 [] [(.aG (aD r14) 0)]))]) (.cons rfl<|.cons rfl<|.cons rfl .nil)<|fun ε15=> ?_;obtain⟨κ17,ℓ16,σ18,hl19,J⟩:=yY (params:= [12,13]) (assign:=Code.gE) (body:=Code.gA) (fr:=⟨bB ε15 [(2,(.aG (.ptr β1 0) 0)),(3,(.aG (aD s1) 0)),(11,(.func 168 [] [(.aG (aD r14) 0)]))],[]⟩) J;refine yP hl19 rfl rfl ?_;obtain⟨o39,h39,u⟩:=bs u;have J:=J.aV 2 rfl;have J:=J.aV 1 rfl;rcases o39 with r39|p44
   ·rcases Bool.eq_false_or_eq_true (r39.1==(none:Option Nat)) with hc|hc
    ·replace u:=bE hc u;refine qQ (bs1:= [(ℓ16,.loop ⟨eU none,bR none,bB ε15 [(2,(.aG (.ptr β1 0) 0)),(3,(.aG (aD s1) 0)),(11,(.func 168 [] [(.aG (aD r14) 0)]))],κ17,[12,13],Code.gE,Code.gA⟩),(β1,.cells [(.str c2),a9,(.i r7.2.1),(.i r7.2.2)] true)]) (bs2:= [(κ17,.tW)]) (gs1:= [(a9,1,(r7.1.map<|a0 1<|AV.i))]) (gs2:= []) (pd:=r39.1) (ex:= .normal) J (fun hK=>lJ _ _ _ _ _ _ h39 _ ε15 κ17 ℓ16 β1 a9 hK) rfl rfl (fun _=>rfl) (by rw [eq_of_beq hc];rfl)<|fun σ40 a41 hF J=> ?_;cases u;obtain⟨σ42,J,h43⟩:=J.mark 1 rfl;exact⟨rfl,σ42,(h43<|fun _=>rfl),iF rfl ⟨a41,trivial,(J.vC 1)⟩⟩
    ·replace u:=bC hc u;cases u
   ·refine aCz (bs1:= [(ℓ16,.loop ⟨eU none,bR none,bB ε15 [(2,(.aG (.ptr β1 0) 0)),(3,(.aG (aD s1) 0)),(11,(.func 168 [] [(.aG (aD r14) 0)]))],κ17,[12,13],Code.gE,Code.gA⟩),(β1,.cells [(.str c2),a9,(.i r7.2.1),(.i r7.2.2)] true)]) (bs2:= [(κ17,.tW)]) (gs1:= [(a9,1,(r7.1.map<|a0 1<|AV.i))]) (gs2:= []) J (fun hK=>lJ _ _ _ _ _ _ h39 _ ε15 κ17 ℓ16 β1 a9 hK) rfl rfl<|fun σ45 J=> ?_;cases u;obtain⟨σ46,J,h47⟩:=J.mark 0 rfl;exact⟨rfl,σ46,(h47<|fun _=>rfl),J.ext⟩
  ·refine iR (bs1:= [(β1,.cells [(.str c2),ρ1,(.i c4),(.i c5)] true)]) (bs2:= []) (gs1:= [(ρ1,1,(c3.map<|a0 1<|AV.i))]) (gs2:= []) rfl J (fun hK=>ih_linear_clause_look_s0 _ _ _ _ _ _ ho7 _ β1 ρ1 hK) rfl rfl rfl (by exact(.cons rfl<|.cons rfl .nil)) rfl<|fun σ13 J=> ?_;cases u;exact⟨rfl,_,fun _=>rfl,J.ext⟩
 ·intro _f0 _f1 _f2 _f3 ih_linear_clause_around_s0 ih_linear_clause_match_s0 ih_linear_clause_branch_s0 ih_linear_clause_let_s0 s1 c2 c3 c4 c5 r u;intro s β1 ρ1 hK;refine uY r (v:=fun q:((List<|List Int)×Int×Int)=>(.tuple [])) (bs:=fun(q:((List<|List Int)×Int×Int))=>(fun a:AV=> [(β1,.cells [(.str c2),a,(.i q.2.1),(.i q.2.2)] true)])) (gs:=fun(q:((List<|List Int)×Int×Int))=>(fun a:AV=> [(a,1,(q.1.map<|a0 1<|AV.i))])) (fs:=fun(q:((List<|List Int)×Int×Int))=>(fun a:AV=>True)) hK (fun _ _=>rfl) (fun _ a q hq=>by
   simp only [List.mem_cons,List.not_mem_nil,or_false] at hq;subst hq;exact⟨_,(.head _),_,_,rfl,(.tail _ (.head _))⟩) rfl rfl rfl ?_
  have J:=hK.start;generalize aU s=σ1 at J⊢;refine aB<|aC<|wu rfl<|aA<|aB<|aB<|aC<|wu rfl<|wu rfl ?_;obtain⟨r6,hr6,u⟩:=bs u;refine cN rfl (bs1:= [(β1,.cells [(.str c2),ρ1,(.i c4),(.i c5)] true)]) (bs2:= []) (gs1:= [(ρ1,1,(c3.map<|a0 1<|AV.i))]) (gs2:= []) rfl J (fun hK=>m4 _ _ _ _ _ _ hr6 _ β1 ρ1 hK) rfl rfl (fun _=>rfl) rfl (by exact(.cons rfl<|.cons rfl .nil)) rfl<|fun σ7 a8 hF J=> ?_;refine aA ?_;refine aF u rfl (fun hc u=> ?_)<|fun hc u=> ?_
  ·refine aB<|aC<|wu rfl<|wu rfl ?_;obtain⟨o11,ho11,u⟩:=bs u;rcases o11 with r11|p16
   ·refine cN rfl (bs1:= [(β1,.cells [(.str c2),a8,(.i c4),(.i c5)] true)]) (bs2:= []) (gs1:= [(a8,1,(c3.map<|a0 1<|AV.i))]) (gs2:= []) rfl J (fun hK=>gU _ _ _ _ _ _ ho11 _ β1 a8 hK) rfl rfl (fun _=>rfl) rfl (by exact(.cons rfl<|.cons rfl .nil)) rfl<|fun σ12 a13 hF J=> ?_;refine aA<|aK ?_;cases u;exact⟨rfl,_,fun _=>rfl,iF rfl ⟨a13,trivial,J⟩⟩
   ·refine iR (bs1:= [(β1,.cells [(.str c2),a8,(.i c4),(.i c5)] true)]) (bs2:= []) (gs1:= [(a8,1,(c3.map<|a0 1<|AV.i))]) (gs2:= []) rfl J (fun hK=>gU _ _ _ _ _ _ ho11 _ β1 a8 hK) rfl rfl rfl (by exact(.cons rfl<|.cons rfl .nil)) rfl<|fun σ17 J=> ?_;cases u;exact⟨rfl,_,fun _=>rfl,J.ext⟩
  ·refine aJ<|aB<|aC ?_;refine aOL rfl J<|fun β18 σ19 J=> ?_;refine wu rfl<|wu rfl ?_;refine sY (es':= [((.i<|6),(.func 120 [(.ptr β1 0)] []))]) 0 rfl J rfl rfl rfl rfl rfl<|fun σ20 J=> ?_;refine wu rfl<|wu rfl ?_;refine sY (es':= [((.i<|6),(.func 120 [(.ptr β1 0)] [])),((.i<|8),(.func 121 [(.ptr β1 0)] []))]) 0 rfl J rfl rfl rfl rfl rfl<|fun σ21 J=> ?_;refine wu rfl<|wu rfl ?_;refine sY (es':= [((.i<|6),(.func 120 [(.ptr β1 0)] [])),((.i<|8),(.func 121 [(.ptr β1 0)] [])),((.i<|11),(.func 122 [(.ptr β1 0)] []))]) 0 rfl J rfl rfl rfl rfl rfl<|fun σ22 J=> ?_;refine wu rfl<|wu rfl ?_;refine sY (es':= [((.i<|6),(.func 120 [(.ptr β1 0)] [])),((.i<|8),(.func 121 [(.ptr β1 0)] [])),((.i<|11),(.func 122 [(.ptr β1 0)] [])),((.i<|14),(.func 123 [(.ptr β1 0)] []))]) 0 rfl J rfl rfl rfl rfl rfl<|fun σ23 J=> ?_;refine wu rfl<|wu rfl ?_;refine sY (es':= [((.i<|6),(.func 120 [(.ptr β1 0)] [])),((.i<|8),(.func 121 [(.ptr β1 0)] [])),((.i<|11),(.func 122 [(.ptr β1 0)] [])),((.i<|14),(.func 123 [(.ptr β1 0)] [])),((.i<|15),(.func 123 [(.ptr β1 0)] []))]) 0 rfl J rfl rfl rfl rfl rfl<|fun σ24 J=> ?_;refine wu rfl<|wu rfl ?_;refine sY (es':= [((.i<|6),(.func 120 [(.ptr β1 0)] [])),((.i<|8),(.func 121 [(.ptr β1 0)] [])),((.i<|11),(.func 122 [(.ptr β1 0)] [])),((.i<|14),(.func 123 [(.ptr β1 0)] [])),((.i<|15),(.func 123 [(.ptr β1 0)] [])),((.i<|16),(.func 123 [(.ptr β1 0)] []))]) 0 rfl J rfl rfl rfl rfl rfl<|fun σ25 J=> ?_
   iterate 4 refine wu rfl ?_
   rcases Bool.eq_false_or_eq_true (s1.expr.kind==(6)) with h33|h33
   ·replace u:=bE h33 u;refine z8 0 rfl J rfl rfl rfl (s8 h33)<|wu rfl<|aA<|aB<|aB<|aC<|wu rfl<|wu rfl<|aA<|aCt rfl<|aJ<|aC<|wu rfl<|wu rfl ?_;obtain⟨o26,ho26,u⟩:=bs u;have J:=J.aV 1 rfl;rcases o26 with r26|p31
    ·refine cN rfl (bs1:= [(β1,.cells [(.str c2),a8,(.i c4),(.i c5)] true)]) (bs2:= [(β18,.map [((.i<|6),(.func 120 [(.ptr β1 0)] [])),((.i<|8),(.func 121 [(.ptr β1 0)] [])),((.i<|11),(.func 122 [(.ptr β1 0)] [])),((.i<|14),(.func 123 [(.ptr β1 0)] [])),((.i<|15),(.func 123 [(.ptr β1 0)] [])),((.i<|16),(.func 123 [(.ptr β1 0)] []))])]) (gs1:= [(a8,1,(c3.map<|a0 1<|AV.i))]) (gs2:= []) rfl J (fun hK=>ih_linear_clause_let_s0 _ _ _ _ _ _ ho26 _ β1 a8 hK) rfl rfl (fun _=>rfl) rfl (by exact(.cons rfl .nil)) rfl<|fun σ27 a28 hF J=> ?_;refine aA ?_;cases u;exact⟨rfl,_,fun _=>rfl,iF rfl ⟨a28,trivial,(J.vC 1)⟩⟩
    ·refine iR (bs1:= [(β1,.cells [(.str c2),a8,(.i c4),(.i c5)] true)]) (bs2:= [(β18,.map [((.i<|6),(.func 120 [(.ptr β1 0)] [])),((.i<|8),(.func 121 [(.ptr β1 0)] [])),((.i<|11),(.func 122 [(.ptr β1 0)] [])),((.i<|14),(.func 123 [(.ptr β1 0)] [])),((.i<|15),(.func 123 [(.ptr β1 0)] [])),((.i<|16),(.func 123 [(.ptr β1 0)] []))])]) (gs1:= [(a8,1,(c3.map<|a0 1<|AV.i))]) (gs2:= []) rfl J (fun hK=>ih_linear_clause_let_s0 _ _ _ _ _ _ ho26 _ β1 a8 hK) rfl rfl rfl (by exact(.cons rfl .nil)) rfl<|fun σ32 J=> ?_;cases u;exact⟨rfl,_,fun _=>rfl,J.ext⟩
   ·replace u:=bC h33 u;rcases Bool.eq_false_or_eq_true (s1.expr.kind==(8)) with h41|h41
    ·replace u:=bE h41 u;refine z8 0 rfl J rfl rfl rfl (dJ h33<|s8 h41)<|wu rfl<|aA<|aB<|aB<|aC<|wu rfl<|wu rfl<|aA<|aCt rfl<|aJ<|aC<|wu rfl<|wu rfl ?_;obtain⟨o34,ho34,u⟩:=bs u;have J:=J.aV 1 rfl;rcases o34 with r34|p39
     ·refine cN rfl (bs1:= [(β1,.cells [(.str c2),a8,(.i c4),(.i c5)] true)]) (bs2:= [(β18,.map [((.i<|6),(.func 120 [(.ptr β1 0)] [])),((.i<|8),(.func 121 [(.ptr β1 0)] [])),((.i<|11),(.func 122 [(.ptr β1 0)] [])),((.i<|14),(.func 123 [(.ptr β1 0)] [])),((.i<|15),(.func 123 [(.ptr β1 0)] [])),((.i<|16),(.func 123 [(.ptr β1 0)] []))])]) (gs1:= [(a8,1,(c3.map<|a0 1<|AV.i))]) (gs2:= []) rfl J (fun hK=>ih_linear_clause_branch_s0 _ _ _ _ _ _ ho34 _ β1 a8 hK) rfl rfl (fun _=>rfl) rfl (by exact(.cons rfl .nil)) rfl<|fun σ35 a36 hF J=> ?_;refine aA ?_;cases u;exact⟨rfl,_,fun _=>rfl,iF rfl ⟨a36,trivial,(J.vC 1)⟩⟩
     ·refine iR (bs1:= [(β1,.cells [(.str c2),a8,(.i c4),(.i c5)] true)]) (bs2:= [(β18,.map [((.i<|6),(.func 120 [(.ptr β1 0)] [])),((.i<|8),(.func 121 [(.ptr β1 0)] [])),((.i<|11),(.func 122 [(.ptr β1 0)] [])),((.i<|14),(.func 123 [(.ptr β1 0)] [])),((.i<|15),(.func 123 [(.ptr β1 0)] [])),((.i<|16),(.func 123 [(.ptr β1 0)] []))])]) (gs1:= [(a8,1,(c3.map<|a0 1<|AV.i))]) (gs2:= []) rfl J (fun hK=>ih_linear_clause_branch_s0 _ _ _ _ _ _ ho34 _ β1 a8 hK) rfl rfl rfl (by exact(.cons rfl .nil)) rfl<|fun σ40 J=> ?_;cases u;exact⟨rfl,_,fun _=>rfl,J.ext⟩
    ·replace u:=bC h41 u;rcases Bool.eq_false_or_eq_true (s1.expr.kind==(11)) with h49|h49
     ·replace u:=bE h49 u;refine z8 0 rfl J rfl rfl rfl (dJ h33<|dJ h41<|s8 h49)<|wu rfl<|aA<|aB<|aB<|aC<|wu rfl<|wu rfl<|aA<|aCt rfl<|aJ<|aC<|wu rfl<|wu rfl ?_;obtain⟨o42,ho42,u⟩:=bs u;have J:=J.aV 1 rfl;rcases o42 with r42|p47
      ·refine cN rfl (bs1:= [(β1,.cells [(.str c2),a8,(.i c4),(.i c5)] true)]) (bs2:= [(β18,.map [((.i<|6),(.func 120 [(.ptr β1 0)] [])),((.i<|8),(.func 121 [(.ptr β1 0)] [])),((.i<|11),(.func 122 [(.ptr β1 0)] [])),((.i<|14),(.func 123 [(.ptr β1 0)] [])),((.i<|15),(.func 123 [(.ptr β1 0)] [])),((.i<|16),(.func 123 [(.ptr β1 0)] []))])]) (gs1:= [(a8,1,(c3.map<|a0 1<|AV.i))]) (gs2:= []) rfl J (fun hK=>ih_linear_clause_match_s0 _ _ _ _ _ _ ho42 _ β1 a8 hK) rfl rfl (fun _=>rfl) rfl (by exact(.cons rfl .nil)) rfl<|fun σ43 a44 hF J=> ?_;refine aA ?_;cases u;exact⟨rfl,_,fun _=>rfl,iF rfl ⟨a44,trivial,(J.vC 1)⟩⟩
      ·refine iR (bs1:= [(β1,.cells [(.str c2),a8,(.i c4),(.i c5)] true)]) (bs2:= [(β18,.map [((.i<|6),(.func 120 [(.ptr β1 0)] [])),((.i<|8),(.func 121 [(.ptr β1 0)] [])),((.i<|11),(.func 122 [(.ptr β1 0)] [])),((.i<|14),(.func 123 [(.ptr β1 0)] [])),((.i<|15),(.func 123 [(.ptr β1 0)] [])),((.i<|16),(.func 123 [(.ptr β1 0)] []))])]) (gs1:= [(a8,1,(c3.map<|a0 1<|AV.i))]) (gs2:= []) rfl J (fun hK=>ih_linear_clause_match_s0 _ _ _ _ _ _ ho42 _ β1 a8 hK) rfl rfl rfl (by exact(.cons rfl .nil)) rfl<|fun σ48 J=> ?_;cases u;exact⟨rfl,_,fun _=>rfl,J.ext⟩
     ·replace u:=bC h49 u;rcases Bool.eq_false_or_eq_true (s1.expr.kind==(14)) with h57|h57
      ·replace u:=bE h57 u;refine z8 0 rfl J rfl rfl rfl (dJ h33<|dJ h41<|dJ h49<|s8 h57)<|wu rfl<|aA<|aB<|aB<|aC<|wu rfl<|wu rfl<|aA<|aCt rfl<|aJ<|aC<|wu rfl<|wu rfl ?_;obtain⟨o50,ho50,u⟩:=bs u;have J:=J.aV 1 rfl;rcases o50 with r50|p55
       ·refine cN rfl (bs1:= [(β1,.cells [(.str c2),a8,(.i c4),(.i c5)] true)]) (bs2:= [(β18,.map [((.i<|6),(.func 120 [(.ptr β1 0)] [])),((.i<|8),(.func 121 [(.ptr β1 0)] [])),((.i<|11),(.func 122 [(.ptr β1 0)] [])),((.i<|14),(.func 123 [(.ptr β1 0)] [])),((.i<|15),(.func 123 [(.ptr β1 0)] [])),((.i<|16),(.func 123 [(.ptr β1 0)] []))])]) (gs1:= [(a8,1,(c3.map<|a0 1<|AV.i))]) (gs2:= []) rfl J (fun hK=>ih_linear_clause_around_s0 _ _ _ _ _ _ ho50 _ β1 a8 hK) rfl rfl (fun _=>rfl) rfl (by exact(.cons rfl .nil)) rfl<|fun σ51 a52 hF J=> ?_;refine aA ?_;cases u;exact⟨rfl,_,fun _=>rfl,iF rfl ⟨a52,trivial,(J.vC 1)⟩⟩
       ·refine iR (bs1:= [(β1,.cells [(.str c2),a8,(.i c4),(.i c5)] true)]) (bs2:= [(β18,.map [((.i<|6),(.func 120 [(.ptr β1 0)] [])),((.i<|8),(.func 121 [(.ptr β1 0)] [])),((.i<|11),(.func 122 [(.ptr β1 0)] [])),((.i<|14),(.func 123 [(.ptr β1 0)] [])),((.i<|15),(.func 123 [(.ptr β1 0)] [])),((.i<|16),(.func 123 [(.ptr β1 0)] []))])]) (gs1:= [(a8,1,(c3.map<|a0 1<|AV.i))]) (gs2:= []) rfl J (fun hK=>ih_linear_clause_around_s0 _ _ _ _ _ _ ho50 _ β1 a8 hK) rfl rfl rfl (by exact(.cons rfl .nil)) rfl<|fun σ56 J=> ?_;cases u;exact⟨rfl,_,fun _=>rfl,J.ext⟩
      ·replace u:=bC h57 u;rcases Bool.eq_false_or_eq_true (s1.expr.kind==(15)) with h65|h65
       ·replace u:=bE h65 u;refine z8 0 rfl J rfl rfl rfl (dJ h33<|dJ h41<|dJ h49<|dJ h57<|s8 h65)<|wu rfl<|aA<|aB<|aB<|aC<|wu rfl<|wu rfl<|aA<|aCt rfl<|aJ<|aC<|wu rfl<|wu rfl ?_;obtain⟨o58,ho58,u⟩:=bs u;have J:=J.aV 1 rfl;rcases o58 with r58|p63
        ·refine cN rfl (bs1:= [(β1,.cells [(.str c2),a8,(.i c4),(.i c5)] true)]) (bs2:= [(β18,.map [((.i<|6),(.func 120 [(.ptr β1 0)] [])),((.i<|8),(.func 121 [(.ptr β1 0)] [])),((.i<|11),(.func 122 [(.ptr β1 0)] [])),((.i<|14),(.func 123 [(.ptr β1 0)] [])),((.i<|15),(.func 123 [(.ptr β1 0)] [])),((.i<|16),(.func 123 [(.ptr β1 0)] []))])]) (gs1:= [(a8,1,(c3.map<|a0 1<|AV.i))]) (gs2:= []) rfl J (fun hK=>ih_linear_clause_around_s0 _ _ _ _ _ _ ho58 _ β1 a8 hK) rfl rfl (fun _=>rfl) rfl (by exact(.cons rfl .nil)) rfl<|fun σ59 a60 hF J=> ?_;refine aA ?_;cases u;exact⟨rfl,_,fun _=>rfl,iF rfl ⟨a60,trivial,(J.vC 1)⟩⟩
        ·refine iR (bs1:= [(β1,.cells [(.str c2),a8,(.i c4),(.i c5)] true)]) (bs2:= [(β18,.map [((.i<|6),(.func 120 [(.ptr β1 0)] [])),((.i<|8),(.func 121 [(.ptr β1 0)] [])),((.i<|11),(.func 122 [(.ptr β1 0)] [])),((.i<|14),(.func 123 [(.ptr β1 0)] [])),((.i<|15),(.func 123 [(.ptr β1 0)] [])),((.i<|16),(.func 123 [(.ptr β1 0)] []))])]) (gs1:= [(a8,1,(c3.map<|a0 1<|AV.i))]) (gs2:= []) rfl J (fun hK=>ih_linear_clause_around_s0 _ _ _ _ _ _ ho58 _ β1 a8 hK) rfl rfl rfl (by exact(.cons rfl .nil)) rfl<|fun σ64 J=> ?_;cases u;exact⟨rfl,_,fun _=>rfl,J.ext⟩
       ·replace u:=bC h65 u;rcases Bool.eq_false_or_eq_true (s1.expr.kind==(16)) with h73|h73
        ·replace u:=bE h73 u;refine z8 0 rfl J rfl rfl rfl (dJ h33<|dJ h41<|dJ h49<|dJ h57<|dJ h65<|s8 h73)<|wu rfl<|aA<|aB<|aB<|aC<|wu rfl<|wu rfl<|aA<|aCt rfl<|aJ<|aC<|wu rfl<|wu rfl ?_;obtain⟨o66,ho66,u⟩:=bs u;have J:=J.aV 1 rfl;rcases o66 with r66|p71
         ·refine cN rfl (bs1:= [(β1,.cells [(.str c2),a8,(.i c4),(.i c5)] true)]) (bs2:= [(β18,.map [((.i<|6),(.func 120 [(.ptr β1 0)] [])),((.i<|8),(.func 121 [(.ptr β1 0)] [])),((.i<|11),(.func 122 [(.ptr β1 0)] [])),((.i<|14),(.func 123 [(.ptr β1 0)] [])),((.i<|15),(.func 123 [(.ptr β1 0)] [])),((.i<|16),(.func 123 [(.ptr β1 0)] []))])]) (gs1:= [(a8,1,(c3.map<|a0 1<|AV.i))]) (gs2:= []) rfl J (fun hK=>ih_linear_clause_around_s0 _ _ _ _ _ _ ho66 _ β1 a8 hK) rfl rfl (fun _=>rfl) rfl (by exact(.cons rfl .nil)) rfl<|fun σ67 a68 hF J=> ?_;refine aA ?_;cases u;exact⟨rfl,_,fun _=>rfl,iF rfl ⟨a68,trivial,(J.vC 1)⟩⟩
         ·refine iR (bs1:= [(β1,.cells [(.str c2),a8,(.i c4),(.i c5)] true)]) (bs2:= [(β18,.map [((.i<|6),(.func 120 [(.ptr β1 0)] [])),((.i<|8),(.func 121 [(.ptr β1 0)] [])),((.i<|11),(.func 122 [(.ptr β1 0)] [])),((.i<|14),(.func 123 [(.ptr β1 0)] [])),((.i<|15),(.func 123 [(.ptr β1 0)] [])),((.i<|16),(.func 123 [(.ptr β1 0)] []))])]) (gs1:= [(a8,1,(c3.map<|a0 1<|AV.i))]) (gs2:= []) rfl J (fun hK=>ih_linear_clause_around_s0 _ _ _ _ _ _ ho66 _ β1 a8 hK) rfl rfl rfl (by exact(.cons rfl .nil)) rfl<|fun σ72 J=> ?_;cases u;exact⟨rfl,_,fun _=>rfl,J.ext⟩
        ·replace u:=bC h73 u;refine aRj 0 rfl J rfl rfl rfl (dJ h33<|dJ h41<|dJ h49<|dJ h57<|dJ h65<|dJ h73 rfl)<|wu rfl<|aA<|aB<|aB<|aC<|wu rfl<|wu rfl<|aA<|aFN rfl<|aC<|wu rfl<|wu rfl ?_;refine wgv (v:=(tV<|lB.mk s1.path)) rfl rfl (by kernel_rfl) ?_;refine wu rfl<|aIQ rfl rfl ?_;cases u;exact⟨rfl,_,fun _=>rfl,J.ext⟩
 ·intro _f0 ih_linear_clause_match_s0_i0 s1 c2 c3 c4 c5 r u;intro s β1 ρ1 hK;refine uY r (v:=fun q:((List<|List Int)×Int×Int)=>(.tuple [])) (bs:=fun(q:((List<|List Int)×Int×Int))=>(fun a:AV=> [(β1,.cells [(.str c2),a,(.i q.2.1),(.i q.2.2)] true)])) (gs:=fun(q:((List<|List Int)×Int×Int))=>(fun a:AV=> [(a,1,(q.1.map<|a0 1<|AV.i))])) (fs:=fun(q:((List<|List Int)×Int×Int))=>(fun a:AV=>True)) hK (fun _ _=>rfl) (fun _ a q hq=>by
   simp only [List.mem_cons,List.not_mem_nil,or_false] at hq;subst hq;exact⟨_,(.head _),_,_,rfl,(.tail _ (.head _))⟩) rfl rfl rfl ?_
  have J:=hK.start;generalize aU s=σ1 at J⊢;refine aB<|aC<|wu rfl<|wu rfl<|aA<|aB<|aC<|wu rfl ?_;obtain⟨r6,hr6,u⟩:=bs u;refine wcD (cE hr6) rfl rfl (.cons rfl<|.cons rfl .nil)<|wu rfl<|wu rfl<|wu rfl<|lA 0 rfl J rfl rfl rfl ?_;obtain⟨r7,hr7,u⟩:=bs u;refine wcD (iL hr7) rfl rfl (.cons rfl<|.cons rfl<|.cons rfl<|.cons rfl .nil)<|wu rfl<|wu rfl ?_;obtain⟨or8,ho8,u⟩:=bs u;rcases or8 with r8|p13
  ·refine cN rfl (bs1:= []) (bs2:= [(β1,.cells [(.str c2),ρ1,(.i c4),(.i c5)] true)]) (gs1:= []) (gs2:= [(ρ1,1,(c3.map<|a0 1<|AV.i))]) rfl J (fun hK=>dD _ _ _ ho8 _ hK) rfl rfl (fun _=>rfl) rfl (by exact(.cons rfl<|.cons rfl .nil)) rfl<|fun σ9 a10 hF J=> ?_;refine aA<|aB<|aC<|wu rfl ?_;obtain⟨r15,h15,u⟩:=bs u;refine wcD (gY h15) rfl rfl (.cons rfl .nil)<|aA<|aO ?_;refine aFd (S:= [(2,(.aG (.ptr β1 0) 0)),(3,(.aG (aD s1) 0)),(17,(.func 168 [] [(.aG (aD r15) 0)]))]) (.cons rfl<|.cons rfl<|.cons rfl .nil)<|fun ε16=> ?_;obtain⟨κ18,ℓ17,σ19,hl20,J⟩:=yY (params:= [18,19]) (assign:=Code.fB) (body:=Code.eZ) (fr:=⟨bB ε16 [(2,(.aG (.ptr β1 0) 0)),(3,(.aG (aD s1) 0)),(17,(.func 168 [] [(.aG (aD r15) 0)]))],[]⟩) J;refine yP hl20 rfl rfl ?_;obtain⟨o47,hr47,u⟩:=bs u;have J:=J.aV 2 rfl;have J:=J.aV 1 rfl;rcases o47 with r47|p52
   ·rcases Bool.eq_false_or_eq_true (r47.1==(none:Option Nat)) with hc|hc
    ·replace u:=bE hc u;refine qQ (bs1:= [(ℓ17,.loop ⟨eU none,bR none,bB ε16 [(2,(.aG (.ptr β1 0) 0)),(3,(.aG (aD s1) 0)),(17,(.func 168 [] [(.aG (aD r15) 0)]))],κ18,[18,19],Code.fB,Code.eZ⟩),(β1,.cells [(.str c2),ρ1,(.i c4),(.i c5)] true)]) (bs2:= [(κ18,.tW)]) (gs1:= [(ρ1,1,(c3.map<|a0 1<|AV.i))]) (gs2:= []) (pd:=r47.1) (ex:= .normal) J (fun hK=>ih_linear_clause_match_s0_i0 _ _ _ _ _ _ _ hr47 _ ε16 κ18 ℓ17 β1 ρ1 hK) rfl rfl (fun _=>rfl) (by rw [eq_of_beq hc];rfl)<|fun σ48 a49 hF J=> ?_;cases u;obtain⟨σ50,J,h51⟩:=J.mark 1 rfl;exact⟨rfl,σ50,(h51<|fun _=>rfl),iF rfl ⟨a49,trivial,(J.vC 1)⟩⟩
    ·replace u:=bC hc u;cases u
   ·refine aCz (bs1:= [(ℓ17,.loop ⟨eU none,bR none,bB ε16 [(2,(.aG (.ptr β1 0) 0)),(3,(.aG (aD s1) 0)),(17,(.func 168 [] [(.aG (aD r15) 0)]))],κ18,[18,19],Code.fB,Code.eZ⟩),(β1,.cells [(.str c2),ρ1,(.i c4),(.i c5)] true)]) (bs2:= [(κ18,.tW)]) (gs1:= [(ρ1,1,(c3.map<|a0 1<|AV.i))]) (gs2:= []) J (fun hK=>ih_linear_clause_match_s0_i0 _ _ _ _ _ _ _ hr47 _ ε16 κ18 ℓ17 β1 ρ1 hK) rfl rfl<|fun σ53 J=> ?_;cases u;obtain⟨σ54,J,h55⟩:=J.mark 0 rfl;exact⟨rfl,σ54,(h55<|fun _=>rfl),J.ext⟩
  ·refine iR (bs1:= []) (bs2:= [(β1,.cells [(.str c2),ρ1,(.i c4),(.i c5)] true)]) (gs1:= []) (gs2:= [(ρ1,1,(c3.map<|a0 1<|AV.i))]) rfl J (fun hK=>dD _ _ _ ho8 _ hK) rfl rfl rfl (by exact(.cons rfl<|.cons rfl .nil)) rfl<|fun σ14 J=> ?_;cases u;exact⟨rfl,_,fun _=>rfl,J.ext⟩
 ·intro _f0 ih_linear_clause_match_s0_i0_l0 s1 c2 r15 c21 c22 c23 r u;intro s ε16 κ18 ℓ17 β1 or0_1 hK;refine uY r (v:=fun q:((Option Nat)×(List<|List Int)×Int×Int)=>(.tuple [])) (bs:=fun(q:((Option Nat)×(List<|List Int)×Int×Int))=>(fun a:AV=> [(ℓ17,.loop ⟨eU q.1,bR q.1,bB ε16 [(2,(.aG (.ptr β1 0) 0)),(3,(.aG (aD s1) 0)),(17,(.func 168 [] [(.aG (aD r15) 0)]))],κ18,[18,19],Code.fB,Code.eZ⟩),(β1,.cells [(.str c2),a,(.i q.2.2.1),(.i q.2.2.2)] true)])) (gs:=fun(q:((Option Nat)×(List<|List Int)×Int×Int))=>(fun a:AV=> [(a,1,(q.2.1.map<|a0 1<|AV.i))])) (fs:=fun(q:((Option Nat)×(List<|List Int)×Int×Int))=>(fun a:AV=>True)) hK (fun _ _=>rfl) (fun _ a q hq=>by
   simp only [List.mem_cons,List.not_mem_nil,or_false] at hq;subst hq;exact⟨_,(.tail _ (.head _)),_,_,rfl,(.tail _ (.head _))⟩) rfl rfl rfl ?_
  have J:=hK.start;generalize aU s=σ1 at J⊢;refine aB<|aC<|wu rfl<|wu rfl<|wu rfl<|bI (f:=aP) (l:=r15.expr.l) rfl (.no _)<|wu rfl<|wu rfl<|wu rfl<|bI (f:=aZ) (l:=r15.expr.aT) rfl (.no _)<|wu rfl<|wu rfl<|aA<|aO ?_;obtain⟨o1058,h1058,u⟩:=bs u;have J:=J.aV 1 rfl;have J:=J.aV 1 rfl;refine bV (fun e=>ih_linear_clause_match_s0_i0_l0 _ _ _ _ _ _ _ _ _ _ h1058 e s _ ε16 κ18 or0_1 ℓ17 β1 or0_1 J) (.cons rfl<|.cons rfl<|.cons rfl<|.cons rfl .nil) ?_
  rintro _ _ _ hq
  rcases o1058 with q1059|q1060
  ·obtain⟨rfl,hq⟩:=hq;cases u;exact hq
  ·rcases q1060 with q1061|q1062
   ·obtain⟨rfl,hq⟩:=hq;cases u;exact⟨rfl,hq⟩
   ·obtain⟨rfl,w1063_1,e1064,rfl,J⟩:=hq;cases u;have J:=J.aV 1 rfl;have J:=J.aV 1 rfl;exact⟨rfl,_,fun _=>rfl,iF rfl ⟨w1063_1,trivial,J⟩⟩
 ·intro _f0 _f1 ih_linear_clause_match_s0_i0_l0 ih_linear_clause_match_s0_r0 s1 c2 r15 c21 x1047 c1048 c1049 c1050 c1051 o u;intro e s sv ε16 κ18 or0_1 ℓ17 β1 ow0_1 J;refine bM<|aB<|aC<|wu rfl<|aA<|aB ?_;refine aF u rfl (fun hc u=> ?_)<|fun hc u=> ?_
  ·refine aJ<|aB<|aO<|aB<|aC<|wu rfl<|wu rfl<|aA<|aB<|aC<|wu rfl<|wu rfl<|wu rfl<|wu rfl ?_;obtain⟨r1052,h1052,u⟩:=bs u;refine wcD (cE h1052) rfl rfl (.cons rfl<|.cons rfl .nil) ?_;rcases Bool.eq_false_or_eq_true (c1048==(none:Option Nat)) with hc|hc
   ·replace u:=bE hc u;have J:=J.aBq (b1:= .loop ⟨eU none,bR none,bB ε16 [(2,(.aG (.ptr β1 0) 0)),(3,(.aG (aD s1) 0)),(17,(.func 168 [] [(.aG (aD r15) 0)]))],κ18,[18,19],Code.fB,Code.eZ⟩) 0 rfl (by rw [eq_of_beq hc]);obtain⟨o1053,h1053,u⟩:=bs u;have J:=J.aV 1 rfl;have J:=J.aV 1 rfl;rcases o1053 with r1053|p1056
    ·refine cN rfl (bs1:= [(ℓ17,.loop ⟨eU none,bR none,bB ε16 [(2,(.aG (.ptr β1 0) 0)),(3,(.aG (aD s1) 0)),(17,(.func 168 [] [(.aG (aD r15) 0)]))],κ18,[18,19],Code.fB,Code.eZ⟩),(β1,.cells [(.str c2),ow0_1,(.i c1050),(.i c1051)] true)]) (bs2:= []) (gs1:= [(ow0_1,1,(c1049.map<|a0 1<|AV.i))]) (gs2:= []) rfl J (fun hK=>ih_linear_clause_match_s0_r0 _ _ _ _ _ _ _ _ _ h1053 _ ε16 κ18 ℓ17 β1 ow0_1 hK) rfl rfl (fun _=>rfl) rfl (by exact(.cons rfl<|.cons rfl .nil)) rfl<|fun σ1054 a1055 hF J=> ?_;refine wu rfl<|aA ?_;refine aF u rfl (fun hc u=> ?_)<|fun hc u=> ?_
     ·refine aK ?_;cases u;have J:=J.aV 1 rfl;have J:=J.aV 1 rfl;exact⟨rfl,⟨rfl,_,fun _=>rfl,iF rfl ⟨a1055,trivial,J⟩⟩⟩
     ·refine aJ<|aC<|wu rfl<|wu rfl<|aA ?_;have J:=J.aV 1 rfl;have J:=J.aV 1 rfl;exact bV (fun e=>ih_linear_clause_match_s0_i0_l0 _ _ _ _ _ _ _ _ _ _ u e s _ ε16 κ18 or0_1 ℓ17 β1 a1055 J) (.cons rfl<|.cons rfl<|.cons rfl<|.cons rfl .nil)<|fun _ _ _ h=>h
    ·refine iR (bs1:= [(ℓ17,.loop ⟨eU none,bR none,bB ε16 [(2,(.aG (.ptr β1 0) 0)),(3,(.aG (aD s1) 0)),(17,(.func 168 [] [(.aG (aD r15) 0)]))],κ18,[18,19],Code.fB,Code.eZ⟩),(β1,.cells [(.str c2),ow0_1,(.i c1050),(.i c1051)] true)]) (bs2:= []) (gs1:= [(ow0_1,1,(c1049.map<|a0 1<|AV.i))]) (gs2:= []) rfl J (fun hK=>ih_linear_clause_match_s0_r0 _ _ _ _ _ _ _ _ _ h1053 _ ε16 κ18 ℓ17 β1 ow0_1 hK) rfl rfl rfl (by exact(.cons rfl<|.cons rfl .nil)) rfl<|fun σ1057 J=> ?_;cases u;exact⟨rfl,_,fun _=>rfl,J.ext⟩
   ·replace u:=bC hc u;cases u
  ·refine bY ?_;cases u;have J:=J.aV 1 rfl;have J:=J.aV 1 rfl;exact⟨rfl,ow0_1,_,frE .nil,J⟩
 ·intro _f0 ih_linear_clause_look_s0 s1 c2 r15 x24 x25 c21 c22 c23 r u;intro s ε16 κ18 ℓ17 β1 or0_1 hK;refine aGN r (b:=fun q:((Option Nat)×(List<|List Int)×Int×Int)=>q.1.isNone) (bs:=fun(q:((Option Nat)×(List<|List Int)×Int×Int))=>(fun a:AV=> [(ℓ17,.loop ⟨eU q.1,bR q.1,bB ε16 [(2,(.aG (.ptr β1 0) 0)),(3,(.aG (aD s1) 0)),(17,(.func 168 [] [(.aG (aD r15) 0)]))],κ18,[18,19],Code.fB,Code.eZ⟩),(β1,.cells [(.str c2),a,(.i q.2.2.1),(.i q.2.2.2)] true)])) (gs:=fun(q:((Option Nat)×(List<|List Int)×Int×Int))=>(fun a:AV=> [(a,1,(q.2.1.map<|a0 1<|AV.i))])) (fs:=fun(q:((Option Nat)×(List<|List Int)×Int×Int))=>(fun a:AV=>True)) rfl ?_;refine yX (lp:=⟨.ready,none,bB ε16 [(2,(.aG (.ptr β1 0) 0)),(3,(.aG (aD s1) 0)),(17,(.func 168 [] [(.aG (aD r15) 0)]))],κ18,[18,19],Code.fB,Code.eZ⟩) (hK.b _<|.head _) rfl rfl ?_;have J:=hK.st;refine aB<|aC<|wu rfl<|aA<|aC<|wu rfl<|wu rfl<|aA ?_;obtain⟨σ26,hr27,J⟩:=J.j6 0 rfl rfl;refine⟨rfl,rfl,σ26,hr27,?_⟩;refine aO<|aB<|aB<|aC<|wu rfl<|wu rfl<|aA ?_;refine aF u rfl (fun hc u=> ?_)<|fun hc u=> ?_
  ·refine bY ?_;cases u;obtain⟨σ28,hs29,J⟩:=J.eR 0 rfl (fun lp=>{lp with st:= .ready,pend:=none});have J:=J.aV 1 rfl;have J:=J.aV 1 rfl;exact⟨rfl,σ28,hs29,rfl,or0_1,trivial,J⟩
  ·refine aJ<|aB<|aC<|wu rfl<|wu rfl<|wu rfl<|wu rfl<|wu rfl<|wu rfl<|wu rfl<|lA 1 rfl J rfl rfl rfl ?_;obtain⟨r30,h30,u⟩:=bs u;refine wcD (jW h30) rfl rfl (.cons rfl<|.cons rfl<|.cons rfl .nil) ?_;obtain⟨o31,ho31,u⟩:=bs u;rcases o31 with r31|p36
   ·refine cN rfl (bs1:= []) (bs2:= [(ℓ17,.loop ⟨.busy,none,bB ε16 [(2,(.aG (.ptr β1 0) 0)),(3,(.aG (aD s1) 0)),(17,(.func 168 [] [(.aG (aD r15) 0)]))],κ18,[18,19],Code.fB,Code.eZ⟩),(β1,.cells [(.str c2),or0_1,(.i c22),(.i c23)] true)]) (gs1:= []) (gs2:= [(or0_1,1,(c21.map<|a0 1<|AV.i))]) rfl J (fun hK=>dD _ _ _ ho31 _ hK) rfl rfl (fun _=>rfl) rfl (by exact(.cons rfl<|.cons rfl .nil)) rfl<|fun σ32 a33 hF J=> ?_;refine aA<|aC<|wu rfl<|wu rfl ?_;obtain⟨o38,ho38,u⟩:=bs u;have J:=J.aV 1 rfl;rcases o38 with r38|p43
    ·refine cN rfl (bs1:= [(β1,.cells [(.str c2),or0_1,(.i c22),(.i c23)] true)]) (bs2:= [(ℓ17,.loop ⟨.busy,none,bB ε16 [(2,(.aG (.ptr β1 0) 0)),(3,(.aG (aD s1) 0)),(17,(.func 168 [] [(.aG (aD r15) 0)]))],κ18,[18,19],Code.fB,Code.eZ⟩)]) (gs1:= [(or0_1,1,(c21.map<|a0 1<|AV.i))]) (gs2:= []) rfl J (fun hK=>ih_linear_clause_look_s0 _ _ _ _ _ _ ho38 _ β1 or0_1 hK) rfl rfl (fun _=>rfl) rfl (by exact(.cons rfl<|.cons rfl .nil)) rfl<|fun σ39 a40 hF J=> ?_;refine aA ?_;cases u;obtain⟨σ45,hs46,J⟩:=J.eR 1 rfl (fun lp=>{lp with st:= .ready,pend:=none});have J:=J.aV 1 rfl;exact⟨rfl,σ45,hs46,rfl,a40,trivial,J⟩
    ·refine iR (bs1:= [(β1,.cells [(.str c2),or0_1,(.i c22),(.i c23)] true)]) (bs2:= [(ℓ17,.loop ⟨.busy,none,bB ε16 [(2,(.aG (.ptr β1 0) 0)),(3,(.aG (aD s1) 0)),(17,(.func 168 [] [(.aG (aD r15) 0)]))],κ18,[18,19],Code.fB,Code.eZ⟩)]) (gs1:= [(or0_1,1,(c21.map<|a0 1<|AV.i))]) (gs2:= []) rfl J (fun hK=>ih_linear_clause_look_s0 _ _ _ _ _ _ ho38 _ β1 or0_1 hK) rfl rfl rfl (by exact(.cons rfl<|.cons rfl .nil)) rfl<|fun σ44 J=> ?_;cases u;exact⟨rfl,rfl,J.ext⟩
   ·refine iR (bs1:= []) (bs2:= [(ℓ17,.loop ⟨.busy,none,bB ε16 [(2,(.aG (.ptr β1 0) 0)),(3,(.aG (aD s1) 0)),(17,(.func 168 [] [(.aG (aD r15) 0)]))],κ18,[18,19],Code.fB,Code.eZ⟩),(β1,.cells [(.str c2),or0_1,(.i c22),(.i c23)] true)]) (gs1:= []) (gs2:= [(or0_1,1,(c21.map<|a0 1<|AV.i))]) rfl J (fun hK=>dD _ _ _ ho31 _ hK) rfl rfl rfl (by exact(.cons rfl<|.cons rfl .nil)) rfl<|fun σ37 J=> ?_;cases u;exact⟨rfl,rfl,J.ext⟩
 ·intro _f0 ih_linear_clause_look_s0 s1 c2 c3 c4 c5 r u;intro s β1 ρ1 hK;refine uY r (v:=fun q:((List<|List Int)×Int×Int)=>(.tuple [])) (bs:=fun(q:((List<|List Int)×Int×Int))=>(fun a:AV=> [(β1,.cells [(.str c2),a,(.i q.2.1),(.i q.2.2)] true)])) (gs:=fun(q:((List<|List Int)×Int×Int))=>(fun a:AV=> [(a,1,(q.1.map<|a0 1<|AV.i))])) (fs:=fun(q:((List<|List Int)×Int×Int))=>(fun a:AV=>True)) hK (fun _ _=>rfl) (fun _ a q hq=>by
   simp only [List.mem_cons,List.not_mem_nil,or_false] at hq;subst hq;exact⟨_,(.head _),_,_,rfl,(.tail _ (.head _))⟩) rfl rfl rfl ?_
  have J:=hK.start;generalize aU s=σ1 at J⊢;refine aB<|aC<|wu rfl<|aA<|aB<|aC<|wu rfl ?_;obtain⟨r6,hr6,u⟩:=bs u;refine wcD (cE hr6) rfl rfl (.cons rfl<|.cons rfl .nil)<|wu rfl<|wu rfl<|wu rfl<|lA 0 rfl J rfl rfl rfl ?_;obtain⟨r7,hr7,u⟩:=bs u;refine wcD (iL hr7) rfl rfl (.cons rfl<|.cons rfl<|.cons rfl<|.cons rfl .nil)<|wu rfl<|wu rfl ?_;obtain⟨or8,ho8,u⟩:=bs u;rcases or8 with r8|p13
  ·refine cN rfl (bs1:= []) (bs2:= [(β1,.cells [(.str c2),ρ1,(.i c4),(.i c5)] true)]) (gs1:= []) (gs2:= [(ρ1,1,(c3.map<|a0 1<|AV.i))]) rfl J (fun hK=>dD _ _ _ ho8 _ hK) rfl rfl (fun _=>rfl) rfl (by exact(.cons rfl<|.cons rfl .nil)) rfl<|fun σ9 a10 hF J=> ?_;refine aA<|aB<|aC<|wu rfl<|wu rfl ?_;obtain⟨r15,h15,u⟩:=bs u;refine wcD (cE h15) rfl rfl (.cons rfl<|.cons rfl .nil) ?_;obtain⟨o16,ho16,u⟩:=bs u;rcases o16 with r16|p21
   ·refine cN rfl (bs1:= [(β1,.cells [(.str c2),ρ1,(.i c4),(.i c5)] true)]) (bs2:= []) (gs1:= [(ρ1,1,(c3.map<|a0 1<|AV.i))]) (gs2:= []) rfl J (fun hK=>ih_linear_clause_look_s0 _ _ _ _ _ _ ho16 _ β1 ρ1 hK) rfl rfl (fun _=>rfl) rfl (by exact(.cons rfl<|.cons rfl .nil)) rfl<|fun σ17 a18 hF J=> ?_;refine aA<|aC<|wu rfl<|wu rfl ?_;obtain⟨r23,h23,u⟩:=bs u;refine wcD (cE h23) rfl rfl (.cons rfl<|.cons rfl .nil) ?_;obtain⟨o24,ho24,u⟩:=bs u;rcases o24 with r24|p29
    ·refine cN rfl (bs1:= [(β1,.cells [(.str c2),a18,(.i r16.2.1),(.i r16.2.2)] true)]) (bs2:= []) (gs1:= [(a18,1,(r16.1.map<|a0 1<|AV.i))]) (gs2:= []) rfl J (fun hK=>ih_linear_clause_look_s0 _ _ _ _ _ _ ho24 _ β1 a18 hK) rfl rfl (fun _=>rfl) rfl (by exact(.cons rfl<|.cons rfl .nil)) rfl<|fun σ25 a26 hF J=> ?_;refine aA ?_;cases u;exact⟨rfl,_,fun _=>rfl,iF rfl ⟨a26,trivial,J⟩⟩
    ·refine iR (bs1:= [(β1,.cells [(.str c2),a18,(.i r16.2.1),(.i r16.2.2)] true)]) (bs2:= []) (gs1:= [(a18,1,(r16.1.map<|a0 1<|AV.i))]) (gs2:= []) rfl J (fun hK=>ih_linear_clause_look_s0 _ _ _ _ _ _ ho24 _ β1 a18 hK) rfl rfl rfl (by exact(.cons rfl<|.cons rfl .nil)) rfl<|fun σ30 J=> ?_;cases u;exact⟨rfl,_,fun _=>rfl,J.ext⟩
   ·refine iR (bs1:= [(β1,.cells [(.str c2),ρ1,(.i c4),(.i c5)] true)]) (bs2:= []) (gs1:= [(ρ1,1,(c3.map<|a0 1<|AV.i))]) (gs2:= []) rfl J (fun hK=>ih_linear_clause_look_s0 _ _ _ _ _ _ ho16 _ β1 ρ1 hK) rfl rfl rfl (by exact(.cons rfl<|.cons rfl .nil)) rfl<|fun σ22 J=> ?_;cases u;exact⟨rfl,_,fun _=>rfl,J.ext⟩
  ·refine iR (bs1:= []) (bs2:= [(β1,.cells [(.str c2),ρ1,(.i c4),(.i c5)] true)]) (gs1:= []) (gs2:= [(ρ1,1,(c3.map<|a0 1<|AV.i))]) rfl J (fun hK=>dD _ _ _ ho8 _ hK) rfl rfl rfl (by exact(.cons rfl<|.cons rfl .nil)) rfl<|fun σ14 J=> ?_;cases u;exact⟨rfl,_,fun _=>rfl,J.ext⟩
 ·intro _f0 ih_linear_clause_look_s0 s1 c2 c3 c4 c5 r u;intro s β1 ρ1 hK;refine uY r (v:=fun q:((List<|List Int)×Int×Int)=>(.tuple [])) (bs:=fun(q:((List<|List Int)×Int×Int))=>(fun a:AV=> [(β1,.cells [(.str c2),a,(.i q.2.1),(.i q.2.2)] true)])) (gs:=fun(q:((List<|List Int)×Int×Int))=>(fun a:AV=> [(a,1,(q.1.map<|a0 1<|AV.i))])) (fs:=fun(q:((List<|List Int)×Int×Int))=>(fun a:AV=>True)) hK (fun _ _=>rfl) (fun _ a q hq=>by
   simp only [List.mem_cons,List.not_mem_nil,or_false] at hq;subst hq;exact⟨_,(.head _),_,_,rfl,(.tail _ (.head _))⟩) rfl rfl rfl ?_
  have J:=hK.start;generalize aU s=σ1 at J⊢;refine aB<|aC<|wu rfl<|wu rfl<|aA<|aB<|aC<|wu rfl ?_;obtain⟨r6,hr6,u⟩:=bs u;refine wcD (cE hr6) rfl rfl (.cons rfl<|.cons rfl .nil)<|wu rfl ?_;obtain⟨r7,hr7,u⟩:=bs u;refine wcD (cE hr7) rfl rfl (.cons rfl<|.cons rfl .nil)<|wu rfl<|wu rfl<|wu rfl<|wu rfl<|aA<|aB<|aB<|aC<|wu rfl<|wu rfl ?_;obtain⟨r8,hr8,u⟩:=bs u;refine cN rfl (bs1:= [(β1,.cells [(.str c2),ρ1,(.i c4),(.i c5)] true)]) (bs2:= []) (gs1:= [(ρ1,1,(c3.map<|a0 1<|AV.i))]) (gs2:= []) rfl J (fun hK=>m4 _ _ _ _ _ _ hr8 _ β1 ρ1 hK) rfl rfl (fun _=>rfl) rfl (by exact(.cons rfl<|.cons rfl .nil)) rfl<|fun σ9 a10 hF J=> ?_;refine aA ?_;refine aF u rfl (fun hc u=> ?_)<|fun hc u=> ?_
  ·refine aB<|aC<|wu rfl<|wu rfl ?_;obtain⟨o13,ho13,u⟩:=bs u;rcases o13 with r13|p18
   ·refine cN rfl (bs1:= [(β1,.cells [(.str c2),a10,(.i c4),(.i c5)] true)]) (bs2:= []) (gs1:= [(a10,1,(c3.map<|a0 1<|AV.i))]) (gs2:= []) rfl J (fun hK=>gU _ _ _ _ _ _ ho13 _ β1 a10 hK) rfl rfl (fun _=>rfl) rfl (by exact(.cons rfl<|.cons rfl .nil)) rfl<|fun σ14 a15 hF J=> ?_;refine aA<|aB<|aB<|aC<|wu rfl<|wu rfl<|wu rfl ?_;obtain⟨y20,h20,u⟩:=bs u;refine bT (f:=AV.str) rfl (.no _) rfl h20 rfl<|wu rfl<|wu rfl<|wu rfl<|wu rfl<|lA 0 rfl J rfl rfl rfl<|wu rfl<|aA ?_;obtain⟨o21,h21,u⟩:=bs u;refine Wk.mono (Q:=fun ex fr s'=>(match o21 with| .ret oq0=>aOE (pG oq0) (Ext [β1] (dA [(ρ1,1,(c3.map<|a0 1<|AV.i))]) s) ex fr s'| .nx oq1=>ex= .normal∧ ∃(e:Env),fr=⟨bB e [],[]⟩∧St [β1] (dA [(ρ1,1,(c3.map<|a0 1<|AV.i))]) s s' [(β1,.cells [(.str c2),a15,(.i r13.2.1),(.i r13.2.2)] true)] [(a15,1,(r13.1.map<|a0 1<|AV.i))])) ?_ ?_
    ·refine aF h21 rfl (fun hc h21=> ?_)<|fun hc h21=> ?_
     ·refine aC<|wu rfl<|wu rfl<|wu rfl<|wu rfl<|lA 0 rfl J rfl rfl rfl ?_;obtain⟨r22,h22,h21⟩:=bs h21;refine wcD (qC h22) rfl rfl (.cons rfl<|.cons rfl .nil)<|wu rfl<|wu rfl ?_;obtain⟨o23,ho23,h21⟩:=bs h21;rcases o23 with r23|p28
      ·refine cN rfl (bs1:= []) (bs2:= [(β1,.cells [(.str c2),a15,(.i r13.2.1),(.i r13.2.2)] true)]) (gs1:= []) (gs2:= [(a15,1,(r13.1.map<|a0 1<|AV.i))]) rfl J (fun hK=>dD _ _ _ ho23 _ hK) rfl rfl (fun _=>rfl) rfl (by exact(.cons rfl<|.cons rfl .nil)) rfl<|fun σ24 a25 hF J=> ?_;refine aA ?_;cases h21;exact⟨rfl,_,frE .nil,J⟩
      ·refine iR (bs1:= []) (bs2:= [(β1,.cells [(.str c2),a15,(.i r13.2.1),(.i r13.2.2)] true)]) (gs1:= []) (gs2:= [(a15,1,(r13.1.map<|a0 1<|AV.i))]) rfl J (fun hK=>dD _ _ _ ho23 _ hK) rfl rfl rfl (by exact(.cons rfl<|.cons rfl .nil)) rfl<|fun σ29 J=> ?_;cases h21;exact⟨rfl,_,fun _=>rfl,J.ext⟩
     ·refine aJ ?_;cases h21;exact⟨rfl,_,frE .nil,J⟩
    ·rintro _ _ _ hq
     rcases o21 with q30|q31
     ·obtain⟨rfl,hq⟩:=hq;cases u;exact⟨rfl,hq⟩
     ·obtain⟨rfl,e33,rfl,J⟩:=hq;refine aK ?_;cases u;exact⟨rfl,_,fun _=>rfl,iF rfl ⟨a15,trivial,J⟩⟩
   ·refine iR (bs1:= [(β1,.cells [(.str c2),a10,(.i c4),(.i c5)] true)]) (bs2:= []) (gs1:= [(a10,1,(c3.map<|a0 1<|AV.i))]) (gs2:= []) rfl J (fun hK=>gU _ _ _ _ _ _ ho13 _ β1 a10 hK) rfl rfl rfl (by exact(.cons rfl<|.cons rfl .nil)) rfl<|fun σ19 J=> ?_;cases u;exact⟨rfl,_,fun _=>rfl,J.ext⟩
  ·refine aJ<|aB<|aC<|wu rfl<|wu rfl ?_;refine wgv (v:=(.slice 1 [(.func 172 [] [(.aG (aD r6) 0),(.aG (.ptr β1 0) 0)]),(.func 173 [] [(.aG (aD s1) 0),(.aG (.ptr β1 0) 0)])] .full)) rfl rfl (by kernel_rfl) ?_;obtain⟨r35,h35,u⟩:=bs u;refine cN rfl (bs1:= [(β1,.cells [(.str c2),a10,(.i c4),(.i c5)] true)]) (bs2:= []) (gs1:= [(a10,1,(c3.map<|a0 1<|AV.i))]) (gs2:= []) rfl J (fun hK=>aA4 _ _ _ _ _ _ _ h35 _ β1 a10 hK) rfl rfl (fun _=>rfl) rfl (by exact(.cons rfl .nil)) rfl<|fun σ36 a37 hF J=> ?_;refine wu rfl<|wu rfl<|wu rfl<|wu rfl<|wu rfl<|aA<|aB<|aC<|wu rfl<|wu rfl ?_;obtain⟨o40,ho40,u⟩:=bs u;rcases o40 with r40|p45
   ·refine cN rfl (bs1:= []) (bs2:= [(β1,.cells [(.str c2),a37,(.i c4),(.i c5)] true)]) (gs1:= []) (gs2:= [(a37,1,(c3.map<|a0 1<|AV.i))]) rfl J (fun hK=>dD _ _ _ ho40 _ hK) rfl rfl (fun _=>rfl) rfl (by exact(.cons rfl<|.cons rfl .nil)) rfl<|fun σ41 a42 hF J=> ?_;refine aA<|aC<|wu rfl<|wu rfl ?_;obtain⟨o47,ho47,u⟩:=bs u;rcases o47 with r47|p52
    ·refine cN rfl (bs1:= [(β1,.cells [(.str c2),a37,(.i c4),(.i c5)] true)]) (bs2:= []) (gs1:= [(a37,1,(c3.map<|a0 1<|AV.i))]) (gs2:= []) rfl J (fun hK=>ih_linear_clause_look_s0 _ _ _ _ _ _ ho47 _ β1 a37 hK) rfl rfl (fun _=>rfl) rfl (by exact(.cons rfl<|.cons rfl .nil)) rfl<|fun σ48 a49 hF J=> ?_;refine aA ?_;cases u;exact⟨rfl,_,fun _=>rfl,iF rfl ⟨a49,trivial,J⟩⟩
    ·refine iR (bs1:= [(β1,.cells [(.str c2),a37,(.i c4),(.i c5)] true)]) (bs2:= []) (gs1:= [(a37,1,(c3.map<|a0 1<|AV.i))]) (gs2:= []) rfl J (fun hK=>ih_linear_clause_look_s0 _ _ _ _ _ _ ho47 _ β1 a37 hK) rfl rfl rfl (by exact(.cons rfl<|.cons rfl .nil)) rfl<|fun σ53 J=> ?_;cases u;exact⟨rfl,_,fun _=>rfl,J.ext⟩
   ·refine iR (bs1:= []) (bs2:= [(β1,.cells [(.str c2),a37,(.i c4),(.i c5)] true)]) (gs1:= []) (gs2:= [(a37,1,(c3.map<|a0 1<|AV.i))]) rfl J (fun hK=>dD _ _ _ ho40 _ hK) rfl rfl rfl (by exact(.cons rfl<|.cons rfl .nil)) rfl<|fun σ46 J=> ?_;cases u;exact⟨rfl,_,fun _=>rfl,J.ext⟩
theorem n5: ∀(s1:aE)(c2:Str)(c3:(List<|List Int))(c4:Int)(c5:Int)(r:(Ctl ((List<|List Int)×Int×Int) Pan)),cK s1 c2 c3 c4 c5=some r→kL s1 c2 c3 c4 c5 r:=sP.2.1
end Go.Proofs.YtelnnehpbkainaaGreatDoor
