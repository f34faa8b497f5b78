/- Our own framework, the program's cooked code, and the proofs that a claim leans on: joined and shortened by a program of the prover's own. -/
import Derived.Test.YtfcfnkffgiklpaaProg
import Derived.KernelRfl
import Derived.Test.YtfcfnkffgiklpaaRows
import Derived.ProofKit
import Derived.OpenShut
import Derived.LaidMore
import Derived.Lay
import Derived.SevenTiedAt
import Derived.Stop.Joined
import Derived.Deep.DeepHandedRow
import Derived.JoinedCond
import Derived.Test.YtfcfnkffgiklpaaPk2
set_option linter.unusedVariables false
set_option linter.unusedSimpArgs false
set_option maxRecDepth 100000
namespace Go.Proofs.Ytfcfnkffgiklpaa.Code
open Go Go.Fw
theorem fk{P:Program}{k:Nat}{fn:Func}{a:AF}(h:Hint)(h1:P.funcs[k]?=some fn)(h2:nE P h fn=some a)(h3:(gD fn.ntmps false a.body&& !(fn.name== "runtime.NumGoroutine"))=true):fA P k a:=by
 simp only [Bool.and_eq_true,Bool.not_eq_true'] at h3;exact⟨fn,h,h1,h2,h3.1,h3.2⟩
theorem fd{k:Nat}{h:Hint}(h2:(match Try.prog.funcs[k]? with|some fn=>(nE Try.prog h fn).isSome&&gD fn.ntmps false (ck h fn).body&& !(fn.name== "runtime.NumGoroutine")|none=>false)=true):fA Try.prog k (cD k h):=by
 unfold cD;cases hf:Try.prog.funcs[k]? with
 |none=>rw [hf] at h2;cases h2
 |some fn=>
  rw [hf] at h2;simp only [Bool.and_eq_true,Bool.not_eq_true'] at h2;refine⟨fn,h,hf,?_,h2.1.2,h2.2⟩;show nE Try.prog h fn=some (ck h fn);unfold ck;cases hc:nE Try.prog h fn with
  |none=>rw [hc] at h2;exact absurd h2.1.1 (by decide)
  |some a=>rfl
theorem q3:fA Try.prog 3 c3:=fk ⟨[5],[19,17],[109,91,81,76,74,70,63,56,50,44,38,34,22],[],[],[]⟩ Try.func3 (by kernel_rfl) (by kernel_rfl)
theorem q4:fA Try.prog 4 c4:=fk ⟨[4],[9],[143,140,124,118,112,108,105,96,88,78,58,50,41,37,34,20],[],[],[]⟩ Try.func4 (by kernel_rfl) (by kernel_rfl)
theorem q5:fA Try.prog 5 c5:=fk hz Try.func5 (by kernel_rfl) (by kernel_rfl)
theorem q6:fA Try.prog 6 c6:=fk ⟨[],[6,4],[40,26,21,16,10,12,15],[],[49,38,36,34],[]⟩ Try.func6 (by kernel_rfl) (by kernel_rfl)
theorem q7:fA Try.prog 7 c7:=fk ⟨[3],[],[18,16,10],[],[],[]⟩ Try.func7 (by kernel_rfl) (by kernel_rfl)
theorem q8:fA Try.prog 8 c8:=fk ⟨[3],[],[18,16,10],[],[],[]⟩ Try.func8 (by kernel_rfl) (by kernel_rfl)
theorem q9:fA Try.prog 9 c9:=fk ⟨[],[],[21,13,8],[],[],[]⟩ Try.func9 (by kernel_rfl) (by kernel_rfl)
theorem q10:fA Try.prog 10 c10:=fk ⟨[],[],[17,13,8],[],[],[]⟩ Try.func10 (by kernel_rfl) (by kernel_rfl)
theorem q11:fA Try.prog 11 c11:=fk ⟨[],[9],[21,12],[],[],[]⟩ Try.func11 (by kernel_rfl) (by kernel_rfl)
theorem q12:fA Try.prog 12 c12:=fk ⟨[],[],[19,11],[],[],[]⟩ Try.func12 (by kernel_rfl) (by kernel_rfl)
theorem q13:fA Try.prog 13 c13:=fk ⟨[],[4],[50,48,18],[],[39],[]⟩ Try.func13 (by kernel_rfl) (by kernel_rfl)
theorem q14:fA Try.prog 14 c14:=fk ⟨[],[],[57,46,18],[],[],[]⟩ Try.func14 (by kernel_rfl) (by kernel_rfl)
theorem q15:fA Try.prog 15 c15:=fk hz Try.func15 (by kernel_rfl) (by kernel_rfl)
theorem q16:fA Try.prog 16 c16:=fk ⟨[],[],[4],[],[],[]⟩ Try.func16 (by kernel_rfl) (by kernel_rfl)
theorem q17:fA Try.prog 17 c17:=fk hz Try.func17 (by kernel_rfl) (by kernel_rfl)
theorem q19:fA Try.prog 19 c19:=fk ⟨[3],[],[16],[24],[],[]⟩ Try.func19 (by kernel_rfl) (by kernel_rfl)
theorem q20:fA Try.prog 20 c20:=fk ⟨[],[],[4],[],[],[]⟩ Try.func20 (by kernel_rfl) (by kernel_rfl)
theorem q22:fA Try.prog 22 c22:=fk ⟨[],[],[8],[],[],[]⟩ Try.func22 (by kernel_rfl) (by kernel_rfl)
theorem q23:fA Try.prog 23 c23:=fk ⟨[],[8],[26,15],[],[],[]⟩ Try.func23 (by kernel_rfl) (by kernel_rfl)
theorem q24:fA Try.prog 24 c24:=fk hz Try.func24 (by kernel_rfl) (by kernel_rfl)
theorem q25:fA Try.prog 25 c25:=fk hz Try.func25 (by kernel_rfl) (by kernel_rfl)
theorem q26:fA Try.prog 26 c26:=fk ⟨[3,2],[],[16,14],[],[9],[]⟩ Try.func26 (by kernel_rfl) (by kernel_rfl)
theorem q27:fA Try.prog 27 c27:=fk ⟨[],[],[10,8],[],[],[]⟩ Try.func27 (by kernel_rfl) (by kernel_rfl)
theorem q28:fA Try.prog 28 c28:=fk ⟨[3,2],[],[],[],[],[]⟩ Try.func28 (by kernel_rfl) (by kernel_rfl)
theorem q29:fA Try.prog 29 c29:=fk ⟨[],[],[13],[],[],[]⟩ Try.func29 (by kernel_rfl) (by kernel_rfl)
theorem q32:fA Try.prog 32 c32:=fk ⟨[3,2],[],[8],[],[],[]⟩ Try.func32 (by kernel_rfl) (by kernel_rfl)
theorem q33:fA Try.prog 33 c33:=fk ⟨[],[],[31,17],[],[],[]⟩ Try.func33 (by kernel_rfl) (by kernel_rfl)
theorem q35:fA Try.prog 35 c35:=fk ⟨[],[],[10,8],[],[],[]⟩ Try.func35 (by kernel_rfl) (by kernel_rfl)
theorem q36:fA Try.prog 36 c36:=fk hz Try.func36 (by kernel_rfl) (by kernel_rfl)
theorem q37:fA Try.prog 37 c37:=fk hz Try.func37 (by kernel_rfl) (by kernel_rfl)
theorem q40:fA Try.prog 40 c40:=fk ⟨[],[],[20],[],[],[]⟩ Try.func40 (by kernel_rfl) (by kernel_rfl)
theorem q41:fA Try.prog 41 c41:=fk ⟨[],[],[10],[],[],[]⟩ Try.func41 (by kernel_rfl) (by kernel_rfl)
theorem q42:fA Try.prog 42 c42:=fk hz Try.func42 (by kernel_rfl) (by kernel_rfl)
theorem q43:fA Try.prog 43 c43:=fk hz Try.func43 (by kernel_rfl) (by kernel_rfl)
theorem aCJ:tab.list= [(3,c3),(4,c4),(5,c5),(6,c6),(7,c7),(8,c8),(9,c9),(10,c10),(11,c11),(12,c12),(13,c13),(14,c14),(15,c15),(16,c16),(17,c17),(19,c19),(20,c20),(22,c22),(23,c23),(24,c24),(25,c25),(26,c26),(27,c27),(28,c28),(29,c29),(32,c32),(33,c33),(35,c35),(36,c36),(37,c37),(40,c40),(41,c41),(42,c42),(43,c43)]:=by kernel_rfl
theorem aEW: ∀p∈tab.list,fA Try.prog p.1 p.2:=by
 rw [aCJ];exact aE0<|.cons q3<|.cons q4<|.cons q5<|.cons q6<|.cons q7<|.cons q8<|.cons q9<|.cons q10<|.cons q11<|.cons q12<|.cons q13<|.cons q14<|.cons q15<|.cons q16<|.cons q17<|.cons q19<|.cons q20<|.cons q22<|.cons q23<|.cons q24<|.cons q25<|.cons q26<|.cons q27<|.cons q28<|.cons q29<|.cons q32<|.cons q33<|.cons q35<|.cons q36<|.cons q37<|.cons q40<|.cons q41<|.cons q42<|.cons q43<|.nil
end Go.Proofs.Ytfcfnkffgiklpaa.Code
set_option maxRecDepth 100000
namespace Go.Proofs.Ytfcfnkffgiklpaa
open Go Go.Fw
theorem nX: ∀avs,Typed Try.prog [22,24,9,3] avs→ ∃n s',(cC PP n).call (.func 3) avs dF=some (.ret (.bool true),s'):=by
 intro avs h;cases h with|cons h1 h=>
 cases h with|cons h2 h=>
 cases h with|cons h3 h=>
 cases h with|cons h4 h=>
 cases h;obtain⟨v,hv⟩:=aF8 h1;obtain⟨x,hx⟩:=aF6 h2;obtain⟨e,he⟩:=rv9 h3;obtain⟨n,hn⟩:=rv3 h4;rw [hv,hx,he,hn];have hp:=lM (xG v x e n);obtain⟨⟨r,s'⟩,N,⟨v0,h1,h2⟩,h3⟩:=hp.ev.out;simp only at h1;subst h1;refine⟨N,s',(h3 N (Nat.le_refl _)).trans ?_⟩
 congr 3
 exact aB4 h2
end Go.Proofs.Ytfcfnkffgiklpaa
namespace Go.Proofs.Ytfcfnkffgiklpaa
open Go Go.Fw
theorem aES:POk Try.prog PP:=by
 have h:=aCr (P:=Try.prog) (t:=Code.tab) (gl:=gl0) Code.aEW (by kernel_rfl) (by kernel_rfl);exact⟨h.fn,h.kN,h.mixed⟩
theorem aEw:tO Try.prog PP:=aCR aES.kN rfl
end Go.Proofs.Ytfcfnkffgiklpaa
namespace Go.Proofs.Ytfcfnkffgiklpaa
open Go Go.Fw Go.ChangeShapes Go.WideShapes Go.ChangeAt Go.RowKit
set_option maxRecDepth 100000
theorem n4:ownKnob Try.prog.godebug=none:=by kernel_rfl
def gA:List TypeId:= [22,24,9,3]
theorem mA(os:Os)(started:os.Started)(H:Type)(enc:TypeId×Value→H):
  ReturnsInHanded {} Try.checked os 3 .any (fun w args=>(Rows.evidenceVectorsSpec.pre enc Try.prog Try.f3 Rows.evidenceVectorsRow.domain false w args∧laidMetH Try.prog Rows.evidenceVectorsRow.laid w)∧sizedMet enc Try.prog Try.f3 (OpenSpec.ofChange Rows.evidenceVectorsSpec) false w args)
   (Rows.evidenceVectorsSpec.post enc Try.prog Try.f3 false true false false):=by
 refine returnsInHanded_of_change_and (C:=Try.checked) (X:=fun w _=>laidMetH Try.prog Rows.evidenceVectorsRow.laid w) (fun _ _ _ hh h=>h.of_heap hh) n4 started (by kernel_rfl) Try.func3
  (ChangeSpec.witness_shaped (enc:=enc) (C:=Try.checked) (os:=os) (X:=fun w _=>laidMetH Try.prog Rows.evidenceVectorsRow.laid w) false (World.laidAll Try.prog os Rows.evidenceVectorsRow.laid) #[.slice none 0 0,.agg #[.string ⟨#[]⟩,.int .i64 0,.int .i64 0],.string ⟨#[]⟩,.int .i64 0] 8 (World.laidAll_os _ _ _)
   (World.shaped_of_ZipB (by kernel_rfl) (by kernel_rfl)) (by kernel_rfl) (by kernel_rfl) (by kernel_rfl)
   (by rw [MakeChecks.laidMetH_plain _ _ _ (by kernel_rfl)];exact laidMet_laidAll _ (by kernel_rfl) (by kernel_rfl))) ?_
 intro W base args ds gs before hval0 hW hc _ hL _;have hval: ∀(j:Nat) t v,Try.f3.params[j]?=some t→args[j]?=some v→Value.okWide Try.prog W .any base t v:=hval0;have hL2:laidMetH Try.prog Rows.evidenceVectorsRow.laid W:=hL;rw [MakeChecks.laidMetH_plain _ _ _ (by kernel_rfl)] at hL2;obtain⟨lps,hLV,_⟩:=hL2;have hts:gA.all (zJ Try.prog gA)=true:=by kernel_rfl
 have hg:cN (PP) (G0 W):=fun g=>aBO hts (by kernel_rfl) (by kernel_rfl) hLV g;exact xV (P:=Try.prog) (P':=PP) (ts:=gA) aES aEw (f:=3) (fn:=Try.f3) (af:=Code.c3) (by kernel_rfl) hts (by kernel_rfl) (by kernel_rfl) (by kernel_rfl) (tb:=4) (by kernel_rfl) (by kernel_rfl) (s:=Rows.evidenceVectorsSpec) rfl
  (fun ds hl=>by
   have hl':ds.length=4:=hl
   match ds,hl' with
   | [d0,d1,d2,d3],_=>simp [Rows.evidenceVectorsSpec])
  (fun avs h=>nX avs h) hval hW hg
theorem evidenceVectors_holds:Rows.EvidenceVectorsSaid:=
 OpenClaim.holds_of_wide 3 Try.f3 rfl rfl rfl rfl rfl rfl rfl ⟨rfl,rfl,rfl,rfl,rfl⟩ rfl rfl rfl rfl rfl (by kernel_rfl) Try.func3 (by kernel_rfl)
  (of_decide_eq_true (by kernel_rfl)) (by unfold Func.isWrapper;first|(rw [if_pos (by decide+kernel)];kernel_rfl)|(rw [if_neg (by decide+kernel)];exact⟨rfl,rfl⟩))
  (fun os started H enc _=>by rw [OpenClaim.pre_eq_preRow];exact mA os started H enc)
end Go.Proofs.Ytfcfnkffgiklpaa
