/- Our own framework, the program's cooked code, and the proofs that a claim leans on: joined and shortened by a program of the prover's own. -/
import Derived.Test.YtelnnehpbkainaaGreatDoorProg
import Derived.Laws.StructEq
import Derived.ChangeKeysEq
import Derived.Test.YtelnnehpbkainaaGreatDoorPk0
set_option linter.unusedVariables false
set_option linter.unusedSimpArgs false
set_option maxRecDepth 100000
namespace Go.Proofs.YtelnnehpbkainaaGreatDoor.Code
open Go Go.Fw
abbrev o(d:Nat)(x:AOp):AI:=⟨some d,x,none,[]⟩
abbrev g(d n:Nat)(b:Bool)(x:AOp):AI:=⟨some d,x,some (n,b),[]⟩
abbrev p(d:Nat)(l:List Nat)(x:AOp):AI:=⟨some d,x,none,l⟩
noncomputable def ck(h:Hint)(f:Func):AF:=(yJ Tryz.prog h f).getD ⟨0,0,[],.skip⟩
abbrev hz:Hint:=⟨[],[],[],[],[]⟩
noncomputable def cD(k:Nat)(h:Hint):AF:=match Tryz.prog.funcs[k]? with|some fn=>ck h fn|none=>⟨0,0,[],.skip⟩
def c3:AF:=⟨2,86,[.tmp 4],
 (.seq (.reg false [o 2 (.eT (.t 0)),o 4 (.mv (.c (.bool false)))]) (.seq (.reg false [o 16 (.load true 7 (.t 2)),o 17 (.mv (.t 1)),o 18 (.aN false (.f 13) [(.t 16),(.t 17)]),o 15 (.mv (.t 18)),o 19 (.extract (.t 15) 0),o 20 (.extract (.t 15) 1),o 5 (.mv (.t 19)),
 o 6 (.mv (.t 20))]) (.seq (.reg false [o 22 (.load true 7 (.t 2)),o 23 (.mv (.t 1)),o 24 (.aN false (.f 14) [(.t 22),(.t 23)]),o 21 (.mv (.t 24)),o 25 (.extract (.t 21) 0),o 26 (.extract (.t 21) 1),o 7 (.mv (.t 25)),
 o 8 (.mv (.t 26))]) (.seq (.seq (.reg false [o 27 (.mv (.t 5)),o 28 (.mv (.t 7)),o 29 (.eq true (.t 27) (.t 28)),o 30 (.mv (.t 29)),g 31 30 false (.mv (.t 6)),g 32 30 false (.mv (.t 8)),g 33 30 false (.bin .neq (.t 31) (.t 32)),
 o 34 (.pick (.t 30) (.c (.bool true)) (.t 33))]) (.cond (.t 34) (.seq (.reg false [o 4 (.mv (.c (.bool false)))]) (.ret)) (.skip))) (.seq (.reg false [o 36 (.load true 7 (.t 2)),o 37 (.mv (.t 1)),o 38 (.aN false (.f 15) [(.t 36),(.t 37)]),o 35 (.mv (.t 38)),o 39 (.extract (.t 35) 0),o 40 (.extract (.t 35) 1),o 41 (.extract (.t 35) 2),
 o 9 (.mv (.t 39)),o 10 (.mv (.t 40)),o 6 (.mv (.t 41))]) (.seq (.reg false [o 43 (.load true 7 (.t 2)),o 44 (.mv (.t 1)),o 45 (.aN false (.f 16) [(.t 43),(.t 44)]),o 42 (.mv (.t 45)),o 46 (.extract (.t 42) 0),o 47 (.extract (.t 42) 1),o 48 (.extract (.t 42) 2),
 o 11 (.mv (.t 46)),o 12 (.mv (.t 47)),o 8 (.mv (.t 48))]) (.seq (.seq (.reg false [o 49 (.mv (.t 9)),o 50 (.mv (.t 11)),o 51 (.bin .neq (.t 49) (.t 50)),o 52 (.mv (.t 51)),g 53 52 false (.mv (.t 10)),g 54 52 false (.mv (.t 12)),g 55 52 false (.aN false (.f 17) [(.t 53),(.t 54)]),
 g 56 52 false (.un .not (.t 55)),o 57 (.pick (.t 52) (.c (.bool true)) (.t 56)),o 58 (.mv (.t 57)),g 59 58 false (.mv (.t 6)),g 60 58 false (.mv (.t 8)),g 61 58 false (.bin .neq (.t 59) (.t 60)),
 o 62 (.pick (.t 58) (.c (.bool true)) (.t 61))]) (.cond (.t 62) (.seq (.reg false [o 4 (.mv (.c (.bool false)))]) (.ret)) (.skip))) (.seq (.reg false [o 64 (.load true 7 (.t 2)),o 65 (.mv (.t 1)),o 66 (.aN false (.f 18) [(.t 64),(.t 65)]),o 63 (.mv (.t 66)),o 67 (.extract (.t 63) 0),o 68 (.extract (.t 63) 1),o 13 (.mv (.t 67)),
 o 6 (.mv (.t 68))]) (.seq (.reg false [o 70 (.load true 7 (.t 2)),o 71 (.mv (.t 1)),o 72 (.aN false (.f 19) [(.t 70),(.t 71)]),o 69 (.mv (.t 72)),o 73 (.extract (.t 69) 0),o 74 (.extract (.t 69) 1),o 14 (.mv (.t 73)),
 o 8 (.mv (.t 74))]) (.seq (.reg false [o 75 (.mv (.t 13)),o 76 (.mv (.t 14)),o 77 (.aN false (.f 20) [(.t 75),(.t 76)]),o 78 (.mv (.t 77)),g 79 78 true (.mv (.t 6)),g 80 78 true (.mv (.t 8)),g 81 78 true (.bin .eql (.t 79) (.t 80)),
 o 82 (.pick (.t 78) (.t 81) (.c (.bool false))),o 83 (.mv (.t 82)),g 84 83 true (.aN false (.f 21) []),o 85 (.pick (.t 83) (.t 84) (.c (.bool false))),o 4 (.mv (.t 85))]) (.ret)))))))))))⟩
def c13:AF:=⟨2,17,[.tmp 4,.tmp 5],
 (.seq (.reg false [o 2 (.eT (.t 0)),o 4 (.mv (.c (.bool false))),o 5 (.mv (.c (.i 0)))]) (.seq (.seq (.reg false [o 7 (.load true 7 (.t 2)),o 8 (.mv (.t 1)),o 9 (.aN false (.f 46) [(.t 7),(.t 8)]),o 6 (.mv (.t 9))]) (.seq (.reg false [o 10 (.mv (.t 6)),o 11 (.bin .neq (.t 10) (.c (.i 0)))]) (.cond (.t 11) (.seq (.reg false [o 12 (.mv (.t 6)),o 4 (.mv (.c (.bool false))),o 5 (.mv (.t 12))]) (.ret)) (.skip)))) (.seq (.reg false [o 13 (.load true 7 (.t 2)),o 14 (.build [(.i 0),(.i 0),(.str []),(.str []),(.slice 0 [] .full),(.slice 0 [] .full),(.slice 0 [] .full),(.slice 0 [] .full)] [(0,7,(.t 13))]),
 o 15 (.mv (.t 1)),o 16 (.aN false (.f 47) [(.t 14),(.t 15)]),o 4 (.mv (.t 16)),o 5 (.mv (.c (.i 0)))]) (.ret))))⟩
def c14:AF:=⟨2,18,[.tmp 4,.tmp 5],
 (.seq (.reg false [o 2 (.eT (.t 0)),o 4 (.mv (.c (.bool false))),o 5 (.mv (.c (.i 0)))]) (.seq (.seq (.reg false [o 7 (.load true 7 (.t 2)),o 8 (.aN false (.f 37) [(.t 7)]),o 6 (.mv (.t 8))]) (.seq (.reg false [o 9 (.mv (.t 6)),o 10 (.bin .neq (.t 9) (.c (.i 0)))]) (.cond (.t 10) (.seq (.reg false [o 11 (.mv (.t 6)),o 4 (.mv (.c (.bool false))),o 5 (.mv (.t 11))]) (.ret)) (.skip)))) (.seq (.seq (.reg false [o 12 (.mv (.t 1)),o 13 (.aN false (.f 42) [(.t 12)]),o 14 (.un .not (.t 13))]) (.cond (.t 14) (.seq (.reg false [o 4 (.mv (.c (.bool false))),o 5 (.mv (.c (.i 4)))]) (.ret)) (.skip))) (.seq (.reg false [o 15 (.load true 7 (.t 2)),o 16 (.mv (.t 1)),o 17 (.aN false (.f 38) [(.t 15),(.t 16)]),o 4 (.mv (.t 17)),o 5 (.mv (.c (.i 0)))]) (.ret)))))⟩
def c15:AF:=⟨2,59,[.tmp 4,.tmp 5,.tmp 6],
 (.seq (.reg false [o 2 (.eT (.t 0)),o 4 (.mv (.c (.i 0))),o 5 (.mv (.c (.slice 0 [] .full))),o 6 (.mv (.c (.i 0)))]) (.seq (.seq (.reg false [o 11 (.load true 7 (.t 2)),o 12 (.mv (.t 1)),o 13 (.aN false (.f 46) [(.t 11),(.t 12)]),o 7 (.mv (.t 13))]) (.seq (.reg false [o 14 (.mv (.t 7)),o 15 (.bin .neq (.t 14) (.c (.i 0)))]) (.cond (.t 15) (.seq (.reg false [o 16 (.mv (.t 7)),o 4 (.mv (.c (.i 0))),o 5 (.mv (.c (.slice 0 [] .full))),o 6 (.mv (.t 16))]) (.ret)) (.skip)))) (.seq (.reg false [o 18 (.load true 7 (.t 2)),o 19 (.build [(.i 0),(.i 0),(.str []),(.str []),(.slice 0 [] .full),(.slice 0 [] .full),(.slice 0 [] .full),(.slice 0 [] .full)] [(0,7,(.t 18))]),
 o 20 (.mv (.t 1)),o 21 (.call (.f 48) [(.t 19),(.t 20)]),o 17 (.mv (.t 21)),o 22 (.extract (.t 17) 0),o 23 (.extract (.t 17) 1),o 24 (.extract (.t 17) 2),o 8 (.mv (.t 22)),
 o 9 (.mv (.t 23)),o 10 (.mv (.t 24))]) (.seq (.block 0 (.seq (.reg false [o 26 (.mv (.t 10)),o 27 (.bin .neq (.t 26) (.c (.i 0))),o 25 (.mv (.t 27))]) (.cond (.t 25) (.seq (.reg false [o 28 (.mv (.t 9)),o 29 (.mv (.t 10)),o 4 (.mv (.c (.i 0))),o 5 (.mv (.t 28)),o 6 (.mv (.t 29))]) (.ret)) (.seq (.reg false [o 31 (.mv (.t 8)),o 32 (.fA (.t 31)),o 33 (.aI 2 (.t 32)),o 34 (.aCv 2 1 (.t 33) (.c (.i 0))),o 35 (.load false 1 (.t 34)),o 36 (.bin .gtr (.t 35) (.c (.i 0))),
 o 37 (.mv (.t 36)),g 38 37 true (.mv (.t 8)),g 39 37 true (.fA (.t 38)),g 40 37 true (.aI 2 (.t 39)),g 41 37 true (.aCv 2 1 (.t 40) (.c (.i 1))),g 42 37 true (.load false 1 (.t 41)),
 g 43 37 true (.bin .gtr (.t 42) (.c (.i 0))),o 44 (.pick (.t 37) (.t 43) (.c (.bool false))),o 30 (.mv (.t 44))]) (.cond (.t 30) (.seq (.reg false [o 4 (.mv (.c (.i 2))),o 5 (.mv (.c (.slice 0 [] .full))),o 6 (.mv (.c (.i 0)))]) (.ret)) (.seq (.reg false [o 46 (.mv (.t 8)),o 47 (.fA (.t 46)),o 48 (.aI 2 (.t 47)),o 49 (.aCv 2 1 (.t 48) (.c (.i 0))),o 50 (.load false 1 (.t 49)),o 51 (.bin .gtr (.t 50) (.c (.i 0))),
 o 45 (.mv (.t 51))]) (.cond (.t 45) (.seq (.reg false [o 4 (.mv (.c (.i 0))),o 5 (.mv (.c (.slice 0 [] .full))),o 6 (.mv (.c (.i 0)))]) (.ret)) (.seq (.reg false [o 53 (.mv (.t 8)),o 54 (.fA (.t 53)),o 55 (.aI 2 (.t 54)),o 56 (.aCv 2 1 (.t 55) (.c (.i 1))),o 57 (.load false 1 (.t 56)),o 58 (.bin .gtr (.t 57) (.c (.i 0))),
 o 52 (.mv (.t 58))]) (.cond (.t 52) (.seq (.reg false [o 4 (.mv (.c (.i 1))),o 5 (.mv (.c (.slice 0 [] .full))),o 6 (.mv (.c (.i 0)))]) (.ret)) (.skip)))))))))) (.seq (.reg false [o 4 (.mv (.c (.i 3))),o 5 (.mv (.c (.slice 0 [] .full))),o 6 (.mv (.c (.i 0)))]) (.ret))))))⟩
def c16:AF:=⟨2,23,[.tmp 4,.tmp 5,.tmp 6],
 (.seq (.reg false [o 2 (.eT (.t 0)),o 4 (.mv (.c (.i 0))),o 5 (.mv (.c (.slice 0 [] .full))),o 6 (.mv (.c (.i 0)))]) (.seq (.reg false [o 8 (.load true 7 (.t 2)),o 9 (.mv (.t 1)),o 10 (.aN false (.f 49) [(.t 8),(.t 9)]),o 7 (.mv (.t 10))]) (.seq (.seq (.reg false [o 11 (.mv (.t 7)),o 12 (.bin .eql (.t 11) (.c (.i 10)))]) (.cond (.t 12) (.seq (.reg false [o 13 (.load true 7 (.t 2)),o 14 (.mv (.t 1)),o 15 (.aN false (.f 50) [(.t 13),(.t 14)]),o 16 (.mv (.t 7)),o 4 (.mv (.c (.i 0))),o 5 (.mv (.t 15)),o 6 (.mv (.t 16))]) (.ret)) (.skip))) (.seq (.seq (.reg false [o 17 (.mv (.t 7)),o 18 (.bin .neq (.t 17) (.c (.i 0)))]) (.cond (.t 18) (.seq (.reg false [o 19 (.mv (.t 7)),o 4 (.mv (.c (.i 0))),o 5 (.mv (.c (.slice 0 [] .full))),o 6 (.mv (.t 19))]) (.ret)) (.skip))) (.seq (.reg false [o 20 (.load true 7 (.t 2)),o 21 (.mv (.t 1)),o 22 (.aN false (.f 51) [(.t 20),(.t 21)]),o 4 (.mv (.t 22)),o 5 (.mv (.c (.slice 0 [] .full))),o 6 (.mv (.c (.i 0)))]) (.ret))))))⟩
def aTl:AC:= .loop (.seq (.seq (.reg false [o 11<|.mv<|.t 5,o 12<|.mv<|.t 0,o 13<|.eE<|.t 12,o 14<|.bin .lss (.t 11)<|.t 13])<|.cond (.t 14) (.skip)<|.exit 0)<|.seq (.block 1<|.seq (.reg true [o 17<|.mv<|.t 0,o 18<|.mv<|.t 5,p 19 [0,1]<|.cX 1 (.t 17)<|.t 18,p 20 [2,0,1]<|.load false 1<|.t 19,o 21<|.mv<|.t 1,o 22<|.mv<|.t 5,p 23 [4,5]<|.cX 1 (.t 21)<|.t 22,
 p 24 [6,4,5] (.load false 1 (.t 23)),p 25 [3,2,0,1,7,6,4,5]<|.bin .neq (.t 20)<|.t 24])<|.cond (.t 25) (.seq (.reg false [o 4<|.mv<|.c<|.bool false])<|.ret)<|.skip)<|.reg false [o 15<|.mv<|.t 5,o 16<|.bin .add (.t 15)<|.c<|.i 1,o 5<|.mv<|.t 16])
def c17:AF:=⟨2,26,[.tmp 4],
 (.seq (.reg false [o 4 (.mv (.c (.bool false)))]) (.seq (.seq (.reg false [o 6 (.mv (.t 0)),o 7 (.eE (.t 6)),o 8 (.mv (.t 1)),o 9 (.eE (.t 8)),o 10 (.bin .neq (.t 7) (.t 9))]) (.cond (.t 10) (.seq (.reg false [o 4 (.mv (.c (.bool false)))]) (.ret)) (.skip))) (.seq (.seq (.reg false [o 5 (.mv (.c (.i 0)))]) (.block 0 (aTl))) (.seq (.reg false [o 4 (.mv (.c (.bool true)))]) (.ret)))))⟩
def c18:AF:=⟨2,31,[.tmp 4,.tmp 5],
 (.seq (.reg false [o 2 (.eT (.t 0)),o 4 (.mv (.c (.slice 0 [] .full))),o 5 (.mv (.c (.i 0)))]) (.seq (.seq (.reg false [o 10 (.load true 7 (.t 2)),o 11 (.mv (.t 1)),o 12 (.aN false (.f 46) [(.t 10),(.t 11)]),o 6 (.mv (.t 12))]) (.seq (.reg false [o 13 (.mv (.t 6)),o 14 (.bin .neq (.t 13) (.c (.i 0)))]) (.cond (.t 14) (.seq (.reg false [o 15 (.mv (.t 6)),o 4 (.mv (.c (.slice 0 [] .full))),o 5 (.mv (.t 15))]) (.ret)) (.skip)))) (.seq (.reg false [o 17 (.load true 7 (.t 2)),o 18 (.build [(.i 0),(.i 0),(.str []),(.str []),(.slice 0 [] .full),(.slice 0 [] .full),(.slice 0 [] .full),(.slice 0 [] .full)] [(0,7,(.t 17))]),
 o 19 (.mv (.t 1)),o 20 (.call (.f 48) [(.t 18),(.t 19)]),o 16 (.mv (.t 20)),o 21 (.extract (.t 16) 0),o 22 (.extract (.t 16) 1),o 23 (.extract (.t 16) 2),o 7 (.mv (.t 21)),
 o 8 (.mv (.t 22)),o 9 (.mv (.t 23))]) (.seq (.seq (.reg false [o 24 (.mv (.t 9)),o 25 (.bin .neq (.t 24) (.c (.i 0)))]) (.cond (.t 25) (.seq (.reg false [o 26 (.mv (.t 9)),o 4 (.mv (.c (.slice 0 [] .full))),o 5 (.mv (.t 26))]) (.ret)) (.skip))) (.seq (.reg false [o 27 (.mv (.t 7)),o 28 (.fA (.t 27)),o 29 (.aI 1 (.t 28)),o 30 (.load false 1 (.t 29)),o 4 (.mv (.t 30)),o 5 (.mv (.c (.i 0)))]) (.ret))))))⟩
def c19:AF:=⟨2,16,[.tmp 4,.tmp 5],
 (.seq (.reg false [o 2 (.eT (.t 0)),o 4 (.mv (.c (.slice 0 [] .full))),o 5 (.mv (.c (.i 0)))]) (.seq (.seq (.reg false [o 7 (.load true 7 (.t 2)),o 8 (.mv (.t 1)),o 9 (.aN false (.f 49) [(.t 7),(.t 8)]),o 6 (.mv (.t 9))]) (.seq (.reg false [o 10 (.mv (.t 6)),o 11 (.bin .neq (.t 10) (.c (.i 0)))]) (.cond (.t 11) (.seq (.reg false [o 12 (.mv (.t 6)),o 4 (.mv (.c (.slice 0 [] .full))),o 5 (.mv (.t 12))]) (.ret)) (.skip)))) (.seq (.reg false [o 13 (.load true 7 (.t 2)),o 14 (.mv (.t 1)),o 15 (.aN false (.f 52) [(.t 13),(.t 14)]),o 4 (.mv (.t 15)),o 5 (.mv (.c (.i 0)))]) (.ret))))⟩
def aTo:AC:= .loop (.seq (.seq (.reg false [o 11<|.mv<|.t 5,o 12<|.mv<|.t 0,o 13<|.eE<|.t 12,o 14<|.bin .lss (.t 11)<|.t 13])<|.cond (.t 14) (.skip)<|.exit 0)<|.seq (.block 1<|.seq (.reg true [o 17<|.mv<|.t 0,o 18<|.mv<|.t 5,p 19 [0,1]<|.cX 1 (.t 17)<|.t 18,p 20 [2,0,1]<|.load false 1<|.t 19,o 21<|.mv<|.t 1,o 22<|.mv<|.t 5,p 23 [4,5]<|.cX 1 (.t 21)<|.t 22,
 p 24 [6,4,5] (.load false 1 (.t 23)),p 25 [3,2,0,1,7,6,4,5]<|.aN false (.f 17) [(.t 20),(.t 24)],p 26 [8,3,2,0,1,7,6,4,5]<|.un .not<|.t 25])<|.cond (.t 26) (.seq (.reg false [o 4<|.mv<|.c<|.bool false])<|.ret)<|.skip)<|.reg false [o 15<|.mv<|.t 5,o 16<|.bin .add (.t 15)<|.c<|.i 1,o 5<|.mv<|.t 16])
def c20:AF:=⟨2,27,[.tmp 4],
 (.seq (.reg false [o 4 (.mv (.c (.bool false)))]) (.seq (.seq (.reg false [o 6 (.mv (.t 0)),o 7 (.eE (.t 6)),o 8 (.mv (.t 1)),o 9 (.eE (.t 8)),o 10 (.bin .neq (.t 7) (.t 9))]) (.cond (.t 10) (.seq (.reg false [o 4 (.mv (.c (.bool false)))]) (.ret)) (.skip))) (.seq (.seq (.reg false [o 5 (.mv (.c (.i 0)))]) (.block 0 (aTo))) (.seq (.reg false [o 4 (.mv (.c (.bool true)))]) (.ret)))))⟩
def aTe:AC:= .loop (.seq (.seq (.reg false [o 8<|.mv<|.t 6,o 9<|.mv<|.t 1,o 10<|.eE<|.t 9,o 11<|.bin .lss (.t 8)<|.t 10])<|.cond (.t 11) (.skip)<|.exit 0)<|.seq (.block 1<|.seq (.reg false [o 14<|.load true 7<|.t 2,o 15<|.aN false (.f 35) [(.t 14)],o 7<|.mv<|.t 15])<|.seq (.seq (.reg false [o 16<|.mv<|.t 1,o 17<|.mv<|.t 6,o 18<|.cX 1 (.t 16)<|.t 17,o 19<|.load false 1<|.t 18,o 20<|.mv<|.t 7,o 21<|.eE<|.t 20,o 22<|.bin .sub (.t 21)<|.c<|.i 1,
 o 23 (.aN false (.f 61) [(.t 19),(.c (.i 0)),(.t 22)]),o 24<|.un .not<|.t 23])<|.cond (.t 24) (.seq (.reg false [o 25<|.build [(.i 0),(.i 0),(.str []),(.str []),(.slice 0 [] .full),(.slice 0 [] .full),(.slice 0 [] .full)] [],⟨none,.store 7 (.t 4)<|.t 25,none,[]⟩,
 o 5 (.mv (.c (.bool false)))])<|.ret)<|.skip)<|.reg false [o 26<|.mv<|.t 7,o 27<|.mv<|.t 1,o 28<|.mv<|.t 6,o 29<|.cX 1 (.t 27)<|.t 28,o 30<|.load false 1<|.t 29,o 31<|.cX 7 (.t 26)<|.t 30,o 32<|.load true 7<|.t 31,
 ⟨none,.store 7 (.t 2) (.t 32),none,[]⟩])<|.reg false [o 12<|.mv<|.t 6,o 13<|.bin .add (.t 12)<|.c<|.i 1,o 6<|.mv<|.t 13])
def c32:AF:=⟨2,34,[.cell 4 true 7,.tmp 5],
 (.seq (.reg false [o 2 (.box (.t 0)),o 4 (.alloc [(.i 0),(.i 0),(.str []),(.str []),(.slice 0 [] .full),(.slice 0 [] .full),(.slice 0 [] .full)]),o 5 (.mv (.c (.bool false)))]) (.seq (.seq (.reg false [o 6 (.mv (.c (.i 0)))]) (.block 0 (aTe))) (.seq (.reg false [o 33 (.load true 7 (.t 2)),⟨none,.store 7 (.t 4) (.t 33),none,[]⟩,o 5 (.mv (.c (.bool true)))]) (.ret))))⟩
def aS8:AC:= .loop (.seq (.seq (.reg false [o 9<|.mv<|.t 4,o 10<|.aI 6<|.t 1,o 11<|.load false 1<|.t 10,o 12<|.eE<|.t 11,o 13<|.bin .lss (.t 9)<|.t 12])<|.cond (.t 13) (.skip)<|.exit 0)<|.seq (.block 1<|.reg false [o 16<|.mv<|.t 3,o 17<|.aI 6<|.t 1,o 18<|.load false 1<|.t 17,o 19<|.mv<|.t 4,o 20<|.cX 9 (.t 18)<|.t 19,o 21<|.aI 2<|.t 20,o 22<|.load true 7<|.t 21,
 o 23 (.iD 7 1 [(.i 0),(.i 0),(.str []),(.str []),(.slice 0 [] .full),(.slice 0 [] .full),(.slice 0 [] .full)] [(0,(.t 22))]),o 24<|.append false 7 120 (.t 16)<|.t 23,
 o 3 (.mv (.t 24))])<|.reg false [o 14<|.mv<|.t 4,o 15<|.bin .add (.t 14)<|.c<|.i 1,o 4<|.mv<|.t 15])
def c35:AF:=⟨1,26,[.tmp 2],
 (.seq (.reg false [o 1 (.eT (.t 0)),o 2 (.mv (.c (.slice 0 [] .full)))]) (.seq (.reg false [o 5 (.iD 7 0 [(.i 0),(.i 0),(.str []),(.str []),(.slice 0 [] .full),(.slice 0 [] .full),(.slice 0 [] .full)] []),o 6 (.aI 5 (.t 1)),o 7 (.load false 1 (.t 6)),
 o 8 (.append false 7 120 (.t 5) (.t 7)),o 3 (.mv (.t 8))]) (.seq (.seq (.reg false [o 4 (.mv (.c (.i 0)))]) (.block 0 (aS8))) (.seq (.reg false [o 25 (.mv (.t 3)),o 2 (.mv (.t 25))]) (.ret)))))⟩
def c37:AF:=⟨1,8,[.tmp 2],
 (.seq (.reg false [o 1 (.eT (.t 0)),o 2 (.mv (.c (.i 0)))]) (.seq (.seq (.reg false [o 3 (.load true 7 (.t 1)),o 4 (.aN false (.f 69) [(.t 3),(.c (.i 3000)),(.c (.i 200))]),o 5 (.bin .lss (.t 4) (.c (.i 0)))]) (.cond (.t 5) (.seq (.reg false [o 2 (.mv (.c (.i 3)))]) (.ret)) (.skip))) (.seq (.reg false [o 6 (.load true 7 (.t 1)),o 7 (.aN false (.f 70) [(.t 6)]),o 2 (.mv (.t 7))]) (.ret))))⟩
def c38:AF:=⟨2,15,[.tmp 4],
 (.seq (.reg false [o 2 (.eT (.t 0)),o 4 (.mv (.c (.bool false)))]) (.seq (.reg false [o 8 (.load true 7 (.t 2)),o 9 (.mv (.t 1)),o 10 (.aN false (.f 71) [(.t 8),(.t 9)]),o 7 (.mv (.t 10)),o 11 (.extract (.t 7) 0),o 12 (.extract (.t 7) 1),o 5 (.mv (.t 11)),
 o 6 (.mv (.t 12))]) (.seq (.reg false [o 13 (.mv (.t 6)),o 14 (.un .not (.t 13)),o 4 (.mv (.t 14))]) (.ret))))⟩
def c42:AF:=⟨1,11,[.tmp 2],
 (.seq (.reg false [o 2 (.mv (.c (.bool false)))]) (.seq (.reg false [o 3 (.mv (.t 0)),o 4 (.aN false (.f 75) [(.t 3),(.c (.int .u8 97)),(.c (.int .u8 122)),(.c (.bool true))]),o 5 (.mv (.t 4)),g 6 5 true (.aN false (.f 76) []),
 g 7 5 true (.mv (.t 0)),g 8 5 true (.aN false (.f 63) [(.t 6),(.t 7)]),g 9 5 true (.un .not (.t 8)),o 10 (.pick (.t 5) (.t 9) (.c (.bool false))),o 2 (.mv (.t 10))]) (.ret)))⟩
def c46:AF:=⟨2,14,[.tmp 4],
 (.seq (.reg false [o 2 (.eT (.t 0)),o 4 (.mv (.c (.i 0)))]) (.seq (.seq (.reg false [o 6 (.load true 7 (.t 2)),o 7 (.aN false (.f 81) [(.t 6)]),o 5 (.mv (.t 7))]) (.seq (.reg false [o 8 (.mv (.t 5)),o 9 (.bin .neq (.t 8) (.c (.i 0)))]) (.cond (.t 9) (.seq (.reg false [o 10 (.mv (.t 5)),o 4 (.mv (.t 10))]) (.ret)) (.skip)))) (.seq (.seq (.reg false [o 11 (.mv (.t 1)),o 12 (.aN false (.f 77) [(.t 11)]),o 13 (.un .not (.t 12))]) (.cond (.t 13) (.seq (.reg false [o 4 (.mv (.c (.i 4)))]) (.ret)) (.skip))) (.seq (.reg false [o 4 (.mv (.c (.i 0)))]) (.ret)))))⟩
def c47:AF:=⟨2,15,[.tmp 4],
 (.seq (.reg false [o 2 (.eT (.t 0)),o 4 (.mv (.c (.bool false)))]) (.seq (.reg false [o 8 (.load true 8 (.t 2)),o 9 (.mv (.t 1)),o 10 (.aN false (.f 82) [(.t 8),(.t 9),(.c (.bool false)),(.c (.bool false))]),o 7 (.mv (.t 10)),o 11 (.extract (.t 7) 0),
 o 12 (.extract (.t 7) 1),o 5 (.mv (.t 11)),o 6 (.mv (.t 12))]) (.seq (.reg false [o 13 (.mv (.t 6)),o 14 (.un .not (.t 13)),o 4 (.mv (.t 14))]) (.ret))))⟩
def c48:AF:=⟨2,14,[.tmp 4,.cell 5 false 1,.cell 6 false 1],
 (.seq (.reg false [o 2 (.eT (.t 0)),o 4 (.mv (.c .eH)),o 5 (.alloc [(.slice 0 [] .full)]),o 6 (.alloc [(.i 0)])]) (.seq (.reg false [⟨none,.defer (.f 83) [(.t 5),(.t 6)],none,[]⟩]) (.seq (.reg false [o 7 (.mv (.t 1)),o 8 (.build [(.str []),(.slice 0 [] .full),(.i 0),(.i 0)] [(0,1,(.t 7))]),o 9 (.box (.t 8)),o 4 (.mv (.t 9))]) (.seq (.reg false [o 10 (.mv (.t 4)),o 11 (.load true 8 (.t 2)),o 12 (.call (.f 84) [(.t 10),(.t 11)])]) (.seq (.reg false [o 13 (.mv (.t 4)),o 4 (.mv (.t 13)),⟨none,.store 1 (.t 5) (.c (.slice 0 [] .full)),none,[]⟩,⟨none,.store 1 (.t 6) (.c (.i 0)),none,[]⟩]) (.ret))))))⟩
def c49:AF:=⟨2,18,[.tmp 4],
 (.seq (.reg false [o 2 (.eT (.t 0)),o 4 (.mv (.c (.i 0)))]) (.seq (.seq (.reg false [o 6 (.load true 7 (.t 2)),o 7 (.aN false (.f 37) [(.t 6)]),o 5 (.mv (.t 7))]) (.seq (.reg false [o 8 (.mv (.t 5)),o 9 (.bin .neq (.t 8) (.c (.i 0)))]) (.cond (.t 9) (.seq (.reg false [o 10 (.mv (.t 5)),o 4 (.mv (.t 10))]) (.ret)) (.skip)))) (.seq (.seq (.reg false [o 11 (.mv (.t 1)),o 12 (.aN false (.f 42) [(.t 11)]),o 13 (.un .not (.t 12))]) (.cond (.t 13) (.seq (.reg false [o 4 (.mv (.c (.i 4)))]) (.ret)) (.skip))) (.seq (.seq (.reg false [o 14 (.load true 7 (.t 2)),o 15 (.mv (.t 1)),o 16 (.aN false (.f 85) [(.t 14),(.t 15)]),o 17 (.un .not (.t 16))]) (.cond (.t 17) (.seq (.reg false [o 4 (.mv (.c (.i 10)))]) (.ret)) (.skip))) (.seq (.reg false [o 4 (.mv (.c (.i 0)))]) (.ret))))))⟩
def aS6:AC:= .loop (.seq (.seq (.reg false [o 145<|.mv<|.t 15,o 146<|.aI 6<|.t 2,o 147<|.load false 1<|.t 146,o 148<|.eE<|.t 147,o 149<|.bin .lss (.t 145)<|.t 148])<|.cond (.t 149) (.skip)<|.exit 1)<|.seq (.block 2<|.seq (.seq (.reg false [o 152<|.aI 6<|.t 2,o 153<|.load false 1<|.t 152,o 154<|.mv<|.t 15,o 155<|.cX 9 (.t 153)<|.t 154,o 156<|.aI 1<|.t 155,o 157<|.load false 1<|.t 156,
 o 158 (.mv (.t 1)),o 159<|.aN false (.f 63) [(.t 157),(.t 158)]])<|.cond (.t 159) (.seq (.reg false [o 160<|.mv<|.t 15,o 161<|.bin .add (.c<|.i 1)<|.t 160,o 162<|.iD 1 1 [(.i 0)] [(0,(.t 161))],o 4<|.mv<|.t 162])<|.ret)<|.skip)<|.seq (.reg false [o 163<|.aI 6<|.t 2,o 164<|.load false 1<|.t 163,o 165<|.mv<|.t 15,o 166<|.cX 9 (.t 164)<|.t 165,o 167<|.aI 2<|.t 166,o 168<|.load true 7<|.t 167,
 o 169 (.mv (.t 1)),o 170<|.aN false (.f 85) [(.t 168),(.t 169)],o 171<|.un .not<|.t 170])<|.cond (.t 171) (.seq (.reg false [o 172<|.mv<|.t 15,o 173<|.bin .add (.c<|.i 1)<|.t 172,o 174<|.aI 6<|.t 2,o 175<|.load false 1<|.t 174,o 176<|.mv<|.t 15,o 177<|.cX 9 (.t 175)<|.t 176,
 o 178 (.aI 2 (.t 177)),o 179<|.load true 7<|.t 178,o 180<|.mv<|.t 1,o 181<|.aN false (.f 50) [(.t 179),(.t 180)],o 182<|.aN false (.f 60) [(.t 173),(.t 181)],
 o 4 (.mv (.t 182))])<|.ret)<|.skip)<|.reg false [o 150<|.mv<|.t 15,o 151<|.bin .add (.t 150)<|.c<|.i 1,o 15<|.mv<|.t 151])
def aTi:AC:= .loop (.seq (.seq (.reg false [o 201<|.mv<|.t 16,o 202<|.aI 6<|.t 2,o 203<|.load false 1<|.t 202,o 204<|.eE<|.t 203,o 205<|.bin .lss (.t 201)<|.t 204])<|.cond (.t 205) (.skip)<|.exit 3)<|.seq (.block 4<|.seq (.reg false [o 209<|.aI 6<|.t 2,o 210<|.load false 1<|.t 209,o 211<|.mv<|.t 16,o 212<|.cX 9 (.t 210)<|.t 211,o 213<|.aI 2<|.t 212,o 214<|.load true 7<|.t 213,
 o 215 (.mv (.t 1)),o 216<|.aN false (.f 88) [(.t 214),(.t 215)],o 208<|.mv<|.t 216,o 217<|.extract (.t 208) 0,o 218<|.extract (.t 208) 1,o 17<|.mv<|.t 217,o 18<|.mv<|.t 218])<|.seq (.reg false [o 219<|.mv<|.t 18,o 220<|.mv<|.t 219,g 221 220 true<|.aI 6<|.t 2,g 222 220 true<|.load false 1<|.t 221,g 223 220 true<|.mv<|.t 16,g 224 220 true<|.cX 9 (.t 222)<|.t 223,
 g 225 220 true (.aI 1 (.t 224)),g 226 220 true<|.load false 1<|.t 225,g 227 220 true<|.mv<|.t 1,g 228 220 true<|.aN false (.f 63) [(.t 226),(.t 227)],g 229 220 true<|.un .not<|.t 228,
 o 230 (.pick (.t 220) (.t 229) (.c (.bool false)))])<|.cond (.t 230) (.seq (.reg false [o 231<|.mv<|.t 16,o 232<|.bin .add (.c<|.i 1)<|.t 231,o 233<|.mv<|.t 17,o 234<|.aN false (.f 60) [(.t 232),(.t 233)],o 4<|.mv<|.t 234])<|.ret)<|.skip)<|.reg false [o 206<|.mv<|.t 16,o 207<|.bin .add (.t 206)<|.c<|.i 1,o 16<|.mv<|.t 207])
def c50:AF:=⟨2,235,[.tmp 4],
 (.seq (.reg false [o 2 (.eT (.t 0)),o 4 (.mv (.c (.slice 0 [] .full)))]) (.seq (.seq (.reg false [o 19 (.aI 0 (.t 2)),o 20 (.load false 1 (.t 19))]) (.block 0 (.seq (.reg false [o 22 (.bin .eql (.t 20) (.c (.i 18))),o 21 (.mv (.t 22))]) (.cond (.t 21) (.seq (.reg false [o 23 (.aI 2 (.t 2)),o 24 (.load false 1 (.t 23)),o 25 (.mv (.t 1)),o 26 (.bin .eql (.t 24) (.t 25))]) (.cond (.t 26) (.seq (.reg false [o 28 (.aI 5 (.t 2)),o 29 (.load false 1 (.t 28)),o 30 (.cX 7 (.t 29) (.c (.i 0))),o 31 (.load true 7 (.t 30)),o 32 (.mv (.t 1)),o 33 (.aN false (.f 71) [(.t 31),(.t 32)]),
 o 27 (.mv (.t 33)),o 34 (.extract (.t 27) 0),o 35 (.extract (.t 27) 1),o 5 (.mv (.t 34)),o 6 (.mv (.t 35))]) (.seq (.reg false [o 36 (.mv (.t 5)),o 37 (.aN false (.f 60) [(.c (.i 0)),(.t 36)]),o 4 (.mv (.t 37))]) (.ret))) (.skip))) (.seq (.reg false [o 39 (.bin .eql (.t 20) (.c (.i 6))),o 38 (.mv (.t 39))]) (.cond (.t 38) (.seq (.seq (.reg false [o 40 (.aI 5 (.t 2)),o 41 (.load false 1 (.t 40)),o 42 (.cX 7 (.t 41) (.c (.i 0))),o 43 (.load true 7 (.t 42)),o 44 (.mv (.t 1)),o 45 (.aN false (.f 86) [(.t 43),(.t 44)])]) (.cond (.t 45) (.seq (.seq (.reg false [o 46 (.aI 5 (.t 2)),o 47 (.load false 1 (.t 46)),o 48 (.cX 7 (.t 47) (.c (.i 0))),o 49 (.load true 7 (.t 48)),o 50 (.mv (.t 1)),o 51 (.aN false (.f 87) [(.t 49),(.t 50)]),
 o 52 (.un .not (.t 51))]) (.cond (.t 52) (.seq (.reg false [o 53 (.aI 5 (.t 2)),o 54 (.load false 1 (.t 53)),o 55 (.cX 7 (.t 54) (.c (.i 0))),o 56 (.load true 7 (.t 55)),o 57 (.mv (.t 1)),o 58 (.aN false (.f 50) [(.t 56),(.t 57)]),
 o 59 (.aN false (.f 60) [(.c (.i 0)),(.t 58)]),o 4 (.mv (.t 59))]) (.ret)) (.skip))) (.seq (.reg false [o 61 (.aI 5 (.t 2)),o 62 (.load false 1 (.t 61)),o 63 (.cX 7 (.t 62) (.c (.i 1))),o 64 (.load true 7 (.t 63)),o 65 (.mv (.t 1)),o 66 (.aN false (.f 88) [(.t 64),(.t 65)]),
 o 60 (.mv (.t 66)),o 67 (.extract (.t 60) 0),o 68 (.extract (.t 60) 1),o 7 (.mv (.t 67)),o 8 (.mv (.t 68))]) (.seq (.reg false [o 69 (.mv (.t 7)),o 70 (.aN false (.f 60) [(.c (.i 1)),(.t 69)]),o 4 (.mv (.t 70))]) (.ret)))) (.skip))) (.seq (.seq (.reg false [o 72 (.aI 5 (.t 2)),o 73 (.load false 1 (.t 72)),o 74 (.cX 7 (.t 73) (.c (.i 0))),o 75 (.load true 7 (.t 74)),o 76 (.mv (.t 1)),o 77 (.aN false (.f 71) [(.t 75),(.t 76)]),
 o 71 (.mv (.t 77)),o 78 (.extract (.t 71) 0),o 79 (.extract (.t 71) 1),o 9 (.mv (.t 78)),o 10 (.mv (.t 79))]) (.seq (.reg false [o 80 (.mv (.t 10))]) (.cond (.t 80) (.seq (.reg false [o 81 (.mv (.t 9)),o 82 (.aN false (.f 60) [(.c (.i 0)),(.t 81)]),o 4 (.mv (.t 82))]) (.ret)) (.skip)))) (.seq (.reg false [o 83 (.aI 4 (.t 2)),o 84 (.load false 1 (.t 83)),o 85 (.cX 1 (.t 84) (.c (.i 0))),o 86 (.load false 1 (.t 85)),o 87 (.mv (.t 1)),o 88 (.bin .neq (.t 86) (.t 87))]) (.cond (.t 88) (.seq (.reg false [o 89 (.aI 5 (.t 2)),o 90 (.load false 1 (.t 89)),o 91 (.cX 7 (.t 90) (.c (.i 1))),o 92 (.load true 7 (.t 91)),o 93 (.mv (.t 1)),o 94 (.aN false (.f 50) [(.t 92),(.t 93)]),
 o 95 (.aN false (.f 60) [(.c (.i 1)),(.t 94)]),o 4 (.mv (.t 95))]) (.ret)) (.skip))))) (.seq (.reg false [o 97 (.bin .eql (.t 20) (.c (.i 8))),o 96 (.mv (.t 97))]) (.cond (.t 96) (.seq (.seq (.reg false [o 99 (.aI 5 (.t 2)),o 100 (.load false 1 (.t 99)),o 101 (.cX 7 (.t 100) (.c (.i 0))),o 102 (.load true 7 (.t 101)),o 103 (.mv (.t 1)),o 104 (.aN false (.f 71) [(.t 102),(.t 103)]),
 o 98 (.mv (.t 104)),o 105 (.extract (.t 98) 0),o 106 (.extract (.t 98) 1),o 11 (.mv (.t 105)),o 12 (.mv (.t 106))]) (.seq (.reg false [o 107 (.mv (.t 12))]) (.cond (.t 107) (.seq (.reg false [o 108 (.mv (.t 11)),o 109 (.aN false (.f 60) [(.c (.i 0)),(.t 108)]),o 4 (.mv (.t 109))]) (.ret)) (.skip)))) (.seq (.seq (.reg false [o 110 (.aI 5 (.t 2)),o 111 (.load false 1 (.t 110)),o 112 (.cX 7 (.t 111) (.c (.i 1))),o 113 (.load true 7 (.t 112)),o 114 (.mv (.t 1)),o 115 (.aN false (.f 85) [(.t 113),(.t 114)]),
 o 116 (.un .not (.t 115))]) (.cond (.t 116) (.seq (.reg false [o 117 (.aI 5 (.t 2)),o 118 (.load false 1 (.t 117)),o 119 (.cX 7 (.t 118) (.c (.i 1))),o 120 (.load true 7 (.t 119)),o 121 (.mv (.t 1)),o 122 (.aN false (.f 50) [(.t 120),(.t 121)]),
 o 123 (.aN false (.f 60) [(.c (.i 1)),(.t 122)]),o 4 (.mv (.t 123))]) (.ret)) (.skip))) (.seq (.reg false [o 124 (.aI 5 (.t 2)),o 125 (.load false 1 (.t 124)),o 126 (.cX 7 (.t 125) (.c (.i 2))),o 127 (.load true 7 (.t 126)),o 128 (.mv (.t 1)),o 129 (.aN false (.f 50) [(.t 127),(.t 128)]),
 o 130 (.aN false (.f 60) [(.c (.i 2)),(.t 129)]),o 4 (.mv (.t 130))]) (.ret)))) (.seq (.reg false [o 132 (.bin .eql (.t 20) (.c (.i 11))),o 131 (.mv (.t 132))]) (.cond (.t 131) (.seq (.seq (.reg false [o 134 (.aI 5 (.t 2)),o 135 (.load false 1 (.t 134)),o 136 (.cX 7 (.t 135) (.c (.i 0))),o 137 (.load true 7 (.t 136)),o 138 (.mv (.t 1)),o 139 (.aN false (.f 71) [(.t 137),(.t 138)]),
 o 133 (.mv (.t 139)),o 140 (.extract (.t 133) 0),o 141 (.extract (.t 133) 1),o 13 (.mv (.t 140)),o 14 (.mv (.t 141))]) (.seq (.reg false [o 142 (.mv (.t 14))]) (.cond (.t 142) (.seq (.reg false [o 143 (.mv (.t 13)),o 144 (.aN false (.f 60) [(.c (.i 0)),(.t 143)]),o 4 (.mv (.t 144))]) (.ret)) (.skip)))) (.seq (.reg false [o 15 (.mv (.c (.i 0)))]) (.block 1 (aS6)))) (.seq (.seq (.reg false [o 184 (.bin .eql (.t 20) (.c (.i 14))),o 183 (.mv (.t 184))]) (.cond (.t 183) (.skip) (.seq (.reg false [o 185 (.bin .eql (.t 20) (.c (.i 15))),o 183 (.mv (.t 185))]) (.cond (.t 183) (.skip) (.reg false [o 186 (.bin .eql (.t 20) (.c (.i 16))),o 183 (.mv (.t 186))]))))) (.cond (.t 183) (.seq (.seq (.reg false [o 187 (.aI 5 (.t 2)),o 188 (.load false 1 (.t 187)),o 189 (.cX 7 (.t 188) (.c (.i 0))),o 190 (.load true 7 (.t 189)),o 191 (.mv (.t 1)),o 192 (.aN false (.f 85) [(.t 190),(.t 191)]),
 o 193 (.un .not (.t 192))]) (.cond (.t 193) (.seq (.reg false [o 194 (.aI 5 (.t 2)),o 195 (.load false 1 (.t 194)),o 196 (.cX 7 (.t 195) (.c (.i 0))),o 197 (.load true 7 (.t 196)),o 198 (.mv (.t 1)),o 199 (.aN false (.f 50) [(.t 197),(.t 198)]),
 o 200 (.aN false (.f 60) [(.c (.i 0)),(.t 199)]),o 4 (.mv (.t 200))]) (.ret)) (.skip))) (.seq (.reg false [o 16 (.mv (.c (.i 0)))]) (.block 3 (aTi)))) (.skip))))))))))))) (.seq (.reg false [o 4 (.mv (.c (.slice 0 [] .full)))]) (.ret))))⟩
def aS0:AC:= .loop (.seq (.seq (.reg false [o 14<|.mv<|.t 8,o 15<|.mv<|.t 7,o 16<|.eE<|.t 15,o 17<|.bin .lss (.t 14)<|.t 16])<|.cond (.t 17) (.skip)<|.exit 0)<|.seq (.block 1<|.seq (.reg true [o 21<|.load true 7<|.t 2,o 22<|.mv<|.t 7,o 23<|.mv<|.t 8,p 24 [1,2]<|.cX 1 (.t 22)<|.t 23,p 25 [3,1,2]<|.load false 1<|.t 24,p 26 [0,4,3,1,2]<|.aN true (.f 32) [(.t 21),(.t 25)],
 p 20 [5,0,4,3,1,2] (.mv (.t 26)),p 27 [6,5,0,4,3,1,2]<|.extract (.t 20) 0,p 28 [6,5,0,4,3,1,2]<|.extract (.t 20) 1,o 9<|.pend [(.i 0),(.i 0),(.str []),(.str []),(.slice 0 [] .full),(.slice 0 [] .full),(.slice 0 [] .full)],
 ⟨none,.shut 9 7 (.t 27),none,[9,7,6,5,0,4,3,1,2]⟩,p 10 [8,6,5,0,4,3,1,2,10,9,7]<|.mv<|.t 28])<|.seq (.reg false [o 29<|.aI 0<|.t 9,o 30<|.load false 1<|.t 29,o 31<|.bin .eql (.t 30)<|.c<|.i 18])<|.cond (.t 31) (.reg false [o 32<|.mv<|.t 5,o 33<|.bin .add (.t 32)<|.c<|.i 1,o 5<|.mv<|.t 33])<|.reg false [o 34<|.mv<|.t 6,o 35<|.bin .add (.t 34)<|.c<|.i 1,o 6<|.mv<|.t 35])<|.reg false [o 18<|.mv<|.t 8,o 19<|.bin .add (.t 18)<|.c<|.i 1,o 8<|.mv<|.t 19])
def c51:AF:=⟨2,49,[.tmp 4],
 (.seq (.reg false [o 2 (.eT (.t 0)),o 4 (.mv (.c (.i 0)))]) (.seq (.reg false [o 5 (.mv (.c (.i 0))),o 6 (.mv (.c (.i 0)))]) (.seq (.reg false [o 11 (.load true 7 (.t 2)),o 12 (.mv (.t 1)),o 13 (.aN false (.f 52) [(.t 11),(.t 12)]),o 7 (.mv (.t 13))]) (.seq (.seq (.reg false [o 8 (.mv (.c (.i 0)))]) (.block 0 (aS0))) (.seq (.block 2 (.seq (.reg false [o 37 (.mv (.t 5)),o 38 (.bin .gtr (.t 37) (.c (.i 0))),o 39 (.mv (.t 38)),g 40 39 true (.mv (.t 6)),g 41 39 true (.bin .gtr (.t 40) (.c (.i 0))),o 42 (.pick (.t 39) (.t 41) (.c (.bool false))),
 o 36 (.mv (.t 42))]) (.cond (.t 36) (.seq (.reg false [o 4 (.mv (.c (.i 2)))]) (.ret)) (.seq (.reg false [o 44 (.mv (.t 5)),o 45 (.bin .gtr (.t 44) (.c (.i 0))),o 43 (.mv (.t 45))]) (.cond (.t 43) (.seq (.reg false [o 4 (.mv (.c (.i 0)))]) (.ret)) (.seq (.reg false [o 47 (.mv (.t 6)),o 48 (.bin .gtr (.t 47) (.c (.i 0))),o 46 (.mv (.t 48))]) (.cond (.t 46) (.seq (.reg false [o 4 (.mv (.c (.i 1)))]) (.ret)) (.skip)))))))) (.seq (.reg false [o 4 (.mv (.c (.i 3)))]) (.ret)))))))⟩
def aTp:AC:= .loop (.seq (.seq (.reg false [o 45<|.mv<|.t 11,o 46<|.mv<|.t 10,o 47<|.eE<|.t 46,o 48<|.bin .lss (.t 45)<|.t 47])<|.cond (.t 48) (.skip)<|.exit 3)<|.seq (.block 4<|.reg false [o 51<|.mv<|.t 8,o 52<|.mv<|.t 9,o 53<|.mv<|.t 10,o 54<|.mv<|.t 11,o 55<|.cX 1 (.t 53)<|.t 54,o 56<|.load false 1<|.t 55,o 57<|.aN false (.f 60) [(.t 52),(.t 56)],
 o 58 (.iD 1 1 [(.slice 0 [] .full)] [(0,(.t 57))]),o 59<|.append false 1 24 (.t 51)<|.t 58,o 8<|.mv<|.t 59])<|.reg false [o 49<|.mv<|.t 11,o 50<|.bin .add (.t 49)<|.c<|.i 1,o 11<|.mv<|.t 50])
def aS3:AC:= .loop (.seq (.seq (.reg false [o 34<|.mv<|.t 9,o 35<|.mv<|.t 7,o 36<|.bin .lss (.t 34)<|.t 35])<|.cond (.t 36) (.skip)<|.exit 1)<|.seq (.block 2<|.seq (.reg false [o 39<|.mv<|.t 5,o 40<|.mv<|.t 9,o 41<|.cX 7 (.t 39)<|.t 40,o 42<|.load true 7<|.t 41,o 43<|.mv<|.t 1,o 44<|.aN false (.f 52) [(.t 42),(.t 43)],o 10<|.mv<|.t 44])<|.seq (.reg false [o 11<|.mv<|.c<|.i 0])<|.block 3<|aTp)<|.reg false [o 37<|.mv<|.t 9,o 38<|.bin .add (.t 37)<|.c<|.i 1,o 9<|.mv<|.t 38])
def c52:AF:=⟨2,61,[.tmp 4],
 (.seq (.reg false [o 2 (.eT (.t 0)),o 4 (.mv (.c (.slice 0 [] .full)))]) (.seq (.seq (.reg false [o 12 (.load true 7 (.t 2)),o 13 (.mv (.t 1)),o 14 (.aN false (.f 86) [(.t 12),(.t 13)])]) (.cond (.t 14) (.seq (.reg false [o 15 (.iD 1 1 [(.slice 0 [] .full)] [(0,(.c (.slice 0 [] .full)))]),o 4 (.mv (.t 15))]) (.ret)) (.skip))) (.seq (.reg false [o 16 (.load true 7 (.t 2)),o 17 (.aN false (.f 35) [(.t 16)]),o 5 (.mv (.t 17))]) (.seq (.reg false [o 18 (.mv (.t 5)),o 19 (.eE (.t 18)),o 6 (.mv (.c (.i 0))),o 7 (.mv (.t 19))]) (.seq (.seq (.reg false [o 20 (.aI 0 (.t 2)),o 21 (.load false 1 (.t 20))]) (.block 0 (.seq (.reg false [o 23 (.bin .eql (.t 21) (.c (.i 6))),o 22 (.mv (.t 23))]) (.cond (.t 22) (.seq (.reg false [o 6 (.mv (.c (.i 1)))]) (.seq (.reg false [o 24 (.aI 5 (.t 2)),o 25 (.load false 1 (.t 24)),o 26 (.cX 7 (.t 25) (.c (.i 0))),o 27 (.load true 7 (.t 26)),o 28 (.mv (.t 1)),o 29 (.aN false (.f 86) [(.t 27),(.t 28)])]) (.cond (.t 29) (.reg false [o 6 (.mv (.c (.i 0))),o 7 (.mv (.c (.i 1)))]) (.skip)))) (.seq (.seq (.reg false [o 31 (.bin .eql (.t 21) (.c (.i 8))),o 30 (.mv (.t 31))]) (.cond (.t 30) (.skip) (.reg false [o 32 (.bin .eql (.t 21) (.c (.i 11))),o 30 (.mv (.t 32))]))) (.cond (.t 30) (.reg false [o 6 (.mv (.c (.i 1)))]) (.reg false [o 7 (.mv (.c (.i 1)))]))))))) (.seq (.reg false [o 8 (.mv (.c (.slice 0 [] .full)))]) (.seq (.seq (.reg false [o 33 (.mv (.t 6)),o 9 (.mv (.t 33))]) (.block 1 (aS3))) (.seq (.reg false [o 60 (.mv (.t 8)),o 4 (.mv (.t 60))]) (.ret)))))))))⟩
def c60:AF:=⟨2,9,[.tmp 4],
 (.seq (.reg false [o 4 (.mv (.c (.slice 0 [] .full)))]) (.seq (.reg false [o 5 (.mv (.t 0)),o 6 (.iD 1 1 [(.i 0)] [(0,(.t 5))]),o 7 (.mv (.t 1)),o 8 (.append false 1 8 (.t 6) (.t 7)),o 4 (.mv (.t 8))]) (.ret)))⟩
def c61:AF:=⟨3,15,[.tmp 6],
 (.seq (.reg false [o 6 (.mv (.c (.bool false)))]) (.seq (.reg false [o 7 (.mv (.t 1)),o 8 (.mv (.t 0)),o 9 (.bin .leq (.t 7) (.t 8)),o 10 (.mv (.t 9)),g 11 10 true (.mv (.t 0)),g 12 10 true (.mv (.t 2)),g 13 10 true (.bin .leq (.t 11) (.t 12)),
 o 14 (.pick (.t 10) (.t 13) (.c (.bool false))),o 6 (.mv (.t 14))]) (.ret)))⟩
def c62:AF:=⟨1,18,[.tmp 2],
 (.seq (.reg false [o 1 (.eT (.t 0)),o 2 (.mv (.c (.str [])))]) (.seq (.seq (.reg false [o 3 (.aI 0 (.t 1)),o 4 (.load false 1 (.t 3)),o 5 (.bin .eql (.t 4) (.c (.i 0))),o 6 (.mv (.t 5)),g 7 6 false (.aI 0 (.t 1)),g 8 6 false (.load false 1 (.t 7)),
 g 9 6 false (.bin .eql (.t 8) (.c (.i 18))),o 10 (.pick (.t 6) (.c (.bool true)) (.t 9)),o 11 (.mv (.t 10)),g 12 11 false (.aI 0 (.t 1)),g 13 11 false (.load false 1 (.t 12)),
 g 14 11 false (.bin .eql (.t 13) (.c (.i 19))),o 15 (.pick (.t 11) (.c (.bool true)) (.t 14))]) (.cond (.t 15) (.seq (.reg false [o 16 (.aI 2 (.t 1)),o 17 (.load false 1 (.t 16)),o 2 (.mv (.t 17))]) (.ret)) (.skip))) (.seq (.reg false [o 2 (.mv (.c (.str [])))]) (.ret))))⟩
def c63:AF:=⟨2,9,[.tmp 4],
 (.seq (.reg false [o 4 (.mv (.c (.bool false)))]) (.seq (.reg false [o 5 (.mv (.t 0)),o 6 (.mv (.t 1)),o 7 (.aN false (.f 98) [(.t 5),(.t 6)]),o 8 (.bin .geq (.t 7) (.c (.i 0))),o 4 (.mv (.t 8))]) (.ret)))⟩
def c64:AF:=⟨2,52,[.tmp 4],
 (.seq (.reg false [o 2 (.eT (.t 0)),o 4 (.mv (.c (.slice 0 [] .full)))]) (.seq (.seq (.reg false [o 5 (.mv (.t 1)),o 6 (.aI 5 (.t 2)),o 7 (.load false 1 (.t 6)),o 8 (.eE (.t 7)),o 9 (.bin .geq (.t 5) (.t 8))]) (.cond (.t 9) (.seq (.reg false [o 10 (.aI 6 (.t 2)),o 11 (.load false 1 (.t 10)),o 12 (.mv (.t 1)),o 13 (.aI 5 (.t 2)),o 14 (.load false 1 (.t 13)),o 15 (.eE (.t 14)),o 16 (.bin .sub (.t 12) (.t 15)),
 o 17 (.cX 9 (.t 11) (.t 16)),o 18 (.aI 1 (.t 17)),o 19 (.load false 1 (.t 18)),o 4 (.mv (.t 19))]) (.ret)) (.skip))) (.seq (.seq (.reg false [o 20 (.aI 0 (.t 2)),o 21 (.load false 1 (.t 20))]) (.block 0 (.seq (.reg false [o 23 (.bin .eql (.t 21) (.c (.i 4))),o 22 (.mv (.t 23))]) (.cond (.t 22) (.seq (.reg false [o 24 (.aI 4 (.t 2)),o 25 (.load false 1 (.t 24)),o 4 (.mv (.t 25))]) (.ret)) (.seq (.reg false [o 27 (.bin .eql (.t 21) (.c (.i 6))),o 26 (.mv (.t 27))]) (.cond (.t 26) (.seq (.reg false [o 28 (.mv (.t 1)),o 29 (.bin .eql (.t 28) (.c (.i 1)))]) (.cond (.t 29) (.seq (.reg false [o 30 (.aI 4 (.t 2)),o 31 (.load false 1 (.t 30)),o 4 (.mv (.t 31))]) (.ret)) (.skip))) (.seq (.reg false [o 33 (.bin .eql (.t 21) (.c (.i 7))),o 32 (.mv (.t 33))]) (.cond (.t 32) (.seq (.reg false [o 34 (.aI 4 (.t 2)),o 35 (.load false 1 (.t 34)),o 36 (.mv (.t 1)),o 37 (.bin .sub (.c (.i 2)) (.t 36)),o 38 (.aAg 1 (.t 35) none (some (.t 37)) none),o 4 (.mv (.t 38))]) (.ret)) (.seq (.reg false [o 40 (.bin .eql (.t 21) (.c (.i 17))),o 39 (.mv (.t 40))]) (.cond (.t 39) (.seq (.reg false [o 41 (.mv (.t 1)),o 42 (.bin .eql (.t 41) (.c (.i 2))),o 43 (.mv (.t 42)),g 44 43 true (.aI 4 (.t 2)),g 45 43 true (.load false 1 (.t 44)),g 46 43 true (.eE (.t 45)),
 g 47 43 true (.bin .gtr (.t 46) (.c (.i 0))),o 48 (.pick (.t 43) (.t 47) (.c (.bool false)))]) (.cond (.t 48) (.seq (.reg false [o 49 (.aI 4 (.t 2)),o 50 (.load false 1 (.t 49)),o 51 (.aAg 1 (.t 50) none (some (.c (.i 1))) none),o 4 (.mv (.t 51))]) (.ret)) (.skip))) (.skip))))))))))) (.seq (.reg false [o 4 (.mv (.c (.slice 0 [] .full)))]) (.ret)))))⟩
def aS2:AC:= .loop (.seq (.seq (.reg false [o 20<|.mv<|.t 8,o 21<|.mv<|.t 7,o 22<|.bin .lss (.t 20)<|.t 21,o 23<|.mv<|.t 22,g 24 23 true<|.mv<|.t 1,g 25 23 true<|.bin .geq (.t 24)<|.c<|.i 0,o 26<|.pick (.t 23) (.t 25)<|.c<|.bool false])<|.cond (.t 26) (.skip)<|.exit 0)<|.seq (.block 1<|.seq (.reg false [o 29<|.mv<|.t 8,o 30<|.aI 5<|.t 3,o 31<|.load false 1<|.t 30,o 32<|.eE<|.t 31,o 33<|.bin .lss (.t 29)<|.t 32])<|.cond (.t 33) (.reg false [o 34<|.aI 5<|.t 3,o 35<|.load false 1<|.t 34,o 36<|.mv<|.t 8,o 37<|.cX 7 (.t 35)<|.t 36,o 38<|.load true 7<|.t 37,o 39<|.mv<|.t 1,o 40<|.mv<|.t 2,o 41<|.bin .sub (.t 40)<|.c<|.i 1,
 o 42 (.aN false (.f 69) [(.t 38),(.t 39),(.t 41)]),o 1<|.mv<|.t 42])<|.reg false [o 43<|.aI 6<|.t 3,o 44<|.load false 1<|.t 43,o 45<|.mv<|.t 8,o 46<|.aI 5<|.t 3,o 47<|.load false 1<|.t 46,o 48<|.eE<|.t 47,o 49<|.bin .sub (.t 45)<|.t 48,
 o 50 (.cX 9 (.t 44) (.t 49)),o 51<|.aI 2<|.t 50,o 52<|.load true 7<|.t 51,o 53<|.mv<|.t 1,o 54<|.mv<|.t 2,o 55<|.bin .sub (.t 54)<|.c<|.i 1,o 56<|.aN false (.f 69) [(.t 52),(.t 53),(.t 55)],
 o 1 (.mv (.t 56))])<|.reg false [o 27<|.mv<|.t 8,o 28<|.bin .add (.t 27)<|.c<|.i 1,o 8<|.mv<|.t 28])
def c69:AF:=⟨3,58,[.tmp 6],
 (.seq (.reg false [o 3 (.eT (.t 0)),o 6 (.mv (.c (.i 0)))]) (.seq (.reg false [o 9 (.mv (.t 1)),o 10 (.bin .sub (.t 9) (.c (.i 1))),o 1 (.mv (.t 10))]) (.seq (.seq (.reg false [o 11 (.mv (.t 2)),o 12 (.bin .lss (.t 11) (.c (.i 1)))]) (.cond (.t 12) (.seq (.reg false [o 6 (.mv (.c (.i (-1))))]) (.ret)) (.skip))) (.seq (.reg false [o 13 (.aI 5 (.t 3)),o 14 (.load false 1 (.t 13)),o 15 (.eE (.t 14)),o 16 (.aI 6 (.t 3)),o 17 (.load false 1 (.t 16)),o 18 (.eE (.t 17)),o 19 (.bin .add (.t 15) (.t 18)),
 o 7 (.mv (.t 19))]) (.seq (.seq (.reg false [o 8 (.mv (.c (.i 0)))]) (.block 0 (aS2))) (.seq (.reg false [o 57 (.mv (.t 1)),o 6 (.mv (.t 57))]) (.ret)))))))⟩
def aTh:AC:= .loop (.seq (.seq (.reg false [o 14<|.mv<|.t 5,o 15<|.mv<|.t 4,o 16<|.eE<|.t 15,o 17<|.bin .lss (.t 14)<|.t 16])<|.cond (.t 17) (.skip)<|.exit 0)<|.seq (.block 1<|.seq (.reg false [o 20<|.mv<|.t 4,o 21<|.mv<|.t 5,o 22<|.cX 7 (.t 20)<|.t 21,o 23<|.load true 7<|.t 22,o 24<|.aN false (.f 70) [(.t 23)],o 6<|.mv<|.t 24])<|.seq (.reg false [o 25<|.mv<|.t 6,o 26<|.bin .neq (.t 25)<|.c<|.i 0])<|.cond (.t 26) (.seq (.reg false [o 27<|.mv<|.t 6,o 2<|.mv<|.t 27])<|.ret)<|.skip)<|.reg false [o 18<|.mv<|.t 5,o 19<|.bin .add (.t 18)<|.c<|.i 1,o 5<|.mv<|.t 19])
def c70:AF:=⟨1,28,[.tmp 2],
 (.seq (.reg false [o 1 (.eT (.t 0)),o 2 (.mv (.c (.i 0)))]) (.seq (.seq (.reg false [o 7 (.load true 7 (.t 1)),o 8 (.aN false (.f 104) [(.t 7)]),o 3 (.mv (.t 8))]) (.seq (.reg false [o 9 (.mv (.t 3)),o 10 (.bin .neq (.t 9) (.c (.i 0)))]) (.cond (.t 10) (.seq (.reg false [o 11 (.mv (.t 3)),o 2 (.mv (.t 11))]) (.ret)) (.skip)))) (.seq (.reg false [o 12 (.load true 7 (.t 1)),o 13 (.aN false (.f 35) [(.t 12)]),o 4 (.mv (.t 13))]) (.seq (.seq (.reg false [o 5 (.mv (.c (.i 0)))]) (.block 0 (aTh))) (.seq (.reg false [o 2 (.mv (.c (.i 0)))]) (.ret))))))⟩
def aTj:AC:= .loop (.seq (.seq (.reg false [o 27<|.mv<|.t 7,o 28<|.mv<|.t 6,o 29<|.eE<|.t 28,o 30<|.bin .lss (.t 27)<|.t 29])<|.cond (.t 30) (.skip)<|.exit 0)<|.seq (.block 1<|.seq (.reg false [o 33<|.mv<|.t 1,o 8<|.mv<|.t 33])<|.seq (.seq (.reg false [o 34<|.load true 7<|.t 2,o 35<|.mv<|.t 7,o 36<|.aN false (.f 64) [(.t 34),(.t 35)],o 37<|.mv<|.t 1,o 38<|.aN false (.f 63) [(.t 36),(.t 37)]])<|.cond (.t 38) (.reg false [o 8<|.mv<|.c<|.str []])<|.skip)<|.seq (.reg false [o 9<|.mv<|.c<|.slice 0 [] .full])<|.seq (.reg false [o 10<|.mv<|.c<|.bool false])<|.seq (.seq (.reg false [o 39<|.aI 0<|.t 2,o 40<|.load false 1<|.t 39,o 41<|.bin .neq (.t 40)<|.c<|.i 4])<|.cond (.t 41) (.reg false [o 43<|.mv<|.t 6,o 44<|.mv<|.t 7,o 45<|.cX 7 (.t 43)<|.t 44,o 46<|.load true 7<|.t 45,o 47<|.mv<|.t 8,o 48<|.aN false (.f 71) [(.t 46),(.t 47)],o 42<|.mv<|.t 48,
 o 49 (.extract (.t 42) 0),o 50<|.extract (.t 42) 1,o 9<|.mv<|.t 49,o 10<|.mv<|.t 50])<|.seq (.reg false [o 51<|.mv<|.t 8,o 52<|.bin .neq (.t 51)<|.c<|.str []])<|.cond (.t 52) (.reg false [o 54<|.mv<|.t 6,o 55<|.mv<|.t 7,o 56<|.cX 7 (.t 54)<|.t 55,o 57<|.load true 7<|.t 56,o 58<|.mv<|.t 8,o 59<|.aN false (.f 88) [(.t 57),(.t 58)],o 53<|.mv<|.t 59,
 o 60 (.extract (.t 53) 0),o 61<|.extract (.t 53) 1,o 9<|.mv<|.t 60,o 10<|.mv<|.t 61])<|.skip)<|.seq (.reg false [o 62<|.mv<|.t 10])<|.cond (.t 62) (.seq (.reg false [o 63<|.mv<|.t 7,o 64<|.mv<|.t 9,o 65<|.aN false (.f 60) [(.t 63),(.t 64)],o 4<|.mv<|.t 65,o 5<|.mv<|.c<|.bool true])<|.ret)<|.skip)<|.reg false [o 31<|.mv<|.t 7,o 32<|.bin .add (.t 31)<|.c<|.i 1,o 7<|.mv<|.t 32])
def c71:AF:=⟨2,66,[.tmp 4,.tmp 5],
 (.seq (.reg false [o 2 (.eT (.t 0)),o 4 (.mv (.c (.slice 0 [] .full))),o 5 (.mv (.c (.bool false)))]) (.seq (.seq (.reg false [o 11 (.aI 0 (.t 2)),o 12 (.load false 1 (.t 11)),o 13 (.aN false (.f 105) [(.t 12)]),o 14 (.un .not (.t 13)),o 15 (.mv (.t 14)),g 16 15 false (.mv (.t 1)),g 17 15 false (.bin .neq (.t 16) (.c (.str []))),
 g 18 15 false (.mv (.t 17)),g 19 18 true (.load true 7 (.t 2)),g 20 18 true (.aN false (.f 62) [(.t 19)]),g 21 18 true (.mv (.t 1)),g 22 18 true (.bin .eql (.t 20) (.t 21)),
 g 23 15 false (.pick (.t 18) (.t 22) (.c (.bool false))),o 24 (.pick (.t 15) (.c (.bool true)) (.t 23))]) (.cond (.t 24) (.seq (.reg false [o 4 (.mv (.c (.slice 0 [] .full))),o 5 (.mv (.c (.bool true)))]) (.ret)) (.skip))) (.seq (.reg false [o 25 (.load true 7 (.t 2)),o 26 (.aN false (.f 35) [(.t 25)]),o 6 (.mv (.t 26))]) (.seq (.seq (.reg false [o 7 (.mv (.c (.i 0)))]) (.block 0 (aTj))) (.seq (.reg false [o 4 (.mv (.c (.slice 0 [] .full))),o 5 (.mv (.c (.bool false)))]) (.ret))))))⟩
def aS7:AC:= .loop (.seq (.seq (.reg false [o 7<|.mv<|.t 6,o 8<|.mv<|.t 0,o 9<|.eE<|.t 8,o 10<|.bin .lss (.t 7)<|.t 9])<|.cond (.t 10) (.skip)<|.exit 0)<|.seq (.block 1<|.seq (.reg false [o 13<|.mv<|.t 0,o 14<|.mv<|.t 6,o 15<|.cX 1 (.t 13)<|.t 14,o 16<|.load false 1<|.t 15,o 17<|.mv<|.t 1,o 18<|.bin .neq (.t 16)<|.t 17])<|.cond (.t 18) (.reg false [o 19<|.mv<|.t 5,o 20<|.mv<|.t 0,o 21<|.mv<|.t 6,o 22<|.cX 1 (.t 20)<|.t 21,o 23<|.load false 1<|.t 22,o 24<|.iD 1 1 [(.str [])] [(0,(.t 23))],o 25<|.append false 1 16 (.t 19)<|.t 24,
 o 5 (.mv (.t 25))])<|.skip)<|.reg false [o 11<|.mv<|.t 6,o 12<|.bin .add (.t 11)<|.c<|.i 1,o 6<|.mv<|.t 12])
def c73:AF:=⟨2,27,[.tmp 4],
 (.seq (.reg false [o 4 (.mv (.c (.slice 0 [] .full)))]) (.seq (.reg false [o 5 (.mv (.c (.slice 0 [] .full)))]) (.seq (.seq (.reg false [o 6 (.mv (.c (.i 0)))]) (.block 0 (aS7))) (.seq (.reg false [o 26 (.mv (.t 5)),o 4 (.mv (.t 26))]) (.ret)))))⟩
def aS4:AC:= .loop (.seq (.seq (.reg false [o 36<|.mv<|.t 9,o 37<|.mv<|.t 0,o 38<|.aCG<|.t 37,o 39<|.bin .lss (.t 36)<|.t 38])<|.cond (.t 39) (.skip)<|.exit 0)<|.seq (.block 1<|.seq (.reg false [o 42<|.mv<|.t 0,o 43<|.mv<|.t 9,o 44<|.wY (.t 42)<|.t 43,o 10<|.mv<|.t 44])<|.seq (.reg false [o 45<|.mv<|.t 10,o 46<|.bin .geq (.t 45)<|.c<|.int .u8 97,o 47<|.mv<|.t 46,g 48 47 true<|.mv<|.t 10,g 49 47 true<|.bin .leq (.t 48)<|.c<|.int .u8 122,o 50<|.pick (.t 47) (.t 49)<|.c<|.bool false,
 o 51 (.mv (.t 50)),g 52 51 false<|.mv<|.t 10,g 53 51 false<|.bin .geq (.t 52)<|.c<|.int .u8 65,g 54 51 false<|.mv<|.t 53,g 55 54 true<|.mv<|.t 10,g 56 54 true<|.bin .leq (.t 55)<|.c<|.int .u8 90,
 g 57 51 false (.pick (.t 54) (.t 56) (.c (.bool false))),o 58<|.pick (.t 51) (.c<|.bool true)<|.t 57,o 59<|.mv<|.t 58,g 60 59 false<|.mv<|.t 10,g 61 59 false<|.bin .geq (.t 60)<|.c<|.int .u8 48,
 g 62 59 false (.mv (.t 61)),g 63 62 true<|.mv<|.t 10,g 64 62 true<|.bin .leq (.t 63)<|.c<|.int .u8 57,g 65 59 false<|.pick (.t 62) (.t 64)<|.c<|.bool false,o 66<|.pick (.t 59) (.c<|.bool true)<|.t 65,
 o 67 (.mv (.t 66)),g 68 67 false<|.mv<|.t 10,g 69 67 false<|.bin .eql (.t 68)<|.c<|.int .u8 95,o 70<|.pick (.t 67) (.c<|.bool true)<|.t 69,o 71<|.un .not<|.t 70])<|.cond (.t 71) (.seq (.reg false [o 8<|.mv<|.c<|.bool false])<|.ret)<|.skip)<|.reg false [o 40<|.mv<|.t 9,o 41<|.bin .add (.t 40)<|.c<|.i 1,o 9<|.mv<|.t 41])
def c75:AF:=⟨4,72,[.tmp 8],
 (.seq (.reg false [o 8 (.mv (.c (.bool false)))]) (.seq (.seq (.reg false [o 11 (.mv (.t 0)),o 12 (.aCG (.t 11)),o 13 (.aN false (.f 61) [(.t 12),(.c (.i 1)),(.c (.i 12))]),o 14 (.un .not (.t 13)),o 15 (.mv (.t 14)),g 16 15 false (.mv (.t 0)),
 g 17 15 false (.wY (.t 16) (.c (.i 0))),g 18 15 false (.mv (.t 1)),g 19 15 false (.bin .geq (.t 17) (.t 18)),g 20 15 false (.mv (.t 19)),g 21 20 true (.mv (.t 0)),
 g 22 20 true (.wY (.t 21) (.c (.i 0))),g 23 20 true (.mv (.t 2)),g 24 20 true (.bin .leq (.t 22) (.t 23)),g 25 15 false (.pick (.t 20) (.t 24) (.c (.bool false))),
 g 26 15 false (.mv (.t 25)),g 27 26 false (.mv (.t 3)),g 28 26 false (.mv (.t 27)),g 29 28 true (.mv (.t 0)),g 30 28 true (.wY (.t 29) (.c (.i 0))),g 31 28 true (.bin .eql (.t 30) (.c (.int .u8 95))),
 g 32 26 false (.pick (.t 28) (.t 31) (.c (.bool false))),g 33 15 false (.pick (.t 26) (.c (.bool true)) (.t 32)),g 34 15 false (.un .not (.t 33)),o 35 (.pick (.t 15) (.c (.bool true)) (.t 34))]) (.cond (.t 35) (.seq (.reg false [o 8 (.mv (.c (.bool false)))]) (.ret)) (.skip))) (.seq (.seq (.reg false [o 9 (.mv (.c (.i 0)))]) (.block 0 (aS4))) (.seq (.reg false [o 8 (.mv (.c (.bool true)))]) (.ret)))))⟩
def c76:AF:=⟨0,2,[.tmp 0],
 (.seq (.reg false [o 0 (.mv (.c (.slice 0 [] .full)))]) (.seq (.reg false [o 1 (.iD 1 25 [(.str [])] [(0,(.c (.str [102,117,110]))),(1,(.c (.str [108,101,116]))),(2,(.c (.str [114,101,99]))),(3,(.c (.str [105,110]))),(4,(.c (.str [105,102]))),(5,(.c (.str [116,104,101,110]))),(6,(.c (.str [101,108,115,101]))),(7,(.c (.str [109,97,116,99,104]))),(8,(.c (.str [100,111]))),(9,(.c (.str [104,97,110,100,108,101]))),(10,(.c (.str [115,104,97,108,108,111,119]))),(11,(.c (.str [110,97,109,101,100]))),(12,(.c (.str [109,97,115,107]))),(13,(.c (.str [117,115,105,110,103]))),(14,(.c (.str [99,108,111,115,101]))),(15,(.c (.str [114,101,115,117,109,101]))),(16,(.c (.str [100,114,111,112]))),(17,(.c (.str [114,101,116,117,114,110]))),(18,(.c (.str [116,114,117,101]))),(19,(.c (.str [102,97,108,115,101]))),(20,(.c (.str [100,97,116,97]))),(21,(.c (.str [101,102,102,101,99,116]))),(22,(.c (.str [111,110,99,101]))),(23,(.c (.str [100,101,102]))),(24,(.c (.str [109,97,105,110])))]),
 o 0 (.mv (.t 1))]) (.ret)))⟩
def c77:AF:=⟨1,10,[.tmp 2],
 (.seq (.reg false [o 2 (.mv (.c (.bool false)))]) (.seq (.reg false [o 3 (.mv (.t 0)),o 4 (.aN false (.f 109) [(.t 3),(.c (.i 2))]),o 5 (.mv (.t 4)),g 6 5 true (.mv (.t 0)),g 7 5 true (.aN false (.f 110) [(.t 6)]),g 8 5 true (.un .not (.t 7)),
 o 9 (.pick (.t 5) (.t 8) (.c (.bool false))),o 2 (.mv (.t 9))]) (.ret)))⟩
def c81:AF:=⟨1,11,[.tmp 2],
 (.seq (.reg false [o 1 (.eT (.t 0)),o 2 (.mv (.c (.i 0)))]) (.seq (.reg false [o 6 (.load true 7 (.t 1)),o 7 (.aN false (.f 113) [(.t 6)]),o 5 (.mv (.t 7)),o 8 (.extract (.t 5) 0),o 9 (.extract (.t 5) 1),o 3 (.pend [(.i 0),(.i 0)]),
 ⟨none,.shut 3 2 (.t 8),none,[]⟩,o 4 (.mv (.t 9))]) (.seq (.reg false [o 10 (.mv (.t 4)),o 2 (.mv (.t 10))]) (.ret))))⟩
def mE:AC:= .seq (.reg false [o 10<|.mv<|.t 37]) (.reg false [o 11<|.pend [(.i 0),(.i 0),(.str []),(.str []),(.slice 0 [] .full),(.slice 0 [] .full),(.slice 0 [] .full),(.slice 0 [] .full)],⟨none,.shut 11 8<|.t 38,none,[]⟩])
def mG:AC:= .block 1 (.seq (.reg true [o 40<|.load true 8<|.t 11,o 41<|.load false 1<|.t 5,o 42<|.load false 1<|.t 6,p 43 [2]<|.mv<|.t 42,⟨some 44,.load true 8<|.t 4,some (43,false),[3,2]⟩,⟨some 45,.mv<|.t 10,some (43,false),[3,2]⟩,
 ⟨some 46,.load false 1 (.t 5),some (43,false),[3,2]⟩,⟨some 47,.aN true (.f 117) [(.t 44),(.t 45),(.t 46)],some (43,false),[4,3,2,5,6]⟩,p 48 [3,2,7,4,5,6]<|.pick (.t 43) (.c<|.bool true)<|.t 47,
 o 49 (.load false 1 (.t 7)),p 50 [9,7,4,3,2,5,6]<|.mv<|.t 49,⟨some 51,.aI 0<|.t 4,some (50,false),[10,9,7,4,3,2,5,6]⟩,⟨some 52,.aI 0<|.t 51,some (50,false),[11,10,9,7,4,3,2,5,6]⟩,
 ⟨some 53,.load false 1 (.t 52),some (50,false),[12,11,10,9,7,4,3,2,5,6]⟩,⟨some 54,.bin .eql (.t 53)<|.c<|.i 4,some (50,false),[13,12,11,10,9,7,4,3,2,5,6]⟩,
 p 55 [10,9,7,4,3,2,5,6,14,13,12,11] (.pick (.t 50) (.c (.bool true)) (.t 54)),p 56 [0,1,8,3,2,7,4,5,6,15,10,9,14,13,12,11]<|.aN false (.f 82) [(.t 40),(.t 41),(.t 48),(.t 55)],
 p 39 [16,0,1,8,3,2,7,4,5,6,15,10,9,14,13,12,11] (.mv (.t 56)),p 57 [17,16,0,1,8,3,2,7,4,5,6,15,10,9,14,13,12,11]<|.extract (.t 39) 0,
 p 58 [17,16,0,1,8,3,2,7,4,5,6,15,10,9,14,13,12,11] (.extract (.t 39) 1),p 12 [18,17,16,0,1,8,3,2,7,4,5,6,15,10,9,14,13,12,11]<|.mv<|.t 57,
 p 13 [19,17,16,0,1,8,3,2,7,4,5,6,15,10,9,14,13,12,11,20,18] (.mv (.t 58))])<|.seq (.reg false [o 59<|.mv<|.t 13])<|.cond (.t 59) (.seq (.reg false [o 60<|.mv<|.t 12,⟨none,.store 1 (.t 8)<|.t 60,none,[]⟩,⟨none,.store 1 (.t 9)<|.c<|.bool true,none,[]⟩])<|.ret)<|.skip)
def c82:AF:=⟨4,61,[.cell 8 false 1,.cell 9 false 1],
 (.seq (.reg false [o 4 (.eT (.t 0)),o 5 (.eT (.t 1)),o 6 (.eT (.t 2)),o 7 (.eT (.t 3)),o 8 (.alloc [(.slice 0 [] .full)]),o 9 (.alloc [(.bool false)])]) (.seq (.seq (.reg true [o 14 (.load false 1 (.t 6)),p 15 [0] (.un .not (.t 14)),p 16 [1,0] (.mv (.t 15)),⟨some 17,.load true 8 (.t 4),some (16,true),[2,1,0]⟩,⟨some 18,.load false 1 (.t 5),some (16,true),[2,1,0]⟩,
 ⟨some 19,.aN false (.f 114) [(.t 17),(.t 18)],some (16,true),[3,2,1,0,4]⟩,p 20 [2,1,0,5,3,4] (.pick (.t 16) (.t 19) (.c (.bool false))),p 21 [6,2,1,0,5,3,4] (.mv (.t 20)),
 ⟨some 22,.load false 1 (.t 7),some (21,false),[7,6,2,1,0,5,3,4]⟩,⟨some 23,.un .not (.t 22),some (21,false),[8,7,6,2,1,0,5,3,4]⟩,⟨some 24,.mv (.t 23),some (21,false),[9,8,7,6,2,1,0,5,3,4]⟩,
 ⟨some 25,.aQm 10 1 (.g 0) none none,some (24,true),[10,9,8,7,6,2,1,0,5,3,4]⟩,⟨some 26,.aI 0 (.t 4),some (24,true),[10,9,8,7,6,2,1,0,5,3,4]⟩,
 ⟨some 27,.aI 0 (.t 26),some (24,true),[12,10,9,8,7,6,2,1,0,5,3,4]⟩,⟨some 28,.load false 1 (.t 27),some (24,true),[13,12,10,9,8,7,6,2,1,0,5,3,4]⟩,
 ⟨some 29,.aN false (.f 115) [(.t 25),(.t 28)],some (24,true),[11,10,9,8,7,6,2,1,0,5,3,4,14,13,12]⟩,⟨some 30,.un .not (.t 29),some (24,true),[15,11,10,9,8,7,6,2,1,0,5,3,4,14,13,12]⟩,
 ⟨some 31,.pick (.t 24) (.t 30) (.c (.bool false)),some (21,false),[10,9,8,7,6,2,1,0,5,3,4,16,15,11,14,13,12]⟩,p 32 [7,6,2,1,0,5,3,4,17,10,9,8,16,15,11,14,13,12] (.pick (.t 21) (.c (.bool true)) (.t 31))]) (.cond (.t 32) (.seq (.reg false [o 33 (.aI 7 (.t 4)),o 34 (.load false 1 (.t 33)),⟨none,.store 1 (.t 8) (.t 34),none,[]⟩,⟨none,.store 1 (.t 9) (.c (.bool true)),none,[]⟩]) (.ret)) (.skip))) (.seq (.seq (.reg false [o 35 (.load true 8 (.t 4)),o 36 (.aN false (.f 116) [(.t 35)])]) (.block 0 (.nU (.t 36) [37,38] (mE) (mG)))) (.seq (.reg false [⟨none,.store 1 (.t 8) (.c (.slice 0 [] .full)),none,[]⟩,⟨none,.store 1 (.t 9) (.c (.bool false)),none,[]⟩]) (.ret)))))⟩
def c83:AF:=⟨2,19,[],
 (.seq (.reg false [o 7 (.aCW)]) (.block 0 (.seq (.reg false [o 9 (.aGu false .iface (.t 7))]) (.cond (.t 9) (.reg false [o 4 (.mv (.t 7))]) (.seq (.reg false [o 10 (.assert true 160 (.agg [(.slice 0 [] .full)]) (.t 7)),o 11 (.extract (.t 10) 1),o 12 (.extract (.t 10) 0)]) (.cond (.t 11) (.seq (.reg false [o 5 (.pend [(.slice 0 [] .full)]),⟨none,.shut 5 1 (.t 12),none,[]⟩]) (.reg false [o 13 (.mv (.t 0)),o 14 (.mv (.t 1)),o 15 (.aI 0 (.t 5)),o 16 (.load false 1 (.t 15)),o 17 (.fA (.t 13)),⟨none,.store 1 (.t 17) (.t 16),none,[]⟩,o 18 (.fA (.t 14)),
 ⟨none,.store 1 (.t 18) (.c (.i 10)),none,[]⟩])) (.seq (.reg false [o 6 (.mv (.t 7))]) (.reg false [o 8 (.mv (.t 6)),⟨none,.panic (.t 8),none,[]⟩]))))))))⟩
def c84:AF:=⟨2,38,[],
 (.seq (.reg false [o 3 (.eT (.t 1))]) (.seq (.seq (.reg false [o 5 (.mv (.t 0)),o 6 (.load true 8 (.t 3)),o 7 (.call (.f 118) [(.t 5),(.t 6)])]) (.cond (.t 7) (.seq (.reg false [o 8 (.mv (.t 0)),o 9 (.load true 8 (.t 3)),o 10 (.call (.f 119) [(.t 8),(.t 9)])]) (.ret)) (.skip))) (.seq (.reg false [o 11 (.mkMap),o 12 (.mv (.t 0)),o 13 (.nT 120 [(.t 12)] []),⟨none,.mC .int (.t 11) (.c (.i 6)) (.t 13),none,[]⟩,o 14 (.mv (.t 0)),o 15 (.nT 121 [(.t 14)] []),
 ⟨none,.mC .int (.t 11) (.c (.i 8)) (.t 15),none,[]⟩,o 16 (.mv (.t 0)),o 17 (.nT 122 [(.t 16)] []),⟨none,.mC .int (.t 11) (.c (.i 11)) (.t 17),none,[]⟩,
 o 18 (.mv (.t 0)),o 19 (.nT 123 [(.t 18)] []),⟨none,.mC .int (.t 11) (.c (.i 14)) (.t 19),none,[]⟩,o 20 (.mv (.t 0)),o 21 (.nT 123 [(.t 20)] []),
 ⟨none,.mC .int (.t 11) (.c (.i 15)) (.t 21),none,[]⟩,o 22 (.mv (.t 0)),o 23 (.nT 123 [(.t 22)] []),⟨none,.mC .int (.t 11) (.c (.i 16)) (.t 23),none,[]⟩,
 o 24 (.mv (.t 11)),o 25 (.aI 0 (.t 3)),o 26 (.aI 0 (.t 25)),o 27 (.load false 1 (.t 26)),o 28 (.lookup false .int .dP (.t 24) (.t 27)),o 4 (.mv (.t 28))]) (.seq (.seq (.reg false [o 29 (.mv (.t 4)),o 30 (.aGu false .func (.t 29))]) (.cond (.t 30) (.reg false [o 31 (.aI 7 (.t 3)),o 32 (.load false 1 (.t 31)),o 33 (.build [(.slice 0 [] .full)] [(0,1,(.t 32))]),o 34 (.aBP 160 (.t 33)),⟨none,.panic (.t 34),none,[]⟩]) (.skip))) (.reg false [o 35 (.mv (.t 4)),o 36 (.load true 8 (.t 3)),o 37 (.call (.t 35) [(.t 36)])])))))⟩
def aSW:AC:= .loop (.seq (.seq (.reg false [o 94<|.mv<|.t 6,o 95<|.aI 6<|.t 2,o 96<|.load false 1<|.t 95,o 97<|.eE<|.t 96,o 98<|.bin .lss (.t 94)<|.t 97])<|.cond (.t 98) (.skip)<|.exit 1)<|.seq (.block 2<|.reg false [o 101<|.mv<|.t 5,o 102<|.mv<|.t 101,g 103 102 true<|.aI 6<|.t 2,g 104 102 true<|.load false 1<|.t 103,g 105 102 true<|.mv<|.t 6,g 106 102 true<|.cX 9 (.t 104)<|.t 105,
 g 107 102 true (.aI 1 (.t 106)),g 108 102 true<|.load false 1<|.t 107,g 109 102 true<|.mv<|.t 1,g 110 102 true<|.aN false (.f 63) [(.t 108),(.t 109)],g 111 102 true<|.un .not<|.t 110,
 o 112 (.pick (.t 102) (.t 111) (.c (.bool false))),o 113<|.mv<|.t 112,g 114 113 true<|.aI 6<|.t 2,g 115 113 true<|.load false 1<|.t 114,g 116 113 true<|.mv<|.t 6,
 g 117 113 true (.cX 9 (.t 115) (.t 116)),g 118 113 true<|.aI 2<|.t 117,g 119 113 true<|.load true 7<|.t 118,g 120 113 true<|.mv<|.t 1,g 121 113 true<|.aN false (.f 85) [(.t 119),(.t 120)],
 o 122 (.pick (.t 113) (.t 121) (.c (.bool false))),o 5<|.mv<|.t 122])<|.reg false [o 99<|.mv<|.t 6,o 100<|.bin .add (.t 99)<|.c<|.i 1,o 6<|.mv<|.t 100])
def aTg:AC:= .loop (.seq (.seq (.reg false [o 134<|.mv<|.t 8,o 135<|.aI 6<|.t 2,o 136<|.load false 1<|.t 135,o 137<|.eE<|.t 136,o 138<|.bin .lss (.t 134)<|.t 137])<|.cond (.t 138) (.skip)<|.exit 3)<|.seq (.block 4<|.reg false [o 141<|.mv<|.t 7,o 142<|.mv<|.t 141,g 143 142 true<|.aI 6<|.t 2,g 144 142 true<|.load false 1<|.t 143,g 145 142 true<|.mv<|.t 8,g 146 142 true<|.cX 9 (.t 144)<|.t 145,
 g 147 142 true (.aI 1 (.t 146)),g 148 142 true<|.load false 1<|.t 147,g 149 142 true<|.mv<|.t 1,g 150 142 true<|.aN false (.f 63) [(.t 148),(.t 149)],g 151 142 true<|.mv<|.t 150,
 g 152 151 false (.aI 6 (.t 2)),g 153 151 false<|.load false 1<|.t 152,g 154 151 false<|.mv<|.t 8,g 155 151 false<|.cX 9 (.t 153)<|.t 154,g 156 151 false<|.aI 2<|.t 155,
 g 157 151 false (.load true 7 (.t 156)),g 158 151 false<|.mv<|.t 1,g 159 151 false<|.aN false (.f 124) [(.t 157),(.t 158)],g 160 151 false<|.un .not<|.t 159,
 g 161 142 true (.pick (.t 151) (.c (.bool true)) (.t 160)),o 162<|.pick (.t 142) (.t 161)<|.c<|.bool false,o 7<|.mv<|.t 162])<|.reg false [o 139<|.mv<|.t 8,o 140<|.bin .add (.t 139)<|.c<|.i 1,o 8<|.mv<|.t 140])
def c85:AF:=⟨2,164,[.tmp 4],
 (.seq (.reg false [o 2 (.eT (.t 0)),o 4 (.mv (.c (.bool false)))]) (.seq (.seq (.reg false [o 9 (.aI 0 (.t 2)),o 10 (.load false 1 (.t 9))]) (.block 0 (.seq (.seq (.reg false [o 12 (.bin .eql (.t 10) (.c (.i 18))),o 11 (.mv (.t 12))]) (.cond (.t 11) (.skip) (.reg false [o 13 (.bin .eql (.t 10) (.c (.i 19))),o 11 (.mv (.t 13))]))) (.cond (.t 11) (.seq (.reg false [o 14 (.load true 7 (.t 2)),o 15 (.mv (.t 1)),o 16 (.aN false (.f 87) [(.t 14),(.t 15)]),o 4 (.mv (.t 16))]) (.ret)) (.seq (.reg false [o 18 (.bin .eql (.t 10) (.c (.i 6))),o 17 (.mv (.t 18))]) (.cond (.t 17) (.seq (.seq (.reg false [o 19 (.aI 5 (.t 2)),o 20 (.load false 1 (.t 19)),o 21 (.cX 7 (.t 20) (.c (.i 0))),o 22 (.load true 7 (.t 21)),o 23 (.mv (.t 1)),o 24 (.aN false (.f 87) [(.t 22),(.t 23)])]) (.cond (.t 24) (.seq (.reg false [o 25 (.aI 4 (.t 2)),o 26 (.load false 1 (.t 25)),o 27 (.cX 1 (.t 26) (.c (.i 0))),o 28 (.load false 1 (.t 27)),o 29 (.mv (.t 1)),o 30 (.bin .eql (.t 28) (.t 29)),
 o 31 (.mv (.t 30)),g 32 31 false (.aI 5 (.t 2)),g 33 31 false (.load false 1 (.t 32)),g 34 31 false (.cX 7 (.t 33) (.c (.i 1))),g 35 31 false (.load true 7 (.t 34)),
 g 36 31 false (.mv (.t 1)),g 37 31 false (.aN false (.f 124) [(.t 35),(.t 36)]),g 38 31 false (.un .not (.t 37)),o 39 (.pick (.t 31) (.c (.bool true)) (.t 38)),o 4 (.mv (.t 39))]) (.ret)) (.skip))) (.seq (.reg false [o 40 (.aI 5 (.t 2)),o 41 (.load false 1 (.t 40)),o 42 (.cX 7 (.t 41) (.c (.i 0))),o 43 (.load true 7 (.t 42)),o 44 (.mv (.t 1)),o 45 (.aN false (.f 38) [(.t 43),(.t 44)]),
 o 46 (.mv (.t 45)),g 47 46 true (.aI 4 (.t 2)),g 48 46 true (.load false 1 (.t 47)),g 49 46 true (.cX 1 (.t 48) (.c (.i 0))),g 50 46 true (.load false 1 (.t 49)),
 g 51 46 true (.mv (.t 1)),g 52 46 true (.bin .neq (.t 50) (.t 51)),o 53 (.pick (.t 46) (.t 52) (.c (.bool false))),o 54 (.mv (.t 53)),g 55 54 true (.aI 5 (.t 2)),
 g 56 54 true (.load false 1 (.t 55)),g 57 54 true (.cX 7 (.t 56) (.c (.i 1))),g 58 54 true (.load true 7 (.t 57)),g 59 54 true (.mv (.t 1)),g 60 54 true (.aN false (.f 85) [(.t 58),(.t 59)]),
 o 61 (.pick (.t 54) (.t 60) (.c (.bool false))),o 4 (.mv (.t 61))]) (.ret))) (.seq (.reg false [o 63 (.bin .eql (.t 10) (.c (.i 8))),o 62 (.mv (.t 63))]) (.cond (.t 62) (.seq (.reg false [o 64 (.aI 5 (.t 2)),o 65 (.load false 1 (.t 64)),o 66 (.cX 7 (.t 65) (.c (.i 0))),o 67 (.load true 7 (.t 66)),o 68 (.mv (.t 1)),o 69 (.aN false (.f 38) [(.t 67),(.t 68)]),
 o 70 (.mv (.t 69)),g 71 70 true (.aI 5 (.t 2)),g 72 70 true (.load false 1 (.t 71)),g 73 70 true (.cX 7 (.t 72) (.c (.i 1))),g 74 70 true (.load true 7 (.t 73)),
 g 75 70 true (.mv (.t 1)),g 76 70 true (.aN false (.f 85) [(.t 74),(.t 75)]),o 77 (.pick (.t 70) (.t 76) (.c (.bool false))),o 78 (.mv (.t 77)),g 79 78 true (.aI 5 (.t 2)),
 g 80 78 true (.load false 1 (.t 79)),g 81 78 true (.cX 7 (.t 80) (.c (.i 2))),g 82 78 true (.load true 7 (.t 81)),g 83 78 true (.mv (.t 1)),g 84 78 true (.aN false (.f 85) [(.t 82),(.t 83)]),
 o 85 (.pick (.t 78) (.t 84) (.c (.bool false))),o 4 (.mv (.t 85))]) (.ret)) (.seq (.reg false [o 87 (.bin .eql (.t 10) (.c (.i 11))),o 86 (.mv (.t 87))]) (.cond (.t 86) (.seq (.reg false [o 88 (.aI 5 (.t 2)),o 89 (.load false 1 (.t 88)),o 90 (.cX 7 (.t 89) (.c (.i 0))),o 91 (.load true 7 (.t 90)),o 92 (.mv (.t 1)),o 93 (.aN false (.f 38) [(.t 91),(.t 92)]),
 o 5 (.mv (.t 93))]) (.seq (.seq (.reg false [o 6 (.mv (.c (.i 0)))]) (.block 1 (aSW))) (.seq (.reg false [o 123 (.mv (.t 5)),o 4 (.mv (.t 123))]) (.ret)))) (.seq (.seq (.reg false [o 125 (.bin .eql (.t 10) (.c (.i 14))),o 124 (.mv (.t 125))]) (.cond (.t 124) (.skip) (.seq (.reg false [o 126 (.bin .eql (.t 10) (.c (.i 15))),o 124 (.mv (.t 126))]) (.cond (.t 124) (.skip) (.reg false [o 127 (.bin .eql (.t 10) (.c (.i 16))),o 124 (.mv (.t 127))]))))) (.cond (.t 124) (.seq (.reg false [o 128 (.aI 5 (.t 2)),o 129 (.load false 1 (.t 128)),o 130 (.cX 7 (.t 129) (.c (.i 0))),o 131 (.load true 7 (.t 130)),o 132 (.mv (.t 1)),o 133 (.aN false (.f 85) [(.t 131),(.t 132)]),
 o 7 (.mv (.t 133))]) (.seq (.seq (.reg false [o 8 (.mv (.c (.i 0)))]) (.block 3 (aTg))) (.seq (.reg false [o 163 (.mv (.t 7)),o 4 (.mv (.t 163))]) (.ret)))) (.skip))))))))))))) (.seq (.reg false [o 4 (.mv (.c (.bool false)))]) (.ret))))⟩
def c86:AF:=⟨2,19,[.tmp 4],
 (.seq (.reg false [o 2 (.eT (.t 0)),o 4 (.mv (.c (.bool false)))]) (.seq (.reg false [o 5 (.aI 0 (.t 2)),o 6 (.load false 1 (.t 5)),o 7 (.bin .eql (.t 6) (.c (.i 18))),o 8 (.mv (.t 7)),g 9 8 false (.aI 0 (.t 2)),g 10 8 false (.load false 1 (.t 9)),
 g 11 8 false (.bin .eql (.t 10) (.c (.i 19))),o 12 (.pick (.t 8) (.c (.bool true)) (.t 11)),o 13 (.mv (.t 12)),g 14 13 true (.aI 2 (.t 2)),g 15 13 true (.load false 1 (.t 14)),
 g 16 13 true (.mv (.t 1)),g 17 13 true (.bin .eql (.t 15) (.t 16)),o 18 (.pick (.t 13) (.t 17) (.c (.bool false))),o 4 (.mv (.t 18))]) (.ret)))⟩
def c87:AF:=⟨2,21,[.tmp 4],
 (.seq (.reg false [o 2 (.eT (.t 0)),o 4 (.mv (.c (.bool false)))]) (.seq (.reg false [o 5 (.load true 7 (.t 2)),o 6 (.mv (.t 1)),o 7 (.aN false (.f 86) [(.t 5),(.t 6)]),o 8 (.mv (.t 7)),g 9 8 true (.aI 0 (.t 2)),g 10 8 true (.load false 1 (.t 9)),
 g 11 8 true (.bin .eql (.t 10) (.c (.i 19))),g 12 8 true (.mv (.t 11)),g 13 12 false (.aI 5 (.t 2)),g 14 12 false (.load false 1 (.t 13)),g 15 12 false (.cX 7 (.t 14) (.c (.i 0))),
 g 16 12 false (.load true 7 (.t 15)),g 17 12 false (.mv (.t 1)),g 18 12 false (.aN false (.f 38) [(.t 16),(.t 17)]),g 19 8 true (.pick (.t 12) (.c (.bool true)) (.t 18)),
 o 20 (.pick (.t 8) (.t 19) (.c (.bool false))),o 4 (.mv (.t 20))]) (.ret)))⟩
def aS9:AC:= .loop (.seq (.seq (.reg false [o 16<|.mv<|.t 7,o 17<|.mv<|.t 6,o 18<|.eE<|.t 17,o 19<|.bin .lss (.t 16)<|.t 18])<|.cond (.t 19) (.skip)<|.exit 0)<|.seq (.block 1<|.seq (.seq (.reg false [o 22<|.load true 7<|.t 2,o 23<|.mv<|.t 7,o 24<|.aN false (.f 64) [(.t 22),(.t 23)],o 25<|.mv<|.t 1,o 26<|.aN false (.f 63) [(.t 24),(.t 25)]])<|.cond (.t 26) (.exit 1)<|.skip)<|.seq (.reg false [o 28<|.mv<|.t 6,o 29<|.mv<|.t 7,o 30<|.cX 7 (.t 28)<|.t 29,o 31<|.load true 7<|.t 30,o 32<|.mv<|.t 1,o 33<|.aN false (.f 88) [(.t 31),(.t 32)],o 27<|.mv<|.t 33,
 o 34 (.extract (.t 27) 0),o 35<|.extract (.t 27) 1,o 8<|.mv<|.t 34,o 9<|.mv<|.t 35])<|.seq (.reg false [o 36<|.mv<|.t 9])<|.cond (.t 36) (.seq (.reg false [o 37<|.mv<|.t 7,o 38<|.mv<|.t 8,o 39<|.aN false (.f 60) [(.t 37),(.t 38)],o 4<|.mv<|.t 39,o 5<|.mv<|.c<|.bool true])<|.ret)<|.skip)<|.reg false [o 20<|.mv<|.t 7,o 21<|.bin .add (.t 20)<|.c<|.i 1,o 7<|.mv<|.t 21])
def c88:AF:=⟨2,40,[.tmp 4,.tmp 5],
 (.seq (.reg false [o 2 (.eT (.t 0)),o 4 (.mv (.c (.slice 0 [] .full))),o 5 (.mv (.c (.bool false)))]) (.seq (.seq (.reg false [o 10 (.load true 7 (.t 2)),o 11 (.aN false (.f 62) [(.t 10)]),o 12 (.mv (.t 1)),o 13 (.bin .eql (.t 11) (.t 12))]) (.cond (.t 13) (.seq (.reg false [o 4 (.mv (.c (.slice 0 [] .full))),o 5 (.mv (.c (.bool true)))]) (.ret)) (.skip))) (.seq (.reg false [o 14 (.load true 7 (.t 2)),o 15 (.aN false (.f 35) [(.t 14)]),o 6 (.mv (.t 15))]) (.seq (.seq (.reg false [o 7 (.mv (.c (.i 0)))]) (.block 0 (aS9))) (.seq (.reg false [o 4 (.mv (.c (.slice 0 [] .full))),o 5 (.mv (.c (.bool false)))]) (.ret))))))⟩
def aTf:AC:= .loop (.seq (.seq (.reg false [o 6<|.mv<|.t 5,o 7<|.mv<|.t 0,o 8<|.eE<|.t 7,o 9<|.bin .lss (.t 6)<|.t 8])<|.cond (.t 9) (.skip)<|.exit 0)<|.seq (.block 1<|.seq (.reg false [o 12<|.mv<|.t 0,o 13<|.mv<|.t 5,o 14<|.cX 1 (.t 12)<|.t 13,o 15<|.load false 1<|.t 14,o 16<|.mv<|.t 1,o 17<|.bin .eql (.t 15)<|.t 16])<|.cond (.t 17) (.seq (.reg false [o 18<|.mv<|.t 5,o 4<|.mv<|.t 18])<|.ret)<|.skip)<|.reg false [o 10<|.mv<|.t 5,o 11<|.bin .add (.t 10)<|.c<|.i 1,o 5<|.mv<|.t 11])
def c98:AF:=⟨2,19,[.tmp 4],
 (.seq (.reg false [o 4 (.mv (.c (.i 0)))]) (.seq (.seq (.reg false [o 5 (.mv (.c (.i 0)))]) (.block 0 (aTf))) (.seq (.reg false [o 4 (.mv (.c (.i (-1))))]) (.ret))))⟩
def aUJ:AF:=⟨1,115,[.tmp 2],
 (.seq (.reg false [o 1 (.eT (.t 0)),o 2 (.mv (.c (.i 0)))]) (.seq (.reg false [o 8 (.aN false (.f 159) []),o 3 (.mv (.t 8))]) (.seq (.seq (.reg false [o 9 (.aI 0 (.t 1)),o 10 (.load false 1 (.t 9)),o 11 (.mv (.t 3)),o 12 (.eE (.t 11)),o 13 (.bin .sub (.t 12) (.c (.i 1))),o 14 (.aN false (.f 61) [(.t 10),(.c (.i 0)),(.t 13)]),
 o 15 (.un .not (.t 14))]) (.cond (.t 15) (.seq (.reg false [o 2 (.mv (.c (.i 1)))]) (.ret)) (.skip))) (.seq (.reg false [o 16 (.mv (.t 3)),o 17 (.aI 0 (.t 1)),o 18 (.load false 1 (.t 17)),o 19 (.cX 7 (.t 16) (.t 18)),o 20 (.load true 7 (.t 19)),o 4 (.pend [(.i 0),(.i 0),(.i 0),(.i 0),(.bool false),(.i 0),(.i 0)]),
 ⟨none,.shut 4 7 (.t 20),none,[]⟩]) (.seq (.seq (.reg false [o 21 (.aI 1 (.t 1)),o 22 (.load false 1 (.t 21)),o 23 (.aI 5 (.t 4)),o 24 (.load false 1 (.t 23)),o 25 (.aI 6 (.t 4)),o 26 (.load false 1 (.t 25)),o 27 (.aN false (.f 61) [(.t 22),(.t 24),(.t 26)]),
 o 28 (.un .not (.t 27))]) (.cond (.t 28) (.seq (.reg false [o 2 (.mv (.c (.i 1)))]) (.ret)) (.skip))) (.seq (.seq (.reg false [o 29 (.aI 2 (.t 1)),o 30 (.load false 1 (.t 29)),o 31 (.aI 0 (.t 4)),o 32 (.load false 1 (.t 31)),o 33 (.aN false (.f 160) [(.t 30),(.t 32)]),o 34 (.un .not (.t 33)),
 o 35 (.mv (.t 34)),g 36 35 false (.aI 3 (.t 1)),g 37 35 false (.load false 1 (.t 36)),g 38 35 false (.aI 1 (.t 4)),g 39 35 false (.load false 1 (.t 38)),g 40 35 false (.aN false (.f 160) [(.t 37),(.t 39)]),
 g 41 35 false (.un .not (.t 40)),o 42 (.pick (.t 35) (.c (.bool true)) (.t 41))]) (.cond (.t 42) (.seq (.reg false [o 2 (.mv (.c (.i 4)))]) (.ret)) (.skip))) (.seq (.reg false [o 43 (.aI 4 (.t 1)),o 44 (.load false 1 (.t 43)),o 45 (.eE (.t 44)),o 46 (.aI 2 (.t 4)),o 47 (.load false 1 (.t 46)),o 48 (.bin .eql (.t 45) (.t 47)),o 49 (.mv (.t 48)),
 g 50 49 false (.aI 0 (.t 1)),g 51 49 false (.load false 1 (.t 50)),g 52 49 false (.bin .eql (.t 51) (.c (.i 17))),g 53 49 false (.mv (.t 52)),g 54 53 true (.aI 4 (.t 1)),
 g 55 53 true (.load false 1 (.t 54)),g 56 53 true (.eE (.t 55)),g 57 53 true (.bin .geq (.t 56) (.c (.i 1))),g 58 49 false (.pick (.t 53) (.t 57) (.c (.bool false))),
 g 59 49 false (.mv (.t 58)),g 60 59 true (.aI 4 (.t 1)),g 61 59 true (.load false 1 (.t 60)),g 62 59 true (.eE (.t 61)),g 63 59 true (.bin .leq (.t 62) (.c (.i 13))),
 g 64 49 false (.pick (.t 59) (.t 63) (.c (.bool false))),o 65 (.pick (.t 49) (.c (.bool true)) (.t 64)),o 5 (.mv (.t 65))]) (.seq (.reg false [o 66 (.aI 5 (.t 1)),o 67 (.load false 1 (.t 66)),o 68 (.eE (.t 67)),o 69 (.aI 3 (.t 4)),o 70 (.load false 1 (.t 69)),o 71 (.bin .eql (.t 68) (.t 70)),o 72 (.mv (.t 71)),
 g 73 72 false (.aI 0 (.t 1)),g 74 72 false (.load false 1 (.t 73)),g 75 72 false (.bin .eql (.t 74) (.c (.i 10))),g 76 72 false (.mv (.t 75)),g 77 76 true (.aI 5 (.t 1)),
 g 78 76 true (.load false 1 (.t 77)),g 79 76 true (.eE (.t 78)),g 80 76 true (.bin .leq (.t 79) (.c (.i 4))),g 81 72 false (.pick (.t 76) (.t 80) (.c (.bool false))),
 o 82 (.pick (.t 72) (.c (.bool true)) (.t 81)),o 6 (.mv (.t 82))]) (.seq (.seq (.reg false [o 83 (.mv (.t 5)),o 84 (.un .not (.t 83)),o 85 (.mv (.t 84)),g 86 85 false (.mv (.t 6)),g 87 85 false (.un .not (.t 86)),o 88 (.pick (.t 85) (.c (.bool true)) (.t 87)),
 o 89 (.mv (.t 88)),g 90 89 false (.aI 4 (.t 4)),g 91 89 false (.load false 1 (.t 90)),g 92 89 false (.un .not (.t 91)),g 93 89 false (.mv (.t 92)),g 94 93 true (.aI 6 (.t 1)),
 g 95 93 true (.load false 1 (.t 94)),g 96 93 true (.eE (.t 95)),g 97 93 true (.bin .gtr (.t 96) (.c (.i 0))),g 98 89 false (.pick (.t 93) (.t 97) (.c (.bool false))),
 o 99 (.pick (.t 89) (.c (.bool true)) (.t 98)),o 100 (.mv (.t 99)),g 101 100 false (.aI 6 (.t 1)),g 102 100 false (.load false 1 (.t 101)),g 103 100 false (.eE (.t 102)),
 g 104 100 false (.bin .gtr (.t 103) (.c (.i 9))),o 105 (.pick (.t 100) (.c (.bool true)) (.t 104))]) (.cond (.t 105) (.seq (.reg false [o 2 (.mv (.c (.i 7)))]) (.ret)) (.skip))) (.seq (.seq (.reg false [o 106 (.load true 7 (.t 1)),o 107 (.aN false (.f 161) [(.t 106)]),o 7 (.mv (.t 107))]) (.seq (.reg false [o 108 (.mv (.t 7)),o 109 (.bin .neq (.t 108) (.c (.i 0)))]) (.cond (.t 109) (.seq (.reg false [o 110 (.mv (.t 7)),o 2 (.mv (.t 110))]) (.ret)) (.skip)))) (.seq (.seq (.reg false [o 111 (.aI 4 (.t 4)),o 112 (.load false 1 (.t 111))]) (.cond (.t 112) (.seq (.reg false [o 113 (.load true 7 (.t 1)),o 114 (.aN false (.f 162) [(.t 113)]),o 2 (.mv (.t 114))]) (.ret)) (.skip))) (.seq (.reg false [o 2 (.mv (.c (.i 0)))]) (.ret)))))))))))))⟩
def aTy:AF:=⟨1,15,[.tmp 2],
 (.seq (.reg false [o 2 (.mv (.c (.bool false)))]) (.seq (.seq (.reg false [o 3 (.mv (.t 0))]) (.block 0 (.seq (.seq (.reg false [o 5 (.bin .eql (.t 3) (.c (.i 0))),o 4 (.mv (.t 5))]) (.cond (.t 4) (.skip) (.seq (.reg false [o 6 (.bin .eql (.t 3) (.c (.i 1))),o 4 (.mv (.t 6))]) (.cond (.t 4) (.skip) (.seq (.reg false [o 7 (.bin .eql (.t 3) (.c (.i 2))),o 4 (.mv (.t 7))]) (.cond (.t 4) (.skip) (.seq (.reg false [o 8 (.bin .eql (.t 3) (.c (.i 3))),o 4 (.mv (.t 8))]) (.cond (.t 4) (.skip) (.seq (.reg false [o 9 (.bin .eql (.t 3) (.c (.i 4))),o 4 (.mv (.t 9))]) (.cond (.t 4) (.skip) (.seq (.reg false [o 10 (.bin .eql (.t 3) (.c (.i 6))),o 4 (.mv (.t 10))]) (.cond (.t 4) (.skip) (.seq (.reg false [o 11 (.bin .eql (.t 3) (.c (.i 8))),o 4 (.mv (.t 11))]) (.cond (.t 4) (.skip) (.seq (.reg false [o 12 (.bin .eql (.t 3) (.c (.i 9))),o 4 (.mv (.t 12))]) (.cond (.t 4) (.skip) (.seq (.reg false [o 13 (.bin .eql (.t 3) (.c (.i 10))),o 4 (.mv (.t 13))]) (.cond (.t 4) (.skip) (.reg false [o 14 (.bin .eql (.t 3) (.c (.i 11))),o 4 (.mv (.t 14))]))))))))))))))))))) (.cond (.t 4) (.seq (.reg false [o 2 (.mv (.c (.bool true)))]) (.ret)) (.skip))))) (.seq (.reg false [o 2 (.mv (.c (.bool false)))]) (.ret))))⟩
def aP6:AC:= .loop (.seq (.reg false [o 23<|.oG<|.t 22,o 24<|.extract (.t 23) 0])<|.seq (.cond (.t 24) (.skip)<|.exit 0)<|.block 1<|.seq (.reg false [o 25<|.extract (.t 23) 2,o 6<|.mv<|.t 25])<|.seq (.reg false [o 26<|.mv<|.t 6,o 27<|.bin .gtr (.t 26)<|.c<|.int .i32 127,o 28<|.mv<|.t 27,g 29 28 false<|.mv<|.t 6,g 30 28 false<|.toInt .u8<|.t 29,g 31 28 false<|.aN false (.f 164) [(.t 30)],
 g 32 28 false (.bin .lss (.t 31) (.c (.i 2))),o 33<|.pick (.t 28) (.c<|.bool true)<|.t 32])<|.cond (.t 33) (.seq (.reg false [o 4<|.mv<|.c<|.bool false])<|.ret)<|.skip)
def aSm:AF:=⟨2,34,[.tmp 4],
 (.seq (.reg false [o 4 (.mv (.c (.bool false)))]) (.seq (.seq (.reg false [o 7 (.mv (.t 0)),o 8 (.bin .eql (.t 7) (.c (.str []))),o 9 (.mv (.t 8)),g 10 9 false (.mv (.t 0)),g 11 9 false (.aCG (.t 10)),g 12 9 false (.bin .gtr (.t 11) (.c (.i 12))),
 o 13 (.pick (.t 9) (.c (.bool true)) (.t 12)),o 14 (.mv (.t 13)),g 15 14 false (.mv (.t 0)),g 16 14 false (.wY (.t 15) (.c (.i 0))),g 17 14 false (.aN false (.f 164) [(.t 16)]),
 g 18 14 false (.mv (.t 1)),g 19 14 false (.bin .neq (.t 17) (.t 18)),o 20 (.pick (.t 14) (.c (.bool true)) (.t 19))]) (.cond (.t 20) (.seq (.reg false [o 4 (.mv (.c (.bool false)))]) (.ret)) (.skip))) (.seq (.seq (.reg false [o 21 (.mv (.t 0)),o 22 (.n4 (.t 21))]) (.block 0 (aP6))) (.seq (.reg false [o 4 (.mv (.c (.bool true)))]) (.ret)))))⟩
def aUA:AF:=⟨1,12,[.tmp 2],
 (.seq (.reg false [o 2 (.mv (.c (.bool false)))]) (.seq (.reg false [o 6 (.call (.f 165) []),o 7 (.mv (.t 0)),o 8 (.lookup true .str (.i 0) (.t 6) (.t 7)),o 5 (.mv (.t 8)),o 9 (.extract (.t 5) 0),o 10 (.extract (.t 5) 1),o 3 (.mv (.t 9)),
 o 4 (.mv (.t 10))]) (.seq (.reg false [o 11 (.mv (.t 4)),o 2 (.mv (.t 11))]) (.ret))))⟩
def aUp:AF:=⟨1,13,[.cell 2 true 2,.tmp 3],
 (.seq (.reg false [o 1 (.eT (.t 0)),o 2 (.alloc [(.i 0),(.i 0)]),o 3 (.mv (.c (.i 0)))]) (.seq (.reg false [o 5 (.build [(.i 0),(.i 0)] [(0,1,(.c (.i 3000)))]),o 4 (.alloc [(.i 0),(.i 0)]),⟨none,.store 2 (.t 4) (.t 5),none,[]⟩]) (.seq (.seq (.reg false [o 6 (.load true 7 (.t 1)),o 7 (.call (.f 147) [(.t 4),(.t 6),(.c (.i 1))]),o 8 (.un .not (.t 7))]) (.cond (.t 8) (.seq (.reg false [o 9 (.load true 2 (.t 4)),⟨none,.store 2 (.t 2) (.t 9),none,[]⟩,o 3 (.mv (.c (.i 3)))]) (.ret)) (.skip))) (.seq (.reg true [o 10 (.load true 2 (.t 4)),o 11 (.load true 7 (.t 1)),p 12 [1] (.aN true (.f 150) [(.t 11)]),⟨none,.store 2 (.t 2) (.t 10),none,[0,2,1]⟩,p 3 [2,1,3,0] (.mv (.t 12))]) (.ret)))))⟩
def aUI:AF:=⟨2,28,[.tmp 4],
 (.seq (.reg false [o 2 (.eT (.t 0)),o 4 (.mv (.c (.bool false)))]) (.seq (.reg false [o 5 (.aI 0 (.t 2)),o 6 (.aI 2 (.t 5)),o 7 (.load false 1 (.t 6)),o 8 (.mv (.t 1)),o 9 (.bin .eql (.t 7) (.t 8)),o 10 (.mv (.t 9)),g 11 10 true (.aI 0 (.t 2)),
 g 12 10 true (.aI 0 (.t 11)),g 13 10 true (.load false 1 (.t 12)),g 14 10 true (.bin .eql (.t 13) (.c (.i 0))),g 15 10 true (.mv (.t 14)),g 16 15 false (.aI 0 (.t 2)),
 g 17 15 false (.aI 0 (.t 16)),g 18 15 false (.load false 1 (.t 17)),g 19 15 false (.bin .eql (.t 18) (.c (.i 18))),g 20 10 true (.pick (.t 15) (.c (.bool true)) (.t 19)),
 g 21 10 true (.mv (.t 20)),g 22 21 false (.aI 0 (.t 2)),g 23 21 false (.aI 0 (.t 22)),g 24 21 false (.load false 1 (.t 23)),g 25 21 false (.bin .eql (.t 24) (.c (.i 19))),
 g 26 10 true (.pick (.t 21) (.c (.bool true)) (.t 25)),o 27 (.pick (.t 10) (.t 26) (.c (.bool false))),o 4 (.mv (.t 27))]) (.ret)))⟩
def aT1:AF:=⟨2,9,[.tmp 4],
 (.seq (.reg false [o 4 (.mv (.c (.bool false)))]) (.seq (.reg false [o 5 (.mv (.t 0)),o 6 (.mv (.t 1)),o 7 (.aN false (.f 167) [(.t 5),(.t 6)]),o 8 (.bin .geq (.t 7) (.c (.i 0))),o 4 (.mv (.t 8))]) (.ret)))⟩
def aUV:AF:=⟨1,4,[.tmp 2],
 (.seq (.reg false [o 1 (.eT (.t 0)),o 2 (.mv (.c .dP))]) (.seq (.reg false [o 3 (.nT 168 [] [(.t 1)]),o 2 (.mv (.t 3))]) (.ret)))⟩
def aUP:AF:=⟨3,75,[.tmp 6],
 (.seq (.reg false [o 3 (.eT (.t 0)),o 6 (.mv (.c (.bool false)))]) (.seq (.seq (.reg false [o 7 (.mv (.t 1)),o 8 (.aI 0 (.t 3)),o 9 (.aI 5 (.t 8)),o 10 (.load false 1 (.t 9)),o 11 (.eE (.t 10)),o 12 (.bin .geq (.t 7) (.t 11))]) (.cond (.t 12) (.seq (.reg false [o 13 (.aI 0 (.t 3)),o 14 (.aI 6 (.t 13)),o 15 (.load false 1 (.t 14)),o 16 (.mv (.t 1)),o 17 (.aI 0 (.t 3)),o 18 (.aI 5 (.t 17)),o 19 (.load false 1 (.t 18)),
 o 20 (.eE (.t 19)),o 21 (.bin .sub (.t 16) (.t 20)),o 22 (.cX 9 (.t 15) (.t 21)),o 23 (.aI 1 (.t 22)),o 24 (.load false 1 (.t 23)),o 25 (.mv (.t 2)),o 26 (.aN false (.f 127) [(.t 24),(.t 25)]),
 o 6 (.mv (.t 26))]) (.ret)) (.skip))) (.seq (.seq (.reg false [o 27 (.aI 0 (.t 3)),o 28 (.aI 0 (.t 27)),o 29 (.load false 1 (.t 28))]) (.block 0 (.seq (.reg false [o 31 (.bin .eql (.t 29) (.c (.i 4))),o 30 (.mv (.t 31))]) (.cond (.t 30) (.seq (.reg false [o 32 (.aI 0 (.t 3)),o 33 (.aI 4 (.t 32)),o 34 (.load false 1 (.t 33)),o 35 (.cX 1 (.t 34) (.c (.i 0))),o 36 (.load false 1 (.t 35)),o 37 (.mv (.t 2)),
 o 38 (.bin .eql (.t 36) (.t 37)),o 6 (.mv (.t 38))]) (.ret)) (.seq (.reg false [o 40 (.bin .eql (.t 29) (.c (.i 6))),o 39 (.mv (.t 40))]) (.cond (.t 39) (.seq (.reg false [o 41 (.mv (.t 1)),o 42 (.bin .eql (.t 41) (.c (.i 1))),o 43 (.mv (.t 42)),g 44 43 true (.aI 0 (.t 3)),g 45 43 true (.aI 4 (.t 44)),g 46 43 true (.load false 1 (.t 45)),
 g 47 43 true (.cX 1 (.t 46) (.c (.i 0))),g 48 43 true (.load false 1 (.t 47)),g 49 43 true (.mv (.t 2)),g 50 43 true (.bin .eql (.t 48) (.t 49)),o 51 (.pick (.t 43) (.t 50) (.c (.bool false))),
 o 6 (.mv (.t 51))]) (.ret)) (.seq (.reg false [o 53 (.bin .eql (.t 29) (.c (.i 17))),o 52 (.mv (.t 53))]) (.cond (.t 52) (.seq (.reg false [o 54 (.mv (.t 1)),o 55 (.bin .eql (.t 54) (.c (.i 2))),o 56 (.mv (.t 55)),g 57 56 true (.aI 0 (.t 3)),g 58 56 true (.aI 4 (.t 57)),g 59 56 true (.load false 1 (.t 58)),
 g 60 56 true (.cX 1 (.t 59) (.c (.i 0))),g 61 56 true (.load false 1 (.t 60)),g 62 56 true (.mv (.t 2)),g 63 56 true (.bin .eql (.t 61) (.t 62)),o 64 (.pick (.t 56) (.t 63) (.c (.bool false))),
 o 6 (.mv (.t 64))]) (.ret)) (.seq (.reg false [o 66 (.bin .eql (.t 29) (.c (.i 7))),o 65 (.mv (.t 66))]) (.cond (.t 65) (.seq (.reg false [o 67 (.aI 0 (.t 3)),o 68 (.aI 4 (.t 67)),o 69 (.load false 1 (.t 68)),o 70 (.mv (.t 1)),o 71 (.bin .sub (.c (.i 2)) (.t 70)),o 72 (.aAg 1 (.t 69) none (some (.t 71)) none),
 o 73 (.mv (.t 2)),o 74 (.aN false (.f 127) [(.t 72),(.t 73)]),o 6 (.mv (.t 74))]) (.ret)) (.skip))))))))))) (.seq (.reg false [o 6 (.mv (.c (.bool false)))]) (.ret)))))⟩
def aUo:AF:=⟨2,25,[.tmp 4],
 (.seq (.reg false [o 3 (.eT (.t 1)),o 4 (.mv (.c (.bool false)))]) (.seq (.reg true [o 5 (.aI 0 (.t 3)),p 6 [0] (.aI 0 (.t 5)),p 7 [1,0] (.load false 1 (.t 6)),p 8 [2,1,0] (.bin .eql (.t 7) (.c (.i 18))),p 9 [3,2,1,0] (.mv (.t 8)),
 ⟨some 10,.aI 0 (.t 3),some (9,false),[4,3,2,1,0]⟩,⟨some 11,.aI 0 (.t 10),some (9,false),[5,4,3,2,1,0]⟩,⟨some 12,.load false 1 (.t 11),some (9,false),[6,5,4,3,2,1,0]⟩,
 ⟨some 13,.bin .eql (.t 12) (.c (.i 19)),some (9,false),[7,6,5,4,3,2,1,0]⟩,p 14 [4,3,2,1,0,8,7,6,5] (.pick (.t 9) (.c (.bool true)) (.t 13)),
 p 15 [9,4,3,2,1,0,8,7,6,5] (.mv (.t 14)),⟨some 16,.aI 0 (.t 3),some (15,true),[10,9,4,3,2,1,0,8,7,6,5]⟩,⟨some 17,.aI 2 (.t 16),some (15,true),[11,10,9,4,3,2,1,0,8,7,6,5]⟩,
 ⟨some 18,.load false 1 (.t 17),some (15,true),[12,11,10,9,4,3,2,1,0,8,7,6,5]⟩,⟨some 19,.mv (.t 0),some (15,true),[10,9,4,3,2,1,0,8,7,6,5]⟩,
 ⟨some 20,.fA (.t 19),some (15,true),[14,10,9,4,3,2,1,0,8,7,6,5]⟩,⟨some 21,.aI 0 (.t 20),some (15,true),[15,14,10,9,4,3,2,1,0,8,7,6,5]⟩,
 ⟨some 22,.load false 1 (.t 21),some (15,true),[16,15,14,10,9,4,3,2,1,0,8,7,6,5]⟩,⟨some 23,.bin .eql (.t 18) (.t 22),some (15,true),[13,12,11,10,9,4,3,2,1,0,8,7,6,5,17,16,15,14]⟩,
 p 24 [10,9,4,3,2,1,0,8,7,6,5,18,13,12,11,17,16,15,14] (.pick (.t 15) (.t 23) (.c (.bool false))),p 4 [19,10,9,4,3,2,1,0,8,7,6,5,18,13,12,11,17,16,15,14] (.mv (.t 24))]) (.ret)))⟩
def fV:AC:= .reg false [o 5<|.pend [(.i 0),(.i 0),(.str []),(.str []),(.slice 0 [] .full),(.slice 0 [] .full),(.slice 0 [] .full),(.slice 0 [] .full)],⟨none,.shut 5 8<|.t 9,none,[]⟩]
def gC:AC:= .block 1 (.reg true [o 10<|.load true 8<|.t 5,o 11<|.load false 1<|.t 2,p 12 [1]<|.fA<|.t 11,p 13 [2,1]<|.aI 0<|.t 12,p 14 [3,2,1]<|.load false 1<|.t 13,p 15 [0,4,3,2,1]<|.aN false (.f 82) [(.t 10),(.t 14),(.c<|.bool false),(.c<|.bool false)],
 p 16 [5,0,4,3,2,1] (.extract (.t 15) 0),p 17 [5,0,4,3,2,1]<|.extract (.t 15) 1,p 18 [6,5,0,4,3,2,1,7]<|.call (.f 137) [(.t 16),(.t 17)]])
def aTU:AF:=⟨2,52,[],
 (.seq (.reg false [o 2 (.eT (.t 0)),o 3 (.eT (.t 1))]) (.seq (.seq (.reg false [o 6 (.load true 8 (.t 3)),o 7 (.aN false (.f 116) [(.t 6)])]) (.block 0 (.nU (.t 7) [8,9] (fV) (gC)))) (.seq (.reg true [o 19 (.load false 1 (.t 2)),o 20 (.load false 1 (.t 2)),p 21 [1] (.fA (.t 20)),p 22 [2,1] (.aI 1 (.t 21)),p 23 [3,2,1] (.load false 1 (.t 22)),o 24 (.aI 7 (.t 3)),
 p 25 [5] (.load false 1 (.t 24)),p 26 [6,5] (.iD 1 1 [(.slice 0 [] .full)] [(0,(.t 25))]),p 27 [4,3,2,1,7,6,5] (.append true 1 24 (.t 23) (.t 26)),p 28 [0,1,2,3,4,5,6,7,8] (.fA (.t 19)),
 p 29 [9,0,1,2,3,4,5,6,7,8] (.aI 1 (.t 28)),⟨none,.store 1 (.t 29) (.t 27),none,[10,9,0,1,2,3,4,5,6,7,8]⟩]) (.seq (.reg false [o 30 (.aI 0 (.t 3)),o 31 (.aI 0 (.t 30)),o 32 (.load false 1 (.t 31)),o 33 (.bin .eql (.t 32) (.c (.i 18)))]) (.cond (.t 33) (.reg true [o 34 (.load false 1 (.t 2)),p 35 [0] (.fA (.t 34)),p 36 [1,0] (.aI 2 (.t 35)),p 37 [2,1,0] (.aCv 2 1 (.t 36) (.c (.i 0))),p 38 [3,2,1,0] (.load false 1 (.t 37)),
 p 39 [4,3,2,1,0] (.bin .add (.t 38) (.c (.i 1))),p 40 [0] (.fA (.t 34)),p 41 [6,0] (.aI 2 (.t 40)),p 42 [7,6,0,1,2,3,4,5] (.aCv 2 1 (.t 41) (.c (.i 0))),
 ⟨none,.store 1 (.t 42) (.t 39),none,[8,7,6,0,1,2,3,4,5]⟩]) (.reg true [o 43 (.load false 1 (.t 2)),p 44 [0] (.fA (.t 43)),p 45 [1,0] (.aI 2 (.t 44)),p 46 [2,1,0] (.aCv 2 1 (.t 45) (.c (.i 1))),p 47 [3,2,1,0] (.load false 1 (.t 46)),
 p 48 [4,3,2,1,0] (.bin .add (.t 47) (.c (.i 1))),p 49 [0] (.fA (.t 43)),p 50 [6,0] (.aI 2 (.t 49)),p 51 [7,6,0,1,2,3,4,5] (.aCv 2 1 (.t 50) (.c (.i 1))),
 ⟨none,.store 1 (.t 51) (.t 48),none,[8,7,6,0,1,2,3,4,5]⟩]))))))⟩
def aUC:AF:=⟨2,50,[],
 (.seq (.reg false [o 2 (.eT (.t 0)),o 3 (.eT (.t 1))]) (.seq (.reg true [o 8 (.load true 8 (.t 3)),p 9 [0] (.aN true (.f 169) [(.t 8),(.c (.i 0))]),o 10 (.load true 8 (.t 3)),p 11 [2,1,0] (.aN true (.f 169) [(.t 10),(.c (.i 1))]),
 o 4 (.pend [(.i 0),(.i 0),(.str []),(.str []),(.slice 0 [] .full),(.slice 0 [] .full),(.slice 0 [] .full),(.slice 0 [] .full)]),o 5 (.pend [(.i 0),(.i 0),(.str []),(.str []),(.slice 0 [] .full),(.slice 0 [] .full),(.slice 0 [] .full),(.slice 0 [] .full)]),
 ⟨none,.shut 4 8 (.t 9),none,[4,1,0,3,2,5]⟩,⟨none,.shut 5 8 (.t 11),none,[5,3,2,1,0,6,4]⟩]) (.seq (.seq (.reg false [o 12 (.load false 1 (.t 2)),o 13 (.load true 8 (.t 4)),o 14 (.call (.f 118) [(.t 12),(.t 13)])]) (.cond (.t 14) (.seq (.reg false [o 15 (.load false 1 (.t 2)),o 16 (.load true 8 (.t 4)),o 17 (.call (.f 119) [(.t 15),(.t 16)])]) (.seq (.seq (.reg true [o 18 (.aI 0 (.t 3)),p 19 [0] (.aI 4 (.t 18)),p 20 [1,0] (.load false 1 (.t 19)),p 21 [2,1,0] (.cX 1 (.t 20) (.c (.i 0))),p 22 [3,2,1,0] (.load false 1 (.t 21)),
 o 23 (.load false 1 (.t 2)),p 24 [5] (.fA (.t 23)),p 25 [6,5] (.aI 0 (.t 24)),p 26 [7,6,5] (.load false 1 (.t 25)),p 27 [4,3,2,1,0,8,7,6,5] (.bin .neq (.t 22) (.t 26))]) (.cond (.t 27) (.reg true [o 28 (.load true 8 (.t 5)),o 29 (.load false 1 (.t 2)),p 30 [1] (.fA (.t 29)),p 31 [2,1] (.aI 0 (.t 30)),p 32 [3,2,1] (.load false 1 (.t 31)),p 33 [0,4,3,2,1] (.aN false (.f 170) [(.t 28),(.t 32)]),
 p 34 [5,0,4,3,2,1] (.extract (.t 33) 0),p 35 [5,0,4,3,2,1] (.extract (.t 33) 1),p 36 [6,5,0,4,3,2,1,7] (.call (.f 137) [(.t 34),(.t 35)])]) (.skip))) (.ret))) (.skip))) (.seq (.reg false [o 38 (.nT 172 [] [(.t 4),(.t 2)]),o 39 (.nT 173 [] [(.t 3),(.t 2)]),o 40 (.iD 1 2 [.dP] [(0,(.t 38)),(1,(.t 39))]),o 41 (.call (.f 171) [(.t 40)]),
 o 37 (.mv (.t 41)),o 42 (.extract (.t 37) 0),o 43 (.extract (.t 37) 1),o 6 (.mv (.t 42)),o 7 (.mv (.t 43))]) (.seq (.reg false [o 44 (.mv (.t 6)),o 45 (.mv (.t 7)),o 46 (.call (.f 137) [(.t 44),(.t 45)])]) (.reg false [o 47 (.load false 1 (.t 2)),o 48 (.load true 8 (.t 5)),o 49 (.call (.f 84) [(.t 47),(.t 48)])]))))))⟩
def aUh:AF:=⟨2,22,[],
 (.seq (.reg false [o 3 (.eT (.t 1))]) (.seq (.reg true [o 4 (.load true 8 (.t 3)),p 5 [0] (.aN true (.f 169) [(.t 4),(.c (.i 0))]),o 6 (.mv (.t 0)),p 7 [2] (.fA (.t 6)),p 8 [3,2] (.aI 0 (.t 7)),p 9 [4,3,2] (.load false 1 (.t 8)),
 p 10 [1,0,5,4,3,2] (.aN false (.f 82) [(.t 5),(.t 9),(.c (.bool false)),(.c (.bool false))]),p 11 [6,1,0,5,4,3,2] (.extract (.t 10) 0),p 12 [6,1,0,5,4,3,2] (.extract (.t 10) 1),
 p 13 [7,6,1,0,5,4,3,2,8] (.call (.f 137) [(.t 11),(.t 12)])]) (.seq (.reg false [o 14 (.mv (.t 0)),o 15 (.load true 8 (.t 3)),o 16 (.aN false (.f 169) [(.t 15),(.c (.i 1))]),o 17 (.call (.f 84) [(.t 14),(.t 16)])]) (.reg false [o 18 (.mv (.t 0)),o 19 (.load true 8 (.t 3)),o 20 (.aN false (.f 169) [(.t 19),(.c (.i 2))]),o 21 (.call (.f 84) [(.t 18),(.t 20)])]))))⟩
def fB:AC:= .seq (.reg false [o 4<|.mv<|.t 18]) (.reg false [o 5<|.pend [(.i 0),(.i 0),(.str []),(.str []),(.slice 0 [] .full),(.slice 0 [] .full),(.slice 0 [] .full),(.slice 0 [] .full)],⟨none,.shut 5 8<|.t 19,none,[]⟩])
def eZ:AC:= .block 1 (.seq (.seq (.reg false [o 20<|.mv<|.t 4,o 21<|.bin .eql (.t 20)<|.c<|.i 0])<|.cond (.t 21) (.exit 1)<|.skip)<|.seq (.reg true [o 22<|.aI 7<|.t 5,p 23 [0]<|.load false 1<|.t 22,o 24<|.load true 8<|.t 3,o 25<|.mv<|.t 4,o 26<|.load false 1<|.t 2,p 27 [4]<|.fA<|.t 26,p 28 [5,4]<|.aI 0<|.t 27,
 p 29 [6,5,4] (.load false 1 (.t 28)),p 30 [2,3,7,6,5,4]<|.aN true (.f 117) [(.t 24),(.t 25),(.t 29)],p 31 [1,0,8,2,3,7,6,5,4]<|.call (.f 137) [(.t 23),(.t 30)]])<|.reg false [o 32<|.load false 1<|.t 2,o 33<|.load true 8<|.t 5,o 34<|.call (.f 84) [(.t 32),(.t 33)]])
def aUG:AF:=⟨2,35,[],
 (.seq (.reg false [o 2 (.eT (.t 0)),o 3 (.eT (.t 1))]) (.seq (.reg true [o 6 (.load true 8 (.t 3)),p 7 [0] (.aN true (.f 169) [(.t 6),(.c (.i 0))]),o 8 (.load false 1 (.t 2)),p 9 [2] (.fA (.t 8)),p 10 [3,2] (.aI 0 (.t 9)),
 p 11 [4,3,2] (.load false 1 (.t 10)),p 12 [1,0,5,4,3,2] (.aN false (.f 82) [(.t 7),(.t 11),(.c (.bool false)),(.c (.bool false))]),p 13 [6,1,0,5,4,3,2] (.extract (.t 12) 0),
 p 14 [6,1,0,5,4,3,2] (.extract (.t 12) 1),p 15 [7,6,1,0,5,4,3,2,8] (.call (.f 137) [(.t 13),(.t 14)])]) (.seq (.reg false [o 16 (.load true 8 (.t 3)),o 17 (.aN false (.f 116) [(.t 16)])]) (.block 0 (.nU (.t 17) [18,19] (fB) (eZ))))))⟩
def gE:AC:= .seq (.reg false [o 4<|.mv<|.t 12]) (.reg false [o 5<|.pend [(.i 0),(.i 0),(.str []),(.str []),(.slice 0 [] .full),(.slice 0 [] .full),(.slice 0 [] .full),(.slice 0 [] .full)],⟨none,.shut 5 8<|.t 13,none,[]⟩])
def gA:AC:= .block 1 (.seq (.seq (.reg true [o 14<|.mv<|.t 4,p 15 [0]<|.bin .eql (.t 14)<|.c<|.i 0,p 16 [1,0]<|.mv<|.t 15,⟨some 17,.load true 8<|.t 3,some (16,false),[2,1,0]⟩,⟨some 18,.mv<|.t 4,some (16,false),[2,1,0]⟩,
 ⟨some 19,.load false 1 (.t 2),some (16,false),[2,1,0]⟩,⟨some 20,.fA<|.t 19,some (16,false),[5,2,1,0]⟩,⟨some 21,.aI 0<|.t 20,some (16,false),[6,5,2,1,0]⟩,
 ⟨some 22,.load false 1 (.t 21),some (16,false),[7,6,5,2,1,0]⟩,⟨some 23,.aN false (.f 117) [(.t 17),(.t 18),(.t 22)],some (16,false),[3,2,1,0,4,8,7,6,5]⟩,
 p 24 [2,1,0,9,3,4,8,7,6,5] (.pick (.t 16) (.c (.bool true)) (.t 23))])<|.cond (.t 24) (.exit 1)<|.skip)<|.reg true [o 25<|.load true 8<|.t 5,o 26<|.load false 1<|.t 2,p 27 [1]<|.fA<|.t 26,p 28 [2,1]<|.aI 0<|.t 27,p 29 [3,2,1]<|.load false 1<|.t 28,p 30 [0,4,3,2,1]<|.aN false (.f 170) [(.t 25),(.t 29)],
 p 31 [5,0,4,3,2,1] (.extract (.t 30) 0),p 32 [5,0,4,3,2,1]<|.extract (.t 30) 1,p 33 [6,5,0,4,3,2,1,7]<|.call (.f 137) [(.t 31),(.t 32)]])
def aTF:AF:=⟨2,34,[],
 (.seq (.reg false [o 2 (.eT (.t 0)),o 3 (.eT (.t 1))]) (.scope (.seq (.reg true [o 6 (.load false 1 (.t 2)),o 7 (.load true 8 (.t 3)),p 8 [1] (.aN true (.f 169) [(.t 7),(.c (.i 0))]),p 9 [0,2,1] (.call (.f 84) [(.t 6),(.t 8)])]) (.seq (.skip) (.seq (.reg false [o 10 (.load true 8 (.t 3)),o 11 (.aN false (.f 116) [(.t 10)])]) (.block 0 (.nU (.t 11) [12,13] (gE) (gA))))))))⟩
def aTI:AF:=⟨2,9,[.tmp 4],
 (.seq (.reg false [o 2 (.eT (.t 0)),o 4 (.mv (.c (.bool false)))]) (.seq (.reg false [o 5 (.load true 7 (.t 2)),o 6 (.aN false (.f 174) [(.t 5)]),o 7 (.mv (.t 1)),o 8 (.aN false (.f 63) [(.t 6),(.t 7)]),o 4 (.mv (.t 8))]) (.ret)))⟩
def aTs:AF:=⟨2,9,[.tmp 4],
 (.seq (.reg false [o 4 (.mv (.c (.bool false)))]) (.seq (.reg false [o 5 (.mv (.t 0)),o 6 (.mv (.t 1)),o 7 (.aN false (.f 175) [(.t 5),(.t 6)]),o 8 (.bin .geq (.t 7) (.c (.i 0))),o 4 (.mv (.t 8))]) (.ret)))⟩
def aUD:AF:=⟨2,8,[],
 (.seq (.reg false [o 4 (.mv (.t 1))]) (.cond (.t 4) (.reg false [o 5 (.mv (.t 0)),o 6 (.build [(.slice 0 [] .full)] [(0,1,(.t 5))]),o 7 (.aBP 160 (.t 6)),⟨none,.panic (.t 7),none,[]⟩]) (.skip)))⟩
def aTM:AF:=⟨3,35,[.tmp 6],
 (.seq (.reg false [o 3 (.eT (.t 0)),o 4 (.eT (.t 1)),o 5 (.eT (.t 2)),o 6 (.mv (.c (.bool false)))]) (.seq (.reg false [o 7 (.load false 1 (.t 3)),o 8 (.fA (.t 7)),o 9 (.aI 0 (.t 8)),o 10 (.load false 1 (.t 9)),o 11 (.bin .sub (.t 10) (.c (.i 1))),o 12 (.fA (.t 7)),o 13 (.aI 0 (.t 12)),
 ⟨none,.store 1 (.t 13) (.t 11),none,[]⟩]) (.seq (.reg true [o 14 (.load false 1 (.t 3)),o 15 (.load false 1 (.t 3)),p 16 [1] (.fA (.t 15)),p 17 [2,1] (.aI 1 (.t 16)),p 18 [3,2,1] (.load false 1 (.t 17)),o 19 (.load false 1 (.t 5)),
 p 20 [4,3,2,1,5] (.aBh true [(.t 18),(.t 19)]),p 21 [0,1,2,3,4,5,6] (.fA (.t 14)),p 22 [7,0,1,2,3,4,5,6] (.aI 1 (.t 21)),⟨none,.store 1 (.t 22) (.t 20),none,[8,7,0,1,2,3,4,5,6]⟩]) (.seq (.seq (.reg false [o 23 (.load false 1 (.t 3)),o 24 (.fA (.t 23)),o 25 (.aI 0 (.t 24)),o 26 (.load false 1 (.t 25)),o 27 (.bin .lss (.t 26) (.c (.i 0))),o 28 (.mv (.t 27)),
 g 29 28 false (.load false 1 (.t 5)),g 30 28 false (.bin .gtr (.t 29) (.c (.i 200))),o 31 (.pick (.t 28) (.c (.bool true)) (.t 30))]) (.cond (.t 31) (.seq (.reg false [o 6 (.mv (.c (.bool false)))]) (.ret)) (.skip))) (.seq (.reg false [o 32 (.load true 7 (.t 4)),o 33 (.nT 193 [] [(.t 3),(.t 5)]),o 34 (.call (.f 192) [(.t 32),(.t 33)]),o 6 (.mv (.t 34))]) (.ret))))))⟩
def aUL:AF:=⟨2,36,[.tmp 4],
 (.seq (.reg false [o 4 (.mv (.c (.bool false)))]) (.seq (.seq (.reg false [o 5 (.mv (.t 1))]) (.block 0 (.seq (.reg false [o 7 (.bin .eql (.t 5) (.c (.i 1))),o 6 (.mv (.t 7))]) (.cond (.t 6) (.seq (.reg false [o 8 (.mv (.t 0)),o 9 (.aN false (.f 77) [(.t 8)]),o 4 (.mv (.t 9))]) (.ret)) (.seq (.reg false [o 11 (.bin .eql (.t 5) (.c (.i 2))),o 10 (.mv (.t 11))]) (.cond (.t 10) (.seq (.reg false [o 12 (.mv (.t 0)),o 13 (.aN false (.f 194) [(.t 12)]),o 4 (.mv (.t 13))]) (.ret)) (.seq (.reg false [o 15 (.bin .eql (.t 5) (.c (.i 3))),o 14 (.mv (.t 15))]) (.cond (.t 14) (.seq (.reg false [o 16 (.mv (.t 0)),o 17 (.bin .eql (.t 16) (.c (.str [43]))),o 18 (.mv (.t 17)),g 19 18 false (.mv (.t 0)),g 20 18 false (.bin .eql (.t 19) (.c (.str [45]))),o 21 (.pick (.t 18) (.c (.bool true)) (.t 20)),
 o 22 (.mv (.t 21)),g 23 22 false (.mv (.t 0)),g 24 22 false (.bin .eql (.t 23) (.c (.str [42]))),o 25 (.pick (.t 22) (.c (.bool true)) (.t 24)),o 26 (.mv (.t 25)),g 27 26 false (.mv (.t 0)),
 g 28 26 false (.bin .eql (.t 27) (.c (.str [60]))),o 29 (.pick (.t 26) (.c (.bool true)) (.t 28)),o 30 (.mv (.t 29)),g 31 30 false (.mv (.t 0)),g 32 30 false (.bin .eql (.t 31) (.c (.str [61,61]))),
 o 33 (.pick (.t 30) (.c (.bool true)) (.t 32)),o 4 (.mv (.t 33))]) (.ret)) (.skip))))))))) (.seq (.reg false [o 34 (.mv (.t 0)),o 35 (.bin .eql (.t 34) (.c (.str []))),o 4 (.mv (.t 35))]) (.ret))))⟩
def aTt:AF:=⟨1,12,[.tmp 2],
 (.seq (.reg false [o 1 (.eT (.t 0)),o 2 (.mv (.c (.i 0)))]) (.seq (.reg false [o 4 (.load true 7 (.t 1)),o 5 (.aN false (.f 195) [(.t 4)]),o 3 (.alloc [(.i 0)]),⟨none,.store 1 (.t 3) (.t 5),none,[]⟩]) (.seq (.seq (.reg false [o 6 (.load false 1 (.t 3)),o 7 (.bin .eql (.t 6) (.c (.i 0)))]) (.cond (.t 7) (.reg false [o 8 (.load true 7 (.t 1)),o 9 (.nT 196 [] [(.t 3)]),o 10 (.call (.f 192) [(.t 8),(.t 9)])]) (.skip))) (.seq (.reg false [o 11 (.load false 1 (.t 3)),o 2 (.mv (.t 11))]) (.ret)))))⟩
def aUq:AF:=⟨1,5,[.tmp 2],
 (.seq (.reg false [o 2 (.mv (.c (.bool false)))]) (.seq (.reg false [o 3 (.mv (.t 0)),o 4 (.aN false (.f 75) [(.t 3),(.c (.int .u8 65)),(.c (.int .u8 90)),(.c (.bool false))]),o 2 (.mv (.t 4))]) (.ret)))⟩
def aP2:AC:= .loop (.seq (.seq (.reg false [o 4<|.mv<|.t 3,o 5<|.mv<|.t 0,o 6<|.eE<|.t 5,o 7<|.bin .lss (.t 4)<|.t 6])<|.cond (.t 7) (.skip)<|.exit 0)<|.seq (.block 1<|.seq (.seq (.reg false [o 10<|.mv<|.t 0,o 11<|.mv<|.t 3,o 12<|.cX 1 (.t 10)<|.t 11,o 13<|.load false 1<|.t 12,o 14<|.aN false (.f 42) [(.t 13)],o 15<|.un .not<|.t 14])<|.cond (.t 15) (.seq (.reg false [o 2<|.mv<|.c<|.i 4])<|.ret)<|.skip)<|.seq (.reg true [o 16<|.mv<|.t 0,o 17<|.mv<|.t 3,p 18 [0,1]<|.aAg 1 (.t 16) none (some<|.t 17) none,o 19<|.mv<|.t 0,o 20<|.mv<|.t 3,p 21 [3,4]<|.cX 1 (.t 19)<|.t 20,p 22 [5,3,4]<|.load false 1<|.t 21,
 p 23 [2,0,1,6,5,3,4] (.aN false (.f 63) [(.t 18),(.t 22)])])<|.cond (.t 23) (.seq (.reg false [o 2<|.mv<|.c<|.i 5])<|.ret)<|.skip)<|.reg false [o 8<|.mv<|.t 3,o 9<|.bin .add (.t 8)<|.c<|.i 1,o 3<|.mv<|.t 9])
def aRv:AF:=⟨1,24,[.tmp 2],
 (.seq (.reg false [o 2 (.mv (.c (.i 0)))]) (.seq (.seq (.reg false [o 3 (.mv (.c (.i 0)))]) (.block 0 (aP2))) (.seq (.reg false [o 2 (.mv (.c (.i 0)))]) (.ret))))⟩
def aTN:AF:=⟨0,22,[.tmp 0],
 (.seq (.reg false [o 0 (.mv (.c (.slice 0 [] .full)))]) (.seq (.reg false [o 1 (.build [(.i 0),(.i 0),(.i 0),(.i 0),(.bool false),(.i 0),(.i 0)] [(0,1,(.c (.i 1)))]),o 2 (.build [(.i 0),(.i 0),(.i 0),(.i 0),(.bool false),(.i 0),(.i 0)] [(5,1,(.c (.i (-999999999)))),(6,1,(.c (.i 999999999)))]),
 o 3 (.build [(.i 0),(.i 0),(.i 0),(.i 0),(.bool false),(.i 0),(.i 0)] [(6,1,(.c (.i 1)))]),o 4 (.build [(.i 0),(.i 0),(.i 0),(.i 0),(.bool false),(.i 0),(.i 0)] []),
 o 5 (.build [(.i 0),(.i 0),(.i 0),(.i 0),(.bool false),(.i 0),(.i 0)] [(2,1,(.c (.i 1))),(3,1,(.c (.i 1)))]),
 o 6 (.build [(.i 0),(.i 0),(.i 0),(.i 0),(.bool false),(.i 0),(.i 0)] [(3,1,(.c (.i 2)))]),o 7 (.build [(.i 0),(.i 0),(.i 0),(.i 0),(.bool false),(.i 0),(.i 0)] [(2,1,(.c (.i 1))),(3,1,(.c (.i 2)))]),
 o 8 (.build [(.i 0),(.i 0),(.i 0),(.i 0),(.bool false),(.i 0),(.i 0)] [(2,1,(.c (.i 2))),(3,1,(.c (.i 2)))]),
 o 9 (.build [(.i 0),(.i 0),(.i 0),(.i 0),(.bool false),(.i 0),(.i 0)] [(3,1,(.c (.i 3)))]),o 10 (.build [(.i 0),(.i 0),(.i 0),(.i 0),(.bool false),(.i 0),(.i 0)] [(0,1,(.c (.i 3))),(3,1,(.c (.i 2)))]),
 o 11 (.build [(.i 0),(.i 0),(.i 0),(.i 0),(.bool false),(.i 0),(.i 0)] [(0,1,(.c (.i 2)))]),o 12 (.build [(.i 0),(.i 0),(.i 0),(.i 0),(.bool false),(.i 0),(.i 0)] [(3,1,(.c (.i 1))),(4,1,(.c (.bool true)))]),
 o 13 (.build [(.i 0),(.i 0),(.i 0),(.i 0),(.bool false),(.i 0),(.i 0)] [(0,1,(.c (.i 1))),(3,1,(.c (.i 1)))]),
 o 14 (.build [(.i 0),(.i 0),(.i 0),(.i 0),(.bool false),(.i 0),(.i 0)] [(0,1,(.c (.i 1))),(1,1,(.c (.i 1))),(3,1,(.c (.i 1)))]),
 o 15 (.build [(.i 0),(.i 0),(.i 0),(.i 0),(.bool false),(.i 0),(.i 0)] [(0,1,(.c (.i 2))),(3,1,(.c (.i 1))),(4,1,(.c (.bool true))),(6,1,(.c (.i 1)))]),
 o 16 (.build [(.i 0),(.i 0),(.i 0),(.i 0),(.bool false),(.i 0),(.i 0)] [(0,1,(.c (.i 2))),(2,1,(.c (.i 1))),(3,1,(.c (.i 1))),(4,1,(.c (.bool true)))]),
 o 17 (.build [(.i 0),(.i 0),(.i 0),(.i 0),(.bool false),(.i 0),(.i 0)] [(0,1,(.c (.i 2))),(3,1,(.c (.i 1)))]),
 o 18 (.build [(.i 0),(.i 0),(.i 0),(.i 0),(.bool false),(.i 0),(.i 0)] [(2,1,(.c (.i 1))),(3,1,(.c (.i 3)))]),
 o 19 (.build [(.i 0),(.i 0),(.i 0),(.i 0),(.bool false),(.i 0),(.i 0)] [(0,1,(.c (.i 1))),(3,1,(.c (.i 1)))]),
 o 20 (.build [(.i 0),(.i 0),(.i 0),(.i 0),(.bool false),(.i 0),(.i 0)] [(0,1,(.c (.i 1)))]),o 21 (.iD 7 20 [(.i 0),(.i 0),(.i 0),(.i 0),(.bool false),(.i 0),(.i 0)] [(0,(.t 1)),(1,(.t 2)),(2,(.t 3)),(3,(.t 4)),(4,(.t 5)),(5,(.t 6)),(6,(.t 7)),(7,(.t 8)),(8,(.t 9)),(9,(.t 10)),(10,(.t 11)),(11,(.t 12)),(12,(.t 13)),(13,(.t 14)),(14,(.t 15)),(15,(.t 16)),(16,(.t 17)),(17,(.t 18)),(18,(.t 19)),(19,(.t 20))]),
 o 0 (.mv (.t 21))]) (.ret)))⟩
def aTQ:AF:=⟨2,20,[.tmp 4],
 (.seq (.reg false [o 4 (.mv (.c (.bool false)))]) (.seq (.seq (.reg false [o 5 (.mv (.t 1)),o 6 (.bin .eql (.t 5) (.c (.i 1)))]) (.cond (.t 6) (.seq (.reg false [o 7 (.mv (.t 0)),o 8 (.aN false (.f 42) [(.t 7)]),o 4 (.mv (.t 8))]) (.ret)) (.skip))) (.seq (.seq (.reg false [o 9 (.mv (.t 1)),o 10 (.bin .eql (.t 9) (.c (.i 2)))]) (.cond (.t 10) (.seq (.reg false [o 11 (.mv (.t 0)),o 12 (.aN false (.f 155) [(.t 11)]),o 4 (.mv (.t 12))]) (.ret)) (.skip))) (.seq (.seq (.reg false [o 13 (.mv (.t 1)),o 14 (.bin .eql (.t 13) (.c (.i 3)))]) (.cond (.t 14) (.seq (.reg false [o 15 (.iD 1 5 [(.str [])] [(0,(.c (.str [43]))),(1,(.c (.str [45]))),(2,(.c (.str [42]))),(3,(.c (.str [60]))),(4,(.c (.str [61,61])))]),o 16 (.mv (.t 0)),
 o 17 (.aN false (.f 63) [(.t 15),(.t 16)]),o 4 (.mv (.t 17))]) (.ret)) (.skip))) (.seq (.reg false [o 18 (.mv (.t 0)),o 19 (.bin .eql (.t 18) (.c (.str []))),o 4 (.mv (.t 19))]) (.ret))))))⟩
def aQZ:AC:= .loop (.seq (.seq (.reg false [o 18<|.mv<|.t 4,o 19<|.aI 4<|.t 1,o 20<|.load false 1<|.t 19,o 21<|.eE<|.t 20,o 22<|.bin .lss (.t 18)<|.t 21])<|.cond (.t 22) (.skip)<|.exit 0)<|.seq (.block 1<|.seq (.seq (.reg false [o 25<|.aI 4<|.t 1,o 26<|.load false 1<|.t 25,o 27<|.mv<|.t 4,o 28<|.cX 1 (.t 26)<|.t 27,o 29<|.load false 1<|.t 28,o 30<|.aN false (.f 155) [(.t 29)],
 o 31 (.un .not (.t 30))])<|.cond (.t 31) (.seq (.reg false [o 2<|.mv<|.c<|.i 4])<|.ret)<|.skip)<|.seq (.reg true [o 32<|.aI 4<|.t 1,p 33 [0]<|.load false 1<|.t 32,o 34<|.mv<|.t 4,p 35 [1,0,2]<|.aAg 1 (.t 33) (some<|.c<|.i 1) (some<|.t 34) none,o 36<|.aI 4<|.t 1,
 p 37 [4] (.load false 1 (.t 36)),o 38<|.mv<|.t 4,p 39 [5,4,6]<|.cX 1 (.t 37)<|.t 38,p 40 [7,5,4,6]<|.load false 1<|.t 39,p 41 [3,1,0,2,8,7,5,4,6]<|.aN false (.f 63) [(.t 35),(.t 40)]])<|.cond (.t 41) (.seq (.reg false [o 2<|.mv<|.c<|.i 5])<|.ret)<|.skip)<|.reg false [o 23<|.mv<|.t 4,o 24<|.bin .add (.t 23)<|.c<|.i 1,o 4<|.mv<|.t 24])
def aRH:AF:=⟨1,42,[.tmp 2],
 (.seq (.reg false [o 1 (.eT (.t 0)),o 2 (.mv (.c (.i 0)))]) (.seq (.seq (.reg false [o 5 (.aI 0 (.t 1)),o 6 (.load false 1 (.t 5)),o 7 (.bin .neq (.t 6) (.c (.i 17)))]) (.cond (.t 7) (.seq (.reg false [o 8 (.aI 4 (.t 1)),o 9 (.load false 1 (.t 8)),o 10 (.aN false (.f 156) [(.t 9)]),o 2 (.mv (.t 10))]) (.ret)) (.skip))) (.seq (.seq (.reg false [o 11 (.aI 4 (.t 1)),o 12 (.load false 1 (.t 11)),o 13 (.aAg 1 (.t 12) none (some (.c (.i 1))) none),o 14 (.aN false (.f 156) [(.t 13)]),o 3 (.mv (.t 14))]) (.seq (.reg false [o 15 (.mv (.t 3)),o 16 (.bin .neq (.t 15) (.c (.i 0)))]) (.cond (.t 16) (.seq (.reg false [o 17 (.mv (.t 3)),o 2 (.mv (.t 17))]) (.ret)) (.skip)))) (.seq (.seq (.reg false [o 4 (.mv (.c (.i 1)))]) (.block 0 (aQZ))) (.seq (.reg false [o 2 (.mv (.c (.i 0)))]) (.ret))))))⟩
def aQX:AC:= .loop (.seq (.seq (.reg false [o 95<|.mv<|.t 8,o 96<|.mv<|.t 4,o 97<|.bin .lss (.t 95)<|.t 96])<|.cond (.t 97) (.skip)<|.exit 2)<|.seq (.block 3<|.seq (.reg true [o 100<|.aI 6<|.t 1,p 101 [0]<|.load false 1<|.t 100,o 102<|.mv<|.t 8,p 103 [1,0,2]<|.cX 9 (.t 101)<|.t 102,p 104 [3,1,0,2]<|.aI 0<|.t 103,p 105 [4,3,1,0,2]<|.load false 1<|.t 104,
 o 106 (.aI 0 (.t 5)),p 107 [6]<|.load false 1<|.t 106,p 108 [5,4,3,1,0,2,7,6]<|.bin .eql (.t 105)<|.t 107])<|.cond (.t 108) (.seq (.reg false [o 2<|.mv<|.c<|.i 5])<|.ret)<|.skip)<|.reg false [o 98<|.mv<|.t 8,o 99<|.bin .add (.t 98)<|.c<|.i 1,o 8<|.mv<|.t 99])
def aQh:AC:= .loop (.seq (.seq (.reg false [o 12<|.mv<|.t 4,o 13<|.aI 6<|.t 1,o 14<|.load false 1<|.t 13,o 15<|.eE<|.t 14,o 16<|.bin .lss (.t 12)<|.t 15])<|.cond (.t 16) (.skip)<|.exit 0)<|.seq (.block 1<|.seq (.reg false [o 19<|.aI 6<|.t 1,o 20<|.load false 1<|.t 19,o 21<|.mv<|.t 4,o 22<|.cX 9 (.t 20)<|.t 21,o 23<|.load true 9<|.t 22,o 5<|.pend [(.str []),(.slice 0 [] .full),(.i 0),(.i 0),(.str []),(.str []),(.slice 0 [] .full),(.slice 0 [] .full),(.slice 0 [] .full)],
 ⟨none,.shut 5 9 (.t 23),none,[]⟩])<|.seq (.reg false [o 24<|.mv<|.t 3,o 25<|.mv<|.t 24,g 26 25 true<|.mv<|.t 4,g 27 25 true<|.bin .eql (.t 26)<|.c<|.i 0,o 28<|.pick (.t 25) (.t 27)<|.c<|.bool false,o 6<|.mv<|.t 28])<|.seq (.seq (.reg false [o 29<|.mv<|.t 6,o 30<|.mv<|.t 29,g 31 30 true<|.aI 0<|.t 5,g 32 30 true<|.load false 1<|.t 31,g 33 30 true<|.bin .neq (.t 32)<|.c<|.str [114,101,116,117,114,110],
 g 34 30 true (.mv (.t 33)),g 35 34 false<|.aI 1<|.t 5,g 36 34 false<|.load false 1<|.t 35,g 37 34 false<|.eE<|.t 36,g 38 34 false<|.bin .neq (.t 37)<|.c<|.i 1,
 g 39 30 true (.pick (.t 34) (.c (.bool true)) (.t 38)),o 40<|.pick (.t 30) (.t 39)<|.c<|.bool false,o 41<|.mv<|.t 40,g 42 41 false<|.mv<|.t 3,g 43 41 false<|.mv<|.t 42,
 g 44 43 true (.mv (.t 6)),g 45 43 true<|.un .not<|.t 44,g 46 41 false<|.pick (.t 43) (.t 45)<|.c<|.bool false,g 47 41 false<|.mv<|.t 46,g 48 47 true<|.aI 1<|.t 5,
 g 49 47 true (.load false 1 (.t 48)),g 50 47 true<|.eE<|.t 49,g 51 47 true<|.bin .neq (.t 50)<|.c<|.i 2,g 52 41 false<|.pick (.t 47) (.t 51)<|.c<|.bool false,
 o 53 (.pick (.t 41) (.c (.bool true)) (.t 52)),o 54<|.mv<|.t 53,g 55 54 false<|.mv<|.t 3,g 56 54 false<|.un .not<|.t 55,g 57 54 false<|.mv<|.t 56,g 58 57 true<|.aI 1<|.t 5,
 g 59 57 true (.load false 1 (.t 58)),g 60 57 true<|.eE<|.t 59,g 61 57 true<|.bin .gtr (.t 60)<|.c<|.i 4,g 62 54 false<|.pick (.t 57) (.t 61)<|.c<|.bool false,
 o 63 (.pick (.t 54) (.c (.bool true)) (.t 62))])<|.cond (.t 63) (.seq (.reg false [o 2<|.mv<|.c<|.i 7])<|.ret)<|.skip)<|.seq (.seq (.reg false [o 64<|.mv<|.t 6,o 65<|.un .not<|.t 64,o 66<|.mv<|.t 65,g 67 66 true<|.aI 0<|.t 5,g 68 66 true<|.load false 1<|.t 67,g 69 66 true<|.aN false (.f 160) [(.t 68),(.c<|.i 2)],
 g 70 66 true (.un .not (.t 69)),o 71<|.pick (.t 66) (.t 70)<|.c<|.bool false,o 72<|.mv<|.t 71,g 73 72 true<|.mv<|.t 3,g 74 72 true<|.un .not<|.t 73,o 75<|.pick (.t 72) (.t 74)<|.c<|.bool false,
 o 76 (.mv (.t 75)),g 77 76 false<|.mv<|.t 6,g 78 76 false<|.un .not<|.t 77,g 79 76 false<|.mv<|.t 78,g 80 79 true<|.mv<|.t 3,g 81 76 false<|.pick (.t 79) (.t 80)<|.c<|.bool false,
 g 82 76 false (.mv (.t 81)),g 83 82 true<|.aI 0<|.t 5,g 84 82 true<|.load false 1<|.t 83,g 85 82 true<|.aN false (.f 160) [(.t 84),(.c<|.i 1)],g 86 82 true<|.un .not<|.t 85,
 g 87 76 false (.pick (.t 82) (.t 86) (.c (.bool false))),o 88<|.pick (.t 76) (.c<|.bool true)<|.t 87])<|.cond (.t 88) (.seq (.reg false [o 2<|.mv<|.c<|.i 4])<|.ret)<|.skip)<|.seq (.seq (.reg false [o 89<|.aI 1<|.t 5,o 90<|.load false 1<|.t 89,o 91<|.aN false (.f 156) [(.t 90)],o 7<|.mv<|.t 91])<|.seq (.reg false [o 92<|.mv<|.t 7,o 93<|.bin .neq (.t 92)<|.c<|.i 0])<|.cond (.t 93) (.seq (.reg false [o 94<|.mv<|.t 7,o 2<|.mv<|.t 94])<|.ret)<|.skip)<|.seq (.reg false [o 8<|.mv<|.c<|.i 0])<|.block 2<|aQX)<|.reg false [o 17<|.mv<|.t 4,o 18<|.bin .add (.t 17)<|.c<|.i 1,o 4<|.mv<|.t 18])
def aQz:AF:=⟨1,116,[.tmp 2],
 (.seq (.reg false [o 1 (.eT (.t 0)),o 2 (.mv (.c (.i 0)))]) (.seq (.reg false [o 9 (.aI 0 (.t 1)),o 10 (.load false 1 (.t 9)),o 11 (.bin .neq (.t 10) (.c (.i 11))),o 3 (.mv (.t 11))]) (.seq (.seq (.reg false [o 4 (.mv (.c (.i 0)))]) (.block 0 (aQh))) (.seq (.seq (.reg false [o 109 (.mv (.t 3)),o 110 (.mv (.t 109)),g 111 110 true (.aI 6 (.t 1)),g 112 110 true (.load false 1 (.t 111)),g 113 110 true (.eE (.t 112)),g 114 110 true (.bin .eql (.t 113) (.c (.i 0))),
 o 115 (.pick (.t 110) (.t 114) (.c (.bool false)))]) (.cond (.t 115) (.seq (.reg false [o 2 (.mv (.c (.i 7)))]) (.ret)) (.skip))) (.seq (.reg false [o 2 (.mv (.c (.i 0)))]) (.ret))))))⟩
def aUv:AF:=⟨1,39,[.tmp 2],
 (.seq (.reg false [o 2 (.mv (.c (.i 0)))]) (.seq (.block 0 (.seq (.reg false [o 4 (.mv (.t 0)),o 5 (.bin .eql (.t 4) (.c (.int .u8 32))),o 6 (.mv (.t 5)),g 7 6 false (.mv (.t 0)),g 8 6 false (.bin .eql (.t 7) (.c (.int .u8 9))),o 9 (.pick (.t 6) (.c (.bool true)) (.t 8)),
 o 10 (.mv (.t 9)),g 11 10 false (.mv (.t 0)),g 12 10 false (.bin .eql (.t 11) (.c (.int .u8 10))),o 13 (.pick (.t 10) (.c (.bool true)) (.t 12)),o 3 (.mv (.t 13))]) (.cond (.t 3) (.seq (.reg false [o 2 (.mv (.c (.i 1)))]) (.ret)) (.seq (.reg false [o 15 (.mv (.t 0)),o 16 (.bin .eql (.t 15) (.c (.int .u8 95))),o 17 (.mv (.t 16)),g 18 17 false (.mv (.t 0)),g 19 17 false (.bin .leq (.c (.int .u8 97)) (.t 18)),g 20 17 false (.mv (.t 19)),
 g 21 20 true (.mv (.t 0)),g 22 20 true (.bin .leq (.t 21) (.c (.int .u8 122))),g 23 17 false (.pick (.t 20) (.t 22) (.c (.bool false))),o 24 (.pick (.t 17) (.c (.bool true)) (.t 23)),
 o 14 (.mv (.t 24))]) (.cond (.t 14) (.seq (.reg false [o 2 (.mv (.c (.i 2)))]) (.ret)) (.seq (.reg false [o 26 (.mv (.t 0)),o 27 (.bin .leq (.c (.int .u8 65)) (.t 26)),o 28 (.mv (.t 27)),g 29 28 true (.mv (.t 0)),g 30 28 true (.bin .leq (.t 29) (.c (.int .u8 90))),o 31 (.pick (.t 28) (.t 30) (.c (.bool false))),
 o 25 (.mv (.t 31))]) (.cond (.t 25) (.seq (.reg false [o 2 (.mv (.c (.i 3)))]) (.ret)) (.seq (.reg false [o 33 (.mv (.t 0)),o 34 (.bin .leq (.c (.int .u8 48)) (.t 33)),o 35 (.mv (.t 34)),g 36 35 true (.mv (.t 0)),g 37 35 true (.bin .leq (.t 36) (.c (.int .u8 57))),o 38 (.pick (.t 35) (.t 37) (.c (.bool false))),
 o 32 (.mv (.t 38))]) (.cond (.t 32) (.seq (.reg false [o 2 (.mv (.c (.i 4)))]) (.ret)) (.skip)))))))))) (.seq (.reg false [o 2 (.mv (.c (.i 0)))]) (.ret))))⟩
def aPs:AC:= .loop (.seq (.reg false [o 9<|.bin .lss (.t 8)<|.t 7])<|.seq (.cond (.t 9) (.skip)<|.exit 0)<|.seq (.block 1<|.seq (.reg false [o 10<|.mv<|.t 8,o 5<|.mv<|.t 10])<|.seq (.reg false [o 11<|.mv<|.t 1,o 12<|.mv<|.t 0,o 13<|.mv<|.t 5,o 14<|.cX 1 (.t 12)<|.t 13,o 15<|.load false 1<|.t 14,o 16<|.bin .eql (.t 11)<|.t 15])<|.cond (.t 16) (.seq (.reg false [o 17<|.mv<|.t 5,o 4<|.mv<|.t 17])<|.ret)<|.skip)<|.reg false [o 18<|.bin .add (.t 8)<|.c<|.i 1,o 8<|.mv<|.t 18])
def aRp:AF:=⟨2,19,[.tmp 4],
 (.seq (.reg false [o 4 (.mv (.c (.i 0)))]) (.seq (.seq (.reg false [o 6 (.mv (.t 0)),o 7 (.eE (.t 6)),o 8 (.mv (.c (.i 0)))]) (.block 0 (aPs))) (.seq (.reg false [o 4 (.mv (.c (.i (-1))))]) (.ret))))⟩
def aB8:AC:= .loop (.seq (.reg false [o 14<|.bin .lss (.t 13)<|.t 12])<|.seq (.cond (.t 14) (.skip)<|.exit 0)<|.seq (.block 1<|.seq (.reg false [o 15<|.mv<|.t 13,o 3<|.mv<|.t 15])<|.seq (.reg false [o 16<|.mv<|.t 0,o 17<|.mv<|.t 3,o 18<|.load true 8<|.t 1,o 19<|.mv<|.t 3,o 20<|.aN false (.f 169) [(.t 18),(.t 19)],o 21<|.call (.t 16) [(.t 17),(.t 20)],
 o 22 (.un .not (.t 21))])<|.cond (.t 22) (.ret)<|.skip)<|.reg false [o 23<|.bin .add (.t 13)<|.c<|.i 1,o 13<|.mv<|.t 23])
def aKz:AF:=⟨2,24,[],
 (.seq (.reg false [o 4 (.aI 0 (.t 1)),o 5 (.aI 5 (.t 4)),o 6 (.load false 1 (.t 5)),o 7 (.eE (.t 6)),o 8 (.aI 0 (.t 1)),o 9 (.aI 6 (.t 8)),o 10 (.load false 1 (.t 9)),o 11 (.eE (.t 10)),
 o 12 (.bin .add (.t 7) (.t 11)),o 13 (.mv (.c (.i 0)))]) (.block 0 (aB8)))⟩
def aUe:AF:=⟨2,37,[.cell 4 true 8],
 (.seq (.reg false [o 2 (.eT (.t 0)),o 4 (.alloc [(.i 0),(.i 0),(.str []),(.str []),(.slice 0 [] .full),(.slice 0 [] .full),(.slice 0 [] .full),(.slice 0 [] .full)])]) (.seq (.reg false [o 6 (.build [(.i 0),(.i 0),(.str []),(.str []),(.slice 0 [] .full),(.slice 0 [] .full),(.slice 0 [] .full)] []),o 5 (.alloc [(.i 0),(.i 0),(.str []),(.str []),(.slice 0 [] .full),(.slice 0 [] .full),(.slice 0 [] .full)]),
 ⟨none,.store 7 (.t 5) (.t 6),none,[]⟩]) (.seq (.seq (.reg false [o 7 (.mv (.t 1)),o 8 (.aI 0 (.t 2)),o 9 (.aI 5 (.t 8)),o 10 (.load false 1 (.t 9)),o 11 (.eE (.t 10)),o 12 (.bin .lss (.t 7) (.t 11))]) (.cond (.t 12) (.reg false [o 13 (.aI 0 (.t 2)),o 14 (.aI 5 (.t 13)),o 15 (.load false 1 (.t 14)),o 16 (.mv (.t 1)),o 17 (.cX 7 (.t 15) (.t 16)),o 18 (.load true 7 (.t 17)),⟨none,.store 7 (.t 5) (.t 18),none,[]⟩]) (.reg false [o 19 (.aI 0 (.t 2)),o 20 (.aI 6 (.t 19)),o 21 (.load false 1 (.t 20)),o 22 (.mv (.t 1)),o 23 (.aI 0 (.t 2)),o 24 (.aI 5 (.t 23)),o 25 (.load false 1 (.t 24)),
 o 26 (.eE (.t 25)),o 27 (.bin .sub (.t 22) (.t 26)),o 28 (.cX 9 (.t 21) (.t 27)),o 29 (.aI 2 (.t 28)),o 30 (.load true 7 (.t 29)),⟨none,.store 7 (.t 5) (.t 30),none,[]⟩]))) (.seq (.reg true [o 31 (.load true 7 (.t 5)),o 32 (.aI 7 (.t 2)),p 33 [1] (.load false 1 (.t 32)),o 34 (.mv (.t 1)),p 35 [2,1,3] (.aN true (.f 202) [(.t 33),(.t 34)]),p 36 [0,4,2,1,3] (.build [(.i 0),(.i 0),(.str []),(.str []),(.slice 0 [] .full),(.slice 0 [] .full),(.slice 0 [] .full),(.slice 0 [] .full)] [(0,7,(.t 31)),(7,1,(.t 35))]),
 ⟨none,.store 8 (.t 4) (.t 36),none,[5,0,4,2,1,3]⟩]) (.ret)))))⟩
def jU:AC:= .seq (.reg false [o 6<|.mv<|.t 17]) (.reg false [o 7<|.pend [(.i 0),(.i 0),(.str []),(.str []),(.slice 0 [] .full),(.slice 0 [] .full),(.slice 0 [] .full),(.slice 0 [] .full)],⟨none,.shut 7 8<|.t 18,none,[]⟩])
def jN:AC:= .block 1 (.seq (.seq (.reg false [o 19<|.load true 8<|.t 2,o 20<|.mv<|.t 6,o 21<|.load false 1<|.t 3,o 22<|.aN false (.f 117) [(.t 19),(.t 20),(.t 21)]])<|.cond (.t 22) (.exit 1)<|.skip)<|.seq (.reg false [o 24<|.load true 8<|.t 7,o 25<|.load false 1<|.t 3,o 26<|.aN false (.f 170) [(.t 24),(.t 25)],o 23<|.mv<|.t 26,o 27<|.extract (.t 23) 0,o 28<|.extract (.t 23) 1,
 o 8 (.mv (.t 27)),o 9<|.mv<|.t 28])<|.seq (.reg false [o 29<|.mv<|.t 9])<|.cond (.t 29) (.seq (.reg false [o 30<|.mv<|.t 8,⟨none,.store 1 (.t 4)<|.t 30,none,[]⟩,⟨none,.store 1 (.t 5)<|.c<|.bool true,none,[]⟩])<|.ret)<|.skip)
def aT2:AF:=⟨2,31,[.cell 4 false 1,.cell 5 false 1],
 (.seq (.reg false [o 2 (.eT (.t 0)),o 3 (.eT (.t 1)),o 4 (.alloc [(.slice 0 [] .full)]),o 5 (.alloc [(.bool false)])]) (.seq (.seq (.reg false [o 10 (.load true 8 (.t 2)),o 11 (.load false 1 (.t 3)),o 12 (.aN false (.f 114) [(.t 10),(.t 11)])]) (.cond (.t 12) (.seq (.reg false [o 13 (.aI 7 (.t 2)),o 14 (.load false 1 (.t 13)),⟨none,.store 1 (.t 4) (.t 14),none,[]⟩,⟨none,.store 1 (.t 5) (.c (.bool true)),none,[]⟩]) (.ret)) (.skip))) (.seq (.seq (.reg false [o 15 (.load true 8 (.t 2)),o 16 (.aN false (.f 116) [(.t 15)])]) (.block 0 (.nU (.t 16) [17,18] (jU) (jN)))) (.seq (.reg false [⟨none,.store 1 (.t 4) (.c (.slice 0 [] .full)),none,[]⟩,⟨none,.store 1 (.t 5) (.c (.bool false)),none,[]⟩]) (.ret)))))⟩
def aUt:AC:= .loop (.seq (.reg false [o 12<|.bin .lss (.t 11)<|.t 10])<|.seq (.cond (.t 12) (.skip)<|.exit 0)<|.seq (.block 1<|.seq (.reg false [o 13<|.cX 1 (.t 9)<|.t 11,o 14<|.load false 1<|.t 13,o 5<|.mv<|.t 14])<|.seq (.reg false [o 16<|.mv<|.t 5,o 17<|.call (.t 16) [],o 15<|.mv<|.t 17,o 18<|.extract (.t 15) 0,o 19<|.extract (.t 15) 1,o 6<|.mv<|.t 18,o 7<|.mv<|.t 19])<|.seq (.reg false [o 20<|.mv<|.t 7])<|.cond (.t 20) (.seq (.reg false [o 21<|.mv<|.t 6,o 2<|.mv<|.t 21,o 3<|.mv<|.c<|.bool true])<|.ret)<|.skip)<|.reg false [o 22<|.bin .add (.t 11)<|.c<|.i 1,o 11<|.mv<|.t 22])
def aUm:AF:=⟨1,24,[.tmp 2,.tmp 3],
 (.seq (.reg false [o 2 (.mv (.c (.slice 0 [] .full))),o 3 (.mv (.c (.bool false)))]) (.seq (.seq (.reg false [o 9 (.mv (.t 0)),o 10 (.eE (.t 9)),o 11 (.mv (.c (.i 0)))]) (.block 0 (aUt))) (.seq (.reg false [o 8 (.mv (.c (.slice 0 [] .full)))]) (.seq (.reg false [o 23 (.mv (.t 8)),o 2 (.mv (.t 23)),o 3 (.mv (.c (.bool false)))]) (.ret)))))⟩
def aTB:AF:=⟨2,12,[.tmp 2,.tmp 3],
 (.seq (.reg false [o 2 (.mv (.c (.slice 0 [] .full))),o 3 (.mv (.c (.bool false)))]) (.seq (.reg true [o 4 (.load true 8 (.t 0)),o 5 (.load false 1 (.t 1)),p 6 [1] (.fA (.t 5)),p 7 [2,1] (.aI 0 (.t 6)),p 8 [3,2,1] (.load false 1 (.t 7)),p 9 [0,4,3,2,1] (.aN false (.f 82) [(.t 4),(.t 8),(.c (.bool false)),(.c (.bool false))]),
 p 10 [5,0,4,3,2,1] (.extract (.t 9) 0),p 11 [5,0,4,3,2,1] (.extract (.t 9) 1),p 2 [6,5,0,4,3,2,1,7] (.mv (.t 10)),p 3 [7,5,0,4,3,2,1,8,6] (.mv (.t 11))]) (.ret)))⟩
def aUK:AF:=⟨2,16,[.tmp 2,.tmp 3],
 (.seq (.reg false [o 2 (.mv (.c (.slice 0 [] .full))),o 3 (.mv (.c (.bool false)))]) (.seq (.reg true [o 4 (.aI 7 (.t 0)),p 5 [0] (.load false 1 (.t 4)),o 6 (.aI 0 (.t 0)),p 7 [2] (.aI 4 (.t 6)),p 8 [3,2] (.load false 1 (.t 7)),p 9 [4,3,2] (.cX 1 (.t 8) (.c (.i 0))),
 p 10 [5,4,3,2] (.load false 1 (.t 9)),o 11 (.load false 1 (.t 1)),p 12 [7] (.fA (.t 11)),p 13 [8,7] (.aI 0 (.t 12)),p 14 [9,8,7] (.load false 1 (.t 13)),
 p 15 [6,5,4,3,2,10,9,8,7] (.bin .eql (.t 10) (.t 14)),p 2 [1,0] (.mv (.t 5)),p 3 [11,6,5,4,3,2,10,9,8,7,12,1,0] (.mv (.t 15))]) (.ret)))⟩
def aQc:AC:= .loop (.seq (.seq (.reg false [o 15<|.mv<|.t 6,o 16<|.mv<|.t 5,o 17<|.eE<|.t 16,o 18<|.bin .lss (.t 15)<|.t 17])<|.cond (.t 18) (.skip)<|.exit 0)<|.seq (.block 1<|.reg true [o 21<|.mv<|.t 3,o 22<|.mv<|.t 5,o 23<|.mv<|.t 6,p 24 [1,2]<|.cX 7 (.t 22)<|.t 23,p 25 [3,1,2]<|.load true 7<|.t 24,p 26 [4,3,1,2]<|.aN true (.f 174) [(.t 25)],
 o 27 (.load true 7 (.t 1)),o 28<|.mv<|.t 6,p 29 [6,7,5,4,3,1,2]<|.aN true (.f 64) [(.t 27),(.t 28)],p 30 [5,4,3,1,2,8,6,7]<|.aN true (.f 204) [(.t 26),(.t 29)],
 p 31 [0,9,5,4,3,1,2,8,6,7] (.aN false (.f 203) [(.t 21),(.t 30)]),p 3 [10,0,9,5,4,3,1,2,8,6,7]<|.mv<|.t 31])<|.reg false [o 19<|.mv<|.t 6,o 20<|.bin .add (.t 19)<|.c<|.i 1,o 6<|.mv<|.t 20])
def aUw:AF:=⟨1,33,[.tmp 2],
 (.seq (.reg false [o 1 (.eT (.t 0)),o 2 (.mv (.c (.slice 0 [] .full)))]) (.seq (.reg false [o 3 (.mv (.c (.slice 0 [] .full)))]) (.seq (.seq (.reg false [o 7 (.load true 7 (.t 1)),o 8 (.aN false (.f 62) [(.t 7)]),o 4 (.mv (.t 8))]) (.seq (.reg false [o 9 (.mv (.t 4)),o 10 (.bin .neq (.t 9) (.c (.str [])))]) (.cond (.t 10) (.reg false [o 11 (.mv (.t 4)),o 12 (.iD 1 1 [(.str [])] [(0,(.t 11))]),o 3 (.mv (.t 12))]) (.skip)))) (.seq (.reg false [o 13 (.load true 7 (.t 1)),o 14 (.aN false (.f 35) [(.t 13)]),o 5 (.mv (.t 14))]) (.seq (.seq (.reg false [o 6 (.mv (.c (.i 0)))]) (.block 0 (aQc))) (.seq (.reg false [o 32 (.mv (.t 3)),o 2 (.mv (.t 32))]) (.ret)))))))⟩
def aQ3:AC:= .loop (.seq (.reg false [o 9<|.bin .lss (.t 8)<|.t 7])<|.seq (.cond (.t 9) (.skip)<|.exit 0)<|.seq (.block 1<|.seq (.reg false [o 10<|.mv<|.t 8,o 5<|.mv<|.t 10])<|.seq (.reg false [o 11<|.mv<|.t 1,o 12<|.mv<|.t 0,o 13<|.mv<|.t 5,o 14<|.cX 1 (.t 12)<|.t 13,o 15<|.load false 1<|.t 14,o 16<|.bin .eql (.t 11)<|.t 15])<|.cond (.t 16) (.seq (.reg false [o 17<|.mv<|.t 5,o 4<|.mv<|.t 17])<|.ret)<|.skip)<|.reg false [o 18<|.bin .add (.t 8)<|.c<|.i 1,o 8<|.mv<|.t 18])
def aSQ:AF:=⟨2,19,[.tmp 4],
 (.seq (.reg false [o 4 (.mv (.c (.i 0)))]) (.seq (.seq (.reg false [o 6 (.mv (.t 0)),o 7 (.eE (.t 6)),o 8 (.mv (.c (.i 0)))]) (.block 0 (aQ3))) (.seq (.reg false [o 4 (.mv (.c (.i (-1))))]) (.ret))))⟩
def aPF:AC:= .loop (.seq (.reg false [o 10<|.bin .lss (.t 9)<|.t 8])<|.seq (.cond (.t 10) (.skip)<|.exit 0)<|.seq (.block 1<|.seq (.reg false [o 11<|.mv<|.t 9,o 12<|.cX 1 (.t 7)<|.t 9,o 13<|.load false 1<|.t 12,o 5<|.mv<|.t 11,o 6<|.mv<|.t 13])<|.block 2<|.seq (.reg false [o 15<|.mv<|.t 6,o 16<|.mv<|.t 1,o 17<|.aN false (.f 149) [(.t 15),(.t 16)],o 18<|.un .not<|.t 17,o 14<|.mv<|.t 18])<|.cond (.t 14) (.seq (.reg false [o 4<|.mv<|.c<|.i 4])<|.ret)<|.seq (.reg false [o 20<|.mv<|.t 0,o 21<|.mv<|.t 5,o 22<|.aAg 1 (.t 20) none (some<|.t 21) none,o 23<|.mv<|.t 6,o 24<|.aN false (.f 127) [(.t 22),(.t 23)],o 19<|.mv<|.t 24])<|.cond (.t 19) (.seq (.reg false [o 4<|.mv<|.c<|.i 5])<|.ret)<|.skip)<|.reg false [o 25<|.bin .add (.t 9)<|.c<|.i 1,o 9<|.mv<|.t 25])
def aSf:AF:=⟨2,26,[.tmp 4],
 (.seq (.reg false [o 4 (.mv (.c (.i 0)))]) (.seq (.seq (.reg false [o 7 (.mv (.t 0)),o 8 (.eE (.t 7)),o 9 (.mv (.c (.i 0)))]) (.block 0 (aPF))) (.seq (.reg false [o 4 (.mv (.c (.i 0)))]) (.ret))))⟩
def aLp:AC:= .loop (.seq (.reg false [o 13<|.bin .lss (.t 12)<|.t 11])<|.seq (.cond (.t 13) (.skip)<|.exit 0)<|.seq (.block 1<|.seq (.reg false [o 14<|.cX 7 (.t 10)<|.t 12,o 15<|.load true 7<|.t 14,o 6<|.pend [(.i 0),(.i 0),(.str []),(.str []),(.slice 0 [] .full),(.slice 0 [] .full),(.slice 0 [] .full)],
 ⟨none,.shut 6 7 (.t 15),none,[]⟩])<|.seq (.reg false [o 16<|.mv<|.t 1,o 17<|.load true 7<|.t 6,o 18<|.call (.t 16) [(.t 17)],o 19<|.un .not<|.t 18])<|.cond (.t 19) (.seq (.reg false [o 4<|.mv<|.c<|.bool false])<|.ret)<|.skip)<|.reg false [o 20<|.bin .add (.t 12)<|.c<|.i 1,o 12<|.mv<|.t 20])
def aLt:AC:= .loop (.seq (.reg false [o 25<|.bin .lss (.t 24)<|.t 23])<|.seq (.cond (.t 25) (.skip)<|.exit 2)<|.seq (.block 3<|.seq (.reg false [o 26<|.cX 9 (.t 22)<|.t 24,o 27<|.load true 9<|.t 26,o 8<|.pend [(.str []),(.slice 0 [] .full),(.i 0),(.i 0),(.str []),(.str []),(.slice 0 [] .full),(.slice 0 [] .full),(.slice 0 [] .full)],
 ⟨none,.shut 8 9 (.t 27),none,[]⟩])<|.seq (.reg false [o 28<|.mv<|.t 1,o 29<|.aI 2<|.t 8,o 30<|.load true 7<|.t 29,o 31<|.call (.t 28) [(.t 30)],o 32<|.un .not<|.t 31])<|.cond (.t 32) (.seq (.reg false [o 4<|.mv<|.c<|.bool false])<|.ret)<|.skip)<|.reg false [o 33<|.bin .add (.t 24)<|.c<|.i 1,o 24<|.mv<|.t 33])
def aLH:AF:=⟨2,34,[.tmp 4],
 (.seq (.reg false [o 2 (.eT (.t 0)),o 4 (.mv (.c (.bool false)))]) (.seq (.seq (.reg false [o 9 (.aI 5 (.t 2)),o 10 (.load false 1 (.t 9)),o 11 (.eE (.t 10)),o 12 (.mv (.c (.i 0)))]) (.block 0 (aLp))) (.seq (.seq (.reg false [o 21 (.aI 6 (.t 2)),o 22 (.load false 1 (.t 21)),o 23 (.eE (.t 22)),o 24 (.mv (.c (.i 0)))]) (.block 2 (aLt))) (.seq (.reg false [o 4 (.mv (.c (.bool true)))]) (.ret)))))⟩
def aUN:AF:=⟨3,10,[.tmp 4],
 (.seq (.reg false [o 3 (.eT (.t 0)),o 4 (.mv (.c (.bool false)))]) (.seq (.reg false [o 5 (.load false 1 (.t 1)),o 6 (.load true 7 (.t 3)),o 7 (.load false 1 (.t 2)),o 8 (.bin .add (.t 7) (.c (.i 1))),o 9 (.call (.f 147) [(.t 5),(.t 6),(.t 8)]),
 o 4 (.mv (.t 9))]) (.ret)))⟩
def aUa:AF:=⟨1,5,[.tmp 2],
 (.seq (.reg false [o 2 (.mv (.c (.bool false)))]) (.seq (.reg false [o 3 (.mv (.t 0)),o 4 (.aN false (.f 109) [(.t 3),(.c (.i 3))]),o 2 (.mv (.t 4))]) (.ret)))⟩
def aPA:AC:= .loop (.seq (.reg false [o 110<|.bin .lss (.t 109)<|.t 108])<|.seq (.cond (.t 110) (.skip)<|.exit 1)<|.seq (.block 2<|.seq (.reg false [o 111<|.mv<|.t 109,o 7<|.mv<|.t 111])<|.seq (.reg false [o 112<|.load true 7<|.t 1,o 113<|.mv<|.t 7,o 114<|.aN false (.f 213) [(.t 112),(.t 113)],o 8<|.mv<|.t 114])<|.seq (.reg false [o 115<|.mv<|.t 8,o 116<|.bin .neq (.t 115)<|.c<|.i 0])<|.cond (.t 116) (.seq (.reg false [o 117<|.mv<|.t 8,o 2<|.mv<|.t 117])<|.ret)<|.skip)<|.reg false [o 118<|.bin .add (.t 109)<|.c<|.i 1,o 109<|.mv<|.t 118])
def aSB:AF:=⟨1,132,[.tmp 2],
 (.seq (.reg false [o 1 (.eT (.t 0)),o 2 (.mv (.c (.i 0)))]) (.seq (.seq (.reg false [o 9 (.aI 0 (.t 1)),o 10 (.load false 1 (.t 9)),o 11 (.aN false (.f 212) [(.t 10),(.c (.i 0)),(.c (.i 19))]),o 12 (.un .not (.t 11))]) (.cond (.t 12) (.seq (.reg false [o 2 (.mv (.c (.i 1)))]) (.ret)) (.skip))) (.seq (.reg false [o 13 (.aI 0 (.t 1)),o 14 (.load false 1 (.t 13)),o 15 (.aCv 20 9 (.g 1) (.t 14)),o 16 (.load true 9 (.t 15)),o 3 (.pend [(.i 0),(.i 0),(.i 0),(.i 0),(.i 0),(.i 0),(.bool false),(.i 0),(.i 0)]),
 ⟨none,.shut 3 9 (.t 16),none,[]⟩]) (.seq (.block 0 (.seq (.reg false [o 18 (.aI 1 (.t 1)),o 19 (.load false 1 (.t 18)),o 20 (.aI 7 (.t 3)),o 21 (.load false 1 (.t 20)),o 22 (.aI 8 (.t 3)),o 23 (.load false 1 (.t 22)),o 24 (.aN false (.f 212) [(.t 19),(.t 21),(.t 23)]),
 o 25 (.un .not (.t 24)),o 17 (.mv (.t 25))]) (.cond (.t 17) (.seq (.reg false [o 2 (.mv (.c (.i 1)))]) (.ret)) (.seq (.reg false [o 27 (.aI 2 (.t 1)),o 28 (.load false 1 (.t 27)),o 29 (.aI 0 (.t 3)),o 30 (.load false 1 (.t 29)),o 31 (.aN false (.f 149) [(.t 28),(.t 30)]),o 32 (.un .not (.t 31)),
 o 33 (.mv (.t 32)),g 34 33 false (.aI 3 (.t 1)),g 35 33 false (.load false 1 (.t 34)),g 36 33 false (.aI 1 (.t 3)),g 37 33 false (.load false 1 (.t 36)),g 38 33 false (.aN false (.f 149) [(.t 35),(.t 37)]),
 g 39 33 false (.un .not (.t 38)),o 40 (.pick (.t 33) (.c (.bool true)) (.t 39)),o 26 (.mv (.t 40))]) (.cond (.t 26) (.seq (.reg false [o 2 (.mv (.c (.i 4)))]) (.ret)) (.seq (.reg false [o 42 (.aI 4 (.t 1)),o 43 (.load false 1 (.t 42)),o 44 (.eE (.t 43)),o 45 (.aI 2 (.t 3)),o 46 (.load false 1 (.t 45)),o 47 (.aI 2 (.t 3)),o 48 (.load false 1 (.t 47)),
 o 49 (.aI 3 (.t 3)),o 50 (.load false 1 (.t 49)),o 51 (.bin .add (.t 48) (.t 50)),o 52 (.aN false (.f 212) [(.t 44),(.t 46),(.t 51)]),o 53 (.un .not (.t 52)),
 o 54 (.mv (.t 53)),g 55 54 false (.aI 5 (.t 1)),g 56 54 false (.load false 1 (.t 55)),g 57 54 false (.eE (.t 56)),g 58 54 false (.aI 4 (.t 3)),g 59 54 false (.load false 1 (.t 58)),
 g 60 54 false (.aI 4 (.t 3)),g 61 54 false (.load false 1 (.t 60)),g 62 54 false (.aI 5 (.t 3)),g 63 54 false (.load false 1 (.t 62)),g 64 54 false (.bin .add (.t 61) (.t 63)),
 g 65 54 false (.aN false (.f 212) [(.t 57),(.t 59),(.t 64)]),g 66 54 false (.un .not (.t 65)),o 67 (.pick (.t 54) (.c (.bool true)) (.t 66)),o 41 (.mv (.t 67))]) (.cond (.t 41) (.seq (.reg false [o 2 (.mv (.c (.i 7)))]) (.ret)) (.seq (.reg false [o 69 (.aI 6 (.t 3)),o 70 (.load false 1 (.t 69)),o 71 (.un .not (.t 70)),o 72 (.mv (.t 71)),g 73 72 true (.aI 6 (.t 1)),g 74 72 true (.load false 1 (.t 73)),g 75 72 true (.eE (.t 74)),
 g 76 72 true (.bin .gtr (.t 75) (.c (.i 0))),o 77 (.pick (.t 72) (.t 76) (.c (.bool false))),o 78 (.mv (.t 77)),g 79 78 false (.aI 6 (.t 1)),g 80 78 false (.load false 1 (.t 79)),
 g 81 78 false (.eE (.t 80)),g 82 78 false (.bin .gtr (.t 81) (.c (.i 9))),o 83 (.pick (.t 78) (.c (.bool true)) (.t 82)),o 68 (.mv (.t 83))]) (.cond (.t 68) (.seq (.reg false [o 2 (.mv (.c (.i 7)))]) (.ret)) (.skip)))))))))) (.seq (.reg false [o 84 (.aI 4 (.t 1)),o 85 (.load false 1 (.t 84)),o 86 (.eE (.t 85)),o 4 (.mv (.t 86))]) (.seq (.seq (.reg false [o 87 (.aI 0 (.t 1)),o 88 (.load false 1 (.t 87)),o 89 (.bin .eql (.t 88) (.c (.i 17)))]) (.cond (.t 89) (.reg false [o 4 (.mv (.c (.i 1)))]) (.skip))) (.seq (.seq (.reg false [o 90 (.aI 4 (.t 1)),o 91 (.load false 1 (.t 90)),o 92 (.mv (.t 4)),o 93 (.aAg 1 (.t 91) none (some (.t 92)) none),o 94 (.aN false (.f 190) [(.t 93),(.c (.i 1))]),
 o 5 (.mv (.t 94))]) (.seq (.reg false [o 95 (.mv (.t 5)),o 96 (.bin .neq (.t 95) (.c (.i 0)))]) (.cond (.t 96) (.seq (.reg false [o 97 (.mv (.t 5)),o 2 (.mv (.t 97))]) (.ret)) (.skip)))) (.seq (.seq (.reg false [o 98 (.aI 4 (.t 1)),o 99 (.load false 1 (.t 98)),o 100 (.mv (.t 4)),o 101 (.aAg 1 (.t 99) (some (.t 100)) none none),o 102 (.aN false (.f 190) [(.t 101),(.c (.i 2))]),
 o 6 (.mv (.t 102))]) (.seq (.reg false [o 103 (.mv (.t 6)),o 104 (.bin .neq (.t 103) (.c (.i 0)))]) (.cond (.t 104) (.seq (.reg false [o 105 (.mv (.t 6)),o 2 (.mv (.t 105))]) (.ret)) (.skip)))) (.seq (.seq (.reg false [o 106 (.aI 6 (.t 1)),o 107 (.load false 1 (.t 106)),o 108 (.eE (.t 107)),o 109 (.mv (.c (.i 0)))]) (.block 1 (aPA))) (.seq (.seq (.reg false [o 119 (.aI 0 (.t 1)),o 120 (.load false 1 (.t 119)),o 121 (.bin .neq (.t 120) (.c (.i 11))),o 122 (.mv (.t 121)),g 123 122 true (.aI 6 (.t 3)),g 124 122 true (.load false 1 (.t 123)),
 o 125 (.pick (.t 122) (.t 124) (.c (.bool false))),o 126 (.mv (.t 125)),g 127 126 true (.aI 6 (.t 1)),g 128 126 true (.load false 1 (.t 127)),g 129 126 true (.eE (.t 128)),
 g 130 126 true (.bin .eql (.t 129) (.c (.i 0))),o 131 (.pick (.t 126) (.t 130) (.c (.bool false)))]) (.cond (.t 131) (.seq (.reg false [o 2 (.mv (.c (.i 7)))]) (.ret)) (.skip))) (.seq (.reg false [o 2 (.mv (.c (.i 0)))]) (.ret))))))))))))⟩
def aUx:AF:=⟨2,8,[.tmp 3],
 (.seq (.reg false [o 2 (.eT (.t 0)),o 3 (.mv (.c (.bool false)))]) (.seq (.reg false [o 4 (.load true 7 (.t 2)),o 5 (.aN false (.f 150) [(.t 4)]),⟨none,.store 1 (.t 1) (.t 5),none,[]⟩]) (.seq (.reg false [o 6 (.load false 1 (.t 1)),o 7 (.bin .eql (.t 6) (.c (.i 0))),o 3 (.mv (.t 7))]) (.ret))))⟩
def aTC:AF:=⟨2,19,[.tmp 4],
 (.seq (.reg false [o 4 (.mv (.c (.slice 0 [] .full)))]) (.seq (.reg false [o 6 (.mv (.t 0)),o 7 (.eE (.t 6)),o 8 (.mv (.t 0)),o 9 (.eE (.t 8)),o 10 (.bin .add (.t 9) (.c (.i 1))),o 11 (.mkSlice 1 8 [(.i 0)] (.t 7) (.t 10)),o 5 (.mv (.t 11))]) (.seq (.reg false [o 12 (.mv (.t 5)),o 13 (.mv (.t 0)),o 14 (.copy 1 (.t 12) (.t 13))]) (.seq (.reg false [o 15 (.mv (.t 5)),o 16 (.mv (.t 1)),o 17 (.iD 1 1 [(.i 0)] [(0,(.t 16))]),o 18 (.append false 1 8 (.t 15) (.t 17)),o 4 (.mv (.t 18))]) (.ret)))))⟩
def aQP:AC:= .loop (.seq (.seq (.reg false [o 21<|.mv<|.t 8,o 22<|.mv<|.t 0,o 23<|.eE<|.t 22,o 24<|.bin .lss (.t 21)<|.t 23])<|.cond (.t 24) (.skip)<|.exit 2)<|.seq (.block 3<|.seq (.seq (.reg true [o 27<|.mv<|.t 7,p 28 [0]<|.un .not<|.t 27,p 29 [1,0]<|.mv<|.t 28,⟨some 30,.mv<|.t 1,some (29,true),[2,1,0]⟩,⟨some 31,.mv<|.t 5,some (29,true),[2,1,0]⟩,
 ⟨some 32,.cX 1 (.t 30) (.t 31),some (29,true),[3,2,1,0,4]⟩,⟨some 33,.load false 1<|.t 32,some (29,true),[5,3,2,1,0,4]⟩,⟨some 34,.mv<|.t 0,some (29,true),[2,1,0]⟩,
 ⟨some 35,.mv (.t 8),some (29,true),[2,1,0]⟩,⟨some 36,.cX 1 (.t 34)<|.t 35,some (29,true),[7,2,1,0,8]⟩,⟨some 37,.load false 1<|.t 36,some (29,true),[9,7,2,1,0,8]⟩,
 ⟨some 38,.bin .lss (.t 33) (.t 37),some (29,true),[6,5,3,2,1,0,4,10,9,7,8]⟩,p 39 [2,1,0,11,6,5,3,4,10,9,7,8]<|.pick (.t 29) (.t 38)<|.c<|.bool false])<|.cond (.t 39) (.seq (.reg false [o 40<|.mv<|.t 6,o 41<|.mv<|.t 1,o 42<|.mv<|.t 5,o 43<|.cX 1 (.t 41)<|.t 42,o 44<|.load false 1<|.t 43,o 45<|.iD 1 1 [(.str [])] [(0,(.t 44))],o 46<|.append false 1 16 (.t 40)<|.t 45,
 o 6 (.mv (.t 46))])<|.reg false [o 7<|.mv<|.c<|.bool true])<|.skip)<|.reg false [o 47<|.mv<|.t 6,o 48<|.mv<|.t 0,o 49<|.mv<|.t 8,o 50<|.cX 1 (.t 48)<|.t 49,o 51<|.load false 1<|.t 50,o 52<|.iD 1 1 [(.str [])] [(0,(.t 51))],o 53<|.append false 1 16 (.t 47)<|.t 52,
 o 6 (.mv (.t 53))])<|.reg false [o 25<|.mv<|.t 8,o 26<|.bin .add (.t 25)<|.c<|.i 1,o 8<|.mv<|.t 26])
def aPB:AC:= .loop (.seq (.seq (.reg false [o 9<|.mv<|.t 5,o 10<|.mv<|.t 1,o 11<|.eE<|.t 10,o 12<|.bin .lss (.t 9)<|.t 11])<|.cond (.t 12) (.skip)<|.exit 0)<|.seq (.block 1<|.seq (.seq (.reg false [o 15<|.mv<|.t 0,o 16<|.mv<|.t 1,o 17<|.mv<|.t 5,o 18<|.cX 1 (.t 16)<|.t 17,o 19<|.load false 1<|.t 18,o 20<|.aN false (.f 63) [(.t 15),(.t 19)]])<|.cond (.t 20) (.exit 1)<|.skip)<|.seq (.reg false [o 6<|.mv<|.c<|.slice 0 [] .full])<|.seq (.reg false [o 7<|.mv<|.c<|.bool false])<|.seq (.seq (.reg false [o 8<|.mv<|.c<|.i 0])<|.block 2<|aQP)<|.seq (.seq (.reg false [o 54<|.mv<|.t 7,o 55<|.un .not<|.t 54])<|.cond (.t 55) (.reg false [o 56<|.mv<|.t 6,o 57<|.mv<|.t 1,o 58<|.mv<|.t 5,o 59<|.cX 1 (.t 57)<|.t 58,o 60<|.load false 1<|.t 59,o 61<|.iD 1 1 [(.str [])] [(0,(.t 60))],o 62<|.append false 1 16 (.t 56)<|.t 61,
 o 6 (.mv (.t 62))])<|.skip)<|.reg false [o 63<|.mv<|.t 6,o 0<|.mv<|.t 63])<|.reg false [o 13<|.mv<|.t 5,o 14<|.bin .add (.t 13)<|.c<|.i 1,o 5<|.mv<|.t 14])
def aTP:AF:=⟨2,65,[.tmp 4],
 (.seq (.reg false [o 4 (.mv (.c (.slice 0 [] .full)))]) (.seq (.seq (.reg false [o 5 (.mv (.c (.i 0)))]) (.block 0 (aPB))) (.seq (.reg false [o 64 (.mv (.t 0)),o 4 (.mv (.t 64))]) (.ret))))⟩
def aO9:AC:= .loop (.seq (.seq (.reg false [o 6<|.mv<|.t 5,o 7<|.mv<|.t 1,o 8<|.eE<|.t 7,o 9<|.bin .lss (.t 6)<|.t 8])<|.cond (.t 9) (.skip)<|.exit 0)<|.seq (.block 1<|.reg false [o 12<|.mv<|.t 0,o 13<|.mv<|.t 1,o 14<|.mv<|.t 5,o 15<|.cX 1 (.t 13)<|.t 14,o 16<|.load false 1<|.t 15,o 17<|.aN false (.f 73) [(.t 12),(.t 16)],o 0<|.mv<|.t 17])<|.reg false [o 10<|.mv<|.t 5,o 11<|.bin .add (.t 10)<|.c<|.i 1,o 5<|.mv<|.t 11])
def aTw:AF:=⟨2,19,[.tmp 4],
 (.seq (.reg false [o 4 (.mv (.c (.slice 0 [] .full)))]) (.seq (.seq (.reg false [o 5 (.mv (.c (.i 0)))]) (.block 0 (aO9))) (.seq (.reg false [o 18 (.mv (.t 0)),o 4 (.mv (.t 18))]) (.ret))))⟩
def aUR:AF:=⟨3,15,[.tmp 6],
 (.seq (.reg false [o 6 (.mv (.c (.bool false)))]) (.seq (.reg false [o 7 (.mv (.t 1)),o 8 (.mv (.t 0)),o 9 (.bin .leq (.t 7) (.t 8)),o 10 (.mv (.t 9)),g 11 10 true (.mv (.t 0)),g 12 10 true (.mv (.t 2)),g 13 10 true (.bin .leq (.t 11) (.t 12)),
 o 14 (.pick (.t 10) (.t 13) (.c (.bool false))),o 6 (.mv (.t 14))]) (.ret)))⟩
def aTX:AF:=⟨2,61,[.tmp 4],
 (.seq (.reg false [o 2 (.eT (.t 0)),o 4 (.mv (.c (.i 0)))]) (.seq (.reg false [o 9 (.aI 6 (.t 2)),o 10 (.load false 1 (.t 9)),o 11 (.mv (.t 1)),o 12 (.cX 9 (.t 10) (.t 11)),o 13 (.load true 9 (.t 12)),o 5 (.pend [(.str []),(.slice 0 [] .full),(.i 0),(.i 0),(.str []),(.str []),(.slice 0 [] .full),(.slice 0 [] .full),(.slice 0 [] .full)]),
 ⟨none,.shut 5 9 (.t 13),none,[]⟩]) (.seq (.reg true [o 14 (.aI 1 (.t 5)),p 15 [0] (.load false 1 (.t 14)),p 16 [1,0] (.eE (.t 15)),p 17 [2,1,0] (.bin .eql (.t 16) (.c (.i 2))),o 6 (.mv (.c (.i 1))),
 p 7 [3,2,1,0,4] (.mv (.t 17))]) (.seq (.block 0 (.seq (.reg false [o 19 (.aI 0 (.t 2)),o 20 (.load false 1 (.t 19)),o 21 (.bin .eql (.t 20) (.c (.i 11))),o 18 (.mv (.t 21))]) (.cond (.t 18) (.reg true [o 22 (.aI 1 (.t 5)),p 23 [0] (.load false 1 (.t 22)),p 24 [1,0] (.eE (.t 23)),p 25 [2,1,0] (.bin .leq (.t 24) (.c (.i 4))),o 6 (.mv (.c (.i 2))),
 p 7 [3,2,1,0,4] (.mv (.t 25))]) (.seq (.reg false [o 27 (.mv (.t 1)),o 28 (.bin .eql (.t 27) (.c (.i 0))),o 26 (.mv (.t 28))]) (.cond (.t 26) (.reg true [o 29 (.aI 1 (.t 5)),p 30 [0] (.load false 1 (.t 29)),p 31 [1,0] (.eE (.t 30)),p 32 [2,1,0] (.bin .eql (.t 31) (.c (.i 1))),p 33 [3,2,1,0] (.mv (.t 32)),
 ⟨some 34,.aI 0 (.t 5),some (33,true),[4,3,2,1,0]⟩,⟨some 35,.load false 1 (.t 34),some (33,true),[5,4,3,2,1,0]⟩,⟨some 36,.bin .eql (.t 35) (.c (.str [114,101,116,117,114,110])),some (33,true),[6,5,4,3,2,1,0]⟩,
 p 37 [4,3,2,1,0,7,6,5] (.pick (.t 33) (.t 36) (.c (.bool false))),p 6 [4,3,2,1,0] (.mv (.c (.i 0))),p 7 [8,4,3,2,1,0,7,6,5,9] (.mv (.t 37))]) (.skip)))))) (.seq (.seq (.reg false [o 38 (.mv (.t 7)),o 39 (.un .not (.t 38))]) (.cond (.t 39) (.seq (.reg false [o 4 (.mv (.c (.i 7)))]) (.ret)) (.skip))) (.seq (.seq (.reg false [o 40 (.mv (.t 6)),o 41 (.bin .neq (.t 40) (.c (.i 0))),o 42 (.mv (.t 41)),g 43 42 true (.aI 0 (.t 5)),g 44 42 true (.load false 1 (.t 43)),g 45 42 true (.mv (.t 6)),
 g 46 42 true (.aN false (.f 149) [(.t 44),(.t 45)]),g 47 42 true (.un .not (.t 46)),o 48 (.pick (.t 42) (.t 47) (.c (.bool false)))]) (.cond (.t 48) (.seq (.reg false [o 4 (.mv (.c (.i 4)))]) (.ret)) (.skip))) (.seq (.seq (.reg false [o 49 (.aI 1 (.t 5)),o 50 (.load false 1 (.t 49)),o 51 (.aN false (.f 190) [(.t 50),(.c (.i 1))]),o 8 (.mv (.t 51))]) (.seq (.reg false [o 52 (.mv (.t 8)),o 53 (.bin .neq (.t 52) (.c (.i 0)))]) (.cond (.t 53) (.seq (.reg false [o 54 (.mv (.t 8)),o 4 (.mv (.t 54))]) (.ret)) (.skip)))) (.seq (.seq (.reg false [o 55 (.aI 6 (.t 2)),o 56 (.load false 1 (.t 55)),o 57 (.mv (.t 1)),o 58 (.aAg 9 (.t 56) none (some (.t 57)) none),o 59 (.nT 231 [] [(.t 5)]),o 60 (.aN false (.f 230) [(.t 58),(.t 59)])]) (.cond (.t 60) (.seq (.reg false [o 4 (.mv (.c (.i 5)))]) (.ret)) (.skip))) (.seq (.reg false [o 4 (.mv (.c (.i 0)))]) (.ret))))))))))⟩
def aTr:AF:=⟨2,9,[.tmp 4],
 (.seq (.reg false [o 4 (.mv (.c (.bool false)))]) (.seq (.reg false [o 5 (.mv (.t 0)),o 6 (.mv (.t 1)),o 7 (.aN false (.f 244) [(.t 5),(.t 6)]),o 8 (.bin .geq (.t 7) (.c (.i 0))),o 4 (.mv (.t 8))]) (.ret)))⟩
def aUT:AF:=⟨2,9,[.tmp 3],
 (.seq (.reg false [o 2 (.eT (.t 0)),o 3 (.mv (.c (.bool false)))]) (.seq (.reg false [o 4 (.aI 0 (.t 2)),o 5 (.load false 1 (.t 4)),o 6 (.aI 0 (.t 1)),o 7 (.load false 1 (.t 6)),o 8 (.bin .eql (.t 5) (.t 7)),o 3 (.mv (.t 8))]) (.ret)))⟩
def aPS:AC:= .loop (.seq (.reg false [o 9<|.bin .lss (.t 8)<|.t 7])<|.seq (.cond (.t 9) (.skip)<|.exit 0)<|.seq (.block 1<|.seq (.reg false [o 10<|.mv<|.t 8,o 5<|.mv<|.t 10])<|.seq (.reg false [o 11<|.mv<|.t 1,o 12<|.mv<|.t 0,o 13<|.mv<|.t 5,o 14<|.cX 9 (.t 12)<|.t 13,o 15<|.load true 9<|.t 14,o 16<|.aN false (.t 11) [(.t 15)]])<|.cond (.t 16) (.seq (.reg false [o 17<|.mv<|.t 5,o 4<|.mv<|.t 17])<|.ret)<|.skip)<|.reg false [o 18<|.bin .add (.t 8)<|.c<|.i 1,o 8<|.mv<|.t 18])
def aR7:AF:=⟨2,19,[.tmp 4],
 (.seq (.reg false [o 4 (.mv (.c (.i 0)))]) (.seq (.seq (.reg false [o 6 (.mv (.t 0)),o 7 (.eE (.t 6)),o 8 (.mv (.c (.i 0)))]) (.block 0 (aPS))) (.seq (.reg false [o 4 (.mv (.c (.i (-1))))]) (.ret))))⟩
end Go.Proofs.YtelnnehpbkainaaGreatDoor.Code
namespace Go.Fw
open Go
theorem vT{G:Gh}{v:Value}{a:AV}(h:aCH v=some a):R G (.v a v)∧v.oneCell'=true∧tG a=false:=by
 unfold aCH at h;split at h
 ·rename_i k n;split at h
  ·rename_i hk;cases h;exact⟨.int hk,rfl,rfl⟩
  ·cases h
 ·cases h;exact⟨.bool _,rfl,rfl⟩
 ·split at h
  ·rename_i hb;cases h;exact⟨.str _ (by simp only [big,maxLen] at*;omega),rfl,rfl⟩
  ·cases h
 ·cases h;exact⟨.cZ (by simp [maxLen]) rfl,rfl,rfl⟩
 ·cases h;exact⟨.eH,rfl,rfl⟩
 ·cases h;exact⟨.eQ,rfl,rfl⟩
 ·cases h;exact⟨.dP,rfl,rfl⟩
 ·cases h;exact⟨.cI,rfl,rfl⟩
 ·cases h
theorem aCC{G:Gh}: ∀{vs:List Value}{a_:List AV},vA vs=some a_→R G (.k a_ vs)
 | [],a_,h=>by simp [vA] at h;subst h;exact .iI
 |v::vs,a_,h=>by
  simp only [vA] at h;split at h
  ·rename_i x xs h1 h2;cases h;obtain⟨k1,k2,_⟩:=vT (G:=G) h1;exact .cY k1 k2 (aCC h2)
  ·cases h
theorem aI9{G:Gh}{v:Value}{a:AV}(h:aMw v=some a):R G (.v a v):=by
 unfold aMw at h;split at h
 ·rename_i cs;split at h
  ·rename_i xs hx;cases h;simpa using R.agg (aCC (G:=G) hx)
  ·cases h
 ·exact(vT h).1
theorem qF{P:Program}{G:Gh}{t:TypeId}{z:List AV}(h:zeroOf P t=some z): ∃i v,P.info? t=some i∧i.zero=some v∧R G (.k z v.cells.toList):=by
 unfold zeroOf at h;cases hi:P.info? t with
 |none=>simp [hi] at h
 |some i=>
  simp only [hi,Option.bind_some] at h;cases hz:i.zero with
  |none=>simp [hz] at h
  |some v=>
   simp only [hz] at h;refine⟨i,v,rfl,hz,?_⟩;cases v with
   |agg cs=>simp only at h;exact aCC h
   |_=>
    simp only [Option.map_eq_some_iff] at h;obtain⟨a,h1,rfl⟩:=h;obtain⟨k1,k2,_⟩:=vT (G:=G) h1;exact .cY k1 k2 .iI
theorem eC{P:Program}{t:TypeId}{i:TypeInfo}{v:Value}(hi:P.info? t=some i)(hz:i.zero=some v)(w:World):(zeroValue t).run P w= .ok v w:=by
 simp [zeroValue,typeInfo,hi,hz]
theorem lH{P:Program}{t:TypeId}{i:TypeInfo}(hi:P.info? t=some i)(w:World):(sizeOf t).run P w= .ok (P.cellsOf t) w:=by
 simp [sizeOf,typeInfo,hi,Program.cellsOf]
theorem aFB{P:Program}{t:TypeId}{d:TypeDesc}(h:P.underlying t=some d): ∃i,P.info? t=some i:=by
 unfold Program.underlying at h;split at h
 ·exact⟨_,by assumption⟩
 ·exact⟨_,by assumption⟩
 ·cases h
theorem lQ{P:Program}{t:TypeId}{d:TypeDesc}(h:P.underlying t=some d)(w:World):(sizeOf t).run P w= .ok (P.cellsOf t) w:=by
 obtain⟨i,hi⟩:=aFB h;exact lH hi w
theorem v9{P:Program}{t:TypeId}{b:Bool}(h:pC P t=some b)(w:World):(isAgg t).run P w= .ok b w:=by
 unfold pC at h;split at h
 ·rename_i fs hu;cases h;simp [isAgg,run_underlying hu]
 ·rename_i n e hu;cases h;simp [isAgg,run_underlying hu]
 ·rename_i d h1 h2 hu;cases h;simp only [isAgg,Sem.run_bind,run_underlying hu,Result.andThen_ok]
  rfl
 ·cases h
theorem wX{P:Program}{t:TypeId}{b:Bool}(h:pC P t=some b): ∃d,P.underlying t=some d:=by
 unfold pC at h;split at h
 ·exact⟨_,by assumption⟩
 ·exact⟨_,by assumption⟩
 ·exact⟨_,by assumption⟩
 ·cases h
section
variable {P : Program} {B : Bs} {G : Gh} {s : ASt} {w : World}
theorem aGM{a a':AV}{x:Value}(h:j2 a=some a')(r:R G (.v a x)):R G (.v a' x)∧x.oneCell'=true∧tG a'=false:=by
 cases r with
 | @cZ sz o A c hm ho=>
  cases o with
  |no=>simp [j2] at h;subst h;exact⟨.cZ hm trivial,rfl,rfl⟩
  |full=>simp [j2] at h;subst h;exact⟨.cZ hm trivial,rfl,rfl⟩
  |tok t=>simp [j2] at h;subst h;exact⟨.cZ hm trivial,rfl,rfl⟩
 | @dQ sz xs o b off c hc hm hr ho=>
  have key: ∀z,z=szC sz xs→R G (.v (.slice z xs .no) (.slice (some ⟨b,off,none⟩) xs.length c)):=fun z hz=>by
   subst hz;cases xs with
   |nil=>exact .cZ hm trivial
   |cons y ys=>exact .dQ hc hm hr trivial
  cases o with
  |no=>simp [j2] at h;subst h;exact⟨.dQ hc hm hr trivial,rfl,rfl⟩
  |full=>simp [j2] at h;subst h;exact⟨key _ rfl,rfl,rfl⟩
  |tok t=>simp [j2] at h;subst h;exact⟨key _ rfl,rfl,rfl⟩
 |ms hL hc hm=>simp [j2] at h
 |agg h=>simp [j2] at h
 |tuple h=>simp [j2] at h
 |nX x=>simp [j2] at h
 |int h'=>simp [j2] at h;subst h;exact⟨.int h',rfl,rfl⟩
 |bool b=>simp [j2] at h;subst h;exact⟨.bool b,rfl,rfl⟩
 |str t ht=>simp [j2] at h;subst h;exact⟨.str t ht,rfl,rfl⟩
 |eH=>simp [j2] at h;subst h;exact⟨.eH,rfl,rfl⟩
 |ptr off hL=>simp [j2] at h;subst h;exact⟨.ptr off hL,rfl,rfl⟩
 |aG off hc hM=>simp [j2] at h;subst h;exact⟨.aG off hc hM,rfl,rfl⟩
 |func ha hb=>simp [j2] at h;subst h;exact⟨.func ha hb,rfl,rfl⟩
 |dP=>simp [j2] at h;subst h;exact⟨.dP,rfl,rfl⟩
 |yield hL=>simp [j2] at h;subst h;exact⟨.yield hL,rfl,rfl⟩
 |map hL=>simp [j2] at h;subst h;exact⟨.map hL,rfl,rfl⟩
 |eQ=>simp [j2] at h;subst h;exact⟨.eQ,rfl,rfl⟩
 |iface h'=>simp [j2] at h;subst h;exact⟨.iface h',rfl,rfl⟩
 |cI=>simp [j2] at h;subst h;exact⟨.cI,rfl,rfl⟩
 |iter hL=>simp [j2] at h;subst h;exact⟨.iter hL,rfl,rfl⟩
theorem aGP: ∀{a_ as':List AV}{xs:List Value},aD3 a_=some as'→R G (.k a_ xs)→R G (.k as' xs)
 | [],as',xs,h,r=>by simp [aD3] at h;subst h;exact r
 |a::a_,as',xs,h,r=>by
  cases r with
  |cY r1 r2 r3=>
   simp only [aD3] at h;split at h
   ·cases h
   ·rename_i y hy;split at h
    ·cases h
    ·rename_i ys hys;cases h;obtain⟨k1,k2,_⟩:=aGM hy r1;exact .cY k1 k2 (aGP hys r3)
theorem aGi{x:Value}(h:x.oneCell'=true):x.cells.toList= [x]:=by cases x<;>first|rfl|(simp [Value.oneCell'] at h)
theorem qX{a a':AV}{x:Value}(h:iK a=some a')(r:R G (.v a x)):R G (.v a' x)∧R G (.c a' x.cells.toList):=by
 unfold iK at h;split at h
 ·rename_i cs;split at h
  ·rename_i ds hd;cases h;cases r with
   |agg r=>
    have:=aGP hd r;exact⟨.agg this,by simpa [Value.cells] using R.wI this⟩
  ·cases h
 ·obtain⟨k1,k2,k3⟩:=aGM h r;exact⟨k1,by rw [aGi k2];exact .yC k3 k2 k1⟩
theorem tR: ∀{a_ as':List AV}{xs:List Value},eD a_=some as'→R G (.l a_ xs)→R G (.l as' xs)
 | [],as',xs,h,r=>by simp [eD] at h;subst h;exact r
 |a::a_,as',xs,h,r=>by
  cases r with
  |gN r1 r3=>
   simp only [eD] at h;split at h
   ·cases h
   ·rename_i y hy;split at h
    ·cases h
    ·rename_i ys hys;cases h;exact .gN (qX hy r1).1 (tR hys r3)
structure Opn(P':bA)(env:Env)(G:Gh)(ρ:Operand→Value):Prop where
 out: ∀x y,dH x=some y→R G (.v (evO P' env y) (ρ x))
def iY(P':bA)(G:Gh):Prop:= ∀g,R G (.v (.aG (P'.gl g) 0) (.pointer (some ⟨g,0,none⟩)))
theorem iY.mono{P':bA}{G G':Gh}(hG:G.le G')(h:iY P' G):iY P' G':=fun g=>(h g).mono hG
def kG(G:Gh)(nt:Nat)(env:Env)(tmps:Array Value):Prop:=tmps.size=nt∧ ∀i,R G (.v (env i) (tmps.getD i undef))
theorem kG.mono{G G':Gh}(hG:G.le G'){nt:Nat}{env:Env}{tmps:Array Value}(h:kG G nt env tmps):kG G' nt env tmps:=⟨h.1,fun i=>(h.2 i).mono hG⟩
theorem zO{P':bA}{env:Env}{nt:Nat}{a:Act}(hE:kG G nt env a.tmps)(hg:iY P' G):Opn P' env G a.eval:=⟨by
 intro x y hxy;cases x with
 |tmp t=>simp [dH] at hxy;subst hxy;exact hE.2 t
 |const v=>
  simp only [dH,Option.map_eq_some_iff] at hxy;obtain⟨av,h1,rfl⟩:=hxy;exact aI9 h1
 |global g=>simp [dH] at hxy;subst hxy;exact hg g
 |func f=>simp [dH] at hxy;subst hxy;simpa [Act.eval,evO] using R.func (f:=f) .tF .tF⟩
variable {P' : bA} {env : Env} {ρ : Operand → Value}
theorem vI(hO:Opn P' env G ρ): ∀{xs:List Operand}{ys:List aQ},uL xs=some ys→R G (.l (ys.map (evO P' env)) (xs.map ρ))
 | [],ys,h=>by simp [uL] at h;subst h;exact .tF
 |x::xs,ys,h=>by
  simp only [uL] at h;split at h
  ·rename_i y ys' h1 h2;cases h;exact .gN (hO.out _ _ h1) (vI hO h2)
  ·cases h
def nC(P:Program)(G:Gh)(w:World)(m:Sem Value)(v:AV):Prop:=
 ∃x w' G',m.run P w= .ok x w'∧xQ G w G' w'∧R G' (.v v x)
theorem nC.of(hI:Inv P B G s w){m:Sem Value}{v:AV}{x:Value}(h:m.run P w= .ok x w)(r:R G (.v v x)):nC P G w m v:=⟨x,w,G,h,hI.quiet,r⟩
theorem aUl(hI:Inv P B G s w){c a b:AV}{xc xa xb:Value}(hc:R G (.v c xc))(ha:R G (.v a xa))(hb:R G (.v b xb)){v:AV}
(h:(match(generalizing:=false) c with| .bool t=>some (match t with|true=>a|false=>b)|_=>none)=some v):nC P G w (do pure (if←asBool xc then xa else xb)) v:=by
 cases hc<;>simp at h;rename_i t;subst h;cases t with
 |true=>exact .of hI (x:=xa) (by simp [asBool]) ha
 |false=>exact .of hI (x:=xb) (by simp [asBool]) hb
theorem aUi(hI:Inv P B G s w){a v:AV}{x:Value}(r:R G (.v a x))(t:TypeId)(h:(match(generalizing:=false) iK a with|some v=>some (AV.aG v 0)|none=>none)=some v):nC P G w (Instr.box t x) v:=by
 split at h
 ·rename_i a' ha;cases h;obtain⟨k1,k2⟩:=qX ha r;refine⟨.pointer (some ⟨w.heap.size,0,none⟩),w.alloc (.cells x.cells t),G.mB w.heap.size 0 x.cells.toList.length x.cells.toList,?_,?_,?_⟩
  ·simp [Instr.box,newVar,newRow]
  ·have:=hI.aMh x.cells.toList t (0,0) x.cells.toList.length;simpa using this
  ·have hle:=hI.rQ x.cells.toList.length x.cells.toList;have:=R.aG (G:=G.mB w.heap.size 0 x.cells.toList.length x.cells.toList) (b:=w.heap.size) (o:=0) 0 (k2.mono hle) (fun j y hy=>by
    have hj:j<x.cells.toList.length:=by
     rcases Nat.lt_or_ge j x.cells.toList.length with h|h
     ·exact h
     ·rw [List.getElem?_eq_none h] at hy;cases hy
    rw [Nat.zero_add,p5 (Nat.zero_le _) hj];exact hy)
   simpa using this
 ·cases h
theorem aQA(hI:Inv P B G s w){a v:AV}{x:Value}(r:R G (.v a x))(o:Oper)(y:Operand)(ho:o.op= .nilCheck y)(hy:ρ y=x)
(h:(match(generalizing:=false) a with| .ptr l o=>some (AV.ptr l o)| .aG v o=>some (.aG v o)| .func f a b=>some (.func f a b)| .yield l=>some (.yield l)|_=>none)=some v):
  ∃x w' G',(execOp ρ o).run P w= .ok (.value x) w'∧xQ G w G' w'∧R G' (.v v x):=by
 refine⟨x,w,G,?_,hI.quiet,?_⟩
 ·cases r<;>simp at h<;>simp [execOp,ho,hy]
 ·cases r<;>simp at h<;>subst h
  ·exact .ptr _ (by assumption)
  ·exact .aG _ (by assumption) (by assumption)
  ·exact .func (by assumption) (by assumption)
  ·exact .yield (by assumption)
theorem wrap_wrap(k:IntKind)(n:Int):k.wrap (k.wrap n)=k.wrap n:=by
 cases k
 ·have e: ∀n,IntKind.i8.wrap n=if n%256≥128 then n%256-256 else n%256:=fun n=>by simp [IntKind.wrap,IntKind.bits,IntKind.signed]
  rw [e,e];by_cases h:n%256≥128
  ·rw [if_pos h,if_pos (by omega)];omega
  ·rw [if_neg h,if_neg (by omega)];omega
 ·have e: ∀n,IntKind.i16.wrap n=if n%65536≥32768 then n%65536-65536 else n%65536:=fun n=>by simp [IntKind.wrap,IntKind.bits,IntKind.signed]
  rw [e,e];by_cases h:n%65536≥32768
  ·rw [if_pos h,if_pos (by omega)];omega
  ·rw [if_neg h,if_neg (by omega)];omega
 ·have e: ∀n,IntKind.i32.wrap n=if n%4294967296≥2147483648 then n%4294967296-4294967296 else n%4294967296:=fun n=>by simp [IntKind.wrap,IntKind.bits,IntKind.signed]
  rw [e,e];by_cases h:n%4294967296≥2147483648
  ·rw [if_pos h,if_pos (by omega)];omega
  ·rw [if_neg h,if_neg (by omega)];omega
 ·have e: ∀n,IntKind.i64.wrap n=if n%18446744073709551616≥9223372036854775808 then n%18446744073709551616-18446744073709551616 else n%18446744073709551616:=fun n=>by simp [IntKind.wrap,IntKind.bits,IntKind.signed]
  rw [e,e];by_cases h:n%18446744073709551616≥9223372036854775808
  ·rw [if_pos h,if_pos (by omega)];omega
  ·rw [if_neg h,if_neg (by omega)];omega
 ·have e: ∀n,IntKind.u8.wrap n=n%256:=fun n=>by simp [IntKind.wrap,IntKind.bits,IntKind.signed]
  rw [e,e];omega
 ·have e: ∀n,IntKind.u16.wrap n=n%65536:=fun n=>by simp [IntKind.wrap,IntKind.bits,IntKind.signed]
  rw [e,e];omega
 ·have e: ∀n,IntKind.u32.wrap n=n%4294967296:=fun n=>by simp [IntKind.wrap,IntKind.bits,IntKind.signed]
  rw [e,e];omega
 ·have e: ∀n,IntKind.u64.wrap n=n%18446744073709551616:=fun n=>by simp [IntKind.wrap,IntKind.bits,IntKind.signed]
  rw [e,e];omega
theorem aBw{k:IntKind}{a n:Int}(ha:k.wrap a=a)(h:(0≤n∧n≤a)∨(a≤n∧n≤0)):k.wrap n=n:=by
 cases k
 ·have e: ∀n,IntKind.i8.wrap n=if n%256≥128 then n%256-256 else n%256:=fun n=>by simp [IntKind.wrap,IntKind.bits,IntKind.signed]
  rw [e] at ha⊢;by_cases h1:a%256≥128
  ·rw [if_pos h1] at ha;by_cases h2:n%256≥128
   ·rw [if_pos h2];omega
   ·rw [if_neg h2];omega
  ·rw [if_neg h1] at ha;by_cases h2:n%256≥128
   ·rw [if_pos h2];omega
   ·rw [if_neg h2];omega
 ·have e: ∀n,IntKind.i16.wrap n=if n%65536≥32768 then n%65536-65536 else n%65536:=fun n=>by simp [IntKind.wrap,IntKind.bits,IntKind.signed]
  rw [e] at ha⊢;by_cases h1:a%65536≥32768
  ·rw [if_pos h1] at ha;by_cases h2:n%65536≥32768
   ·rw [if_pos h2];omega
   ·rw [if_neg h2];omega
  ·rw [if_neg h1] at ha;by_cases h2:n%65536≥32768
   ·rw [if_pos h2];omega
   ·rw [if_neg h2];omega
 ·have e: ∀n,IntKind.i32.wrap n=if n%4294967296≥2147483648 then n%4294967296-4294967296 else n%4294967296:=fun n=>by simp [IntKind.wrap,IntKind.bits,IntKind.signed]
  rw [e] at ha⊢;by_cases h1:a%4294967296≥2147483648
  ·rw [if_pos h1] at ha;by_cases h2:n%4294967296≥2147483648
   ·rw [if_pos h2];omega
   ·rw [if_neg h2];omega
  ·rw [if_neg h1] at ha;by_cases h2:n%4294967296≥2147483648
   ·rw [if_pos h2];omega
   ·rw [if_neg h2];omega
 ·have e: ∀n,IntKind.i64.wrap n=if n%18446744073709551616≥9223372036854775808 then n%18446744073709551616-18446744073709551616 else n%18446744073709551616:=fun n=>by simp [IntKind.wrap,IntKind.bits,IntKind.signed]
  rw [e] at ha⊢;by_cases h1:a%18446744073709551616≥9223372036854775808
  ·rw [if_pos h1] at ha;by_cases h2:n%18446744073709551616≥9223372036854775808
   ·rw [if_pos h2];omega
   ·rw [if_neg h2];omega
  ·rw [if_neg h1] at ha;by_cases h2:n%18446744073709551616≥9223372036854775808
   ·rw [if_pos h2];omega
   ·rw [if_neg h2];omega
 ·have e: ∀n,IntKind.u8.wrap n=n%256:=fun n=>by simp [IntKind.wrap,IntKind.bits,IntKind.signed]
  rw [e] at ha⊢;omega
 ·have e: ∀n,IntKind.u16.wrap n=n%65536:=fun n=>by simp [IntKind.wrap,IntKind.bits,IntKind.signed]
  rw [e] at ha⊢;omega
 ·have e: ∀n,IntKind.u32.wrap n=n%4294967296:=fun n=>by simp [IntKind.wrap,IntKind.bits,IntKind.signed]
  rw [e] at ha⊢;omega
 ·have e: ∀n,IntKind.u64.wrap n=n%18446744073709551616:=fun n=>by simp [IntKind.wrap,IntKind.bits,IntKind.signed]
  rw [e] at ha⊢;omega
theorem aOn{k:IntKind}{a b:Int}(ha:k.wrap a=a):k.wrap (a.tmod b)=a.tmod b:=by
 refine aBw ha ?_;rcases Int.le_total 0 a with h|h
 ·exact .inl ⟨Int.tmod_nonneg b h,by
   have:=Int.tmod_add_mul_tdiv a b;have h2:0≤b*a.tdiv b:=by
    rcases Int.le_total 0 b with hb|hb
    ·exact Int.mul_nonneg hb (Int.tdiv_nonneg h hb)
    ·exact Int.mul_nonneg_of_nonpos_of_nonpos hb (Int.tdiv_nonpos_of_nonneg_of_nonpos h hb)
   omega⟩
 ·refine .inr ?_;have e:a.tmod b= -((-a).tmod b):=by rw [Int.neg_tmod,Int.neg_neg]
  have h0:0≤(-a).tmod b:=Int.tmod_nonneg b (by omega);have:=Int.tmod_add_mul_tdiv (-a) b;have h2:0≤b*(-a).tdiv b:=by
   rcases Int.le_total 0 b with hb|hb
   ·exact Int.mul_nonneg hb (Int.tdiv_nonneg (by omega) hb)
   ·exact Int.mul_nonneg_of_nonpos_of_nonpos hb (Int.tdiv_nonpos_of_nonneg_of_nonpos (by omega) hb)
  omega
theorem aNQ{k:IntKind}{a:Int}(ha:k.wrap a=a)(n:Nat):k.wrap (a.fdiv (2^n))=a.fdiv (2^n):=by
 have hp:(0:Int)<2^n:=Int.pow_pos (by decide);rw [Int.fdiv_eq_ediv_of_nonneg _ (Int.le_of_lt hp)];refine aBw ha ?_;rcases Int.le_total 0 a with h|h
 ·exact .inl ⟨Int.ediv_nonneg h (Int.le_of_lt hp),Int.ediv_le_self _ h⟩
 ·refine .inr ⟨?_,?_⟩
  ·rw [Int.le_ediv_iff_mul_le hp];have h3:a*(2^n-1)≤0:=Int.mul_nonpos_of_nonpos_of_nonneg h (by omega);rw [Int.mul_sub,Int.mul_one] at h3;omega
  ·exact Int.ediv_nonpos_of_nonpos_of_neg h hp|>fun x=>x
theorem aPb(s t:ByteArray):(s.toList==t.toList)=(s.data.toList==t.data.toList):=by rw [ByteArray.toList_eq,ByteArray.toList_eq]
theorem aVe(hI:Inv P B G s w){op:BinOp}{a b v:AV}{xa xb:Value}(ha:R G (.v a xa))(hb:R G (.v b xb))(t:TypeId)(x y:Operand)(h:aDz op a b=some v):
  nC P G w (do eqGuard op t x y xa xb;binOp op t xa xb) v:=by
 cases ha with
 |int hk=>
  rename_i k n;cases hb with
  |int hk'=>
   rename_i k' n';have hg: ∀op,(eqGuard op t x y (.int k n) (.int k' n')).run P w= .ok () w:=fun op=>by unfold eqGuard;split<;>simp
   cases op<;>simp only [aDz] at h
   case add=>
    split at h
    ·rename_i hkk;subst hkk;simp only [kR] at h;cases h;exact .of hI (x:= .int k _) (by simp only [Sem.run_bind,hg,Result.andThen_ok,binOp];simp [Op.intArith]) (.int (wrap_wrap _ _))
    ·cases h
   case sub=>
    split at h
    ·rename_i hkk;subst hkk;simp only [kR] at h;cases h;exact .of hI (x:= .int k _) (by simp only [Sem.run_bind,hg,Result.andThen_ok,binOp];simp [Op.intArith]) (.int (wrap_wrap _ _))
    ·cases h
   case mul=>
    split at h
    ·rename_i hkk;subst hkk;simp only [kR] at h;cases h;exact .of hI (x:= .int k _) (by simp only [Sem.run_bind,hg,Result.andThen_ok,binOp];simp [Op.intArith]) (.int (wrap_wrap _ _))
    ·cases h
   case quo=>
    split at h
    ·rename_i hkk;subst hkk;simp only [kR] at h;split at h
     ·cases h
     ·rename_i hz;cases h;exact .of hI (x:= .int k _) (by simp only [Sem.run_bind,hg,Result.andThen_ok,binOp];simp [Op.intDiv,hz]) (.int (wrap_wrap _ _))
    ·cases h
   case rem=>
    split at h
    ·rename_i hkk;subst hkk;simp only [kR] at h;split at h
     ·cases h
     ·rename_i hz;cases h;exact .of hI (x:= .int k _) (by simp only [Sem.run_bind,hg,Result.andThen_ok,binOp];simp [Op.intDiv,hz]) (.int (aOn hk))
    ·cases h
   case and=>
    split at h
    ·rename_i hkk;subst hkk;simp only [kR] at h;cases h;exact .of hI (x:= .int k _) (by simp only [Sem.run_bind,hg,Result.andThen_ok,binOp];simp [Op.intBits]) (.int (wrap_wrap _ _))
    ·cases h
   case or=>
    split at h
    ·rename_i hkk;subst hkk;simp only [kR] at h;cases h;exact .of hI (x:= .int k _) (by simp only [Sem.run_bind,hg,Result.andThen_ok,binOp];simp [Op.intBits]) (.int (wrap_wrap _ _))
    ·cases h
   case xor=>
    split at h
    ·rename_i hkk;subst hkk;simp only [kR] at h;cases h;exact .of hI (x:= .int k _) (by simp only [Sem.run_bind,hg,Result.andThen_ok,binOp];simp [Op.intBits]) (.int (wrap_wrap _ _))
    ·cases h
   case andNot=>
    split at h
    ·rename_i hkk;subst hkk;simp only [kR] at h;cases h;exact .of hI (x:= .int k _) (by simp only [Sem.run_bind,hg,Result.andThen_ok,binOp];simp [Op.intBits]) (.int (wrap_wrap _ _))
    ·cases h
   case eql=>
    split at h
    ·rename_i hkk;subst hkk;simp only [kR] at h;cases h;exact .of hI (x:= .bool _) (by simp only [Sem.run_bind,hg,Result.andThen_ok,binOp];simp [Op.intCmp]) (.bool _)
    ·cases h
   case neq=>
    split at h
    ·rename_i hkk;subst hkk;simp only [kR] at h;cases h;exact .of hI (x:= .bool _) (by simp only [Sem.run_bind,hg,Result.andThen_ok,binOp];simp [Op.intCmp]) (.bool _)
    ·cases h
   case lss=>
    split at h
    ·rename_i hkk;subst hkk;simp only [kR] at h;cases h;exact .of hI (x:= .bool _) (by simp only [Sem.run_bind,hg,Result.andThen_ok,binOp];simp [Op.intCmp]) (.bool _)
    ·cases h
   case leq=>
    split at h
    ·rename_i hkk;subst hkk;simp only [kR] at h;cases h;exact .of hI (x:= .bool _) (by simp only [Sem.run_bind,hg,Result.andThen_ok,binOp];simp [Op.intCmp]) (.bool _)
    ·cases h
   case gtr=>
    split at h
    ·rename_i hkk;subst hkk;simp only [kR] at h;cases h;exact .of hI (x:= .bool _) (by simp only [Sem.run_bind,hg,Result.andThen_ok,binOp];simp [Op.intCmp]) (.bool _)
    ·cases h
   case geq=>
    split at h
    ·rename_i hkk;subst hkk;simp only [kR] at h;cases h;exact .of hI (x:= .bool _) (by simp only [Sem.run_bind,hg,Result.andThen_ok,binOp];simp [Op.intCmp]) (.bool _)
    ·cases h
   case shl=>
    split at h
    ·cases h
    ·rename_i hn;cases h;refine .of hI (x:= .int k (k.wrap (n*2^(min n'.toNat k.bits)))) ?_ (.int (wrap_wrap _ _));simp only [Sem.run_bind,hg,Result.andThen_ok,binOp,Op.shift,if_neg hn];simp
   case shr=>
    split at h
    ·cases h
    ·rename_i hn;cases h;refine .of hI (x:= .int k (k.wrap (n.fdiv (2^(min n'.toNat k.bits))))) ?_ (.int (wrap_wrap _ _));simp only [Sem.run_bind,hg,Result.andThen_ok,binOp,Op.shift,if_neg hn];simp [aNQ hk]
  |_=>simp [aDz] at h
 |str sa hsa=>
  cases hb with
  |str sb hsb=>
   have hg:(eqGuard op t x y (.string sa) (.string sb)).run P w= .ok () w:=by unfold eqGuard;split<;>simp
   have hrun: ∀v',(Op.stringOp op sa sb).run P w= .ok v' w→((do eqGuard op t x y (.string sa) (.string sb);binOp op t (.string sa) (.string sb)):Sem Value).run P w= .ok v' w:=by
    intro v' hv;simp only [Sem.run_bind,hg,Result.andThen_ok];cases op<;>exact hv
   have hE:(sa.toList==sb.toList)=(sa.data.toList==sb.data.toList):=aPb sa sb;have hL:Op.bytesLess sa.toList sb.toList=Op.bytesLess sa.data.toList sb.data.toList:=by rw [ByteArray.toList_eq,ByteArray.toList_eq]
   simp only [aDz] at h;cases op<;>simp only [aON] at h<;>first
    |(cases h;done)
    |(cases h;exact .of hI (hrun (.bool _) (by simp [Op.stringOp,hE,hL];rfl)) (.bool _))
    |(cases h;exact .of hI (hrun (.bool _) (by simp only [Op.stringOp,hE,hL];rfl)) (.bool _))
    |skip
   split at h
   ·rename_i hlen;cases h;have hlen':sa.size+sb.size≤big:=by simpa using hlen
    have e:(sa++sb).data.toList=sa.data.toList++sb.data.toList:=by simp
    refine .of hI (hrun (.string (sa++sb)) ?_) ?_
    ·have hn: ¬(((sa.size+sb.size:Nat):Int)>IntKind.i64.max):=by
      have:IntKind.i64.max=9223372036854775807:=by decide
      rw [this];simp only [big] at hlen';omega
     simp only [Op.stringOp];rw [if_neg hn];rfl
    ·rw [←e];exact .str _ (by rw [ByteArray.size_append];simp only [big,maxLen] at*;omega)
   ·cases h
  |_=>simp [aDz] at h
 |_=>simp [aDz] at h
end
section
variable {P : Program} {B : Bs} {G : Gh} {s : ASt} {w : World}
theorem bytes_beq(p q:ByteArray):(p==q)=(p.data.toList==q.data.toList):=by
 cases p with|mk p=>cases q with|mk q=>
 show(p==q)=(p.toList==q.toList)
 rw [Bool.eq_iff_iff];simp
theorem aIv{a b:AV}{xa xb:Value}{r:Bool}(h:tI a b=some r)(ha:R G (.v a xa))(hb:R G (.v b xb)):
  (∃k n m,xa= .int k n∧xb= .int k m∧r=(n==m))∨(∃p q,xa= .bool p∧xb= .bool q∧r=(p==q))∨(∃p q:ByteArray,xa= .string p∧xb= .string q∧r=(p.data.toList==q.data.toList)):=by
 cases ha with
 |int hk=>
  cases hb with
  |int hk'=>
   simp only [tI] at h;split at h
   ·rename_i e;subst e;cases h;exact .inl ⟨_,_,_,rfl,rfl,rfl⟩
   ·cases h
  |_=>simp [tI] at h
 |bool p=>
  cases hb with
  |bool q=>simp only [tI] at h;cases h;exact .inr (.inl ⟨_,_,rfl,rfl,rfl⟩)
  |_=>simp [tI] at h
 |str p hp=>
  cases hb with
  |str q hq=>simp only [tI] at h;cases h;exact .inr (.inr ⟨_,_,rfl,rfl,rfl⟩)
  |_=>simp [tI] at h
 |_=>simp [tI] at h
theorem aEf(t:TypeId)(x y:Value):Op.equal t x y=Op.equalIn (9999+1) t x y:=rfl
theorem aPg{t:TypeId}{j:IntKind}(hu:P.underlying t=some (.int j))(d:Nat)(k:IntKind)(n m:Int):(Op.equalIn (d+1) t (.int k n) (.int k m)).run P w= .ok (n==m) w:=by
 simp only [Op.equalIn,Sem.run_bind,run_underlying hu,Result.andThen_ok,if_true];rfl
theorem aGb{t:TypeId}(hu:P.underlying t=some .bool)(d:Nat)(n m:Bool):(Op.equalIn (d+1) t (.bool n) (.bool m)).run P w= .ok (n==m) w:=by
 simp only [Op.equalIn,Sem.run_bind,run_underlying hu,Result.andThen_ok];rfl
theorem aPi{t:TypeId}(hu:P.underlying t=some .string)(d:Nat)(n m:ByteArray):(Op.equalIn (d+1) t (.string n) (.string m)).run P w= .ok (n.data.toList==m.data.toList) w:=by
 simp only [Op.equalIn,Sem.run_bind,run_underlying hu,Result.andThen_ok,bytes_beq];rfl
def v5(k:NK)(u:TypeDesc):Prop:=
 match k with| .ptr=> ∃e,u= .pointer e| .slice=> ∃e,u= .slice e| .map=> ∃e f,u= .map e f| .func=> ∃e f g,u= .func e f g| .iface=> ∃e,u= .interface e
def aL3(k:NK)(c:Value):Prop:=
 match k with| .ptr=>c= .pointer none| .slice=> ∃l d,c= .slice none l d| .map=>c= .map none| .func=>c= .nilFunc| .iface=>c= .nilIface
theorem aJt{t:TypeId}{u:TypeDesc}(hu:P.underlying t=some u){k:NK}{a:AV}{x n:Value}{b:Bool}(r:R G (.v a x))(h:aFI k a=some b)
(d:Nat)(hk:v5 k u∧aL3 k n):
  (Op.equalIn (d+1) t x n).run P w= .ok b w∧(Op.equalIn (d+1) t n x).run P w= .ok b w:=by
 cases k with
 |ptr=>
  obtain⟨⟨e,rfl⟩,rfl⟩:=hk;cases r<;>simp only [aFI] at h<;>cases h<;>(constructor<;>(simp only [Op.equalIn,Sem.run_bind,run_underlying hu,Result.andThen_ok];rfl))
 |slice=>
  obtain⟨⟨e,rfl⟩,l,c,rfl⟩:=hk;cases r with
  |dQ hc hm hr ho=>
   rename_i sz xs o b' off cc;cases xs with
   |nil=>simp [aFI] at h
   |cons y ys=>simp only [aFI] at h;cases h;constructor<;>(simp only [Op.equalIn,Sem.run_bind,run_underlying hu,Result.andThen_ok];rfl)
  |_=>simp [aFI] at h
 |map=>
  obtain⟨⟨e,f,rfl⟩,rfl⟩:=hk;cases r<;>simp only [aFI] at h<;>cases h<;>(constructor<;>(simp only [Op.equalIn,Sem.run_bind,run_underlying hu,Result.andThen_ok];rfl))
 |func=>
  obtain⟨⟨e,f,g,rfl⟩,rfl⟩:=hk;cases r<;>simp only [aFI] at h<;>cases h<;>(constructor<;>(simp only [Op.equalIn,Sem.run_bind,run_underlying hu,Result.andThen_ok];rfl))
 |iface=>
  obtain⟨⟨e,rfl⟩,rfl⟩:=hk;cases r<;>simp only [aFI] at h<;>cases h<;>(constructor<;>(simp only [Op.equalIn,Sem.run_bind,run_underlying hu,Result.andThen_ok];rfl))
def aFq:Value→Value→Bool
 | .int ..,.int .. | .string _,.string _| .float ..,.float .. | .complex ..,.complex .. =>false
 |_,_=>true
theorem binOp_eql{t:TypeId}{x y:Value}(h:aFq x y=true):binOp .eql t x y=(do pure (.bool (←Op.equal t x y)))∧binOp .neq t x y=(do pure (.bool (!(←Op.equal t x y)))):=by
 cases x<;>cases y<;>first|(simp [aFq] at h;done)|exact⟨rfl,rfl⟩
variable {P' : bA} {env : Env} {ρ : Operand → Value}
theorem aWy(hI:Inv P B G s w){op:UnOp}{a v:AV}{x:Value}(r:R G (.v a x))
(h:(match(generalizing:=false) op with
   | .not=>(match(generalizing:=false) a with| .bool b=>some (AV.bool (!b))|_=>none)
   | .neg=>(match(generalizing:=false) a with| .int k n=>some (.int k (k.wrap (0-n)))|_=>none)
   | .xor=>(match(generalizing:=false) a with| .int k n=>some (.int k (k.wrap (BitVec.ofInt k.bits (if k.signed then-1 else k.max)^^^BitVec.ofInt k.bits n).toNat))|_=>none)
   |_=>none)=some v):nC P G w (Op.unary op x) v:=by
 cases op with
 |not=>cases r<;>simp at h;subst h;exact .of hI (x:= .bool _) (by simp [Op.unary]) (.bool _)
 |neg=>cases r<;>simp at h;subst h;exact .of hI (x:= .int _ _) (by simp [Op.unary,Op.intArith]) (.int (wrap_wrap _ _))
 |xor=>cases r<;>simp at h;subst h;exact .of hI (x:= .int _ _) (by simp [Op.unary,Op.intBits]) (.int (wrap_wrap _ _))
 |plus=>simp at h
theorem aRO(hI:Inv P B G s w){k:IntKind}{a v:AV}{x:Value}(r:R G (.v a x)){S T:TypeId}{kS:IntKind}(hs:P.underlying S=some (.int kS))(ht:P.underlying T=some (.int k))
(h:(match(generalizing:=false) a with| .int k' n=>some (AV.int k (if k=k' then n else k.wrap n))|_=>none)=some v):nC P G w (convert S T x) v:=by
 cases r<;>simp at h;rename_i k' n hk;subst h;refine .of hI (x:= .int k (k.wrap n)) (by simp [convert,run_underlying hs,run_underlying ht,Conv.intToInt]) ?_;by_cases e:k=k'
 ·subst e;rw [if_pos rfl,hk];exact .int hk
 ·rw [if_neg e];exact .int (wrap_wrap _ _)
theorem aNR(hI:Inv P B G s w){t:TypeId}{u:TypeDesc}(hu:P.underlying t=some u)(hn: ∀m,u≠ .interface m){a v:AV}{x:Value}(r:R G (.v a x))
(h:(match(generalizing:=false) iK a with|some v=>some (AV.iface t v)|none=>none)=some v):nC P G w (Instr.makeInterface t x) v:=by
 split at h
 ·rename_i a' ha;cases h;refine .of hI (x:= .iface t x) ?_ (.iface (qX ha r).1);simp only [Instr.makeInterface,Sem.run_bind,run_underlying hu,Result.andThen_ok]
  first|rfl|(split;exact absurd rfl (hn _);rfl)
 ·cases h
theorem aQJ(hI:Inv P B G s w){f:Nat}{a b:List AV}{xa xb:List Value}(ra:R G (.l a xa))(rb:R G (.l b xb)){v:AV}
(h:(match(generalizing:=false) eD a,eD b with|some a,some b=>some (AV.func f a b)|_,_=>none)=some v):nC P G w (Instr.makeFunc (.func f) xa.toArray xb.toArray) v:=by
 split at h
 ·rename_i a' b' h1 h2;cases h;exact .of hI (x:= .func (.func f) xa.toArray xb.toArray) (by simp [Instr.makeFunc]) (.func (tR h1 ra) (tR h2 rb))
 ·cases h
theorem v8{a:AV}{x:Value}{n:Nat}(h:jD a=some n)(r:R G (.v a x)): ∃k,x= .int k (n:Int):=by
 cases r<;>simp [jD] at h;obtain⟨h0,rfl⟩:=h;exact⟨_,by rw [Int.toNat_of_nonneg h0]⟩
theorem aAV(hO:Opn P' env G ρ){x:Option Operand}{y:Option aQ}(h:sB x=some y){d n:Nat}(hn:cS P' env d y=some n):
  (x=none∧y=none∧n=d)∨(∃z z' k,x=some z∧y=some z'∧ρ z= .int k (n:Int)):=by
 cases x with
 |none=>simp [sB] at h;subst h;simp [cS] at hn;exact .inl ⟨rfl,rfl,hn.symm⟩
 |some z=>
  simp only [sB,Option.map_eq_some_iff] at h;obtain⟨z',h1,rfl⟩:=h;simp only [cS] at hn;obtain⟨k,hk⟩:=v8 hn (hO.out _ _ h1);exact .inr ⟨z,z',k,rfl,rfl,hk⟩
theorem gR{k:IntKind}{n y:Nat}(h:n≤y)(c:BoundsCode):(Instr.sliceBound (.int k (n:Int)) y c).run P w= .ok n w:=by
 have:(0:Int)≤(n:Int)∧(n:Int)≤(y:Int):=⟨by omega,by omega⟩
 simp [Instr.sliceBound,asIntOf,this]
theorem aP4(hI:Inv P B G s w)(hO:Opn P' env G ρ){t:TypeId}(hu:P.underlying t=some .string){a v:AV}{x:Value}(r:R G (.v a x)){lo hi:Option Operand}{lo' hi':Option aQ}(hl:sB lo=some lo')(hh:sB hi=some hi')
(h:(match(generalizing:=false) a with
   | .str s=>
    (match cS P' env s.length hi',cS P' env 0 lo' with
    |some h,some l=>if l≤h&&h≤s.length then some (AV.str ((s.take h).drop l)) else none
    |_,_=>none)
   |_=>none)=some v):nC P G w (Instr.sliceAt t x (lo.map ρ) (hi.map ρ) none) v:=by
 cases r<;>simp only [reduceCtorEq] at h;rename_i st hst;split at h
 ·rename_i n l h1 h2;split at h
  ·rename_i hc;cases h;simp at hc;obtain⟨hc1,hc2⟩:=hc;have hc2':n≤st.size:=by simpa using hc2
   refine .of hI (x:= .string (st.extract l n)) ?_ ?_
   ·have e1:(match hi.map ρ with|some v=>Instr.sliceBound v st.size .sliceAlen|none=>(pure st.size:Sem Nat)).run P w= .ok n w:=by
     rcases aAV hO hh h1 with ⟨rfl,_,e⟩|⟨z,z',k,rfl,_,e⟩
     ·simp at e;simp [e]
     ·simp only [Option.map_some,e];exact gR hc2' _
    have e2:(match lo.map ρ with|some v=>Instr.sliceBound v n .sliceB|none=>(pure 0:Sem Nat)).run P w= .ok l w:=by
     rcases aAV hO hl h2 with ⟨rfl,_,e⟩|⟨z,z',k,rfl,_,e⟩
     ·simp [e]
     ·simp only [Option.map_some,e];exact gR hc1 _
    have e3:(Instr.sliceBounds false st.size st.size (lo.map ρ) (hi.map ρ) none).run P w= .ok (l,n,st.size) w:=by
     unfold Instr.sliceBounds;cases hi<;>cases lo<;>simp_all
    simp [Instr.sliceAt,Instr.slice,run_underlying hu,e3]
   ·have:(st.data.toList.take n).drop l=(st.extract l n).data.toList:=by
     simp [ByteArray.data_extract,List.take_drop,Array.toList_extract]
     try rw [Nat.add_sub_cancel' hc1]
    rw [this];exact .str _ (by rw [ByteArray.size_extract];omega)
  ·cases h
 ·cases h
end
section
variable {P : Program} {B : Bs} {G : Gh} {s : ASt} {w : World} {P' : bA} {env : Env} {ρ : Operand → Value}
theorem fI(b o n:Nat):(⟨b,o,none⟩:Addr).add n=⟨b,o+n,none⟩:=by unfold Addr.add;split<;>simp_all
theorem aUb(hI:Inv P B G s w)(hO:Opn P' env G ρ){t e:TypeId}(hu:P.underlying t=some (.slice e)){esz:Nat}(hes:P.cellsOf e=esz)(he: ∃d,P.underlying e=some d){a v:AV}{x:Value}(r:R G (.v a x)){lo hi mx:Option Operand}{lo' hi' mx':Option aQ}
(h:(match(generalizing:=false) a with
  | .slice sz xs o=>
   (match cS P' env xs.length mx',cS P' env xs.length hi',cS P' env 0 lo' with
   |some m,some h,some l=>
    if l≤h&&h≤m&&m≤xs.length&&(sz=esz||xs.isEmpty)&&(mx'.isNone||hi'.isSome) then
     some (match lo',hi',mx' with
      |none,none,none=> .slice sz xs o
      |_,_,some _=> .slice (szC sz ((xs.take h).drop l)) ((xs.take h).drop l) (if h=m then .full else .no)
      |_,_,_=> .slice (szC sz ((xs.take h).drop l)) ((xs.take h).drop l) .no)
    else none
   |_,_,_=>none)
  | .cQ l0 off len cap sz=>
   (match mx',cS P' env len hi',cS P' env 0 lo' with
   |none,some h,some l=>if l≤h&&h≤len&&sz=esz&&(l=0||l<cap) then some (AV.cQ l0 (off+l*sz) (h-l) (cap-l) sz) else none
   |_,_,_=>none)
  |_=>none)=some v)(hl:sB lo=some lo')(hh:sB hi=some hi')(hm:sB mx=some mx'):nC P G w (Instr.sliceAt t x (lo.map ρ) (hi.map ρ) (mx.map ρ)) v:=by
 obtain⟨ed,he⟩:=he;have key: ∀(A:Option Addr)(len cap l h m:Nat),l≤h→h≤m→m≤cap→
   ((mx=none∧m=cap)∨ ∃z k,mx=some z∧ρ z= .int k (m:Int))→((hi=none∧mx=none∧h=len)∨ ∃z k,hi=some z∧ρ z= .int k (h:Int))→((lo=none∧l=0)∨ ∃z k,lo=some z∧ρ z= .int k (l:Int))→
   (Instr.sliceAt t (.slice A len cap) (lo.map ρ) (hi.map ρ) (mx.map ρ)).run P w= .ok (.slice (if m=l then A else A.map (·.add (l*esz))) (h-l) (m-l)) w:=by
  intro A len cap l h m h1 h2 h3 hm hh hl;have e:(Instr.sliceBounds true len cap (lo.map ρ) (hi.map ρ) (mx.map ρ)).run P w= .ok (l,h,m) w:=by
   unfold Instr.sliceBounds;rcases hm with ⟨rfl,rfl⟩|⟨zm,km,rfl,em⟩
   ·rcases hh with ⟨rfl,_,rfl⟩|⟨zh,kh,rfl,eh⟩
    ·rcases hl with ⟨rfl,rfl⟩|⟨zl,kl,rfl,el⟩
     ·simp
     ·simp [el,gR h1]
    ·rcases hl with ⟨rfl,rfl⟩|⟨zl,kl,rfl,el⟩
     ·simp [eh,gR h2]
     ·simp [el,eh,gR h1,gR h2]
   ·rcases hh with ⟨_,hx,_⟩|⟨zh,kh,rfl,eh⟩
    ·cases hx
    ·rcases hl with ⟨rfl,rfl⟩|⟨zl,kl,rfl,el⟩
     ·simp [eh,em,gR h2,gR h3]
     ·simp [el,eh,em,gR h1,gR h2,gR h3]
  simp [Instr.sliceAt,Instr.slice,run_underlying hu,e,lQ he,hes]
 have om: ∀{d m},cS P' env d mx'=some m→(mx=none∧mx'=none∧m=d)∨ ∃z z' k,mx=some z∧mx'=some z'∧ρ z= .int k (m:Int):=fun h=>aAV hO hm h;have oh: ∀{d m},cS P' env d hi'=some m→(hi=none∧hi'=none∧m=d)∨ ∃z z' k,hi=some z∧hi'=some z'∧ρ z= .int k (m:Int):=fun h=>aAV hO hh h;have ol: ∀{d m},cS P' env d lo'=some m→(lo=none∧lo'=none∧m=d)∨ ∃z z' k,lo=some z∧lo'=some z'∧ρ z= .int k (m:Int):=fun h=>aAV hO hl h;have core0: ∀(sz:Nat)(xs:List AV)(o:Own)(A:Option Addr)(c:Nat),R G (.v (.slice sz xs o) (.slice A xs.length c))→xs.length≤c→c≤maxLen→
   (∀l hx m,l≤hx→hx≤m→m≤c→hx≤xs.length→(sz=esz∨xs= [])→ ∀o',(o'= .no∨(o'= .full∧hx=m))→R G (.v (.slice sz ((xs.take hx).drop l) o') (.slice (if m=l then A else A.map (·.add (l*esz))) (hx-l) (m-l)))):=by
  clear h om oh ol key;intro sz xs o A c r hc hcm l hx m h1 h2 h3 h4 hs o' ho';have hlen:((xs.take hx).drop l).length=hx-l:=by simp;omega
  have hown: ∀A',qD G o' A' sz (hx-l) (m-l):=by
   intro A';rcases ho' with rfl|⟨rfl,rfl⟩
   ·trivial
   ·rfl
  by_cases hz:hx-l=0
  ·have he:(xs.take hx).drop l= []:=List.eq_nil_of_length_eq_zero (by omega);rw [he,hz];exact .cZ (by omega) (by have:=hown (if m=l then A else A.map (·.add (l*esz)));rwa [hz] at this)
  ·have hml:m≠l:=by omega
   rw [if_neg hml];cases r with
   |cZ=>simp at h4;omega
   |dQ _ _ hr _=>
    rename_i b off;have hse:sz=esz:=by
     rcases hs with h|h
     ·exact h
     ·subst h;simp at h4;omega
    subst hse;simp only [Option.map_some,fI];have:=(hr.aUy hx).aT5 l (by simp;omega);have e2:hx-l=((xs.take hx).drop l).length:=hlen.symm;rw [e2];exact .dQ (by rw [hlen];omega) (by omega) this (by rw [hlen];exact hown _)
 have core: ∀(sz:Nat)(xs:List AV)(o:Own)(A:Option Addr)(c:Nat),R G (.v (.slice sz xs o) (.slice A xs.length c))→xs.length≤c→c≤maxLen→
   (∀l hx m,l≤hx→hx≤m→m≤c→hx≤xs.length→(sz=esz∨xs= [])→ ∀o',(o'= .no∨(o'= .full∧hx=m))→R G (.v (.slice (szC sz ((xs.take hx).drop l)) ((xs.take hx).drop l) o') (.slice (if m=l then A else A.map (·.add (l*esz))) (hx-l) (m-l)))):=by
  clear h om oh ol key;intro sz xs o A c r hc hcm l hx m h1 h2 h3 h4 hs o' ho';have k:=core0 sz xs o A c r hc hcm l hx m h1 h2 h3 h4 hs o' ho';cases hq:(xs.take hx).drop l with
  |cons y ys=>rw [hq] at k;exact k
  |nil=>
   rw [hq] at k;generalize hn:hx-l=n at k⊢;generalize hA:(if m=l then A else A.map (·.add (l*esz)))=A' at k⊢;generalize m-l=c' at k⊢;cases k with
   |cZ hm ho=>
    refine .cZ hm ?_;rcases ho' with rfl|⟨rfl,_⟩
    ·trivial
    ·exact ho
   |dQ hc hm hr ho=>
    refine .cZ hm ?_;rcases ho' with rfl|⟨rfl,_⟩
    ·trivial
    ·exact ho
 cases r with
 |ms hL hc hcm=>
  rename_i l0 off len cap sz b;simp only at h;split at h
  ·rename_i hh' ll e2 e3;split at h
   ·rename_i hcond;cases h;simp at hcond;obtain⟨⟨⟨c1,c2⟩,c3⟩,c4⟩:=hcond;have hmx:mx=none:=by cases mx with|none=>rfl|some z=>simp only [sB,Option.map_eq_some_iff] at hm;obtain⟨_,_,hq⟩:=hm;cases hq
    subst hmx;refine .of hI (key _ len cap ll hh' cap c1 (by omega) (Nat.le_refl _) (.inl ⟨rfl,rfl⟩) ?_ ?_) ?_
    ·rcases oh e2 with ⟨h1,_,h2⟩|⟨z,_,k,h1,_,h2⟩
     ·exact .inl ⟨h1,rfl,h2⟩
     ·exact .inr ⟨z,k,h1,h2⟩
    ·rcases ol e3 with ⟨h1,_,h2⟩|⟨z,_,k,h1,_,h2⟩
     ·exact .inl ⟨h1,h2⟩
     ·exact .inr ⟨z,k,h1,h2⟩
    ·subst c3;by_cases hcl:cap=ll
     ·have hl0:ll=0:=by omega
      subst hl0;rw [if_pos hcl];simpa using R.ms (off:=off) (sz:=sz) hL (len:=hh'-0) (cap:=cap-0) (by omega) (by omega)
     ·rw [if_neg hcl];simp only [Option.map_some,fI];exact .ms hL (by omega) (by omega)
   ·cases h
  ·cases h
 |cZ hcm ho=>
  rename_i sz o A c;have rr:R G (.v (.slice sz [] o) (.slice A ([]:List AV).length c)):= .cZ hcm ho;simp only at h;split at h
  ·rename_i m hh' ll e1 e2 e3;split at h
   ·rename_i hcond;simp at hcond;obtain⟨⟨⟨c1,c2⟩,c3⟩,c5⟩:=hcond;subst c3;have hh0:hh'=0:=by omega
    have hl0:ll=0:=by omega
    subst hh0;subst hl0;rcases om e1 with ⟨m1,m2,_⟩|⟨zm,zm',km,m1,m2,m3⟩
    ·subst m1;subst m2;have hrun:=key A 0 c 0 0 c (Nat.le_refl _) (Nat.zero_le _) (Nat.le_refl _) (.inl ⟨rfl,rfl⟩) (by rcases oh e2 with ⟨h1,_,h2⟩|⟨z,_,k,h1,_,h2⟩;exact .inl ⟨h1,rfl,rfl⟩;exact .inr ⟨z,k,h1,h2⟩) (by rcases ol e3 with ⟨h1,_,h2⟩|⟨z,_,k,h1,_,h2⟩;exact .inl ⟨h1,rfl⟩;exact .inr ⟨z,k,h1,h2⟩);refine .of hI hrun ?_;have hA:(if c=0 then A else A.map (·.add (0*esz)))=A:=by
      split
      ·rfl
      ·cases A<;>simp [Addr.add]
     rw [hA];cases h;split
     ·exact .cZ hcm ho
     ·contradiction
     ·exact .cZ (by omega) trivial
    ·subst m1;subst m2;have hrun:=key A 0 c 0 0 0 (Nat.le_refl _) (Nat.le_refl _) (Nat.zero_le _) (.inr ⟨zm,km,rfl,m3⟩) (by rcases oh e2 with ⟨h1,hq,h2⟩|⟨z,_,k,h1,_,h2⟩;exact absurd c5 (by rw [hq];simp);exact .inr ⟨z,k,h1,h2⟩) (by rcases ol e3 with ⟨h1,_,h2⟩|⟨z,_,k,h1,_,h2⟩;exact .inl ⟨h1,rfl⟩;exact .inr ⟨z,k,h1,h2⟩);refine .of hI hrun ?_;cases h;simpa using core sz [] o A c rr (Nat.zero_le _) hcm 0 0 0 (Nat.le_refl _) (Nat.le_refl _) (Nat.zero_le _) (Nat.le_refl _) (.inr rfl) .full (.inr ⟨rfl,rfl⟩)
   ·cases h
  ·cases h
 |dQ hc hcm hr ho=>
  rename_i sz xs o b off c;have rr:R G (.v (.slice sz xs o) (.slice (some ⟨b,off,none⟩) xs.length c)):= .dQ hc hcm hr ho;simp only at h;split at h
  ·rename_i m hh' ll e1 e2 e3;split at h
   ·rename_i hcond;simp at hcond;obtain⟨⟨⟨⟨c1,c2⟩,c3⟩,c4⟩,c5⟩:=hcond;rcases om e1 with ⟨m1,m2,m3⟩|⟨zm,zm',km,m1,m2,m3⟩
    ·subst m1;subst m2;have hrun:=key (some ⟨b,off,none⟩) xs.length c ll hh' c c1 (by omega) (Nat.le_refl _) (.inl ⟨rfl,rfl⟩) (by rcases oh e2 with ⟨h1,_,h2⟩|⟨z,_,k,h1,_,h2⟩;exact .inl ⟨h1,rfl,h2⟩;exact .inr ⟨z,k,h1,h2⟩) (by rcases ol e3 with ⟨h1,_,h2⟩|⟨z,_,k,h1,_,h2⟩;exact .inl ⟨h1,h2⟩;exact .inr ⟨z,k,h1,h2⟩);refine .of hI hrun ?_;cases h;split
     ·rename_i g1 g2;rcases oh e2 with ⟨_,_,h2⟩|⟨_,_,_,_,hq,_⟩
      ·rcases ol e3 with ⟨_,_,h4⟩|⟨_,_,_,_,hq,_⟩
       ·subst h2;subst h4;have hA:(if c=0 then some (⟨b,off,none⟩:Addr) else(some (⟨b,off,none⟩:Addr)).map (·.add (0*esz)))=some ⟨b,off,none⟩:=by
         split
         ·rfl
         ·simp [Addr.add]
        rw [hA];simpa using rr
       ·cases hq
      ·cases hq
     ·contradiction
     ·exact core sz xs o _ c rr hc hcm ll hh' c c1 (by omega) (Nat.le_refl _) (by omega) c4 .no (.inl rfl)
    ·subst m1;subst m2;have hrun:=key (some ⟨b,off,none⟩) xs.length c ll hh' m c1 c2 (by omega) (.inr ⟨zm,km,rfl,m3⟩) (by rcases oh e2 with ⟨h1,hq,h2⟩|⟨z,_,k,h1,_,h2⟩;exact absurd c5 (by rw [hq];simp);exact .inr ⟨z,k,h1,h2⟩) (by rcases ol e3 with ⟨h1,_,h2⟩|⟨z,_,k,h1,_,h2⟩;exact .inl ⟨h1,h2⟩;exact .inr ⟨z,k,h1,h2⟩);refine .of hI hrun ?_;have hfin:R G (.v (.slice (szC sz ((xs.take hh').drop ll)) ((xs.take hh').drop ll) (if hh'=m then .full else .no)) (.slice (if m=ll then some ⟨b,off,none⟩ else(some (⟨b,off,none⟩:Addr)).map (·.add (ll*esz))) (hh'-ll) (m-ll))):=by
      refine core sz xs o _ c rr hc hcm ll hh' m c1 c2 (by omega) (by omega) c4 _ ?_;by_cases hm':hh'=m
      ·rw [if_pos hm'];exact .inr ⟨rfl,hm'⟩
      ·rw [if_neg hm'];exact .inl rfl
     have e9:v= .slice (szC sz ((xs.take hh').drop ll)) ((xs.take hh').drop ll) (if hh'=m then .full else .no):=by
      cases lo'<;>cases hi'<;>simp at h<;>exact h.symm
     rw [e9];exact hfin
   ·cases h
  ·cases h
 |_=>simp at h
end
section
variable {P : Program} {B : Bs} {G : Gh} {s : ASt} {w : World} {P' : bA} {env : Env} {ρ : Operand → Value}
theorem aBb{a:AV}{x:Value}(r:R G (.v a x))(h:x.oneCell'=true):tG a=false:=by
 cases r<;>first|rfl|(simp [Value.oneCell'] at h)
theorem aPP{sz b:Nat}: ∀{n o:Nat}{cs:List AV}{vs:List Value},R G (.k cs vs)→n*sz≤cs.length→(∀j x,vs[j]?=some x→G.M b (o+j)=some x)→R G (.r sz (chunks sz n cs) b o):=by
 intro n
 induction n with
 |zero=>intro o cs vs _ _ _;exact .aAj _ _ _
 |succ n ih=>
  intro o cs vs r hl hM;have hl':sz≤cs.length:=by rw [Nat.add_mul] at hl;omega
  have hvl:cs.length=vs.length:=r.kW;have hrest:R G (.r sz (chunks sz n (cs.drop sz)) b (o+sz)):=ih (r.aBj sz) (by rw [List.length_drop];rw [Nat.add_mul] at hl;omega) (fun j x hx=>by
   rw [List.getElem?_drop] at hx;have:=hM (sz+j) x hx;rw [←Nat.add_assoc] at this;exact this)
  have hvs:(vs.take sz).length=sz:=by rw [List.length_take];omega
  have hMt: ∀j y,(vs.take sz)[j]?=some y→G.M b (o+j)=some y:=fun j y hy=>by
   rw [List.getElem?_take] at hy;split at hy
   ·exact hM j y hy
   ·cases hy
  unfold chunks;split
  ·cases r with
   |iI=>simp at hl'
   |cY h1 h2 t=>
    exact .n6 (.yC (aBb h1 h2) h2 h1) rfl (by simpa using hMt) hrest
  ·exact .n6 (.wI (r.aEY sz)) hvs hMt hrest
theorem aUE(hI:Inv P B G s w)(hO:Opn P' env G ρ){t e:TypeId}{n:Nat}(hu:P.underlying t=some (.array n e)){esz:Nat}(hes:P.cellsOf e=esz)(he: ∃d,P.underlying e=some d)(hn:n≤big){a v:AV}{x:Value}{lo hi:Option Operand}{lo' hi':Option aQ}
(h:(match(generalizing:=false) a,cS P' env n hi',cS P' env 0 lo' with
  | .aG v off,some h,some l=>
   if l≤h&&h≤n&&off+n*esz≤(cellsOf v).length then some (AV.slice esz (chunks esz (h-l) ((cellsOf v).drop (off+l*esz))) .no) else none
  | .ptr b off,some h,some l=>if l≤h&&h≤n&&(l=0||l<n) then some (.cQ b (off+l*esz) (h-l) (n-l) esz) else none
  |_,_,_=>none)=some v)(r:R G (.v a x))(hl:sB lo=some lo')(hh:sB hi=some hi'):nC P G w (Instr.sliceAt t x (lo.map ρ) (hi.map ρ) none) v:=by
 obtain⟨ed,he⟩:=he;have key: ∀(A:Addr)(l hx:Nat),l≤hx→hx≤n→((hi=none∧hx=n)∨ ∃z k,hi=some z∧ρ z= .int k (hx:Int))→((lo=none∧l=0)∨ ∃z k,lo=some z∧ρ z= .int k (l:Int))→
   (Instr.sliceAt t (.pointer (some A)) (lo.map ρ) (hi.map ρ) none).run P w= .ok (.slice (some (if n=l then A else A.add (l*esz))) (hx-l) (n-l)) w:=by
  intro A l hx h1 h2 hh hl;have e:(Instr.sliceBounds false n n (lo.map ρ) (hi.map ρ) none).run P w= .ok (l,hx,n) w:=by
   unfold Instr.sliceBounds;rcases hh with ⟨rfl,rfl⟩|⟨zh,kh,rfl,eh⟩
   ·rcases hl with ⟨rfl,rfl⟩|⟨zl,kl,rfl,el⟩
    ·simp
    ·simp [el,gR h1]
   ·rcases hl with ⟨rfl,rfl⟩|⟨zl,kl,rfl,el⟩
    ·simp [eh,gR h2]
    ·simp [el,eh,gR h1,gR h2]
  simp [Instr.sliceAt,Instr.sureAddr,run_underlying hu,e,lQ he,hes]
 have toH: ∀{m},cS P' env n hi'=some m→(hi=none∧m=n)∨ ∃z k,hi=some z∧ρ z= .int k (m:Int):=fun h=>by
  rcases aAV hO hh h with ⟨h1,_,h2⟩|⟨z,_,k,h1,_,h2⟩
  ·exact .inl ⟨h1,h2⟩
  ·exact .inr ⟨z,k,h1,h2⟩
 have toL: ∀{m},cS P' env 0 lo'=some m→(lo=none∧m=0)∨ ∃z k,lo=some z∧ρ z= .int k (m:Int):=fun h=>by
  rcases aAV hO hl h with ⟨h1,_,h2⟩|⟨z,_,k,h1,_,h2⟩
  ·exact .inl ⟨h1,h2⟩
  ·exact .inr ⟨z,k,h1,h2⟩
 have hbm:n≤maxLen:=by simp only [big,maxLen] at*;omega
 cases e1:cS P' env n hi' with
 |none=>rw [e1] at h;cases r<;>simp at h
 |some hx=>
 cases e2:cS P' env 0 lo' with
 |none=>rw [e1,e2] at h;cases r<;>simp at h
 |some l=>
 rw [e1,e2] at h;cases r with
 |aG off hc hM=>
  rename_i v0 vs b o;simp only at h;split at h
  ·rename_i hcond;cases h;simp at hcond;obtain⟨⟨c1,c2⟩,c3⟩:=hcond;refine .of hI (key _ l hx c1 c2 (toH e1) (toL e2)) ?_;by_cases hz:hx-l=0
   ·rw [hz];exact .cZ (by omega) trivial
   ·have hnl:n≠l:=by omega
    rw [if_neg hnl,fI];have hk:=hc.c_k;have hlen:(chunks esz (hx-l) ((cellsOf v0).drop (off+l*esz))).length=hx-l:=by
     generalize hx-l=m;generalize (cellsOf v0).drop (off+l*esz)=cs
     induction m generalizing cs with
     |zero=>rfl
     |succ m ih=>simp [chunks,ih]
    have hr:=aPP (b:=b) (o:=o+off+l*esz) (n:=hx-l) (sz:=esz) (hk.aBj (off+l*esz)) (by
     rw [List.length_drop];have:(hx-l)*esz+l*esz≤n*esz:=by rw [←Nat.add_mul];exact Nat.mul_le_mul_right _ (by omega)
     omega) (fun j y hy=>by
      rw [List.getElem?_drop] at hy;have:=hM _ y hy;rw [show o+off+l*esz+j=o+(off+l*esz+j) from by omega];exact this)
    have:=R.dQ (o:= .no) (c:=n-l) (by rw [hlen];omega) (by omega) hr trivial;rw [hlen] at this;exact this
  ·cases h
 |ptr off hL=>
  rename_i ℓ b;simp only at h;split at h
  ·rename_i hcond;cases h;simp at hcond;obtain⟨⟨c1,c2⟩,c3⟩:=hcond;refine .of hI (key _ l hx c1 c2 (toH e1) (toL e2)) ?_;by_cases hnl:n=l
   ·have hl0:l=0:=by omega
    subst hl0;rw [if_pos hnl];simpa using R.ms (off:=off) (sz:=esz) hL (len:=hx-0) (cap:=n-0) (by omega) (by omega)
   ·rw [if_neg hnl,fI];exact .ms hL (by omega) (by omega)
  ·cases h
 |_=>simp at h
theorem aPR(hI:Inv P B G s w){S:TypeId}{fs:Array Field}{f:Nat}{fd:Field}(hu:P.underlying S=some (.struct fs))(hf:fs[f]?=some fd)(hz:P.cellsOf fd.type≠0){a v:AV}{x:Value}(r:R G (.v a x))
(h:(match(generalizing:=false) a with| .ptr l o=>some (AV.ptr l (o+fd.offset))| .aG v o=>some (.aG v (o+fd.offset))|_=>none)=some v):nC P G w (Instr.fieldAt S x f) v:=by
 obtain⟨i,hi⟩: ∃i,P.info? fd.type=some i:=by
  cases h:P.info? fd.type with
  |none=>simp [Program.cellsOf,h] at hz
  |some i=>exact⟨i,rfl⟩
 have key: ∀A:Addr,(Instr.fieldAt S (.pointer (some A)) f).run P w= .ok (.pointer (some (A.add fd.offset))) w:=by
  intro A;simp [Instr.fieldAt,run_underlying hu,hf,Instr.sureAddr,fieldPlace,lH hi,hz]
 cases r<;>simp at h<;>subst h
 ·rename_i ℓ b o hL;refine .of hI (key _) ?_;rw [fI];exact .ptr _ hL
 ·rename_i v0 vs b o off hc hM;refine .of hI (key _) ?_;rw [fI,Nat.add_assoc];exact .aG _ hc hM
theorem aR9{t:TypeId}{ag:Bool}(hag:pC P t=some ag){cs:List AV}{vs:List Value}(r:R G (.k cs vs)){off:Nat}{v:AV}(h:partOf ag (P.cellsOf t) cs off=some v): ∃x,(part t vs.toArray off).run P w= .ok x w∧R G (.v v x):=by
 obtain⟨d,hd⟩:=wX hag;unfold partOf at h;cases ag with
 |true=>
  simp only at h;split at h
  ·rename_i hc;cases h;refine⟨.agg ((vs.drop off).take (P.cellsOf t)).toArray,?_,.agg ((r.aBj off).aEY _)⟩;simp only [part,Sem.run_bind,v9 hag,Result.andThen_ok,if_true,lQ hd];simp [List.extract_eq_take_drop]
  ·cases h
 |false=>
  simp only at h;obtain⟨x,h1,h2,_⟩:=r.aQx h;refine⟨x,?_,h2⟩;simp [part,v9 hag,h1]
theorem aRJ(hI:Inv P B G s w){S:TypeId}{fs:Array Field}{f:Nat}{fd:Field}(hu:P.underlying S=some (.struct fs))(hf:fs[f]?=some fd){ag:Bool}(hag:pC P fd.type=some ag){a v:AV}{x:Value}(r:R G (.v a x))
(h:(match(generalizing:=false) a with| .agg cs=>partOf ag (P.cellsOf fd.type) cs fd.offset|_=>none)=some v):nC P G w (Instr.field S x f) v:=by
 cases r<;>simp at h;rename_i cs vs hk;obtain⟨x,h1,h2⟩:=aR9 (w:=w) hag hk h;exact .of hI (x:=x) (by simp [Instr.field,run_underlying hu,hf,asAgg,h1]) h2
theorem aUg(hI:Inv P B G s w){t e:TypeId}(hu:P.underlying t=some (.slice e)){esz:Nat}(hes:P.cellsOf e=esz)(he: ∃d,P.underlying e=some d){a b v:AV}{x y:Value}(r:R G (.v a x))(r2:R G (.v b y))
(h:(match(generalizing:=false) a,jD b with
  | .slice sz xs _,some i=>if sz=esz then(match xs[i]? with|some x=>some (AV.aG x 0)|none=>none) else none
  | .cQ l off len _ sz,some i=>if sz=esz&&i<len then some (.ptr l (off+i*sz)) else none
  |_,_=>none)=some v):nC P G w (Instr.indexAt t x y) v:=by
 obtain⟨ed,he⟩:=he;have key: ∀(A:Addr)(len cap i:Nat)(k:IntKind),i<len→(Instr.indexAt t (.slice (some A) len cap) (.int k (i:Int))).run P w= .ok (.pointer (some (A.add (i*esz)))) w:=by
  intro A len cap i k hi;have hc:(0:Int)≤(i:Int)∧(i:Int)<(len:Int):=⟨by omega,by omega⟩
  simp [Instr.indexAt,asIntOf,run_underlying hu,lQ he,hes,hi]
 cases hi:jD b with
 |none=>rw [hi] at h;cases r<;>simp at h
 |some i=>
  rw [hi] at h;obtain⟨k,rfl⟩:=v8 hi r2;cases r with
  |cZ=>simp at h
  |dQ hc hm hr ho=>
   rename_i sz xs o bb off c;simp only at h;split at h
   ·rename_i hsz;subst hsz;split at h
    ·rename_i z hz;cases h;have hlt:i<xs.length:=(List.getElem?_eq_some_iff.1 hz).1;obtain⟨vs,h1,h2,h3⟩:=hr.aVw hz;refine .of hI (key _ _ _ _ _ hlt) ?_;rw [fI];have:=R.aG (b:=bb) (o:=off+i*sz) 0 h1 h3;simpa using this
    ·cases h
   ·cases h
  |ms hL hc hm=>
   simp only at h;split at h
   ·rename_i hcond;simp at hcond;obtain⟨rfl,hlt⟩:=hcond;cases h;refine .of hI (key _ _ _ _ _ hlt) ?_;rw [fI];exact .ptr _ hL
   ·cases h
  |_=>simp at h
theorem aTJ(hI:Inv P B G s w){t e:TypeId}{n:Nat}(hu:P.underlying t=some (.array n e)){esz:Nat}(hes:P.cellsOf e=esz)(he: ∃d,P.underlying e=some d){a b v:AV}{x y:Value}(r:R G (.v a x))(r2:R G (.v b y))
(h:(match(generalizing:=false) a,jD b with
  | .ptr l o,some i=>if i<n then some (AV.ptr l (o+i*esz)) else none
  | .aG v o,some i=>if i<n then some (.aG v (o+i*esz)) else none
  |_,_=>none)=some v):nC P G w (Instr.indexAt t x y) v:=by
 obtain⟨ed,he⟩:=he;have key: ∀(A:Addr)(i:Nat)(k:IntKind),i<n→(Instr.indexAt t (.pointer (some A)) (.int k (i:Int))).run P w= .ok (.pointer (some (A.add (i*esz)))) w:=by
  intro A i k hi;have hc:(0:Int)≤(i:Int)∧(i:Int)<(n:Int):=⟨by omega,by omega⟩
  simp [Instr.indexAt,asIntOf,Instr.sureAddr,run_underlying hu,lQ he,hes,hi]
 cases hi:jD b with
 |none=>rw [hi] at h;cases r<;>simp at h
 |some i=>
  rw [hi] at h;obtain⟨k,rfl⟩:=v8 hi r2;cases r with
  |ptr off hL=>
   simp only at h;split at h
   ·rename_i hlt;cases h;refine .of hI (key _ _ _ hlt) ?_;rw [fI];exact .ptr _ hL
   ·cases h
  |aG off hc hM=>
   simp only at h;split at h
   ·rename_i hlt;cases h;refine .of hI (key _ _ _ hlt) ?_;rw [fI,Nat.add_assoc];exact .aG _ hc hM
   ·cases h
  |_=>simp at h
theorem aQ0(hI:Inv P B G s w){t:TypeId}(hu:P.underlying t=some .string){a b v:AV}{x y:Value}(r:R G (.v a x))(r2:R G (.v b y))
(h:(match(generalizing:=false) a,jD b with
  | .str s,some i=>(match s[i]? with|some b=>some (AV.int .u8 b.toNat)|none=>none)
  |_,_=>none)=some v):nC P G w (Instr.index t x y) v:=by
 cases hi:jD b with
 |none=>rw [hi] at h;cases r<;>simp at h
 |some i=>
  rw [hi] at h;obtain⟨k,rfl⟩:=v8 hi r2;cases r with
  |str st hst=>
   simp only at h;split at h
   ·rename_i bt hb;cases h;have hb':st[i]?=some bt:=by
     obtain⟨h1,h2⟩:=List.getElem?_eq_some_iff.1 hb;have hlt:i<st.size:=by simpa using h1
     rw [getElem?_pos st i hlt];simp at h2;rw [←h2];rfl
    refine .of hI (x:= .int .u8 bt.toNat) ?_ (.int ?_)
    ·have h0:(0:Int)≤(i:Int):=by omega
     simp [Instr.index,asIntOf,run_underlying hu,hb']
    ·have e: ∀n,IntKind.u8.wrap n=n%256:=fun n=>by simp [IntKind.wrap,IntKind.bits,IntKind.signed]
     have:=bt.toNat_lt;rw [e];omega
   ·cases h
  |_=>simp at h
theorem aPd(hI:Inv P B G s w){t xt:TypeId}{u:TypeDesc}(hu:P.underlying t=some u)(hn: ∀m,u≠ .interface m){ok:Bool}{z a v:AV}{zv:Value}{i:TypeInfo}(hi:P.info? t=some i)(hz:i.zero=some zv)(rz:R G (.v z zv)){x:Value}(r:R G (.v a x))
(h:(match(generalizing:=false) a with
  | .iface t' v=>if t'=t then some (match ok with|true=>AV.tuple [v,.bool true]|false=>v) else(match ok with|true=>some (.tuple [z,.bool false])|false=>none)
  | .cI=>(match ok with|true=>some (.tuple [z,.bool false])|false=>none)
  |_=>none)=some v):nC P G w (Instr.typeAssert x xt t ok) v:=by
 have two: ∀{p q:AV}{xp xq:Value},R G (.v p xp)→R G (.v q xq)→R G (.v (.tuple [p,q]) (.tuple #[xp,xq])):=fun h1 h2=>by simpa using R.tuple (.gN h1 (.gN h2 .tF))
 cases r<;>simp only [reduceCtorEq] at h
 ·rename_i t' v0 x0 r0;split at h
  ·rename_i e;subst e;cases ok with
   |true=>
    cases h;refine .of hI (x:= .tuple #[x0,.bool true]) ?_ (two r0 (.bool _));cases u<;>first|(exact absurd rfl (hn _))|simp [Instr.typeAssert,run_underlying hu]
   |false=>
    cases h;refine .of hI (x:=x0) ?_ r0;cases u<;>first|(exact absurd rfl (hn _))|simp [Instr.typeAssert,run_underlying hu]
  ·rename_i e;cases ok with
   |true=>
    cases h;refine .of hI (x:= .tuple #[zv,.bool false]) ?_ (two rz (.bool _));cases u<;>first|(exact absurd rfl (hn _))|simp [Instr.typeAssert,run_underlying hu,e,eC hi hz]
   |false=>cases h
 ·cases ok with
  |true=>
   cases h;refine .of hI (x:= .tuple #[zv,.bool false]) ?_ (two rz (.bool _));cases u<;>first|(exact absurd rfl (hn _))|simp [Instr.typeAssert,run_underlying hu,eC hi hz]
  |false=>cases h
theorem aOi(hI:Inv P B G s w){i:Nat}{a v:AV}{x:Value}(r:R G (.v a x))(h:(match(generalizing:=false) a with| .tuple vs=>vs[i]?|_=>none)=some v):nC P G w (Instr.extract x i) v:=by
 cases r<;>simp only [reduceCtorEq] at h;rename_i cs vs hl;obtain⟨y,h1,h2⟩:=hl.aTa h;exact .of hI (x:=y) (by simp [Instr.extract,h1]) h2
theorem tX{n:Nat}(h:n≤maxLen):IntKind.i64.wrap (n:Int)=n:=by
 have e: ∀n,IntKind.i64.wrap n=if n%18446744073709551616≥9223372036854775808 then n%18446744073709551616-18446744073709551616 else n%18446744073709551616:=fun n=>by simp [IntKind.wrap,IntKind.bits,IntKind.signed]
 rw [e];simp only [maxLen] at h;rw [if_neg (by omega)];omega
theorem aTO(hI:Inv P B G s w){t e ty:TypeId}{ts:Array TypeId}(ht:ts[0]?=some t)(hu:P.underlying t=some (.slice e)){a v:AV}{x:Value}(r:R G (.v a x))
(h:(match(generalizing:=false) a with| .slice _ xs _=>some (AV.int .i64 xs.length)| .cQ _ _ len _ _=>some (.int .i64 len)|_=>none)=some v):nC P G w (Builtin.len_ ts ty #[x]) v:=by
 cases r<;>simp only [reduceCtorEq] at h<;>cases h
 ·rename_i hm ho;exact .of hI (x:= .int .i64 (0:Nat)) (by simp [Builtin.len_,ht,run_underlying hu,goInt]) (.int (by decide))
 ·rename_i hc hm hr ho;exact .of hI (x:= .int .i64 _) (by simp [Builtin.len_,ht,run_underlying hu,goInt]) (.int (tX (by omega)))
 ·rename_i hL hc hm;exact .of hI (x:= .int .i64 _) (by simp [Builtin.len_,ht,run_underlying hu,goInt]) (.int (tX (by omega)))
theorem aQe(hI:Inv P B G s w){t ty:TypeId}{ts:Array TypeId}(ht:ts[0]?=some t)(hu:P.underlying t=some .string){a v:AV}{x:Value}(r:R G (.v a x))
(h:(match(generalizing:=false) a with| .str s=>some (AV.int .i64 s.length)|_=>none)=some v):nC P G w (Builtin.len_ ts ty #[x]) v:=by
 cases r<;>simp only [reduceCtorEq] at h;cases h;rename_i st hst;have e:st.data.toList.length=st.size:=by simp
 rw [e];exact .of hI (x:= .int .i64 st.size) (by simp [Builtin.len_,ht,run_underlying hu,goInt]) (.int (tX hst))
theorem aTE(hI:Inv P B G s w){t e ty:TypeId}{n:Nat}{ts:Array TypeId}(ht:ts[0]?=some t)(hu:P.underlying t=some (.array n e))(hn:n≤big){x:Value}:nC P G w (Builtin.len_ ts ty #[x]) (.int .i64 n):=
 .of hI (x:= .int .i64 n) (by simp [Builtin.len_,ht,run_underlying hu,goInt]) (.int (tX (by simp only [big,maxLen] at*;omega)))
end
section
variable {P : Program} {B : Bs} {G : Gh} {s : ASt} {w : World} {P' : bA} {env : Env} {ρ : Operand → Value}
theorem aN8(vs:List Value): ∀(k:Nat)(cs:Array Value)(off:Nat),off+k+vs.length≤cs.size→
  ((vs.zipIdx k).foldl (fun cs (x:Value×Nat)=>cs.setIfInBounds (off+x.2) x.1) cs).toList=cs.toList.take (off+k)++vs++cs.toList.drop (off+k+vs.length):=by
 induction vs with
 |nil=>intro k cs off _;simp
 |cons v vs ih=>
  intro k cs off h;simp only [List.zipIdx_cons,List.foldl_cons];rw [ih (k+1) _ off (by simp at h⊢;omega)];simp only [Array.toList_setIfInBounds];have hlt:off+k<cs.toList.length:=by simp at h⊢;omega
  apply List.ext_getElem?;intro j;simp only [List.getElem?_append,List.length_append,List.length_take,List.length_set,List.length_cons,List.getElem?_take,List.getElem?_drop,List.getElem?_set];have hl:cs.toList.length=cs.size:=by simp
  simp only [List.length_cons] at h;by_cases h1:j<off+k
  ·have a1:j<min (off+(k+1)) cs.toList.length:=by omega
   have a2:j<min (off+k) cs.toList.length:=by omega
   have a3:j<min (off+(k+1)) cs.toList.length+vs.length:=by omega
   have a4:j<min (off+k) cs.toList.length+(vs.length+1):=by omega
   have a5: ¬off+k=j:=by omega
   have a6:j<off+(k+1):=by omega
   simp only [a1,a2,a3,a4,a5,a6,h1,if_true,if_false]
  ·by_cases h2:j=off+k
   ·subst h2;have a1:off+k<min (off+(k+1)) cs.toList.length:=by omega
    have a2: ¬off+k<min (off+k) cs.toList.length:=by omega
    have a3:off+k<min (off+(k+1)) cs.toList.length+vs.length:=by omega
    have a4:off+k<min (off+k) cs.toList.length+(vs.length+1):=by omega
    have a6:off+k<off+(k+1):=by omega
    have a7:off+k-min (off+k) cs.toList.length=0:=by omega
    simp only [a1,a2,a3,a4,a6,if_true,if_false,hlt,a7,List.getElem?_cons_zero]
   ·by_cases h3:j<off+k+(vs.length+1)
    ·have a1: ¬j<min (off+(k+1)) cs.toList.length:=by omega
     have a2: ¬j<min (off+k) cs.toList.length:=by omega
     have a3:j<min (off+(k+1)) cs.toList.length+vs.length:=by omega
     have a4:j<min (off+k) cs.toList.length+(vs.length+1):=by omega
     have a5:j-min (off+k) cs.toList.length=(j-min (off+(k+1)) cs.toList.length)+1:=by omega
     simp only [a1,a2,a3,a4,if_true,if_false,a5,List.getElem?_cons_succ]
    ·have a3: ¬j<min (off+(k+1)) cs.toList.length+vs.length:=by omega
     have a4: ¬j<min (off+k) cs.toList.length+(vs.length+1):=by omega
     have e1:off+(k+1)+vs.length+(j-(min (off+(k+1)) cs.toList.length+vs.length))=j:=by omega
     have e2:off+k+(vs.length+1)+(j-(min (off+k) cs.toList.length+(vs.length+1)))=j:=by omega
     have a5: ¬off+k=j:=by omega
     simp only [a3,a4,if_false,e1,e2,a5]
theorem aHR(v:Value)(cs:Array Value)(off:Nat)(h:off+v.cells.size≤cs.size):
  (v.cells.zipIdx.foldl (fun cs (x:Value×Nat)=>cs.setIfInBounds (off+x.2) x.1) cs).toList=cs.toList.take off++v.cells.toList++cs.toList.drop (off+v.cells.toList.length):=by
 have:=aN8 v.cells.toList 0 cs off (by simpa using h);rw [←Array.foldl_toList,Array.toList_zipIdx];simpa using this
theorem aD5{place:Nat→Option (Nat×Nat)}: ∀{ps:List (Nat×Nat×AV)}{qs:List (Nat×Value)}{z z':List AV}{vs:List Value},
  aEP z ps=some z'→R G (.k z vs)→ps.length=qs.length→
  (∀(i:Nat)(p:Nat×Nat×AV)(q:Nat×Value),ps[i]?=some p→qs[i]?=some q→place q.1=some (p.1,p.2.1)∧R G (.v p.2.2 q.2))→
  ∃vs',Instr.fill place vs.toArray qs=some vs'.toArray∧R G (.k z' vs')
 | [],[],z,z',vs,h,r,_,_=>by simp [aEP] at h;subst h;exact⟨vs,rfl,r⟩
 | [],_::_,_,_,_,_,_,hl,_=>by simp at hl
 |_::_,[],_,_,_,_,_,hl,_=>by simp at hl
 |(off,sz,a)::ps,(i,x)::qs,z,z',vs,h,r,hl,hp=>by
  obtain⟨h1,h2⟩:=hp 0 _ _ rfl rfl;simp only [aEP] at h;split at h
  ·rename_i v hv;split at h
   ·rename_i hc;obtain⟨k1,k2⟩:=qX hv h2;simp only [Bool.and_eq_true,decide_eq_true_eq] at hc;obtain⟨c1,c2⟩:=hc;have hlen:x.cells.size=sz:=by have:=k2.aEm;rw [c1] at this;simpa using this.symm
    have hvl:z.length=vs.length:=r.kW;have hfill:=aHR x vs.toArray off (by simp;omega);have hr:=r.aKd k2.c_k off;obtain⟨vs',f1,f2⟩:=aD5 (place:=place) (ps:=ps) (qs:=qs) h hr (by simpa using hl) (fun i p q hp1 hq1=>hp (i+1) p q (by simpa using hp1) (by simpa using hq1));refine⟨vs',?_,f2⟩;simp only [Instr.fill,h1];rw [if_neg (by simp;omega)];rw [←f1]
    congr 1
    apply Array.toList_inj.1;rw [hfill]
   ·cases h
  ·cases h
theorem aJn{fs:List Field}(h: ∀f∈fs,(P.info? f.type).isSome=true):(fs.mapM (fun f=>(do pure (f.offset,←sizeOf f.type):Sem (Nat×Nat)))).run P w= .ok (fs.map fun f=>(f.offset,P.cellsOf f.type)) w:=by
 induction fs with
 |nil=>rfl
 |cons f fs ih=>
  obtain⟨i,hi⟩:=Option.isSome_iff_exists.1 (h f (by simp));rw [List.mapM_cons];simp only [Sem.run_bind,lH hi,Result.andThen_ok,Sem.run_pure,ih (fun g hg=>h g (by simp [hg])),List.map_cons]
theorem aGO{fs:Array Field}(h: ∀f∈fs.toList,(P.info? f.type).isSome=true):(fs.mapM (fun f=>(do pure (f.offset,←sizeOf f.type):Sem (Nat×Nat)))).run P w= .ok ((fs.toList.map fun f=>(f.offset,P.cellsOf f.type)).toArray) w:=by
 rw [Array.mapM_eq_mapM_toList,Sem.run_map,aJn h]
 rfl
theorem aGh(hO:Opn P' env G ρ){fs:Array Field}: ∀{ps:List (Nat×Operand)}{qs:List (Nat×Nat×aQ)},aCE fs P ps=some qs→
  qs.length=ps.length∧ ∀(i:Nat)(p:Nat×Nat×AV)(q:Nat×Value),(qs.map fun p=>(p.1,p.2.1,evO P' env p.2.2))[i]?=some p→(ps.map fun(x:Nat×Operand)=>(x.1,ρ x.2))[i]?=some q→
   ((fs.toList.map fun f=>(f.offset,P.cellsOf f.type)).toArray)[q.1]?=some (p.1,p.2.1)∧R G (.v p.2.2 q.2)
 | [],qs,h=>by simp [aCE] at h;subst h;simp
 |(i,x)::ps,qs,h=>by
  simp only [aCE] at h;split at h
  ·rename_i f y ys h1 h2 h3;cases h;obtain⟨k1,k2⟩:=aGh hO h3;refine⟨by simp [k1],fun j p q hp hq=> ?_⟩;cases j with
   |zero=>
    simp at hp hq;subst hp;subst hq;exact⟨by simp [h1],hO.out _ _ h2⟩
   |succ j=>exact k2 j p q (by simpa using hp) (by simpa using hq)
  ·cases h
theorem aF2(hO:Opn P' env G ρ){esz:Nat}: ∀{ps:List (Nat×Operand)}{qs:List (Nat×Nat×aQ)},aB5 esz ps=some qs→
  qs.length=ps.length∧ ∀(i:Nat)(p:Nat×Nat×AV)(q:Nat×Value),(qs.map fun p=>(p.1,p.2.1,evO P' env p.2.2))[i]?=some p→(ps.map fun(x:Nat×Operand)=>(x.1,ρ x.2))[i]?=some q→
   (some (q.1*esz,esz)=some (p.1,p.2.1))∧R G (.v p.2.2 q.2)
 | [],qs,h=>by simp [aB5] at h;subst h;simp
 |(i,x)::ps,qs,h=>by
  simp only [aB5] at h;split at h
  ·rename_i y ys h2 h3;cases h;obtain⟨k1,k2⟩:=aF2 hO h3;refine⟨by simp [k1],fun j p q hp hq=> ?_⟩;cases j with
   |zero=>simp at hp hq;subst hp;subst hq;exact⟨rfl,hO.out _ _ h2⟩
   |succ j=>exact k2 j p q (by simpa using hp) (by simpa using hq)
  ·cases h
theorem aNu(hI:Inv P B G s w)(hO:Opn P' env G ρ){t:TypeId}{parts:Array (Nat×Operand)}{z:List AV}{qs:List (Nat×Nat×aQ)}(hz:zeroOf P t=some z)
(hu:(∃fs,P.underlying t=some (.struct fs)∧(fs.toList.all fun f=>(P.info? f.type).isSome)=true∧aCE fs P parts.toList=some qs)∨(∃n e,P.underlying t=some (.array n e)∧(P.info? e).isSome=true∧aB5 (P.cellsOf e) parts.toList=some qs)){v:AV}
(h:(match(generalizing:=false) aEP z (qs.map fun p=>(p.1,p.2.1,evO P' env p.2.2)) with|some cs=>some (AV.agg cs)|none=>none)=some v):nC P G w (Instr.build t (parts.map fun(x:Nat×Operand)=>(x.1,ρ x.2))) v:=by
 split at h
 ·rename_i cs hf;cases h;obtain⟨i,zv,hi,hzv,rz⟩:=qF (G:=G) hz;have hpl:(parts.map fun(x:Nat×Operand)=>(x.1,ρ x.2)).toList=parts.toList.map fun(x:Nat×Operand)=>(x.1,ρ x.2):=by simp
  rcases hu with ⟨fs,hu,hall,hp⟩|⟨n,e,hu,he,hp⟩
  ·obtain⟨k1,k2⟩:=aGh hO hp;obtain⟨vs',f1,f2⟩:=aD5 (place:=fun i=>((fs.toList.map fun f=>(f.offset,P.cellsOf f.type)).toArray)[i]?) hf rz (by simp [k1]) k2;refine .of hI (x:= .agg vs'.toArray) ?_ (.agg f2);have hm:=aGO (P:=P) (w:=w) (fs:=fs) (fun f hf=>by simpa using List.all_eq_true.1 hall f hf);simp only [Instr.build,Sem.run_bind,eC hi hzv,Result.andThen_ok,run_underlying hu,hm,hpl];simp only [Array.toArray_toList] at f1;rw [f1]
   rfl
  ·obtain⟨k1,k2⟩:=aF2 hO hp;obtain⟨vs',f1,f2⟩:=aD5 (place:=fun i=>some (i*P.cellsOf e,P.cellsOf e)) hf rz (by simp [k1]) k2;refine .of hI (x:= .agg vs'.toArray) ?_ (.agg f2);obtain⟨ie,hie⟩:=Option.isSome_iff_exists.1 he;simp only [Instr.build,Sem.run_bind,eC hi hzv,Result.andThen_ok,run_underlying hu,lH hie,hpl];simp only [Array.toArray_toList] at f1;rw [f1]
   rfl
 ·cases h
theorem aCU{sz:Nat}: ∀{css:List (List Value)}{i:Nat}{c:List Value},(∀x∈css,x.length=sz)→c.length=sz→i<css.length→
  (css.flatten.take (i*sz)++c++css.flatten.drop (i*sz+c.length))=(css.set i c).flatten
 | [],i,c,_,_,hi=>by simp at hi
 |x::css,0,c,hx,hc,_=>by
  have:x.length=sz:=hx x (by simp);simp only [Nat.zero_mul,List.take_zero,List.nil_append,Nat.zero_add,List.set_cons_zero,List.flatten_cons,hc];rw [List.drop_append_of_le_length (by omega),List.drop_of_length_le (by omega),List.nil_append]
 |x::css,i+1,c,hx,hc,hi=>by
  have h1:x.length=sz:=hx x (by simp);have ih:=aCU (css:=css) (i:=i) (c:=c) (fun y hy=>hx y (by simp [hy])) hc (by simpa using hi);simp only [List.set_cons_succ,List.flatten_cons];rw [←ih,Nat.add_mul,Nat.one_mul,←h1,Nat.add_comm (i*x.length) x.length,List.take_length_add_append,Nat.add_assoc,List.drop_length_add_append];simp only [List.append_assoc]
theorem aIl{sz:Nat}: ∀{ps:List (Nat×AV)}{qs:List (Nat×Value)}{xs xs':List AV}{css:List (List Value)},
  vS xs ps=some xs'→ps.length=qs.length→
  (∀(i:Nat)(p:Nat×AV)(q:Nat×Value),ps[i]?=some p→qs[i]?=some q→q.1=p.1∧R G (.c p.2 q.2.cells.toList)∧q.2.cells.size=sz)→
  xs.length=css.length→(∀x∈css,x.length=sz)→(∀(i:Nat)(a:AV),xs[i]?=some a→ ∃vs,css[i]?=some vs∧R G (.c a vs)∧vs.length=sz)→
  ∃css':List (List Value),Instr.fill (fun i=>some (i*sz,sz)) css.flatten.toArray qs=some css'.flatten.toArray∧xs'.length=css'.length∧(∀x∈css',x.length=sz)∧(∀(i:Nat)(a:AV),xs'[i]?=some a→ ∃vs,css'[i]?=some vs∧R G (.c a vs)∧vs.length=sz)
 | [],[],xs,xs',css,h,_,_,hl,hs,hr=>by simp [vS] at h;subst h;exact⟨css,rfl,hl,hs,hr⟩
 | [],_::_,_,_,_,_,hl,_,_,_,_=>by simp at hl
 |_::_,[],_,_,_,_,hl,_,_,_,_=>by simp at hl
 |(i,a)::ps,(j,x)::qs,xs,xs',css,h,hl,hp,hlen,hs,hr=>by
  obtain⟨h1,h2,h3⟩:=hp 0 _ _ rfl rfl;simp only at h1 h2 h3;subst h1;simp only [vS] at h;split at h
  ·rename_i hi;have hi':j<css.length:=by omega
   have hfl:css.flatten.length=css.length*sz:=by
    clear hr hp h hlen hi hi'
    induction css with
    |nil=>simp
    |cons y ys ih=>simp [ih (fun z hz=>hs z (by simp [hz])),hs y (by simp),Nat.add_mul];omega
   have hbd:j*sz+x.cells.size≤css.flatten.length:=by
    rw [hfl,h3];have:=Nat.mul_le_mul_right sz (show j+1≤css.length by omega);rw [Nat.add_mul,Nat.one_mul] at this;exact this
   have hxl:x.cells.toList.length=sz:=by simpa using h3
   obtain⟨css',f1,f2,f3,f4⟩:=aIl (ps:=ps) (qs:=qs) (css:=css.set j x.cells.toList) h (by simpa using hl) (fun i p q hp1 hq1=>hp (i+1) p q (by simpa using hp1) (by simpa using hq1)) (by simpa using hlen)
    (fun y hy=>by rcases List.mem_or_eq_of_mem_set hy with hy|rfl;exact hs y hy;exact hxl)
    (fun k b hb=>by
     rw [List.getElem?_set] at hb;by_cases e:j=k
     ·subst e;rw [if_pos rfl,if_pos hi] at hb;cases hb;exact⟨x.cells.toList,by rw [List.getElem?_set_self hi'],h2,hxl⟩
     ·rw [if_neg e] at hb;obtain⟨vs,g1,g2,g3⟩:=hr k b hb;exact⟨vs,by rw [List.getElem?_set_ne e];exact g1,g2,g3⟩)
   refine⟨css',?_,f2,f3,f4⟩;simp only [Instr.fill];rw [if_neg (fun hor=>by
    simp only [ne_eq,Bool.or_eq_true,decide_eq_true_eq] at hor;rcases hor with hq|hq
    ·exact hq h3
    ·have h9:(css.flatten.toArray).size=css.flatten.length:=by simp only [List.size_toArray]
     rw [h9] at hq;exact absurd hbd (Nat.not_le.2 hq))]
   rw [←f1]
   congr 1
   apply Array.toList_inj.1;rw [aHR x css.flatten.toArray (j*sz) (by simpa using hbd)];have:=aCU (css:=css) (i:=j) (c:=x.cells.toList) hs hxl hi';simpa using this
  ·cases h
theorem aE8(z:List Value): ∀n,((Array.range (n*z.length)).map (fun i=>z.toArray[i%z.toArray.size]!)).toList=(List.replicate n z).flatten:=by
 intro n
 induction n with
 |zero=>simp
 |succ n ih=>
  rw [List.replicate_succ',List.flatten_append,←ih,Nat.add_mul,Nat.one_mul];simp only [Array.toList_map,Array.toList_range,List.size_toArray,List.flatten_cons,List.flatten_nil,List.append_nil];rw [List.range_add,List.map_append,List.map_map]
  congr 1
  apply List.ext_getElem
  ·simp
  ·intro i h1 h2;simp at h1;simp [Nat.mul_add_mod_self_right,Nat.mod_eq_of_lt h1,h1]
theorem aGE(hO:Opn P' env G ρ): ∀{ps:List (Nat×Operand)}{qs:List (Nat×aQ)},aCl ps=some qs→
  qs.map (·.1)=ps.map (·.1)∧R G (.l (qs.map fun p=>evO P' env p.2) (ps.map fun p=>ρ p.2))
 | [],qs,h=>by simp [aCl] at h;subst h;exact⟨rfl,.tF⟩
 |(i,x)::ps,qs,h=>by
  simp only [aCl] at h;split at h
  ·rename_i y ys h2 h3;cases h;obtain⟨k1,k2⟩:=aGE hO h3;exact⟨by simp [k1],.gN (hO.out _ _ h2) k2⟩
  ·cases h
theorem aC6: ∀{a_ as':List AV}{xs:List Value},eD a_=some as'→R G (.l a_ xs)→ ∀(i:Nat)(a:AV)(x:Value),as'[i]?=some a→xs[i]?=some x→R G (.c a x.cells.toList)
 | [],as',xs,h,r,i,a,x,ha,hx=>by simp [eD] at h;subst h;simp at ha
 |b::a_,as',xs,h,r,i,a,x,ha,hx=>by
  cases r with
  |gN r1 r3=>
   simp only [eD] at h;split at h
   ·cases h
   ·rename_i y hy;split at h
    ·cases h
    ·rename_i ys hys;cases h;cases i with
     |zero=>simp at ha hx;subst ha;subst hx;exact(qX hy r1).2
     |succ i=>exact aC6 hys r3 i a x (by simpa using ha) (by simpa using hx)
theorem aQF(hI:Inv P B G s w)(hO:Opn P' env G ρ){t e:TypeId}{len:Nat}{parts:Array (Nat×Operand)}{z:List AV}{qs:List (Nat×aQ)}(hu:P.underlying t=some (.slice e))(hz:zeroOf P e=some z)(hzl:z.length=P.cellsOf e)(hz0:0<z.length)
(hp:aCl parts.toList=some qs){v:AV}
(h:(match(generalizing:=false) eD (qs.map fun p=>evO P' env p.2) with
  |some vs=>
   if vs.all (fun v=>(cellsOf v).length==P.cellsOf e)&&decide (len*P.cellsOf e≤16777216) then
    (match vS (List.replicate len (elemOf (P.cellsOf e) z)) ((qs.map (·.1)).zip vs) with
    |some xs=>some (AV.slice (P.cellsOf e) xs .full)
    |none=>none)
   else none
  |none=>none)=some v):nC P G w (Instr.buildSlice t len (parts.map fun(x:Nat×Operand)=>(x.1,ρ x.2))) v:=by
 split at h
 ·rename_i vs hvs;split at h
  ·rename_i hc;split at h
   ·rename_i xs hxs;cases h;simp only [Bool.and_eq_true,decide_eq_true_eq,List.all_eq_true,beq_iff_eq] at hc;obtain⟨c1,c2⟩:=hc;obtain⟨i,zv,hi,hzv,rz⟩:=qF (G:=G) hz;obtain⟨k1,k2⟩:=aGE hO hp;have hvl:vs.length=qs.length:=by
     have h1:=(tR hvs k2).aBG;have h2:=congrArg List.length k1;simp at h1 h2;omega
    have hql:qs.length=parts.toList.length:=by simpa using congrArg List.length k1
    generalize hsz:P.cellsOf e=sz at*;have hzvl:zv.cells.toList.length=sz:=by rw [←rz.kW];exact hzl
    have hisz:i.size=sz:=by rw [←hsz];simp [Program.cellsOf,hi]
    have rel: ∀zl,R G (.k z zl)→R G (.c (elemOf sz z) zl):=by
     intro zl rz;unfold elemOf;split
     ·cases rz with
      |iI=>simp at hz0
      |cY r1 r2 r3=>
       rename_i a x a_ ys;have:a_.length=0:=by simp at hzl;exact List.length_eq_zero_iff.2 hzl
       have:a_= []:=List.eq_nil_of_length_eq_zero this;subst this;cases r3;exact .yC (aBb r1 r2) r2 r1
     ·exact .wI rz
    obtain⟨css',f1,f2,f3,f4⟩:=aIl (G:=G) (sz:=sz) (qs:=parts.toList.map fun(x:Nat×Operand)=>(x.1,ρ x.2)) (css:=List.replicate len zv.cells.toList) hxs (by simp [hvl,hql])
     (fun j p q hp1 hq1=>by
      rw [List.getElem?_zip_eq_some] at hp1;obtain⟨p1,p2⟩:=hp1;have hq2:=hq1;simp only [List.getElem?_map,Option.map_eq_some_iff] at hq1;obtain⟨pt,hq3,rfl⟩:=hq1;have e1:p.1=pt.1:=by
       have:=congrArg (fun l=>l[j]?) k1;simp only [List.getElem?_map] at this p1;rw [p1,hq3] at this;simpa using this
      have e2:(parts.toList.map fun p=>ρ p.2)[j]?=some (ρ pt.2):=by simp [hq3]
      have rc:=aC6 hvs k2 j p.2 _ p2 e2;refine⟨e1.symm,rc,?_⟩;have:=c1 p.2 (List.mem_of_getElem? p2);rw [rc.aEm] at this;simpa using this)
     (by simp) (fun x hx=>by rw [List.eq_of_mem_replicate hx];exact hzvl) (fun j a ha=>by
      have ha':=List.eq_of_mem_replicate (List.mem_of_getElem? ha);have hj:j<len:=by simpa using (List.getElem?_eq_some_iff.1 ha).1
      subst ha';exact⟨_,by simp [hj],rel _ rz,hzvl⟩)
    have hlen:xs.length=len:=by
     have: ∀{ps:List (Nat×AV)}{a_ bs:List AV},vS a_ ps=some bs→bs.length=a_.length:=by
      intro ps
      induction ps with
      |nil=>intro a_ bs h;simp [vS] at h;rw [h]
      |cons p ps ih=>intro a_ bs h;simp only [vS] at h;split at h;rw [ih h];simp;cases h
     rw [this hxs];simp
    have hzs:(0:Nat)<sz:=by omega
    refine⟨.slice (some ⟨w.heap.size,0,none⟩) len len,w.alloc (.cells css'.flatten.toArray e),G.mB w.heap.size 0 css'.flatten.length css'.flatten,?_,?_,?_⟩
    ·by_cases hl0:len=0
     ·subst hl0;have hxe:css'= []:=List.eq_nil_of_length_eq_zero (by omega);subst hxe;have hf:Instr.fill (fun i=>some (i*sz,sz)) (#[]:Array Value) ((parts.toList.map fun(x:Nat×Operand)=>(x.1,ρ x.2)))=some #[]:=by simpa using f1
      have e0:Array.map (fun(_:Nat)=>(default:Value)) (Array.range 0)= #[]:=by simp [Array.range]
      simp [Instr.buildSlice,run_underlying hu,lH hi,hsz,newRow];rw [e0,hf];simp
     ·have hpos: ¬(len*sz=0):=by
       intro h0;rcases Nat.mul_eq_zero.1 h0 with h|h<;>omega
      have hbig: ¬(len*sz>2^24):=by omega
      have hf:Instr.fill (fun i=>some (i*sz,sz)) ((Array.range (len*sz)).map (zv.cells[· %zv.cells.size]!)) ((parts.toList.map fun(x:Nat×Operand)=>(x.1,ρ x.2)))=some css'.flatten.toArray:=by
       rw [←f1]
       congr 1
       apply Array.toList_inj.1;have:=aE8 zv.cells.toList len;rw [hzvl] at this;simpa using this
      simp [Instr.buildSlice,run_underlying hu,lH hi,hsz,hpos,hbig,eC hi hzv,hf,newRow]
    ·exact hI.aMh css'.flatten e (0,0) css'.flatten.length
    ·have hle:=hI.rQ css'.flatten.length css'.flatten;have hr:R (G.mB w.heap.size 0 css'.flatten.length css'.flatten) (.r sz xs w.heap.size 0):=R.aVx (cs:=css') (fun j a ha=>by
       obtain⟨vs,g1,g2,g3⟩:=f4 j a ha;exact⟨vs,g1,g2.mono hle,g3⟩) f2 (fun j y hy=>by
       have hj:j<css'.flatten.length:=(List.getElem?_eq_some_iff.1 hy).1;rw [Nat.zero_add,p5 (Nat.zero_le _) hj];exact hy)
     have hm:len≤maxLen:=by
      have:len*1≤len*sz:=Nat.mul_le_mul_left _ hzs;simp only [maxLen];omega
     have:=R.dQ (o:= .full) (c:=len) (by omega) hm hr (by simp [qD,hlen]);rw [hlen] at this;exact this
   ·cases h
  ·cases h
 ·cases h
end
section
variable {P : Program} {B : Bs} {G : Gh} {s : ASt} {w : World} {P' : bA} {env : Env} {ρ : Operand → Value}
theorem aI6(hI:Inv P B G s w){mx:Bool}{a b v:AV}{x y:Value}(ra:R G (.v a x))(rb:R G (.v b y))(ts:Array TypeId)(ty:TypeId)
(h:(match(generalizing:=false) a,b with
  | .int k a,.int k' b=>if k=k' then some (AV.int k (match mx with|true=>max a b|false=>min a b)) else none
  |_,_=>none)=some v):nC P G w (match mx with|true=>Builtin.max_ ts ty #[x,y]|false=>Builtin.min_ ts ty #[x,y]) v:=by
 cases ra with
 |int hk=>
  cases rb with
  |int hk'=>
   rename_i k n k' m;by_cases e:k=k'
   ·subst e;simp only [if_true,Option.some.injEq] at h;subst h;cases mx with
    |true=>
     refine .of hI (x:= .int k (max n m)) ?_ (.int ?_)
     ·simp [Builtin.max_,Builtin.max2];omega
     ·rcases Int.le_total n m with h|h
      ·rw [Int.max_eq_right h];exact hk'
      ·rw [Int.max_eq_left h];exact hk
    |false=>
     refine .of hI (x:= .int k (min n m)) ?_ (.int ?_)
     ·simp [Builtin.min_,Builtin.min2];omega
     ·rcases Int.le_total n m with h|h
      ·rw [Int.min_eq_left h];exact hk
      ·rw [Int.min_eq_right h];exact hk'
   ·simp [e] at h
  |_=>simp at h
 |_=>simp at h
theorem nC.lift{m:Sem Value}{v:AV}(h:nC P G w m v): ∃x w' G',((do pure (Next.value (←m))):Sem Next).run P w= .ok (.value x) w'∧xQ G w G' w'∧R G' (.v v x):=by
 obtain⟨x,w',G',h1,h2,h3⟩:=h;exact⟨x,w',G',by simp [h1],h2,h3⟩
theorem aDM{neg:Bool}{t:TypeId}{p q:Operand}{x y:Value}{r:Bool}(hn:aFq x y=true)(hg: ∀op,(eqGuard op t p q x y).run P w= .ok () w)(h:(Op.equal t x y).run P w= .ok r w):
  ((do eqGuard (if neg then BinOp.neq else .eql) t p q x y;binOp (if neg then BinOp.neq else .eql) t x y):Sem Value).run P w= .ok (.bool (match neg with|true=> !r|false=>r)) w:=by
 cases neg with
 |true=>simp only [if_true,Sem.run_bind,hg,Result.andThen_ok,(binOp_eql hn).2,h];rfl
 |false=>simp only [Bool.false_eq_true,if_false,Sem.run_bind,hg,Result.andThen_ok,(binOp_eql hn).1,h];rfl
theorem aMU{k:NK}{x:Operand}(h:aHb k x=true): ∃c,x= .const c∧(aL3 k c):=by
 unfold aHb at h;split at h<;>first|exact⟨_,rfl,rfl⟩|exact⟨_,rfl,_,_,rfl⟩|cases h
theorem aAu{t:TypeId}{p q:Operand}{x y:Value}(hx: ∀a b,¬(x= .agg a∧y= .agg b))(hc:(∃c,p= .const c)∨(∃c,q= .const c))(op:BinOp):(eqGuard op t p q x y).run P w= .ok () w:=by
 cases op<;>first
  |rfl
  |(cases x<;>cases y<;>first
   |rfl
   |(exact absurd ⟨rfl,rfl⟩ (hx _ _))
   |(rcases hc with ⟨c,rfl⟩|⟨c,rfl⟩<;>simp [eqGuard]))
theorem aPk(hI:Inv P B G s w){neg:Bool}{t:TypeId}{x y:Operand}{a b:aQ}(hO:Opn P' env G ρ)(hc: ∀v,(ρ (.const v))=v)(ha:dH x=some a)(hb:dH y=some b){u:TypeDesc}(hu:P.underlying t=some u){k:NK}{aop:AOp}
(hku:v5 k u)
(hk:lD neg k x y a b=some aop){v:AV}(h:bX P' env aop=some v):
  nC P G w (do eqGuard (if neg then BinOp.neq else .eql) t x y (ρ x) (ρ y);binOp (if neg then BinOp.neq else .eql) t (ρ x) (ρ y)) v:=by
 have notAgg: ∀c,(aL3 k c)→(∀z,aFq c z=true∧aFq z c=true)∧ ∀a,c≠Value.agg a:=by
  intro c hcc;cases k with
  |slice=>obtain⟨l,d,rfl⟩:=hcc;exact⟨fun z=>by cases z<;>exact⟨rfl,rfl⟩,fun _ h=>by cases h⟩
  |_=>cases hcc;exact⟨fun z=>by cases z<;>exact⟨rfl,rfl⟩,fun _ h=>by cases h⟩
 unfold lD at hk;split at hk
 ·rename_i h1;cases hk;obtain⟨c,rfl,hcc⟩:=aMU h1;simp only [bX] at h;split at h
  ·rename_i r hr;cases h;obtain⟨n2,n3⟩:=notAgg c hcc;have he:=(aJt (P:=P) (w:=w) hu (hO.out _ _ hb) hr 9999 ⟨hku,hcc⟩).2;rw [hc];exact .of hI (aDM (n2 _).1 (aAu (fun a b h=>n3 _ h.1) (.inl ⟨_,rfl⟩)) he) (.bool _)
  ·cases h
 ·rename_i h1 h2;cases hk;obtain⟨c,rfl,hcc⟩:=aMU h2;simp only [bX] at h;split at h
  ·rename_i r hr;cases h;obtain⟨n2,n3⟩:=notAgg c hcc;have he:=(aJt (P:=P) (w:=w) hu (hO.out _ _ ha) hr 9999 ⟨hku,hcc⟩).1;rw [hc];exact .of hI (aDM (n2 _).2 (aAu (fun a b h=>n3 _ h.2) (.inr ⟨_,rfl⟩)) he) (.bool _)
  ·cases h
 ·cases hk
theorem aN5(hI:Inv P B G s w){neg:Bool}{t:TypeId}{x y:Operand}{a b:AV}{xa xb:Value}(ra:R G (.v a xa))(rb:R G (.v b xb))(hu:P.underlying t=some .bool){v:AV}
(h:(match(generalizing:=false) eqA a b with|some r=>some (AV.bool (match neg with|true=> !r|false=>r))|none=>none)=some v):
  nC P G w (do eqGuard (if neg then BinOp.neq else .eql) t x y xa xb;binOp (if neg then BinOp.neq else .eql) t xa xb) v:=by
 split at h
 ·rename_i r hr;cases h;have hg: ∀{p q:Value},(∀a b,¬(p=Value.agg a∧q= .agg b))→(p≠ .nilIface)→ ∀op,(eqGuard op t x y p q).run P w= .ok () w:=by
   intro p q h1 h2 op;cases op<;>first
    |rfl
    |(cases p<;>cases q<;>first
     |rfl
     |(exact absurd ⟨rfl,rfl⟩ (h1 _ _))
     |(exact absurd rfl h2))
  rcases aIv hr ra rb with ⟨k,n,m,rfl,rfl,rfl⟩|⟨p,q,rfl,rfl,rfl⟩|⟨p,q,rfl,rfl,rfl⟩
  ·refine .of hI (x:= .bool (match neg with|true=> !(n==m)|false=>(n==m))) ?_ (.bool _);simp only [Sem.run_bind,hg (p:= .int k n) (q:= .int k m) (fun a b h=>by cases h.1) (by simp),Result.andThen_ok];cases neg<;>simp [binOp,Op.intCmp]<;>rfl
  ·exact .of hI (aDM rfl (hg (fun a b h=>by cases h.1) (by simp)) (by rw [aEf];exact aGb hu _ _ _)) (.bool _)
  ·refine .of hI (x:= .bool (match neg with|true=> !(p.data.toList==q.data.toList)|false=>(p.data.toList==q.data.toList))) ?_ (.bool _);simp only [Sem.run_bind,hg (p:= .string p) (q:= .string q) (fun a b h=>by cases h.1) (by simp),Result.andThen_ok];cases neg<;>simp [binOp,Op.stringOp,aPb]
 ·cases h
theorem aIb{e:TypeId}(he:P.plainKey e=true){xs:Array Value}{off:Nat}{v:Value}{r:List Value}(h:xs.toList.drop off=v::r):(part e xs off).run P w= .ok v w:=
 run_part_plain w he (by
  have:=congrArg (·[0]?) h;simpa using this)
theorem drop_tail{α:Type}{l:List α}{n:Nat}{x:α}{r:List α}(h:l.drop n=x::r):l.drop (n+1)=r:=by
 rw [←List.drop_drop,h];rfl
theorem aMI{xs ys:Array Value}(d:Nat): ∀(fs:List Field)(off:Nat){ks:List KK}{a_ bs:List AV}{r:Bool},yR P off fs=some ks→R G (.k a_ (xs.toList.drop off))→R G (.k bs (ys.toList.drop off))→uN ks a_ bs=some r→
  (Op.eqFields (d+1) xs ys fs).run P w= .ok r w
 | [],off,ks,a_,bs,r,hk,ha,hb,h=>by
  simp only [yR,Option.some.injEq] at hk;subst hk;cases a_ with
  |cons=>simp [uN] at h
  |nil=>
   cases bs with
   |cons=>simp [uN] at h
   |nil=>simp [uN] at h;subst h;simp [Op.eqFields]
 |f::fs,off,ks,a_,bs,r,hk,ha,hb,h=>by
  have fin: ∀{ks':List KK}{as' bs':List AV}{x y:Value}{xr yr:List Value}{r1 r2:Bool},(f.name != "_" &&f.offset==off)=true→yR P (off+1) fs=some ks'→P.plainKey f.type=true→xs.toList.drop off=x::xr→ys.toList.drop off=y::yr→
    R G (.k as' xr)→R G (.k bs' yr)→uN ks' as' bs'=some r2→(Op.equalIn (d+1) f.type x y).run P w= .ok r1 w→(Op.eqFields (d+1) xs ys (f::fs)).run P w= .ok (r1&&r2) w:=by
   intro ks' as' bs' x y xr yr r1 r2 hn hks hpl hx hy ha' hb' hf he;simp only [Bool.and_eq_true,bne_iff_ne,ne_eq,beq_iff_eq] at hn;have hrec:=aMI d fs (off+1) (xs:=xs) (ys:=ys) hks (by rw [drop_tail hx];exact ha') (by rw [drop_tail hy];exact hb') hf;have hof:=hn.2;simp only [Op.eqFields,hn.1,ne_eq,not_false_eq_true,if_true,Sem.run_bind,hof,aIb hpl hx,aIb hpl hy,he,Result.andThen_ok];cases r1 with
   |false=>simp
   |true=>simpa using hrec
  simp only [yR] at hk;split at hk
  ·rename_i hn hu hks;cases hk;unfold uN at h;split at h<;>first|(cases h;done)|skip
   all_goals (first|(simp at*;done)|skip)
   rename_i e3;cases e3;split at h
   ·rename_i r2 hr2;cases h;generalize hx:xs.toList.drop off=lx at ha;generalize hy:ys.toList.drop off=ly at hb;cases ha with
    |cY hv1 h11 ht1=>
     cases hb with
     |cY hv2 h12 ht2=>
      cases hv1;cases hv2;exact fin hn hks (by simp [Program.plainKey,hu]) hx hy ht1 ht2 hr2 (aGb hu d _ _)
   ·cases h
  ·rename_i hn hu hks;cases hk;unfold uN at h;split at h<;>first|(cases h;done)|skip
   all_goals (first|(simp at*;done)|skip)
   rename_i e3;cases e3;split at h
   ·rename_i hkk;subst hkk;split at h
    ·rename_i r2 hr2;cases h;generalize hx:xs.toList.drop off=lx at ha;generalize hy:ys.toList.drop off=ly at hb;cases ha with
     |cY hv1 h11 ht1=>
      cases hb with
      |cY hv2 h12 ht2=>
       cases hv1;cases hv2;exact fin hn hks (by simp [Program.plainKey,hu]) hx hy ht1 ht2 hr2 (aPg hu d _ _ _)
    ·cases h
   ·cases h
  ·rename_i hn hu hks;cases hk;unfold uN at h;split at h<;>first|(cases h;done)|skip
   all_goals (first|(simp at*;done)|skip)
   rename_i e3;cases e3;split at h
   ·rename_i r2 hr2;cases h;generalize hx:xs.toList.drop off=lx at ha;generalize hy:ys.toList.drop off=ly at hb;cases ha with
    |cY hv1 h11 ht1=>
     cases hb with
     |cY hv2 h12 ht2=>
      cases hv1;cases hv2;exact fin hn hks (by simp [Program.plainKey,hu]) hx hy ht1 ht2 hr2 (aPi hu d _ _)
   ·cases h
  ·cases hk
theorem aJC(hI:Inv P B G s w){neg:Bool}{t:TypeId}{x y:Operand}{a b:AV}{xa xb:Value}(ra:R G (.v a xa))(rb:R G (.v b xb)){fs:Array Field}(hu:P.underlying t=some (.struct fs))(hst:P.stoodInHeld t=false)(hgt:P.eqGuardType P.depth t=false)
{ks:List KK}(hks:yR P 0 fs.toList=some ks){v:AV}
(h:(match(generalizing:=false) a,b with
  | .agg xs,.agg ys=>(match uN ks xs ys with|some b=>some (AV.bool (match neg with|true=> !b|false=>b))|none=>none)
  |_,_=>none)=some v):
  nC P G w (do eqGuard (if neg then BinOp.neq else .eql) t x y xa xb;binOp (if neg then BinOp.neq else .eql) t xa xb) v:=by
 split at h
 ·rename_i xs ys;split at h
  ·rename_i r hr;cases h;cases ra with
   | @agg _ vs ha=>
   cases rb with
   | @agg _ us hb=>
   have hfs:P.fieldsOf t=fs:=by simp [Program.fieldsOf,hu]
   have he:(Op.equal t (.agg vs.toArray) (.agg us.toArray)).run P w= .ok r w:=by
    rw [aEf,run_equalIn_struct w 9999 t _ _ (by rw [hfs];exact hu) hst,hfs];exact aMI 9998 fs.toList 0 hks (by simpa using ha) (by simpa using hb) hr
   exact .of hI (aDM rfl (fun op=>by cases op<;>first|rfl|(simp [eqGuard,hgt])) he) (.bool _)
  ·cases h
 ·cases h
end
section
variable {P : Program} {B : Bs} {G : Gh} {s : ASt} {w : World} {P' : bA} {env : Env} {ρ : Operand → Value}
theorem aLC{t:TypeId}{z:List AV}{v:Value}(hz:zeroOf P t=some z){i:TypeInfo}(hi:P.info? t=some i)(hv:i.zero=some v):(∃cs,v= .agg cs∧vA cs.toList=some z)∨(∃a,aCH v=some a∧z= [a]):=by
 unfold zeroOf at hz;simp only [hi,Option.bind_some,hv] at hz;cases v with
 |agg cs=>exact .inl ⟨cs,rfl,hz⟩
 |_=>
  simp only [Option.map_eq_some_iff] at hz;obtain⟨a,h1,h2⟩:=hz;exact .inr ⟨a,h1,h2.symm⟩
theorem zc{z:List AV}{ag:Option Bool}(h: ∀y,z= [y]→tG y=false):cellsOf (match(generalizing:=false) z with| [x]=>(match ag with|some false=>x|_=> .agg z)|_=> .agg z)=z:=by
 split
 ·rename_i y;have:=h y rfl;split
  ·cases y<;>first|rfl|(simp [tG] at this)
  ·rfl
 ·rfl
theorem zc'{z:List AV}{ag:Option Bool}{vs:List Value}(hr:R G (.k z vs))(h: ∀y,z= [y]→tG y=false):R G (.k (cellsOf (match(generalizing:=false) z with| [x]=>(match ag with|some false=>x|_=> .agg z)|_=> .agg z)) vs):=by
 rw [zc h];exact hr
theorem aL9{vs:List Value}{z:List AV}(h:vA vs=some z): ∀y,z= [y]→tG y=false:=by
 intro y hy;subst hy;cases vs with
 |nil=>simp [vA] at h
 |cons q qs=>
  simp only [vA] at h;split at h
  ·rename_i p ps e1 e2;cases h;exact(vT (G:=⟨fun _ _=>none,fun _=>none,fun _ _=>none⟩) e1).2.2
  ·cases h
theorem aKq{t:TypeId}{z:AV}(h:zeroV P t=some z): ∃i v,P.info? t=some i∧i.zero=some v∧R G (.v z v):=by
 unfold zeroV at h;cases hi:P.info? t with
 |none=>simp [hi] at h
 |some i=>
  simp only [hi,Option.bind_some] at h;cases hz:i.zero with
  |none=>simp [hz] at h
  |some v=>simp only [hz] at h;exact⟨i,v,rfl,hz,aI9 h⟩
theorem aEg{a a':AV}(h:iK a=some a'): ∀vs:List Value,R G (.k (cellsOf a) vs)→R G (.k (cellsOf a') vs):=by
 intro vs r;unfold iK at h;split at h
 ·split at h
  ·rename_i ds hd;cases h;exact aGP hd r
  ·cases h
 ·rename_i hna;have ha:cellsOf a= [a]:=by cases a<;>first|rfl|(exact absurd rfl (hna _))
  rw [ha] at r;cases r with
  |cY r1 r2 r3=>
   cases r3;obtain⟨k1,k2,k3⟩:=aGM h r1;have hb:cellsOf a'= [a']:=by cases a'<;>first|rfl|(simp [tG] at k3)
   rw [hb];exact .cY k1 k2 .iI
theorem R.aPH{a:AV}{vs:List Value}(r:R G (.k (cellsOf a) vs)):R G (.c a vs):=by
 cases a with
 |agg cs=>exact .wI r
 |_=>cases r with|cY r1 r2 r3=>cases r3;exact .yC rfl r2 r1
theorem aTS(hI:Inv P B G s w){a:AV}(t:TypeId){x:Value}(r:R G (.k (cellsOf a) x.cells.toList)):
  nC P G w (do pure (.pointer (some (←newVar t x)))) (.aG a 0):=by
 refine⟨.pointer (some ⟨w.heap.size,0,none⟩),w.alloc (.cells x.cells t),G.mB w.heap.size 0 x.cells.toList.length x.cells.toList,?_,?_,?_⟩
 ·simp [newVar,newRow]
 ·have:=hI.aMh x.cells.toList t (0,0) x.cells.toList.length;simpa using this
 ·have hle:=hI.rQ x.cells.toList.length x.cells.toList;have:=R.aG (G:=G.mB w.heap.size 0 x.cells.toList.length x.cells.toList) (b:=w.heap.size) (o:=0) 0 (R.aPH (r.mono hle)) (fun j y hy=>by
   have hj:j<x.cells.toList.length:=by
    rcases Nat.lt_or_ge j x.cells.toList.length with h|h
    ·exact h
    ·rw [List.getElem?_eq_none h] at hy;cases hy
   rw [Nat.zero_add,p5 (Nat.zero_le _) hj];exact hy)
  simpa using this
def mS(P:Program)(G:Gh)(w:World)(m:Sem Next)(v:AV):Prop:= ∃x w' G',m.run P w= .ok (.value x) w'∧xQ G w G' w'∧R G' (.v v x)
theorem aPz(hI:Inv P B G s w)(hO:Opn P' env G ρ)(hc: ∀v,ρ (.const v)=v){h:Hint}{o:Oper}{aop:AOp}(hk:cP P h o.dst o.op=some aop){v:AV}(hv:bX P' env aop=some v):
  mS P G w (execOp ρ o) v:=by
 unfold cP at hk;split at hk
 ·rename_i x ho;simp only [Option.map_eq_some_iff] at hk;obtain⟨a,h1,rfl⟩:=hk;simp [bX] at hv;subst hv;exact⟨_,w,G,by simp [execOp,ho],hI.quiet,hO.out _ _ h1⟩
 ·rename_i x ho;simp only [Option.map_eq_some_iff] at hk;obtain⟨a,h1,rfl⟩:=hk;simp [bX] at hv;subst hv;exact⟨_,w,G,by simp [execOp,ho],hI.quiet,hO.out _ _ h1⟩
 ·rename_i c a b ho;split at hk
  ·rename_i c' a' b' h1 h2 h3;cases hk;simp only [bX] at hv;have hcc:=hO.out _ _ h1;generalize evO P' env c'=C at hcc hv;have:=aUl hI hcc (hO.out _ _ h2) (hO.out _ _ h3) hv;obtain⟨x,w',G',q1,q2,q3⟩:=this;refine⟨x,w',G',?_,q2,q3⟩;simp only [execOp,ho,Sem.run_bind,Sem.run_pure] at q1⊢
   revert q1
   cases (asBool (ρ c)).run P w<;>simp [Result.andThen]<;>(intro h;first|exact h|simp_all)
  ·cases hk
 ·rename_i t ho;split at hk
  ·rename_i z hz;obtain⟨i,zv,hi,hzv,hr⟩:=qF (G:=G) hz;split at hk
   ·cases hk;simp [bX] at hv
   ·split at hk
    ·cases hk;simp only [bX] at hv;split at hv
     ·rename_i a' ha';cases hv;have hcell:R G (.k (cellsOf a') zv.cells.toList):=by
       refine aEg ha' _ ?_;refine zc' hr ?_;rcases aLC hz hi hzv with ⟨cs,_,h2⟩|⟨a,h1,h2⟩
       ·exact aL9 h2
       ·intro y hy;rw [h2] at hy;cases hy;exact(vT (G:=G) h1).2.2
      obtain⟨x,w',G',q1,q2,q3⟩:=aTS hI t hcell;refine⟨x,w',G',?_,q2,q3⟩;simp only [execOp,ho,Instr.alloc,Sem.run_bind,eC hi hzv,Result.andThen_ok] at q1⊢
      revert q1
      cases (newVar t zv).run P w<;>simp [Result.andThen]<;>(intro h;first|exact h|simp_all)
     ·cases hv
    ·cases hk;simp [bX] at hv
  ·cases hk
 ·rename_i t x ho;split at hk
  ·rename_i x' h1;cases hk;split at hv
   ·simp only [bX] at hv;simpa [execOp,ho,mS] using (aUi hI (hO.out _ _ h1) t hv).lift
   ·simp [bX] at hv
  ·cases hk
 ·rename_i t parts ho;split at hk
  ·rename_i z fs hz hu;split at hk
   ·rename_i hall;simp only [Option.map_eq_some_iff] at hk;obtain⟨qs,h1,rfl⟩:=hk;simp only [bX] at hv;simpa [execOp,ho,mS] using (aNu hI hO hz (.inl ⟨fs,hu,hall,h1⟩) hv).lift
   ·cases hk
  ·rename_i z n e hz hu;split at hk
   ·rename_i hall;simp only [Option.map_eq_some_iff] at hk;obtain⟨qs,h1,rfl⟩:=hk;simp only [bX] at hv;simpa [execOp,ho,mS] using (aNu hI hO hz (.inr ⟨n,e,hu,hall,h1⟩) hv).lift
   ·cases hk
  ·cases hk
 ·rename_i t n parts ho;split at hk
  ·rename_i e hu;split at hk
   ·rename_i z ps hz hp;split at hk
    ·rename_i hcond;cases hk;simp only [bX] at hv;simpa [execOp,ho,mS] using (aQF hI hO hu hz hcond.1 hcond.2 hp hv).lift
    ·cases hk
   ·cases hk
  ·cases hk
 ·split at hk
  ·cases hk;simp [bX] at hv
  ·cases hk
 ·rename_i t a x ho;split at hk
  ·rename_i a' x' h1 h2;cases hk;split at hv
   ·split at hv<;>simp [bX] at hv
   ·simp [bX] at hv
  ·cases hk
 ·rename_i x ho;simp only [Option.map_eq_some_iff] at hk;obtain⟨a,h1,rfl⟩:=hk;simp only [bX] at hv;exact aQA hI (hO.out _ _ h1) o x ho rfl hv
 ·rename_i op t x y r ho;split at hk
  ·rename_i a b h1 h2;have hbin: ∀{aop:AOp},aop= .bin op a b→bX P' env aop=some v→mS P G w (execOp ρ o) v:=by
    intro aop e hv;subst e;simp only [bX] at hv;simpa [execOp,ho,mS] using (aVe hI (hO.out _ _ h1) (hO.out _ _ h2) t x y hv).lift
   have hnil: ∀{neg:Bool}{k:NK}{u:TypeDesc}{aop:AOp},(op=if neg then BinOp.neq else .eql)→P.underlying t=some u→v5 k u→lD neg k x y a b=some aop→bX P' env aop=some v→mS P G w (execOp ρ o) v:=by
    intro neg k u aop e hu hku he hv;subst e;simpa [execOp,ho,mS] using (aPk hI hO hc h1 h2 hu hku he hv).lift
   have hflat: ∀{neg:Bool},(op=if neg then BinOp.neq else .eql)→P.underlying t=some .bool→bX P' env (.eq neg a b)=some v→mS P G w (execOp ρ o) v:=by
    intro neg e hu hv;subst e;simp only [bX] at hv;simpa [execOp,ho,mS] using (aN5 hI (x:=x) (y:=y) (hO.out _ _ h1) (hO.out _ _ h2) hu hv).lift
   have hstr: ∀{neg:Bool}{fs:Array Field}{aop:AOp},(op=if neg then BinOp.neq else .eql)→P.underlying t=some (.struct fs)→(if P.stoodInHeld t||P.eqGuardType P.depth t then none else(yR P 0 fs.toList).map fun ks=>AOp.eqF neg ks a b)=some aop→bX P' env aop=some v→mS P G w (execOp ρ o) v:=by
    intro neg fs aop e hu hk' hv';subst e;split at hk'
    ·cases hk'
    ·rename_i hcl;simp only [Bool.or_eq_true,not_or,Bool.not_eq_true] at hcl;simp only [Option.map_eq_some_iff] at hk';obtain⟨ks,hks,rfl⟩:=hk';simp only [bX] at hv';simpa [execOp,ho,mS] using (aJC hI (x:=x) (y:=y) (hO.out _ _ h1) (hO.out _ _ h2) hu hcl.1 hcl.2 hks hv').lift
   split at hk
   ·split at hk
    ·cases hk;exact hbin rfl hv
    ·cases hk;exact hbin rfl hv
    ·rename_i hu;cases hk;exact hflat (neg:=false) rfl hu hv
    ·rename_i hu;exact hnil (neg:=false) rfl hu (by simp [v5]) hk hv
    ·rename_i hu;exact hnil (neg:=false) rfl hu (by simp [v5]) hk hv
    ·rename_i hu;exact hnil (neg:=false) rfl hu (by simp [v5]) hk hv
    ·rename_i hu;exact hnil (neg:=false) rfl hu (by simp [v5]) hk hv
    ·rename_i hu;exact hnil (neg:=false) rfl hu (by simp [v5]) hk hv
    ·rename_i hu;exact hstr (neg:=false) rfl hu hk hv
    ·cases hk
   ·split at hk
    ·cases hk;exact hbin rfl hv
    ·cases hk;exact hbin rfl hv
    ·rename_i hu;cases hk;exact hflat (neg:=true) rfl hu hv
    ·rename_i hu;exact hnil (neg:=true) rfl hu (by simp [v5]) hk hv
    ·rename_i hu;exact hnil (neg:=true) rfl hu (by simp [v5]) hk hv
    ·rename_i hu;exact hnil (neg:=true) rfl hu (by simp [v5]) hk hv
    ·rename_i hu;exact hnil (neg:=true) rfl hu (by simp [v5]) hk hv
    ·rename_i hu;exact hnil (neg:=true) rfl hu (by simp [v5]) hk hv
    ·rename_i hu;exact hstr (neg:=true) rfl hu hk hv
    ·cases hk
   ·cases hk;exact hbin rfl hv
  ·cases hk
 ·rename_i op t x ho;simp only [Option.map_eq_some_iff] at hk;obtain⟨a,h1,rfl⟩:=hk;have:nC P G w (Op.unary op (ρ x)) v:=aWy hI (hO.out _ _ h1) (by cases op<;>simp only [bX] at hv⊢ <;>first|exact hv|cases hv);simpa [execOp,ho,mS] using this.lift
 ·rename_i S T x ho;split at hk
  ·rename_i k1 k2 x' hs ht h1;cases hk;simp only [bX] at hv;simpa [execOp,ho,mS] using (aRO hI (hO.out _ _ h1) hs ht hv).lift
  ·rename_i x' hs ht h1;cases hk;have hr:=hO.out _ _ h1;simp only [bX] at hv;generalize evO P' env x'=C at hr hv;have key: ∃st,ρ x= .string st∧v=C:=by
    generalize ρ x=X at hr;cases hr<;>simp only [reduceCtorEq] at hv;rename_i st hst;simp [cS] at hv;exact⟨st,rfl,by rw [←hv,List.take_of_length_le (by simp)]⟩
   obtain⟨st,h3,rfl⟩:=key;refine⟨ρ x,w,G,?_,hI.quiet,hr⟩;simp [execOp,ho,convert,run_underlying hs,run_underlying ht,h3]
  ·cases hk
 ·rename_i t x ho;split at hk
  ·cases hk
  ·rename_i u x' hn hu h1;cases hk;simp only [bX] at hv;simpa [execOp,ho,mS] using (aNR hI hu (fun m e=>hn m e) (hO.out _ _ h1) hv).lift
  ·cases hk
 ·rename_i f a b ho;split at hk
  ·rename_i a' b' h1 h2;cases hk;simp only [bX] at hv;have:=(aQJ (f:=f) hI (vI hO h1) (vI hO h2) hv).lift;have e1:(a.toList.map ρ).toArray=a.map ρ:=by rw [←Array.toList_map,Array.toArray_toList]
   have e2:(b.toList.map ρ).toArray=b.map ρ:=by rw [←Array.toList_map,Array.toArray_toList]
   rw [e1,e2] at this;simpa [execOp,ho,mS] using this
  ·cases hk
 ·cases hk;simp [bX] at hv
 ·rename_i t l c ho;split at hk
  ·split at hk
   ·split at hk
    ·cases hk;simp [bX] at hv
    ·cases hk
   ·cases hk
  ·cases hk
 ·rename_i t x l u m ho;split at hk
  ·rename_i e x' l' u' m' hu h1 h2 h3 h4;split at hk
   ·rename_i he;cases hk;have he': ∃d,P.underlying e=some d:=Option.isSome_iff_exists.1 he;simp only [bX] at hv;simpa [execOp,ho,mS] using (aUb hI hO hu rfl he' (hO.out _ _ h1) hv h2 h3 h4).lift
   ·cases hk
  ·rename_i x' l' u' hu h1 h2 h3 h4;cases hk;have hm:m=none:=by cases m with|none=>rfl|some q=>simp only [sB,Option.map_eq_some_iff] at h4;obtain⟨_,_,hq⟩:=h4;cases hq
   subst hm;simp only [bX] at hv;simpa [execOp,ho,mS] using (aP4 hI hO hu (hO.out _ _ h1) h2 h3 hv).lift
  ·rename_i n e x' l' u' hu h1 h2 h3 h4;split at hk
   ·rename_i hcond;cases hk;simp at hcond;have he': ∃d,P.underlying e=some d:=Option.isSome_iff_exists.1 hcond.1;have hm:m=none:=by cases m with|none=>rfl|some q=>simp only [sB,Option.map_eq_some_iff] at h4;obtain⟨_,_,hq⟩:=h4;cases hq
    subst hm;simp only [bX] at hv;simpa [execOp,ho,mS] using (aUE hI hO hu rfl he' hcond.2 hv (hO.out _ _ h1) h2 h3).lift
   ·cases hk
  ·cases hk
 ·rename_i S x f ho;split at hk
  ·rename_i fs x' hu h1;split at hk
   ·rename_i fd hf;split at hk
    ·cases hk
    ·rename_i hz;cases hk;simp only [bX] at hv;simpa [execOp,ho,mS] using (aPR hI hu hf hz (hO.out _ _ h1) hv).lift
   ·cases hk
  ·cases hk
 ·rename_i S x f ho;split at hk
  ·rename_i fs x' hu h1;split at hk
   ·rename_i fd hf;simp only [Option.map_eq_some_iff] at hk;obtain⟨ag,hag,rfl⟩:=hk;simp only [bX] at hv;simpa [execOp,ho,mS] using (aRJ hI hu hf hag (hO.out _ _ h1) hv).lift
   ·cases hk
  ·cases hk
 ·rename_i t x i ho;split at hk
  ·rename_i e x' i' hu h1 h2;split at hk
   ·rename_i he;cases hk;have he': ∃d,P.underlying e=some d:=Option.isSome_iff_exists.1 he;simp only [bX] at hv;simpa [execOp,ho,mS] using (aUg hI hu rfl he' (hO.out _ _ h1) (hO.out _ _ h2) hv).lift
   ·cases hk
  ·rename_i n e x' i' hu h1 h2;split at hk
   ·rename_i he;cases hk;have he': ∃d,P.underlying e=some d:=Option.isSome_iff_exists.1 he;simp only [bX] at hv;simpa [execOp,ho,mS] using (aTJ hI hu rfl he' (hO.out _ _ h1) (hO.out _ _ h2) hv).lift
   ·cases hk
  ·cases hk
 ·rename_i t x i ho;split at hk
  ·rename_i x' i' hu h1 h2;cases hk;simp only [bX] at hv;simpa [execOp,ho,mS] using (aQ0 hI hu (hO.out _ _ h1) (hO.out _ _ h2) hv).lift
  ·cases hk
 ·split at hk
  ·split at hk
   ·cases hk;simp [bX] at hv
   ·cases hk
  ·cases hk
 ·split at hk
  ·simp only [Option.map_eq_some_iff] at hk;obtain⟨z,_,rfl⟩:=hk;simp [bX] at hv
  ·cases hk
 ·split at hk
  ·simp only [Option.map_eq_some_iff] at hk;obtain⟨z,_,rfl⟩:=hk;simp [bX] at hv
  ·cases hk
 ·split at hk
  ·cases hk;simp [bX] at hv
  ·cases hk
 ·simp only [Option.map_eq_some_iff] at hk;obtain⟨a,_,rfl⟩:=hk;simp [bX] at hv
 ·rename_i x xt t ok ho;split at hk
  ·cases hk
  ·rename_i u x' z hn hu h1 hz;cases hk;obtain⟨i,zv,hi,hzv,rz⟩:=aKq (G:=G) hz;simp only [bX] at hv;simpa [execOp,ho,mS] using (aPd hI hu (fun m e=>hn m e) hi hzv rz (hO.out _ _ h1) hv).lift
  ·cases hk
 ·rename_i x i ho;simp only [Option.map_eq_some_iff] at hk;obtain⟨a,h1,rfl⟩:=hk;simp only [bX] at hv;simpa [execOp,ho,mS] using (aOi hI (hO.out _ _ h1) hv).lift
 ·rename_i c ho;split at hk
  ·rename_i b hb;have hcall: ∃cs,(execOp ρ o).run P w=(builtin b c.argTypes o.type cs (c.args.map ρ)).run P w:=by
    simp only [execOp,ho,resolve,hb,Sem.run_bind,Sem.run_pure,Result.andThen_ok,invoke];exact⟨_,rfl⟩
   obtain⟨cs,hcall⟩:=hcall;unfold cO at hk;split at hk
   ·cases hk;simp [bX] at hv
   ·rename_i x hargs;have hx:c.args= #[x]:=by rw [←Array.toArray_toList (xs:=c.args),hargs]
    split at hk
    ·rename_i x' hu h1;cases hk;simp only [bX] at hv;obtain⟨t,ht,hu⟩:=Option.bind_eq_some_iff.1 hu;have:=(aQe (ty:=o.type) hI ht hu (hO.out _ _ h1) hv).lift;unfold mS;rw [hcall,hx];simpa [builtin] using this
    ·rename_i e x' hu h1;cases hk;simp only [bX] at hv;obtain⟨t,ht,hu⟩:=Option.bind_eq_some_iff.1 hu;have:=(aTO (ty:=o.type) hI ht hu (hO.out _ _ h1) hv).lift;unfold mS;rw [hcall,hx];simpa [builtin] using this
    ·rename_i n e x' hu h1;split at hk
     ·rename_i hn;cases hk;simp only [bX] at hv;cases hv;obtain⟨t,ht,hu⟩:=Option.bind_eq_some_iff.1 hu;have:=(aTE (ty:=o.type) (x:=ρ x) hI ht hu hn).lift;unfold mS;rw [hcall,hx];simpa [builtin] using this
     ·cases hk
    ·cases hk
   ·split at hk
    ·split at hk
     ·cases hk;simp [bX] at hv
     ·cases hk
    ·cases hk
   ·split at hk
    ·split at hk
     ·cases hk;simp [bX] at hv
     ·cases hk
    ·cases hk
   ·rename_i x y hargs;have hx:c.args= #[x,y]:=by rw [←Array.toArray_toList (xs:=c.args),hargs]
    split at hk
    ·rename_i k xs hu h1;cases hk;have hxs: ∃a b,xs= [a,b]∧dH x=some a∧dH y=some b:=by
      simp only [uL] at h1;split at h1
      ·rename_i a a_ e1 e2;split at e2
       ·rename_i b bs e3 e4;cases e4;cases e2;cases h1;exact⟨a,b,rfl,e1,e3⟩
       ·cases e2
      ·cases h1
     obtain⟨a,b,rfl,h2,h3⟩:=hxs;simp only [bX] at hv;have:=(aI6 (mx:=true) hI (hO.out _ _ h2) (hO.out _ _ h3) c.argTypes o.type hv).lift;unfold mS;rw [hcall,hx];simpa [builtin] using this
    ·cases hk
   ·rename_i x y hargs;have hx:c.args= #[x,y]:=by rw [←Array.toArray_toList (xs:=c.args),hargs]
    split at hk
    ·rename_i k xs hu h1;cases hk;have hxs: ∃a b,xs= [a,b]∧dH x=some a∧dH y=some b:=by
      simp only [uL] at h1;split at h1
      ·rename_i a a_ e1 e2;split at e2
       ·rename_i b bs e3 e4;cases e4;cases e2;cases h1;exact⟨a,b,rfl,e1,e3⟩
       ·cases e2
      ·cases h1
     obtain⟨a,b,rfl,h2,h3⟩:=hxs;simp only [bX] at hv;have:=(aI6 (mx:=false) hI (hO.out _ _ h2) (hO.out _ _ h3) c.argTypes o.type hv).lift;unfold mS;rw [hcall,hx];simpa [builtin] using this
    ·cases hk
   ·cases hk
  ·split at hk
   ·simp only [Option.some.injEq] at hk;split at hk
    ·cases hk;simp [bX] at hv
    ·split at hk<;>cases hk<;>simp [bX] at hv
   ·cases hk
  ·cases hk
 ·split at hk
  ·split at hk
   ·cases hk;simp [bX] at hv
   ·cases hk
  ·cases hk
 ·simp only [Option.map_eq_some_iff] at hk;obtain⟨a,_,rfl⟩:=hk;simp [bX] at hv
 ·cases hk
end
section
variable {P : Program} {B : Bs} {G : Gh} {s : ASt} {w : World} {P' : bA} {env : Env} {ρ : Operand → Value}
def aPu(kk:KK)(d:TypeDesc):Prop:=match kk with| .int=> ∃k,d= .int k| .str=>d= .string| .bool=>d= .bool
theorem aMp{t:TypeId}{kk:KK}(h:aIp P t=some kk): ∃d,P.underlying t=some d∧aPu kk d:=by
 unfold aIp at h;split at h<;>first|cases h|(simp at h;subst h)
 ·exact⟨_,by assumption,rfl⟩
 ·exact⟨_,by assumption,⟨_,rfl⟩⟩
 ·exact⟨_,by assumption,rfl⟩
theorem wV{kk:KK}{d:TypeDesc}(hd:aPu kk d){k a:AV}{xk xa:Value}(rk:R G (.v k xk))(ra:R G (.v a xa))(hk:keyOf kk k=true){r:Bool}(h:tI k a=some r):
  Instr.sameNow d xk xa=some r∧(r=true→ ∀n,Instr.sameBits n xa xk=true):=by
 rcases aIv h rk ra with ⟨j,n,m,rfl,rfl,rfl⟩|⟨p,q,rfl,rfl,rfl⟩|⟨p,q,rfl,rfl,rfl⟩
 ·cases rk with
  |nX=>simp [keyOf] at hk
  |int=>
   cases kk<;>simp [keyOf] at hk;obtain⟨k',rfl⟩:=hd;refine⟨by simp [Instr.sameNow],fun h n=> ?_⟩;simp at h;subst h;cases n<;>simp [Instr.sameBits]
 ·cases rk with
  |nX=>simp [keyOf] at hk
  |bool=>
   cases kk<;>simp [keyOf] at hk;cases hd;refine⟨by simp [Instr.sameNow],fun h n=> ?_⟩;simp at h;subst h;cases n<;>simp [Instr.sameBits]
 ·cases rk with
  |nX=>simp [keyOf] at hk
  |str=>
   cases kk<;>simp [keyOf] at hk;cases hd;refine⟨by simp [Instr.sameNow,bytes_beq],fun h n=> ?_⟩;have e:p=q:=by
    have:p.data.toList=q.data.toList:=by simpa using h
    cases p;cases q;simp at this;simpa using this
   subst e;have:(p==p)=true:=by rw [bytes_beq];simp
   cases n<;>simp [Instr.sameBits,this]
theorem aPl{kk:KK}{d:TypeDesc}(hd:aPu kk d){k:AV}{xk:Value}(rk:R G (.v k xk))(hk:keyOf kk k=true){es:List (AV×AV)}{ents:List MapEntry}(hm:vF G es ents):
  ∀{r},rI k es=some r→ ∀i,(r=none∧Instr.findNow d xk ents i=some none)∨(∃v j x,r=some v∧Instr.findNow d xk ents i=some (some (j,x))∧R G (.v v x)):=by
 induction hm with
 |nil=>intro r h i;simp [rI] at h;exact .inl ⟨h.symm,rfl⟩
 |cons hk' hv _ ih=>
  intro r h i;simp only [rI] at h;split at h
  ·rename_i hf;cases h;obtain⟨e1,_⟩:=wV hd rk hk' hk hf;exact .inr ⟨_,i,_,rfl,by simp only [Instr.findNow,e1],hv⟩
  ·rename_i hf;obtain⟨e1,_⟩:=wV hd rk hk' hk hf;rcases ih h (i+1) with ⟨h1,h2⟩|⟨v,j,x,h1,h2,h3⟩
   ·exact .inl ⟨h1,by simp only [Instr.findNow,e1];exact h2⟩
   ·exact .inr ⟨v,j,x,h1,by simp only [Instr.findNow,e1];exact h2,h3⟩
  ·cases h
theorem run_checkKey{kk:KK}{t:TypeId}{d:TypeDesc}(hu:P.underlying t=some d)(hd:aPu kk d)(b:Bool)(x:Value):(Instr.checkKey b 10000 t x).run P w= .ok () w:=by
 show(Instr.checkKey b (9999+1) t x).run P w= .ok () w;unfold Instr.checkKey;simp only [Sem.run_bind,run_underlying hu,Result.andThen_ok];cases kk with
 |int=>obtain⟨k,rfl⟩:=hd;rfl
 |str=>cases hd;rfl
 |bool=>cases hd;rfl
theorem R.aSb{a:AV}{x:Value}(r:R G (.v a x)){l:Nat}(h:a= .map l): ∃b,x= .map (some b)∧G.L l=some b:=by
 cases r<;>cases h;exact⟨_,rfl,by assumption⟩
theorem lF{b:Nat}{o:Obj}(h:w.heap[b]?=some o)(hn: ∀c e f,o≠ .cells c e f):(getObj b).run P w= .ok o w:=by
 cases o<;>first|(simp [getObj,Sem.run,h];done)|exact absurd rfl (hn _ _ _)
theorem Inv.at(hI:Inv P B G s w){l b:Nat}(hl:G.L l=some b){k:dG}(hk:s.blks[l]?=some k): ∃o,w.heap[b]?=some o∧oO P G b o k:=by
 have hlt:=(hI.l _ _ hl).2.1;exact⟨w.heap[b],by simp [hlt],hI.blk l b _ k hl (by simp [hlt]) hk⟩
theorem aMd{sz:Nat}{cs:List AV}{off:Nat}{v:AV}(h:partOf true sz cs off=some v):off+sz≤cs.length∧v= .agg ((cs.drop off).take sz):=by
 unfold partOf at h;simp only at h;split at h
 ·cases h;exact⟨by assumption,rfl⟩
 ·cases h
theorem aNy(hI:Inv P B G s w){t:TypeId}{ag:Bool}(hag:pC P t=some ag){a v:AV}{x:Value}(r:R G (.v a x))
(h:(match(generalizing:=false) a with
  | .aG v off=>(match(generalizing:=false) ag with
   |true=>(match off with
    |0=>if(cellsOf v).length=P.cellsOf t then some (AV.agg (cellsOf v)) else partOf true (P.cellsOf t) (cellsOf v) 0
    |off=>partOf true (P.cellsOf t) (cellsOf v) off)
   |false=>(cellsOf v)[off]?)
  | .ptr l off=>
   (match s.blks[l]? with
   |some (.cells cs _)=>(match(generalizing:=false) ag with
    |true=>(match partOf true (P.cellsOf t) cs off with|some v=>iK v|none=>none)
    |false=>cs[off]?)
   |_=>none)
  |_=>none)=some v):nC P G w (Instr.loadAt t x) v:=by
 obtain⟨d,hd⟩:=wX hag;have key: ∀(b o:Nat)(cs:List AV)(vs:List Value),R G (.k cs vs)→cs.length=P.cellsOf t→ag=true→(∀j y,vs[j]?=some y→w.cell? ⟨b,o+j,none⟩=some y)→
   (Instr.loadAt t (.pointer (some ⟨b,o,none⟩))).run P w= .ok (.agg vs.toArray) w:=by
  intro b o cs vs hk hl ha hc;subst ha;have:=run_loadCells_list (P:=P) w ⟨b,o,none⟩ vs (fun j y hy=>by rw [fI];exact hc j y hy);have hlen:vs.length=P.cellsOf t:=by rw [←hk.kW];exact hl
  rw [hlen] at this;simp [Instr.loadAt,Instr.sureAddr,loadVar,v9 hag,lQ hd,this]
 have key1: ∀(b o:Nat)(y:Value),ag=false→w.cell? ⟨b,o,none⟩=some y→(Instr.loadAt t (.pointer (some ⟨b,o,none⟩))).run P w= .ok y w:=by
  intro b o y ha hc;subst ha;simp [Instr.loadAt,Instr.sureAddr,loadVar,v9 hag,run_load,hc]
 have hpart: ∀(b o off:Nat)(cs:List AV)(vs:List Value)(v:AV),R G (.k cs vs)→partOf true (P.cellsOf t) cs off=some v→ag=true→(∀j y,vs[j]?=some y→w.cell? ⟨b,o+j,none⟩=some y)→
   ∃us:List Value,(Instr.loadAt t (.pointer (some ⟨b,o+off,none⟩))).run P w= .ok (.agg us.toArray) w∧R G (.v v (.agg us.toArray)):=by
  intro b o off cs vs v hk hp ha hc;obtain⟨h1,rfl⟩:=aMd hp;have hk2:=(hk.aBj off).aEY (P.cellsOf t);refine⟨(vs.drop off).take (P.cellsOf t),key b (o+off) _ _ hk2 (by rw [List.length_take,List.length_drop];omega) ha ?_,.agg hk2⟩;intro j y hy;rw [List.getElem?_take] at hy;split at hy
  ·rw [List.getElem?_drop] at hy;have:=hc _ _ hy;rwa [←Nat.add_assoc] at this
  ·cases hy
 cases r with
 |aG off hc hM=>
  rename_i v0 vs b o;have hcell: ∀j y,vs[j]?=some y→w.cell? ⟨b,o+j,none⟩=some y:=fun j y hy=>hI.m _ _ _ (hM j y hy);simp only at h;cases ag with
  |true=>
   simp only at h;split at h
   ·split at h
    ·rename_i hl;cases h;exact .of hI (key b o _ vs hc.c_k hl rfl hcell) (.agg hc.c_k)
    ·obtain⟨us,h1,h2⟩:=hpart b o 0 _ vs v hc.c_k h rfl hcell;exact .of hI h1 h2
   ·obtain⟨us,h1,h2⟩:=hpart b o off _ vs v hc.c_k h rfl hcell;exact .of hI h1 h2
  |false=>
   simp only at h;obtain⟨y,h1,h2,_⟩:=hc.c_k.aQx h;exact .of hI (key1 b (o+off) y rfl (hcell off y h1)) h2
 |ptr off hL=>
  rename_i l b;simp only at h;split at h
  ·rename_i cs wr hb;obtain⟨o,ho,hok⟩:=hI.at hL hb;obtain⟨vs,e,rfl,hk,_,_⟩:=hok;have hcell: ∀j y,vs[j]?=some y→w.cell? ⟨b,0+j,none⟩=some y:=fun j y hy=>by rw [Nat.zero_add,w8 ho];exact hy
   cases ag with
   |true=>
    simp only at h;split at h
    ·rename_i v1 hv1;obtain⟨us,h1,h2⟩:=hpart b 0 off _ vs v1 hk hv1 rfl hcell;rw [Nat.zero_add] at h1;exact .of hI h1 (qX h h2).1
    ·cases h
   |false=>
    simp only at h;obtain⟨y,h1,h2,_⟩:=hk.aQx h;exact .of hI (key1 b off y rfl (by have:=hcell off y h1;rwa [Nat.zero_add] at this)) h2
  ·cases h
 |_=>simp at h
theorem aNN(hI:Inv P B G s w){t kt et:TypeId}(hu:P.underlying t=some (.map kt et)){kk:KK}(hkt:aIp P kt=some kk){z:AV}(hz:zeroV P et=some z){ok:Bool}{m k v:AV}{xm xk:Value}(rm:R G (.v m xm))(rk:R G (.v k xk))
(h:(match(generalizing:=false) m with
  | .map l=>
   (match s.blks[l]? with
   |some (.map es)=>
    if keyOf kk k then
     (match rI k es with
     |some (some v)=>some (match ok with|true=>AV.tuple [v,.bool true]|false=>v)
     |some none=>some (match ok with|true=> .tuple [z,.bool false]|false=>z)
     |none=>none)
    else none
   |_=>none)
  | .eQ=>some (match ok with|true=> .tuple [z,.bool false]|false=>z)
  |_=>none)=some v):nC P G w (Instr.lookup t xm xk ok) v:=by
 obtain⟨d,hd,hkk⟩:=aMp hkt;obtain⟨i,zv,hi,hzv,rz⟩:=aKq (G:=G) hz;have two: ∀{p q:AV}{xp xq:Value},R G (.v p xp)→R G (.v q xq)→R G (.v (.tuple [p,q]) (.tuple #[xp,xq])):=fun h1 h2=>by simpa using R.tuple (.gN h1 (.gN h2 .tF))
 cases rm with
 |eQ=>
  simp only at h;cases h;have hc:=fun b=>run_checkKey (w:=w) hd hkk b xk;cases ok with
  |true=>exact .of hI (x:= .tuple #[zv,.bool false]) (by simp [Instr.lookup,run_underlying hu,hc,Instr.findKey,run_underlying hd,Instr.findNow,eC hi hzv]) (two rz (.bool _))
  |false=>exact .of hI (x:=zv) (by simp [Instr.lookup,run_underlying hu,hc,Instr.findKey,run_underlying hd,Instr.findNow,eC hi hzv]) rz
 |map hL=>
  rename_i l b;simp only at h;split at h
  ·rename_i es hb;obtain⟨o,ho,hok⟩:=hI.at hL hb;obtain⟨ents,clock,rfl,hm⟩:=hok;split at h
   ·rename_i hkey;have hc:=fun b=>run_checkKey (w:=w) hd hkk b xk;cases hf:rI k es with
    |none=>rw [hf] at h;cases h
    |some r=>
     rw [hf] at h;rcases aPl hkk rk hkey hm hf 0 with ⟨rfl,h2⟩|⟨v1,j,x,rfl,h2,h3⟩
     ·cases h;cases ok with
      |true=>exact .of hI (x:= .tuple #[zv,.bool false]) (by simp [Instr.lookup,run_underlying hu,lF ho (by simp),hc,Instr.findKey,run_underlying hd,h2,eC hi hzv]) (two rz (.bool _))
      |false=>exact .of hI (x:=zv) (by simp [Instr.lookup,run_underlying hu,lF ho (by simp),hc,Instr.findKey,run_underlying hd,h2,eC hi hzv]) rz
     ·cases h;cases ok with
      |true=>exact .of hI (x:= .tuple #[x,.bool true]) (by simp [Instr.lookup,run_underlying hu,lF ho (by simp),hc,Instr.findKey,run_underlying hd,h2]) (two h3 (.bool _))
      |false=>exact .of hI (x:=x) (by simp [Instr.lookup,run_underlying hu,lF ho (by simp),hc,Instr.findKey,run_underlying hd,h2]) h3
   ·cases h
  ·cases h
 |_=>simp at h
end
structure Css(G:Gh)(sz:Nat)(xs:List AV)(css:List (List Value)):Prop where
 len:css.length=xs.length
 get: ∀(i:Nat)(a:AV),xs[i]?=some a→ ∃vs,css[i]?=some vs∧R G (.c a vs)∧vs.length=sz
theorem Css.nil{G:Gh}{sz:Nat}:Css G sz [] []:=⟨rfl,by simp⟩
theorem Css.cons{G:Gh}{sz:Nat}{x:AV}{xs:List AV}{vs:List Value}{css:List (List Value)}(h:R G (.c x vs))(hl:vs.length=sz)(k:Css G sz xs css):Css G sz (x::xs) (vs::css):=by
 refine⟨by simp [k.len],fun i a ha=> ?_⟩;cases i with
 |zero=>simp at ha;subst ha;exact⟨vs,rfl,h,hl⟩
 |succ i=>simpa using k.get i a (by simpa using ha)
theorem Css.tail{G:Gh}{sz:Nat}{x:AV}{xs:List AV}{vs:List Value}{css:List (List Value)}(k:Css G sz (x::xs) (vs::css)):R G (.c x vs)∧vs.length=sz∧Css G sz xs css:=by
 obtain⟨us,h1,h2,h3⟩:=k.get 0 x rfl;simp at h1;subst h1;exact⟨h2,h3,by have:=k.len;simpa using this,fun i a ha=>by simpa using k.get (i+1) a (by simpa using ha)⟩
theorem Css.mono{G G':Gh}(hG:G.le G'){sz:Nat}{xs:List AV}{css:List (List Value)}(k:Css G sz xs css):Css G' sz xs css:=
 ⟨k.len,fun i a ha=>by obtain⟨vs,h1,h2,h3⟩:=k.get i a ha;exact⟨vs,h1,h2.mono hG,h3⟩⟩
theorem Css.append{G:Gh}{sz:Nat}: ∀{xs ys:List AV}{css dss:List (List Value)},Css G sz xs css→Css G sz ys dss→Css G sz (xs++ys) (css++dss)
 | [],ys,css,dss,h,k=>by have:=h.len;simp at this;subst this;exact k
 |x::xs,ys,[],dss,h,k=>by have:=h.len;simp at this
 |x::xs,ys,vs::css,dss,h,k=>by obtain⟨h1,h2,h3⟩:=h.tail;exact .cons h1 h2 (h3.append k)
theorem Css.take{G:Gh}{sz:Nat}: ∀(n:Nat){xs:List AV}{css:List (List Value)},Css G sz xs css→Css G sz (xs.take n) (css.take n)
 |0,xs,css,_=> .nil
 |n+1,[],css,h=>by have:=h.len;simp at this;subst this;exact .nil
 |n+1,x::xs,[],h=>by have:=h.len;simp at this
 |n+1,x::xs,vs::css,h=>by obtain⟨h1,h2,h3⟩:=h.tail;exact .cons h1 h2 (h3.take n)
theorem Css.flat{G:Gh}{sz:Nat}: ∀{xs:List AV}{css:List (List Value)},Css G sz xs css→R G (.k (lG xs) css.flatten)∧css.flatten.length=xs.length*sz
 | [],css,h=>by have:=h.len;simp at this;subst this;exact⟨by simpa [lG] using R.iI,by simp⟩
 |x::xs,[],h=>by have:=h.len;simp at this
 |x::xs,vs::css,h=>by
  obtain⟨h1,h2,h3⟩:=h.tail;obtain⟨k1,k2⟩:=h3.flat;refine⟨?_,?_⟩
  ·simpa [lG] using R.vH h1.c_k k1
  ·simp only [List.flatten_cons,List.length_append,List.length_cons,h2,k2,Nat.add_mul];omega
theorem Css.row{G:Gh}{sz b o:Nat}{xs:List AV}{css:List (List Value)}(h:Css G sz xs css)(hM: ∀j y,css.flatten[j]?=some y→G.M b (o+j)=some y):R G (.r sz xs b o):=
 R.aVx h.get h.len.symm hM
theorem aM6{G:Gh}{sz b:Nat}: ∀{xs:List AV}{o:Nat},R G (.r sz xs b o)→ ∃css,Css G sz xs css∧ ∀j y,css.flatten[j]?=some y→G.M b (o+j)=some y
 | [],o,_=>⟨[],.nil,by simp⟩
 |x::xs,o,h=>by
  cases h with
  |n6 hc hl hM t=>
   rename_i vs;obtain⟨css,h1,h2⟩:=aM6 t;refine⟨vs::css,.cons hc hl h1,fun j y hy=> ?_⟩;simp only [List.flatten_cons] at hy;rcases Nat.lt_or_ge j vs.length with hj|hj
   ·rw [List.getElem?_append_left hj] at hy;exact hM j y hy
   ·rw [List.getElem?_append_right hj] at hy;have:=h2 _ _ hy;rw [show o+sz+(j-vs.length)=o+j from by omega] at this;exact this
theorem aTR{G:Gh}{a a':AV}{vs:List Value}(h:iK a=some a')(r:R G (.c a vs)):R G (.c a' vs):=R.aPH (aEg h vs r.c_k)
theorem aGv{G:Gh}{sz:Nat}: ∀{xs ys:List AV}{css:List (List Value)},eD xs=some ys→Css G sz xs css→Css G sz ys css
 | [],ys,css,h,k=>by simp [eD] at h;subst h;exact k
 |x::xs,ys,[],h,k=>by have:=k.len;simp at this
 |x::xs,ys,vs::css,h,k=>by
  obtain⟨h1,h2,h3⟩:=k.tail;simp only [eD] at h;split at h
  ·cases h
  ·rename_i y hy;split at h
   ·cases h
   ·rename_i ys' hys;cases h;exact .cons (aTR hy h1) h2 (aGv hys h3)
theorem aLs{G:Gh}{sz:Nat}: ∀{n:Nat}{cs:List AV}{vs:List Value},R G (.k cs vs)→n*sz≤cs.length→ ∃css,Css G sz (chunks sz n cs) css∧css.flatten=vs.take (n*sz):=by
 intro n
 induction n with
 |zero=>intro cs vs _ _;exact⟨[],.nil,by simp⟩
 |succ n ih=>
  intro cs vs r hl;have hl':sz≤cs.length:=by rw [Nat.add_mul] at hl;omega
  have hvl:cs.length=vs.length:=r.kW;obtain⟨css,h1,h2⟩:=ih (r.aBj sz) (by rw [List.length_drop];rw [Nat.add_mul] at hl;omega);have hvs:(vs.take sz).length=sz:=by rw [List.length_take];omega
  refine⟨vs.take sz::css,?_,?_⟩
  ·unfold chunks;refine .cons ?_ hvs h1;split
   ·cases r with
    |iI=>simp at hl'
    |cY g1 g2 t=>exact .yC (aBb g1 g2) g2 g1
   ·exact .wI (r.aEY sz)
  ·rw [List.flatten_cons,h2,Nat.add_mul,Nat.one_mul,Nat.add_comm (n*sz) sz,List.take_add]
theorem aEv{sz:Nat}: ∀{n:Nat}{cs:List AV},(chunks sz n cs).length=n
 |0,_=>rfl
 |n+1,cs=>by simp [chunks,aEv]
theorem aGw: ∀{a_ as':List AV},eD a_=some as'→as'.length=a_.length
 | [],as',h=>by simp [eD] at h;subst h;rfl
 |a::a_,as',h=>by
  simp only [eD] at h;split at h
  ·cases h
  ·split at h
   ·cases h
   ·rename_i ys hys;cases h;simp [aGw hys]
section
variable {P : Program} {B : Bs} {G : Gh} {s : ASt} {w : World} {P' : bA} {env : Env} {ρ : Operand → Value}
theorem aEt(hI:Inv P B G s w){l off len sz b:Nat}(hL:G.L l=some b){xs:List AV}(h:rowOf s l off len sz=some xs):
  ∃css,Css G sz xs css∧xs.length=len∧(∀j y,css.flatten[j]?=some y→w.cell? ⟨b,off+j,none⟩=some y):=by
 unfold rowOf at h;split at h
 ·rename_i cs wr hb;obtain⟨o,ho,hok⟩:=hI.at hL hb;obtain⟨vs,e,rfl,hk,_,_⟩:=hok;split at h
  ·rename_i hc;obtain⟨css,h1,h2⟩:=aLs (n:=len) (sz:=sz) (hk.aBj off) (by rw [List.length_drop];omega);refine⟨css,aGv h h1,by rw [aGw h,aEv],fun j y hy=> ?_⟩;rw [h2,List.getElem?_take] at hy;split at hy
   ·rw [List.getElem?_drop] at hy;rw [w8 ho];exact hy
   ·cases hy
  ·cases h
 ·cases h
theorem vP{sz:Nat}: ∀{css:List (List Value)}{n j:Nat}{y:Value},(∀c∈css,c.length=sz)→(css.take n).flatten[j]?=some y→css.flatten[j]?=some y
 | [],n,j,y,_,h=>by simp at h
 |c::css,0,j,y,_,h=>by simp at h
 |c::css,n+1,j,y,hl,h=>by
  simp only [List.take_succ_cons,List.flatten_cons] at h⊢;rcases Nat.lt_or_ge j c.length with hj|hj
  ·rw [List.getElem?_append_left hj] at h⊢;exact h
  ·rw [List.getElem?_append_right hj] at h⊢;exact vP (fun x hx=>hl x (List.mem_cons_of_mem _ hx)) h
theorem Css.all{sz:Nat}{xs:List AV}{css:List (List Value)}(h:Css G sz xs css): ∀c∈css,c.length=sz:=by
 intro c hc;obtain⟨i,hi,rfl⟩:=List.mem_iff_getElem.1 hc;have hx:i<xs.length:=by rw [←h.len];exact hi
 obtain⟨vs,h1,_,h3⟩:=h.get i xs[i] (by simp [hx]);rw [List.getElem?_eq_getElem hi] at h1;cases h1;exact h3
theorem aBE(hI:Inv P B G s w){esz:Nat}{a:AV}{x:Value}(r:R G (.v a x)){ys:List AV}(h:elems s esz a=some ys):
  ∃css A c,x= .slice A ys.length c∧Css G esz ys css∧ ∀w':World,w'.heap=w.heap→ ∀n,n≤ys.length→(Builtin.firstCells esz n x).run P w'= .ok (css.take n).flatten.toArray w':=by
 have key: ∀(b o c:Nat)(css:List (List Value)),Css G esz ys css→(∀j y,css.flatten[j]?=some y→w.cell? ⟨b,o+j,none⟩=some y)→
   ∀w':World,w'.heap=w.heap→ ∀n,n≤ys.length→(Builtin.firstCells esz n (.slice (some ⟨b,o,none⟩) ys.length c)).run P w'= .ok (css.take n).flatten.toArray w':=by
  intro b o c css hc hcell w' hw n hn;refine run_firstCells_some w' esz n _ _ _ _ ?_ ?_
  ·rw [(hc.take n).flat.2,List.length_take,Nat.min_eq_left hn]
  ·intro j y hy;rw [fI];have:=hcell j y (vP hc.all hy);rw [qO (w:=w) (w':=w') (by rw [hw])];exact this
 have none0: ∀(A:Option Addr)(c:Nat)(w':World),∀n,n≤0→(Builtin.firstCells esz n (.slice A 0 c)).run P w'= .ok ((([]:List (List Value)).take n).flatten.toArray) w':=by
  intro A c w' n hn;have:n=0:=by omega
  subst this;cases A with
  |none=>simp [Builtin.firstCells]
  |some A=>simp [Builtin.firstCells,loadCells,loadCellsFrom]
 cases r with
 |cZ hm ho=>
  simp only [elems] at h;split at h
  ·cases h;exact⟨[],_,_,rfl,.nil,fun w' _=>none0 _ _ w'⟩
  ·cases h
 |dQ hc hm hr ho=>
  rename_i sz xs o b off c;simp only [elems] at h;split at h
  ·rename_i hcond;cases h;by_cases hs:sz=esz
   ·subst hs;obtain⟨css,h1,h2⟩:=aM6 hr;exact⟨css,_,_,rfl,h1,key b off c css h1 fun j y hy=>hI.m _ _ _ (h2 j y hy)⟩
   ·have hnil:ys= []:=by simpa [hs] using hcond
    subst hnil;exact⟨[],_,_,rfl,.nil,fun w' _=>none0 _ _ w'⟩
  ·cases h
 |ms hL hc hm=>
  simp only [elems] at h;split at h
  ·rename_i hs;subst hs;obtain⟨css,h1,h2,h3⟩:=aEt hI hL h;subst h2;exact⟨css,_,_,rfl,h1,key _ _ _ css h1 h3⟩
  ·cases h
 |_=>simp [elems] at h
def Gh.aBp(G:Gh)(t n b c sz:Nat):Gh:={G with H:=fun t' n'=>if t'=t∧n'=n then some (b,c,sz) else G.H t' n'}
theorem sJ{t n b c sz:Nat}:(G.aBp t n b c sz).H t n=some (b,c,sz):=by simp [Gh.aBp]
theorem p4{t n b c sz t' n':Nat}(h: ¬(t'=t∧n'=n)):(G.aBp t n b c sz).H t' n'=G.H t' n':=by simp only [Gh.aBp,if_neg h]
theorem aDW{t n b c sz:Nat}(h:G.H t n=none):G.le (G.aBp t n b c sz) where
 M:=fun _ _ _ h=>h
 L:=fun _ _ h=>h
 H:=fun t' n' x hx=>by
  by_cases e:t'=t∧n'=n
  ·obtain⟨rfl,rfl⟩:=e;rw [h] at hx;cases hx
  ·rw [p4 e];exact hx
theorem Inv.aPL(h:Inv P B G s w){t n b c sz:Nat}{toks':List Nat}(hself:toks'[t]?=some n)(hoth: ∀t',t'≠t→toks'[t']?=s.toks[t']?)(hless: ∀n0,s.toks[t]?=some n0→n0<n)
(hnp: ¬B.Pr b){e:TypeId}{cur:Array Value}(hb:w.heap[b]?=some (.cells cur e (0,0)))(hcur:cur.size=c*sz)(hsz:0<sz)(hnc:n≤c)(hcm:c≤maxLen)(hM: ∀j,n*sz≤j→G.M b j=none)
(hL: ∀ℓ,G.L ℓ≠some b)(hfree: ∀t' n' b' c' sz',t'≠t→s.toks[t']?=some n'→G.H t' n'=some (b',c',sz')→b'≠b):
  G.H t n=none∧Inv P B (G.aBp t n b c sz) {s with toks:=toks'} w:=by
 have hnone:G.H t n=none:=by
  cases hx:G.H t n with
  |none=>rfl
  |some x=>
   obtain⟨n0,h1,h2⟩:=h.hh t n x hx;have:=hless n0 h1;omega
 have hle:=aDW (b:=b) (c:=c) (sz:=sz) hnone;refine⟨hnone,?_⟩;exact{
  os:=h.os,tape:=h.tape,output:=h.output,size:=h.size,pr:=h.pr,prM:=h.prM,m:=h.m,l:=h.l,inj:=h.inj
  blk:=fun ℓ b' o k hl ho hk=>(h.blk ℓ b' o k hl ho hk).mono hle fun cs hc j=>by
   have:=h.blk ℓ b' o k hl ho hk;subst hc;obtain⟨_,_,_,_,h3,_⟩:=this;exact h3 rfl j
  tok:=fun t' n' ht'=>by
   by_cases e':t'=t
   ·subst e';rw [hself] at ht';cases ht';exact⟨b,c,sz,sJ,hnp,aNA hb,⟨e,cur,hb,hcur⟩,hsz,hnc,hcm,hM,hL⟩
   ·rw [hoth t' e'] at ht';obtain⟨b',c',sz',k⟩:=h.tok t' n' ht';exact⟨b',c',sz',by rw [p4 (fun q=>e' q.1)];exact k.h,k.np,k.lt,k.blk,k.szp,k.nc,k.cm,k.m,k.l⟩
  nP:=fun t1 t2 n1 n2 b1 c1 sz1 c2 sz2 h1 h2 h3 h4=>by
   by_cases e1:t1=t
   ·by_cases e2:t2=t
    ·rw [e1,e2]
    ·subst e1;rw [hself] at h1;cases h1;rw [sJ] at h3;cases h3;rw [hoth t2 e2] at h2;rw [p4 (fun q=>e2 q.1)] at h4;exact absurd rfl (hfree t2 n2 _ _ _ e2 h2 h4)
   ·rw [hoth t1 e1] at h1;rw [p4 (fun q=>e1 q.1)] at h3;by_cases e2:t2=t
    ·subst e2;rw [hself] at h2;cases h2;rw [sJ] at h4;cases h4;exact absurd rfl (hfree t1 n1 _ _ _ e1 h1 h3)
    ·rw [hoth t2 e2] at h2;rw [p4 (fun q=>e2 q.1)] at h4;exact h.nP t1 t2 n1 n2 b1 c1 sz1 c2 sz2 h1 h2 h3 h4
  hh:=fun t1 n1 x hx=>by
   by_cases e1:t1=t∧n1=n
   ·obtain⟨rfl,rfl⟩:=e1;exact⟨_,hself,Nat.le_refl _⟩
   ·rw [p4 e1] at hx;obtain⟨n0,h1,h2⟩:=h.hh t1 n1 x hx;by_cases e2:t1=t
    ·subst e2;exact⟨n,hself,by have:=hless n0 h1;omega⟩
    ·exact⟨n0,by rw [hoth t1 e2];exact h1,h2⟩
  tot:=h.tot}
theorem Inv.aQw(h:Inv P B G s w){t n b c sz:Nat}(ht:s.toks[t]?=some n)(hH:G.H t n=some (b,c,sz)){e:TypeId}{cur:Array Value}(hb:w.heap[b]?=some (.cells cur e (0,0)))
{vs:List Value}(hlen:vs.length=cur.size)(hkeep: ∀j,j<n*sz→vs[j]?=cur[j]?){n':Nat}(hn:n<n')(hnc:n'≤c):
  G.le ((G.mB b (n*sz) (n'*sz) vs).aBp t n' b c sz)∧Inv P B ((G.mB b (n*sz) (n'*sz) vs).aBp t n' b c sz) {s with toks:=s.toks.set t n'} (w.putObj b (.cells vs.toArray e (0,0))):=by
 obtain⟨b0,c0,sz0,k⟩:=h.tok t n ht;have hq:=k.h;rw [hH] at hq;cases hq;have hle0:G.le (G.mB b (n*sz) (n'*sz) vs):=Gh.aBl fun o h1 _ x hx=>by rw [k.m o h1] at hx;cases hx
 have hnone:(G.mB b (n*sz) (n'*sz) vs).H t n'=none:=by
  show G.H t n'=none;cases hx:G.H t n' with
  |none=>rfl
  |some x=>
   obtain⟨n0,h1,h2⟩:=h.hh t n' x hx;rw [ht] at h1;cases h1;omega
 have hle:G.le ((G.mB b (n*sz) (n'*sz) vs).aBp t n' b c sz):=hle0.trans (aDW hnone);have hlt:=k.lt;have htl:t<s.toks.length:=(List.getElem?_eq_some_iff.1 ht).1;have hself:(s.toks.set t n')[t]?=some n':=List.getElem?_set_self htl;have hoth: ∀t',t'≠t→(s.toks.set t n')[t']?=s.toks[t']?:=fun t' ht'=>List.getElem?_set_ne (fun e=>ht' e.symm);have hne: ∀{x},x≠b→(w.putObj b (.cells vs.toArray e (0,0))).heap[x]?=w.heap[x]?:=fun hx=>World.putObj_heap_other hx;have hse:(w.putObj b (.cells vs.toArray e (0,0))).heap[b]?=some (.cells vs.toArray e (0,0)):=World.putObj_heap_same hlt;have hsz:(w.putObj b (.cells vs.toArray e (0,0))).heap.size=w.heap.size:=by simp [World.putObj]
 obtain⟨e0,cur0,hb0,hcur0⟩:=k.blk;rw [hb] at hb0;cases hb0;have hMn: ∀{x j},x≠b→((G.mB b (n*sz) (n'*sz) vs).aBp t n' b c sz).M x j=G.M x j:=fun hx=>zX hx;refine⟨hle,?_⟩;exact{
  os:=h.os,tape:=h.tape,output:=h.output,size:=by rw [hsz];exact h.size
  pr:=fun x hx=>(hne (fun e'=>k.np (e'▸hx))).trans (h.pr x hx)
  prM:=fun x hx o=>by rw [hMn (fun e'=>k.np (e'▸hx))];exact h.prM x hx o
  m:=fun x j v hv=>by
   by_cases e':x=b
   ·subst e';rw [w8 hse];change (G.mB x (n*sz) (n'*sz) vs).M x j=some v at hv;by_cases hj:n*sz≤j∧j<n'*sz
    ·rw [p5 hj.1 hj.2] at hv;exact hv
    ·rw [aB0 hj] at hv;have hjn:j<n*sz:=by
      rcases Nat.lt_or_ge j (n*sz) with q|q
      ·exact q
      ·rw [k.m j q] at hv;cases hv
     rw [hkeep j hjn];have:=h.m x j v hv;simpa [World.cell?,hb] using this
   ·rw [hMn e'] at hv;rw [qO (hne e')];exact h.m x j v hv
  l:=fun ℓ x hx=>⟨(h.l ℓ x hx).1,by rw [hsz];exact(h.l ℓ x hx).2.1,(h.l ℓ x hx).2.2⟩
  inj:=h.inj
  blk:=fun ℓ x o k' hx ho hk'=>by
   have hxb:x≠b:=fun e'=>k.l ℓ (e'▸hx);rw [hne hxb] at ho;exact(h.blk ℓ x o k' hx ho hk').mono hle fun cs hc j=>by
    rw [hMn hxb];have:=h.blk ℓ x o k' hx ho hk';subst hc;obtain⟨_,_,_,_,h3,_⟩:=this;exact h3 rfl j
  tok:=fun t' n1 ht'=>by
   by_cases e':t'=t
   ·subst e';have ht2:(s.toks.set t' n')[t']?=some n1:=ht';rw [hself] at ht2;cases ht2;refine⟨b,c,sz,sJ,k.np,by rw [hsz];exact hlt,⟨e,vs.toArray,hse,by simpa [hlen] using hcur0⟩,k.szp,hnc,k.cm,fun j hj=> ?_,k.l⟩;show(G.mB b (n*sz) (n'*sz) vs).M b j=none;rw [aB0 (by omega)];have:n*sz≤n'*sz:=Nat.mul_le_mul_right _ (by omega);exact k.m j (by omega)
   ·have ht2:(s.toks.set t n')[t']?=some n1:=ht';rw [hoth t' e'] at ht2;obtain⟨x,c',sz',k'⟩:=h.tok t' n1 ht2;have hxb:x≠b:=fun e2=>e' (h.nP t' t n1 n x c' sz' c sz ht2 ht k'.h (e2▸hH));exact⟨x,c',sz',by rw [p4 (fun q=>e' q.1)];exact k'.h,k'.np,by rw [hsz];exact k'.lt,by rw [hne hxb];exact k'.blk,k'.szp,k'.nc,k'.cm,fun j hj=>by rw [hMn hxb];exact k'.m j hj,k'.l⟩
  nP:=fun t1 t2 n1 n2 b1 c1 sz1 c2 sz2 h1 h2 h3 h4=>by
   change (s.toks.set t n')[t1]?=some n1 at h1;change (s.toks.set t n')[t2]?=some n2 at h2;have hfree: ∀t' n1 b' c' sz',t'≠t→s.toks[t']?=some n1→G.H t' n1=some (b',c',sz')→b'≠b:=fun t' n1 b' c' sz' e' hq1 hq2 e2=>e' (h.nP t' t n1 n b' c' sz' c sz hq1 ht hq2 (e2▸hH));by_cases e1:t1=t
   ·by_cases e2:t2=t
    ·rw [e1,e2]
    ·subst e1;rw [hself] at h1;cases h1;rw [sJ] at h3;cases h3;rw [hoth t2 e2] at h2;rw [p4 (fun q=>e2 q.1)] at h4;exact absurd rfl (hfree t2 n2 _ _ _ e2 h2 h4)
   ·rw [hoth t1 e1] at h1;rw [p4 (fun q=>e1 q.1)] at h3;by_cases e2:t2=t
    ·subst e2;rw [hself] at h2;cases h2;rw [sJ] at h4;cases h4;exact absurd rfl (hfree t1 n1 _ _ _ e1 h1 h3)
    ·rw [hoth t2 e2] at h2;rw [p4 (fun q=>e2 q.1)] at h4;exact h.nP t1 t2 n1 n2 b1 c1 sz1 c2 sz2 h1 h2 h3 h4
  hh:=fun t1 n1 x hx=>by
   show∃n0,(s.toks.set t n')[t1]?=some n0∧n1≤n0;by_cases e1:t1=t∧n1=n'
   ·obtain⟨rfl,rfl⟩:=e1;exact⟨_,hself,Nat.le_refl _⟩
   ·rw [p4 e1] at hx;obtain⟨n0,h1,h2⟩:=h.hh t1 n1 x hx;by_cases e2:t1=t
    ·subst e2;rw [ht] at h1;cases h1;exact⟨n',hself,by omega⟩
    ·exact⟨n0,by rw [hoth t1 e2];exact h1,h2⟩
  tot:=h.tot}
end
section
variable {P : Program} {B : Bs} {G : Gh} {s s1 : ASt} {w : World} {P' : bA} {env : Env} {ρ : Operand → Value}
def aE6(P:Program)(B:Bs)(G:Gh)(s1:ASt)(w:World)(m:Sem Next)(v:AV):Prop:=
 ∃n x w' G',m.run P w= .ok n w'∧(n=Next.value x∨(n= .skip∧x=undef))∧G.le G'∧Inv P B G' s1 w'∧R G' (.v v x)
theorem R.box{a:AV}{x:Value}(r:R G (.v a x))(h:xH a=true):R G (.k (cellsOf a) x.cells.toList):=by
 cases r with
 |tuple=>simp [xH] at h
 |nX=>simp [xH] at h
 |agg hk=>simpa [Value.cells,cellsOf] using hk
 |int h'=>exact .cY (.int h') rfl .iI
 |bool b=>exact .cY (.bool b) rfl .iI
 |str s hs=>exact .cY (.str s hs) rfl .iI
 |cZ hm ho=>exact .cY (.cZ hm ho) rfl .iI
 |dQ hc hm hr ho=>exact .cY (.dQ hc hm hr ho) rfl .iI
 |ms hL hc hm=>exact .cY (.ms hL hc hm) rfl .iI
 |eH=>exact .cY .eH rfl .iI
 |ptr off hL=>exact .cY (.ptr off hL) rfl .iI
 |aG off hc hM=>exact .cY (.aG off hc hM) rfl .iI
 |func ha hb=>exact .cY (.func ha hb) rfl .iI
 |dP=>exact .cY .dP rfl .iI
 |yield hL=>exact .cY (.yield hL) rfl .iI
 |map hL=>exact .cY (.map hL) rfl .iI
 |eQ=>exact .cY .eQ rfl .iI
 |iface h1=>exact .cY (.iface h1) rfl .iI
 |cI=>exact .cY .cI rfl .iI
 |iter hL=>exact .cY (.iter hL) rfl .iI
theorem Inv.aE9(hI:Inv P B G s w){cs:List AV}{vs:List Value}(r:R G (.k cs vs))(e:TypeId):
  G.le (G.yH s.blks.length w.heap.size)∧Inv P B (G.yH s.blks.length w.heap.size) {s with blks:=s.blks++ [.cells cs true]} (w.alloc (.cells vs.toArray e)):=by
 have hle:G.le (G.yH s.blks.length w.heap.size):=Gh.wQ hI.aLV;exact⟨hle,hI.aCo _ _ ⟨vs,e,rfl,r.mono hle,fun _ j=>hI.aO6 j,fun h=>by cases h⟩⟩
theorem aTk(hI:Inv P B G s w){cs:List AV}(t:TypeId){x:Value}(r:R G (.k cs x.cells.toList)):
  aE6 P B G {s with blks:=s.blks++ [.cells cs true]} w (do pure (Next.value (.pointer (some (←newVar t x))))) (.ptr s.blks.length 0):=by
 obtain⟨hle,h2⟩:=hI.aE9 r t;refine⟨_,.pointer (some ⟨w.heap.size,0,none⟩),w.alloc (.cells x.cells t),_,?_,.inl rfl,hle,by simpa using h2,.ptr 0 qZ⟩;simp [newVar,newRow]
theorem uU{g:Nat}{cur:Array Value}{t:TypeId}{fr:Nat×Nat}(hg:w.heap[g]?=some (.cells cur t fr))(cs:Array Value):w.setRow g cs=w.putObj g (.cells cs t fr):=by
 have hlt:g<w.heap.size:=(Array.getElem?_eq_some_iff.1 hg).1;have hv:w.heap[g]= .cells cur t fr:=(Array.getElem?_eq_some_iff.1 hg).2;unfold World.setRow World.putObj
 congr 1
 apply Array.ext
 ·simp
 ·intro i h1 h2;rw [Array.getElem_modify,Array.getElem_setIfInBounds];by_cases e:g=i
  ·subst e;simp [hv]
  ·simp [e]
  ·simpa using h1
theorem Inv.write(hI:Inv P B G s w){l b:Nat}(hL:G.L l=some b){cs:List AV}(hb:s.blks[l]?=some (.cells cs true)){off:Nat}{ds:List AV}{us:List Value}(hk:R G (.k ds us))(hlen:off+ds.length≤cs.length):
  ∃w',(storeCells ⟨b,off,none⟩ us).run P w= .ok () w'∧Inv P B G {s with blks:=s.blks.set l (.cells (gK cs off ds) true)} w':=by
 obtain⟨o,ho,hok⟩:=hI.at hL hb;obtain⟨vs,e,rfl,hkv,hM,_⟩:=hok;have hl1:cs.length=vs.length:=hkv.kW;have hl2:ds.length=us.length:=hk.kW;have hrun:=run_storeCells_at P b off e us 0 vs.toArray w ho (by simp;omega) hk.aOT;refine⟨_,hrun,?_⟩;rw [uU ho];refine hI.put hL ⟨_,e,rfl,?_,fun _=>hM rfl,fun h=>by cases h⟩ (fun j x hx=>by rw [hM rfl j] at hx;cases hx);simpa using hkv.aKd hk off
theorem Inv.mM{s0:ASt}{l:Nat}{cs:List AV}{blks:List dG}(h:Inv P B G {s0 with blks:=blks} w):Inv P B G (mM s0 l cs blks) w:=h.aFu rfl rfl
theorem aSx(hI:Inv P B G s w){t:TypeId}{i:TypeInfo}(hi:P.info? t=some i){a x:AV}{xa xv:Value}(ra:R G (.v a xa))(rx:R G (.v x xv)){v:AV}
(h:(match(generalizing:=false) a with
  | .ptr l off=>
   (match s.blks[l]? with
   |some (.cells cs true)=>
    if xH x&&(cellsOf x).length=P.cellsOf t&&off+P.cellsOf t≤cs.length then
     some (fW,Fw.mM s l (cellsOf x) (s.blks.set l (.cells (gK cs off (cellsOf x)) true)))
    else none
   |_=>none)
  |_=>none)=some (v,s1)):aE6 P B G s1 w (do Instr.storeAt t xa xv;pure .skip) v:=by
 cases ra<;>simp only [reduceCtorEq] at h;rename_i l b off hL;split at h
 ·rename_i cs hb;split at h
  ·rename_i hc;cases h;simp at hc;obtain⟨⟨hc1,hc2⟩,hc3⟩:=hc;have hk:=rx.box hc1;obtain⟨w',hrun,h'⟩:=hI.write hL hb (off:=off) hk (by omega);have hsz:xv.cells.size=P.cellsOf t:=by rw [←hc2,hk.kW];simp
   refine⟨.skip,undef,w',G,?_,.inr ⟨rfl,rfl⟩,.refl _,h'.mM,?_⟩
   ·simp [Instr.storeAt,Instr.sureAddr,storeVar,lH hi,hsz,hrun]
   ·exact .tuple .tF
  ·cases h
 ·cases h
theorem x8{b:Nat}{o o':Obj}(h:w.heap[b]?=some o)(hn: ∀c e f,o≠ .cells c e f):(setObj b o').run P w= .ok () (w.putObj b o'):=by
 cases o<;>first|(simp [setObj,Sem.run,h,World.putObj];done)|exact absurd rfl (hn _ _ _)
theorem aSF{kk:KK}{d:TypeDesc}(hd:aPu kk d){k v:AV}{xk xv:Value}(rk:R G (.v k xk))(rv:R G (.v v xv))(hk:keyOf kk k=true){es:List (AV×AV)}{ents:List MapEntry}(hm:vF G es ents):
  ∀{es'},aEH k v es=some es'→ ∀i,
   (Instr.findNow d xk ents i=some none∧ ∀born,vF G es' (ents++ [{key:=xk,val:=xv,born}]))∨
   (∃j e,Instr.findNow d xk ents i=some (some (i+j,e.val))∧ents[j]?=some e∧(∀n,Instr.sameBits n e.key xk=true)∧vF G es' (ents.modify j fun e=>{e with key:=xk,val:=xv})):=by
 induction hm with
 |nil=>
  intro es' h i;simp [aEH] at h;subst h;exact .inl ⟨rfl,fun born=> .cons rk rv .nil⟩
 |cons hk' hv ht ih=>
  rename_i a u e es ents;intro es' h i;simp only [aEH] at h;split at h
  ·rename_i hf;cases h;obtain⟨e1,e2⟩:=wV hd rk hk' hk hf;exact .inr ⟨0,e,by simp only [Instr.findNow,e1];rfl,rfl,e2 rfl,by simpa using vF.cons rk rv ht⟩
  ·rename_i hf;obtain⟨e1,_⟩:=wV hd rk hk' hk hf;split at h
   ·rename_i r hr;cases h;rcases ih hr (i+1) with ⟨h1,h2⟩|⟨j,e',h1,h2,h3,h4⟩
    ·exact .inl ⟨by simp only [Instr.findNow,e1];exact h1,fun born=> .cons hk' hv (h2 born)⟩
    ·refine .inr ⟨j+1,e',?_,by simpa using h2,h3,by simpa using vF.cons hk' hv h4⟩;simp only [Instr.findNow,e1,h1];rw [show i+1+j=i+(j+1) from by omega]
   ·cases h
  ·cases h
theorem aIq(hI:Inv P B G s w){t kt et:TypeId}(hu:P.underlying t=some (.map kt et)){kk:KK}(hkt:aIp P kt=some kk){m k x v:AV}{xm xk xv:Value}(rm:R G (.v m xm))(rk:R G (.v k xk))(rx:R G (.v x xv))
(h:(match(generalizing:=false) m,iK x with
  | .map l,some v=>
   (match s.blks[l]? with
   |some (.map es)=>
    if keyOf kk k then
     (match aEH k v es with
     |some es'=>some (fW,Fw.mM s l [v] (s.blks.set l (.map es')))
     |none=>none)
    else none
   |_=>none)
  |_,_=>none)=some (v,s1)):aE6 P B G s1 w (do Instr.mapUpdate t xm xk xv;pure .skip) v:=by
 obtain⟨d,hd,hkk⟩:=aMp hkt;split at h
 ·rename_i l v1 hfix;obtain⟨b,rfl,hL⟩:=rm.aSb rfl;split at h
  ·rename_i es hb;obtain⟨o,ho,hok⟩:=hI.at hL hb;obtain⟨ents,clock,rfl,hm⟩:=hok;split at h
   ·rename_i hkey;split at h
    ·rename_i es' hput;cases h;have hc:=fun b=>run_checkKey (w:=w) hd hkk b xk;rcases aSF hkk rk (qX hfix rx).1 hkey hm hput 0 with ⟨h1,h2⟩|⟨j,e,h1,h2,h3,h4⟩
     ·refine⟨.skip,undef,w.putObj b (.map (ents.toArray.push {key:=xk,val:=xv,born:=clock}) (clock+1)),G,?_,.inr ⟨rfl,rfl⟩,.refl _,?_,.tuple .tF⟩
      ·simp [Instr.mapUpdate,run_underlying hu,lF ho (by simp),hc,Instr.findKey,run_underlying hd,h1,x8 ho (by simp)]
      ·refine(hI.put hL (k':= .map es') ⟨ents++ [{key:=xk,val:=xv,born:=clock}],clock+1,by simp,h2 clock⟩ ?_).mM;intro j x hx;have:=hI.m b j x hx;simp [World.cell?,ho] at this
     ·rw [Nat.zero_add] at h1;refine⟨.skip,undef,w.putObj b (.map (ents.toArray.modify j fun e=>{e with key:=xk,val:=xv}) clock),G,?_,.inr ⟨rfl,rfl⟩,.refl _,?_,.tuple .tF⟩
      ·have hmod: ∀f,(ents.toArray.modify j f)=(ents.modify j f).toArray:=fun f=>by simp
       simp [Instr.mapUpdate,run_underlying hu,lF ho (by simp),hc,Instr.findKey,run_underlying hd,h1,x8 ho (by simp),Instr.keyThatStays,h2,h3]
      ·refine(hI.put hL (k':= .map es') ⟨ents.modify j fun e=>{e with key:=xk,val:=xv},clock,by simp,h4⟩ ?_).mM;intro j x hx;have:=hI.m b j x hx;simp [World.cell?,ho] at this
    ·cases h
   ·cases h
  ·cases h
 ·cases h
theorem aR1(hI:Inv P B G s w){t:TypeId}(hu:P.underlying t=some .string){a v:AV}{x:Value}(r:R G (.v a x))
(h:(match(generalizing:=false) a with| .str t=>some (AV.iter s.blks.length,{s with blks:=s.blks++ [.iter t 0]})|_=>none)=some (v,s1)):aE6 P B G s1 w (do pure (Next.value (←Instr.range t x))) v:=by
 cases r<;>simp only [reduceCtorEq] at h;rename_i st hst;cases h;have hle:G.le (G.yH s.blks.length w.heap.size):=Gh.wQ hI.aLV;refine⟨_,.pointer (some ⟨w.heap.size,0,none⟩),w.alloc (.stringIter st 0),_,?_,.inl rfl,hle,hI.aCo _ _ ⟨st,rfl,rfl,hst⟩,.iter qZ⟩;simp [Instr.range,run_underlying hu]
theorem aN9(st:ByteArray):(⟨st.data.toList.toArray⟩:ByteArray)=st:=by cases st;simp
theorem aLU(s:ByteArray)(pos:Nat):(Utf8.decode s pos).1≤2097151:=by
 unfold Utf8.decode;dsimp only;split
 ·dsimp only;omega
 ·split
  ·split
   ·dsimp only;omega
   ·simp [Utf8.runeError]
  ·split
   ·split
    ·dsimp only;omega
    ·simp [Utf8.runeError]
   ·split
    ·split
     ·dsimp only;omega
     ·simp [Utf8.runeError]
    ·simp [Utf8.runeError]
theorem aTT(hI:Inv P B G s w){ty:TypeId}{a v:AV}{x:Value}(r:R G (.v a x))
(h:(match(generalizing:=false) a with
  | .iter l=>
   (match s.blks[l]? with
   |some (.iter t pos)=>
    if pos<t.length then
     (match Utf8.decode ⟨t.toArray⟩ pos with
     |(c,width)=>some (AV.tuple [.bool true,.int .i64 pos,.int .i32 c],{s with blks:=s.blks.set l (.iter t (pos+width))}))
    else some (.tuple [.bool false],s)
   |_=>none)
  |_=>none)=some (v,s1)):aE6 P B G s1 w (do pure (Next.value (←Instr.next x true ty))) v:=by
 cases r<;>simp only [reduceCtorEq] at h;rename_i l b hL;split at h
 ·rename_i t pos hb;obtain⟨o,ho,hok⟩:=hI.at hL hb;obtain⟨st,rfl,rfl,hst⟩:=hok;have hmem: ∀o',∀j x,G.M b j=some x→(w.putObj b o').cell? ⟨b,j,none⟩=some x:=fun o' j x hx=>by
   have:=hI.m b j x hx;simp [World.cell?,ho] at this
  split at h
  ·rename_i hlt;have hlt':pos<st.size:=by simpa using hlt
   rw [aN9] at h;cases hdec:Utf8.decode st pos with
   |mk c width=>
    rw [hdec] at h;cases h;have hc:c≤2097151:=by have:=aLU st pos;rw [hdec] at this;exact this
    refine⟨_,.tuple #[.bool true,.int .i64 pos,.int .i32 c],w.putObj b (.stringIter st (pos+width)),G,?_,.inl rfl,.refl _,hI.put hL ⟨st,rfl,rfl,hst⟩ (hmem _),?_⟩
    ·simp [Instr.next,lF ho (by simp),hlt',hdec,x8 ho (by simp),goInt]
    ·refine .tuple (.gN (.bool _) (.gN (.int (tX (by omega))) (.gN (.int ?_) .tF)));have e: ∀n,IntKind.i32.wrap n=if n%4294967296≥2147483648 then n%4294967296-4294967296 else n%4294967296:=fun n=>by simp [IntKind.wrap,IntKind.bits,IntKind.signed]
     rw [e,if_neg (by omega)];omega
  ·rename_i hlt;have hlt': ¬pos<st.size:=by simpa using hlt
   cases h;exact⟨_,.tuple #[.bool false],w,G,by simp [Instr.next,lF ho (by simp),hlt'],.inl rfl,.refl _,hI,.tuple (.gN (.bool _) .tF)⟩
 ·cases h
end
end Go.Fw
