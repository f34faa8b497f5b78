/- Our own framework, the program's cooked code, and the proofs that a claim leans on: joined and shortened by a program of the prover's own. -/
import Derived.Test.YtelnnehpbkainaaGreatDoorProg
import Derived.Laws.StructEq
import Derived.ChangeKeysEq
import Derived.Test.YtelnnehpbkainaaGreatDoorPk0
set_option linter.unusedVariables false
set_option linter.unusedSimpArgs false
set_option maxRecDepth 100000
namespace Go.Proofs.YtelnnehpbkainaaGreatDoor.Code
open Go Go.Fw
abbrev o(d:Nat)(x:AOp):AI:=⟨some d,x,none,[]⟩
abbrev g(d n:Nat)(b:Bool)(x:AOp):AI:=⟨some d,x,some (n,b),[]⟩
abbrev p(d:Nat)(l:List Nat)(x:AOp):AI:=⟨some d,x,none,l⟩
noncomputable def ck(h:Hint)(f:Func):AF:=(vI Tryz.prog h f).getD ⟨0,0,[],.skip⟩
abbrev hz:Hint:=⟨[],[],[],[],[]⟩
noncomputable def cD(k:Nat)(h:Hint):AF:=match Tryz.prog.funcs[k]? with|some fn=>ck h fn|none=>⟨0,0,[],.skip⟩
def aRE:AC:= .loop (.seq (.seq (.reg false [o 55<|.mv<|.t 12,o 56<|.mv<|.t 8,o 57<|.jF<|.t 56,o 58<|.bin .lss (.t 55)<|.t 57])<|.cond (.t 58) (.skip)<|.exit 0)<|.seq (.block 1<|.seq (.reg true [o 62<|.load true 7<|.t 2,o 63<|.mv<|.t 8,o 64<|.mv<|.t 12,p 65 [1,2]<|.nA 1 (.t 63)<|.t 64,p 66 [3,1,2]<|.load false 1<|.t 65,p 67 [0,4,3,1,2]<|.aW true (.f 32) [(.t 62),(.t 66)],
 p 61 [5,0,4,3,1,2] (.mv (.t 67)),p 68 [6,5,0,4,3,1,2]<|.extract (.t 61) 0,p 69 [6,5,0,4,3,1,2]<|.extract (.t 61) 1,o 13<|.pend [(.i 0),(.i 0),(.str []),(.str []),(.slice 0 [] .full),(.slice 0 [] .full),(.slice 0 [] .full)],
 ⟨none,.shut 13 7 (.t 68),none,[9,7,6,5,0,4,3,1,2]⟩,p 14 [8,6,5,0,4,3,1,2,10,9,7]<|.mv<|.t 69])<|.seq (.seq (.reg false [o 70<|.mv<|.t 14,o 71<|.un .not<|.t 70,o 72<|.mv<|.t 71,g 73 72 false<|.aI 2<|.t 13,g 74 72 false<|.load false 1<|.t 73,g 75 72 false<|.mv<|.t 1,g 76 72 false<|.bin .neq (.t 74)<|.t 75,
 o 77 (.pick (.t 72) (.c (.bool true)) (.t 76)),o 78<|.mv<|.t 77,g 79 78 false<|.aI 0<|.t 13,g 80 78 false<|.load false 1<|.t 79,g 81 78 false<|.bin .neq (.t 80)<|.c<|.i 18,
 g 82 78 false (.mv (.t 81)),g 83 82 true<|.aI 0<|.t 13,g 84 82 true<|.load false 1<|.t 83,g 85 82 true<|.bin .neq (.t 84)<|.c<|.i 19,g 86 78 false<|.pick (.t 82) (.t 85)<|.c<|.bool false,
 o 87 (.pick (.t 78) (.c (.bool true)) (.t 86))])<|.cond (.t 87) (.seq (.reg false [o 4<|.mv<|.c<|.bool false])<|.ret)<|.skip)<|.seq (.reg false [o 88<|.aI 0<|.t 13,o 89<|.load false 1<|.t 88,o 90<|.bin .eql (.t 89)<|.c<|.i 18])<|.cond (.t 90) (.seq (.reg false [o 91<|.mv<|.t 10,o 92<|.bin .add (.t 91)<|.c<|.i 1,o 10<|.mv<|.t 92])<|.seq (.reg false [o 94<|.aI 5<|.t 13,o 95<|.load false 1<|.t 94,o 96<|.nA 7 (.t 95)<|.c<|.i 0,o 97<|.load true 7<|.t 96,o 98<|.mv<|.t 1,o 99<|.aW false (.f 13) [(.t 97),(.t 98)],
 o 93 (.mv (.t 99)),o 100<|.extract (.t 93) 0,o 101<|.extract (.t 93) 1,o 15<|.mv<|.t 100,o 16<|.mv<|.t 101])<|.seq (.reg false [o 102<|.mv<|.t 16,o 103<|.bin .neq (.t 102)<|.c<|.i 0,o 104<|.mv<|.t 103,g 105 104 false<|.mv<|.t 15,g 106 104 false<|.un .not<|.t 105,o 107<|.pick (.t 104) (.c<|.bool true)<|.t 106])<|.cond (.t 107) (.seq (.reg false [o 4<|.mv<|.c<|.bool false])<|.ret)<|.skip)<|.reg false [o 108<|.mv<|.t 11,o 109<|.bin .add (.t 108)<|.c<|.i 1,o 11<|.mv<|.t 109])<|.reg false [o 59<|.mv<|.t 12,o 60<|.bin .add (.t 59)<|.c<|.i 1,o 12<|.mv<|.t 60])
def c7:AF:=⟨2,139,[.tmp 4],
 (.seq (.reg false [o 2 (.g5 (.t 0)),o 4 (.mv (.c (.bool false)))]) (.seq (.reg false [o 19 (.load true 7 (.t 2)),o 20 (.mv (.t 1)),o 21 (.aW false (.f 15) [(.t 19),(.t 20)]),o 18 (.mv (.t 21)),o 22 (.extract (.t 18) 0),o 23 (.extract (.t 18) 1),o 24 (.extract (.t 18) 2),
 o 5 (.mv (.t 22)),o 6 (.mv (.t 23)),o 7 (.mv (.t 24))]) (.seq (.reg false [o 26 (.load true 7 (.t 2)),o 27 (.mv (.t 1)),o 28 (.aW false (.f 18) [(.t 26),(.t 27)]),o 25 (.mv (.t 28)),o 29 (.extract (.t 25) 0),o 30 (.extract (.t 25) 1),o 8 (.mv (.t 29)),
 o 9 (.mv (.t 30))]) (.seq (.seq (.reg false [o 31 (.mv (.t 7)),o 32 (.mv (.t 9)),o 33 (.bin .neq (.t 31) (.t 32)),o 34 (.mv (.t 33)),g 35 34 false (.mv (.t 7)),g 36 34 false (.bin .neq (.t 35) (.c (.i 0))),
 g 37 34 false (.mv (.t 36)),g 38 37 true (.mv (.t 8)),g 39 37 true (.jF (.t 38)),g 40 37 true (.bin .gtr (.t 39) (.c (.i 0))),g 41 34 false (.pick (.t 37) (.t 40) (.c (.bool false))),
 o 42 (.pick (.t 34) (.c (.bool true)) (.t 41))]) (.cond (.t 42) (.seq (.reg false [o 4 (.mv (.c (.bool false)))]) (.ret)) (.skip))) (.seq (.seq (.reg false [o 43 (.mv (.t 7)),o 44 (.bin .neq (.t 43) (.c (.i 0)))]) (.cond (.t 44) (.seq (.reg false [o 45 (.mv (.t 7)),o 46 (.bin .eql (.t 45) (.c (.i 10))),o 47 (.mv (.t 46)),g 48 47 false (.mv (.t 6)),g 49 47 false (.jF (.t 48)),g 50 47 false (.bin .eql (.t 49) (.c (.i 0))),
 o 51 (.pick (.t 47) (.c (.bool true)) (.t 50)),o 52 (.mv (.t 51)),g 53 52 true (.aW false (.f 21) []),o 54 (.pick (.t 52) (.t 53) (.c (.bool false))),o 4 (.mv (.t 54))]) (.ret)) (.skip))) (.seq (.reg false [o 10 (.mv (.c (.i 0))),o 11 (.mv (.c (.i 0)))]) (.seq (.seq (.reg false [o 12 (.mv (.c (.i 0)))]) (.block 0 (aRE))) (.seq (.reg false [o 17 (.mv (.c (.i 3)))]) (.seq (.seq (.reg false [o 110 (.mv (.t 10)),o 111 (.bin .gtr (.t 110) (.c (.i 0))),o 112 (.mv (.t 111)),g 113 112 true (.mv (.t 11)),g 114 112 true (.bin .gtr (.t 113) (.c (.i 0))),
 o 115 (.pick (.t 112) (.t 114) (.c (.bool false)))]) (.cond (.t 115) (.reg false [o 17 (.mv (.c (.i 2)))]) (.seq (.reg false [o 116 (.mv (.t 10)),o 117 (.bin .gtr (.t 116) (.c (.i 0)))]) (.cond (.t 117) (.reg false [o 17 (.mv (.c (.i 0)))]) (.seq (.reg false [o 118 (.mv (.t 11)),o 119 (.bin .gtr (.t 118) (.c (.i 0)))]) (.cond (.t 119) (.reg false [o 17 (.mv (.c (.i 1)))]) (.skip))))))) (.seq (.reg false [o 120 (.mv (.t 5)),o 121 (.mv (.t 17)),o 122 (.bin .eql (.t 120) (.t 121)),o 123 (.mv (.t 122)),g 124 123 true (.load true 7 (.t 2)),g 125 123 true (.mv (.t 1)),g 126 123 true (.aW false (.f 33) [(.t 124),(.t 125)]),
 g 127 123 true (.mv (.t 8)),g 128 123 true (.jF (.t 127)),g 129 123 true (.bin .eql (.t 126) (.t 128)),o 130 (.pick (.t 123) (.t 129) (.c (.bool false))),o 131 (.mv (.t 130)),
 g 132 131 true (.mv (.t 6)),g 133 131 true (.jF (.t 132)),g 134 131 true (.bin .eql (.t 133) (.c (.i 0))),o 135 (.pick (.t 131) (.t 134) (.c (.bool false))),
 o 136 (.mv (.t 135)),g 137 136 true (.aW false (.f 21) []),o 138 (.pick (.t 136) (.t 137) (.c (.bool false))),o 4 (.mv (.t 138))]) (.ret)))))))))))⟩
def c13:AF:=⟨2,17,[.tmp 4,.tmp 5],
 (.seq (.reg false [o 2 (.g5 (.t 0)),o 4 (.mv (.c (.bool false))),o 5 (.mv (.c (.i 0)))]) (.seq (.seq (.reg false [o 7 (.load true 7 (.t 2)),o 8 (.mv (.t 1)),o 9 (.aW false (.f 46) [(.t 7),(.t 8)]),o 6 (.mv (.t 9))]) (.seq (.reg false [o 10 (.mv (.t 6)),o 11 (.bin .neq (.t 10) (.c (.i 0)))]) (.cond (.t 11) (.seq (.reg false [o 12 (.mv (.t 6)),o 4 (.mv (.c (.bool false))),o 5 (.mv (.t 12))]) (.ret)) (.skip)))) (.seq (.reg false [o 13 (.load true 7 (.t 2)),o 14 (.build [(.i 0),(.i 0),(.str []),(.str []),(.slice 0 [] .full),(.slice 0 [] .full),(.slice 0 [] .full),(.slice 0 [] .full)] [(0,7,(.t 13))]),
 o 15 (.mv (.t 1)),o 16 (.aW false (.f 47) [(.t 14),(.t 15)]),o 4 (.mv (.t 16)),o 5 (.mv (.c (.i 0)))]) (.ret))))⟩
def c15:AF:=⟨2,59,[.tmp 4,.tmp 5,.tmp 6],
 (.seq (.reg false [o 2 (.g5 (.t 0)),o 4 (.mv (.c (.i 0))),o 5 (.mv (.c (.slice 0 [] .full))),o 6 (.mv (.c (.i 0)))]) (.seq (.seq (.reg false [o 11 (.load true 7 (.t 2)),o 12 (.mv (.t 1)),o 13 (.aW false (.f 46) [(.t 11),(.t 12)]),o 7 (.mv (.t 13))]) (.seq (.reg false [o 14 (.mv (.t 7)),o 15 (.bin .neq (.t 14) (.c (.i 0)))]) (.cond (.t 15) (.seq (.reg false [o 16 (.mv (.t 7)),o 4 (.mv (.c (.i 0))),o 5 (.mv (.c (.slice 0 [] .full))),o 6 (.mv (.t 16))]) (.ret)) (.skip)))) (.seq (.reg false [o 18 (.load true 7 (.t 2)),o 19 (.build [(.i 0),(.i 0),(.str []),(.str []),(.slice 0 [] .full),(.slice 0 [] .full),(.slice 0 [] .full),(.slice 0 [] .full)] [(0,7,(.t 18))]),
 o 20 (.mv (.t 1)),o 21 (.call (.f 48) [(.t 19),(.t 20)]),o 17 (.mv (.t 21)),o 22 (.extract (.t 17) 0),o 23 (.extract (.t 17) 1),o 24 (.extract (.t 17) 2),o 8 (.mv (.t 22)),
 o 9 (.mv (.t 23)),o 10 (.mv (.t 24))]) (.seq (.block 0 (.seq (.reg false [o 26 (.mv (.t 10)),o 27 (.bin .neq (.t 26) (.c (.i 0))),o 25 (.mv (.t 27))]) (.cond (.t 25) (.seq (.reg false [o 28 (.mv (.t 9)),o 29 (.mv (.t 10)),o 4 (.mv (.c (.i 0))),o 5 (.mv (.t 28)),o 6 (.mv (.t 29))]) (.ret)) (.seq (.reg false [o 31 (.mv (.t 8)),o 32 (.eF (.t 31)),o 33 (.aI 2 (.t 32)),o 34 (.aAC 2 1 (.t 33) (.c (.i 0))),o 35 (.load false 1 (.t 34)),o 36 (.bin .gtr (.t 35) (.c (.i 0))),
 o 37 (.mv (.t 36)),g 38 37 true (.mv (.t 8)),g 39 37 true (.eF (.t 38)),g 40 37 true (.aI 2 (.t 39)),g 41 37 true (.aAC 2 1 (.t 40) (.c (.i 1))),g 42 37 true (.load false 1 (.t 41)),
 g 43 37 true (.bin .gtr (.t 42) (.c (.i 0))),o 44 (.pick (.t 37) (.t 43) (.c (.bool false))),o 30 (.mv (.t 44))]) (.cond (.t 30) (.seq (.reg false [o 4 (.mv (.c (.i 2))),o 5 (.mv (.c (.slice 0 [] .full))),o 6 (.mv (.c (.i 0)))]) (.ret)) (.seq (.reg false [o 46 (.mv (.t 8)),o 47 (.eF (.t 46)),o 48 (.aI 2 (.t 47)),o 49 (.aAC 2 1 (.t 48) (.c (.i 0))),o 50 (.load false 1 (.t 49)),o 51 (.bin .gtr (.t 50) (.c (.i 0))),
 o 45 (.mv (.t 51))]) (.cond (.t 45) (.seq (.reg false [o 4 (.mv (.c (.i 0))),o 5 (.mv (.c (.slice 0 [] .full))),o 6 (.mv (.c (.i 0)))]) (.ret)) (.seq (.reg false [o 53 (.mv (.t 8)),o 54 (.eF (.t 53)),o 55 (.aI 2 (.t 54)),o 56 (.aAC 2 1 (.t 55) (.c (.i 1))),o 57 (.load false 1 (.t 56)),o 58 (.bin .gtr (.t 57) (.c (.i 0))),
 o 52 (.mv (.t 58))]) (.cond (.t 52) (.seq (.reg false [o 4 (.mv (.c (.i 1))),o 5 (.mv (.c (.slice 0 [] .full))),o 6 (.mv (.c (.i 0)))]) (.ret)) (.skip)))))))))) (.seq (.reg false [o 4 (.mv (.c (.i 3))),o 5 (.mv (.c (.slice 0 [] .full))),o 6 (.mv (.c (.i 0)))]) (.ret))))))⟩
def c18:AF:=⟨2,31,[.tmp 4,.tmp 5],
 (.seq (.reg false [o 2 (.g5 (.t 0)),o 4 (.mv (.c (.slice 0 [] .full))),o 5 (.mv (.c (.i 0)))]) (.seq (.seq (.reg false [o 10 (.load true 7 (.t 2)),o 11 (.mv (.t 1)),o 12 (.aW false (.f 46) [(.t 10),(.t 11)]),o 6 (.mv (.t 12))]) (.seq (.reg false [o 13 (.mv (.t 6)),o 14 (.bin .neq (.t 13) (.c (.i 0)))]) (.cond (.t 14) (.seq (.reg false [o 15 (.mv (.t 6)),o 4 (.mv (.c (.slice 0 [] .full))),o 5 (.mv (.t 15))]) (.ret)) (.skip)))) (.seq (.reg false [o 17 (.load true 7 (.t 2)),o 18 (.build [(.i 0),(.i 0),(.str []),(.str []),(.slice 0 [] .full),(.slice 0 [] .full),(.slice 0 [] .full),(.slice 0 [] .full)] [(0,7,(.t 17))]),
 o 19 (.mv (.t 1)),o 20 (.call (.f 48) [(.t 18),(.t 19)]),o 16 (.mv (.t 20)),o 21 (.extract (.t 16) 0),o 22 (.extract (.t 16) 1),o 23 (.extract (.t 16) 2),o 7 (.mv (.t 21)),
 o 8 (.mv (.t 22)),o 9 (.mv (.t 23))]) (.seq (.seq (.reg false [o 24 (.mv (.t 9)),o 25 (.bin .neq (.t 24) (.c (.i 0)))]) (.cond (.t 25) (.seq (.reg false [o 26 (.mv (.t 9)),o 4 (.mv (.c (.slice 0 [] .full))),o 5 (.mv (.t 26))]) (.ret)) (.skip))) (.seq (.reg false [o 27 (.mv (.t 7)),o 28 (.eF (.t 27)),o 29 (.aI 1 (.t 28)),o 30 (.load false 1 (.t 29)),o 4 (.mv (.t 30)),o 5 (.mv (.c (.i 0)))]) (.ret))))))⟩
def aPW:AC:= .loop (.seq (.seq (.reg false [o 8<|.mv<|.t 6,o 9<|.mv<|.t 1,o 10<|.jF<|.t 9,o 11<|.bin .lss (.t 8)<|.t 10])<|.cond (.t 11) (.skip)<|.exit 0)<|.seq (.block 1<|.seq (.reg false [o 14<|.load true 7<|.t 2,o 15<|.aW false (.f 35) [(.t 14)],o 7<|.mv<|.t 15])<|.seq (.seq (.reg false [o 16<|.mv<|.t 1,o 17<|.mv<|.t 6,o 18<|.nA 1 (.t 16)<|.t 17,o 19<|.load false 1<|.t 18,o 20<|.mv<|.t 7,o 21<|.jF<|.t 20,o 22<|.bin .sub (.t 21)<|.c<|.i 1,
 o 23 (.aW false (.f 61) [(.t 19),(.c (.i 0)),(.t 22)]),o 24<|.un .not<|.t 23])<|.cond (.t 24) (.seq (.reg false [o 25<|.build [(.i 0),(.i 0),(.str []),(.str []),(.slice 0 [] .full),(.slice 0 [] .full),(.slice 0 [] .full)] [],⟨none,.store 7 (.t 4)<|.t 25,none,[]⟩,
 o 5 (.mv (.c (.bool false)))])<|.ret)<|.skip)<|.reg false [o 26<|.mv<|.t 7,o 27<|.mv<|.t 1,o 28<|.mv<|.t 6,o 29<|.nA 1 (.t 27)<|.t 28,o 30<|.load false 1<|.t 29,o 31<|.nA 7 (.t 26)<|.t 30,o 32<|.load true 7<|.t 31,
 ⟨none,.store 7 (.t 2) (.t 32),none,[]⟩])<|.reg false [o 12<|.mv<|.t 6,o 13<|.bin .add (.t 12)<|.c<|.i 1,o 6<|.mv<|.t 13])
def c32:AF:=⟨2,34,[.cell 4 true 7,.tmp 5],
 (.seq (.reg false [o 2 (.box (.t 0)),o 4 (.alloc [(.i 0),(.i 0),(.str []),(.str []),(.slice 0 [] .full),(.slice 0 [] .full),(.slice 0 [] .full)]),o 5 (.mv (.c (.bool false)))]) (.seq (.seq (.reg false [o 6 (.mv (.c (.i 0)))]) (.block 0 (aPW))) (.seq (.reg false [o 33 (.load true 7 (.t 2)),⟨none,.store 7 (.t 4) (.t 33),none,[]⟩,o 5 (.mv (.c (.bool true)))]) (.ret))))⟩
def aPT:AC:= .loop (.seq (.seq (.reg false [o 14<|.mv<|.t 7,o 15<|.mv<|.t 6,o 16<|.jF<|.t 15,o 17<|.bin .lss (.t 14)<|.t 16])<|.cond (.t 17) (.skip)<|.exit 0)<|.seq (.block 1<|.seq (.reg false [o 20<|.load true 7<|.t 2,o 21<|.mv<|.t 7,o 22<|.aW false (.f 64) [(.t 20),(.t 21)],o 23<|.mv<|.t 1,o 24<|.aW false (.f 63) [(.t 22),(.t 23)],o 25<|.un .not<|.t 24])<|.cond (.t 25) (.reg false [o 26<|.mv<|.t 5,o 27<|.mv<|.t 6,o 28<|.mv<|.t 7,o 29<|.nA 7 (.t 27)<|.t 28,o 30<|.load true 7<|.t 29,o 31<|.mv<|.t 1,o 32<|.aW false (.f 33) [(.t 30),(.t 31)],
 o 33 (.bin .add (.t 26) (.t 32)),o 5<|.mv<|.t 33])<|.skip)<|.reg false [o 18<|.mv<|.t 7,o 19<|.bin .add (.t 18)<|.c<|.i 1,o 7<|.mv<|.t 19])
def c33:AF:=⟨2,35,[.tmp 4],
 (.seq (.reg false [o 2 (.g5 (.t 0)),o 4 (.mv (.c (.i 0)))]) (.seq (.reg false [o 5 (.mv (.c (.i 0)))]) (.seq (.seq (.reg false [o 8 (.load true 7 (.t 2)),o 9 (.aW false (.f 62) [(.t 8)]),o 10 (.mv (.t 1)),o 11 (.bin .eql (.t 9) (.t 10))]) (.cond (.t 11) (.reg false [o 5 (.mv (.c (.i 1)))]) (.skip))) (.seq (.reg false [o 12 (.load true 7 (.t 2)),o 13 (.aW false (.f 35) [(.t 12)]),o 6 (.mv (.t 13))]) (.seq (.seq (.reg false [o 7 (.mv (.c (.i 0)))]) (.block 0 (aPT))) (.seq (.reg false [o 34 (.mv (.t 5)),o 4 (.mv (.t 34))]) (.ret)))))))⟩
def aPN:AC:= .loop (.seq (.seq (.reg false [o 9<|.mv<|.t 4,o 10<|.aI 6<|.t 1,o 11<|.load false 1<|.t 10,o 12<|.jF<|.t 11,o 13<|.bin .lss (.t 9)<|.t 12])<|.cond (.t 13) (.skip)<|.exit 0)<|.seq (.block 1<|.reg false [o 16<|.mv<|.t 3,o 17<|.aI 6<|.t 1,o 18<|.load false 1<|.t 17,o 19<|.mv<|.t 4,o 20<|.nA 9 (.t 18)<|.t 19,o 21<|.aI 2<|.t 20,o 22<|.load true 7<|.t 21,
 o 23 (.oK 7 1 [(.i 0),(.i 0),(.str []),(.str []),(.slice 0 [] .full),(.slice 0 [] .full),(.slice 0 [] .full)] [(0,(.t 22))]),o 24<|.append false 7 120 (.t 16)<|.t 23,
 o 3 (.mv (.t 24))])<|.reg false [o 14<|.mv<|.t 4,o 15<|.bin .add (.t 14)<|.c<|.i 1,o 4<|.mv<|.t 15])
def c35:AF:=⟨1,26,[.tmp 2],
 (.seq (.reg false [o 1 (.g5 (.t 0)),o 2 (.mv (.c (.slice 0 [] .full)))]) (.seq (.reg false [o 5 (.oK 7 0 [(.i 0),(.i 0),(.str []),(.str []),(.slice 0 [] .full),(.slice 0 [] .full),(.slice 0 [] .full)] []),o 6 (.aI 5 (.t 1)),o 7 (.load false 1 (.t 6)),
 o 8 (.append false 7 120 (.t 5) (.t 7)),o 3 (.mv (.t 8))]) (.seq (.seq (.reg false [o 4 (.mv (.c (.i 0)))]) (.block 0 (aPN))) (.seq (.reg false [o 25 (.mv (.t 3)),o 2 (.mv (.t 25))]) (.ret)))))⟩
def c46:AF:=⟨2,14,[.tmp 4],
 (.seq (.reg false [o 2 (.g5 (.t 0)),o 4 (.mv (.c (.i 0)))]) (.seq (.seq (.reg false [o 6 (.load true 7 (.t 2)),o 7 (.aW false (.f 81) [(.t 6)]),o 5 (.mv (.t 7))]) (.seq (.reg false [o 8 (.mv (.t 5)),o 9 (.bin .neq (.t 8) (.c (.i 0)))]) (.cond (.t 9) (.seq (.reg false [o 10 (.mv (.t 5)),o 4 (.mv (.t 10))]) (.ret)) (.skip)))) (.seq (.seq (.reg false [o 11 (.mv (.t 1)),o 12 (.aW false (.f 77) [(.t 11)]),o 13 (.un .not (.t 12))]) (.cond (.t 13) (.seq (.reg false [o 4 (.mv (.c (.i 4)))]) (.ret)) (.skip))) (.seq (.reg false [o 4 (.mv (.c (.i 0)))]) (.ret)))))⟩
def c47:AF:=⟨2,15,[.tmp 4],
 (.seq (.reg false [o 2 (.g5 (.t 0)),o 4 (.mv (.c (.bool false)))]) (.seq (.reg false [o 8 (.load true 8 (.t 2)),o 9 (.mv (.t 1)),o 10 (.aW false (.f 82) [(.t 8),(.t 9),(.c (.bool false)),(.c (.bool false))]),o 7 (.mv (.t 10)),o 11 (.extract (.t 7) 0),
 o 12 (.extract (.t 7) 1),o 5 (.mv (.t 11)),o 6 (.mv (.t 12))]) (.seq (.reg false [o 13 (.mv (.t 6)),o 14 (.un .not (.t 13)),o 4 (.mv (.t 14))]) (.ret))))⟩
def c48:AF:=⟨2,14,[.tmp 4,.cell 5 false 1,.cell 6 false 1],
 (.seq (.reg false [o 2 (.g5 (.t 0)),o 4 (.mv (.c .dO)),o 5 (.alloc [(.slice 0 [] .full)]),o 6 (.alloc [(.i 0)])]) (.seq (.reg false [⟨none,.defer (.f 83) [(.t 5),(.t 6)],none,[]⟩]) (.seq (.reg false [o 7 (.mv (.t 1)),o 8 (.build [(.str []),(.slice 0 [] .full),(.i 0),(.i 0)] [(0,1,(.t 7))]),o 9 (.box (.t 8)),o 4 (.mv (.t 9))]) (.seq (.reg false [o 10 (.mv (.t 4)),o 11 (.load true 8 (.t 2)),o 12 (.call (.f 84) [(.t 10),(.t 11)])]) (.seq (.reg false [o 13 (.mv (.t 4)),o 4 (.mv (.t 13)),⟨none,.store 1 (.t 5) (.c (.slice 0 [] .full)),none,[]⟩,⟨none,.store 1 (.t 6) (.c (.i 0)),none,[]⟩]) (.ret))))))⟩
def c61:AF:=⟨3,15,[.tmp 6],
 (.seq (.reg false [o 6 (.mv (.c (.bool false)))]) (.seq (.reg false [o 7 (.mv (.t 1)),o 8 (.mv (.t 0)),o 9 (.bin .leq (.t 7) (.t 8)),o 10 (.mv (.t 9)),g 11 10 true (.mv (.t 0)),g 12 10 true (.mv (.t 2)),g 13 10 true (.bin .leq (.t 11) (.t 12)),
 o 14 (.pick (.t 10) (.t 13) (.c (.bool false))),o 6 (.mv (.t 14))]) (.ret)))⟩
def c62:AF:=⟨1,18,[.tmp 2],
 (.seq (.reg false [o 1 (.g5 (.t 0)),o 2 (.mv (.c (.str [])))]) (.seq (.seq (.reg false [o 3 (.aI 0 (.t 1)),o 4 (.load false 1 (.t 3)),o 5 (.bin .eql (.t 4) (.c (.i 0))),o 6 (.mv (.t 5)),g 7 6 false (.aI 0 (.t 1)),g 8 6 false (.load false 1 (.t 7)),
 g 9 6 false (.bin .eql (.t 8) (.c (.i 18))),o 10 (.pick (.t 6) (.c (.bool true)) (.t 9)),o 11 (.mv (.t 10)),g 12 11 false (.aI 0 (.t 1)),g 13 11 false (.load false 1 (.t 12)),
 g 14 11 false (.bin .eql (.t 13) (.c (.i 19))),o 15 (.pick (.t 11) (.c (.bool true)) (.t 14))]) (.cond (.t 15) (.seq (.reg false [o 16 (.aI 2 (.t 1)),o 17 (.load false 1 (.t 16)),o 2 (.mv (.t 17))]) (.ret)) (.skip))) (.seq (.reg false [o 2 (.mv (.c (.str [])))]) (.ret))))⟩
def c63:AF:=⟨2,9,[.tmp 4],
 (.seq (.reg false [o 4 (.mv (.c (.bool false)))]) (.seq (.reg false [o 5 (.mv (.t 0)),o 6 (.mv (.t 1)),o 7 (.aW false (.f 98) [(.t 5),(.t 6)]),o 8 (.bin .geq (.t 7) (.c (.i 0))),o 4 (.mv (.t 8))]) (.ret)))⟩
def c64:AF:=⟨2,52,[.tmp 4],
 (.seq (.reg false [o 2 (.g5 (.t 0)),o 4 (.mv (.c (.slice 0 [] .full)))]) (.seq (.seq (.reg false [o 5 (.mv (.t 1)),o 6 (.aI 5 (.t 2)),o 7 (.load false 1 (.t 6)),o 8 (.jF (.t 7)),o 9 (.bin .geq (.t 5) (.t 8))]) (.cond (.t 9) (.seq (.reg false [o 10 (.aI 6 (.t 2)),o 11 (.load false 1 (.t 10)),o 12 (.mv (.t 1)),o 13 (.aI 5 (.t 2)),o 14 (.load false 1 (.t 13)),o 15 (.jF (.t 14)),o 16 (.bin .sub (.t 12) (.t 15)),
 o 17 (.nA 9 (.t 11) (.t 16)),o 18 (.aI 1 (.t 17)),o 19 (.load false 1 (.t 18)),o 4 (.mv (.t 19))]) (.ret)) (.skip))) (.seq (.seq (.reg false [o 20 (.aI 0 (.t 2)),o 21 (.load false 1 (.t 20))]) (.block 0 (.seq (.reg false [o 23 (.bin .eql (.t 21) (.c (.i 4))),o 22 (.mv (.t 23))]) (.cond (.t 22) (.seq (.reg false [o 24 (.aI 4 (.t 2)),o 25 (.load false 1 (.t 24)),o 4 (.mv (.t 25))]) (.ret)) (.seq (.reg false [o 27 (.bin .eql (.t 21) (.c (.i 6))),o 26 (.mv (.t 27))]) (.cond (.t 26) (.seq (.reg false [o 28 (.mv (.t 1)),o 29 (.bin .eql (.t 28) (.c (.i 1)))]) (.cond (.t 29) (.seq (.reg false [o 30 (.aI 4 (.t 2)),o 31 (.load false 1 (.t 30)),o 4 (.mv (.t 31))]) (.ret)) (.skip))) (.seq (.reg false [o 33 (.bin .eql (.t 21) (.c (.i 7))),o 32 (.mv (.t 33))]) (.cond (.t 32) (.seq (.reg false [o 34 (.aI 4 (.t 2)),o 35 (.load false 1 (.t 34)),o 36 (.mv (.t 1)),o 37 (.bin .sub (.c (.i 2)) (.t 36)),o 38 (.aAF 1 (.t 35) none (some (.t 37)) none),o 4 (.mv (.t 38))]) (.ret)) (.seq (.reg false [o 40 (.bin .eql (.t 21) (.c (.i 17))),o 39 (.mv (.t 40))]) (.cond (.t 39) (.seq (.reg false [o 41 (.mv (.t 1)),o 42 (.bin .eql (.t 41) (.c (.i 2))),o 43 (.mv (.t 42)),g 44 43 true (.aI 4 (.t 2)),g 45 43 true (.load false 1 (.t 44)),g 46 43 true (.jF (.t 45)),
 g 47 43 true (.bin .gtr (.t 46) (.c (.i 0))),o 48 (.pick (.t 43) (.t 47) (.c (.bool false)))]) (.cond (.t 48) (.seq (.reg false [o 49 (.aI 4 (.t 2)),o 50 (.load false 1 (.t 49)),o 51 (.aAF 1 (.t 50) none (some (.c (.i 1))) none),o 4 (.mv (.t 51))]) (.ret)) (.skip))) (.skip))))))))))) (.seq (.reg false [o 4 (.mv (.c (.slice 0 [] .full)))]) (.ret)))))⟩
def c77:AF:=⟨1,10,[.tmp 2],
 (.seq (.reg false [o 2 (.mv (.c (.bool false)))]) (.seq (.reg false [o 3 (.mv (.t 0)),o 4 (.aW false (.f 109) [(.t 3),(.c (.i 2))]),o 5 (.mv (.t 4)),g 6 5 true (.mv (.t 0)),g 7 5 true (.aW false (.f 110) [(.t 6)]),g 8 5 true (.un .not (.t 7)),
 o 9 (.pick (.t 5) (.t 8) (.c (.bool false))),o 2 (.mv (.t 9))]) (.ret)))⟩
def c81:AF:=⟨1,11,[.tmp 2],
 (.seq (.reg false [o 1 (.g5 (.t 0)),o 2 (.mv (.c (.i 0)))]) (.seq (.reg false [o 6 (.load true 7 (.t 1)),o 7 (.aW false (.f 113) [(.t 6)]),o 5 (.mv (.t 7)),o 8 (.extract (.t 5) 0),o 9 (.extract (.t 5) 1),o 3 (.pend [(.i 0),(.i 0)]),
 ⟨none,.shut 3 2 (.t 8),none,[]⟩,o 4 (.mv (.t 9))]) (.seq (.reg false [o 10 (.mv (.t 4)),o 2 (.mv (.t 10))]) (.ret))))⟩
def kN:AC:= .seq (.reg false [o 10<|.mv<|.t 37]) (.reg false [o 11<|.pend [(.i 0),(.i 0),(.str []),(.str []),(.slice 0 [] .full),(.slice 0 [] .full),(.slice 0 [] .full),(.slice 0 [] .full)],⟨none,.shut 11 8<|.t 38,none,[]⟩])
def kQ:AC:= .block 1 (.seq (.reg true [o 40<|.load true 8<|.t 11,o 41<|.load false 1<|.t 5,o 42<|.load false 1<|.t 6,p 43 [2]<|.mv<|.t 42,⟨some 44,.load true 8<|.t 4,some (43,false),[3,2]⟩,⟨some 45,.mv<|.t 10,some (43,false),[3,2]⟩,
 ⟨some 46,.load false 1 (.t 5),some (43,false),[3,2]⟩,⟨some 47,.aW true (.f 117) [(.t 44),(.t 45),(.t 46)],some (43,false),[4,3,2,5,6]⟩,p 48 [3,2,7,4,5,6]<|.pick (.t 43) (.c<|.bool true)<|.t 47,
 o 49 (.load false 1 (.t 7)),p 50 [9,7,4,3,2,5,6]<|.mv<|.t 49,⟨some 51,.aI 0<|.t 4,some (50,false),[10,9,7,4,3,2,5,6]⟩,⟨some 52,.aI 0<|.t 51,some (50,false),[11,10,9,7,4,3,2,5,6]⟩,
 ⟨some 53,.load false 1 (.t 52),some (50,false),[12,11,10,9,7,4,3,2,5,6]⟩,⟨some 54,.bin .eql (.t 53)<|.c<|.i 4,some (50,false),[13,12,11,10,9,7,4,3,2,5,6]⟩,
 p 55 [10,9,7,4,3,2,5,6,14,13,12,11] (.pick (.t 50) (.c (.bool true)) (.t 54)),p 56 [0,1,8,3,2,7,4,5,6,15,10,9,14,13,12,11]<|.aW false (.f 82) [(.t 40),(.t 41),(.t 48),(.t 55)],
 p 39 [16,0,1,8,3,2,7,4,5,6,15,10,9,14,13,12,11] (.mv (.t 56)),p 57 [17,16,0,1,8,3,2,7,4,5,6,15,10,9,14,13,12,11]<|.extract (.t 39) 0,
 p 58 [17,16,0,1,8,3,2,7,4,5,6,15,10,9,14,13,12,11] (.extract (.t 39) 1),p 12 [18,17,16,0,1,8,3,2,7,4,5,6,15,10,9,14,13,12,11]<|.mv<|.t 57,
 p 13 [19,17,16,0,1,8,3,2,7,4,5,6,15,10,9,14,13,12,11,20,18] (.mv (.t 58))])<|.seq (.reg false [o 59<|.mv<|.t 13])<|.cond (.t 59) (.seq (.reg false [o 60<|.mv<|.t 12,⟨none,.store 1 (.t 8)<|.t 60,none,[]⟩,⟨none,.store 1 (.t 9)<|.c<|.bool true,none,[]⟩])<|.ret)<|.skip)
def c82:AF:=⟨4,61,[.cell 8 false 1,.cell 9 false 1],
 (.seq (.reg false [o 4 (.g5 (.t 0)),o 5 (.g5 (.t 1)),o 6 (.g5 (.t 2)),o 7 (.g5 (.t 3)),o 8 (.alloc [(.slice 0 [] .full)]),o 9 (.alloc [(.bool false)])]) (.seq (.seq (.reg true [o 14 (.load false 1 (.t 6)),p 15 [0] (.un .not (.t 14)),p 16 [1,0] (.mv (.t 15)),⟨some 17,.load true 8 (.t 4),some (16,true),[2,1,0]⟩,⟨some 18,.load false 1 (.t 5),some (16,true),[2,1,0]⟩,
 ⟨some 19,.aW false (.f 114) [(.t 17),(.t 18)],some (16,true),[3,2,1,0,4]⟩,p 20 [2,1,0,5,3,4] (.pick (.t 16) (.t 19) (.c (.bool false))),p 21 [6,2,1,0,5,3,4] (.mv (.t 20)),
 ⟨some 22,.load false 1 (.t 7),some (21,false),[7,6,2,1,0,5,3,4]⟩,⟨some 23,.un .not (.t 22),some (21,false),[8,7,6,2,1,0,5,3,4]⟩,⟨some 24,.mv (.t 23),some (21,false),[9,8,7,6,2,1,0,5,3,4]⟩,
 ⟨some 25,.aMg 10 1 (.g 0) none none,some (24,true),[10,9,8,7,6,2,1,0,5,3,4]⟩,⟨some 26,.aI 0 (.t 4),some (24,true),[10,9,8,7,6,2,1,0,5,3,4]⟩,
 ⟨some 27,.aI 0 (.t 26),some (24,true),[12,10,9,8,7,6,2,1,0,5,3,4]⟩,⟨some 28,.load false 1 (.t 27),some (24,true),[13,12,10,9,8,7,6,2,1,0,5,3,4]⟩,
 ⟨some 29,.aW false (.f 115) [(.t 25),(.t 28)],some (24,true),[11,10,9,8,7,6,2,1,0,5,3,4,14,13,12]⟩,⟨some 30,.un .not (.t 29),some (24,true),[15,11,10,9,8,7,6,2,1,0,5,3,4,14,13,12]⟩,
 ⟨some 31,.pick (.t 24) (.t 30) (.c (.bool false)),some (21,false),[10,9,8,7,6,2,1,0,5,3,4,16,15,11,14,13,12]⟩,p 32 [7,6,2,1,0,5,3,4,17,10,9,8,16,15,11,14,13,12] (.pick (.t 21) (.c (.bool true)) (.t 31))]) (.cond (.t 32) (.seq (.reg false [o 33 (.aI 7 (.t 4)),o 34 (.load false 1 (.t 33)),⟨none,.store 1 (.t 8) (.t 34),none,[]⟩,⟨none,.store 1 (.t 9) (.c (.bool true)),none,[]⟩]) (.ret)) (.skip))) (.seq (.seq (.reg false [o 35 (.load true 8 (.t 4)),o 36 (.aW false (.f 116) [(.t 35)])]) (.block 0 (.lY (.t 36) [37,38] (kN) (kQ)))) (.seq (.reg false [⟨none,.store 1 (.t 8) (.c (.slice 0 [] .full)),none,[]⟩,⟨none,.store 1 (.t 9) (.c (.bool false)),none,[]⟩]) (.ret)))))⟩
def c83:AF:=⟨2,19,[],
 (.seq (.reg false [o 7 (.aA3)]) (.block 0 (.seq (.reg false [o 9 (.aD1 false .iface (.t 7))]) (.cond (.t 9) (.reg false [o 4 (.mv (.t 7))]) (.seq (.reg false [o 10 (.assert true 160 (.agg [(.slice 0 [] .full)]) (.t 7)),o 11 (.extract (.t 10) 1),o 12 (.extract (.t 10) 0)]) (.cond (.t 11) (.seq (.reg false [o 5 (.pend [(.slice 0 [] .full)]),⟨none,.shut 5 1 (.t 12),none,[]⟩]) (.reg false [o 13 (.mv (.t 0)),o 14 (.mv (.t 1)),o 15 (.aI 0 (.t 5)),o 16 (.load false 1 (.t 15)),o 17 (.eF (.t 13)),⟨none,.store 1 (.t 17) (.t 16),none,[]⟩,o 18 (.eF (.t 14)),
 ⟨none,.store 1 (.t 18) (.c (.i 10)),none,[]⟩])) (.seq (.reg false [o 6 (.mv (.t 7))]) (.reg false [o 8 (.mv (.t 6)),⟨none,.panic (.t 8),none,[]⟩]))))))))⟩
def c84:AF:=⟨2,38,[],
 (.seq (.reg false [o 3 (.g5 (.t 1))]) (.seq (.seq (.reg false [o 5 (.mv (.t 0)),o 6 (.load true 8 (.t 3)),o 7 (.call (.f 118) [(.t 5),(.t 6)])]) (.cond (.t 7) (.seq (.reg false [o 8 (.mv (.t 0)),o 9 (.load true 8 (.t 3)),o 10 (.call (.f 119) [(.t 8),(.t 9)])]) (.ret)) (.skip))) (.seq (.reg false [o 11 (.mkMap),o 12 (.mv (.t 0)),o 13 (.lW 120 [(.t 12)] []),⟨none,.kM .int (.t 11) (.c (.i 6)) (.t 13),none,[]⟩,o 14 (.mv (.t 0)),o 15 (.lW 121 [(.t 14)] []),
 ⟨none,.kM .int (.t 11) (.c (.i 8)) (.t 15),none,[]⟩,o 16 (.mv (.t 0)),o 17 (.lW 122 [(.t 16)] []),⟨none,.kM .int (.t 11) (.c (.i 11)) (.t 17),none,[]⟩,
 o 18 (.mv (.t 0)),o 19 (.lW 123 [(.t 18)] []),⟨none,.kM .int (.t 11) (.c (.i 14)) (.t 19),none,[]⟩,o 20 (.mv (.t 0)),o 21 (.lW 123 [(.t 20)] []),
 ⟨none,.kM .int (.t 11) (.c (.i 15)) (.t 21),none,[]⟩,o 22 (.mv (.t 0)),o 23 (.lW 123 [(.t 22)] []),⟨none,.kM .int (.t 11) (.c (.i 16)) (.t 23),none,[]⟩,
 o 24 (.mv (.t 11)),o 25 (.aI 0 (.t 3)),o 26 (.aI 0 (.t 25)),o 27 (.load false 1 (.t 26)),o 28 (.lookup false .int .cZ (.t 24) (.t 27)),o 4 (.mv (.t 28))]) (.seq (.seq (.reg false [o 29 (.mv (.t 4)),o 30 (.aD1 false .func (.t 29))]) (.cond (.t 30) (.reg false [o 31 (.aI 7 (.t 3)),o 32 (.load false 1 (.t 31)),o 33 (.build [(.slice 0 [] .full)] [(0,1,(.t 32))]),o 34 (.z0 160 (.t 33)),⟨none,.panic (.t 34),none,[]⟩]) (.skip))) (.reg false [o 35 (.mv (.t 4)),o 36 (.load true 8 (.t 3)),o 37 (.call (.t 35) [(.t 36)])])))))⟩
def aPM:AC:= .loop (.seq (.seq (.reg false [o 6<|.mv<|.t 5,o 7<|.mv<|.t 0,o 8<|.jF<|.t 7,o 9<|.bin .lss (.t 6)<|.t 8])<|.cond (.t 9) (.skip)<|.exit 0)<|.seq (.block 1<|.seq (.reg false [o 12<|.mv<|.t 0,o 13<|.mv<|.t 5,o 14<|.nA 1 (.t 12)<|.t 13,o 15<|.load false 1<|.t 14,o 16<|.mv<|.t 1,o 17<|.bin .eql (.t 15)<|.t 16])<|.cond (.t 17) (.seq (.reg false [o 18<|.mv<|.t 5,o 4<|.mv<|.t 18])<|.ret)<|.skip)<|.reg false [o 10<|.mv<|.t 5,o 11<|.bin .add (.t 10)<|.c<|.i 1,o 5<|.mv<|.t 11])
def c98:AF:=⟨2,19,[.tmp 4],
 (.seq (.reg false [o 4 (.mv (.c (.i 0)))]) (.seq (.seq (.reg false [o 5 (.mv (.c (.i 0)))]) (.block 0 (aPM))) (.seq (.reg false [o 4 (.mv (.c (.i (-1))))]) (.ret))))⟩
def aNo:AC:= .loop (.seq (.reg false [o 23<|.mH<|.t 22,o 24<|.extract (.t 23) 0])<|.seq (.cond (.t 24) (.skip)<|.exit 0)<|.block 1<|.seq (.reg false [o 25<|.extract (.t 23) 2,o 6<|.mv<|.t 25])<|.seq (.reg false [o 26<|.mv<|.t 6,o 27<|.bin .gtr (.t 26)<|.c<|.int .i32 127,o 28<|.mv<|.t 27,g 29 28 false<|.mv<|.t 6,g 30 28 false<|.toInt .u8<|.t 29,g 31 28 false<|.aW false (.f 164) [(.t 30)],
 g 32 28 false (.bin .lss (.t 31) (.c (.i 2))),o 33<|.pick (.t 28) (.c<|.bool true)<|.t 32])<|.cond (.t 33) (.seq (.reg false [o 4<|.mv<|.c<|.bool false])<|.ret)<|.skip)
def aPh:AF:=⟨2,34,[.tmp 4],
 (.seq (.reg false [o 4 (.mv (.c (.bool false)))]) (.seq (.seq (.reg false [o 7 (.mv (.t 0)),o 8 (.bin .eql (.t 7) (.c (.str []))),o 9 (.mv (.t 8)),g 10 9 false (.mv (.t 0)),g 11 9 false (.aEA (.t 10)),g 12 9 false (.bin .gtr (.t 11) (.c (.i 12))),
 o 13 (.pick (.t 9) (.c (.bool true)) (.t 12)),o 14 (.mv (.t 13)),g 15 14 false (.mv (.t 0)),g 16 14 false (.aCf (.t 15) (.c (.i 0))),g 17 14 false (.aW false (.f 164) [(.t 16)]),
 g 18 14 false (.mv (.t 1)),g 19 14 false (.bin .neq (.t 17) (.t 18)),o 20 (.pick (.t 14) (.c (.bool true)) (.t 19))]) (.cond (.t 20) (.seq (.reg false [o 4 (.mv (.c (.bool false)))]) (.ret)) (.skip))) (.seq (.seq (.reg false [o 21 (.mv (.t 0)),o 22 (.mA (.t 21))]) (.block 0 (aNo))) (.seq (.reg false [o 4 (.mv (.c (.bool true)))]) (.ret)))))⟩
def aRi:AF:=⟨1,12,[.tmp 2],
 (.seq (.reg false [o 2 (.mv (.c (.bool false)))]) (.seq (.reg false [o 6 (.call (.f 165) []),o 7 (.mv (.t 0)),o 8 (.lookup true .str (.i 0) (.t 6) (.t 7)),o 5 (.mv (.t 8)),o 9 (.extract (.t 5) 0),o 10 (.extract (.t 5) 1),o 3 (.mv (.t 9)),
 o 4 (.mv (.t 10))]) (.seq (.reg false [o 11 (.mv (.t 4)),o 2 (.mv (.t 11))]) (.ret))))⟩
def aP6:AF:=⟨1,13,[.cell 2 true 2,.tmp 3],
 (.seq (.reg false [o 1 (.g5 (.t 0)),o 2 (.alloc [(.i 0),(.i 0)]),o 3 (.mv (.c (.i 0)))]) (.seq (.reg false [o 5 (.build [(.i 0),(.i 0)] [(0,1,(.c (.i 3000)))]),o 4 (.alloc [(.i 0),(.i 0)]),⟨none,.store 2 (.t 4) (.t 5),none,[]⟩]) (.seq (.seq (.reg false [o 6 (.load true 7 (.t 1)),o 7 (.call (.f 147) [(.t 4),(.t 6),(.c (.i 1))]),o 8 (.un .not (.t 7))]) (.cond (.t 8) (.seq (.reg false [o 9 (.load true 2 (.t 4)),⟨none,.store 2 (.t 2) (.t 9),none,[]⟩,o 3 (.mv (.c (.i 3)))]) (.ret)) (.skip))) (.seq (.reg true [o 10 (.load true 2 (.t 4)),o 11 (.load true 7 (.t 1)),p 12 [1] (.aW true (.f 150) [(.t 11)]),⟨none,.store 2 (.t 2) (.t 10),none,[0,2,1]⟩,p 3 [2,1,3,0] (.mv (.t 12))]) (.ret)))))⟩
def aQP:AF:=⟨2,28,[.tmp 4],
 (.seq (.reg false [o 2 (.g5 (.t 0)),o 4 (.mv (.c (.bool false)))]) (.seq (.reg false [o 5 (.aI 0 (.t 2)),o 6 (.aI 2 (.t 5)),o 7 (.load false 1 (.t 6)),o 8 (.mv (.t 1)),o 9 (.bin .eql (.t 7) (.t 8)),o 10 (.mv (.t 9)),g 11 10 true (.aI 0 (.t 2)),
 g 12 10 true (.aI 0 (.t 11)),g 13 10 true (.load false 1 (.t 12)),g 14 10 true (.bin .eql (.t 13) (.c (.i 0))),g 15 10 true (.mv (.t 14)),g 16 15 false (.aI 0 (.t 2)),
 g 17 15 false (.aI 0 (.t 16)),g 18 15 false (.load false 1 (.t 17)),g 19 15 false (.bin .eql (.t 18) (.c (.i 18))),g 20 10 true (.pick (.t 15) (.c (.bool true)) (.t 19)),
 g 21 10 true (.mv (.t 20)),g 22 21 false (.aI 0 (.t 2)),g 23 21 false (.aI 0 (.t 22)),g 24 21 false (.load false 1 (.t 23)),g 25 21 false (.bin .eql (.t 24) (.c (.i 19))),
 g 26 10 true (.pick (.t 21) (.c (.bool true)) (.t 25)),o 27 (.pick (.t 10) (.t 26) (.c (.bool false))),o 4 (.mv (.t 27))]) (.ret)))⟩
def aQr:AF:=⟨2,9,[.tmp 4],
 (.seq (.reg false [o 4 (.mv (.c (.bool false)))]) (.seq (.reg false [o 5 (.mv (.t 0)),o 6 (.mv (.t 1)),o 7 (.aW false (.f 167) [(.t 5),(.t 6)]),o 8 (.bin .geq (.t 7) (.c (.i 0))),o 4 (.mv (.t 8))]) (.ret)))⟩
def aRk:AF:=⟨1,4,[.tmp 2],
 (.seq (.reg false [o 1 (.g5 (.t 0)),o 2 (.mv (.c .cZ))]) (.seq (.reg false [o 3 (.lW 168 [] [(.t 1)]),o 2 (.mv (.t 3))]) (.ret)))⟩
def aQJ:AF:=⟨3,75,[.tmp 6],
 (.seq (.reg false [o 3 (.g5 (.t 0)),o 6 (.mv (.c (.bool false)))]) (.seq (.seq (.reg false [o 7 (.mv (.t 1)),o 8 (.aI 0 (.t 3)),o 9 (.aI 5 (.t 8)),o 10 (.load false 1 (.t 9)),o 11 (.jF (.t 10)),o 12 (.bin .geq (.t 7) (.t 11))]) (.cond (.t 12) (.seq (.reg false [o 13 (.aI 0 (.t 3)),o 14 (.aI 6 (.t 13)),o 15 (.load false 1 (.t 14)),o 16 (.mv (.t 1)),o 17 (.aI 0 (.t 3)),o 18 (.aI 5 (.t 17)),o 19 (.load false 1 (.t 18)),
 o 20 (.jF (.t 19)),o 21 (.bin .sub (.t 16) (.t 20)),o 22 (.nA 9 (.t 15) (.t 21)),o 23 (.aI 1 (.t 22)),o 24 (.load false 1 (.t 23)),o 25 (.mv (.t 2)),o 26 (.aW false (.f 127) [(.t 24),(.t 25)]),
 o 6 (.mv (.t 26))]) (.ret)) (.skip))) (.seq (.seq (.reg false [o 27 (.aI 0 (.t 3)),o 28 (.aI 0 (.t 27)),o 29 (.load false 1 (.t 28))]) (.block 0 (.seq (.reg false [o 31 (.bin .eql (.t 29) (.c (.i 4))),o 30 (.mv (.t 31))]) (.cond (.t 30) (.seq (.reg false [o 32 (.aI 0 (.t 3)),o 33 (.aI 4 (.t 32)),o 34 (.load false 1 (.t 33)),o 35 (.nA 1 (.t 34) (.c (.i 0))),o 36 (.load false 1 (.t 35)),o 37 (.mv (.t 2)),
 o 38 (.bin .eql (.t 36) (.t 37)),o 6 (.mv (.t 38))]) (.ret)) (.seq (.reg false [o 40 (.bin .eql (.t 29) (.c (.i 6))),o 39 (.mv (.t 40))]) (.cond (.t 39) (.seq (.reg false [o 41 (.mv (.t 1)),o 42 (.bin .eql (.t 41) (.c (.i 1))),o 43 (.mv (.t 42)),g 44 43 true (.aI 0 (.t 3)),g 45 43 true (.aI 4 (.t 44)),g 46 43 true (.load false 1 (.t 45)),
 g 47 43 true (.nA 1 (.t 46) (.c (.i 0))),g 48 43 true (.load false 1 (.t 47)),g 49 43 true (.mv (.t 2)),g 50 43 true (.bin .eql (.t 48) (.t 49)),o 51 (.pick (.t 43) (.t 50) (.c (.bool false))),
 o 6 (.mv (.t 51))]) (.ret)) (.seq (.reg false [o 53 (.bin .eql (.t 29) (.c (.i 17))),o 52 (.mv (.t 53))]) (.cond (.t 52) (.seq (.reg false [o 54 (.mv (.t 1)),o 55 (.bin .eql (.t 54) (.c (.i 2))),o 56 (.mv (.t 55)),g 57 56 true (.aI 0 (.t 3)),g 58 56 true (.aI 4 (.t 57)),g 59 56 true (.load false 1 (.t 58)),
 g 60 56 true (.nA 1 (.t 59) (.c (.i 0))),g 61 56 true (.load false 1 (.t 60)),g 62 56 true (.mv (.t 2)),g 63 56 true (.bin .eql (.t 61) (.t 62)),o 64 (.pick (.t 56) (.t 63) (.c (.bool false))),
 o 6 (.mv (.t 64))]) (.ret)) (.seq (.reg false [o 66 (.bin .eql (.t 29) (.c (.i 7))),o 65 (.mv (.t 66))]) (.cond (.t 65) (.seq (.reg false [o 67 (.aI 0 (.t 3)),o 68 (.aI 4 (.t 67)),o 69 (.load false 1 (.t 68)),o 70 (.mv (.t 1)),o 71 (.bin .sub (.c (.i 2)) (.t 70)),o 72 (.aAF 1 (.t 69) none (some (.t 71)) none),
 o 73 (.mv (.t 2)),o 74 (.aW false (.f 127) [(.t 72),(.t 73)]),o 6 (.mv (.t 74))]) (.ret)) (.skip))))))))))) (.seq (.reg false [o 6 (.mv (.c (.bool false)))]) (.ret)))))⟩
def aPX:AF:=⟨2,25,[.tmp 4],
 (.seq (.reg false [o 3 (.g5 (.t 1)),o 4 (.mv (.c (.bool false)))]) (.seq (.reg true [o 5 (.aI 0 (.t 3)),p 6 [0] (.aI 0 (.t 5)),p 7 [1,0] (.load false 1 (.t 6)),p 8 [2,1,0] (.bin .eql (.t 7) (.c (.i 18))),p 9 [3,2,1,0] (.mv (.t 8)),
 ⟨some 10,.aI 0 (.t 3),some (9,false),[4,3,2,1,0]⟩,⟨some 11,.aI 0 (.t 10),some (9,false),[5,4,3,2,1,0]⟩,⟨some 12,.load false 1 (.t 11),some (9,false),[6,5,4,3,2,1,0]⟩,
 ⟨some 13,.bin .eql (.t 12) (.c (.i 19)),some (9,false),[7,6,5,4,3,2,1,0]⟩,p 14 [4,3,2,1,0,8,7,6,5] (.pick (.t 9) (.c (.bool true)) (.t 13)),
 p 15 [9,4,3,2,1,0,8,7,6,5] (.mv (.t 14)),⟨some 16,.aI 0 (.t 3),some (15,true),[10,9,4,3,2,1,0,8,7,6,5]⟩,⟨some 17,.aI 2 (.t 16),some (15,true),[11,10,9,4,3,2,1,0,8,7,6,5]⟩,
 ⟨some 18,.load false 1 (.t 17),some (15,true),[12,11,10,9,4,3,2,1,0,8,7,6,5]⟩,⟨some 19,.mv (.t 0),some (15,true),[10,9,4,3,2,1,0,8,7,6,5]⟩,
 ⟨some 20,.eF (.t 19),some (15,true),[14,10,9,4,3,2,1,0,8,7,6,5]⟩,⟨some 21,.aI 0 (.t 20),some (15,true),[15,14,10,9,4,3,2,1,0,8,7,6,5]⟩,
 ⟨some 22,.load false 1 (.t 21),some (15,true),[16,15,14,10,9,4,3,2,1,0,8,7,6,5]⟩,⟨some 23,.bin .eql (.t 18) (.t 22),some (15,true),[13,12,11,10,9,4,3,2,1,0,8,7,6,5,17,16,15,14]⟩,
 p 24 [10,9,4,3,2,1,0,8,7,6,5,18,13,12,11,17,16,15,14] (.pick (.t 15) (.t 23) (.c (.bool false))),p 4 [19,10,9,4,3,2,1,0,8,7,6,5,18,13,12,11,17,16,15,14] (.mv (.t 24))]) (.ret)))⟩
def e5:AC:= .reg false [o 5<|.pend [(.i 0),(.i 0),(.str []),(.str []),(.slice 0 [] .full),(.slice 0 [] .full),(.slice 0 [] .full),(.slice 0 [] .full)],⟨none,.shut 5 8<|.t 9,none,[]⟩]
def fI:AC:= .block 1 (.reg true [o 10<|.load true 8<|.t 5,o 11<|.load false 1<|.t 2,p 12 [1]<|.eF<|.t 11,p 13 [2,1]<|.aI 0<|.t 12,p 14 [3,2,1]<|.load false 1<|.t 13,p 15 [0,4,3,2,1]<|.aW false (.f 82) [(.t 10),(.t 14),(.c<|.bool false),(.c<|.bool false)],
 p 16 [5,0,4,3,2,1] (.extract (.t 15) 0),p 17 [5,0,4,3,2,1]<|.extract (.t 15) 1,p 18 [6,5,0,4,3,2,1,7]<|.call (.f 137) [(.t 16),(.t 17)]])
def aQN:AF:=⟨2,52,[],
 (.seq (.reg false [o 2 (.g5 (.t 0)),o 3 (.g5 (.t 1))]) (.seq (.seq (.reg false [o 6 (.load true 8 (.t 3)),o 7 (.aW false (.f 116) [(.t 6)])]) (.block 0 (.lY (.t 7) [8,9] (e5) (fI)))) (.seq (.reg true [o 19 (.load false 1 (.t 2)),o 20 (.load false 1 (.t 2)),p 21 [1] (.eF (.t 20)),p 22 [2,1] (.aI 1 (.t 21)),p 23 [3,2,1] (.load false 1 (.t 22)),o 24 (.aI 7 (.t 3)),
 p 25 [5] (.load false 1 (.t 24)),p 26 [6,5] (.oK 1 1 [(.slice 0 [] .full)] [(0,(.t 25))]),p 27 [4,3,2,1,7,6,5] (.append true 1 24 (.t 23) (.t 26)),p 28 [0,1,2,3,4,5,6,7,8] (.eF (.t 19)),
 p 29 [9,0,1,2,3,4,5,6,7,8] (.aI 1 (.t 28)),⟨none,.store 1 (.t 29) (.t 27),none,[10,9,0,1,2,3,4,5,6,7,8]⟩]) (.seq (.reg false [o 30 (.aI 0 (.t 3)),o 31 (.aI 0 (.t 30)),o 32 (.load false 1 (.t 31)),o 33 (.bin .eql (.t 32) (.c (.i 18)))]) (.cond (.t 33) (.reg true [o 34 (.load false 1 (.t 2)),p 35 [0] (.eF (.t 34)),p 36 [1,0] (.aI 2 (.t 35)),p 37 [2,1,0] (.aAC 2 1 (.t 36) (.c (.i 0))),p 38 [3,2,1,0] (.load false 1 (.t 37)),
 p 39 [4,3,2,1,0] (.bin .add (.t 38) (.c (.i 1))),p 40 [0] (.eF (.t 34)),p 41 [6,0] (.aI 2 (.t 40)),p 42 [7,6,0,1,2,3,4,5] (.aAC 2 1 (.t 41) (.c (.i 0))),
 ⟨none,.store 1 (.t 42) (.t 39),none,[8,7,6,0,1,2,3,4,5]⟩]) (.reg true [o 43 (.load false 1 (.t 2)),p 44 [0] (.eF (.t 43)),p 45 [1,0] (.aI 2 (.t 44)),p 46 [2,1,0] (.aAC 2 1 (.t 45) (.c (.i 1))),p 47 [3,2,1,0] (.load false 1 (.t 46)),
 p 48 [4,3,2,1,0] (.bin .add (.t 47) (.c (.i 1))),p 49 [0] (.eF (.t 43)),p 50 [6,0] (.aI 2 (.t 49)),p 51 [7,6,0,1,2,3,4,5] (.aAC 2 1 (.t 50) (.c (.i 1))),
 ⟨none,.store 1 (.t 51) (.t 48),none,[8,7,6,0,1,2,3,4,5]⟩]))))))⟩
def aQx:AF:=⟨2,50,[],
 (.seq (.reg false [o 2 (.g5 (.t 0)),o 3 (.g5 (.t 1))]) (.seq (.reg true [o 8 (.load true 8 (.t 3)),p 9 [0] (.aW true (.f 169) [(.t 8),(.c (.i 0))]),o 10 (.load true 8 (.t 3)),p 11 [2,1,0] (.aW true (.f 169) [(.t 10),(.c (.i 1))]),
 o 4 (.pend [(.i 0),(.i 0),(.str []),(.str []),(.slice 0 [] .full),(.slice 0 [] .full),(.slice 0 [] .full),(.slice 0 [] .full)]),o 5 (.pend [(.i 0),(.i 0),(.str []),(.str []),(.slice 0 [] .full),(.slice 0 [] .full),(.slice 0 [] .full),(.slice 0 [] .full)]),
 ⟨none,.shut 4 8 (.t 9),none,[4,1,0,3,2,5]⟩,⟨none,.shut 5 8 (.t 11),none,[5,3,2,1,0,6,4]⟩]) (.seq (.seq (.reg false [o 12 (.load false 1 (.t 2)),o 13 (.load true 8 (.t 4)),o 14 (.call (.f 118) [(.t 12),(.t 13)])]) (.cond (.t 14) (.seq (.reg false [o 15 (.load false 1 (.t 2)),o 16 (.load true 8 (.t 4)),o 17 (.call (.f 119) [(.t 15),(.t 16)])]) (.seq (.seq (.reg true [o 18 (.aI 0 (.t 3)),p 19 [0] (.aI 4 (.t 18)),p 20 [1,0] (.load false 1 (.t 19)),p 21 [2,1,0] (.nA 1 (.t 20) (.c (.i 0))),p 22 [3,2,1,0] (.load false 1 (.t 21)),
 o 23 (.load false 1 (.t 2)),p 24 [5] (.eF (.t 23)),p 25 [6,5] (.aI 0 (.t 24)),p 26 [7,6,5] (.load false 1 (.t 25)),p 27 [4,3,2,1,0,8,7,6,5] (.bin .neq (.t 22) (.t 26))]) (.cond (.t 27) (.reg true [o 28 (.load true 8 (.t 5)),o 29 (.load false 1 (.t 2)),p 30 [1] (.eF (.t 29)),p 31 [2,1] (.aI 0 (.t 30)),p 32 [3,2,1] (.load false 1 (.t 31)),p 33 [0,4,3,2,1] (.aW false (.f 170) [(.t 28),(.t 32)]),
 p 34 [5,0,4,3,2,1] (.extract (.t 33) 0),p 35 [5,0,4,3,2,1] (.extract (.t 33) 1),p 36 [6,5,0,4,3,2,1,7] (.call (.f 137) [(.t 34),(.t 35)])]) (.skip))) (.ret))) (.skip))) (.seq (.reg false [o 38 (.lW 172 [] [(.t 4),(.t 2)]),o 39 (.lW 173 [] [(.t 3),(.t 2)]),o 40 (.oK 1 2 [.cZ] [(0,(.t 38)),(1,(.t 39))]),o 41 (.call (.f 171) [(.t 40)]),
 o 37 (.mv (.t 41)),o 42 (.extract (.t 37) 0),o 43 (.extract (.t 37) 1),o 6 (.mv (.t 42)),o 7 (.mv (.t 43))]) (.seq (.reg false [o 44 (.mv (.t 6)),o 45 (.mv (.t 7)),o 46 (.call (.f 137) [(.t 44),(.t 45)])]) (.reg false [o 47 (.load false 1 (.t 2)),o 48 (.load true 8 (.t 5)),o 49 (.call (.f 84) [(.t 47),(.t 48)])]))))))⟩
def aQq:AF:=⟨2,22,[],
 (.seq (.reg false [o 3 (.g5 (.t 1))]) (.seq (.reg true [o 4 (.load true 8 (.t 3)),p 5 [0] (.aW true (.f 169) [(.t 4),(.c (.i 0))]),o 6 (.mv (.t 0)),p 7 [2] (.eF (.t 6)),p 8 [3,2] (.aI 0 (.t 7)),p 9 [4,3,2] (.load false 1 (.t 8)),
 p 10 [1,0,5,4,3,2] (.aW false (.f 82) [(.t 5),(.t 9),(.c (.bool false)),(.c (.bool false))]),p 11 [6,1,0,5,4,3,2] (.extract (.t 10) 0),p 12 [6,1,0,5,4,3,2] (.extract (.t 10) 1),
 p 13 [7,6,1,0,5,4,3,2,8] (.call (.f 137) [(.t 11),(.t 12)])]) (.seq (.reg false [o 14 (.mv (.t 0)),o 15 (.load true 8 (.t 3)),o 16 (.aW false (.f 169) [(.t 15),(.c (.i 1))]),o 17 (.call (.f 84) [(.t 14),(.t 16)])]) (.reg false [o 18 (.mv (.t 0)),o 19 (.load true 8 (.t 3)),o 20 (.aW false (.f 169) [(.t 19),(.c (.i 2))]),o 21 (.call (.f 84) [(.t 18),(.t 20)])]))))⟩
def eH:AC:= .seq (.reg false [o 4<|.mv<|.t 18]) (.reg false [o 5<|.pend [(.i 0),(.i 0),(.str []),(.str []),(.slice 0 [] .full),(.slice 0 [] .full),(.slice 0 [] .full),(.slice 0 [] .full)],⟨none,.shut 5 8<|.t 19,none,[]⟩])
def eG:AC:= .block 1 (.seq (.seq (.reg false [o 20<|.mv<|.t 4,o 21<|.bin .eql (.t 20)<|.c<|.i 0])<|.cond (.t 21) (.exit 1)<|.skip)<|.seq (.reg true [o 22<|.aI 7<|.t 5,p 23 [0]<|.load false 1<|.t 22,o 24<|.load true 8<|.t 3,o 25<|.mv<|.t 4,o 26<|.load false 1<|.t 2,p 27 [4]<|.eF<|.t 26,p 28 [5,4]<|.aI 0<|.t 27,
 p 29 [6,5,4] (.load false 1 (.t 28)),p 30 [2,3,7,6,5,4]<|.aW true (.f 117) [(.t 24),(.t 25),(.t 29)],p 31 [1,0,8,2,3,7,6,5,4]<|.call (.f 137) [(.t 23),(.t 30)]])<|.reg false [o 32<|.load false 1<|.t 2,o 33<|.load true 8<|.t 5,o 34<|.call (.f 84) [(.t 32),(.t 33)]])
def aQk:AF:=⟨2,35,[],
 (.seq (.reg false [o 2 (.g5 (.t 0)),o 3 (.g5 (.t 1))]) (.seq (.reg true [o 6 (.load true 8 (.t 3)),p 7 [0] (.aW true (.f 169) [(.t 6),(.c (.i 0))]),o 8 (.load false 1 (.t 2)),p 9 [2] (.eF (.t 8)),p 10 [3,2] (.aI 0 (.t 9)),
 p 11 [4,3,2] (.load false 1 (.t 10)),p 12 [1,0,5,4,3,2] (.aW false (.f 82) [(.t 7),(.t 11),(.c (.bool false)),(.c (.bool false))]),p 13 [6,1,0,5,4,3,2] (.extract (.t 12) 0),
 p 14 [6,1,0,5,4,3,2] (.extract (.t 12) 1),p 15 [7,6,1,0,5,4,3,2,8] (.call (.f 137) [(.t 13),(.t 14)])]) (.seq (.reg false [o 16 (.load true 8 (.t 3)),o 17 (.aW false (.f 116) [(.t 16)])]) (.block 0 (.lY (.t 17) [18,19] (eH) (eG))))))⟩
def fF:AC:= .seq (.reg false [o 4<|.mv<|.t 12]) (.reg false [o 5<|.pend [(.i 0),(.i 0),(.str []),(.str []),(.slice 0 [] .full),(.slice 0 [] .full),(.slice 0 [] .full),(.slice 0 [] .full)],⟨none,.shut 5 8<|.t 13,none,[]⟩])
def eX:AC:= .block 1 (.seq (.seq (.reg true [o 14<|.mv<|.t 4,p 15 [0]<|.bin .eql (.t 14)<|.c<|.i 0,p 16 [1,0]<|.mv<|.t 15,⟨some 17,.load true 8<|.t 3,some (16,false),[2,1,0]⟩,⟨some 18,.mv<|.t 4,some (16,false),[2,1,0]⟩,
 ⟨some 19,.load false 1 (.t 2),some (16,false),[2,1,0]⟩,⟨some 20,.eF<|.t 19,some (16,false),[5,2,1,0]⟩,⟨some 21,.aI 0<|.t 20,some (16,false),[6,5,2,1,0]⟩,
 ⟨some 22,.load false 1 (.t 21),some (16,false),[7,6,5,2,1,0]⟩,⟨some 23,.aW false (.f 117) [(.t 17),(.t 18),(.t 22)],some (16,false),[3,2,1,0,4,8,7,6,5]⟩,
 p 24 [2,1,0,9,3,4,8,7,6,5] (.pick (.t 16) (.c (.bool true)) (.t 23))])<|.cond (.t 24) (.exit 1)<|.skip)<|.reg true [o 25<|.load true 8<|.t 5,o 26<|.load false 1<|.t 2,p 27 [1]<|.eF<|.t 26,p 28 [2,1]<|.aI 0<|.t 27,p 29 [3,2,1]<|.load false 1<|.t 28,p 30 [0,4,3,2,1]<|.aW false (.f 170) [(.t 25),(.t 29)],
 p 31 [5,0,4,3,2,1] (.extract (.t 30) 0),p 32 [5,0,4,3,2,1]<|.extract (.t 30) 1,p 33 [6,5,0,4,3,2,1,7]<|.call (.f 137) [(.t 31),(.t 32)]])
def aQd:AF:=⟨2,34,[],
 (.seq (.reg false [o 2 (.g5 (.t 0)),o 3 (.g5 (.t 1))]) (.scope (.seq (.reg true [o 6 (.load false 1 (.t 2)),o 7 (.load true 8 (.t 3)),p 8 [1] (.aW true (.f 169) [(.t 7),(.c (.i 0))]),p 9 [0,2,1] (.call (.f 84) [(.t 6),(.t 8)])]) (.seq (.skip) (.seq (.reg false [o 10 (.load true 8 (.t 3)),o 11 (.aW false (.f 116) [(.t 10)])]) (.block 0 (.lY (.t 11) [12,13] (fF) (eX))))))))⟩
def aPY:AF:=⟨2,9,[.tmp 4],
 (.seq (.reg false [o 4 (.mv (.c (.bool false)))]) (.seq (.reg false [o 5 (.mv (.t 0)),o 6 (.mv (.t 1)),o 7 (.aW false (.f 175) [(.t 5),(.t 6)]),o 8 (.bin .geq (.t 7) (.c (.i 0))),o 4 (.mv (.t 8))]) (.ret)))⟩
def aQs:AF:=⟨2,8,[],
 (.seq (.reg false [o 4 (.mv (.t 1))]) (.cond (.t 4) (.reg false [o 5 (.mv (.t 0)),o 6 (.build [(.slice 0 [] .full)] [(0,1,(.t 5))]),o 7 (.z0 160 (.t 6)),⟨none,.panic (.t 7),none,[]⟩]) (.skip)))⟩
def aQG:AF:=⟨3,35,[.tmp 6],
 (.seq (.reg false [o 3 (.g5 (.t 0)),o 4 (.g5 (.t 1)),o 5 (.g5 (.t 2)),o 6 (.mv (.c (.bool false)))]) (.seq (.reg false [o 7 (.load false 1 (.t 3)),o 8 (.eF (.t 7)),o 9 (.aI 0 (.t 8)),o 10 (.load false 1 (.t 9)),o 11 (.bin .sub (.t 10) (.c (.i 1))),o 12 (.eF (.t 7)),o 13 (.aI 0 (.t 12)),
 ⟨none,.store 1 (.t 13) (.t 11),none,[]⟩]) (.seq (.reg true [o 14 (.load false 1 (.t 3)),o 15 (.load false 1 (.t 3)),p 16 [1] (.eF (.t 15)),p 17 [2,1] (.aI 1 (.t 16)),p 18 [3,2,1] (.load false 1 (.t 17)),o 19 (.load false 1 (.t 5)),
 p 20 [4,3,2,1,5] (.yI true [(.t 18),(.t 19)]),p 21 [0,1,2,3,4,5,6] (.eF (.t 14)),p 22 [7,0,1,2,3,4,5,6] (.aI 1 (.t 21)),⟨none,.store 1 (.t 22) (.t 20),none,[8,7,0,1,2,3,4,5,6]⟩]) (.seq (.seq (.reg false [o 23 (.load false 1 (.t 3)),o 24 (.eF (.t 23)),o 25 (.aI 0 (.t 24)),o 26 (.load false 1 (.t 25)),o 27 (.bin .lss (.t 26) (.c (.i 0))),o 28 (.mv (.t 27)),
 g 29 28 false (.load false 1 (.t 5)),g 30 28 false (.bin .gtr (.t 29) (.c (.i 200))),o 31 (.pick (.t 28) (.c (.bool true)) (.t 30))]) (.cond (.t 31) (.seq (.reg false [o 6 (.mv (.c (.bool false)))]) (.ret)) (.skip))) (.seq (.reg false [o 32 (.load true 7 (.t 4)),o 33 (.lW 193 [] [(.t 3),(.t 5)]),o 34 (.call (.f 192) [(.t 32),(.t 33)]),o 6 (.mv (.t 34))]) (.ret))))))⟩
def aQY:AF:=⟨2,36,[.tmp 4],
 (.seq (.reg false [o 4 (.mv (.c (.bool false)))]) (.seq (.seq (.reg false [o 5 (.mv (.t 1))]) (.block 0 (.seq (.reg false [o 7 (.bin .eql (.t 5) (.c (.i 1))),o 6 (.mv (.t 7))]) (.cond (.t 6) (.seq (.reg false [o 8 (.mv (.t 0)),o 9 (.aW false (.f 77) [(.t 8)]),o 4 (.mv (.t 9))]) (.ret)) (.seq (.reg false [o 11 (.bin .eql (.t 5) (.c (.i 2))),o 10 (.mv (.t 11))]) (.cond (.t 10) (.seq (.reg false [o 12 (.mv (.t 0)),o 13 (.aW false (.f 194) [(.t 12)]),o 4 (.mv (.t 13))]) (.ret)) (.seq (.reg false [o 15 (.bin .eql (.t 5) (.c (.i 3))),o 14 (.mv (.t 15))]) (.cond (.t 14) (.seq (.reg false [o 16 (.mv (.t 0)),o 17 (.bin .eql (.t 16) (.c (.str [43]))),o 18 (.mv (.t 17)),g 19 18 false (.mv (.t 0)),g 20 18 false (.bin .eql (.t 19) (.c (.str [45]))),o 21 (.pick (.t 18) (.c (.bool true)) (.t 20)),
 o 22 (.mv (.t 21)),g 23 22 false (.mv (.t 0)),g 24 22 false (.bin .eql (.t 23) (.c (.str [42]))),o 25 (.pick (.t 22) (.c (.bool true)) (.t 24)),o 26 (.mv (.t 25)),g 27 26 false (.mv (.t 0)),
 g 28 26 false (.bin .eql (.t 27) (.c (.str [60]))),o 29 (.pick (.t 26) (.c (.bool true)) (.t 28)),o 30 (.mv (.t 29)),g 31 30 false (.mv (.t 0)),g 32 30 false (.bin .eql (.t 31) (.c (.str [61,61]))),
 o 33 (.pick (.t 30) (.c (.bool true)) (.t 32)),o 4 (.mv (.t 33))]) (.ret)) (.skip))))))))) (.seq (.reg false [o 34 (.mv (.t 0)),o 35 (.bin .eql (.t 34) (.c (.str []))),o 4 (.mv (.t 35))]) (.ret))))⟩
def aQb:AF:=⟨1,12,[.tmp 2],
 (.seq (.reg false [o 1 (.g5 (.t 0)),o 2 (.mv (.c (.i 0)))]) (.seq (.reg false [o 4 (.load true 7 (.t 1)),o 5 (.aW false (.f 195) [(.t 4)]),o 3 (.alloc [(.i 0)]),⟨none,.store 1 (.t 3) (.t 5),none,[]⟩]) (.seq (.seq (.reg false [o 6 (.load false 1 (.t 3)),o 7 (.bin .eql (.t 6) (.c (.i 0)))]) (.cond (.t 7) (.reg false [o 8 (.load true 7 (.t 1)),o 9 (.lW 196 [] [(.t 3)]),o 10 (.call (.f 192) [(.t 8),(.t 9)])]) (.skip))) (.seq (.reg false [o 11 (.load false 1 (.t 3)),o 2 (.mv (.t 11))]) (.ret)))))⟩
def aRf:AF:=⟨1,39,[.tmp 2],
 (.seq (.reg false [o 2 (.mv (.c (.i 0)))]) (.seq (.block 0 (.seq (.reg false [o 4 (.mv (.t 0)),o 5 (.bin .eql (.t 4) (.c (.int .u8 32))),o 6 (.mv (.t 5)),g 7 6 false (.mv (.t 0)),g 8 6 false (.bin .eql (.t 7) (.c (.int .u8 9))),o 9 (.pick (.t 6) (.c (.bool true)) (.t 8)),
 o 10 (.mv (.t 9)),g 11 10 false (.mv (.t 0)),g 12 10 false (.bin .eql (.t 11) (.c (.int .u8 10))),o 13 (.pick (.t 10) (.c (.bool true)) (.t 12)),o 3 (.mv (.t 13))]) (.cond (.t 3) (.seq (.reg false [o 2 (.mv (.c (.i 1)))]) (.ret)) (.seq (.reg false [o 15 (.mv (.t 0)),o 16 (.bin .eql (.t 15) (.c (.int .u8 95))),o 17 (.mv (.t 16)),g 18 17 false (.mv (.t 0)),g 19 17 false (.bin .leq (.c (.int .u8 97)) (.t 18)),g 20 17 false (.mv (.t 19)),
 g 21 20 true (.mv (.t 0)),g 22 20 true (.bin .leq (.t 21) (.c (.int .u8 122))),g 23 17 false (.pick (.t 20) (.t 22) (.c (.bool false))),o 24 (.pick (.t 17) (.c (.bool true)) (.t 23)),
 o 14 (.mv (.t 24))]) (.cond (.t 14) (.seq (.reg false [o 2 (.mv (.c (.i 2)))]) (.ret)) (.seq (.reg false [o 26 (.mv (.t 0)),o 27 (.bin .leq (.c (.int .u8 65)) (.t 26)),o 28 (.mv (.t 27)),g 29 28 true (.mv (.t 0)),g 30 28 true (.bin .leq (.t 29) (.c (.int .u8 90))),o 31 (.pick (.t 28) (.t 30) (.c (.bool false))),
 o 25 (.mv (.t 31))]) (.cond (.t 25) (.seq (.reg false [o 2 (.mv (.c (.i 3)))]) (.ret)) (.seq (.reg false [o 33 (.mv (.t 0)),o 34 (.bin .leq (.c (.int .u8 48)) (.t 33)),o 35 (.mv (.t 34)),g 36 35 true (.mv (.t 0)),g 37 35 true (.bin .leq (.t 36) (.c (.int .u8 57))),o 38 (.pick (.t 35) (.t 37) (.c (.bool false))),
 o 32 (.mv (.t 38))]) (.cond (.t 32) (.seq (.reg false [o 2 (.mv (.c (.i 4)))]) (.ret)) (.skip)))))))))) (.seq (.reg false [o 2 (.mv (.c (.i 0)))]) (.ret))))⟩
def aME:AC:= .loop (.seq (.reg false [o 9<|.bin .lss (.t 8)<|.t 7])<|.seq (.cond (.t 9) (.skip)<|.exit 0)<|.seq (.block 1<|.seq (.reg false [o 10<|.mv<|.t 8,o 5<|.mv<|.t 10])<|.seq (.reg false [o 11<|.mv<|.t 1,o 12<|.mv<|.t 0,o 13<|.mv<|.t 5,o 14<|.nA 1 (.t 12)<|.t 13,o 15<|.load false 1<|.t 14,o 16<|.bin .eql (.t 11)<|.t 15])<|.cond (.t 16) (.seq (.reg false [o 17<|.mv<|.t 5,o 4<|.mv<|.t 17])<|.ret)<|.skip)<|.reg false [o 18<|.bin .add (.t 8)<|.c<|.i 1,o 8<|.mv<|.t 18])
def aN9:AF:=⟨2,19,[.tmp 4],
 (.seq (.reg false [o 4 (.mv (.c (.i 0)))]) (.seq (.seq (.reg false [o 6 (.mv (.t 0)),o 7 (.jF (.t 6)),o 8 (.mv (.c (.i 0)))]) (.block 0 (aME))) (.seq (.reg false [o 4 (.mv (.c (.i (-1))))]) (.ret))))⟩
def aAo:AC:= .loop (.seq (.reg false [o 14<|.bin .lss (.t 13)<|.t 12])<|.seq (.cond (.t 14) (.skip)<|.exit 0)<|.seq (.block 1<|.seq (.reg false [o 15<|.mv<|.t 13,o 3<|.mv<|.t 15])<|.seq (.reg false [o 16<|.mv<|.t 0,o 17<|.mv<|.t 3,o 18<|.load true 8<|.t 1,o 19<|.mv<|.t 3,o 20<|.aW false (.f 169) [(.t 18),(.t 19)],o 21<|.call (.t 16) [(.t 17),(.t 20)],
 o 22 (.un .not (.t 21))])<|.cond (.t 22) (.ret)<|.skip)<|.reg false [o 23<|.bin .add (.t 13)<|.c<|.i 1,o 13<|.mv<|.t 23])
def aFN:AF:=⟨2,24,[],
 (.seq (.reg false [o 4 (.aI 0 (.t 1)),o 5 (.aI 5 (.t 4)),o 6 (.load false 1 (.t 5)),o 7 (.jF (.t 6)),o 8 (.aI 0 (.t 1)),o 9 (.aI 6 (.t 8)),o 10 (.load false 1 (.t 9)),o 11 (.jF (.t 10)),
 o 12 (.bin .add (.t 7) (.t 11)),o 13 (.mv (.c (.i 0)))]) (.block 0 (aAo)))⟩
def aRj:AF:=⟨2,37,[.cell 4 true 8],
 (.seq (.reg false [o 2 (.g5 (.t 0)),o 4 (.alloc [(.i 0),(.i 0),(.str []),(.str []),(.slice 0 [] .full),(.slice 0 [] .full),(.slice 0 [] .full),(.slice 0 [] .full)])]) (.seq (.reg false [o 6 (.build [(.i 0),(.i 0),(.str []),(.str []),(.slice 0 [] .full),(.slice 0 [] .full),(.slice 0 [] .full)] []),o 5 (.alloc [(.i 0),(.i 0),(.str []),(.str []),(.slice 0 [] .full),(.slice 0 [] .full),(.slice 0 [] .full)]),
 ⟨none,.store 7 (.t 5) (.t 6),none,[]⟩]) (.seq (.seq (.reg false [o 7 (.mv (.t 1)),o 8 (.aI 0 (.t 2)),o 9 (.aI 5 (.t 8)),o 10 (.load false 1 (.t 9)),o 11 (.jF (.t 10)),o 12 (.bin .lss (.t 7) (.t 11))]) (.cond (.t 12) (.reg false [o 13 (.aI 0 (.t 2)),o 14 (.aI 5 (.t 13)),o 15 (.load false 1 (.t 14)),o 16 (.mv (.t 1)),o 17 (.nA 7 (.t 15) (.t 16)),o 18 (.load true 7 (.t 17)),⟨none,.store 7 (.t 5) (.t 18),none,[]⟩]) (.reg false [o 19 (.aI 0 (.t 2)),o 20 (.aI 6 (.t 19)),o 21 (.load false 1 (.t 20)),o 22 (.mv (.t 1)),o 23 (.aI 0 (.t 2)),o 24 (.aI 5 (.t 23)),o 25 (.load false 1 (.t 24)),
 o 26 (.jF (.t 25)),o 27 (.bin .sub (.t 22) (.t 26)),o 28 (.nA 9 (.t 21) (.t 27)),o 29 (.aI 2 (.t 28)),o 30 (.load true 7 (.t 29)),⟨none,.store 7 (.t 5) (.t 30),none,[]⟩]))) (.seq (.reg true [o 31 (.load true 7 (.t 5)),o 32 (.aI 7 (.t 2)),p 33 [1] (.load false 1 (.t 32)),o 34 (.mv (.t 1)),p 35 [2,1,3] (.aW true (.f 202) [(.t 33),(.t 34)]),p 36 [0,4,2,1,3] (.build [(.i 0),(.i 0),(.str []),(.str []),(.slice 0 [] .full),(.slice 0 [] .full),(.slice 0 [] .full),(.slice 0 [] .full)] [(0,7,(.t 31)),(7,1,(.t 35))]),
 ⟨none,.store 8 (.t 4) (.t 36),none,[5,0,4,2,1,3]⟩]) (.ret)))))⟩
def iI:AC:= .seq (.reg false [o 6<|.mv<|.t 17]) (.reg false [o 7<|.pend [(.i 0),(.i 0),(.str []),(.str []),(.slice 0 [] .full),(.slice 0 [] .full),(.slice 0 [] .full),(.slice 0 [] .full)],⟨none,.shut 7 8<|.t 18,none,[]⟩])
def iU:AC:= .block 1 (.seq (.seq (.reg false [o 19<|.load true 8<|.t 2,o 20<|.mv<|.t 6,o 21<|.load false 1<|.t 3,o 22<|.aW false (.f 117) [(.t 19),(.t 20),(.t 21)]])<|.cond (.t 22) (.exit 1)<|.skip)<|.seq (.reg false [o 24<|.load true 8<|.t 7,o 25<|.load false 1<|.t 3,o 26<|.aW false (.f 170) [(.t 24),(.t 25)],o 23<|.mv<|.t 26,o 27<|.extract (.t 23) 0,o 28<|.extract (.t 23) 1,
 o 8 (.mv (.t 27)),o 9<|.mv<|.t 28])<|.seq (.reg false [o 29<|.mv<|.t 9])<|.cond (.t 29) (.seq (.reg false [o 30<|.mv<|.t 8,⟨none,.store 1 (.t 4)<|.t 30,none,[]⟩,⟨none,.store 1 (.t 5)<|.c<|.bool true,none,[]⟩])<|.ret)<|.skip)
def aQw:AF:=⟨2,31,[.cell 4 false 1,.cell 5 false 1],
 (.seq (.reg false [o 2 (.g5 (.t 0)),o 3 (.g5 (.t 1)),o 4 (.alloc [(.slice 0 [] .full)]),o 5 (.alloc [(.bool false)])]) (.seq (.seq (.reg false [o 10 (.load true 8 (.t 2)),o 11 (.load false 1 (.t 3)),o 12 (.aW false (.f 114) [(.t 10),(.t 11)])]) (.cond (.t 12) (.seq (.reg false [o 13 (.aI 7 (.t 2)),o 14 (.load false 1 (.t 13)),⟨none,.store 1 (.t 4) (.t 14),none,[]⟩,⟨none,.store 1 (.t 5) (.c (.bool true)),none,[]⟩]) (.ret)) (.skip))) (.seq (.seq (.reg false [o 15 (.load true 8 (.t 2)),o 16 (.aW false (.f 116) [(.t 15)])]) (.block 0 (.lY (.t 16) [17,18] (iI) (iU)))) (.seq (.reg false [⟨none,.store 1 (.t 4) (.c (.slice 0 [] .full)),none,[]⟩,⟨none,.store 1 (.t 5) (.c (.bool false)),none,[]⟩]) (.ret)))))⟩
def aQj:AC:= .loop (.seq (.reg false [o 12<|.bin .lss (.t 11)<|.t 10])<|.seq (.cond (.t 12) (.skip)<|.exit 0)<|.seq (.block 1<|.seq (.reg false [o 13<|.nA 1 (.t 9)<|.t 11,o 14<|.load false 1<|.t 13,o 5<|.mv<|.t 14])<|.seq (.reg false [o 16<|.mv<|.t 5,o 17<|.call (.t 16) [],o 15<|.mv<|.t 17,o 18<|.extract (.t 15) 0,o 19<|.extract (.t 15) 1,o 6<|.mv<|.t 18,o 7<|.mv<|.t 19])<|.seq (.reg false [o 20<|.mv<|.t 7])<|.cond (.t 20) (.seq (.reg false [o 21<|.mv<|.t 6,o 2<|.mv<|.t 21,o 3<|.mv<|.c<|.bool true])<|.ret)<|.skip)<|.reg false [o 22<|.bin .add (.t 11)<|.c<|.i 1,o 11<|.mv<|.t 22])
def aQu:AF:=⟨1,24,[.tmp 2,.tmp 3],
 (.seq (.reg false [o 2 (.mv (.c (.slice 0 [] .full))),o 3 (.mv (.c (.bool false)))]) (.seq (.seq (.reg false [o 9 (.mv (.t 0)),o 10 (.jF (.t 9)),o 11 (.mv (.c (.i 0)))]) (.block 0 (aQj))) (.seq (.reg false [o 8 (.mv (.c (.slice 0 [] .full)))]) (.seq (.reg false [o 23 (.mv (.t 8)),o 2 (.mv (.t 23)),o 3 (.mv (.c (.bool false)))]) (.ret)))))⟩
def aQ7:AF:=⟨2,12,[.tmp 2,.tmp 3],
 (.seq (.reg false [o 2 (.mv (.c (.slice 0 [] .full))),o 3 (.mv (.c (.bool false)))]) (.seq (.reg true [o 4 (.load true 8 (.t 0)),o 5 (.load false 1 (.t 1)),p 6 [1] (.eF (.t 5)),p 7 [2,1] (.aI 0 (.t 6)),p 8 [3,2,1] (.load false 1 (.t 7)),p 9 [0,4,3,2,1] (.aW false (.f 82) [(.t 4),(.t 8),(.c (.bool false)),(.c (.bool false))]),
 p 10 [5,0,4,3,2,1] (.extract (.t 9) 0),p 11 [5,0,4,3,2,1] (.extract (.t 9) 1),p 2 [6,5,0,4,3,2,1,7] (.mv (.t 10)),p 3 [7,5,0,4,3,2,1,8,6] (.mv (.t 11))]) (.ret)))⟩
def aP9:AF:=⟨2,16,[.tmp 2,.tmp 3],
 (.seq (.reg false [o 2 (.mv (.c (.slice 0 [] .full))),o 3 (.mv (.c (.bool false)))]) (.seq (.reg true [o 4 (.aI 7 (.t 0)),p 5 [0] (.load false 1 (.t 4)),o 6 (.aI 0 (.t 0)),p 7 [2] (.aI 4 (.t 6)),p 8 [3,2] (.load false 1 (.t 7)),p 9 [4,3,2] (.nA 1 (.t 8) (.c (.i 0))),
 p 10 [5,4,3,2] (.load false 1 (.t 9)),o 11 (.load false 1 (.t 1)),p 12 [7] (.eF (.t 11)),p 13 [8,7] (.aI 0 (.t 12)),p 14 [9,8,7] (.load false 1 (.t 13)),
 p 15 [6,5,4,3,2,10,9,8,7] (.bin .eql (.t 10) (.t 14)),p 2 [1,0] (.mv (.t 5)),p 3 [11,6,5,4,3,2,10,9,8,7,12,1,0] (.mv (.t 15))]) (.ret)))⟩
def aNx:AC:= .loop (.seq (.reg false [o 9<|.bin .lss (.t 8)<|.t 7])<|.seq (.cond (.t 9) (.skip)<|.exit 0)<|.seq (.block 1<|.seq (.reg false [o 10<|.mv<|.t 8,o 5<|.mv<|.t 10])<|.seq (.reg false [o 11<|.mv<|.t 1,o 12<|.mv<|.t 0,o 13<|.mv<|.t 5,o 14<|.nA 1 (.t 12)<|.t 13,o 15<|.load false 1<|.t 14,o 16<|.bin .eql (.t 11)<|.t 15])<|.cond (.t 16) (.seq (.reg false [o 17<|.mv<|.t 5,o 4<|.mv<|.t 17])<|.ret)<|.skip)<|.reg false [o 18<|.bin .add (.t 8)<|.c<|.i 1,o 8<|.mv<|.t 18])
def aN8:AF:=⟨2,19,[.tmp 4],
 (.seq (.reg false [o 4 (.mv (.c (.i 0)))]) (.seq (.seq (.reg false [o 6 (.mv (.t 0)),o 7 (.jF (.t 6)),o 8 (.mv (.c (.i 0)))]) (.block 0 (aNx))) (.seq (.reg false [o 4 (.mv (.c (.i (-1))))]) (.ret))))⟩
def aMt:AC:= .loop (.seq (.reg false [o 10<|.bin .lss (.t 9)<|.t 8])<|.seq (.cond (.t 10) (.skip)<|.exit 0)<|.seq (.block 1<|.seq (.reg false [o 11<|.mv<|.t 9,o 12<|.nA 1 (.t 7)<|.t 9,o 13<|.load false 1<|.t 12,o 5<|.mv<|.t 11,o 6<|.mv<|.t 13])<|.block 2<|.seq (.reg false [o 15<|.mv<|.t 6,o 16<|.mv<|.t 1,o 17<|.aW false (.f 149) [(.t 15),(.t 16)],o 18<|.un .not<|.t 17,o 14<|.mv<|.t 18])<|.cond (.t 14) (.seq (.reg false [o 4<|.mv<|.c<|.i 4])<|.ret)<|.seq (.reg false [o 20<|.mv<|.t 0,o 21<|.mv<|.t 5,o 22<|.aAF 1 (.t 20) none (some<|.t 21) none,o 23<|.mv<|.t 6,o 24<|.aW false (.f 127) [(.t 22),(.t 23)],o 19<|.mv<|.t 24])<|.cond (.t 19) (.seq (.reg false [o 4<|.mv<|.c<|.i 5])<|.ret)<|.skip)<|.reg false [o 25<|.bin .add (.t 9)<|.c<|.i 1,o 9<|.mv<|.t 25])
def aO3:AF:=⟨2,26,[.tmp 4],
 (.seq (.reg false [o 4 (.mv (.c (.i 0)))]) (.seq (.seq (.reg false [o 7 (.mv (.t 0)),o 8 (.jF (.t 7)),o 9 (.mv (.c (.i 0)))]) (.block 0 (aMt))) (.seq (.reg false [o 4 (.mv (.c (.i 0)))]) (.ret))))⟩
def aID:AC:= .loop (.seq (.reg false [o 13<|.bin .lss (.t 12)<|.t 11])<|.seq (.cond (.t 13) (.skip)<|.exit 0)<|.seq (.block 1<|.seq (.reg false [o 14<|.nA 7 (.t 10)<|.t 12,o 15<|.load true 7<|.t 14,o 6<|.pend [(.i 0),(.i 0),(.str []),(.str []),(.slice 0 [] .full),(.slice 0 [] .full),(.slice 0 [] .full)],
 ⟨none,.shut 6 7 (.t 15),none,[]⟩])<|.seq (.reg false [o 16<|.mv<|.t 1,o 17<|.load true 7<|.t 6,o 18<|.call (.t 16) [(.t 17)],o 19<|.un .not<|.t 18])<|.cond (.t 19) (.seq (.reg false [o 4<|.mv<|.c<|.bool false])<|.ret)<|.skip)<|.reg false [o 20<|.bin .add (.t 12)<|.c<|.i 1,o 12<|.mv<|.t 20])
def aIz:AC:= .loop (.seq (.reg false [o 25<|.bin .lss (.t 24)<|.t 23])<|.seq (.cond (.t 25) (.skip)<|.exit 2)<|.seq (.block 3<|.seq (.reg false [o 26<|.nA 9 (.t 22)<|.t 24,o 27<|.load true 9<|.t 26,o 8<|.pend [(.str []),(.slice 0 [] .full),(.i 0),(.i 0),(.str []),(.str []),(.slice 0 [] .full),(.slice 0 [] .full),(.slice 0 [] .full)],
 ⟨none,.shut 8 9 (.t 27),none,[]⟩])<|.seq (.reg false [o 28<|.mv<|.t 1,o 29<|.aI 2<|.t 8,o 30<|.load true 7<|.t 29,o 31<|.call (.t 28) [(.t 30)],o 32<|.un .not<|.t 31])<|.cond (.t 32) (.seq (.reg false [o 4<|.mv<|.c<|.bool false])<|.ret)<|.skip)<|.reg false [o 33<|.bin .add (.t 24)<|.c<|.i 1,o 24<|.mv<|.t 33])
def aIn:AF:=⟨2,34,[.tmp 4],
 (.seq (.reg false [o 2 (.g5 (.t 0)),o 4 (.mv (.c (.bool false)))]) (.seq (.seq (.reg false [o 9 (.aI 5 (.t 2)),o 10 (.load false 1 (.t 9)),o 11 (.jF (.t 10)),o 12 (.mv (.c (.i 0)))]) (.block 0 (aID))) (.seq (.seq (.reg false [o 21 (.aI 6 (.t 2)),o 22 (.load false 1 (.t 21)),o 23 (.jF (.t 22)),o 24 (.mv (.c (.i 0)))]) (.block 2 (aIz))) (.seq (.reg false [o 4 (.mv (.c (.bool true)))]) (.ret)))))⟩
def aQR:AF:=⟨3,10,[.tmp 4],
 (.seq (.reg false [o 3 (.g5 (.t 0)),o 4 (.mv (.c (.bool false)))]) (.seq (.reg false [o 5 (.load false 1 (.t 1)),o 6 (.load true 7 (.t 3)),o 7 (.load false 1 (.t 2)),o 8 (.bin .add (.t 7) (.c (.i 1))),o 9 (.call (.f 147) [(.t 5),(.t 6),(.t 8)]),
 o 4 (.mv (.t 9))]) (.ret)))⟩
def aQM:AF:=⟨1,5,[.tmp 2],
 (.seq (.reg false [o 2 (.mv (.c (.bool false)))]) (.seq (.reg false [o 3 (.mv (.t 0)),o 4 (.aW false (.f 109) [(.t 3),(.c (.i 3))]),o 2 (.mv (.t 4))]) (.ret)))⟩
def aNu:AC:= .loop (.seq (.reg false [o 110<|.bin .lss (.t 109)<|.t 108])<|.seq (.cond (.t 110) (.skip)<|.exit 1)<|.seq (.block 2<|.seq (.reg false [o 111<|.mv<|.t 109,o 7<|.mv<|.t 111])<|.seq (.reg false [o 112<|.load true 7<|.t 1,o 113<|.mv<|.t 7,o 114<|.aW false (.f 213) [(.t 112),(.t 113)],o 8<|.mv<|.t 114])<|.seq (.reg false [o 115<|.mv<|.t 8,o 116<|.bin .neq (.t 115)<|.c<|.i 0])<|.cond (.t 116) (.seq (.reg false [o 117<|.mv<|.t 8,o 2<|.mv<|.t 117])<|.ret)<|.skip)<|.reg false [o 118<|.bin .add (.t 109)<|.c<|.i 1,o 109<|.mv<|.t 118])
def aOP:AF:=⟨1,132,[.tmp 2],
 (.seq (.reg false [o 1 (.g5 (.t 0)),o 2 (.mv (.c (.i 0)))]) (.seq (.seq (.reg false [o 9 (.aI 0 (.t 1)),o 10 (.load false 1 (.t 9)),o 11 (.aW false (.f 212) [(.t 10),(.c (.i 0)),(.c (.i 19))]),o 12 (.un .not (.t 11))]) (.cond (.t 12) (.seq (.reg false [o 2 (.mv (.c (.i 1)))]) (.ret)) (.skip))) (.seq (.reg false [o 13 (.aI 0 (.t 1)),o 14 (.load false 1 (.t 13)),o 15 (.aAC 20 9 (.g 1) (.t 14)),o 16 (.load true 9 (.t 15)),o 3 (.pend [(.i 0),(.i 0),(.i 0),(.i 0),(.i 0),(.i 0),(.bool false),(.i 0),(.i 0)]),
 ⟨none,.shut 3 9 (.t 16),none,[]⟩]) (.seq (.block 0 (.seq (.reg false [o 18 (.aI 1 (.t 1)),o 19 (.load false 1 (.t 18)),o 20 (.aI 7 (.t 3)),o 21 (.load false 1 (.t 20)),o 22 (.aI 8 (.t 3)),o 23 (.load false 1 (.t 22)),o 24 (.aW false (.f 212) [(.t 19),(.t 21),(.t 23)]),
 o 25 (.un .not (.t 24)),o 17 (.mv (.t 25))]) (.cond (.t 17) (.seq (.reg false [o 2 (.mv (.c (.i 1)))]) (.ret)) (.seq (.reg false [o 27 (.aI 2 (.t 1)),o 28 (.load false 1 (.t 27)),o 29 (.aI 0 (.t 3)),o 30 (.load false 1 (.t 29)),o 31 (.aW false (.f 149) [(.t 28),(.t 30)]),o 32 (.un .not (.t 31)),
 o 33 (.mv (.t 32)),g 34 33 false (.aI 3 (.t 1)),g 35 33 false (.load false 1 (.t 34)),g 36 33 false (.aI 1 (.t 3)),g 37 33 false (.load false 1 (.t 36)),g 38 33 false (.aW false (.f 149) [(.t 35),(.t 37)]),
 g 39 33 false (.un .not (.t 38)),o 40 (.pick (.t 33) (.c (.bool true)) (.t 39)),o 26 (.mv (.t 40))]) (.cond (.t 26) (.seq (.reg false [o 2 (.mv (.c (.i 4)))]) (.ret)) (.seq (.reg false [o 42 (.aI 4 (.t 1)),o 43 (.load false 1 (.t 42)),o 44 (.jF (.t 43)),o 45 (.aI 2 (.t 3)),o 46 (.load false 1 (.t 45)),o 47 (.aI 2 (.t 3)),o 48 (.load false 1 (.t 47)),
 o 49 (.aI 3 (.t 3)),o 50 (.load false 1 (.t 49)),o 51 (.bin .add (.t 48) (.t 50)),o 52 (.aW false (.f 212) [(.t 44),(.t 46),(.t 51)]),o 53 (.un .not (.t 52)),
 o 54 (.mv (.t 53)),g 55 54 false (.aI 5 (.t 1)),g 56 54 false (.load false 1 (.t 55)),g 57 54 false (.jF (.t 56)),g 58 54 false (.aI 4 (.t 3)),g 59 54 false (.load false 1 (.t 58)),
 g 60 54 false (.aI 4 (.t 3)),g 61 54 false (.load false 1 (.t 60)),g 62 54 false (.aI 5 (.t 3)),g 63 54 false (.load false 1 (.t 62)),g 64 54 false (.bin .add (.t 61) (.t 63)),
 g 65 54 false (.aW false (.f 212) [(.t 57),(.t 59),(.t 64)]),g 66 54 false (.un .not (.t 65)),o 67 (.pick (.t 54) (.c (.bool true)) (.t 66)),o 41 (.mv (.t 67))]) (.cond (.t 41) (.seq (.reg false [o 2 (.mv (.c (.i 7)))]) (.ret)) (.seq (.reg false [o 69 (.aI 6 (.t 3)),o 70 (.load false 1 (.t 69)),o 71 (.un .not (.t 70)),o 72 (.mv (.t 71)),g 73 72 true (.aI 6 (.t 1)),g 74 72 true (.load false 1 (.t 73)),g 75 72 true (.jF (.t 74)),
 g 76 72 true (.bin .gtr (.t 75) (.c (.i 0))),o 77 (.pick (.t 72) (.t 76) (.c (.bool false))),o 78 (.mv (.t 77)),g 79 78 false (.aI 6 (.t 1)),g 80 78 false (.load false 1 (.t 79)),
 g 81 78 false (.jF (.t 80)),g 82 78 false (.bin .gtr (.t 81) (.c (.i 9))),o 83 (.pick (.t 78) (.c (.bool true)) (.t 82)),o 68 (.mv (.t 83))]) (.cond (.t 68) (.seq (.reg false [o 2 (.mv (.c (.i 7)))]) (.ret)) (.skip)))))))))) (.seq (.reg false [o 84 (.aI 4 (.t 1)),o 85 (.load false 1 (.t 84)),o 86 (.jF (.t 85)),o 4 (.mv (.t 86))]) (.seq (.seq (.reg false [o 87 (.aI 0 (.t 1)),o 88 (.load false 1 (.t 87)),o 89 (.bin .eql (.t 88) (.c (.i 17)))]) (.cond (.t 89) (.reg false [o 4 (.mv (.c (.i 1)))]) (.skip))) (.seq (.seq (.reg false [o 90 (.aI 4 (.t 1)),o 91 (.load false 1 (.t 90)),o 92 (.mv (.t 4)),o 93 (.aAF 1 (.t 91) none (some (.t 92)) none),o 94 (.aW false (.f 190) [(.t 93),(.c (.i 1))]),
 o 5 (.mv (.t 94))]) (.seq (.reg false [o 95 (.mv (.t 5)),o 96 (.bin .neq (.t 95) (.c (.i 0)))]) (.cond (.t 96) (.seq (.reg false [o 97 (.mv (.t 5)),o 2 (.mv (.t 97))]) (.ret)) (.skip)))) (.seq (.seq (.reg false [o 98 (.aI 4 (.t 1)),o 99 (.load false 1 (.t 98)),o 100 (.mv (.t 4)),o 101 (.aAF 1 (.t 99) (some (.t 100)) none none),o 102 (.aW false (.f 190) [(.t 101),(.c (.i 2))]),
 o 6 (.mv (.t 102))]) (.seq (.reg false [o 103 (.mv (.t 6)),o 104 (.bin .neq (.t 103) (.c (.i 0)))]) (.cond (.t 104) (.seq (.reg false [o 105 (.mv (.t 6)),o 2 (.mv (.t 105))]) (.ret)) (.skip)))) (.seq (.seq (.reg false [o 106 (.aI 6 (.t 1)),o 107 (.load false 1 (.t 106)),o 108 (.jF (.t 107)),o 109 (.mv (.c (.i 0)))]) (.block 1 (aNu))) (.seq (.seq (.reg false [o 119 (.aI 0 (.t 1)),o 120 (.load false 1 (.t 119)),o 121 (.bin .neq (.t 120) (.c (.i 11))),o 122 (.mv (.t 121)),g 123 122 true (.aI 6 (.t 3)),g 124 122 true (.load false 1 (.t 123)),
 o 125 (.pick (.t 122) (.t 124) (.c (.bool false))),o 126 (.mv (.t 125)),g 127 126 true (.aI 6 (.t 1)),g 128 126 true (.load false 1 (.t 127)),g 129 126 true (.jF (.t 128)),
 g 130 126 true (.bin .eql (.t 129) (.c (.i 0))),o 131 (.pick (.t 126) (.t 130) (.c (.bool false)))]) (.cond (.t 131) (.seq (.reg false [o 2 (.mv (.c (.i 7)))]) (.ret)) (.skip))) (.seq (.reg false [o 2 (.mv (.c (.i 0)))]) (.ret))))))))))))⟩
def aQ1:AF:=⟨2,8,[.tmp 3],
 (.seq (.reg false [o 2 (.g5 (.t 0)),o 3 (.mv (.c (.bool false)))]) (.seq (.reg false [o 4 (.load true 7 (.t 2)),o 5 (.aW false (.f 150) [(.t 4)]),⟨none,.store 1 (.t 1) (.t 5),none,[]⟩]) (.seq (.reg false [o 6 (.load false 1 (.t 1)),o 7 (.bin .eql (.t 6) (.c (.i 0))),o 3 (.mv (.t 7))]) (.ret))))⟩
def aP4:AF:=⟨2,19,[.tmp 4],
 (.seq (.reg false [o 4 (.mv (.c (.slice 0 [] .full)))]) (.seq (.reg false [o 6 (.mv (.t 0)),o 7 (.jF (.t 6)),o 8 (.mv (.t 0)),o 9 (.jF (.t 8)),o 10 (.bin .add (.t 9) (.c (.i 1))),o 11 (.mkSlice 1 8 [(.i 0)] (.t 7) (.t 10)),o 5 (.mv (.t 11))]) (.seq (.reg false [o 12 (.mv (.t 5)),o 13 (.mv (.t 0)),o 14 (.copy 1 (.t 12) (.t 13))]) (.seq (.reg false [o 15 (.mv (.t 5)),o 16 (.mv (.t 1)),o 17 (.oK 1 1 [(.i 0)] [(0,(.t 16))]),o 18 (.append false 1 8 (.t 15) (.t 17)),o 4 (.mv (.t 18))]) (.ret)))))⟩
def aQQ:AF:=⟨3,15,[.tmp 6],
 (.seq (.reg false [o 6 (.mv (.c (.bool false)))]) (.seq (.reg false [o 7 (.mv (.t 1)),o 8 (.mv (.t 0)),o 9 (.bin .leq (.t 7) (.t 8)),o 10 (.mv (.t 9)),g 11 10 true (.mv (.t 0)),g 12 10 true (.mv (.t 2)),g 13 10 true (.bin .leq (.t 11) (.t 12)),
 o 14 (.pick (.t 10) (.t 13) (.c (.bool false))),o 6 (.mv (.t 14))]) (.ret)))⟩
def aQI:AF:=⟨2,61,[.tmp 4],
 (.seq (.reg false [o 2 (.g5 (.t 0)),o 4 (.mv (.c (.i 0)))]) (.seq (.reg false [o 9 (.aI 6 (.t 2)),o 10 (.load false 1 (.t 9)),o 11 (.mv (.t 1)),o 12 (.nA 9 (.t 10) (.t 11)),o 13 (.load true 9 (.t 12)),o 5 (.pend [(.str []),(.slice 0 [] .full),(.i 0),(.i 0),(.str []),(.str []),(.slice 0 [] .full),(.slice 0 [] .full),(.slice 0 [] .full)]),
 ⟨none,.shut 5 9 (.t 13),none,[]⟩]) (.seq (.reg true [o 14 (.aI 1 (.t 5)),p 15 [0] (.load false 1 (.t 14)),p 16 [1,0] (.jF (.t 15)),p 17 [2,1,0] (.bin .eql (.t 16) (.c (.i 2))),o 6 (.mv (.c (.i 1))),
 p 7 [3,2,1,0,4] (.mv (.t 17))]) (.seq (.block 0 (.seq (.reg false [o 19 (.aI 0 (.t 2)),o 20 (.load false 1 (.t 19)),o 21 (.bin .eql (.t 20) (.c (.i 11))),o 18 (.mv (.t 21))]) (.cond (.t 18) (.reg true [o 22 (.aI 1 (.t 5)),p 23 [0] (.load false 1 (.t 22)),p 24 [1,0] (.jF (.t 23)),p 25 [2,1,0] (.bin .leq (.t 24) (.c (.i 4))),o 6 (.mv (.c (.i 2))),
 p 7 [3,2,1,0,4] (.mv (.t 25))]) (.seq (.reg false [o 27 (.mv (.t 1)),o 28 (.bin .eql (.t 27) (.c (.i 0))),o 26 (.mv (.t 28))]) (.cond (.t 26) (.reg true [o 29 (.aI 1 (.t 5)),p 30 [0] (.load false 1 (.t 29)),p 31 [1,0] (.jF (.t 30)),p 32 [2,1,0] (.bin .eql (.t 31) (.c (.i 1))),p 33 [3,2,1,0] (.mv (.t 32)),
 ⟨some 34,.aI 0 (.t 5),some (33,true),[4,3,2,1,0]⟩,⟨some 35,.load false 1 (.t 34),some (33,true),[5,4,3,2,1,0]⟩,⟨some 36,.bin .eql (.t 35) (.c (.str [114,101,116,117,114,110])),some (33,true),[6,5,4,3,2,1,0]⟩,
 p 37 [4,3,2,1,0,7,6,5] (.pick (.t 33) (.t 36) (.c (.bool false))),p 6 [4,3,2,1,0] (.mv (.c (.i 0))),p 7 [8,4,3,2,1,0,7,6,5,9] (.mv (.t 37))]) (.skip)))))) (.seq (.seq (.reg false [o 38 (.mv (.t 7)),o 39 (.un .not (.t 38))]) (.cond (.t 39) (.seq (.reg false [o 4 (.mv (.c (.i 7)))]) (.ret)) (.skip))) (.seq (.seq (.reg false [o 40 (.mv (.t 6)),o 41 (.bin .neq (.t 40) (.c (.i 0))),o 42 (.mv (.t 41)),g 43 42 true (.aI 0 (.t 5)),g 44 42 true (.load false 1 (.t 43)),g 45 42 true (.mv (.t 6)),
 g 46 42 true (.aW false (.f 149) [(.t 44),(.t 45)]),g 47 42 true (.un .not (.t 46)),o 48 (.pick (.t 42) (.t 47) (.c (.bool false)))]) (.cond (.t 48) (.seq (.reg false [o 4 (.mv (.c (.i 4)))]) (.ret)) (.skip))) (.seq (.seq (.reg false [o 49 (.aI 1 (.t 5)),o 50 (.load false 1 (.t 49)),o 51 (.aW false (.f 190) [(.t 50),(.c (.i 1))]),o 8 (.mv (.t 51))]) (.seq (.reg false [o 52 (.mv (.t 8)),o 53 (.bin .neq (.t 52) (.c (.i 0)))]) (.cond (.t 53) (.seq (.reg false [o 54 (.mv (.t 8)),o 4 (.mv (.t 54))]) (.ret)) (.skip)))) (.seq (.seq (.reg false [o 55 (.aI 6 (.t 2)),o 56 (.load false 1 (.t 55)),o 57 (.mv (.t 1)),o 58 (.aAF 9 (.t 56) none (some (.t 57)) none),o 59 (.lW 231 [] [(.t 5)]),o 60 (.aW false (.f 230) [(.t 58),(.t 59)])]) (.cond (.t 60) (.seq (.reg false [o 4 (.mv (.c (.i 5)))]) (.ret)) (.skip))) (.seq (.reg false [o 4 (.mv (.c (.i 0)))]) (.ret))))))))))⟩
def aRl:AF:=⟨2,9,[.tmp 4],
 (.seq (.reg false [o 4 (.mv (.c (.bool false)))]) (.seq (.reg false [o 5 (.mv (.t 0)),o 6 (.mv (.t 1)),o 7 (.aW false (.f 244) [(.t 5),(.t 6)]),o 8 (.bin .geq (.t 7) (.c (.i 0))),o 4 (.mv (.t 8))]) (.ret)))⟩
def aQ0:AF:=⟨2,9,[.tmp 3],
 (.seq (.reg false [o 2 (.g5 (.t 0)),o 3 (.mv (.c (.bool false)))]) (.seq (.reg false [o 4 (.aI 0 (.t 2)),o 5 (.load false 1 (.t 4)),o 6 (.aI 0 (.t 1)),o 7 (.load false 1 (.t 6)),o 8 (.bin .eql (.t 5) (.t 7)),o 3 (.mv (.t 8))]) (.ret)))⟩
def aNZ:AC:= .loop (.seq (.reg false [o 9<|.bin .lss (.t 8)<|.t 7])<|.seq (.cond (.t 9) (.skip)<|.exit 0)<|.seq (.block 1<|.seq (.reg false [o 10<|.mv<|.t 8,o 5<|.mv<|.t 10])<|.seq (.reg false [o 11<|.mv<|.t 1,o 12<|.mv<|.t 0,o 13<|.mv<|.t 5,o 14<|.nA 9 (.t 12)<|.t 13,o 15<|.load true 9<|.t 14,o 16<|.aW false (.t 11) [(.t 15)]])<|.cond (.t 16) (.seq (.reg false [o 17<|.mv<|.t 5,o 4<|.mv<|.t 17])<|.ret)<|.skip)<|.reg false [o 18<|.bin .add (.t 8)<|.c<|.i 1,o 8<|.mv<|.t 18])
def aO7:AF:=⟨2,19,[.tmp 4],
 (.seq (.reg false [o 4 (.mv (.c (.i 0)))]) (.seq (.seq (.reg false [o 6 (.mv (.t 0)),o 7 (.jF (.t 6)),o 8 (.mv (.c (.i 0)))]) (.block 0 (aNZ))) (.seq (.reg false [o 4 (.mv (.c (.i (-1))))]) (.ret))))⟩
end Go.Proofs.YtelnnehpbkainaaGreatDoor.Code
namespace Go.Fw
open Go
theorem tF{G:Gh}{v:Value}{a:AV}(h:aAv v=some a):R G (.v a v)∧v.oneCell'=true∧qT a=false:=by
 unfold aAv at h;split at h
 ·rename_i k n;split at h
  ·rename_i hk;cases h;exact⟨.int hk,rfl,rfl⟩
  ·cases h
 ·cases h;exact⟨.bool _,rfl,rfl⟩
 ·split at h
  ·rename_i hb;cases h;exact⟨.str _ (by simp only [big,maxLen] at*;omega),rfl,rfl⟩
  ·cases h
 ·cases h;exact⟨.cK (by simp [maxLen]) rfl,rfl,rfl⟩
 ·cases h;exact⟨.dO,rfl,rfl⟩
 ·cases h;exact⟨.dX,rfl,rfl⟩
 ·cases h;exact⟨.cZ,rfl,rfl⟩
 ·cases h;exact⟨.bU,rfl,rfl⟩
 ·cases h
theorem aAu{G:Gh}: ∀{vs:List Value}{a_:List AV},sS vs=some a_→R G (.k a_ vs)
 | [],a_,h=>by simp [sS] at h;subst h;exact .gN
 |v::vs,a_,h=>by
  simp only [sS] at h;split at h
  ·rename_i x xs h1 h2;cases h;obtain⟨k1,k2,_⟩:=tF (G:=G) h1;exact .cJ k1 k2 (aAu h2)
  ·cases h
theorem aFx{G:Gh}{v:Value}{a:AV}(h:aJJ v=some a):R G (.v a v):=by
 unfold aJJ at h;split at h
 ·rename_i cs;split at h
  ·rename_i xs hx;cases h;simpa using R.agg (aAu (G:=G) hx)
  ·cases h
 ·exact(tF h).1
theorem oG{P:Program}{G:Gh}{t:TypeId}{z:List AV}(h:zeroOf P t=some z): ∃i v,P.info? t=some i∧i.zero=some v∧R G (.k z v.cells.toList):=by
 unfold zeroOf at h;cases hi:P.info? t with
 |none=>simp [hi] at h
 |some i=>
  simp only [hi,Option.bind_some] at h;cases hz:i.zero with
  |none=>simp [hz] at h
  |some v=>
   simp only [hz] at h;refine⟨i,v,rfl,hz,?_⟩;cases v with
   |agg cs=>simp only at h;exact aAu h
   |_=>
    simp only [Option.map_eq_some_iff] at h;obtain⟨a,h1,rfl⟩:=h;obtain⟨k1,k2,_⟩:=tF (G:=G) h1;exact .cJ k1 k2 .gN
theorem dM{P:Program}{t:TypeId}{i:TypeInfo}{v:Value}(hi:P.info? t=some i)(hz:i.zero=some v)(w:World):(zeroValue t).run P w= .ok v w:=by
 simp [zeroValue,typeInfo,hi,hz]
theorem jV{P:Program}{t:TypeId}{i:TypeInfo}(hi:P.info? t=some i)(w:World):(sizeOf t).run P w= .ok (P.cellsOf t) w:=by
 simp [sizeOf,typeInfo,hi,Program.cellsOf]
theorem aDf{P:Program}{t:TypeId}{d:TypeDesc}(h:P.underlying t=some d): ∃i,P.info? t=some i:=by
 unfold Program.underlying at h;split at h
 ·exact⟨_,by assumption⟩
 ·exact⟨_,by assumption⟩
 ·cases h
theorem j7{P:Program}{t:TypeId}{d:TypeDesc}(h:P.underlying t=some d)(w:World):(sizeOf t).run P w= .ok (P.cellsOf t) w:=by
 obtain⟨i,hi⟩:=aDf h;exact jV hi w
theorem s6{P:Program}{t:TypeId}{b:Bool}(h:nR P t=some b)(w:World):(isAgg t).run P w= .ok b w:=by
 unfold nR at h;split at h
 ·rename_i fs hu;cases h;simp [isAgg,run_underlying hu]
 ·rename_i n e hu;cases h;simp [isAgg,run_underlying hu]
 ·rename_i d h1 h2 hu;cases h;simp only [isAgg,Sem.run_bind,run_underlying hu,Result.andThen_ok]
  rfl
 ·cases h
theorem uM{P:Program}{t:TypeId}{b:Bool}(h:nR P t=some b): ∃d,P.underlying t=some d:=by
 unfold nR at h;split at h
 ·exact⟨_,by assumption⟩
 ·exact⟨_,by assumption⟩
 ·exact⟨_,by assumption⟩
 ·cases h
section
variable {P : Program} {B : Bs} {G : Gh} {s : ASt} {w : World}
theorem aEK{a a':AV}{x:Value}(h:iL a=some a')(r:R G (.v a x)):R G (.v a' x)∧x.oneCell'=true∧qT a'=false:=by
 cases r with
 | @cK sz o A c hm ho=>
  cases o with
  |no=>simp [iL] at h;subst h;exact⟨.cK hm trivial,rfl,rfl⟩
  |full=>simp [iL] at h;subst h;exact⟨.cK hm trivial,rfl,rfl⟩
  |tok t=>simp [iL] at h;subst h;exact⟨.cK hm trivial,rfl,rfl⟩
 | @dA sz xs o b off c hc hm hr ho=>
  have key: ∀z,z=szC sz xs→R G (.v (.slice z xs .no) (.slice (some ⟨b,off,none⟩) xs.length c)):=fun z hz=>by
   subst hz;cases xs with
   |nil=>exact .cK hm trivial
   |cons y ys=>exact .dA hc hm hr trivial
  cases o with
  |no=>simp [iL] at h;subst h;exact⟨.dA hc hm hr trivial,rfl,rfl⟩
  |full=>simp [iL] at h;subst h;exact⟨key _ rfl,rfl,rfl⟩
  |tok t=>simp [iL] at h;subst h;exact⟨key _ rfl,rfl,rfl⟩
 |ms hL hc hm=>simp [iL] at h
 |agg h=>simp [iL] at h
 |tuple h=>simp [iL] at h
 |lU x=>simp [iL] at h
 |int h'=>simp [iL] at h;subst h;exact⟨.int h',rfl,rfl⟩
 |bool b=>simp [iL] at h;subst h;exact⟨.bool b,rfl,rfl⟩
 |str t ht=>simp [iL] at h;subst h;exact⟨.str t ht,rfl,rfl⟩
 |dO=>simp [iL] at h;subst h;exact⟨.dO,rfl,rfl⟩
 |ptr off hL=>simp [iL] at h;subst h;exact⟨.ptr off hL,rfl,rfl⟩
 |aF off hc hM=>simp [iL] at h;subst h;exact⟨.aF off hc hM,rfl,rfl⟩
 |func ha hb=>simp [iL] at h;subst h;exact⟨.func ha hb,rfl,rfl⟩
 |cZ=>simp [iL] at h;subst h;exact⟨.cZ,rfl,rfl⟩
 |yield hL=>simp [iL] at h;subst h;exact⟨.yield hL,rfl,rfl⟩
 |map hL=>simp [iL] at h;subst h;exact⟨.map hL,rfl,rfl⟩
 |dX=>simp [iL] at h;subst h;exact⟨.dX,rfl,rfl⟩
 |iface h'=>simp [iL] at h;subst h;exact⟨.iface h',rfl,rfl⟩
 |bU=>simp [iL] at h;subst h;exact⟨.bU,rfl,rfl⟩
 |iter hL=>simp [iL] at h;subst h;exact⟨.iter hL,rfl,rfl⟩
theorem aEw: ∀{a_ as':List AV}{xs:List Value},aB2 a_=some as'→R G (.k a_ xs)→R G (.k as' xs)
 | [],as',xs,h,r=>by simp [aB2] at h;subst h;exact r
 |a::a_,as',xs,h,r=>by
  cases r with
  |cJ r1 r2 r3=>
   simp only [aB2] at h;split at h
   ·cases h
   ·rename_i y hy;split at h
    ·cases h
    ·rename_i ys hys;cases h;obtain⟨k1,k2,_⟩:=aEK hy r1;exact .cJ k1 k2 (aEw hys r3)
theorem aEb{x:Value}(h:x.oneCell'=true):x.cells.toList= [x]:=by cases x<;>first|rfl|(simp [Value.oneCell'] at h)
theorem o0{a a':AV}{x:Value}(h:gP a=some a')(r:R G (.v a x)):R G (.v a' x)∧R G (.c a' x.cells.toList):=by
 unfold gP at h;split at h
 ·rename_i cs;split at h
  ·rename_i ds hd;cases h;cases r with
   |agg r=>
    have:=aEw hd r;exact⟨.agg this,by simpa [Value.cells] using R.tQ this⟩
  ·cases h
 ·obtain⟨k1,k2,k3⟩:=aEK h r;exact⟨k1,by rw [aEb k2];exact .vO k3 k2 k1⟩
theorem rM: ∀{a_ as':List AV}{xs:List Value},dL a_=some as'→R G (.l a_ xs)→R G (.l as' xs)
 | [],as',xs,h,r=>by simp [dL] at h;subst h;exact r
 |a::a_,as',xs,h,r=>by
  cases r with
  |fR r1 r3=>
   simp only [dL] at h;split at h
   ·cases h
   ·rename_i y hy;split at h
    ·cases h
    ·rename_i ys hys;cases h;exact .fR (o0 hy r1).1 (rM hys r3)
structure Opn(P':aS)(env:Env)(G:Gh)(ρ:Operand→Value):Prop where
 out: ∀x y,cT x=some y→R G (.v (evO P' env y) (ρ x))
def g8(P':aS)(G:Gh):Prop:= ∀g,R G (.v (.aF (P'.gl g) 0) (.pointer (some ⟨g,0,none⟩)))
theorem g8.mono{P':aS}{G G':Gh}(hG:G.le G')(h:g8 P' G):g8 P' G':=fun g=>(h g).mono hG
def jE(G:Gh)(nt:Nat)(env:Env)(tmps:Array Value):Prop:=tmps.size=nt∧ ∀i,R G (.v (env i) (tmps.getD i undef))
theorem jE.mono{G G':Gh}(hG:G.le G'){nt:Nat}{env:Env}{tmps:Array Value}(h:jE G nt env tmps):jE G' nt env tmps:=⟨h.1,fun i=>(h.2 i).mono hG⟩
theorem vX{P':aS}{env:Env}{nt:Nat}{a:Act}(hE:jE G nt env a.tmps)(hg:g8 P' G):Opn P' env G a.eval:=⟨by
 intro x y hxy;cases x with
 |tmp t=>simp [cT] at hxy;subst hxy;exact hE.2 t
 |const v=>
  simp only [cT,Option.map_eq_some_iff] at hxy;obtain⟨av,h1,rfl⟩:=hxy;exact aFx h1
 |global g=>simp [cT] at hxy;subst hxy;exact hg g
 |func f=>simp [cT] at hxy;subst hxy;simpa [Act.eval,evO] using R.func (f:=f) .rE .rE⟩
variable {P' : aS} {env : Env} {ρ : Operand → Value}
theorem sV(hO:Opn P' env G ρ): ∀{xs:List Operand}{ys:List aJ},sD xs=some ys→R G (.l (ys.map (evO P' env)) (xs.map ρ))
 | [],ys,h=>by simp [sD] at h;subst h;exact .rE
 |x::xs,ys,h=>by
  simp only [sD] at h;split at h
  ·rename_i y ys' h1 h2;cases h;exact .fR (hO.out _ _ h1) (sV hO h2)
  ·cases h
def lO(P:Program)(G:Gh)(w:World)(m:Sem Value)(v:AV):Prop:=
 ∃x w' G',m.run P w= .ok x w'∧uS G w G' w'∧R G' (.v v x)
theorem lO.of(hI:Inv P B G s w){m:Sem Value}{v:AV}{x:Value}(h:m.run P w= .ok x w)(r:R G (.v v x)):lO P G w m v:=⟨x,w,G,h,hI.quiet,r⟩
theorem aRh(hI:Inv P B G s w){c a b:AV}{xc xa xb:Value}(hc:R G (.v c xc))(ha:R G (.v a xa))(hb:R G (.v b xb)){v:AV}
(h:(match(generalizing:=false) c with| .bool t=>some (match t with|true=>a|false=>b)|_=>none)=some v):lO P G w (do pure (if←asBool xc then xa else xb)) v:=by
 cases hc<;>simp at h;rename_i t;subst h;cases t with
 |true=>exact .of hI (x:=xa) (by simp [asBool]) ha
 |false=>exact .of hI (x:=xb) (by simp [asBool]) hb
theorem aQF(hI:Inv P B G s w){a v:AV}{x:Value}(r:R G (.v a x))(t:TypeId)(h:(match(generalizing:=false) gP a with|some v=>some (AV.aF v 0)|none=>none)=some v):lO P G w (Instr.box t x) v:=by
 split at h
 ·rename_i a' ha;cases h;obtain⟨k1,k2⟩:=o0 ha r;refine⟨.pointer (some ⟨w.heap.size,0,none⟩),w.alloc (.cells x.cells t),G.kL w.heap.size 0 x.cells.toList.length x.cells.toList,?_,?_,?_⟩
  ·simp [Instr.box,newVar,newRow]
  ·have:=hI.aIY x.cells.toList t (0,0) x.cells.toList.length;simpa using this
  ·have hle:=hI.pC x.cells.toList.length x.cells.toList;have:=R.aF (G:=G.kL w.heap.size 0 x.cells.toList.length x.cells.toList) (b:=w.heap.size) (o:=0) 0 (k2.mono hle) (fun j y hy=>by
    have hj:j<x.cells.toList.length:=by
     rcases Nat.lt_or_ge j x.cells.toList.length with h|h
     ·exact h
     ·rw [List.getElem?_eq_none h] at hy;cases hy
    rw [Nat.zero_add,nH (Nat.zero_le _) hj];exact hy)
   simpa using this
 ·cases h
theorem aNP(hI:Inv P B G s w){a v:AV}{x:Value}(r:R G (.v a x))(o:Oper)(y:Operand)(ho:o.op= .nilCheck y)(hy:ρ y=x)
(h:(match(generalizing:=false) a with| .ptr l o=>some (AV.ptr l o)| .aF v o=>some (.aF v o)| .func f a b=>some (.func f a b)| .yield l=>some (.yield l)|_=>none)=some v):
  ∃x w' G',(execOp ρ o).run P w= .ok (.value x) w'∧uS G w G' w'∧R G' (.v v x):=by
 refine⟨x,w,G,?_,hI.quiet,?_⟩
 ·cases r<;>simp at h<;>simp [execOp,ho,hy]
 ·cases r<;>simp at h<;>subst h
  ·exact .ptr _ (by assumption)
  ·exact .aF _ (by assumption) (by assumption)
  ·exact .func (by assumption) (by assumption)
  ·exact .yield (by assumption)
theorem wrap_wrap(k:IntKind)(n:Int):k.wrap (k.wrap n)=k.wrap n:=by
 cases k
 ·have e: ∀n,IntKind.i8.wrap n=if n%256≥128 then n%256-256 else n%256:=fun n=>by simp [IntKind.wrap,IntKind.bits,IntKind.signed]
  rw [e,e];by_cases h:n%256≥128
  ·rw [if_pos h,if_pos (by omega)];omega
  ·rw [if_neg h,if_neg (by omega)];omega
 ·have e: ∀n,IntKind.i16.wrap n=if n%65536≥32768 then n%65536-65536 else n%65536:=fun n=>by simp [IntKind.wrap,IntKind.bits,IntKind.signed]
  rw [e,e];by_cases h:n%65536≥32768
  ·rw [if_pos h,if_pos (by omega)];omega
  ·rw [if_neg h,if_neg (by omega)];omega
 ·have e: ∀n,IntKind.i32.wrap n=if n%4294967296≥2147483648 then n%4294967296-4294967296 else n%4294967296:=fun n=>by simp [IntKind.wrap,IntKind.bits,IntKind.signed]
  rw [e,e];by_cases h:n%4294967296≥2147483648
  ·rw [if_pos h,if_pos (by omega)];omega
  ·rw [if_neg h,if_neg (by omega)];omega
 ·have e: ∀n,IntKind.i64.wrap n=if n%18446744073709551616≥9223372036854775808 then n%18446744073709551616-18446744073709551616 else n%18446744073709551616:=fun n=>by simp [IntKind.wrap,IntKind.bits,IntKind.signed]
  rw [e,e];by_cases h:n%18446744073709551616≥9223372036854775808
  ·rw [if_pos h,if_pos (by omega)];omega
  ·rw [if_neg h,if_neg (by omega)];omega
 ·have e: ∀n,IntKind.u8.wrap n=n%256:=fun n=>by simp [IntKind.wrap,IntKind.bits,IntKind.signed]
  rw [e,e];omega
 ·have e: ∀n,IntKind.u16.wrap n=n%65536:=fun n=>by simp [IntKind.wrap,IntKind.bits,IntKind.signed]
  rw [e,e];omega
 ·have e: ∀n,IntKind.u32.wrap n=n%4294967296:=fun n=>by simp [IntKind.wrap,IntKind.bits,IntKind.signed]
  rw [e,e];omega
 ·have e: ∀n,IntKind.u64.wrap n=n%18446744073709551616:=fun n=>by simp [IntKind.wrap,IntKind.bits,IntKind.signed]
  rw [e,e];omega
theorem zM{k:IntKind}{a n:Int}(ha:k.wrap a=a)(h:(0≤n∧n≤a)∨(a≤n∧n≤0)):k.wrap n=n:=by
 cases k
 ·have e: ∀n,IntKind.i8.wrap n=if n%256≥128 then n%256-256 else n%256:=fun n=>by simp [IntKind.wrap,IntKind.bits,IntKind.signed]
  rw [e] at ha⊢;by_cases h1:a%256≥128
  ·rw [if_pos h1] at ha;by_cases h2:n%256≥128
   ·rw [if_pos h2];omega
   ·rw [if_neg h2];omega
  ·rw [if_neg h1] at ha;by_cases h2:n%256≥128
   ·rw [if_pos h2];omega
   ·rw [if_neg h2];omega
 ·have e: ∀n,IntKind.i16.wrap n=if n%65536≥32768 then n%65536-65536 else n%65536:=fun n=>by simp [IntKind.wrap,IntKind.bits,IntKind.signed]
  rw [e] at ha⊢;by_cases h1:a%65536≥32768
  ·rw [if_pos h1] at ha;by_cases h2:n%65536≥32768
   ·rw [if_pos h2];omega
   ·rw [if_neg h2];omega
  ·rw [if_neg h1] at ha;by_cases h2:n%65536≥32768
   ·rw [if_pos h2];omega
   ·rw [if_neg h2];omega
 ·have e: ∀n,IntKind.i32.wrap n=if n%4294967296≥2147483648 then n%4294967296-4294967296 else n%4294967296:=fun n=>by simp [IntKind.wrap,IntKind.bits,IntKind.signed]
  rw [e] at ha⊢;by_cases h1:a%4294967296≥2147483648
  ·rw [if_pos h1] at ha;by_cases h2:n%4294967296≥2147483648
   ·rw [if_pos h2];omega
   ·rw [if_neg h2];omega
  ·rw [if_neg h1] at ha;by_cases h2:n%4294967296≥2147483648
   ·rw [if_pos h2];omega
   ·rw [if_neg h2];omega
 ·have e: ∀n,IntKind.i64.wrap n=if n%18446744073709551616≥9223372036854775808 then n%18446744073709551616-18446744073709551616 else n%18446744073709551616:=fun n=>by simp [IntKind.wrap,IntKind.bits,IntKind.signed]
  rw [e] at ha⊢;by_cases h1:a%18446744073709551616≥9223372036854775808
  ·rw [if_pos h1] at ha;by_cases h2:n%18446744073709551616≥9223372036854775808
   ·rw [if_pos h2];omega
   ·rw [if_neg h2];omega
  ·rw [if_neg h1] at ha;by_cases h2:n%18446744073709551616≥9223372036854775808
   ·rw [if_pos h2];omega
   ·rw [if_neg h2];omega
 ·have e: ∀n,IntKind.u8.wrap n=n%256:=fun n=>by simp [IntKind.wrap,IntKind.bits,IntKind.signed]
  rw [e] at ha⊢;omega
 ·have e: ∀n,IntKind.u16.wrap n=n%65536:=fun n=>by simp [IntKind.wrap,IntKind.bits,IntKind.signed]
  rw [e] at ha⊢;omega
 ·have e: ∀n,IntKind.u32.wrap n=n%4294967296:=fun n=>by simp [IntKind.wrap,IntKind.bits,IntKind.signed]
  rw [e] at ha⊢;omega
 ·have e: ∀n,IntKind.u64.wrap n=n%18446744073709551616:=fun n=>by simp [IntKind.wrap,IntKind.bits,IntKind.signed]
  rw [e] at ha⊢;omega
theorem aKC{k:IntKind}{a b:Int}(ha:k.wrap a=a):k.wrap (a.tmod b)=a.tmod b:=by
 refine zM ha ?_;rcases Int.le_total 0 a with h|h
 ·exact .inl ⟨Int.tmod_nonneg b h,by
   have:=Int.tmod_add_mul_tdiv a b;have h2:0≤b*a.tdiv b:=by
    rcases Int.le_total 0 b with hb|hb
    ·exact Int.mul_nonneg hb (Int.tdiv_nonneg h hb)
    ·exact Int.mul_nonneg_of_nonpos_of_nonpos hb (Int.tdiv_nonpos_of_nonneg_of_nonpos h hb)
   omega⟩
 ·refine .inr ?_;have e:a.tmod b= -((-a).tmod b):=by rw [Int.neg_tmod,Int.neg_neg]
  have h0:0≤(-a).tmod b:=Int.tmod_nonneg b (by omega);have:=Int.tmod_add_mul_tdiv (-a) b;have h2:0≤b*(-a).tdiv b:=by
   rcases Int.le_total 0 b with hb|hb
   ·exact Int.mul_nonneg hb (Int.tdiv_nonneg (by omega) hb)
   ·exact Int.mul_nonneg_of_nonpos_of_nonpos hb (Int.tdiv_nonpos_of_nonneg_of_nonpos (by omega) hb)
  omega
theorem aK7{k:IntKind}{a:Int}(ha:k.wrap a=a)(n:Nat):k.wrap (a.fdiv (2^n))=a.fdiv (2^n):=by
 have hp:(0:Int)<2^n:=Int.pow_pos (by decide);rw [Int.fdiv_eq_ediv_of_nonneg _ (Int.le_of_lt hp)];refine zM ha ?_;rcases Int.le_total 0 a with h|h
 ·exact .inl ⟨Int.ediv_nonneg h (Int.le_of_lt hp),Int.ediv_le_self _ h⟩
 ·refine .inr ⟨?_,?_⟩
  ·rw [Int.le_ediv_iff_mul_le hp];have h3:a*(2^n-1)≤0:=Int.mul_nonpos_of_nonpos_of_nonneg h (by omega);rw [Int.mul_sub,Int.mul_one] at h3;omega
  ·exact Int.ediv_nonpos_of_nonpos_of_neg h hp|>fun x=>x
theorem aMy(s t:ByteArray):(s.toList==t.toList)=(s.data.toList==t.data.toList):=by rw [ByteArray.toList_eq,ByteArray.toList_eq]
theorem aRJ(hI:Inv P B G s w){op:BinOp}{a b v:AV}{xa xb:Value}(ha:R G (.v a xa))(hb:R G (.v b xb))(t:TypeId)(x y:Operand)(h:aBm op a b=some v):
  lO P G w (do eqGuard op t x y xa xb;binOp op t xa xb) v:=by
 cases ha with
 |int hk=>
  rename_i k n;cases hb with
  |int hk'=>
   rename_i k' n';have hg: ∀op,(eqGuard op t x y (.int k n) (.int k' n')).run P w= .ok () w:=fun op=>by unfold eqGuard;split<;>simp
   cases op<;>simp only [aBm] at h
   case add=>
    split at h
    ·rename_i hkk;subst hkk;simp only [jL] at h;cases h;exact .of hI (x:= .int k _) (by simp only [Sem.run_bind,hg,Result.andThen_ok,binOp];simp [Op.intArith]) (.int (wrap_wrap _ _))
    ·cases h
   case sub=>
    split at h
    ·rename_i hkk;subst hkk;simp only [jL] at h;cases h;exact .of hI (x:= .int k _) (by simp only [Sem.run_bind,hg,Result.andThen_ok,binOp];simp [Op.intArith]) (.int (wrap_wrap _ _))
    ·cases h
   case mul=>
    split at h
    ·rename_i hkk;subst hkk;simp only [jL] at h;cases h;exact .of hI (x:= .int k _) (by simp only [Sem.run_bind,hg,Result.andThen_ok,binOp];simp [Op.intArith]) (.int (wrap_wrap _ _))
    ·cases h
   case quo=>
    split at h
    ·rename_i hkk;subst hkk;simp only [jL] at h;split at h
     ·cases h
     ·rename_i hz;cases h;exact .of hI (x:= .int k _) (by simp only [Sem.run_bind,hg,Result.andThen_ok,binOp];simp [Op.intDiv,hz]) (.int (wrap_wrap _ _))
    ·cases h
   case rem=>
    split at h
    ·rename_i hkk;subst hkk;simp only [jL] at h;split at h
     ·cases h
     ·rename_i hz;cases h;exact .of hI (x:= .int k _) (by simp only [Sem.run_bind,hg,Result.andThen_ok,binOp];simp [Op.intDiv,hz]) (.int (aKC hk))
    ·cases h
   case and=>
    split at h
    ·rename_i hkk;subst hkk;simp only [jL] at h;cases h;exact .of hI (x:= .int k _) (by simp only [Sem.run_bind,hg,Result.andThen_ok,binOp];simp [Op.intBits]) (.int (wrap_wrap _ _))
    ·cases h
   case or=>
    split at h
    ·rename_i hkk;subst hkk;simp only [jL] at h;cases h;exact .of hI (x:= .int k _) (by simp only [Sem.run_bind,hg,Result.andThen_ok,binOp];simp [Op.intBits]) (.int (wrap_wrap _ _))
    ·cases h
   case xor=>
    split at h
    ·rename_i hkk;subst hkk;simp only [jL] at h;cases h;exact .of hI (x:= .int k _) (by simp only [Sem.run_bind,hg,Result.andThen_ok,binOp];simp [Op.intBits]) (.int (wrap_wrap _ _))
    ·cases h
   case andNot=>
    split at h
    ·rename_i hkk;subst hkk;simp only [jL] at h;cases h;exact .of hI (x:= .int k _) (by simp only [Sem.run_bind,hg,Result.andThen_ok,binOp];simp [Op.intBits]) (.int (wrap_wrap _ _))
    ·cases h
   case eql=>
    split at h
    ·rename_i hkk;subst hkk;simp only [jL] at h;cases h;exact .of hI (x:= .bool _) (by simp only [Sem.run_bind,hg,Result.andThen_ok,binOp];simp [Op.intCmp]) (.bool _)
    ·cases h
   case neq=>
    split at h
    ·rename_i hkk;subst hkk;simp only [jL] at h;cases h;exact .of hI (x:= .bool _) (by simp only [Sem.run_bind,hg,Result.andThen_ok,binOp];simp [Op.intCmp]) (.bool _)
    ·cases h
   case lss=>
    split at h
    ·rename_i hkk;subst hkk;simp only [jL] at h;cases h;exact .of hI (x:= .bool _) (by simp only [Sem.run_bind,hg,Result.andThen_ok,binOp];simp [Op.intCmp]) (.bool _)
    ·cases h
   case leq=>
    split at h
    ·rename_i hkk;subst hkk;simp only [jL] at h;cases h;exact .of hI (x:= .bool _) (by simp only [Sem.run_bind,hg,Result.andThen_ok,binOp];simp [Op.intCmp]) (.bool _)
    ·cases h
   case gtr=>
    split at h
    ·rename_i hkk;subst hkk;simp only [jL] at h;cases h;exact .of hI (x:= .bool _) (by simp only [Sem.run_bind,hg,Result.andThen_ok,binOp];simp [Op.intCmp]) (.bool _)
    ·cases h
   case geq=>
    split at h
    ·rename_i hkk;subst hkk;simp only [jL] at h;cases h;exact .of hI (x:= .bool _) (by simp only [Sem.run_bind,hg,Result.andThen_ok,binOp];simp [Op.intCmp]) (.bool _)
    ·cases h
   case shl=>
    split at h
    ·cases h
    ·rename_i hn;cases h;refine .of hI (x:= .int k (k.wrap (n*2^(min n'.toNat k.bits)))) ?_ (.int (wrap_wrap _ _));simp only [Sem.run_bind,hg,Result.andThen_ok,binOp,Op.shift,if_neg hn];simp
   case shr=>
    split at h
    ·cases h
    ·rename_i hn;cases h;refine .of hI (x:= .int k (k.wrap (n.fdiv (2^(min n'.toNat k.bits))))) ?_ (.int (wrap_wrap _ _));simp only [Sem.run_bind,hg,Result.andThen_ok,binOp,Op.shift,if_neg hn];simp [aK7 hk]
  |_=>simp [aBm] at h
 |str sa hsa=>
  cases hb with
  |str sb hsb=>
   have hg:(eqGuard op t x y (.string sa) (.string sb)).run P w= .ok () w:=by unfold eqGuard;split<;>simp
   have hrun: ∀v',(Op.stringOp op sa sb).run P w= .ok v' w→((do eqGuard op t x y (.string sa) (.string sb);binOp op t (.string sa) (.string sb)):Sem Value).run P w= .ok v' w:=by
    intro v' hv;simp only [Sem.run_bind,hg,Result.andThen_ok];cases op<;>exact hv
   have hE:(sa.toList==sb.toList)=(sa.data.toList==sb.data.toList):=aMy sa sb;have hL:Op.bytesLess sa.toList sb.toList=Op.bytesLess sa.data.toList sb.data.toList:=by rw [ByteArray.toList_eq,ByteArray.toList_eq]
   simp only [aBm] at h;cases op<;>simp only [aNF] at h<;>first
    |(cases h;done)
    |(cases h;exact .of hI (hrun (.bool _) (by simp [Op.stringOp,hE,hL];rfl)) (.bool _))
    |(cases h;exact .of hI (hrun (.bool _) (by simp only [Op.stringOp,hE,hL];rfl)) (.bool _))
    |skip
   split at h
   ·rename_i hlen;cases h;have hlen':sa.size+sb.size≤big:=by simpa using hlen
    have e:(sa++sb).data.toList=sa.data.toList++sb.data.toList:=by simp
    refine .of hI (hrun (.string (sa++sb)) ?_) ?_
    ·have hn: ¬(((sa.size+sb.size:Nat):Int)>IntKind.i64.max):=by
      have:IntKind.i64.max=9223372036854775807:=by decide
      rw [this];simp only [big] at hlen';omega
     simp only [Op.stringOp];rw [if_neg hn];rfl
    ·rw [←e];exact .str _ (by rw [ByteArray.size_append];simp only [big,maxLen] at*;omega)
   ·cases h
  |_=>simp [aBm] at h
 |_=>simp [aBm] at h
end
section
variable {P : Program} {B : Bs} {G : Gh} {s : ASt} {w : World}
theorem bytes_beq(p q:ByteArray):(p==q)=(p.data.toList==q.data.toList):=by
 cases p with|mk p=>cases q with|mk q=>
 show(p==q)=(p.toList==q.toList)
 rw [Bool.eq_iff_iff];simp
theorem aIa{a b:AV}{xa xb:Value}{r:Bool}(h:rD a b=some r)(ha:R G (.v a xa))(hb:R G (.v b xb)):
  (∃k n m,xa= .int k n∧xb= .int k m∧r=(n==m))∨(∃p q,xa= .bool p∧xb= .bool q∧r=(p==q))∨(∃p q:ByteArray,xa= .string p∧xb= .string q∧r=(p.data.toList==q.data.toList)):=by
 cases ha with
 |int hk=>
  cases hb with
  |int hk'=>
   simp only [rD] at h;split at h
   ·rename_i e;subst e;cases h;exact .inl ⟨_,_,_,rfl,rfl,rfl⟩
   ·cases h
  |_=>simp [rD] at h
 |bool p=>
  cases hb with
  |bool q=>simp only [rD] at h;cases h;exact .inr (.inl ⟨_,_,rfl,rfl,rfl⟩)
  |_=>simp [rD] at h
 |str p hp=>
  cases hb with
  |str q hq=>simp only [rD] at h;cases h;exact .inr (.inr ⟨_,_,rfl,rfl,rfl⟩)
  |_=>simp [rD] at h
 |_=>simp [rD] at h
theorem aCt(t:TypeId)(x y:Value):Op.equal t x y=Op.equalIn (9999+1) t x y:=rfl
theorem aML{t:TypeId}{j:IntKind}(hu:P.underlying t=some (.int j))(d:Nat)(k:IntKind)(n m:Int):(Op.equalIn (d+1) t (.int k n) (.int k m)).run P w= .ok (n==m) w:=by
 simp only [Op.equalIn,Sem.run_bind,run_underlying hu,Result.andThen_ok,if_true];rfl
theorem aD6{t:TypeId}(hu:P.underlying t=some .bool)(d:Nat)(n m:Bool):(Op.equalIn (d+1) t (.bool n) (.bool m)).run P w= .ok (n==m) w:=by
 simp only [Op.equalIn,Sem.run_bind,run_underlying hu,Result.andThen_ok];rfl
theorem aNq{t:TypeId}(hu:P.underlying t=some .string)(d:Nat)(n m:ByteArray):(Op.equalIn (d+1) t (.string n) (.string m)).run P w= .ok (n.data.toList==m.data.toList) w:=by
 simp only [Op.equalIn,Sem.run_bind,run_underlying hu,Result.andThen_ok,bytes_beq];rfl
def sX(k:NK)(u:TypeDesc):Prop:=
 match k with| .ptr=> ∃e,u= .pointer e| .slice=> ∃e,u= .slice e| .map=> ∃e f,u= .map e f| .func=> ∃e f g,u= .func e f g| .iface=> ∃e,u= .interface e
def aJa(k:NK)(c:Value):Prop:=
 match k with| .ptr=>c= .pointer none| .slice=> ∃l d,c= .slice none l d| .map=>c= .map none| .func=>c= .nilFunc| .iface=>c= .nilIface
theorem aFb{t:TypeId}{u:TypeDesc}(hu:P.underlying t=some u){k:NK}{a:AV}{x n:Value}{b:Bool}(r:R G (.v a x))(h:aDj k a=some b)
(d:Nat)(hk:sX k u∧aJa k n):
  (Op.equalIn (d+1) t x n).run P w= .ok b w∧(Op.equalIn (d+1) t n x).run P w= .ok b w:=by
 cases k with
 |ptr=>
  obtain⟨⟨e,rfl⟩,rfl⟩:=hk;cases r<;>simp only [aDj] at h<;>cases h<;>(constructor<;>(simp only [Op.equalIn,Sem.run_bind,run_underlying hu,Result.andThen_ok];rfl))
 |slice=>
  obtain⟨⟨e,rfl⟩,l,c,rfl⟩:=hk;cases r with
  |dA hc hm hr ho=>
   rename_i sz xs o b' off cc;cases xs with
   |nil=>simp [aDj] at h
   |cons y ys=>simp only [aDj] at h;cases h;constructor<;>(simp only [Op.equalIn,Sem.run_bind,run_underlying hu,Result.andThen_ok];rfl)
  |_=>simp [aDj] at h
 |map=>
  obtain⟨⟨e,f,rfl⟩,rfl⟩:=hk;cases r<;>simp only [aDj] at h<;>cases h<;>(constructor<;>(simp only [Op.equalIn,Sem.run_bind,run_underlying hu,Result.andThen_ok];rfl))
 |func=>
  obtain⟨⟨e,f,g,rfl⟩,rfl⟩:=hk;cases r<;>simp only [aDj] at h<;>cases h<;>(constructor<;>(simp only [Op.equalIn,Sem.run_bind,run_underlying hu,Result.andThen_ok];rfl))
 |iface=>
  obtain⟨⟨e,rfl⟩,rfl⟩:=hk;cases r<;>simp only [aDj] at h<;>cases h<;>(constructor<;>(simp only [Op.equalIn,Sem.run_bind,run_underlying hu,Result.andThen_ok];rfl))
def aCl:Value→Value→Bool
 | .int ..,.int .. | .string _,.string _| .float ..,.float .. | .complex ..,.complex .. =>false
 |_,_=>true
theorem binOp_eql{t:TypeId}{x y:Value}(h:aCl x y=true):binOp .eql t x y=(do pure (.bool (←Op.equal t x y)))∧binOp .neq t x y=(do pure (.bool (!(←Op.equal t x y)))):=by
 cases x<;>cases y<;>first|(simp [aCl] at h;done)|exact⟨rfl,rfl⟩
variable {P' : aS} {env : Env} {ρ : Operand → Value}
theorem aSR(hI:Inv P B G s w){op:UnOp}{a v:AV}{x:Value}(r:R G (.v a x))
(h:(match(generalizing:=false) op with
   | .not=>(match(generalizing:=false) a with| .bool b=>some (AV.bool (!b))|_=>none)
   | .neg=>(match(generalizing:=false) a with| .int k n=>some (.int k (k.wrap (0-n)))|_=>none)
   | .xor=>(match(generalizing:=false) a with| .int k n=>some (.int k (k.wrap (BitVec.ofInt k.bits (if k.signed then-1 else k.max)^^^BitVec.ofInt k.bits n).toNat))|_=>none)
   |_=>none)=some v):lO P G w (Op.unary op x) v:=by
 cases op with
 |not=>cases r<;>simp at h;subst h;exact .of hI (x:= .bool _) (by simp [Op.unary]) (.bool _)
 |neg=>cases r<;>simp at h;subst h;exact .of hI (x:= .int _ _) (by simp [Op.unary,Op.intArith]) (.int (wrap_wrap _ _))
 |xor=>cases r<;>simp at h;subst h;exact .of hI (x:= .int _ _) (by simp [Op.unary,Op.intBits]) (.int (wrap_wrap _ _))
 |plus=>simp at h
theorem aPB(hI:Inv P B G s w){k:IntKind}{a v:AV}{x:Value}(r:R G (.v a x)){S T:TypeId}{kS:IntKind}(hs:P.underlying S=some (.int kS))(ht:P.underlying T=some (.int k))
(h:(match(generalizing:=false) a with| .int k' n=>some (AV.int k (if k=k' then n else k.wrap n))|_=>none)=some v):lO P G w (convert S T x) v:=by
 cases r<;>simp at h;rename_i k' n hk;subst h;refine .of hI (x:= .int k (k.wrap n)) (by simp [convert,run_underlying hs,run_underlying ht,Conv.intToInt]) ?_;by_cases e:k=k'
 ·subst e;rw [if_pos rfl,hk];exact .int hk
 ·rw [if_neg e];exact .int (wrap_wrap _ _)
theorem aLa(hI:Inv P B G s w){t:TypeId}{u:TypeDesc}(hu:P.underlying t=some u)(hn: ∀m,u≠ .interface m){a v:AV}{x:Value}(r:R G (.v a x))
(h:(match(generalizing:=false) gP a with|some v=>some (AV.iface t v)|none=>none)=some v):lO P G w (Instr.makeInterface t x) v:=by
 split at h
 ·rename_i a' ha;cases h;refine .of hI (x:= .iface t x) ?_ (.iface (o0 ha r).1);simp only [Instr.makeInterface,Sem.run_bind,run_underlying hu,Result.andThen_ok]
  first|rfl|(split;exact absurd rfl (hn _);rfl)
 ·cases h
theorem aNN(hI:Inv P B G s w){f:Nat}{a b:List AV}{xa xb:List Value}(ra:R G (.l a xa))(rb:R G (.l b xb)){v:AV}
(h:(match(generalizing:=false) dL a,dL b with|some a,some b=>some (AV.func f a b)|_,_=>none)=some v):lO P G w (Instr.makeFunc (.func f) xa.toArray xb.toArray) v:=by
 split at h
 ·rename_i a' b' h1 h2;cases h;exact .of hI (x:= .func (.func f) xa.toArray xb.toArray) (by simp [Instr.makeFunc]) (.func (rM h1 ra) (rM h2 rb))
 ·cases h
theorem sW{a:AV}{x:Value}{n:Nat}(h:g6 a=some n)(r:R G (.v a x)): ∃k,x= .int k (n:Int):=by
 cases r<;>simp [g6] at h;obtain⟨h0,rfl⟩:=h;exact⟨_,by rw [Int.toNat_of_nonneg h0]⟩
theorem xO(hO:Opn P' env G ρ){x:Option Operand}{y:Option aJ}(h:pX x=some y){d n:Nat}(hn:cF P' env d y=some n):
  (x=none∧y=none∧n=d)∨(∃z z' k,x=some z∧y=some z'∧ρ z= .int k (n:Int)):=by
 cases x with
 |none=>simp [pX] at h;subst h;simp [cF] at hn;exact .inl ⟨rfl,rfl,hn.symm⟩
 |some z=>
  simp only [pX,Option.map_eq_some_iff] at h;obtain⟨z',h1,rfl⟩:=h;simp only [cF] at hn;obtain⟨k,hk⟩:=sW hn (hO.out _ _ h1);exact .inr ⟨z,z',k,rfl,rfl,hk⟩
theorem fU{k:IntKind}{n y:Nat}(h:n≤y)(c:BoundsCode):(Instr.sliceBound (.int k (n:Int)) y c).run P w= .ok n w:=by
 have:(0:Int)≤(n:Int)∧(n:Int)≤(y:Int):=⟨by omega,by omega⟩
 simp [Instr.sliceBound,asIntOf,this]
theorem aNl(hI:Inv P B G s w)(hO:Opn P' env G ρ){t:TypeId}(hu:P.underlying t=some .string){a v:AV}{x:Value}(r:R G (.v a x)){lo hi:Option Operand}{lo' hi':Option aJ}(hl:pX lo=some lo')(hh:pX hi=some hi')
(h:(match(generalizing:=false) a with
   | .str s=>
    (match cF P' env s.length hi',cF P' env 0 lo' with
    |some h,some l=>if l≤h&&h≤s.length then some (AV.str ((s.take h).drop l)) else none
    |_,_=>none)
   |_=>none)=some v):lO P G w (Instr.sliceAt t x (lo.map ρ) (hi.map ρ) none) v:=by
 cases r<;>simp only [reduceCtorEq] at h;rename_i st hst;split at h
 ·rename_i n l h1 h2;split at h
  ·rename_i hc;cases h;simp at hc;obtain⟨hc1,hc2⟩:=hc;have hc2':n≤st.size:=by simpa using hc2
   refine .of hI (x:= .string (st.extract l n)) ?_ ?_
   ·have e1:(match hi.map ρ with|some v=>Instr.sliceBound v st.size .sliceAlen|none=>(pure st.size:Sem Nat)).run P w= .ok n w:=by
     rcases xO hO hh h1 with ⟨rfl,_,e⟩|⟨z,z',k,rfl,_,e⟩
     ·simp at e;simp [e]
     ·simp only [Option.map_some,e];exact fU hc2' _
    have e2:(match lo.map ρ with|some v=>Instr.sliceBound v n .sliceB|none=>(pure 0:Sem Nat)).run P w= .ok l w:=by
     rcases xO hO hl h2 with ⟨rfl,_,e⟩|⟨z,z',k,rfl,_,e⟩
     ·simp [e]
     ·simp only [Option.map_some,e];exact fU hc1 _
    have e3:(Instr.sliceBounds false st.size st.size (lo.map ρ) (hi.map ρ) none).run P w= .ok (l,n,st.size) w:=by
     unfold Instr.sliceBounds;cases hi<;>cases lo<;>simp_all
    simp [Instr.sliceAt,Instr.slice,run_underlying hu,e3]
   ·have:(st.data.toList.take n).drop l=(st.extract l n).data.toList:=by
     simp [ByteArray.data_extract,List.take_drop,Array.toList_extract]
     try rw [Nat.add_sub_cancel' hc1]
    rw [this];exact .str _ (by rw [ByteArray.size_extract];omega)
  ·cases h
 ·cases h
end
section
variable {P : Program} {B : Bs} {G : Gh} {s : ASt} {w : World} {P' : aS} {env : Env} {ρ : Operand → Value}
theorem eP(b o n:Nat):(⟨b,o,none⟩:Addr).add n=⟨b,o+n,none⟩:=by unfold Addr.add;split<;>simp_all
theorem aRd(hI:Inv P B G s w)(hO:Opn P' env G ρ){t e:TypeId}(hu:P.underlying t=some (.slice e)){esz:Nat}(hes:P.cellsOf e=esz)(he: ∃d,P.underlying e=some d){a v:AV}{x:Value}(r:R G (.v a x)){lo hi mx:Option Operand}{lo' hi' mx':Option aJ}
(h:(match(generalizing:=false) a with
  | .slice sz xs o=>
   (match cF P' env xs.length mx',cF P' env xs.length hi',cF P' env 0 lo' with
   |some m,some h,some l=>
    if l≤h&&h≤m&&m≤xs.length&&(sz=esz||xs.isEmpty)&&(mx'.isNone||hi'.isSome) then
     some (match lo',hi',mx' with
      |none,none,none=> .slice sz xs o
      |_,_,some _=> .slice (szC sz ((xs.take h).drop l)) ((xs.take h).drop l) (if h=m then .full else .no)
      |_,_,_=> .slice (szC sz ((xs.take h).drop l)) ((xs.take h).drop l) .no)
    else none
   |_,_,_=>none)
  | .cE l0 off len cap sz=>
   (match mx',cF P' env len hi',cF P' env 0 lo' with
   |none,some h,some l=>if l≤h&&h≤len&&sz=esz&&(l=0||l<cap) then some (AV.cE l0 (off+l*sz) (h-l) (cap-l) sz) else none
   |_,_,_=>none)
  |_=>none)=some v)(hl:pX lo=some lo')(hh:pX hi=some hi')(hm:pX mx=some mx'):lO P G w (Instr.sliceAt t x (lo.map ρ) (hi.map ρ) (mx.map ρ)) v:=by
 obtain⟨ed,he⟩:=he;have key: ∀(A:Option Addr)(len cap l h m:Nat),l≤h→h≤m→m≤cap→
   ((mx=none∧m=cap)∨ ∃z k,mx=some z∧ρ z= .int k (m:Int))→((hi=none∧mx=none∧h=len)∨ ∃z k,hi=some z∧ρ z= .int k (h:Int))→((lo=none∧l=0)∨ ∃z k,lo=some z∧ρ z= .int k (l:Int))→
   (Instr.sliceAt t (.slice A len cap) (lo.map ρ) (hi.map ρ) (mx.map ρ)).run P w= .ok (.slice (if m=l then A else A.map (·.add (l*esz))) (h-l) (m-l)) w:=by
  intro A len cap l h m h1 h2 h3 hm hh hl;have e:(Instr.sliceBounds true len cap (lo.map ρ) (hi.map ρ) (mx.map ρ)).run P w= .ok (l,h,m) w:=by
   unfold Instr.sliceBounds;rcases hm with ⟨rfl,rfl⟩|⟨zm,km,rfl,em⟩
   ·rcases hh with ⟨rfl,_,rfl⟩|⟨zh,kh,rfl,eh⟩
    ·rcases hl with ⟨rfl,rfl⟩|⟨zl,kl,rfl,el⟩
     ·simp
     ·simp [el,fU h1]
    ·rcases hl with ⟨rfl,rfl⟩|⟨zl,kl,rfl,el⟩
     ·simp [eh,fU h2]
     ·simp [el,eh,fU h1,fU h2]
   ·rcases hh with ⟨_,hx,_⟩|⟨zh,kh,rfl,eh⟩
    ·cases hx
    ·rcases hl with ⟨rfl,rfl⟩|⟨zl,kl,rfl,el⟩
     ·simp [eh,em,fU h2,fU h3]
     ·simp [el,eh,em,fU h1,fU h2,fU h3]
  simp [Instr.sliceAt,Instr.slice,run_underlying hu,e,j7 he,hes]
 have om: ∀{d m},cF P' env d mx'=some m→(mx=none∧mx'=none∧m=d)∨ ∃z z' k,mx=some z∧mx'=some z'∧ρ z= .int k (m:Int):=fun h=>xO hO hm h;have oh: ∀{d m},cF P' env d hi'=some m→(hi=none∧hi'=none∧m=d)∨ ∃z z' k,hi=some z∧hi'=some z'∧ρ z= .int k (m:Int):=fun h=>xO hO hh h;have ol: ∀{d m},cF P' env d lo'=some m→(lo=none∧lo'=none∧m=d)∨ ∃z z' k,lo=some z∧lo'=some z'∧ρ z= .int k (m:Int):=fun h=>xO hO hl h;have core0: ∀(sz:Nat)(xs:List AV)(o:Own)(A:Option Addr)(c:Nat),R G (.v (.slice sz xs o) (.slice A xs.length c))→xs.length≤c→c≤maxLen→
   (∀l hx m,l≤hx→hx≤m→m≤c→hx≤xs.length→(sz=esz∨xs= [])→ ∀o',(o'= .no∨(o'= .full∧hx=m))→R G (.v (.slice sz ((xs.take hx).drop l) o') (.slice (if m=l then A else A.map (·.add (l*esz))) (hx-l) (m-l)))):=by
  clear h om oh ol key;intro sz xs o A c r hc hcm l hx m h1 h2 h3 h4 hs o' ho';have hlen:((xs.take hx).drop l).length=hx-l:=by simp;omega
  have hown: ∀A',n7 G o' A' sz (hx-l) (m-l):=by
   intro A';rcases ho' with rfl|⟨rfl,rfl⟩
   ·trivial
   ·rfl
  by_cases hz:hx-l=0
  ·have he:(xs.take hx).drop l= []:=List.eq_nil_of_length_eq_zero (by omega);rw [he,hz];exact .cK (by omega) (by have:=hown (if m=l then A else A.map (·.add (l*esz)));rwa [hz] at this)
  ·have hml:m≠l:=by omega
   rw [if_neg hml];cases r with
   |cK=>simp at h4;omega
   |dA _ _ hr _=>
    rename_i b off;have hse:sz=esz:=by
     rcases hs with h|h
     ·exact h
     ·subst h;simp at h4;omega
    subst hse;simp only [Option.map_some,eP];have:=(hr.aQW hx).aQy l (by simp;omega);have e2:hx-l=((xs.take hx).drop l).length:=hlen.symm;rw [e2];exact .dA (by rw [hlen];omega) (by omega) this (by rw [hlen];exact hown _)
 have core: ∀(sz:Nat)(xs:List AV)(o:Own)(A:Option Addr)(c:Nat),R G (.v (.slice sz xs o) (.slice A xs.length c))→xs.length≤c→c≤maxLen→
   (∀l hx m,l≤hx→hx≤m→m≤c→hx≤xs.length→(sz=esz∨xs= [])→ ∀o',(o'= .no∨(o'= .full∧hx=m))→R G (.v (.slice (szC sz ((xs.take hx).drop l)) ((xs.take hx).drop l) o') (.slice (if m=l then A else A.map (·.add (l*esz))) (hx-l) (m-l)))):=by
  clear h om oh ol key;intro sz xs o A c r hc hcm l hx m h1 h2 h3 h4 hs o' ho';have k:=core0 sz xs o A c r hc hcm l hx m h1 h2 h3 h4 hs o' ho';cases hq:(xs.take hx).drop l with
  |cons y ys=>rw [hq] at k;exact k
  |nil=>
   rw [hq] at k;generalize hn:hx-l=n at k⊢;generalize hA:(if m=l then A else A.map (·.add (l*esz)))=A' at k⊢;generalize m-l=c' at k⊢;cases k with
   |cK hm ho=>
    refine .cK hm ?_;rcases ho' with rfl|⟨rfl,_⟩
    ·trivial
    ·exact ho
   |dA hc hm hr ho=>
    refine .cK hm ?_;rcases ho' with rfl|⟨rfl,_⟩
    ·trivial
    ·exact ho
 cases r with
 |ms hL hc hcm=>
  rename_i l0 off len cap sz b;simp only at h;split at h
  ·rename_i hh' ll e2 e3;split at h
   ·rename_i hcond;cases h;simp at hcond;obtain⟨⟨⟨c1,c2⟩,c3⟩,c4⟩:=hcond;have hmx:mx=none:=by cases mx with|none=>rfl|some z=>simp only [pX,Option.map_eq_some_iff] at hm;obtain⟨_,_,hq⟩:=hm;cases hq
    subst hmx;refine .of hI (key _ len cap ll hh' cap c1 (by omega) (Nat.le_refl _) (.inl ⟨rfl,rfl⟩) ?_ ?_) ?_
    ·rcases oh e2 with ⟨h1,_,h2⟩|⟨z,_,k,h1,_,h2⟩
     ·exact .inl ⟨h1,rfl,h2⟩
     ·exact .inr ⟨z,k,h1,h2⟩
    ·rcases ol e3 with ⟨h1,_,h2⟩|⟨z,_,k,h1,_,h2⟩
     ·exact .inl ⟨h1,h2⟩
     ·exact .inr ⟨z,k,h1,h2⟩
    ·subst c3;by_cases hcl:cap=ll
     ·have hl0:ll=0:=by omega
      subst hl0;rw [if_pos hcl];simpa using R.ms (off:=off) (sz:=sz) hL (len:=hh'-0) (cap:=cap-0) (by omega) (by omega)
     ·rw [if_neg hcl];simp only [Option.map_some,eP];exact .ms hL (by omega) (by omega)
   ·cases h
  ·cases h
 |cK hcm ho=>
  rename_i sz o A c;have rr:R G (.v (.slice sz [] o) (.slice A ([]:List AV).length c)):= .cK hcm ho;simp only at h;split at h
  ·rename_i m hh' ll e1 e2 e3;split at h
   ·rename_i hcond;simp at hcond;obtain⟨⟨⟨c1,c2⟩,c3⟩,c5⟩:=hcond;subst c3;have hh0:hh'=0:=by omega
    have hl0:ll=0:=by omega
    subst hh0;subst hl0;rcases om e1 with ⟨m1,m2,_⟩|⟨zm,zm',km,m1,m2,m3⟩
    ·subst m1;subst m2;have hrun:=key A 0 c 0 0 c (Nat.le_refl _) (Nat.zero_le _) (Nat.le_refl _) (.inl ⟨rfl,rfl⟩) (by rcases oh e2 with ⟨h1,_,h2⟩|⟨z,_,k,h1,_,h2⟩;exact .inl ⟨h1,rfl,rfl⟩;exact .inr ⟨z,k,h1,h2⟩) (by rcases ol e3 with ⟨h1,_,h2⟩|⟨z,_,k,h1,_,h2⟩;exact .inl ⟨h1,rfl⟩;exact .inr ⟨z,k,h1,h2⟩);refine .of hI hrun ?_;have hA:(if c=0 then A else A.map (·.add (0*esz)))=A:=by
      split
      ·rfl
      ·cases A<;>simp [Addr.add]
     rw [hA];cases h;split
     ·exact .cK hcm ho
     ·contradiction
     ·exact .cK (by omega) trivial
    ·subst m1;subst m2;have hrun:=key A 0 c 0 0 0 (Nat.le_refl _) (Nat.le_refl _) (Nat.zero_le _) (.inr ⟨zm,km,rfl,m3⟩) (by rcases oh e2 with ⟨h1,hq,h2⟩|⟨z,_,k,h1,_,h2⟩;exact absurd c5 (by rw [hq];simp);exact .inr ⟨z,k,h1,h2⟩) (by rcases ol e3 with ⟨h1,_,h2⟩|⟨z,_,k,h1,_,h2⟩;exact .inl ⟨h1,rfl⟩;exact .inr ⟨z,k,h1,h2⟩);refine .of hI hrun ?_;cases h;simpa using core sz [] o A c rr (Nat.zero_le _) hcm 0 0 0 (Nat.le_refl _) (Nat.le_refl _) (Nat.zero_le _) (Nat.le_refl _) (.inr rfl) .full (.inr ⟨rfl,rfl⟩)
   ·cases h
  ·cases h
 |dA hc hcm hr ho=>
  rename_i sz xs o b off c;have rr:R G (.v (.slice sz xs o) (.slice (some ⟨b,off,none⟩) xs.length c)):= .dA hc hcm hr ho;simp only at h;split at h
  ·rename_i m hh' ll e1 e2 e3;split at h
   ·rename_i hcond;simp at hcond;obtain⟨⟨⟨⟨c1,c2⟩,c3⟩,c4⟩,c5⟩:=hcond;rcases om e1 with ⟨m1,m2,m3⟩|⟨zm,zm',km,m1,m2,m3⟩
    ·subst m1;subst m2;have hrun:=key (some ⟨b,off,none⟩) xs.length c ll hh' c c1 (by omega) (Nat.le_refl _) (.inl ⟨rfl,rfl⟩) (by rcases oh e2 with ⟨h1,_,h2⟩|⟨z,_,k,h1,_,h2⟩;exact .inl ⟨h1,rfl,h2⟩;exact .inr ⟨z,k,h1,h2⟩) (by rcases ol e3 with ⟨h1,_,h2⟩|⟨z,_,k,h1,_,h2⟩;exact .inl ⟨h1,h2⟩;exact .inr ⟨z,k,h1,h2⟩);refine .of hI hrun ?_;cases h;split
     ·rename_i g1 g2;rcases oh e2 with ⟨_,_,h2⟩|⟨_,_,_,_,hq,_⟩
      ·rcases ol e3 with ⟨_,_,h4⟩|⟨_,_,_,_,hq,_⟩
       ·subst h2;subst h4;have hA:(if c=0 then some (⟨b,off,none⟩:Addr) else(some (⟨b,off,none⟩:Addr)).map (·.add (0*esz)))=some ⟨b,off,none⟩:=by
         split
         ·rfl
         ·simp [Addr.add]
        rw [hA];simpa using rr
       ·cases hq
      ·cases hq
     ·contradiction
     ·exact core sz xs o _ c rr hc hcm ll hh' c c1 (by omega) (Nat.le_refl _) (by omega) c4 .no (.inl rfl)
    ·subst m1;subst m2;have hrun:=key (some ⟨b,off,none⟩) xs.length c ll hh' m c1 c2 (by omega) (.inr ⟨zm,km,rfl,m3⟩) (by rcases oh e2 with ⟨h1,hq,h2⟩|⟨z,_,k,h1,_,h2⟩;exact absurd c5 (by rw [hq];simp);exact .inr ⟨z,k,h1,h2⟩) (by rcases ol e3 with ⟨h1,_,h2⟩|⟨z,_,k,h1,_,h2⟩;exact .inl ⟨h1,h2⟩;exact .inr ⟨z,k,h1,h2⟩);refine .of hI hrun ?_;have hfin:R G (.v (.slice (szC sz ((xs.take hh').drop ll)) ((xs.take hh').drop ll) (if hh'=m then .full else .no)) (.slice (if m=ll then some ⟨b,off,none⟩ else(some (⟨b,off,none⟩:Addr)).map (·.add (ll*esz))) (hh'-ll) (m-ll))):=by
      refine core sz xs o _ c rr hc hcm ll hh' m c1 c2 (by omega) (by omega) c4 _ ?_;by_cases hm':hh'=m
      ·rw [if_pos hm'];exact .inr ⟨rfl,hm'⟩
      ·rw [if_neg hm'];exact .inl rfl
     have e9:v= .slice (szC sz ((xs.take hh').drop ll)) ((xs.take hh').drop ll) (if hh'=m then .full else .no):=by
      cases lo'<;>cases hi'<;>simp at h<;>exact h.symm
     rw [e9];exact hfin
   ·cases h
  ·cases h
 |_=>simp at h
end
section
variable {P : Program} {B : Bs} {G : Gh} {s : ASt} {w : World} {P' : aS} {env : Env} {ρ : Operand → Value}
theorem yO{a:AV}{x:Value}(r:R G (.v a x))(h:x.oneCell'=true):qT a=false:=by
 cases r<;>first|rfl|(simp [Value.oneCell'] at h)
theorem aNs{sz b:Nat}: ∀{n o:Nat}{cs:List AV}{vs:List Value},R G (.k cs vs)→n*sz≤cs.length→(∀j x,vs[j]?=some x→G.M b (o+j)=some x)→R G (.r sz (chunks sz n cs) b o):=by
 intro n
 induction n with
 |zero=>intro o cs vs _ _ _;exact .w6 _ _ _
 |succ n ih=>
  intro o cs vs r hl hM;have hl':sz≤cs.length:=by rw [Nat.add_mul] at hl;omega
  have hvl:cs.length=vs.length:=r.jP;have hrest:R G (.r sz (chunks sz n (cs.drop sz)) b (o+sz)):=ih (r.yP sz) (by rw [List.length_drop];rw [Nat.add_mul] at hl;omega) (fun j x hx=>by
   rw [List.getElem?_drop] at hx;have:=hM (sz+j) x hx;rw [←Nat.add_assoc] at this;exact this)
  have hvs:(vs.take sz).length=sz:=by rw [List.length_take];omega
  have hMt: ∀j y,(vs.take sz)[j]?=some y→G.M b (o+j)=some y:=fun j y hy=>by
   rw [List.getElem?_take] at hy;split at hy
   ·exact hM j y hy
   ·cases hy
  unfold chunks;split
  ·cases r with
   |gN=>simp at hl'
   |cJ h1 h2 t=>
    exact .l9 (.vO (yO h1 h2) h2 h1) rfl (by simpa using hMt) hrest
  ·exact .l9 (.tQ (r.aCh sz)) hvs hMt hrest
theorem aQi(hI:Inv P B G s w)(hO:Opn P' env G ρ){t e:TypeId}{n:Nat}(hu:P.underlying t=some (.array n e)){esz:Nat}(hes:P.cellsOf e=esz)(he: ∃d,P.underlying e=some d)(hn:n≤big){a v:AV}{x:Value}{lo hi:Option Operand}{lo' hi':Option aJ}
(h:(match(generalizing:=false) a,cF P' env n hi',cF P' env 0 lo' with
  | .aF v off,some h,some l=>
   if l≤h&&h≤n&&off+n*esz≤(cellsOf v).length then some (AV.slice esz (chunks esz (h-l) ((cellsOf v).drop (off+l*esz))) .no) else none
  | .ptr b off,some h,some l=>if l≤h&&h≤n&&(l=0||l<n) then some (.cE b (off+l*esz) (h-l) (n-l) esz) else none
  |_,_,_=>none)=some v)(r:R G (.v a x))(hl:pX lo=some lo')(hh:pX hi=some hi'):lO P G w (Instr.sliceAt t x (lo.map ρ) (hi.map ρ) none) v:=by
 obtain⟨ed,he⟩:=he;have key: ∀(A:Addr)(l hx:Nat),l≤hx→hx≤n→((hi=none∧hx=n)∨ ∃z k,hi=some z∧ρ z= .int k (hx:Int))→((lo=none∧l=0)∨ ∃z k,lo=some z∧ρ z= .int k (l:Int))→
   (Instr.sliceAt t (.pointer (some A)) (lo.map ρ) (hi.map ρ) none).run P w= .ok (.slice (some (if n=l then A else A.add (l*esz))) (hx-l) (n-l)) w:=by
  intro A l hx h1 h2 hh hl;have e:(Instr.sliceBounds false n n (lo.map ρ) (hi.map ρ) none).run P w= .ok (l,hx,n) w:=by
   unfold Instr.sliceBounds;rcases hh with ⟨rfl,rfl⟩|⟨zh,kh,rfl,eh⟩
   ·rcases hl with ⟨rfl,rfl⟩|⟨zl,kl,rfl,el⟩
    ·simp
    ·simp [el,fU h1]
   ·rcases hl with ⟨rfl,rfl⟩|⟨zl,kl,rfl,el⟩
    ·simp [eh,fU h2]
    ·simp [el,eh,fU h1,fU h2]
  simp [Instr.sliceAt,Instr.sureAddr,run_underlying hu,e,j7 he,hes]
 have toH: ∀{m},cF P' env n hi'=some m→(hi=none∧m=n)∨ ∃z k,hi=some z∧ρ z= .int k (m:Int):=fun h=>by
  rcases xO hO hh h with ⟨h1,_,h2⟩|⟨z,_,k,h1,_,h2⟩
  ·exact .inl ⟨h1,h2⟩
  ·exact .inr ⟨z,k,h1,h2⟩
 have toL: ∀{m},cF P' env 0 lo'=some m→(lo=none∧m=0)∨ ∃z k,lo=some z∧ρ z= .int k (m:Int):=fun h=>by
  rcases xO hO hl h with ⟨h1,_,h2⟩|⟨z,_,k,h1,_,h2⟩
  ·exact .inl ⟨h1,h2⟩
  ·exact .inr ⟨z,k,h1,h2⟩
 have hbm:n≤maxLen:=by simp only [big,maxLen] at*;omega
 cases e1:cF P' env n hi' with
 |none=>rw [e1] at h;cases r<;>simp at h
 |some hx=>
 cases e2:cF P' env 0 lo' with
 |none=>rw [e1,e2] at h;cases r<;>simp at h
 |some l=>
 rw [e1,e2] at h;cases r with
 |aF off hc hM=>
  rename_i v0 vs b o;simp only at h;split at h
  ·rename_i hcond;cases h;simp at hcond;obtain⟨⟨c1,c2⟩,c3⟩:=hcond;refine .of hI (key _ l hx c1 c2 (toH e1) (toL e2)) ?_;by_cases hz:hx-l=0
   ·rw [hz];exact .cK (by omega) trivial
   ·have hnl:n≠l:=by omega
    rw [if_neg hnl,eP];have hk:=hc.c_k;have hlen:(chunks esz (hx-l) ((cellsOf v0).drop (off+l*esz))).length=hx-l:=by
     generalize hx-l=m;generalize (cellsOf v0).drop (off+l*esz)=cs
     induction m generalizing cs with
     |zero=>rfl
     |succ m ih=>simp [chunks,ih]
    have hr:=aNs (b:=b) (o:=o+off+l*esz) (n:=hx-l) (sz:=esz) (hk.yP (off+l*esz)) (by
     rw [List.length_drop];have:(hx-l)*esz+l*esz≤n*esz:=by rw [←Nat.add_mul];exact Nat.mul_le_mul_right _ (by omega)
     omega) (fun j y hy=>by
      rw [List.getElem?_drop] at hy;have:=hM _ y hy;rw [show o+off+l*esz+j=o+(off+l*esz+j) from by omega];exact this)
    have:=R.dA (o:= .no) (c:=n-l) (by rw [hlen];omega) (by omega) hr trivial;rw [hlen] at this;exact this
  ·cases h
 |ptr off hL=>
  rename_i ℓ b;simp only at h;split at h
  ·rename_i hcond;cases h;simp at hcond;obtain⟨⟨c1,c2⟩,c3⟩:=hcond;refine .of hI (key _ l hx c1 c2 (toH e1) (toL e2)) ?_;by_cases hnl:n=l
   ·have hl0:l=0:=by omega
    subst hl0;rw [if_pos hnl];simpa using R.ms (off:=off) (sz:=esz) hL (len:=hx-0) (cap:=n-0) (by omega) (by omega)
   ·rw [if_neg hnl,eP];exact .ms hL (by omega) (by omega)
  ·cases h
 |_=>simp at h
theorem aNk(hI:Inv P B G s w){S:TypeId}{fs:Array Field}{f:Nat}{fd:Field}(hu:P.underlying S=some (.struct fs))(hf:fs[f]?=some fd)(hz:P.cellsOf fd.type≠0){a v:AV}{x:Value}(r:R G (.v a x))
(h:(match(generalizing:=false) a with| .ptr l o=>some (AV.ptr l (o+fd.offset))| .aF v o=>some (.aF v (o+fd.offset))|_=>none)=some v):lO P G w (Instr.fieldAt S x f) v:=by
 obtain⟨i,hi⟩: ∃i,P.info? fd.type=some i:=by
  cases h:P.info? fd.type with
  |none=>simp [Program.cellsOf,h] at hz
  |some i=>exact⟨i,rfl⟩
 have key: ∀A:Addr,(Instr.fieldAt S (.pointer (some A)) f).run P w= .ok (.pointer (some (A.add fd.offset))) w:=by
  intro A;simp [Instr.fieldAt,run_underlying hu,hf,Instr.sureAddr,fieldPlace,jV hi,hz]
 cases r<;>simp at h<;>subst h
 ·rename_i ℓ b o hL;refine .of hI (key _) ?_;rw [eP];exact .ptr _ hL
 ·rename_i v0 vs b o off hc hM;refine .of hI (key _) ?_;rw [eP,Nat.add_assoc];exact .aF _ hc hM
theorem aOg{t:TypeId}{ag:Bool}(hag:nR P t=some ag){cs:List AV}{vs:List Value}(r:R G (.k cs vs)){off:Nat}{v:AV}(h:partOf ag (P.cellsOf t) cs off=some v): ∃x,(part t vs.toArray off).run P w= .ok x w∧R G (.v v x):=by
 obtain⟨d,hd⟩:=uM hag;unfold partOf at h;cases ag with
 |true=>
  simp only at h;split at h
  ·rename_i hc;cases h;refine⟨.agg ((vs.drop off).take (P.cellsOf t)).toArray,?_,.agg ((r.yP off).aCh _)⟩;simp only [part,Sem.run_bind,s6 hag,Result.andThen_ok,if_true,j7 hd];simp [List.extract_eq_take_drop]
  ·cases h
 |false=>
  simp only at h;obtain⟨x,h1,h2,_⟩:=r.aLC h;refine⟨x,?_,h2⟩;simp [part,s6 hag,h1]
theorem aOU(hI:Inv P B G s w){S:TypeId}{fs:Array Field}{f:Nat}{fd:Field}(hu:P.underlying S=some (.struct fs))(hf:fs[f]?=some fd){ag:Bool}(hag:nR P fd.type=some ag){a v:AV}{x:Value}(r:R G (.v a x))
(h:(match(generalizing:=false) a with| .agg cs=>partOf ag (P.cellsOf fd.type) cs fd.offset|_=>none)=some v):lO P G w (Instr.field S x f) v:=by
 cases r<;>simp at h;rename_i cs vs hk;obtain⟨x,h1,h2⟩:=aOg (w:=w) hag hk h;exact .of hI (x:=x) (by simp [Instr.field,run_underlying hu,hf,asAgg,h1]) h2
theorem aQt(hI:Inv P B G s w){t e:TypeId}(hu:P.underlying t=some (.slice e)){esz:Nat}(hes:P.cellsOf e=esz)(he: ∃d,P.underlying e=some d){a b v:AV}{x y:Value}(r:R G (.v a x))(r2:R G (.v b y))
(h:(match(generalizing:=false) a,g6 b with
  | .slice sz xs _,some i=>if sz=esz then(match xs[i]? with|some x=>some (AV.aF x 0)|none=>none) else none
  | .cE l off len _ sz,some i=>if sz=esz&&i<len then some (.ptr l (off+i*sz)) else none
  |_,_=>none)=some v):lO P G w (Instr.indexAt t x y) v:=by
 obtain⟨ed,he⟩:=he;have key: ∀(A:Addr)(len cap i:Nat)(k:IntKind),i<len→(Instr.indexAt t (.slice (some A) len cap) (.int k (i:Int))).run P w= .ok (.pointer (some (A.add (i*esz)))) w:=by
  intro A len cap i k hi;have hc:(0:Int)≤(i:Int)∧(i:Int)<(len:Int):=⟨by omega,by omega⟩
  simp [Instr.indexAt,asIntOf,run_underlying hu,j7 he,hes,hi]
 cases hi:g6 b with
 |none=>rw [hi] at h;cases r<;>simp at h
 |some i=>
  rw [hi] at h;obtain⟨k,rfl⟩:=sW hi r2;cases r with
  |cK=>simp at h
  |dA hc hm hr ho=>
   rename_i sz xs o bb off c;simp only at h;split at h
   ·rename_i hsz;subst hsz;split at h
    ·rename_i z hz;cases h;have hlt:i<xs.length:=(List.getElem?_eq_some_iff.1 hz).1;obtain⟨vs,h1,h2,h3⟩:=hr.aRz hz;refine .of hI (key _ _ _ _ _ hlt) ?_;rw [eP];have:=R.aF (b:=bb) (o:=off+i*sz) 0 h1 h3;simpa using this
    ·cases h
   ·cases h
  |ms hL hc hm=>
   simp only at h;split at h
   ·rename_i hcond;simp at hcond;obtain⟨rfl,hlt⟩:=hcond;cases h;refine .of hI (key _ _ _ _ _ hlt) ?_;rw [eP];exact .ptr _ hL
   ·cases h
  |_=>simp at h
theorem aQZ(hI:Inv P B G s w){t e:TypeId}{n:Nat}(hu:P.underlying t=some (.array n e)){esz:Nat}(hes:P.cellsOf e=esz)(he: ∃d,P.underlying e=some d){a b v:AV}{x y:Value}(r:R G (.v a x))(r2:R G (.v b y))
(h:(match(generalizing:=false) a,g6 b with
  | .ptr l o,some i=>if i<n then some (AV.ptr l (o+i*esz)) else none
  | .aF v o,some i=>if i<n then some (.aF v (o+i*esz)) else none
  |_,_=>none)=some v):lO P G w (Instr.indexAt t x y) v:=by
 obtain⟨ed,he⟩:=he;have key: ∀(A:Addr)(i:Nat)(k:IntKind),i<n→(Instr.indexAt t (.pointer (some A)) (.int k (i:Int))).run P w= .ok (.pointer (some (A.add (i*esz)))) w:=by
  intro A i k hi;have hc:(0:Int)≤(i:Int)∧(i:Int)<(n:Int):=⟨by omega,by omega⟩
  simp [Instr.indexAt,asIntOf,Instr.sureAddr,run_underlying hu,j7 he,hes,hi]
 cases hi:g6 b with
 |none=>rw [hi] at h;cases r<;>simp at h
 |some i=>
  rw [hi] at h;obtain⟨k,rfl⟩:=sW hi r2;cases r with
  |ptr off hL=>
   simp only at h;split at h
   ·rename_i hlt;cases h;refine .of hI (key _ _ _ hlt) ?_;rw [eP];exact .ptr _ hL
   ·cases h
  |aF off hc hM=>
   simp only at h;split at h
   ·rename_i hlt;cases h;refine .of hI (key _ _ _ hlt) ?_;rw [eP,Nat.add_assoc];exact .aF _ hc hM
   ·cases h
  |_=>simp at h
theorem aNg(hI:Inv P B G s w){t:TypeId}(hu:P.underlying t=some .string){a b v:AV}{x y:Value}(r:R G (.v a x))(r2:R G (.v b y))
(h:(match(generalizing:=false) a,g6 b with
  | .str s,some i=>(match s[i]? with|some b=>some (AV.int .u8 b.toNat)|none=>none)
  |_,_=>none)=some v):lO P G w (Instr.index t x y) v:=by
 cases hi:g6 b with
 |none=>rw [hi] at h;cases r<;>simp at h
 |some i=>
  rw [hi] at h;obtain⟨k,rfl⟩:=sW hi r2;cases r with
  |str st hst=>
   simp only at h;split at h
   ·rename_i bt hb;cases h;have hb':st[i]?=some bt:=by
     obtain⟨h1,h2⟩:=List.getElem?_eq_some_iff.1 hb;have hlt:i<st.size:=by simpa using h1
     rw [getElem?_pos st i hlt];simp at h2;rw [←h2];rfl
    refine .of hI (x:= .int .u8 bt.toNat) ?_ (.int ?_)
    ·have h0:(0:Int)≤(i:Int):=by omega
     simp [Instr.index,asIntOf,run_underlying hu,hb']
    ·have e: ∀n,IntKind.u8.wrap n=n%256:=fun n=>by simp [IntKind.wrap,IntKind.bits,IntKind.signed]
     have:=bt.toNat_lt;rw [e];omega
   ·cases h
  |_=>simp at h
theorem aMq(hI:Inv P B G s w){t xt:TypeId}{u:TypeDesc}(hu:P.underlying t=some u)(hn: ∀m,u≠ .interface m){ok:Bool}{z a v:AV}{zv:Value}{i:TypeInfo}(hi:P.info? t=some i)(hz:i.zero=some zv)(rz:R G (.v z zv)){x:Value}(r:R G (.v a x))
(h:(match(generalizing:=false) a with
  | .iface t' v=>if t'=t then some (match ok with|true=>AV.tuple [v,.bool true]|false=>v) else(match ok with|true=>some (.tuple [z,.bool false])|false=>none)
  | .bU=>(match ok with|true=>some (.tuple [z,.bool false])|false=>none)
  |_=>none)=some v):lO P G w (Instr.typeAssert x xt t ok) v:=by
 have two: ∀{p q:AV}{xp xq:Value},R G (.v p xp)→R G (.v q xq)→R G (.v (.tuple [p,q]) (.tuple #[xp,xq])):=fun h1 h2=>by simpa using R.tuple (.fR h1 (.fR h2 .rE))
 cases r<;>simp only [reduceCtorEq] at h
 ·rename_i t' v0 x0 r0;split at h
  ·rename_i e;subst e;cases ok with
   |true=>
    cases h;refine .of hI (x:= .tuple #[x0,.bool true]) ?_ (two r0 (.bool _));cases u<;>first|(exact absurd rfl (hn _))|simp [Instr.typeAssert,run_underlying hu]
   |false=>
    cases h;refine .of hI (x:=x0) ?_ r0;cases u<;>first|(exact absurd rfl (hn _))|simp [Instr.typeAssert,run_underlying hu]
  ·rename_i e;cases ok with
   |true=>
    cases h;refine .of hI (x:= .tuple #[zv,.bool false]) ?_ (two rz (.bool _));cases u<;>first|(exact absurd rfl (hn _))|simp [Instr.typeAssert,run_underlying hu,e,dM hi hz]
   |false=>cases h
 ·cases ok with
  |true=>
   cases h;refine .of hI (x:= .tuple #[zv,.bool false]) ?_ (two rz (.bool _));cases u<;>first|(exact absurd rfl (hn _))|simp [Instr.typeAssert,run_underlying hu,dM hi hz]
  |false=>cases h
theorem aK3(hI:Inv P B G s w){i:Nat}{a v:AV}{x:Value}(r:R G (.v a x))(h:(match(generalizing:=false) a with| .tuple vs=>vs[i]?|_=>none)=some v):lO P G w (Instr.extract x i) v:=by
 cases r<;>simp only [reduceCtorEq] at h;rename_i cs vs hl;obtain⟨y,h1,h2⟩:=hl.aPI h;exact .of hI (x:=y) (by simp [Instr.extract,h1]) h2
theorem rK{n:Nat}(h:n≤maxLen):IntKind.i64.wrap (n:Int)=n:=by
 have e: ∀n,IntKind.i64.wrap n=if n%18446744073709551616≥9223372036854775808 then n%18446744073709551616-18446744073709551616 else n%18446744073709551616:=fun n=>by simp [IntKind.wrap,IntKind.bits,IntKind.signed]
 rw [e];simp only [maxLen] at h;rw [if_neg (by omega)];omega
theorem aP8(hI:Inv P B G s w){t e ty:TypeId}{ts:Array TypeId}(ht:ts[0]?=some t)(hu:P.underlying t=some (.slice e)){a v:AV}{x:Value}(r:R G (.v a x))
(h:(match(generalizing:=false) a with| .slice _ xs _=>some (AV.int .i64 xs.length)| .cE _ _ len _ _=>some (.int .i64 len)|_=>none)=some v):lO P G w (Builtin.len_ ts ty #[x]) v:=by
 cases r<;>simp only [reduceCtorEq] at h<;>cases h
 ·rename_i hm ho;exact .of hI (x:= .int .i64 (0:Nat)) (by simp [Builtin.len_,ht,run_underlying hu,goInt]) (.int (by decide))
 ·rename_i hc hm hr ho;exact .of hI (x:= .int .i64 _) (by simp [Builtin.len_,ht,run_underlying hu,goInt]) (.int (rK (by omega)))
 ·rename_i hL hc hm;exact .of hI (x:= .int .i64 _) (by simp [Builtin.len_,ht,run_underlying hu,goInt]) (.int (rK (by omega)))
theorem aMv(hI:Inv P B G s w){t ty:TypeId}{ts:Array TypeId}(ht:ts[0]?=some t)(hu:P.underlying t=some .string){a v:AV}{x:Value}(r:R G (.v a x))
(h:(match(generalizing:=false) a with| .str s=>some (AV.int .i64 s.length)|_=>none)=some v):lO P G w (Builtin.len_ ts ty #[x]) v:=by
 cases r<;>simp only [reduceCtorEq] at h;cases h;rename_i st hst;have e:st.data.toList.length=st.size:=by simp
 rw [e];exact .of hI (x:= .int .i64 st.size) (by simp [Builtin.len_,ht,run_underlying hu,goInt]) (.int (rK hst))
theorem aRg(hI:Inv P B G s w){t e ty:TypeId}{n:Nat}{ts:Array TypeId}(ht:ts[0]?=some t)(hu:P.underlying t=some (.array n e))(hn:n≤big){x:Value}:lO P G w (Builtin.len_ ts ty #[x]) (.int .i64 n):=
 .of hI (x:= .int .i64 n) (by simp [Builtin.len_,ht,run_underlying hu,goInt]) (.int (rK (by simp only [big,maxLen] at*;omega)))
end
section
variable {P : Program} {B : Bs} {G : Gh} {s : ASt} {w : World} {P' : aS} {env : Env} {ρ : Operand → Value}
theorem aLi(vs:List Value): ∀(k:Nat)(cs:Array Value)(off:Nat),off+k+vs.length≤cs.size→
  ((vs.zipIdx k).foldl (fun cs (x:Value×Nat)=>cs.setIfInBounds (off+x.2) x.1) cs).toList=cs.toList.take (off+k)++vs++cs.toList.drop (off+k+vs.length):=by
 induction vs with
 |nil=>intro k cs off _;simp
 |cons v vs ih=>
  intro k cs off h;simp only [List.zipIdx_cons,List.foldl_cons];rw [ih (k+1) _ off (by simp at h⊢;omega)];simp only [Array.toList_setIfInBounds];have hlt:off+k<cs.toList.length:=by simp at h⊢;omega
  apply List.ext_getElem?;intro j;simp only [List.getElem?_append,List.length_append,List.length_take,List.length_set,List.length_cons,List.getElem?_take,List.getElem?_drop,List.getElem?_set];have hl:cs.toList.length=cs.size:=by simp
  simp only [List.length_cons] at h;by_cases h1:j<off+k
  ·have a1:j<min (off+(k+1)) cs.toList.length:=by omega
   have a2:j<min (off+k) cs.toList.length:=by omega
   have a3:j<min (off+(k+1)) cs.toList.length+vs.length:=by omega
   have a4:j<min (off+k) cs.toList.length+(vs.length+1):=by omega
   have a5: ¬off+k=j:=by omega
   have a6:j<off+(k+1):=by omega
   simp only [a1,a2,a3,a4,a5,a6,h1,if_true,if_false]
  ·by_cases h2:j=off+k
   ·subst h2;have a1:off+k<min (off+(k+1)) cs.toList.length:=by omega
    have a2: ¬off+k<min (off+k) cs.toList.length:=by omega
    have a3:off+k<min (off+(k+1)) cs.toList.length+vs.length:=by omega
    have a4:off+k<min (off+k) cs.toList.length+(vs.length+1):=by omega
    have a6:off+k<off+(k+1):=by omega
    have a7:off+k-min (off+k) cs.toList.length=0:=by omega
    simp only [a1,a2,a3,a4,a6,if_true,if_false,hlt,a7,List.getElem?_cons_zero]
   ·by_cases h3:j<off+k+(vs.length+1)
    ·have a1: ¬j<min (off+(k+1)) cs.toList.length:=by omega
     have a2: ¬j<min (off+k) cs.toList.length:=by omega
     have a3:j<min (off+(k+1)) cs.toList.length+vs.length:=by omega
     have a4:j<min (off+k) cs.toList.length+(vs.length+1):=by omega
     have a5:j-min (off+k) cs.toList.length=(j-min (off+(k+1)) cs.toList.length)+1:=by omega
     simp only [a1,a2,a3,a4,if_true,if_false,a5,List.getElem?_cons_succ]
    ·have a3: ¬j<min (off+(k+1)) cs.toList.length+vs.length:=by omega
     have a4: ¬j<min (off+k) cs.toList.length+(vs.length+1):=by omega
     have e1:off+(k+1)+vs.length+(j-(min (off+(k+1)) cs.toList.length+vs.length))=j:=by omega
     have e2:off+k+(vs.length+1)+(j-(min (off+k) cs.toList.length+(vs.length+1)))=j:=by omega
     have a5: ¬off+k=j:=by omega
     simp only [a3,a4,if_false,e1,e2,a5]
theorem aFE(v:Value)(cs:Array Value)(off:Nat)(h:off+v.cells.size≤cs.size):
  (v.cells.zipIdx.foldl (fun cs (x:Value×Nat)=>cs.setIfInBounds (off+x.2) x.1) cs).toList=cs.toList.take off++v.cells.toList++cs.toList.drop (off+v.cells.toList.length):=by
 have:=aLi v.cells.toList 0 cs off (by simpa using h);rw [←Array.foldl_toList,Array.toList_zipIdx];simpa using this
theorem aCQ{place:Nat→Option (Nat×Nat)}: ∀{ps:List (Nat×Nat×AV)}{qs:List (Nat×Value)}{z z':List AV}{vs:List Value},
  aBQ z ps=some z'→R G (.k z vs)→ps.length=qs.length→
  (∀(i:Nat)(p:Nat×Nat×AV)(q:Nat×Value),ps[i]?=some p→qs[i]?=some q→place q.1=some (p.1,p.2.1)∧R G (.v p.2.2 q.2))→
  ∃vs',Instr.fill place vs.toArray qs=some vs'.toArray∧R G (.k z' vs')
 | [],[],z,z',vs,h,r,_,_=>by simp [aBQ] at h;subst h;exact⟨vs,rfl,r⟩
 | [],_::_,_,_,_,_,_,hl,_=>by simp at hl
 |_::_,[],_,_,_,_,_,hl,_=>by simp at hl
 |(off,sz,a)::ps,(i,x)::qs,z,z',vs,h,r,hl,hp=>by
  obtain⟨h1,h2⟩:=hp 0 _ _ rfl rfl;simp only [aBQ] at h;split at h
  ·rename_i v hv;split at h
   ·rename_i hc;obtain⟨k1,k2⟩:=o0 hv h2;simp only [Bool.and_eq_true,decide_eq_true_eq] at hc;obtain⟨c1,c2⟩:=hc;have hlen:x.cells.size=sz:=by have:=k2.aCw;rw [c1] at this;simpa using this.symm
    have hvl:z.length=vs.length:=r.jP;have hfill:=aFE x vs.toArray off (by simp;omega);have hr:=r.aFy k2.c_k off;obtain⟨vs',f1,f2⟩:=aCQ (place:=place) (ps:=ps) (qs:=qs) h hr (by simpa using hl) (fun i p q hp1 hq1=>hp (i+1) p q (by simpa using hp1) (by simpa using hq1));refine⟨vs',?_,f2⟩;simp only [Instr.fill,h1];rw [if_neg (by simp;omega)];rw [←f1]
    congr 1
    apply Array.toList_inj.1;rw [hfill]
   ·cases h
  ·cases h
theorem aH4{fs:List Field}(h: ∀f∈fs,(P.info? f.type).isSome=true):(fs.mapM (fun f=>(do pure (f.offset,←sizeOf f.type):Sem (Nat×Nat)))).run P w= .ok (fs.map fun f=>(f.offset,P.cellsOf f.type)) w:=by
 induction fs with
 |nil=>rfl
 |cons f fs ih=>
  obtain⟨i,hi⟩:=Option.isSome_iff_exists.1 (h f (by simp));rw [List.mapM_cons];simp only [Sem.run_bind,jV hi,Result.andThen_ok,Sem.run_pure,ih (fun g hg=>h g (by simp [hg])),List.map_cons]
theorem aEH{fs:Array Field}(h: ∀f∈fs.toList,(P.info? f.type).isSome=true):(fs.mapM (fun f=>(do pure (f.offset,←sizeOf f.type):Sem (Nat×Nat)))).run P w= .ok ((fs.toList.map fun f=>(f.offset,P.cellsOf f.type)).toArray) w:=by
 rw [Array.mapM_eq_mapM_toList,Sem.run_map,aH4 h]
 rfl
theorem aDA(hO:Opn P' env G ρ){fs:Array Field}: ∀{ps:List (Nat×Operand)}{qs:List (Nat×Nat×aJ)},aAB fs P ps=some qs→
  qs.length=ps.length∧ ∀(i:Nat)(p:Nat×Nat×AV)(q:Nat×Value),(qs.map fun p=>(p.1,p.2.1,evO P' env p.2.2))[i]?=some p→(ps.map fun(x:Nat×Operand)=>(x.1,ρ x.2))[i]?=some q→
   ((fs.toList.map fun f=>(f.offset,P.cellsOf f.type)).toArray)[q.1]?=some (p.1,p.2.1)∧R G (.v p.2.2 q.2)
 | [],qs,h=>by simp [aAB] at h;subst h;simp
 |(i,x)::ps,qs,h=>by
  simp only [aAB] at h;split at h
  ·rename_i f y ys h1 h2 h3;cases h;obtain⟨k1,k2⟩:=aDA hO h3;refine⟨by simp [k1],fun j p q hp hq=> ?_⟩;cases j with
   |zero=>
    simp at hp hq;subst hp;subst hq;exact⟨by simp [h1],hO.out _ _ h2⟩
   |succ j=>exact k2 j p q (by simpa using hp) (by simpa using hq)
  ·cases h
theorem aDW(hO:Opn P' env G ρ){esz:Nat}: ∀{ps:List (Nat×Operand)}{qs:List (Nat×Nat×aJ)},aAh esz ps=some qs→
  qs.length=ps.length∧ ∀(i:Nat)(p:Nat×Nat×AV)(q:Nat×Value),(qs.map fun p=>(p.1,p.2.1,evO P' env p.2.2))[i]?=some p→(ps.map fun(x:Nat×Operand)=>(x.1,ρ x.2))[i]?=some q→
   (some (q.1*esz,esz)=some (p.1,p.2.1))∧R G (.v p.2.2 q.2)
 | [],qs,h=>by simp [aAh] at h;subst h;simp
 |(i,x)::ps,qs,h=>by
  simp only [aAh] at h;split at h
  ·rename_i y ys h2 h3;cases h;obtain⟨k1,k2⟩:=aDW hO h3;refine⟨by simp [k1],fun j p q hp hq=> ?_⟩;cases j with
   |zero=>simp at hp hq;subst hp;subst hq;exact⟨rfl,hO.out _ _ h2⟩
   |succ j=>exact k2 j p q (by simpa using hp) (by simpa using hq)
  ·cases h
theorem aJX(hI:Inv P B G s w)(hO:Opn P' env G ρ){t:TypeId}{parts:Array (Nat×Operand)}{z:List AV}{qs:List (Nat×Nat×aJ)}(hz:zeroOf P t=some z)
(hu:(∃fs,P.underlying t=some (.struct fs)∧(fs.toList.all fun f=>(P.info? f.type).isSome)=true∧aAB fs P parts.toList=some qs)∨(∃n e,P.underlying t=some (.array n e)∧(P.info? e).isSome=true∧aAh (P.cellsOf e) parts.toList=some qs)){v:AV}
(h:(match(generalizing:=false) aBQ z (qs.map fun p=>(p.1,p.2.1,evO P' env p.2.2)) with|some cs=>some (AV.agg cs)|none=>none)=some v):lO P G w (Instr.build t (parts.map fun(x:Nat×Operand)=>(x.1,ρ x.2))) v:=by
 split at h
 ·rename_i cs hf;cases h;obtain⟨i,zv,hi,hzv,rz⟩:=oG (G:=G) hz;have hpl:(parts.map fun(x:Nat×Operand)=>(x.1,ρ x.2)).toList=parts.toList.map fun(x:Nat×Operand)=>(x.1,ρ x.2):=by simp
  rcases hu with ⟨fs,hu,hall,hp⟩|⟨n,e,hu,he,hp⟩
  ·obtain⟨k1,k2⟩:=aDA hO hp;obtain⟨vs',f1,f2⟩:=aCQ (place:=fun i=>((fs.toList.map fun f=>(f.offset,P.cellsOf f.type)).toArray)[i]?) hf rz (by simp [k1]) k2;refine .of hI (x:= .agg vs'.toArray) ?_ (.agg f2);have hm:=aEH (P:=P) (w:=w) (fs:=fs) (fun f hf=>by simpa using List.all_eq_true.1 hall f hf);simp only [Instr.build,Sem.run_bind,dM hi hzv,Result.andThen_ok,run_underlying hu,hm,hpl];simp only [Array.toArray_toList] at f1;rw [f1]
   rfl
  ·obtain⟨k1,k2⟩:=aDW hO hp;obtain⟨vs',f1,f2⟩:=aCQ (place:=fun i=>some (i*P.cellsOf e,P.cellsOf e)) hf rz (by simp [k1]) k2;refine .of hI (x:= .agg vs'.toArray) ?_ (.agg f2);obtain⟨ie,hie⟩:=Option.isSome_iff_exists.1 he;simp only [Instr.build,Sem.run_bind,dM hi hzv,Result.andThen_ok,run_underlying hu,jV hie,hpl];simp only [Array.toArray_toList] at f1;rw [f1]
   rfl
 ·cases h
theorem aA4{sz:Nat}: ∀{css:List (List Value)}{i:Nat}{c:List Value},(∀x∈css,x.length=sz)→c.length=sz→i<css.length→
  (css.flatten.take (i*sz)++c++css.flatten.drop (i*sz+c.length))=(css.set i c).flatten
 | [],i,c,_,_,hi=>by simp at hi
 |x::css,0,c,hx,hc,_=>by
  have:x.length=sz:=hx x (by simp);simp only [Nat.zero_mul,List.take_zero,List.nil_append,Nat.zero_add,List.set_cons_zero,List.flatten_cons,hc];rw [List.drop_append_of_le_length (by omega),List.drop_of_length_le (by omega),List.nil_append]
 |x::css,i+1,c,hx,hc,hi=>by
  have h1:x.length=sz:=hx x (by simp);have ih:=aA4 (css:=css) (i:=i) (c:=c) (fun y hy=>hx y (by simp [hy])) hc (by simpa using hi);simp only [List.set_cons_succ,List.flatten_cons];rw [←ih,Nat.add_mul,Nat.one_mul,←h1,Nat.add_comm (i*x.length) x.length,List.take_length_add_append,Nat.add_assoc,List.drop_length_add_append];simp only [List.append_assoc]
theorem aGw{sz:Nat}: ∀{ps:List (Nat×AV)}{qs:List (Nat×Value)}{xs xs':List AV}{css:List (List Value)},
  tH xs ps=some xs'→ps.length=qs.length→
  (∀(i:Nat)(p:Nat×AV)(q:Nat×Value),ps[i]?=some p→qs[i]?=some q→q.1=p.1∧R G (.c p.2 q.2.cells.toList)∧q.2.cells.size=sz)→
  xs.length=css.length→(∀x∈css,x.length=sz)→(∀(i:Nat)(a:AV),xs[i]?=some a→ ∃vs,css[i]?=some vs∧R G (.c a vs)∧vs.length=sz)→
  ∃css':List (List Value),Instr.fill (fun i=>some (i*sz,sz)) css.flatten.toArray qs=some css'.flatten.toArray∧xs'.length=css'.length∧(∀x∈css',x.length=sz)∧(∀(i:Nat)(a:AV),xs'[i]?=some a→ ∃vs,css'[i]?=some vs∧R G (.c a vs)∧vs.length=sz)
 | [],[],xs,xs',css,h,_,_,hl,hs,hr=>by simp [tH] at h;subst h;exact⟨css,rfl,hl,hs,hr⟩
 | [],_::_,_,_,_,_,hl,_,_,_,_=>by simp at hl
 |_::_,[],_,_,_,_,hl,_,_,_,_=>by simp at hl
 |(i,a)::ps,(j,x)::qs,xs,xs',css,h,hl,hp,hlen,hs,hr=>by
  obtain⟨h1,h2,h3⟩:=hp 0 _ _ rfl rfl;simp only at h1 h2 h3;subst h1;simp only [tH] at h;split at h
  ·rename_i hi;have hi':j<css.length:=by omega
   have hfl:css.flatten.length=css.length*sz:=by
    clear hr hp h hlen hi hi'
    induction css with
    |nil=>simp
    |cons y ys ih=>simp [ih (fun z hz=>hs z (by simp [hz])),hs y (by simp),Nat.add_mul];omega
   have hbd:j*sz+x.cells.size≤css.flatten.length:=by
    rw [hfl,h3];have:=Nat.mul_le_mul_right sz (show j+1≤css.length by omega);rw [Nat.add_mul,Nat.one_mul] at this;exact this
   have hxl:x.cells.toList.length=sz:=by simpa using h3
   obtain⟨css',f1,f2,f3,f4⟩:=aGw (ps:=ps) (qs:=qs) (css:=css.set j x.cells.toList) h (by simpa using hl) (fun i p q hp1 hq1=>hp (i+1) p q (by simpa using hp1) (by simpa using hq1)) (by simpa using hlen)
    (fun y hy=>by rcases List.mem_or_eq_of_mem_set hy with hy|rfl;exact hs y hy;exact hxl)
    (fun k b hb=>by
     rw [List.getElem?_set] at hb;by_cases e:j=k
     ·subst e;rw [if_pos rfl,if_pos hi] at hb;cases hb;exact⟨x.cells.toList,by rw [List.getElem?_set_self hi'],h2,hxl⟩
     ·rw [if_neg e] at hb;obtain⟨vs,g1,g2,g3⟩:=hr k b hb;exact⟨vs,by rw [List.getElem?_set_ne e];exact g1,g2,g3⟩)
   refine⟨css',?_,f2,f3,f4⟩;simp only [Instr.fill];rw [if_neg (fun hor=>by
    simp only [ne_eq,Bool.or_eq_true,decide_eq_true_eq] at hor;rcases hor with hq|hq
    ·exact hq h3
    ·have h9:(css.flatten.toArray).size=css.flatten.length:=by simp only [List.size_toArray]
     rw [h9] at hq;exact absurd hbd (Nat.not_le.2 hq))]
   rw [←f1]
   congr 1
   apply Array.toList_inj.1;rw [aFE x css.flatten.toArray (j*sz) (by simpa using hbd)];have:=aA4 (css:=css) (i:=j) (c:=x.cells.toList) hs hxl hi';simpa using this
  ·cases h
theorem aBN(z:List Value): ∀n,((Array.range (n*z.length)).map (fun i=>z.toArray[i%z.toArray.size]!)).toList=(List.replicate n z).flatten:=by
 intro n
 induction n with
 |zero=>simp
 |succ n ih=>
  rw [List.replicate_succ',List.flatten_append,←ih,Nat.add_mul,Nat.one_mul];simp only [Array.toList_map,Array.toList_range,List.size_toArray,List.flatten_cons,List.flatten_nil,List.append_nil];rw [List.range_add,List.map_append,List.map_map]
  congr 1
  apply List.ext_getElem
  ·simp
  ·intro i h1 h2;simp at h1;simp [Nat.mul_add_mod_self_right,Nat.mod_eq_of_lt h1,h1]
theorem aDS(hO:Opn P' env G ρ): ∀{ps:List (Nat×Operand)}{qs:List (Nat×aJ)},aAl ps=some qs→
  qs.map (·.1)=ps.map (·.1)∧R G (.l (qs.map fun p=>evO P' env p.2) (ps.map fun p=>ρ p.2))
 | [],qs,h=>by simp [aAl] at h;subst h;exact⟨rfl,.rE⟩
 |(i,x)::ps,qs,h=>by
  simp only [aAl] at h;split at h
  ·rename_i y ys h2 h3;cases h;obtain⟨k1,k2⟩:=aDS hO h3;exact⟨by simp [k1],.fR (hO.out _ _ h2) k2⟩
  ·cases h
theorem aAQ: ∀{a_ as':List AV}{xs:List Value},dL a_=some as'→R G (.l a_ xs)→ ∀(i:Nat)(a:AV)(x:Value),as'[i]?=some a→xs[i]?=some x→R G (.c a x.cells.toList)
 | [],as',xs,h,r,i,a,x,ha,hx=>by simp [dL] at h;subst h;simp at ha
 |b::a_,as',xs,h,r,i,a,x,ha,hx=>by
  cases r with
  |fR r1 r3=>
   simp only [dL] at h;split at h
   ·cases h
   ·rename_i y hy;split at h
    ·cases h
    ·rename_i ys hys;cases h;cases i with
     |zero=>simp at ha hx;subst ha;subst hx;exact(o0 hy r1).2
     |succ i=>exact aAQ hys r3 i a x (by simpa using ha) (by simpa using hx)
theorem aLO(hI:Inv P B G s w)(hO:Opn P' env G ρ){t e:TypeId}{len:Nat}{parts:Array (Nat×Operand)}{z:List AV}{qs:List (Nat×aJ)}(hu:P.underlying t=some (.slice e))(hz:zeroOf P e=some z)(hzl:z.length=P.cellsOf e)(hz0:0<z.length)
(hp:aAl parts.toList=some qs){v:AV}
(h:(match(generalizing:=false) dL (qs.map fun p=>evO P' env p.2) with
  |some vs=>
   if vs.all (fun v=>(cellsOf v).length==P.cellsOf e)&&decide (len*P.cellsOf e≤16777216) then
    (match tH (List.replicate len (elemOf (P.cellsOf e) z)) ((qs.map (·.1)).zip vs) with
    |some xs=>some (AV.slice (P.cellsOf e) xs .full)
    |none=>none)
   else none
  |none=>none)=some v):lO P G w (Instr.buildSlice t len (parts.map fun(x:Nat×Operand)=>(x.1,ρ x.2))) v:=by
 split at h
 ·rename_i vs hvs;split at h
  ·rename_i hc;split at h
   ·rename_i xs hxs;cases h;simp only [Bool.and_eq_true,decide_eq_true_eq,List.all_eq_true,beq_iff_eq] at hc;obtain⟨c1,c2⟩:=hc;obtain⟨i,zv,hi,hzv,rz⟩:=oG (G:=G) hz;obtain⟨k1,k2⟩:=aDS hO hp;have hvl:vs.length=qs.length:=by
     have h1:=(rM hvs k2).zO;have h2:=congrArg List.length k1;simp at h1 h2;omega
    have hql:qs.length=parts.toList.length:=by simpa using congrArg List.length k1
    generalize hsz:P.cellsOf e=sz at*;have hzvl:zv.cells.toList.length=sz:=by rw [←rz.jP];exact hzl
    have hisz:i.size=sz:=by rw [←hsz];simp [Program.cellsOf,hi]
    have rel: ∀zl,R G (.k z zl)→R G (.c (elemOf sz z) zl):=by
     intro zl rz;unfold elemOf;split
     ·cases rz with
      |gN=>simp at hz0
      |cJ r1 r2 r3=>
       rename_i a x a_ ys;have:a_.length=0:=by simp at hzl;exact List.length_eq_zero_iff.2 hzl
       have:a_= []:=List.eq_nil_of_length_eq_zero this;subst this;cases r3;exact .vO (yO r1 r2) r2 r1
     ·exact .tQ rz
    obtain⟨css',f1,f2,f3,f4⟩:=aGw (G:=G) (sz:=sz) (qs:=parts.toList.map fun(x:Nat×Operand)=>(x.1,ρ x.2)) (css:=List.replicate len zv.cells.toList) hxs (by simp [hvl,hql])
     (fun j p q hp1 hq1=>by
      rw [List.getElem?_zip_eq_some] at hp1;obtain⟨p1,p2⟩:=hp1;have hq2:=hq1;simp only [List.getElem?_map,Option.map_eq_some_iff] at hq1;obtain⟨pt,hq3,rfl⟩:=hq1;have e1:p.1=pt.1:=by
       have:=congrArg (fun l=>l[j]?) k1;simp only [List.getElem?_map] at this p1;rw [p1,hq3] at this;simpa using this
      have e2:(parts.toList.map fun p=>ρ p.2)[j]?=some (ρ pt.2):=by simp [hq3]
      have rc:=aAQ hvs k2 j p.2 _ p2 e2;refine⟨e1.symm,rc,?_⟩;have:=c1 p.2 (List.mem_of_getElem? p2);rw [rc.aCw] at this;simpa using this)
     (by simp) (fun x hx=>by rw [List.eq_of_mem_replicate hx];exact hzvl) (fun j a ha=>by
      have ha':=List.eq_of_mem_replicate (List.mem_of_getElem? ha);have hj:j<len:=by simpa using (List.getElem?_eq_some_iff.1 ha).1
      subst ha';exact⟨_,by simp [hj],rel _ rz,hzvl⟩)
    have hlen:xs.length=len:=by
     have: ∀{ps:List (Nat×AV)}{a_ bs:List AV},tH a_ ps=some bs→bs.length=a_.length:=by
      intro ps
      induction ps with
      |nil=>intro a_ bs h;simp [tH] at h;rw [h]
      |cons p ps ih=>intro a_ bs h;simp only [tH] at h;split at h;rw [ih h];simp;cases h
     rw [this hxs];simp
    have hzs:(0:Nat)<sz:=by omega
    refine⟨.slice (some ⟨w.heap.size,0,none⟩) len len,w.alloc (.cells css'.flatten.toArray e),G.kL w.heap.size 0 css'.flatten.length css'.flatten,?_,?_,?_⟩
    ·by_cases hl0:len=0
     ·subst hl0;have hxe:css'= []:=List.eq_nil_of_length_eq_zero (by omega);subst hxe;have hf:Instr.fill (fun i=>some (i*sz,sz)) (#[]:Array Value) ((parts.toList.map fun(x:Nat×Operand)=>(x.1,ρ x.2)))=some #[]:=by simpa using f1
      have e0:Array.map (fun(_:Nat)=>(default:Value)) (Array.range 0)= #[]:=by simp [Array.range]
      simp [Instr.buildSlice,run_underlying hu,jV hi,hsz,newRow];rw [e0,hf];simp
     ·have hpos: ¬(len*sz=0):=by
       intro h0;rcases Nat.mul_eq_zero.1 h0 with h|h<;>omega
      have hbig: ¬(len*sz>2^24):=by omega
      have hf:Instr.fill (fun i=>some (i*sz,sz)) ((Array.range (len*sz)).map (zv.cells[· %zv.cells.size]!)) ((parts.toList.map fun(x:Nat×Operand)=>(x.1,ρ x.2)))=some css'.flatten.toArray:=by
       rw [←f1]
       congr 1
       apply Array.toList_inj.1;have:=aBN zv.cells.toList len;rw [hzvl] at this;simpa using this
      simp [Instr.buildSlice,run_underlying hu,jV hi,hsz,hpos,hbig,dM hi hzv,hf,newRow]
    ·exact hI.aIY css'.flatten e (0,0) css'.flatten.length
    ·have hle:=hI.pC css'.flatten.length css'.flatten;have hr:R (G.kL w.heap.size 0 css'.flatten.length css'.flatten) (.r sz xs w.heap.size 0):=R.aRO (cs:=css') (fun j a ha=>by
       obtain⟨vs,g1,g2,g3⟩:=f4 j a ha;exact⟨vs,g1,g2.mono hle,g3⟩) f2 (fun j y hy=>by
       have hj:j<css'.flatten.length:=(List.getElem?_eq_some_iff.1 hy).1;rw [Nat.zero_add,nH (Nat.zero_le _) hj];exact hy)
     have hm:len≤maxLen:=by
      have:len*1≤len*sz:=Nat.mul_le_mul_left _ hzs;simp only [maxLen];omega
     have:=R.dA (o:= .full) (c:=len) (by omega) hm hr (by simp [n7,hlen]);rw [hlen] at this;exact this
   ·cases h
  ·cases h
 ·cases h
end
section
variable {P : Program} {B : Bs} {G : Gh} {s : ASt} {w : World} {P' : aS} {env : Env} {ρ : Operand → Value}
theorem aGJ(hI:Inv P B G s w){mx:Bool}{a b v:AV}{x y:Value}(ra:R G (.v a x))(rb:R G (.v b y))(ts:Array TypeId)(ty:TypeId)
(h:(match(generalizing:=false) a,b with
  | .int k a,.int k' b=>if k=k' then some (AV.int k (match mx with|true=>max a b|false=>min a b)) else none
  |_,_=>none)=some v):lO P G w (match mx with|true=>Builtin.max_ ts ty #[x,y]|false=>Builtin.min_ ts ty #[x,y]) v:=by
 cases ra with
 |int hk=>
  cases rb with
  |int hk'=>
   rename_i k n k' m;by_cases e:k=k'
   ·subst e;simp only [if_true,Option.some.injEq] at h;subst h;cases mx with
    |true=>
     refine .of hI (x:= .int k (max n m)) ?_ (.int ?_)
     ·simp [Builtin.max_,Builtin.max2];omega
     ·rcases Int.le_total n m with h|h
      ·rw [Int.max_eq_right h];exact hk'
      ·rw [Int.max_eq_left h];exact hk
    |false=>
     refine .of hI (x:= .int k (min n m)) ?_ (.int ?_)
     ·simp [Builtin.min_,Builtin.min2];omega
     ·rcases Int.le_total n m with h|h
      ·rw [Int.min_eq_left h];exact hk
      ·rw [Int.min_eq_right h];exact hk'
   ·simp [e] at h
  |_=>simp at h
 |_=>simp at h
theorem lO.lift{m:Sem Value}{v:AV}(h:lO P G w m v): ∃x w' G',((do pure (Next.value (←m))):Sem Next).run P w= .ok (.value x) w'∧uS G w G' w'∧R G' (.v v x):=by
 obtain⟨x,w',G',h1,h2,h3⟩:=h;exact⟨x,w',G',by simp [h1],h2,h3⟩
theorem aBD{neg:Bool}{t:TypeId}{p q:Operand}{x y:Value}{r:Bool}(hn:aCl x y=true)(hg: ∀op,(eqGuard op t p q x y).run P w= .ok () w)(h:(Op.equal t x y).run P w= .ok r w):
  ((do eqGuard (if neg then BinOp.neq else .eql) t p q x y;binOp (if neg then BinOp.neq else .eql) t x y):Sem Value).run P w= .ok (.bool (match neg with|true=> !r|false=>r)) w:=by
 cases neg with
 |true=>simp only [if_true,Sem.run_bind,hg,Result.andThen_ok,(binOp_eql hn).2,h];rfl
 |false=>simp only [Bool.false_eq_true,if_false,Sem.run_bind,hg,Result.andThen_ok,(binOp_eql hn).1,h];rfl
theorem aJe{k:NK}{x:Operand}(h:aEo k x=true): ∃c,x= .const c∧(aJa k c):=by
 unfold aEo at h;split at h<;>first|exact⟨_,rfl,rfl⟩|exact⟨_,rfl,_,_,rfl⟩|cases h
theorem xF{t:TypeId}{p q:Operand}{x y:Value}(hx: ∀a b,¬(x= .agg a∧y= .agg b))(hc:(∃c,p= .const c)∨(∃c,q= .const c))(op:BinOp):(eqGuard op t p q x y).run P w= .ok () w:=by
 cases op<;>first
  |rfl
  |(cases x<;>cases y<;>first
   |rfl
   |(exact absurd ⟨rfl,rfl⟩ (hx _ _))
   |(rcases hc with ⟨c,rfl⟩|⟨c,rfl⟩<;>simp [eqGuard]))
theorem aNV(hI:Inv P B G s w){neg:Bool}{t:TypeId}{x y:Operand}{a b:aJ}(hO:Opn P' env G ρ)(hc: ∀v,(ρ (.const v))=v)(ha:cT x=some a)(hb:cT y=some b){u:TypeDesc}(hu:P.underlying t=some u){k:NK}{aop:AOp}
(hku:sX k u)
(hk:jX neg k x y a b=some aop){v:AV}(h:bJ P' env aop=some v):
  lO P G w (do eqGuard (if neg then BinOp.neq else .eql) t x y (ρ x) (ρ y);binOp (if neg then BinOp.neq else .eql) t (ρ x) (ρ y)) v:=by
 have notAgg: ∀c,(aJa k c)→(∀z,aCl c z=true∧aCl z c=true)∧ ∀a,c≠Value.agg a:=by
  intro c hcc;cases k with
  |slice=>obtain⟨l,d,rfl⟩:=hcc;exact⟨fun z=>by cases z<;>exact⟨rfl,rfl⟩,fun _ h=>by cases h⟩
  |_=>cases hcc;exact⟨fun z=>by cases z<;>exact⟨rfl,rfl⟩,fun _ h=>by cases h⟩
 unfold jX at hk;split at hk
 ·rename_i h1;cases hk;obtain⟨c,rfl,hcc⟩:=aJe h1;simp only [bJ] at h;split at h
  ·rename_i r hr;cases h;obtain⟨n2,n3⟩:=notAgg c hcc;have he:=(aFb (P:=P) (w:=w) hu (hO.out _ _ hb) hr 9999 ⟨hku,hcc⟩).2;rw [hc];exact .of hI (aBD (n2 _).1 (xF (fun a b h=>n3 _ h.1) (.inl ⟨_,rfl⟩)) he) (.bool _)
  ·cases h
 ·rename_i h1 h2;cases hk;obtain⟨c,rfl,hcc⟩:=aJe h2;simp only [bJ] at h;split at h
  ·rename_i r hr;cases h;obtain⟨n2,n3⟩:=notAgg c hcc;have he:=(aFb (P:=P) (w:=w) hu (hO.out _ _ ha) hr 9999 ⟨hku,hcc⟩).1;rw [hc];exact .of hI (aBD (n2 _).2 (xF (fun a b h=>n3 _ h.2) (.inr ⟨_,rfl⟩)) he) (.bool _)
  ·cases h
 ·cases hk
theorem aKI(hI:Inv P B G s w){neg:Bool}{t:TypeId}{x y:Operand}{a b:AV}{xa xb:Value}(ra:R G (.v a xa))(rb:R G (.v b xb))(hu:P.underlying t=some .bool){v:AV}
(h:(match(generalizing:=false) eqA a b with|some r=>some (AV.bool (match neg with|true=> !r|false=>r))|none=>none)=some v):
  lO P G w (do eqGuard (if neg then BinOp.neq else .eql) t x y xa xb;binOp (if neg then BinOp.neq else .eql) t xa xb) v:=by
 split at h
 ·rename_i r hr;cases h;have hg: ∀{p q:Value},(∀a b,¬(p=Value.agg a∧q= .agg b))→(p≠ .nilIface)→ ∀op,(eqGuard op t x y p q).run P w= .ok () w:=by
   intro p q h1 h2 op;cases op<;>first
    |rfl
    |(cases p<;>cases q<;>first
     |rfl
     |(exact absurd ⟨rfl,rfl⟩ (h1 _ _))
     |(exact absurd rfl h2))
  rcases aIa hr ra rb with ⟨k,n,m,rfl,rfl,rfl⟩|⟨p,q,rfl,rfl,rfl⟩|⟨p,q,rfl,rfl,rfl⟩
  ·refine .of hI (x:= .bool (match neg with|true=> !(n==m)|false=>(n==m))) ?_ (.bool _);simp only [Sem.run_bind,hg (p:= .int k n) (q:= .int k m) (fun a b h=>by cases h.1) (by simp),Result.andThen_ok];cases neg<;>simp [binOp,Op.intCmp]<;>rfl
  ·exact .of hI (aBD rfl (hg (fun a b h=>by cases h.1) (by simp)) (by rw [aCt];exact aD6 hu _ _ _)) (.bool _)
  ·refine .of hI (x:= .bool (match neg with|true=> !(p.data.toList==q.data.toList)|false=>(p.data.toList==q.data.toList))) ?_ (.bool _);simp only [Sem.run_bind,hg (p:= .string p) (q:= .string q) (fun a b h=>by cases h.1) (by simp),Result.andThen_ok];cases neg<;>simp [binOp,Op.stringOp,aMy]
 ·cases h
theorem aG9{e:TypeId}(he:P.plainKey e=true){xs:Array Value}{off:Nat}{v:Value}{r:List Value}(h:xs.toList.drop off=v::r):(part e xs off).run P w= .ok v w:=
 run_part_plain w he (by
  have:=congrArg (·[0]?) h;simpa using this)
theorem drop_tail{α:Type}{l:List α}{n:Nat}{x:α}{r:List α}(h:l.drop n=x::r):l.drop (n+1)=r:=by
 rw [←List.drop_drop,h];rfl
theorem aJq{xs ys:Array Value}(d:Nat): ∀(fs:List Field)(off:Nat){ks:List KK}{a_ bs:List AV}{r:Bool},vA P off fs=some ks→R G (.k a_ (xs.toList.drop off))→R G (.k bs (ys.toList.drop off))→rV ks a_ bs=some r→
  (Op.eqFields (d+1) xs ys fs).run P w= .ok r w
 | [],off,ks,a_,bs,r,hk,ha,hb,h=>by
  simp only [vA,Option.some.injEq] at hk;subst hk;cases a_ with
  |cons=>simp [rV] at h
  |nil=>
   cases bs with
   |cons=>simp [rV] at h
   |nil=>simp [rV] at h;subst h;simp [Op.eqFields]
 |f::fs,off,ks,a_,bs,r,hk,ha,hb,h=>by
  have fin: ∀{ks':List KK}{as' bs':List AV}{x y:Value}{xr yr:List Value}{r1 r2:Bool},(f.name != "_" &&f.offset==off)=true→vA P (off+1) fs=some ks'→P.plainKey f.type=true→xs.toList.drop off=x::xr→ys.toList.drop off=y::yr→
    R G (.k as' xr)→R G (.k bs' yr)→rV ks' as' bs'=some r2→(Op.equalIn (d+1) f.type x y).run P w= .ok r1 w→(Op.eqFields (d+1) xs ys (f::fs)).run P w= .ok (r1&&r2) w:=by
   intro ks' as' bs' x y xr yr r1 r2 hn hks hpl hx hy ha' hb' hf he;simp only [Bool.and_eq_true,bne_iff_ne,ne_eq,beq_iff_eq] at hn;have hrec:=aJq d fs (off+1) (xs:=xs) (ys:=ys) hks (by rw [drop_tail hx];exact ha') (by rw [drop_tail hy];exact hb') hf;have hof:=hn.2;simp only [Op.eqFields,hn.1,ne_eq,not_false_eq_true,if_true,Sem.run_bind,hof,aG9 hpl hx,aG9 hpl hy,he,Result.andThen_ok];cases r1 with
   |false=>simp
   |true=>simpa using hrec
  simp only [vA] at hk;split at hk
  ·rename_i hn hu hks;cases hk;unfold rV at h;split at h<;>first|(cases h;done)|skip
   all_goals (first|(simp at*;done)|skip)
   rename_i e3;cases e3;split at h
   ·rename_i r2 hr2;cases h;generalize hx:xs.toList.drop off=lx at ha;generalize hy:ys.toList.drop off=ly at hb;cases ha with
    |cJ hv1 h11 ht1=>
     cases hb with
     |cJ hv2 h12 ht2=>
      cases hv1;cases hv2;exact fin hn hks (by simp [Program.plainKey,hu]) hx hy ht1 ht2 hr2 (aD6 hu d _ _)
   ·cases h
  ·rename_i hn hu hks;cases hk;unfold rV at h;split at h<;>first|(cases h;done)|skip
   all_goals (first|(simp at*;done)|skip)
   rename_i e3;cases e3;split at h
   ·rename_i hkk;subst hkk;split at h
    ·rename_i r2 hr2;cases h;generalize hx:xs.toList.drop off=lx at ha;generalize hy:ys.toList.drop off=ly at hb;cases ha with
     |cJ hv1 h11 ht1=>
      cases hb with
      |cJ hv2 h12 ht2=>
       cases hv1;cases hv2;exact fin hn hks (by simp [Program.plainKey,hu]) hx hy ht1 ht2 hr2 (aML hu d _ _ _)
    ·cases h
   ·cases h
  ·rename_i hn hu hks;cases hk;unfold rV at h;split at h<;>first|(cases h;done)|skip
   all_goals (first|(simp at*;done)|skip)
   rename_i e3;cases e3;split at h
   ·rename_i r2 hr2;cases h;generalize hx:xs.toList.drop off=lx at ha;generalize hy:ys.toList.drop off=ly at hb;cases ha with
    |cJ hv1 h11 ht1=>
     cases hb with
     |cJ hv2 h12 ht2=>
      cases hv1;cases hv2;exact fin hn hks (by simp [Program.plainKey,hu]) hx hy ht1 ht2 hr2 (aNq hu d _ _)
   ·cases h
  ·cases hk
theorem aFs(hI:Inv P B G s w){neg:Bool}{t:TypeId}{x y:Operand}{a b:AV}{xa xb:Value}(ra:R G (.v a xa))(rb:R G (.v b xb)){fs:Array Field}(hu:P.underlying t=some (.struct fs))(hst:P.stoodInHeld t=false)(hgt:P.eqGuardType P.depth t=false)
{ks:List KK}(hks:vA P 0 fs.toList=some ks){v:AV}
(h:(match(generalizing:=false) a,b with
  | .agg xs,.agg ys=>(match rV ks xs ys with|some b=>some (AV.bool (match neg with|true=> !b|false=>b))|none=>none)
  |_,_=>none)=some v):
  lO P G w (do eqGuard (if neg then BinOp.neq else .eql) t x y xa xb;binOp (if neg then BinOp.neq else .eql) t xa xb) v:=by
 split at h
 ·rename_i xs ys;split at h
  ·rename_i r hr;cases h;cases ra with
   | @agg _ vs ha=>
   cases rb with
   | @agg _ us hb=>
   have hfs:P.fieldsOf t=fs:=by simp [Program.fieldsOf,hu]
   have he:(Op.equal t (.agg vs.toArray) (.agg us.toArray)).run P w= .ok r w:=by
    rw [aCt,run_equalIn_struct w 9999 t _ _ (by rw [hfs];exact hu) hst,hfs];exact aJq 9998 fs.toList 0 hks (by simpa using ha) (by simpa using hb) hr
   exact .of hI (aBD rfl (fun op=>by cases op<;>first|rfl|(simp [eqGuard,hgt])) he) (.bool _)
  ·cases h
 ·cases h
end
section
variable {P : Program} {B : Bs} {G : Gh} {s : ASt} {w : World} {P' : aS} {env : Env} {ρ : Operand → Value}
theorem aIK{t:TypeId}{z:List AV}{v:Value}(hz:zeroOf P t=some z){i:TypeInfo}(hi:P.info? t=some i)(hv:i.zero=some v):(∃cs,v= .agg cs∧sS cs.toList=some z)∨(∃a,aAv v=some a∧z= [a]):=by
 unfold zeroOf at hz;simp only [hi,Option.bind_some,hv] at hz;cases v with
 |agg cs=>exact .inl ⟨cs,rfl,hz⟩
 |_=>
  simp only [Option.map_eq_some_iff] at hz;obtain⟨a,h1,h2⟩:=hz;exact .inr ⟨a,h1,h2.symm⟩
theorem zc{z:List AV}{ag:Option Bool}(h: ∀y,z= [y]→qT y=false):cellsOf (match(generalizing:=false) z with| [x]=>(match ag with|some false=>x|_=> .agg z)|_=> .agg z)=z:=by
 split
 ·rename_i y;have:=h y rfl;split
  ·cases y<;>first|rfl|(simp [qT] at this)
  ·rfl
 ·rfl
theorem zc'{z:List AV}{ag:Option Bool}{vs:List Value}(hr:R G (.k z vs))(h: ∀y,z= [y]→qT y=false):R G (.k (cellsOf (match(generalizing:=false) z with| [x]=>(match ag with|some false=>x|_=> .agg z)|_=> .agg z)) vs):=by
 rw [zc h];exact hr
theorem aII{vs:List Value}{z:List AV}(h:sS vs=some z): ∀y,z= [y]→qT y=false:=by
 intro y hy;subst hy;cases vs with
 |nil=>simp [sS] at h
 |cons q qs=>
  simp only [sS] at h;split at h
  ·rename_i p ps e1 e2;cases h;exact(tF (G:=⟨fun _ _=>none,fun _=>none,fun _ _=>none⟩) e1).2.2
  ·cases h
theorem aGO{t:TypeId}{z:AV}(h:zeroV P t=some z): ∃i v,P.info? t=some i∧i.zero=some v∧R G (.v z v):=by
 unfold zeroV at h;cases hi:P.info? t with
 |none=>simp [hi] at h
 |some i=>
  simp only [hi,Option.bind_some] at h;cases hz:i.zero with
  |none=>simp [hz] at h
  |some v=>simp only [hz] at h;exact⟨i,v,rfl,hz,aFx h⟩
theorem aCV{a a':AV}(h:gP a=some a'): ∀vs:List Value,R G (.k (cellsOf a) vs)→R G (.k (cellsOf a') vs):=by
 intro vs r;unfold gP at h;split at h
 ·split at h
  ·rename_i ds hd;cases h;exact aEw hd r
  ·cases h
 ·rename_i hna;have ha:cellsOf a= [a]:=by cases a<;>first|rfl|(exact absurd rfl (hna _))
  rw [ha] at r;cases r with
  |cJ r1 r2 r3=>
   cases r3;obtain⟨k1,k2,k3⟩:=aEK h r1;have hb:cellsOf a'= [a']:=by cases a'<;>first|rfl|(simp [qT] at k3)
   rw [hb];exact .cJ k1 k2 .gN
theorem R.aL4{a:AV}{vs:List Value}(r:R G (.k (cellsOf a) vs)):R G (.c a vs):=by
 cases a with
 |agg cs=>exact .tQ r
 |_=>cases r with|cJ r1 r2 r3=>cases r3;exact .vO rfl r2 r1
theorem aQh(hI:Inv P B G s w){a:AV}(t:TypeId){x:Value}(r:R G (.k (cellsOf a) x.cells.toList)):
  lO P G w (do pure (.pointer (some (←newVar t x)))) (.aF a 0):=by
 refine⟨.pointer (some ⟨w.heap.size,0,none⟩),w.alloc (.cells x.cells t),G.kL w.heap.size 0 x.cells.toList.length x.cells.toList,?_,?_,?_⟩
 ·simp [newVar,newRow]
 ·have:=hI.aIY x.cells.toList t (0,0) x.cells.toList.length;simpa using this
 ·have hle:=hI.pC x.cells.toList.length x.cells.toList;have:=R.aF (G:=G.kL w.heap.size 0 x.cells.toList.length x.cells.toList) (b:=w.heap.size) (o:=0) 0 (R.aL4 (r.mono hle)) (fun j y hy=>by
   have hj:j<x.cells.toList.length:=by
    rcases Nat.lt_or_ge j x.cells.toList.length with h|h
    ·exact h
    ·rw [List.getElem?_eq_none h] at hy;cases hy
   rw [Nat.zero_add,nH (Nat.zero_le _) hj];exact hy)
  simpa using this
def lC(P:Program)(G:Gh)(w:World)(m:Sem Next)(v:AV):Prop:= ∃x w' G',m.run P w= .ok (.value x) w'∧uS G w G' w'∧R G' (.v v x)
theorem aNB(hI:Inv P B G s w)(hO:Opn P' env G ρ)(hc: ∀v,ρ (.const v)=v){h:Hint}{o:Oper}{aop:AOp}(hk:cC P h o.dst o.op=some aop){v:AV}(hv:bJ P' env aop=some v):
  lC P G w (execOp ρ o) v:=by
 unfold cC at hk;split at hk
 ·rename_i x ho;simp only [Option.map_eq_some_iff] at hk;obtain⟨a,h1,rfl⟩:=hk;simp [bJ] at hv;subst hv;exact⟨_,w,G,by simp [execOp,ho],hI.quiet,hO.out _ _ h1⟩
 ·rename_i x ho;simp only [Option.map_eq_some_iff] at hk;obtain⟨a,h1,rfl⟩:=hk;simp [bJ] at hv;subst hv;exact⟨_,w,G,by simp [execOp,ho],hI.quiet,hO.out _ _ h1⟩
 ·rename_i c a b ho;split at hk
  ·rename_i c' a' b' h1 h2 h3;cases hk;simp only [bJ] at hv;have hcc:=hO.out _ _ h1;generalize evO P' env c'=C at hcc hv;have:=aRh hI hcc (hO.out _ _ h2) (hO.out _ _ h3) hv;obtain⟨x,w',G',q1,q2,q3⟩:=this;refine⟨x,w',G',?_,q2,q3⟩;simp only [execOp,ho,Sem.run_bind,Sem.run_pure] at q1⊢
   revert q1
   cases (asBool (ρ c)).run P w<;>simp [Result.andThen]<;>(intro h;first|exact h|simp_all)
  ·cases hk
 ·rename_i t ho;split at hk
  ·rename_i z hz;obtain⟨i,zv,hi,hzv,hr⟩:=oG (G:=G) hz;split at hk
   ·cases hk;simp [bJ] at hv
   ·split at hk
    ·cases hk;simp only [bJ] at hv;split at hv
     ·rename_i a' ha';cases hv;have hcell:R G (.k (cellsOf a') zv.cells.toList):=by
       refine aCV ha' _ ?_;refine zc' hr ?_;rcases aIK hz hi hzv with ⟨cs,_,h2⟩|⟨a,h1,h2⟩
       ·exact aII h2
       ·intro y hy;rw [h2] at hy;cases hy;exact(tF (G:=G) h1).2.2
      obtain⟨x,w',G',q1,q2,q3⟩:=aQh hI t hcell;refine⟨x,w',G',?_,q2,q3⟩;simp only [execOp,ho,Instr.alloc,Sem.run_bind,dM hi hzv,Result.andThen_ok] at q1⊢
      revert q1
      cases (newVar t zv).run P w<;>simp [Result.andThen]<;>(intro h;first|exact h|simp_all)
     ·cases hv
    ·cases hk;simp [bJ] at hv
  ·cases hk
 ·rename_i t x ho;split at hk
  ·rename_i x' h1;cases hk;split at hv
   ·simp only [bJ] at hv;simpa [execOp,ho,lC] using (aQF hI (hO.out _ _ h1) t hv).lift
   ·simp [bJ] at hv
  ·cases hk
 ·rename_i t parts ho;split at hk
  ·rename_i z fs hz hu;split at hk
   ·rename_i hall;simp only [Option.map_eq_some_iff] at hk;obtain⟨qs,h1,rfl⟩:=hk;simp only [bJ] at hv;simpa [execOp,ho,lC] using (aJX hI hO hz (.inl ⟨fs,hu,hall,h1⟩) hv).lift
   ·cases hk
  ·rename_i z n e hz hu;split at hk
   ·rename_i hall;simp only [Option.map_eq_some_iff] at hk;obtain⟨qs,h1,rfl⟩:=hk;simp only [bJ] at hv;simpa [execOp,ho,lC] using (aJX hI hO hz (.inr ⟨n,e,hu,hall,h1⟩) hv).lift
   ·cases hk
  ·cases hk
 ·rename_i t n parts ho;split at hk
  ·rename_i e hu;split at hk
   ·rename_i z ps hz hp;split at hk
    ·rename_i hcond;cases hk;simp only [bJ] at hv;simpa [execOp,ho,lC] using (aLO hI hO hu hz hcond.1 hcond.2 hp hv).lift
    ·cases hk
   ·cases hk
  ·cases hk
 ·split at hk
  ·cases hk;simp [bJ] at hv
  ·cases hk
 ·rename_i t a x ho;split at hk
  ·rename_i a' x' h1 h2;cases hk;split at hv
   ·split at hv<;>simp [bJ] at hv
   ·simp [bJ] at hv
  ·cases hk
 ·rename_i x ho;simp only [Option.map_eq_some_iff] at hk;obtain⟨a,h1,rfl⟩:=hk;simp only [bJ] at hv;exact aNP hI (hO.out _ _ h1) o x ho rfl hv
 ·rename_i op t x y r ho;split at hk
  ·rename_i a b h1 h2;have hbin: ∀{aop:AOp},aop= .bin op a b→bJ P' env aop=some v→lC P G w (execOp ρ o) v:=by
    intro aop e hv;subst e;simp only [bJ] at hv;simpa [execOp,ho,lC] using (aRJ hI (hO.out _ _ h1) (hO.out _ _ h2) t x y hv).lift
   have hnil: ∀{neg:Bool}{k:NK}{u:TypeDesc}{aop:AOp},(op=if neg then BinOp.neq else .eql)→P.underlying t=some u→sX k u→jX neg k x y a b=some aop→bJ P' env aop=some v→lC P G w (execOp ρ o) v:=by
    intro neg k u aop e hu hku he hv;subst e;simpa [execOp,ho,lC] using (aNV hI hO hc h1 h2 hu hku he hv).lift
   have hflat: ∀{neg:Bool},(op=if neg then BinOp.neq else .eql)→P.underlying t=some .bool→bJ P' env (.eq neg a b)=some v→lC P G w (execOp ρ o) v:=by
    intro neg e hu hv;subst e;simp only [bJ] at hv;simpa [execOp,ho,lC] using (aKI hI (x:=x) (y:=y) (hO.out _ _ h1) (hO.out _ _ h2) hu hv).lift
   have hstr: ∀{neg:Bool}{fs:Array Field}{aop:AOp},(op=if neg then BinOp.neq else .eql)→P.underlying t=some (.struct fs)→(if P.stoodInHeld t||P.eqGuardType P.depth t then none else(vA P 0 fs.toList).map fun ks=>AOp.eqF neg ks a b)=some aop→bJ P' env aop=some v→lC P G w (execOp ρ o) v:=by
    intro neg fs aop e hu hk' hv';subst e;split at hk'
    ·cases hk'
    ·rename_i hcl;simp only [Bool.or_eq_true,not_or,Bool.not_eq_true] at hcl;simp only [Option.map_eq_some_iff] at hk';obtain⟨ks,hks,rfl⟩:=hk';simp only [bJ] at hv';simpa [execOp,ho,lC] using (aFs hI (x:=x) (y:=y) (hO.out _ _ h1) (hO.out _ _ h2) hu hcl.1 hcl.2 hks hv').lift
   split at hk
   ·split at hk
    ·cases hk;exact hbin rfl hv
    ·cases hk;exact hbin rfl hv
    ·rename_i hu;cases hk;exact hflat (neg:=false) rfl hu hv
    ·rename_i hu;exact hnil (neg:=false) rfl hu (by simp [sX]) hk hv
    ·rename_i hu;exact hnil (neg:=false) rfl hu (by simp [sX]) hk hv
    ·rename_i hu;exact hnil (neg:=false) rfl hu (by simp [sX]) hk hv
    ·rename_i hu;exact hnil (neg:=false) rfl hu (by simp [sX]) hk hv
    ·rename_i hu;exact hnil (neg:=false) rfl hu (by simp [sX]) hk hv
    ·rename_i hu;exact hstr (neg:=false) rfl hu hk hv
    ·cases hk
   ·split at hk
    ·cases hk;exact hbin rfl hv
    ·cases hk;exact hbin rfl hv
    ·rename_i hu;cases hk;exact hflat (neg:=true) rfl hu hv
    ·rename_i hu;exact hnil (neg:=true) rfl hu (by simp [sX]) hk hv
    ·rename_i hu;exact hnil (neg:=true) rfl hu (by simp [sX]) hk hv
    ·rename_i hu;exact hnil (neg:=true) rfl hu (by simp [sX]) hk hv
    ·rename_i hu;exact hnil (neg:=true) rfl hu (by simp [sX]) hk hv
    ·rename_i hu;exact hnil (neg:=true) rfl hu (by simp [sX]) hk hv
    ·rename_i hu;exact hstr (neg:=true) rfl hu hk hv
    ·cases hk
   ·cases hk;exact hbin rfl hv
  ·cases hk
 ·rename_i op t x ho;simp only [Option.map_eq_some_iff] at hk;obtain⟨a,h1,rfl⟩:=hk;have:lO P G w (Op.unary op (ρ x)) v:=aSR hI (hO.out _ _ h1) (by cases op<;>simp only [bJ] at hv⊢ <;>first|exact hv|cases hv);simpa [execOp,ho,lC] using this.lift
 ·rename_i S T x ho;split at hk
  ·rename_i k1 k2 x' hs ht h1;cases hk;simp only [bJ] at hv;simpa [execOp,ho,lC] using (aPB hI (hO.out _ _ h1) hs ht hv).lift
  ·rename_i x' hs ht h1;cases hk;have hr:=hO.out _ _ h1;simp only [bJ] at hv;generalize evO P' env x'=C at hr hv;have key: ∃st,ρ x= .string st∧v=C:=by
    generalize ρ x=X at hr;cases hr<;>simp only [reduceCtorEq] at hv;rename_i st hst;simp [cF] at hv;exact⟨st,rfl,by rw [←hv,List.take_of_length_le (by simp)]⟩
   obtain⟨st,h3,rfl⟩:=key;refine⟨ρ x,w,G,?_,hI.quiet,hr⟩;simp [execOp,ho,convert,run_underlying hs,run_underlying ht,h3]
  ·cases hk
 ·rename_i t x ho;split at hk
  ·cases hk
  ·rename_i u x' hn hu h1;cases hk;simp only [bJ] at hv;simpa [execOp,ho,lC] using (aLa hI hu (fun m e=>hn m e) (hO.out _ _ h1) hv).lift
  ·cases hk
 ·rename_i f a b ho;split at hk
  ·rename_i a' b' h1 h2;cases hk;simp only [bJ] at hv;have:=(aNN (f:=f) hI (sV hO h1) (sV hO h2) hv).lift;have e1:(a.toList.map ρ).toArray=a.map ρ:=by rw [←Array.toList_map,Array.toArray_toList]
   have e2:(b.toList.map ρ).toArray=b.map ρ:=by rw [←Array.toList_map,Array.toArray_toList]
   rw [e1,e2] at this;simpa [execOp,ho,lC] using this
  ·cases hk
 ·cases hk;simp [bJ] at hv
 ·rename_i t l c ho;split at hk
  ·split at hk
   ·split at hk
    ·cases hk;simp [bJ] at hv
    ·cases hk
   ·cases hk
  ·cases hk
 ·rename_i t x l u m ho;split at hk
  ·rename_i e x' l' u' m' hu h1 h2 h3 h4;split at hk
   ·rename_i he;cases hk;have he': ∃d,P.underlying e=some d:=Option.isSome_iff_exists.1 he;simp only [bJ] at hv;simpa [execOp,ho,lC] using (aRd hI hO hu rfl he' (hO.out _ _ h1) hv h2 h3 h4).lift
   ·cases hk
  ·rename_i x' l' u' hu h1 h2 h3 h4;cases hk;have hm:m=none:=by cases m with|none=>rfl|some q=>simp only [pX,Option.map_eq_some_iff] at h4;obtain⟨_,_,hq⟩:=h4;cases hq
   subst hm;simp only [bJ] at hv;simpa [execOp,ho,lC] using (aNl hI hO hu (hO.out _ _ h1) h2 h3 hv).lift
  ·rename_i n e x' l' u' hu h1 h2 h3 h4;split at hk
   ·rename_i hcond;cases hk;simp at hcond;have he': ∃d,P.underlying e=some d:=Option.isSome_iff_exists.1 hcond.1;have hm:m=none:=by cases m with|none=>rfl|some q=>simp only [pX,Option.map_eq_some_iff] at h4;obtain⟨_,_,hq⟩:=h4;cases hq
    subst hm;simp only [bJ] at hv;simpa [execOp,ho,lC] using (aQi hI hO hu rfl he' hcond.2 hv (hO.out _ _ h1) h2 h3).lift
   ·cases hk
  ·cases hk
 ·rename_i S x f ho;split at hk
  ·rename_i fs x' hu h1;split at hk
   ·rename_i fd hf;split at hk
    ·cases hk
    ·rename_i hz;cases hk;simp only [bJ] at hv;simpa [execOp,ho,lC] using (aNk hI hu hf hz (hO.out _ _ h1) hv).lift
   ·cases hk
  ·cases hk
 ·rename_i S x f ho;split at hk
  ·rename_i fs x' hu h1;split at hk
   ·rename_i fd hf;simp only [Option.map_eq_some_iff] at hk;obtain⟨ag,hag,rfl⟩:=hk;simp only [bJ] at hv;simpa [execOp,ho,lC] using (aOU hI hu hf hag (hO.out _ _ h1) hv).lift
   ·cases hk
  ·cases hk
 ·rename_i t x i ho;split at hk
  ·rename_i e x' i' hu h1 h2;split at hk
   ·rename_i he;cases hk;have he': ∃d,P.underlying e=some d:=Option.isSome_iff_exists.1 he;simp only [bJ] at hv;simpa [execOp,ho,lC] using (aQt hI hu rfl he' (hO.out _ _ h1) (hO.out _ _ h2) hv).lift
   ·cases hk
  ·rename_i n e x' i' hu h1 h2;split at hk
   ·rename_i he;cases hk;have he': ∃d,P.underlying e=some d:=Option.isSome_iff_exists.1 he;simp only [bJ] at hv;simpa [execOp,ho,lC] using (aQZ hI hu rfl he' (hO.out _ _ h1) (hO.out _ _ h2) hv).lift
   ·cases hk
  ·cases hk
 ·rename_i t x i ho;split at hk
  ·rename_i x' i' hu h1 h2;cases hk;simp only [bJ] at hv;simpa [execOp,ho,lC] using (aNg hI hu (hO.out _ _ h1) (hO.out _ _ h2) hv).lift
  ·cases hk
 ·split at hk
  ·split at hk
   ·cases hk;simp [bJ] at hv
   ·cases hk
  ·cases hk
 ·split at hk
  ·simp only [Option.map_eq_some_iff] at hk;obtain⟨z,_,rfl⟩:=hk;simp [bJ] at hv
  ·cases hk
 ·split at hk
  ·simp only [Option.map_eq_some_iff] at hk;obtain⟨z,_,rfl⟩:=hk;simp [bJ] at hv
  ·cases hk
 ·split at hk
  ·cases hk;simp [bJ] at hv
  ·cases hk
 ·simp only [Option.map_eq_some_iff] at hk;obtain⟨a,_,rfl⟩:=hk;simp [bJ] at hv
 ·rename_i x xt t ok ho;split at hk
  ·cases hk
  ·rename_i u x' z hn hu h1 hz;cases hk;obtain⟨i,zv,hi,hzv,rz⟩:=aGO (G:=G) hz;simp only [bJ] at hv;simpa [execOp,ho,lC] using (aMq hI hu (fun m e=>hn m e) hi hzv rz (hO.out _ _ h1) hv).lift
  ·cases hk
 ·rename_i x i ho;simp only [Option.map_eq_some_iff] at hk;obtain⟨a,h1,rfl⟩:=hk;simp only [bJ] at hv;simpa [execOp,ho,lC] using (aK3 hI (hO.out _ _ h1) hv).lift
 ·rename_i c ho;split at hk
  ·rename_i b hb;have hcall: ∃cs,(execOp ρ o).run P w=(builtin b c.argTypes o.type cs (c.args.map ρ)).run P w:=by
    simp only [execOp,ho,resolve,hb,Sem.run_bind,Sem.run_pure,Result.andThen_ok,invoke];exact⟨_,rfl⟩
   obtain⟨cs,hcall⟩:=hcall;unfold cB at hk;split at hk
   ·cases hk;simp [bJ] at hv
   ·rename_i x hargs;have hx:c.args= #[x]:=by rw [←Array.toArray_toList (xs:=c.args),hargs]
    split at hk
    ·rename_i x' hu h1;cases hk;simp only [bJ] at hv;obtain⟨t,ht,hu⟩:=Option.bind_eq_some_iff.1 hu;have:=(aMv (ty:=o.type) hI ht hu (hO.out _ _ h1) hv).lift;unfold lC;rw [hcall,hx];simpa [builtin] using this
    ·rename_i e x' hu h1;cases hk;simp only [bJ] at hv;obtain⟨t,ht,hu⟩:=Option.bind_eq_some_iff.1 hu;have:=(aP8 (ty:=o.type) hI ht hu (hO.out _ _ h1) hv).lift;unfold lC;rw [hcall,hx];simpa [builtin] using this
    ·rename_i n e x' hu h1;split at hk
     ·rename_i hn;cases hk;simp only [bJ] at hv;cases hv;obtain⟨t,ht,hu⟩:=Option.bind_eq_some_iff.1 hu;have:=(aRg (ty:=o.type) (x:=ρ x) hI ht hu hn).lift;unfold lC;rw [hcall,hx];simpa [builtin] using this
     ·cases hk
    ·cases hk
   ·split at hk
    ·split at hk
     ·cases hk;simp [bJ] at hv
     ·cases hk
    ·cases hk
   ·split at hk
    ·split at hk
     ·cases hk;simp [bJ] at hv
     ·cases hk
    ·cases hk
   ·rename_i x y hargs;have hx:c.args= #[x,y]:=by rw [←Array.toArray_toList (xs:=c.args),hargs]
    split at hk
    ·rename_i k xs hu h1;cases hk;have hxs: ∃a b,xs= [a,b]∧cT x=some a∧cT y=some b:=by
      simp only [sD] at h1;split at h1
      ·rename_i a a_ e1 e2;split at e2
       ·rename_i b bs e3 e4;cases e4;cases e2;cases h1;exact⟨a,b,rfl,e1,e3⟩
       ·cases e2
      ·cases h1
     obtain⟨a,b,rfl,h2,h3⟩:=hxs;simp only [bJ] at hv;have:=(aGJ (mx:=true) hI (hO.out _ _ h2) (hO.out _ _ h3) c.argTypes o.type hv).lift;unfold lC;rw [hcall,hx];simpa [builtin] using this
    ·cases hk
   ·rename_i x y hargs;have hx:c.args= #[x,y]:=by rw [←Array.toArray_toList (xs:=c.args),hargs]
    split at hk
    ·rename_i k xs hu h1;cases hk;have hxs: ∃a b,xs= [a,b]∧cT x=some a∧cT y=some b:=by
      simp only [sD] at h1;split at h1
      ·rename_i a a_ e1 e2;split at e2
       ·rename_i b bs e3 e4;cases e4;cases e2;cases h1;exact⟨a,b,rfl,e1,e3⟩
       ·cases e2
      ·cases h1
     obtain⟨a,b,rfl,h2,h3⟩:=hxs;simp only [bJ] at hv;have:=(aGJ (mx:=false) hI (hO.out _ _ h2) (hO.out _ _ h3) c.argTypes o.type hv).lift;unfold lC;rw [hcall,hx];simpa [builtin] using this
    ·cases hk
   ·cases hk
  ·split at hk
   ·simp only [Option.some.injEq] at hk;split at hk
    ·cases hk;simp [bJ] at hv
    ·split at hk<;>cases hk<;>simp [bJ] at hv
   ·cases hk
  ·cases hk
 ·split at hk
  ·split at hk
   ·cases hk;simp [bJ] at hv
   ·cases hk
  ·cases hk
 ·simp only [Option.map_eq_some_iff] at hk;obtain⟨a,_,rfl⟩:=hk;simp [bJ] at hv
 ·cases hk
end
section
variable {P : Program} {B : Bs} {G : Gh} {s : ASt} {w : World} {P' : aS} {env : Env} {ρ : Operand → Value}
def aMc(kk:KK)(d:TypeDesc):Prop:=match kk with| .int=> ∃k,d= .int k| .str=>d= .string| .bool=>d= .bool
theorem aJB{t:TypeId}{kk:KK}(h:aHo P t=some kk): ∃d,P.underlying t=some d∧aMc kk d:=by
 unfold aHo at h;split at h<;>first|cases h|(simp at h;subst h)
 ·exact⟨_,by assumption,rfl⟩
 ·exact⟨_,by assumption,⟨_,rfl⟩⟩
 ·exact⟨_,by assumption,rfl⟩
theorem tO{kk:KK}{d:TypeDesc}(hd:aMc kk d){k a:AV}{xk xa:Value}(rk:R G (.v k xk))(ra:R G (.v a xa))(hk:keyOf kk k=true){r:Bool}(h:rD k a=some r):
  Instr.sameNow d xk xa=some r∧(r=true→ ∀n,Instr.sameBits n xa xk=true):=by
 rcases aIa h rk ra with ⟨j,n,m,rfl,rfl,rfl⟩|⟨p,q,rfl,rfl,rfl⟩|⟨p,q,rfl,rfl,rfl⟩
 ·cases rk with
  |lU=>simp [keyOf] at hk
  |int=>
   cases kk<;>simp [keyOf] at hk;obtain⟨k',rfl⟩:=hd;refine⟨by simp [Instr.sameNow],fun h n=> ?_⟩;simp at h;subst h;cases n<;>simp [Instr.sameBits]
 ·cases rk with
  |lU=>simp [keyOf] at hk
  |bool=>
   cases kk<;>simp [keyOf] at hk;cases hd;refine⟨by simp [Instr.sameNow],fun h n=> ?_⟩;simp at h;subst h;cases n<;>simp [Instr.sameBits]
 ·cases rk with
  |lU=>simp [keyOf] at hk
  |str=>
   cases kk<;>simp [keyOf] at hk;cases hd;refine⟨by simp [Instr.sameNow,bytes_beq],fun h n=> ?_⟩;have e:p=q:=by
    have:p.data.toList=q.data.toList:=by simpa using h
    cases p;cases q;simp at this;simpa using this
   subst e;have:(p==p)=true:=by rw [bytes_beq];simp
   cases n<;>simp [Instr.sameBits,this]
theorem aNT{kk:KK}{d:TypeDesc}(hd:aMc kk d){k:AV}{xk:Value}(rk:R G (.v k xk))(hk:keyOf kk k=true){es:List (AV×AV)}{ents:List MapEntry}(hm:s8 G es ents):
  ∀{r},pI k es=some r→ ∀i,(r=none∧Instr.findNow d xk ents i=some none)∨(∃v j x,r=some v∧Instr.findNow d xk ents i=some (some (j,x))∧R G (.v v x)):=by
 induction hm with
 |nil=>intro r h i;simp [pI] at h;exact .inl ⟨h.symm,rfl⟩
 |cons hk' hv _ ih=>
  intro r h i;simp only [pI] at h;split at h
  ·rename_i hf;cases h;obtain⟨e1,_⟩:=tO hd rk hk' hk hf;exact .inr ⟨_,i,_,rfl,by simp only [Instr.findNow,e1],hv⟩
  ·rename_i hf;obtain⟨e1,_⟩:=tO hd rk hk' hk hf;rcases ih h (i+1) with ⟨h1,h2⟩|⟨v,j,x,h1,h2,h3⟩
   ·exact .inl ⟨h1,by simp only [Instr.findNow,e1];exact h2⟩
   ·exact .inr ⟨v,j,x,h1,by simp only [Instr.findNow,e1];exact h2,h3⟩
  ·cases h
theorem run_checkKey{kk:KK}{t:TypeId}{d:TypeDesc}(hu:P.underlying t=some d)(hd:aMc kk d)(b:Bool)(x:Value):(Instr.checkKey b 10000 t x).run P w= .ok () w:=by
 show(Instr.checkKey b (9999+1) t x).run P w= .ok () w;unfold Instr.checkKey;simp only [Sem.run_bind,run_underlying hu,Result.andThen_ok];cases kk with
 |int=>obtain⟨k,rfl⟩:=hd;rfl
 |str=>cases hd;rfl
 |bool=>cases hd;rfl
theorem R.aOw{a:AV}{x:Value}(r:R G (.v a x)){l:Nat}(h:a= .map l): ∃b,x= .map (some b)∧G.L l=some b:=by
 cases r<;>cases h;exact⟨_,rfl,by assumption⟩
theorem j4{b:Nat}{o:Obj}(h:w.heap[b]?=some o)(hn: ∀c e f,o≠ .cells c e f):(getObj b).run P w= .ok o w:=by
 cases o<;>first|(simp [getObj,Sem.run,h];done)|exact absurd rfl (hn _ _ _)
theorem Inv.at(hI:Inv P B G s w){l b:Nat}(hl:G.L l=some b){k:cQ}(hk:s.blks[l]?=some k): ∃o,w.heap[b]?=some o∧m8 P G b o k:=by
 have hlt:=(hI.l _ _ hl).2.1;exact⟨w.heap[b],by simp [hlt],hI.blk l b _ k hl (by simp [hlt]) hk⟩
theorem aIB{sz:Nat}{cs:List AV}{off:Nat}{v:AV}(h:partOf true sz cs off=some v):off+sz≤cs.length∧v= .agg ((cs.drop off).take sz):=by
 unfold partOf at h;simp only at h;split at h
 ·cases h;exact⟨by assumption,rfl⟩
 ·cases h
theorem aJ5(hI:Inv P B G s w){t:TypeId}{ag:Bool}(hag:nR P t=some ag){a v:AV}{x:Value}(r:R G (.v a x))
(h:(match(generalizing:=false) a with
  | .aF v off=>(match(generalizing:=false) ag with
   |true=>(match off with
    |0=>if(cellsOf v).length=P.cellsOf t then some (AV.agg (cellsOf v)) else partOf true (P.cellsOf t) (cellsOf v) 0
    |off=>partOf true (P.cellsOf t) (cellsOf v) off)
   |false=>(cellsOf v)[off]?)
  | .ptr l off=>
   (match s.blks[l]? with
   |some (.cells cs _)=>(match(generalizing:=false) ag with
    |true=>(match partOf true (P.cellsOf t) cs off with|some v=>gP v|none=>none)
    |false=>cs[off]?)
   |_=>none)
  |_=>none)=some v):lO P G w (Instr.loadAt t x) v:=by
 obtain⟨d,hd⟩:=uM hag;have key: ∀(b o:Nat)(cs:List AV)(vs:List Value),R G (.k cs vs)→cs.length=P.cellsOf t→ag=true→(∀j y,vs[j]?=some y→w.cell? ⟨b,o+j,none⟩=some y)→
   (Instr.loadAt t (.pointer (some ⟨b,o,none⟩))).run P w= .ok (.agg vs.toArray) w:=by
  intro b o cs vs hk hl ha hc;subst ha;have:=run_loadCells_list (P:=P) w ⟨b,o,none⟩ vs (fun j y hy=>by rw [eP];exact hc j y hy);have hlen:vs.length=P.cellsOf t:=by rw [←hk.jP];exact hl
  rw [hlen] at this;simp [Instr.loadAt,Instr.sureAddr,loadVar,s6 hag,j7 hd,this]
 have key1: ∀(b o:Nat)(y:Value),ag=false→w.cell? ⟨b,o,none⟩=some y→(Instr.loadAt t (.pointer (some ⟨b,o,none⟩))).run P w= .ok y w:=by
  intro b o y ha hc;subst ha;simp [Instr.loadAt,Instr.sureAddr,loadVar,s6 hag,run_load,hc]
 have hpart: ∀(b o off:Nat)(cs:List AV)(vs:List Value)(v:AV),R G (.k cs vs)→partOf true (P.cellsOf t) cs off=some v→ag=true→(∀j y,vs[j]?=some y→w.cell? ⟨b,o+j,none⟩=some y)→
   ∃us:List Value,(Instr.loadAt t (.pointer (some ⟨b,o+off,none⟩))).run P w= .ok (.agg us.toArray) w∧R G (.v v (.agg us.toArray)):=by
  intro b o off cs vs v hk hp ha hc;obtain⟨h1,rfl⟩:=aIB hp;have hk2:=(hk.yP off).aCh (P.cellsOf t);refine⟨(vs.drop off).take (P.cellsOf t),key b (o+off) _ _ hk2 (by rw [List.length_take,List.length_drop];omega) ha ?_,.agg hk2⟩;intro j y hy;rw [List.getElem?_take] at hy;split at hy
  ·rw [List.getElem?_drop] at hy;have:=hc _ _ hy;rwa [←Nat.add_assoc] at this
  ·cases hy
 cases r with
 |aF off hc hM=>
  rename_i v0 vs b o;have hcell: ∀j y,vs[j]?=some y→w.cell? ⟨b,o+j,none⟩=some y:=fun j y hy=>hI.m _ _ _ (hM j y hy);simp only at h;cases ag with
  |true=>
   simp only at h;split at h
   ·split at h
    ·rename_i hl;cases h;exact .of hI (key b o _ vs hc.c_k hl rfl hcell) (.agg hc.c_k)
    ·obtain⟨us,h1,h2⟩:=hpart b o 0 _ vs v hc.c_k h rfl hcell;exact .of hI h1 h2
   ·obtain⟨us,h1,h2⟩:=hpart b o off _ vs v hc.c_k h rfl hcell;exact .of hI h1 h2
  |false=>
   simp only at h;obtain⟨y,h1,h2,_⟩:=hc.c_k.aLC h;exact .of hI (key1 b (o+off) y rfl (hcell off y h1)) h2
 |ptr off hL=>
  rename_i l b;simp only at h;split at h
  ·rename_i cs wr hb;obtain⟨o,ho,hok⟩:=hI.at hL hb;obtain⟨vs,e,rfl,hk,_,_⟩:=hok;have hcell: ∀j y,vs[j]?=some y→w.cell? ⟨b,0+j,none⟩=some y:=fun j y hy=>by rw [Nat.zero_add,tN ho];exact hy
   cases ag with
   |true=>
    simp only at h;split at h
    ·rename_i v1 hv1;obtain⟨us,h1,h2⟩:=hpart b 0 off _ vs v1 hk hv1 rfl hcell;rw [Nat.zero_add] at h1;exact .of hI h1 (o0 h h2).1
    ·cases h
   |false=>
    simp only at h;obtain⟨y,h1,h2,_⟩:=hk.aLC h;exact .of hI (key1 b off y rfl (by have:=hcell off y h1;rwa [Nat.zero_add] at this)) h2
  ·cases h
 |_=>simp at h
theorem aLd(hI:Inv P B G s w){t kt et:TypeId}(hu:P.underlying t=some (.map kt et)){kk:KK}(hkt:aHo P kt=some kk){z:AV}(hz:zeroV P et=some z){ok:Bool}{m k v:AV}{xm xk:Value}(rm:R G (.v m xm))(rk:R G (.v k xk))
(h:(match(generalizing:=false) m with
  | .map l=>
   (match s.blks[l]? with
   |some (.map es)=>
    if keyOf kk k then
     (match pI k es with
     |some (some v)=>some (match ok with|true=>AV.tuple [v,.bool true]|false=>v)
     |some none=>some (match ok with|true=> .tuple [z,.bool false]|false=>z)
     |none=>none)
    else none
   |_=>none)
  | .dX=>some (match ok with|true=> .tuple [z,.bool false]|false=>z)
  |_=>none)=some v):lO P G w (Instr.lookup t xm xk ok) v:=by
 obtain⟨d,hd,hkk⟩:=aJB hkt;obtain⟨i,zv,hi,hzv,rz⟩:=aGO (G:=G) hz;have two: ∀{p q:AV}{xp xq:Value},R G (.v p xp)→R G (.v q xq)→R G (.v (.tuple [p,q]) (.tuple #[xp,xq])):=fun h1 h2=>by simpa using R.tuple (.fR h1 (.fR h2 .rE))
 cases rm with
 |dX=>
  simp only at h;cases h;have hc:=fun b=>run_checkKey (w:=w) hd hkk b xk;cases ok with
  |true=>exact .of hI (x:= .tuple #[zv,.bool false]) (by simp [Instr.lookup,run_underlying hu,hc,Instr.findKey,run_underlying hd,Instr.findNow,dM hi hzv]) (two rz (.bool _))
  |false=>exact .of hI (x:=zv) (by simp [Instr.lookup,run_underlying hu,hc,Instr.findKey,run_underlying hd,Instr.findNow,dM hi hzv]) rz
 |map hL=>
  rename_i l b;simp only at h;split at h
  ·rename_i es hb;obtain⟨o,ho,hok⟩:=hI.at hL hb;obtain⟨ents,clock,rfl,hm⟩:=hok;split at h
   ·rename_i hkey;have hc:=fun b=>run_checkKey (w:=w) hd hkk b xk;cases hf:pI k es with
    |none=>rw [hf] at h;cases h
    |some r=>
     rw [hf] at h;rcases aNT hkk rk hkey hm hf 0 with ⟨rfl,h2⟩|⟨v1,j,x,rfl,h2,h3⟩
     ·cases h;cases ok with
      |true=>exact .of hI (x:= .tuple #[zv,.bool false]) (by simp [Instr.lookup,run_underlying hu,j4 ho (by simp),hc,Instr.findKey,run_underlying hd,h2,dM hi hzv]) (two rz (.bool _))
      |false=>exact .of hI (x:=zv) (by simp [Instr.lookup,run_underlying hu,j4 ho (by simp),hc,Instr.findKey,run_underlying hd,h2,dM hi hzv]) rz
     ·cases h;cases ok with
      |true=>exact .of hI (x:= .tuple #[x,.bool true]) (by simp [Instr.lookup,run_underlying hu,j4 ho (by simp),hc,Instr.findKey,run_underlying hd,h2]) (two h3 (.bool _))
      |false=>exact .of hI (x:=x) (by simp [Instr.lookup,run_underlying hu,j4 ho (by simp),hc,Instr.findKey,run_underlying hd,h2]) h3
   ·cases h
  ·cases h
 |_=>simp at h
end
structure Css(G:Gh)(sz:Nat)(xs:List AV)(css:List (List Value)):Prop where
 len:css.length=xs.length
 get: ∀(i:Nat)(a:AV),xs[i]?=some a→ ∃vs,css[i]?=some vs∧R G (.c a vs)∧vs.length=sz
theorem Css.nil{G:Gh}{sz:Nat}:Css G sz [] []:=⟨rfl,by simp⟩
theorem Css.cons{G:Gh}{sz:Nat}{x:AV}{xs:List AV}{vs:List Value}{css:List (List Value)}(h:R G (.c x vs))(hl:vs.length=sz)(k:Css G sz xs css):Css G sz (x::xs) (vs::css):=by
 refine⟨by simp [k.len],fun i a ha=> ?_⟩;cases i with
 |zero=>simp at ha;subst ha;exact⟨vs,rfl,h,hl⟩
 |succ i=>simpa using k.get i a (by simpa using ha)
theorem Css.tail{G:Gh}{sz:Nat}{x:AV}{xs:List AV}{vs:List Value}{css:List (List Value)}(k:Css G sz (x::xs) (vs::css)):R G (.c x vs)∧vs.length=sz∧Css G sz xs css:=by
 obtain⟨us,h1,h2,h3⟩:=k.get 0 x rfl;simp at h1;subst h1;exact⟨h2,h3,by have:=k.len;simpa using this,fun i a ha=>by simpa using k.get (i+1) a (by simpa using ha)⟩
theorem Css.mono{G G':Gh}(hG:G.le G'){sz:Nat}{xs:List AV}{css:List (List Value)}(k:Css G sz xs css):Css G' sz xs css:=
 ⟨k.len,fun i a ha=>by obtain⟨vs,h1,h2,h3⟩:=k.get i a ha;exact⟨vs,h1,h2.mono hG,h3⟩⟩
theorem Css.append{G:Gh}{sz:Nat}: ∀{xs ys:List AV}{css dss:List (List Value)},Css G sz xs css→Css G sz ys dss→Css G sz (xs++ys) (css++dss)
 | [],ys,css,dss,h,k=>by have:=h.len;simp at this;subst this;exact k
 |x::xs,ys,[],dss,h,k=>by have:=h.len;simp at this
 |x::xs,ys,vs::css,dss,h,k=>by obtain⟨h1,h2,h3⟩:=h.tail;exact .cons h1 h2 (h3.append k)
theorem Css.take{G:Gh}{sz:Nat}: ∀(n:Nat){xs:List AV}{css:List (List Value)},Css G sz xs css→Css G sz (xs.take n) (css.take n)
 |0,xs,css,_=> .nil
 |n+1,[],css,h=>by have:=h.len;simp at this;subst this;exact .nil
 |n+1,x::xs,[],h=>by have:=h.len;simp at this
 |n+1,x::xs,vs::css,h=>by obtain⟨h1,h2,h3⟩:=h.tail;exact .cons h1 h2 (h3.take n)
theorem Css.flat{G:Gh}{sz:Nat}: ∀{xs:List AV}{css:List (List Value)},Css G sz xs css→R G (.k (jY xs) css.flatten)∧css.flatten.length=xs.length*sz
 | [],css,h=>by have:=h.len;simp at this;subst this;exact⟨by simpa [jY] using R.gN,by simp⟩
 |x::xs,[],h=>by have:=h.len;simp at this
 |x::xs,vs::css,h=>by
  obtain⟨h1,h2,h3⟩:=h.tail;obtain⟨k1,k2⟩:=h3.flat;refine⟨?_,?_⟩
  ·simpa [jY] using R.sT h1.c_k k1
  ·simp only [List.flatten_cons,List.length_append,List.length_cons,h2,k2,Nat.add_mul];omega
theorem Css.row{G:Gh}{sz b o:Nat}{xs:List AV}{css:List (List Value)}(h:Css G sz xs css)(hM: ∀j y,css.flatten[j]?=some y→G.M b (o+j)=some y):R G (.r sz xs b o):=
 R.aRO h.get h.len.symm hM
theorem aKa{G:Gh}{sz b:Nat}: ∀{xs:List AV}{o:Nat},R G (.r sz xs b o)→ ∃css,Css G sz xs css∧ ∀j y,css.flatten[j]?=some y→G.M b (o+j)=some y
 | [],o,_=>⟨[],.nil,by simp⟩
 |x::xs,o,h=>by
  cases h with
  |l9 hc hl hM t=>
   rename_i vs;obtain⟨css,h1,h2⟩:=aKa t;refine⟨vs::css,.cons hc hl h1,fun j y hy=> ?_⟩;simp only [List.flatten_cons] at hy;rcases Nat.lt_or_ge j vs.length with hj|hj
   ·rw [List.getElem?_append_left hj] at hy;exact hM j y hy
   ·rw [List.getElem?_append_right hj] at hy;have:=h2 _ _ hy;rw [show o+sz+(j-vs.length)=o+j from by omega] at this;exact this
theorem aQ2{G:Gh}{a a':AV}{vs:List Value}(h:gP a=some a')(r:R G (.c a vs)):R G (.c a' vs):=R.aL4 (aCV h vs r.c_k)
theorem aDU{G:Gh}{sz:Nat}: ∀{xs ys:List AV}{css:List (List Value)},dL xs=some ys→Css G sz xs css→Css G sz ys css
 | [],ys,css,h,k=>by simp [dL] at h;subst h;exact k
 |x::xs,ys,[],h,k=>by have:=k.len;simp at this
 |x::xs,ys,vs::css,h,k=>by
  obtain⟨h1,h2,h3⟩:=k.tail;simp only [dL] at h;split at h
  ·cases h
  ·rename_i y hy;split at h
   ·cases h
   ·rename_i ys' hys;cases h;exact .cons (aQ2 hy h1) h2 (aDU hys h3)
theorem aIT{G:Gh}{sz:Nat}: ∀{n:Nat}{cs:List AV}{vs:List Value},R G (.k cs vs)→n*sz≤cs.length→ ∃css,Css G sz (chunks sz n cs) css∧css.flatten=vs.take (n*sz):=by
 intro n
 induction n with
 |zero=>intro cs vs _ _;exact⟨[],.nil,by simp⟩
 |succ n ih=>
  intro cs vs r hl;have hl':sz≤cs.length:=by rw [Nat.add_mul] at hl;omega
  have hvl:cs.length=vs.length:=r.jP;obtain⟨css,h1,h2⟩:=ih (r.yP sz) (by rw [List.length_drop];rw [Nat.add_mul] at hl;omega);have hvs:(vs.take sz).length=sz:=by rw [List.length_take];omega
  refine⟨vs.take sz::css,?_,?_⟩
  ·unfold chunks;refine .cons ?_ hvs h1;split
   ·cases r with
    |gN=>simp at hl'
    |cJ g1 g2 t=>exact .vO (yO g1 g2) g2 g1
   ·exact .tQ (r.aCh sz)
  ·rw [List.flatten_cons,h2,Nat.add_mul,Nat.one_mul,Nat.add_comm (n*sz) sz,List.take_add]
theorem aCA{sz:Nat}: ∀{n:Nat}{cs:List AV},(chunks sz n cs).length=n
 |0,_=>rfl
 |n+1,cs=>by simp [chunks,aCA]
theorem aDR: ∀{a_ as':List AV},dL a_=some as'→as'.length=a_.length
 | [],as',h=>by simp [dL] at h;subst h;rfl
 |a::a_,as',h=>by
  simp only [dL] at h;split at h
  ·cases h
  ·split at h
   ·cases h
   ·rename_i ys hys;cases h;simp [aDR hys]
section
variable {P : Program} {B : Bs} {G : Gh} {s : ASt} {w : World} {P' : aS} {env : Env} {ρ : Operand → Value}
theorem aCp(hI:Inv P B G s w){l off len sz b:Nat}(hL:G.L l=some b){xs:List AV}(h:rowOf s l off len sz=some xs):
  ∃css,Css G sz xs css∧xs.length=len∧(∀j y,css.flatten[j]?=some y→w.cell? ⟨b,off+j,none⟩=some y):=by
 unfold rowOf at h;split at h
 ·rename_i cs wr hb;obtain⟨o,ho,hok⟩:=hI.at hL hb;obtain⟨vs,e,rfl,hk,_,_⟩:=hok;split at h
  ·rename_i hc;obtain⟨css,h1,h2⟩:=aIT (n:=len) (sz:=sz) (hk.yP off) (by rw [List.length_drop];omega);refine⟨css,aDU h h1,by rw [aDR h,aCA],fun j y hy=> ?_⟩;rw [h2,List.getElem?_take] at hy;split at hy
   ·rw [List.getElem?_drop] at hy;rw [tN ho];exact hy
   ·cases hy
  ·cases h
 ·cases h
theorem sU{sz:Nat}: ∀{css:List (List Value)}{n j:Nat}{y:Value},(∀c∈css,c.length=sz)→(css.take n).flatten[j]?=some y→css.flatten[j]?=some y
 | [],n,j,y,_,h=>by simp at h
 |c::css,0,j,y,_,h=>by simp at h
 |c::css,n+1,j,y,hl,h=>by
  simp only [List.take_succ_cons,List.flatten_cons] at h⊢;rcases Nat.lt_or_ge j c.length with hj|hj
  ·rw [List.getElem?_append_left hj] at h⊢;exact h
  ·rw [List.getElem?_append_right hj] at h⊢;exact sU (fun x hx=>hl x (List.mem_cons_of_mem _ hx)) h
theorem Css.all{sz:Nat}{xs:List AV}{css:List (List Value)}(h:Css G sz xs css): ∀c∈css,c.length=sz:=by
 intro c hc;obtain⟨i,hi,rfl⟩:=List.mem_iff_getElem.1 hc;have hx:i<xs.length:=by rw [←h.len];exact hi
 obtain⟨vs,h1,_,h3⟩:=h.get i xs[i] (by simp [hx]);rw [List.getElem?_eq_getElem hi] at h1;cases h1;exact h3
theorem zI(hI:Inv P B G s w){esz:Nat}{a:AV}{x:Value}(r:R G (.v a x)){ys:List AV}(h:elems s esz a=some ys):
  ∃css A c,x= .slice A ys.length c∧Css G esz ys css∧ ∀w':World,w'.heap=w.heap→ ∀n,n≤ys.length→(Builtin.firstCells esz n x).run P w'= .ok (css.take n).flatten.toArray w':=by
 have key: ∀(b o c:Nat)(css:List (List Value)),Css G esz ys css→(∀j y,css.flatten[j]?=some y→w.cell? ⟨b,o+j,none⟩=some y)→
   ∀w':World,w'.heap=w.heap→ ∀n,n≤ys.length→(Builtin.firstCells esz n (.slice (some ⟨b,o,none⟩) ys.length c)).run P w'= .ok (css.take n).flatten.toArray w':=by
  intro b o c css hc hcell w' hw n hn;refine run_firstCells_some w' esz n _ _ _ _ ?_ ?_
  ·rw [(hc.take n).flat.2,List.length_take,Nat.min_eq_left hn]
  ·intro j y hy;rw [eP];have:=hcell j y (sU hc.all hy);rw [oV (w:=w) (w':=w') (by rw [hw])];exact this
 have none0: ∀(A:Option Addr)(c:Nat)(w':World),∀n,n≤0→(Builtin.firstCells esz n (.slice A 0 c)).run P w'= .ok ((([]:List (List Value)).take n).flatten.toArray) w':=by
  intro A c w' n hn;have:n=0:=by omega
  subst this;cases A with
  |none=>simp [Builtin.firstCells]
  |some A=>simp [Builtin.firstCells,loadCells,loadCellsFrom]
 cases r with
 |cK hm ho=>
  simp only [elems] at h;split at h
  ·cases h;exact⟨[],_,_,rfl,.nil,fun w' _=>none0 _ _ w'⟩
  ·cases h
 |dA hc hm hr ho=>
  rename_i sz xs o b off c;simp only [elems] at h;split at h
  ·rename_i hcond;cases h;by_cases hs:sz=esz
   ·subst hs;obtain⟨css,h1,h2⟩:=aKa hr;exact⟨css,_,_,rfl,h1,key b off c css h1 fun j y hy=>hI.m _ _ _ (h2 j y hy)⟩
   ·have hnil:ys= []:=by simpa [hs] using hcond
    subst hnil;exact⟨[],_,_,rfl,.nil,fun w' _=>none0 _ _ w'⟩
  ·cases h
 |ms hL hc hm=>
  simp only [elems] at h;split at h
  ·rename_i hs;subst hs;obtain⟨css,h1,h2,h3⟩:=aCp hI hL h;subst h2;exact⟨css,_,_,rfl,h1,key _ _ _ css h1 h3⟩
  ·cases h
 |_=>simp [elems] at h
def Gh.zN(G:Gh)(t n b c sz:Nat):Gh:={G with H:=fun t' n'=>if t'=t∧n'=n then some (b,c,sz) else G.H t' n'}
theorem qB{t n b c sz:Nat}:(G.zN t n b c sz).H t n=some (b,c,sz):=by simp [Gh.zN]
theorem nI{t n b c sz t' n':Nat}(h: ¬(t'=t∧n'=n)):(G.zN t n b c sz).H t' n'=G.H t' n':=by simp only [Gh.zN,if_neg h]
theorem aBJ{t n b c sz:Nat}(h:G.H t n=none):G.le (G.zN t n b c sz) where
 M:=fun _ _ _ h=>h
 L:=fun _ _ h=>h
 H:=fun t' n' x hx=>by
  by_cases e:t'=t∧n'=n
  ·obtain⟨rfl,rfl⟩:=e;rw [h] at hx;cases hx
  ·rw [nI e];exact hx
theorem Inv.aL2(h:Inv P B G s w){t n b c sz:Nat}{toks':List Nat}(hself:toks'[t]?=some n)(hoth: ∀t',t'≠t→toks'[t']?=s.toks[t']?)(hless: ∀n0,s.toks[t]?=some n0→n0<n)
(hnp: ¬B.Pr b){e:TypeId}{cur:Array Value}(hb:w.heap[b]?=some (.cells cur e (0,0)))(hcur:cur.size=c*sz)(hsz:0<sz)(hnc:n≤c)(hcm:c≤maxLen)(hM: ∀j,n*sz≤j→G.M b j=none)
(hL: ∀ℓ,G.L ℓ≠some b)(hfree: ∀t' n' b' c' sz',t'≠t→s.toks[t']?=some n'→G.H t' n'=some (b',c',sz')→b'≠b):
  G.H t n=none∧Inv P B (G.zN t n b c sz) {s with toks:=toks'} w:=by
 have hnone:G.H t n=none:=by
  cases hx:G.H t n with
  |none=>rfl
  |some x=>
   obtain⟨n0,h1,h2⟩:=h.hh t n x hx;have:=hless n0 h1;omega
 have hle:=aBJ (b:=b) (c:=c) (sz:=sz) hnone;refine⟨hnone,?_⟩;exact{
  os:=h.os,tape:=h.tape,output:=h.output,size:=h.size,pr:=h.pr,prM:=h.prM,m:=h.m,l:=h.l,inj:=h.inj
  blk:=fun ℓ b' o k hl ho hk=>(h.blk ℓ b' o k hl ho hk).mono hle fun cs hc j=>by
   have:=h.blk ℓ b' o k hl ho hk;subst hc;obtain⟨_,_,_,_,h3,_⟩:=this;exact h3 rfl j
  tok:=fun t' n' ht'=>by
   by_cases e':t'=t
   ·subst e';rw [hself] at ht';cases ht';exact⟨b,c,sz,qB,hnp,aJT hb,⟨e,cur,hb,hcur⟩,hsz,hnc,hcm,hM,hL⟩
   ·rw [hoth t' e'] at ht';obtain⟨b',c',sz',k⟩:=h.tok t' n' ht';exact⟨b',c',sz',by rw [nI (fun q=>e' q.1)];exact k.h,k.np,k.lt,k.blk,k.szp,k.nc,k.cm,k.m,k.l⟩
  lX:=fun t1 t2 n1 n2 b1 c1 sz1 c2 sz2 h1 h2 h3 h4=>by
   by_cases e1:t1=t
   ·by_cases e2:t2=t
    ·rw [e1,e2]
    ·subst e1;rw [hself] at h1;cases h1;rw [qB] at h3;cases h3;rw [hoth t2 e2] at h2;rw [nI (fun q=>e2 q.1)] at h4;exact absurd rfl (hfree t2 n2 _ _ _ e2 h2 h4)
   ·rw [hoth t1 e1] at h1;rw [nI (fun q=>e1 q.1)] at h3;by_cases e2:t2=t
    ·subst e2;rw [hself] at h2;cases h2;rw [qB] at h4;cases h4;exact absurd rfl (hfree t1 n1 _ _ _ e1 h1 h3)
    ·rw [hoth t2 e2] at h2;rw [nI (fun q=>e2 q.1)] at h4;exact h.lX t1 t2 n1 n2 b1 c1 sz1 c2 sz2 h1 h2 h3 h4
  hh:=fun t1 n1 x hx=>by
   by_cases e1:t1=t∧n1=n
   ·obtain⟨rfl,rfl⟩:=e1;exact⟨_,hself,Nat.le_refl _⟩
   ·rw [nI e1] at hx;obtain⟨n0,h1,h2⟩:=h.hh t1 n1 x hx;by_cases e2:t1=t
    ·subst e2;exact⟨n,hself,by have:=hless n0 h1;omega⟩
    ·exact⟨n0,by rw [hoth t1 e2];exact h1,h2⟩
  tot:=h.tot}
theorem Inv.aLD(h:Inv P B G s w){t n b c sz:Nat}(ht:s.toks[t]?=some n)(hH:G.H t n=some (b,c,sz)){e:TypeId}{cur:Array Value}(hb:w.heap[b]?=some (.cells cur e (0,0)))
{vs:List Value}(hlen:vs.length=cur.size)(hkeep: ∀j,j<n*sz→vs[j]?=cur[j]?){n':Nat}(hn:n<n')(hnc:n'≤c):
  G.le ((G.kL b (n*sz) (n'*sz) vs).zN t n' b c sz)∧Inv P B ((G.kL b (n*sz) (n'*sz) vs).zN t n' b c sz) {s with toks:=s.toks.set t n'} (w.putObj b (.cells vs.toArray e (0,0))):=by
 obtain⟨b0,c0,sz0,k⟩:=h.tok t n ht;have hq:=k.h;rw [hH] at hq;cases hq;have hle0:G.le (G.kL b (n*sz) (n'*sz) vs):=Gh.yV fun o h1 _ x hx=>by rw [k.m o h1] at hx;cases hx
 have hnone:(G.kL b (n*sz) (n'*sz) vs).H t n'=none:=by
  show G.H t n'=none;cases hx:G.H t n' with
  |none=>rfl
  |some x=>
   obtain⟨n0,h1,h2⟩:=h.hh t n' x hx;rw [ht] at h1;cases h1;omega
 have hle:G.le ((G.kL b (n*sz) (n'*sz) vs).zN t n' b c sz):=hle0.trans (aBJ hnone);have hlt:=k.lt;have htl:t<s.toks.length:=(List.getElem?_eq_some_iff.1 ht).1;have hself:(s.toks.set t n')[t]?=some n':=List.getElem?_set_self htl;have hoth: ∀t',t'≠t→(s.toks.set t n')[t']?=s.toks[t']?:=fun t' ht'=>List.getElem?_set_ne (fun e=>ht' e.symm);have hne: ∀{x},x≠b→(w.putObj b (.cells vs.toArray e (0,0))).heap[x]?=w.heap[x]?:=fun hx=>World.putObj_heap_other hx;have hse:(w.putObj b (.cells vs.toArray e (0,0))).heap[b]?=some (.cells vs.toArray e (0,0)):=World.putObj_heap_same hlt;have hsz:(w.putObj b (.cells vs.toArray e (0,0))).heap.size=w.heap.size:=by simp [World.putObj]
 obtain⟨e0,cur0,hb0,hcur0⟩:=k.blk;rw [hb] at hb0;cases hb0;have hMn: ∀{x j},x≠b→((G.kL b (n*sz) (n'*sz) vs).zN t n' b c sz).M x j=G.M x j:=fun hx=>wI hx;refine⟨hle,?_⟩;exact{
  os:=h.os,tape:=h.tape,output:=h.output,size:=by rw [hsz];exact h.size
  pr:=fun x hx=>(hne (fun e'=>k.np (e'▸hx))).trans (h.pr x hx)
  prM:=fun x hx o=>by rw [hMn (fun e'=>k.np (e'▸hx))];exact h.prM x hx o
  m:=fun x j v hv=>by
   by_cases e':x=b
   ·subst e';rw [tN hse];change (G.kL x (n*sz) (n'*sz) vs).M x j=some v at hv;by_cases hj:n*sz≤j∧j<n'*sz
    ·rw [nH hj.1 hj.2] at hv;exact hv
    ·rw [zY hj] at hv;have hjn:j<n*sz:=by
      rcases Nat.lt_or_ge j (n*sz) with q|q
      ·exact q
      ·rw [k.m j q] at hv;cases hv
     rw [hkeep j hjn];have:=h.m x j v hv;simpa [World.cell?,hb] using this
   ·rw [hMn e'] at hv;rw [oV (hne e')];exact h.m x j v hv
  l:=fun ℓ x hx=>⟨(h.l ℓ x hx).1,by rw [hsz];exact(h.l ℓ x hx).2.1,(h.l ℓ x hx).2.2⟩
  inj:=h.inj
  blk:=fun ℓ x o k' hx ho hk'=>by
   have hxb:x≠b:=fun e'=>k.l ℓ (e'▸hx);rw [hne hxb] at ho;exact(h.blk ℓ x o k' hx ho hk').mono hle fun cs hc j=>by
    rw [hMn hxb];have:=h.blk ℓ x o k' hx ho hk';subst hc;obtain⟨_,_,_,_,h3,_⟩:=this;exact h3 rfl j
  tok:=fun t' n1 ht'=>by
   by_cases e':t'=t
   ·subst e';have ht2:(s.toks.set t' n')[t']?=some n1:=ht';rw [hself] at ht2;cases ht2;refine⟨b,c,sz,qB,k.np,by rw [hsz];exact hlt,⟨e,vs.toArray,hse,by simpa [hlen] using hcur0⟩,k.szp,hnc,k.cm,fun j hj=> ?_,k.l⟩;show(G.kL b (n*sz) (n'*sz) vs).M b j=none;rw [zY (by omega)];have:n*sz≤n'*sz:=Nat.mul_le_mul_right _ (by omega);exact k.m j (by omega)
   ·have ht2:(s.toks.set t n')[t']?=some n1:=ht';rw [hoth t' e'] at ht2;obtain⟨x,c',sz',k'⟩:=h.tok t' n1 ht2;have hxb:x≠b:=fun e2=>e' (h.lX t' t n1 n x c' sz' c sz ht2 ht k'.h (e2▸hH));exact⟨x,c',sz',by rw [nI (fun q=>e' q.1)];exact k'.h,k'.np,by rw [hsz];exact k'.lt,by rw [hne hxb];exact k'.blk,k'.szp,k'.nc,k'.cm,fun j hj=>by rw [hMn hxb];exact k'.m j hj,k'.l⟩
  lX:=fun t1 t2 n1 n2 b1 c1 sz1 c2 sz2 h1 h2 h3 h4=>by
   change (s.toks.set t n')[t1]?=some n1 at h1;change (s.toks.set t n')[t2]?=some n2 at h2;have hfree: ∀t' n1 b' c' sz',t'≠t→s.toks[t']?=some n1→G.H t' n1=some (b',c',sz')→b'≠b:=fun t' n1 b' c' sz' e' hq1 hq2 e2=>e' (h.lX t' t n1 n b' c' sz' c sz hq1 ht hq2 (e2▸hH));by_cases e1:t1=t
   ·by_cases e2:t2=t
    ·rw [e1,e2]
    ·subst e1;rw [hself] at h1;cases h1;rw [qB] at h3;cases h3;rw [hoth t2 e2] at h2;rw [nI (fun q=>e2 q.1)] at h4;exact absurd rfl (hfree t2 n2 _ _ _ e2 h2 h4)
   ·rw [hoth t1 e1] at h1;rw [nI (fun q=>e1 q.1)] at h3;by_cases e2:t2=t
    ·subst e2;rw [hself] at h2;cases h2;rw [qB] at h4;cases h4;exact absurd rfl (hfree t1 n1 _ _ _ e1 h1 h3)
    ·rw [hoth t2 e2] at h2;rw [nI (fun q=>e2 q.1)] at h4;exact h.lX t1 t2 n1 n2 b1 c1 sz1 c2 sz2 h1 h2 h3 h4
  hh:=fun t1 n1 x hx=>by
   show∃n0,(s.toks.set t n')[t1]?=some n0∧n1≤n0;by_cases e1:t1=t∧n1=n'
   ·obtain⟨rfl,rfl⟩:=e1;exact⟨_,hself,Nat.le_refl _⟩
   ·rw [nI e1] at hx;obtain⟨n0,h1,h2⟩:=h.hh t1 n1 x hx;by_cases e2:t1=t
    ·subst e2;rw [ht] at h1;cases h1;exact⟨n',hself,by omega⟩
    ·exact⟨n0,by rw [hoth t1 e2];exact h1,h2⟩
  tot:=h.tot}
end
section
variable {P : Program} {B : Bs} {G : Gh} {s s1 : ASt} {w : World} {P' : aS} {env : Env} {ρ : Operand → Value}
def aCG(P:Program)(B:Bs)(G:Gh)(s1:ASt)(w:World)(m:Sem Next)(v:AV):Prop:=
 ∃n x w' G',m.run P w= .ok n w'∧(n=Next.value x∨(n= .skip∧x=undef))∧G.le G'∧Inv P B G' s1 w'∧R G' (.v v x)
theorem R.box{a:AV}{x:Value}(r:R G (.v a x))(h:uZ a=true):R G (.k (cellsOf a) x.cells.toList):=by
 cases r with
 |tuple=>simp [uZ] at h
 |lU=>simp [uZ] at h
 |agg hk=>simpa [Value.cells,cellsOf] using hk
 |int h'=>exact .cJ (.int h') rfl .gN
 |bool b=>exact .cJ (.bool b) rfl .gN
 |str s hs=>exact .cJ (.str s hs) rfl .gN
 |cK hm ho=>exact .cJ (.cK hm ho) rfl .gN
 |dA hc hm hr ho=>exact .cJ (.dA hc hm hr ho) rfl .gN
 |ms hL hc hm=>exact .cJ (.ms hL hc hm) rfl .gN
 |dO=>exact .cJ .dO rfl .gN
 |ptr off hL=>exact .cJ (.ptr off hL) rfl .gN
 |aF off hc hM=>exact .cJ (.aF off hc hM) rfl .gN
 |func ha hb=>exact .cJ (.func ha hb) rfl .gN
 |cZ=>exact .cJ .cZ rfl .gN
 |yield hL=>exact .cJ (.yield hL) rfl .gN
 |map hL=>exact .cJ (.map hL) rfl .gN
 |dX=>exact .cJ .dX rfl .gN
 |iface h1=>exact .cJ (.iface h1) rfl .gN
 |bU=>exact .cJ .bU rfl .gN
 |iter hL=>exact .cJ (.iter hL) rfl .gN
theorem Inv.aB6(hI:Inv P B G s w){cs:List AV}{vs:List Value}(r:R G (.k cs vs))(e:TypeId):
  G.le (G.wD s.blks.length w.heap.size)∧Inv P B (G.wD s.blks.length w.heap.size) {s with blks:=s.blks++ [.cells cs true]} (w.alloc (.cells vs.toArray e)):=by
 have hle:G.le (G.wD s.blks.length w.heap.size):=Gh.uK hI.aIA;exact⟨hle,hI.aAt _ _ ⟨vs,e,rfl,r.mono hle,fun _ j=>hI.aLU j,fun h=>by cases h⟩⟩
theorem aPL(hI:Inv P B G s w){cs:List AV}(t:TypeId){x:Value}(r:R G (.k cs x.cells.toList)):
  aCG P B G {s with blks:=s.blks++ [.cells cs true]} w (do pure (Next.value (.pointer (some (←newVar t x))))) (.ptr s.blks.length 0):=by
 obtain⟨hle,h2⟩:=hI.aB6 r t;refine⟨_,.pointer (some ⟨w.heap.size,0,none⟩),w.alloc (.cells x.cells t),_,?_,.inl rfl,hle,by simpa using h2,.ptr 0 oZ⟩;simp [newVar,newRow]
theorem sL{g:Nat}{cur:Array Value}{t:TypeId}{fr:Nat×Nat}(hg:w.heap[g]?=some (.cells cur t fr))(cs:Array Value):w.setRow g cs=w.putObj g (.cells cs t fr):=by
 have hlt:g<w.heap.size:=(Array.getElem?_eq_some_iff.1 hg).1;have hv:w.heap[g]= .cells cur t fr:=(Array.getElem?_eq_some_iff.1 hg).2;unfold World.setRow World.putObj
 congr 1
 apply Array.ext
 ·simp
 ·intro i h1 h2;rw [Array.getElem_modify,Array.getElem_setIfInBounds];by_cases e:g=i
  ·subst e;simp [hv]
  ·simp [e]
  ·simpa using h1
theorem Inv.write(hI:Inv P B G s w){l b:Nat}(hL:G.L l=some b){cs:List AV}(hb:s.blks[l]?=some (.cells cs true)){off:Nat}{ds:List AV}{us:List Value}(hk:R G (.k ds us))(hlen:off+ds.length≤cs.length):
  ∃w',(storeCells ⟨b,off,none⟩ us).run P w= .ok () w'∧Inv P B G {s with blks:=s.blks.set l (.cells (fO cs off ds) true)} w':=by
 obtain⟨o,ho,hok⟩:=hI.at hL hb;obtain⟨vs,e,rfl,hkv,hM,_⟩:=hok;have hl1:cs.length=vs.length:=hkv.jP;have hl2:ds.length=us.length:=hk.jP;have hrun:=run_storeCells_at P b off e us 0 vs.toArray w ho (by simp;omega) hk.aNe;refine⟨_,hrun,?_⟩;rw [sL ho];refine hI.put hL ⟨_,e,rfl,?_,fun _=>hM rfl,fun h=>by cases h⟩ (fun j x hx=>by rw [hM rfl j] at hx;cases hx);simpa using hkv.aFy hk off
theorem Inv.lA{s0:ASt}{l:Nat}{cs:List AV}{blks:List cQ}(h:Inv P B G {s0 with blks:=blks} w):Inv P B G (lA s0 l cs blks) w:=h.aDl rfl rfl
theorem aOz(hI:Inv P B G s w){t:TypeId}{i:TypeInfo}(hi:P.info? t=some i){a x:AV}{xa xv:Value}(ra:R G (.v a xa))(rx:R G (.v x xv)){v:AV}
(h:(match(generalizing:=false) a with
  | .ptr l off=>
   (match s.blks[l]? with
   |some (.cells cs true)=>
    if uZ x&&(cellsOf x).length=P.cellsOf t&&off+P.cellsOf t≤cs.length then
     some (fA,Fw.lA s l (cellsOf x) (s.blks.set l (.cells (fO cs off (cellsOf x)) true)))
    else none
   |_=>none)
  |_=>none)=some (v,s1)):aCG P B G s1 w (do Instr.storeAt t xa xv;pure .skip) v:=by
 cases ra<;>simp only [reduceCtorEq] at h;rename_i l b off hL;split at h
 ·rename_i cs hb;split at h
  ·rename_i hc;cases h;simp at hc;obtain⟨⟨hc1,hc2⟩,hc3⟩:=hc;have hk:=rx.box hc1;obtain⟨w',hrun,h'⟩:=hI.write hL hb (off:=off) hk (by omega);have hsz:xv.cells.size=P.cellsOf t:=by rw [←hc2,hk.jP];simp
   refine⟨.skip,undef,w',G,?_,.inr ⟨rfl,rfl⟩,.refl _,h'.lA,?_⟩
   ·simp [Instr.storeAt,Instr.sureAddr,storeVar,jV hi,hsz,hrun]
   ·exact .tuple .rE
  ·cases h
 ·cases h
theorem vV{b:Nat}{o o':Obj}(h:w.heap[b]?=some o)(hn: ∀c e f,o≠ .cells c e f):(setObj b o').run P w= .ok () (w.putObj b o'):=by
 cases o<;>first|(simp [setObj,Sem.run,h,World.putObj];done)|exact absurd rfl (hn _ _ _)
theorem aOV{kk:KK}{d:TypeDesc}(hd:aMc kk d){k v:AV}{xk xv:Value}(rk:R G (.v k xk))(rv:R G (.v v xv))(hk:keyOf kk k=true){es:List (AV×AV)}{ents:List MapEntry}(hm:s8 G es ents):
  ∀{es'},aCq k v es=some es'→ ∀i,
   (Instr.findNow d xk ents i=some none∧ ∀born,s8 G es' (ents++ [{key:=xk,val:=xv,born}]))∨
   (∃j e,Instr.findNow d xk ents i=some (some (i+j,e.val))∧ents[j]?=some e∧(∀n,Instr.sameBits n e.key xk=true)∧s8 G es' (ents.modify j fun e=>{e with key:=xk,val:=xv})):=by
 induction hm with
 |nil=>
  intro es' h i;simp [aCq] at h;subst h;exact .inl ⟨rfl,fun born=> .cons rk rv .nil⟩
 |cons hk' hv ht ih=>
  rename_i a u e es ents;intro es' h i;simp only [aCq] at h;split at h
  ·rename_i hf;cases h;obtain⟨e1,e2⟩:=tO hd rk hk' hk hf;exact .inr ⟨0,e,by simp only [Instr.findNow,e1];rfl,rfl,e2 rfl,by simpa using s8.cons rk rv ht⟩
  ·rename_i hf;obtain⟨e1,_⟩:=tO hd rk hk' hk hf;split at h
   ·rename_i r hr;cases h;rcases ih hr (i+1) with ⟨h1,h2⟩|⟨j,e',h1,h2,h3,h4⟩
    ·exact .inl ⟨by simp only [Instr.findNow,e1];exact h1,fun born=> .cons hk' hv (h2 born)⟩
    ·refine .inr ⟨j+1,e',?_,by simpa using h2,h3,by simpa using s8.cons hk' hv h4⟩;simp only [Instr.findNow,e1,h1];rw [show i+1+j=i+(j+1) from by omega]
   ·cases h
  ·cases h
theorem aHn(hI:Inv P B G s w){t kt et:TypeId}(hu:P.underlying t=some (.map kt et)){kk:KK}(hkt:aHo P kt=some kk){m k x v:AV}{xm xk xv:Value}(rm:R G (.v m xm))(rk:R G (.v k xk))(rx:R G (.v x xv))
(h:(match(generalizing:=false) m,gP x with
  | .map l,some v=>
   (match s.blks[l]? with
   |some (.map es)=>
    if keyOf kk k then
     (match aCq k v es with
     |some es'=>some (fA,Fw.lA s l [v] (s.blks.set l (.map es')))
     |none=>none)
    else none
   |_=>none)
  |_,_=>none)=some (v,s1)):aCG P B G s1 w (do Instr.mapUpdate t xm xk xv;pure .skip) v:=by
 obtain⟨d,hd,hkk⟩:=aJB hkt;split at h
 ·rename_i l v1 hfix;obtain⟨b,rfl,hL⟩:=rm.aOw rfl;split at h
  ·rename_i es hb;obtain⟨o,ho,hok⟩:=hI.at hL hb;obtain⟨ents,clock,rfl,hm⟩:=hok;split at h
   ·rename_i hkey;split at h
    ·rename_i es' hput;cases h;have hc:=fun b=>run_checkKey (w:=w) hd hkk b xk;rcases aOV hkk rk (o0 hfix rx).1 hkey hm hput 0 with ⟨h1,h2⟩|⟨j,e,h1,h2,h3,h4⟩
     ·refine⟨.skip,undef,w.putObj b (.map (ents.toArray.push {key:=xk,val:=xv,born:=clock}) (clock+1)),G,?_,.inr ⟨rfl,rfl⟩,.refl _,?_,.tuple .rE⟩
      ·simp [Instr.mapUpdate,run_underlying hu,j4 ho (by simp),hc,Instr.findKey,run_underlying hd,h1,vV ho (by simp)]
      ·refine(hI.put hL (k':= .map es') ⟨ents++ [{key:=xk,val:=xv,born:=clock}],clock+1,by simp,h2 clock⟩ ?_).lA;intro j x hx;have:=hI.m b j x hx;simp [World.cell?,ho] at this
     ·rw [Nat.zero_add] at h1;refine⟨.skip,undef,w.putObj b (.map (ents.toArray.modify j fun e=>{e with key:=xk,val:=xv}) clock),G,?_,.inr ⟨rfl,rfl⟩,.refl _,?_,.tuple .rE⟩
      ·have hmod: ∀f,(ents.toArray.modify j f)=(ents.modify j f).toArray:=fun f=>by simp
       simp [Instr.mapUpdate,run_underlying hu,j4 ho (by simp),hc,Instr.findKey,run_underlying hd,h1,vV ho (by simp),Instr.keyThatStays,h2,h3]
      ·refine(hI.put hL (k':= .map es') ⟨ents.modify j fun e=>{e with key:=xk,val:=xv},clock,by simp,h4⟩ ?_).lA;intro j x hx;have:=hI.m b j x hx;simp [World.cell?,ho] at this
    ·cases h
   ·cases h
  ·cases h
 ·cases h
theorem aN4(hI:Inv P B G s w){t:TypeId}(hu:P.underlying t=some .string){a v:AV}{x:Value}(r:R G (.v a x))
(h:(match(generalizing:=false) a with| .str t=>some (AV.iter s.blks.length,{s with blks:=s.blks++ [.iter t 0]})|_=>none)=some (v,s1)):aCG P B G s1 w (do pure (Next.value (←Instr.range t x))) v:=by
 cases r<;>simp only [reduceCtorEq] at h;rename_i st hst;cases h;have hle:G.le (G.wD s.blks.length w.heap.size):=Gh.uK hI.aIA;refine⟨_,.pointer (some ⟨w.heap.size,0,none⟩),w.alloc (.stringIter st 0),_,?_,.inl rfl,hle,hI.aAt _ _ ⟨st,rfl,rfl,hst⟩,.iter oZ⟩;simp [Instr.range,run_underlying hu]
theorem aKT(st:ByteArray):(⟨st.data.toList.toArray⟩:ByteArray)=st:=by cases st;simp
theorem aI3(s:ByteArray)(pos:Nat):(Utf8.decode s pos).1≤2097151:=by
 unfold Utf8.decode;dsimp only;split
 ·dsimp only;omega
 ·split
  ·split
   ·dsimp only;omega
   ·simp [Utf8.runeError]
  ·split
   ·split
    ·dsimp only;omega
    ·simp [Utf8.runeError]
   ·split
    ·split
     ·dsimp only;omega
     ·simp [Utf8.runeError]
    ·simp [Utf8.runeError]
theorem aQp(hI:Inv P B G s w){ty:TypeId}{a v:AV}{x:Value}(r:R G (.v a x))
(h:(match(generalizing:=false) a with
  | .iter l=>
   (match s.blks[l]? with
   |some (.iter t pos)=>
    if pos<t.length then
     (match Utf8.decode ⟨t.toArray⟩ pos with
     |(c,width)=>some (AV.tuple [.bool true,.int .i64 pos,.int .i32 c],{s with blks:=s.blks.set l (.iter t (pos+width))}))
    else some (.tuple [.bool false],s)
   |_=>none)
  |_=>none)=some (v,s1)):aCG P B G s1 w (do pure (Next.value (←Instr.next x true ty))) v:=by
 cases r<;>simp only [reduceCtorEq] at h;rename_i l b hL;split at h
 ·rename_i t pos hb;obtain⟨o,ho,hok⟩:=hI.at hL hb;obtain⟨st,rfl,rfl,hst⟩:=hok;have hmem: ∀o',∀j x,G.M b j=some x→(w.putObj b o').cell? ⟨b,j,none⟩=some x:=fun o' j x hx=>by
   have:=hI.m b j x hx;simp [World.cell?,ho] at this
  split at h
  ·rename_i hlt;have hlt':pos<st.size:=by simpa using hlt
   rw [aKT] at h;cases hdec:Utf8.decode st pos with
   |mk c width=>
    rw [hdec] at h;cases h;have hc:c≤2097151:=by have:=aI3 st pos;rw [hdec] at this;exact this
    refine⟨_,.tuple #[.bool true,.int .i64 pos,.int .i32 c],w.putObj b (.stringIter st (pos+width)),G,?_,.inl rfl,.refl _,hI.put hL ⟨st,rfl,rfl,hst⟩ (hmem _),?_⟩
    ·simp [Instr.next,j4 ho (by simp),hlt',hdec,vV ho (by simp),goInt]
    ·refine .tuple (.fR (.bool _) (.fR (.int (rK (by omega))) (.fR (.int ?_) .rE)));have e: ∀n,IntKind.i32.wrap n=if n%4294967296≥2147483648 then n%4294967296-4294967296 else n%4294967296:=fun n=>by simp [IntKind.wrap,IntKind.bits,IntKind.signed]
     rw [e,if_neg (by omega)];omega
  ·rename_i hlt;have hlt': ¬pos<st.size:=by simpa using hlt
   cases h;exact⟨_,.tuple #[.bool false],w,G,by simp [Instr.next,j4 ho (by simp),hlt'],.inl rfl,.refl _,hI,.tuple (.fR (.bool _) .rE)⟩
 ·cases h
end
section
variable {P : Program} {B : Bs} {G : Gh} {s s1 : ASt} {w : World} {P' : aS} {env : Env} {ρ : Operand → Value}
section
variable {ts : Array TypeId} {t t2 e e2 ty : TypeId} {i : TypeInfo} (ht : ts[0]? = some t) (hu : P.underlying t = some (.slice e)) (ht2 : ts[1]? = some t2) (hu2 : P.underlying t2 = some (.slice e2)) (hi : P.info? e = some i)
include ht hu ht2 hu2 hi
theorem uF{A:Option Addr}{n cap m c:Nat}{X:Option Addr}{news:Array Value}{w':World}(hf:(Builtin.firstCells i.size m (.slice X m c)).run P w= .ok news w)
(hst:match A with|some a=>(storeCells (a.add (n*i.size)) news.toList).run P w= .ok () w'|none=>w'=w)(hroom:n+m≤cap):
  (Builtin.append_ ts ty #[.slice A n cap,.slice X m c]).run P w= .ok (.slice A (n+m) cap) w':=by
 cases A with
 |none=>
  simp only at hst;subst hst;simp [Builtin.append_,ht,ht2,run_underlying hu,run_underlying hu2,sizeOf,typeInfo,hi,Builtin.lenOf,hroom,hf]
 |some a=>
  simp only at hst;simp [Builtin.append_,ht,ht2,run_underlying hu,run_underlying hu2,sizeOf,typeInfo,hi,Builtin.lenOf,hroom,hf,hst]
theorem aEj{z:Value}(hz:i.zero=some z){A:Option Addr}{n cap m c:Nat}{X:Option Addr}{olds news:Array Value}(ho:(Builtin.firstCells i.size n (.slice A n cap)).run P w.drew= .ok olds w.drew)
(hf:(Builtin.firstCells i.size m (.slice X m c)).run P w.drew= .ok news w.drew)(hroom:cap<n+m)(h63:n+m≤maxLen)(hb:(n+m)*i.bytes≤140737488355328):
  (Builtin.append_ ts ty #[.slice A n cap,.slice X m c]).run P w= .ok (.slice (some ⟨w.heap.size,0,none⟩) (n+m) (grownCap w (n+m) cap e))
   (w.drew.alloc (.cells (olds++news++Builtin.zeroCells z.cells (grownCap w (n+m) cap e-(n+m))) e)):=by
 have hfit:=growslice_fits hroom hb;have hn: ¬(n+m≤cap):=by omega
 have h63': ¬(9223372036854775807<((n:Int)+(m:Int))):=by simp only [maxLen] at h63;omega
 have h48': ¬(281474976710656<Builtin.nextslicecap (n+m) cap*i.bytes):=by omega
 simp [Builtin.append_,ht,ht2,run_underlying hu,run_underlying hu2,sizeOf,typeInfo,zeroValue,hi,hz,Builtin.lenOf,hn,h63',h48',Question.forced,newRow,grownCap];rw [ho];simp [hf]
end
theorem Inv.drew(hI:Inv P B G s w):Inv P B G s w.drew:=hI.drawn _
theorem Inv.grown(hI:Inv P B G s w){esz n m:Nat}{xs ys:List AV}{css dss:List (List Value)}(hx:Css G esz xs css)(hy:Css G esz ys dss)(hn:xs.length=n)(hm:ys.length=m){e:TypeId}{z:Array Value}(hz:z.size=esz)(he:0<esz){c:Nat}(hc:n+m≤c)(hcm:c≤maxLen)
{t:Nat}{toks':List Nat}(hself:toks'[t]?=some (n+m))(hoth: ∀t',t'≠t→toks'[t']?=s.toks[t']?)(hless: ∀n0,s.toks[t]?=some n0→n0<n+m):
  ∃G',G.le G'∧Inv P B G' {s with toks:=toks'} (w.drew.alloc (.cells (css.flatten.toArray++dss.flatten.toArray++Builtin.zeroCells z (c-(n+m))) e))∧
   R G' (.v (.slice esz (xs++ys) (.tok t)) (.slice (some ⟨w.heap.size,0,none⟩) (n+m) c)):=by
 have hD:=hI.drew;have hfl:=(hx.append hy).flat;have hcells:(css.flatten.toArray++dss.flatten.toArray++Builtin.zeroCells z (c-(n+m)))=((css++dss).flatten++(Builtin.zeroCells z (c-(n+m))).toList).toArray:=by
  apply Array.ext';simp
 rw [hcells];generalize hvs:(css++dss).flatten++(Builtin.zeroCells z (c-(n+m))).toList=vs;have hlen:(css++dss).flatten.length=(n+m)*esz:=by rw [hfl.2,List.length_append,hn,hm]
 have hvl:vs.length=c*esz:=by
  rw [←hvs,List.length_append,hlen,Array.length_toList,size_zeroCells,hz,←Nat.add_mul]
  congr 1;omega
 have h1:=hD.aMl vs e (0,0) ((n+m)*esz);have hle1:=hD.pC ((n+m)*esz) vs;have hb:(w.drew.alloc (.cells vs.toArray e (0,0))).heap[w.heap.size]?=some (.cells vs.toArray e (0,0)):=oX (w:=w.drew);obtain⟨hnone,h2⟩:=h1.aL2 (t:=t) (n:=n+m) (b:=w.heap.size) (c:=c) (sz:=esz) (toks':=toks') hself hoth hless (fun hp=>absurd (Nat.lt_of_lt_of_le (B.lt _ hp) hD.size) (Nat.lt_irrefl _)) hb (by simpa using hvl) he hc hcm
  (fun j hj=>by rw [show w.heap.size=w.drew.heap.size from rfl,zY (by omega)];exact hD.aLU j)
  (fun ℓ=>hD.aOH ℓ)
  (fun t' n' b' c' sz' _ hq1 hq2 e=>by
   obtain⟨b2,c2,sz2,k⟩:=hD.tok t' n' hq1;have hq3:G.H t' n'=some (b',c',sz'):=hq2;rw [k.h] at hq3;cases hq3;exact absurd k.lt (by rw [e];exact Nat.lt_irrefl _))
 have hle:=hle1.trans (aBJ (b:=w.heap.size) (c:=c) (sz:=esz) hnone);refine⟨_,hle,h2,?_⟩;have hrow:R ((G.kL w.drew.heap.size 0 ((n+m)*esz) vs).zN t (n+m) w.heap.size c esz) (.r esz (xs++ys) w.heap.size 0):=by
  refine((hx.append hy).mono hle).row fun j y hy=> ?_;show(G.kL w.drew.heap.size 0 ((n+m)*esz) vs).M w.heap.size (0+j)=some y;have hj:j<(n+m)*esz:=by
   rcases Nat.lt_or_ge j ((n+m)*esz) with q|q
   ·exact q
   ·rw [List.getElem?_eq_none (by omega)] at hy;cases hy
  rw [Nat.zero_add,show w.heap.size=w.drew.heap.size from rfl,nH (Nat.zero_le _) hj,←hvs,List.getElem?_append_left (by omega)];exact hy
 have hxl:(xs++ys).length=n+m:=by simp [hn,hm]
 have:=R.dA (o:= .tok t) (c:=c) (by rw [hxl];exact hc) hcm hrow ⟨_,rfl,by rw [hxl];exact qB⟩;rw [hxl] at this;exact this
theorem aI1{ts:Array TypeId}{t t2 e e2 ty:TypeId}{i:TypeInfo}(ht:ts[0]?=some t)(hu:P.underlying t=some (.slice e))(ht2:ts[1]?=some t2)(hu2:P.underlying t2=some (.slice e2))(hi:P.info? e=some i)
{A:Option Addr}{n cap:Nat}(hc:n≤cap){X:Option Addr}{c:Nat}:(Builtin.append_ ts ty #[.slice A n cap,.slice X 0 c]).run P w= .ok (.slice A n cap) w:=by
 have hf:(Builtin.firstCells i.size 0 (.slice X 0 c)).run P w= .ok #[] w:=by
  cases X with
  |none=>simp [Builtin.firstCells]
  |some A=>simp [Builtin.firstCells,loadCells,loadCellsFrom]
 exact uF ht hu ht2 hu2 hi (m:=0) (w':=w) hf (by cases A<;>simp [storeCells]) hc
theorem aLH(hI:Inv P B G s w){ts:Array TypeId}{t t2 e e2 ty:TypeId}(ht:ts[0]?=some t)(hu:P.underlying t=some (.slice e))(ht2:ts[1]?=some t2)(hu2:P.underlying t2=some (.slice e2))
(hzl:(zeroOf P e).map List.length=some (P.cellsOf e)){a x v:AV}{xa xx:Value}(ra:R G (.v a xa))(rx:R G (.v x xx)){esz bytes:Nat}(hes:P.cellsOf e=esz)(hby:P.bytesOf e=bytes)
(h:(match elems s esz x with
  |some []=>(match(generalizing:=false) a with| .slice sz xs o=>some (AV.slice sz xs o,s)| .cE l o n c sz=>some (.cE l o n c sz,s)|_=>none)
  |some (y::ys)=>
   (match(generalizing:=false) a with
   | .slice sz xs o=>
    if(sz=esz||xs.isEmpty)&&(xs.length+(ys.length+1))*bytes≤big&&xs.length+(ys.length+1)≤big&&0<esz then
     (match o with
     | .full=>some (AV.slice esz (xs++y::ys) (.tok s.toks.length),{s with toks:=s.toks++ [xs.length+(ys.length+1)]})
     | .tok t=>
      (match s.toks[t]? with
      |some n=>if sz=esz&&n=xs.length then some (.slice sz (xs++y::ys) (.tok t),{s with toks:=s.toks.set t (xs.length+(ys.length+1))}) else none
      |none=>none)
     | .no=>none)
    else none
   | .cE l off len cap sz=>
    if sz=esz&&(len+(ys.length+1))*bytes≤big&&len+(ys.length+1)≤big&&0<esz then
     if len+(ys.length+1)≤cap then
      (match s.blks[l]? with
      |some (.cells cs true)=>
       if off+(len+(ys.length+1))*sz≤cs.length&&(jY (y::ys)).length=(ys.length+1)*sz then
        some (.cE l off (len+(ys.length+1)) cap sz,Fw.lA s l (jY (y::ys)) (s.blks.set l (.cells (fO cs (off+len*sz) (jY (y::ys))) true)))
       else none
      |_=>none)
     else
      (match rowOf s l off len sz with
      |some xs=>some (.slice sz (xs++y::ys) (.tok s.toks.length),{s with toks:=s.toks++ [len+(ys.length+1)]})
      |none=>none)
    else none
   |_=>none)
  |none=>none)=some (v,s1)):aCG P B G s1 w (do pure (Next.value (←Builtin.append_ ts ty #[xa,xx]))) v:=by
 cases hzo:zeroOf P e with
 |none=>simp [hzo] at hzl
 |some z=>
 obtain⟨i,zv,hi,hzv,hrz⟩:=oG (G:=G) hzo;have hzs:zv.cells.size=esz:=by
  simp [hzo] at hzl;rw [←hes,←hzl,hrz.jP];simp
 have hisz:i.size=esz:=by rw [←hes];simp [Program.cellsOf,hi]
 have hiby:i.bytes=bytes:=by rw [←hby];simp [Program.bytesOf,hi]
 have fin: ∀{x:Value}{w':World}{G':Gh},(Builtin.append_ ts ty #[xa,xx]).run P w= .ok x w'→G.le G'→Inv P B G' s1 w'→R G' (.v v x)→aCG P B G s1 w (do pure (Next.value (←Builtin.append_ ts ty #[xa,xx]))) v:=
  fun{x w' G'} h1 h2 h3 h4=>⟨.value x,x,w',G',by simp [h1],.inl rfl,h2,h3,h4⟩
 split at h
 ·
  rename_i he;obtain⟨dss,X,c,rfl,hd,_⟩:=zI hI rx he;split at h
  ·cases h;cases ra with
   |cK hm ho=>exact fin (aI1 ht hu ht2 hu2 hi (Nat.zero_le _)) (.refl _) hI (.cK hm ho)
   |dA hc hm hr ho=>exact fin (aI1 ht hu ht2 hu2 hi hc) (.refl _) hI (.dA hc hm hr ho)
  ·cases h;cases ra with
   |ms hL hc hm=>exact fin (aI1 ht hu ht2 hu2 hi hc) (.refl _) hI (.ms hL hc hm)
  ·cases h
 ·rename_i y ys he;obtain⟨dss,X,c,rfl,hd,hfirst⟩:=zI hI rx he;have hm:(y::ys).length=ys.length+1:=rfl;rw [hm] at hfirst;have hdl:dss.take (ys.length+1)=dss:=by rw [←hm,←hd.len];simp
  have hnew: ∀w':World,w'.heap=w.heap→(Builtin.firstCells i.size (ys.length+1) (.slice X (ys.length+1) c)).run P w'= .ok dss.flatten.toArray w':=fun w' hw=>by
   have:=hfirst w' hw (ys.length+1) (Nat.le_refl _);rw [hdl] at this;rw [hisz];exact this
  have grow: ∀{xs:List AV}{css:List (List Value)}{A:Option Addr}{cap:Nat}(_:Css G esz xs css){toks':List Nat}{t0:Nat}(_:xa= .slice A xs.length cap)(_:cap<xs.length+(ys.length+1))(_:xs.length+(ys.length+1)≤maxLen)(_:(xs.length+(ys.length+1))*bytes≤big)(_:0<esz)
    (_:(Builtin.firstCells esz xs.length xa).run P w.drew= .ok css.flatten.toArray w.drew)
    (_:toks'[t0]?=some (xs.length+(ys.length+1))) (_: ∀t',t'≠t0→toks'[t']?=s.toks[t']?) (_: ∀n0,s.toks[t0]?=some n0→n0<xs.length+(ys.length+1)),
    ∃x w' G',(Builtin.append_ ts ty #[xa,.slice X (ys.length+1) c]).run P w= .ok x w'∧G.le G'∧Inv P B G' {s with toks:=toks'} w'∧R G' (.v (.slice esz (xs++y::ys) (.tok t0)) x):=by
   intro xs css A cap hx toks' t0 hxa hcap h63 hb he0 hold hself hoth hless;subst hxa;have hb':(xs.length+(ys.length+1))*i.bytes≤140737488355328:=by rw [hiby];simp only [big] at hb;omega
   have hrun:=aEj ht hu ht2 hu2 hi (ty:=ty) hzv (by rw [hisz];exact hold) (hnew w.drew rfl) hcap h63 hb';obtain⟨G',h1,h2,h3⟩:=hI.grown hx hd rfl hm (e:=e) hzs he0 (grownCap_ge w _ cap e) (grownCap_le_maxLen w _ cap e h63) hself hoth hless;exact⟨_,_,G',hrun,h1,h2,h3⟩
  have newTok: ∀k,(s.toks++ [k])[s.toks.length]?=some k∧(∀t',t'≠s.toks.length→(s.toks++ [k])[t']?=s.toks[t']?)∧ ∀n0,s.toks[s.toks.length]?=some n0→n0<k:=by
   intro k;refine⟨by simp,fun t' ht'=> ?_,fun n0 h0=>by simp at h0⟩;rcases Nat.lt_or_ge t' s.toks.length with q|q
   ·rw [List.getElem?_append_left q]
   ·rw [List.getElem?_eq_none (by simp;omega),List.getElem?_eq_none q]
  have hsmall: ∀{k},k≤big→k≤maxLen:=fun{k} h=>by simp only [big,maxLen] at*;omega
  split at h
  ·rename_i sz xs o;split at h
   ·rename_i hcond;simp only [Bool.and_eq_true,decide_eq_true_eq] at hcond;obtain⟨⟨⟨hc1,hc2⟩,hc3⟩,hc4⟩:=hcond;have old: ∃css A cap,xa= .slice A xs.length cap∧xs.length≤cap∧Css G esz xs css∧n7 G o A sz xs.length cap∧(∀w':World,w'.heap=w.heap→(Builtin.firstCells esz xs.length xa).run P w'= .ok css.flatten.toArray w')∧(xs≠ []→sz=esz):=by
     have hel:elems s esz (.slice sz xs o)=some xs:=by simp only [elems];rw [if_pos hc1]
     obtain⟨css,A,cap,e1,hcs,hf⟩:=zI hI ra hel;subst e1;refine⟨css,A,cap,rfl,?_,hcs,?_,fun w' hw=> ?_,fun hne=> ?_⟩
     ·cases ra with
      |cK=>exact Nat.zero_le _
      |dA hc=>exact hc
     ·cases ra with
      |cK hm ho=>exact ho
      |dA hc hm hr ho=>exact ho
     ·have:=hf w' hw xs.length (Nat.le_refl _);rwa [show css.take xs.length=css from by rw [←hcs.len];simp] at this
     ·simp at hc1;rcases hc1 with q|q
      ·exact q
      ·exact absurd q hne
    obtain⟨css,A,cap,e1,hcap,hcs,hown,hold,hsz⟩:=old;subst e1;split at h
    ·cases h;have hcap':cap=xs.length:=hown;obtain⟨k1,k2,k3⟩:=newTok (xs.length+(ys.length+1));obtain⟨x,w',G',g1,g2,g3,g4⟩:=grow hcs rfl (by omega) (hsmall hc3) hc2 hc4 (hold w.drew rfl) k1 k2 k3;exact fin g1 g2 g3 g4
    ·rename_i t0;split at h
     ·rename_i n0 hn0;split at h
      ·rename_i hn;cases h;simp only [Bool.and_eq_true,decide_eq_true_eq] at hn;obtain⟨hsz',hn⟩:=hn;subst hn;obtain⟨b,hA,hH⟩:=hown;subst hA;obtain⟨b',c',sz',hk⟩:=hI.tok t0 _ hn0;have hq:=hk.h;rw [hH] at hq;cases hq;subst hsz';obtain⟨e0,cur,hb,hcur⟩:=hk.blk;by_cases hroom:xs.length+(ys.length+1)≤cap
       ·have hdf:=hd.flat;have hmul:xs.length*sz+(ys.length+1)*sz≤cap*sz:=by rw [←Nat.add_mul];exact Nat.mul_le_mul_right _ hroom
        have hdlen:dss.flatten.length=(ys.length+1)*sz:=by rw [hdf.2,hm]
        have hst:=run_storeCells_at P b (xs.length*sz) e0 dss.flatten 0 cur w hb (by rw [hdlen];omega) hdf.1.aNe;simp only [Nat.add_zero] at hst;rw [sL hb] at hst;have htk:(cur.toList.take (xs.length*sz)).length=xs.length*sz:=by simp only [List.length_take,Array.length_toList];omega
        generalize hL:cur.toList.take (xs.length*sz)++dss.flatten++cur.toList.drop (xs.length*sz+dss.flatten.length)=L at hst;have hLl:L.length=cur.size:=by
         rw [←hL];simp only [List.length_append,htk,List.length_drop,Array.length_toList];omega
        obtain⟨hle,hinv⟩:=hI.aLD hn0 hH hb (vs:=L) hLl (fun j hj=>by
         rw [←hL,List.getElem?_append_left (by rw [List.length_append,htk];omega),List.getElem?_append_left (by omega),List.getElem?_take_of_lt hj];simp) (n':=xs.length+(ys.length+1)) (by omega) hroom
        refine fin (uF ht hu ht2 hu2 hi (hnew w rfl) (w':=w.putObj b (.cells L.toArray e0 (0,0))) ?_ hroom) hle hinv ?_
        ·rw [hisz];simp only [eP,Nat.zero_add];exact hst
        ·have hro:R G (.r sz xs b 0):=by
          cases ra with
          |cK=>exact .w6 _ _ _
          |dA _ _ hr _=>exact hr
         have hrn:R ((G.kL b (xs.length*sz) ((xs.length+(ys.length+1))*sz) L).zN t0 (xs.length+(ys.length+1)) b cap sz) (.r sz (y::ys) b (0+xs.length*sz)):=by
          refine(hd.mono hle).row fun j v hv=> ?_;have hj:j<(ys.length+1)*sz:=by
           rcases Nat.lt_or_ge j ((ys.length+1)*sz) with q|q
           ·exact q
           ·rw [List.getElem?_eq_none (by omega)] at hv;cases hv
          show(G.kL b (xs.length*sz) ((xs.length+(ys.length+1))*sz) L).M b (0+xs.length*sz+j)=some v;rw [nH (by omega) (by rw [Nat.add_mul];omega),←hL,List.getElem?_append_left (by rw [List.length_append,htk];omega),List.getElem?_append_right (by omega),htk];rw [show 0+xs.length*sz+j-xs.length*sz=j from by omega];exact hv
         have hxl:(xs++y::ys).length=xs.length+(ys.length+1):=by simp
         have:=R.dA (o:= .tok t0) (c:=cap) (by rw [hxl];exact hroom) hk.cm ((hro.mono hle).aLN hrn) ⟨_,rfl,by rw [hxl];exact qB⟩;rw [hxl] at this;exact this
       ·have hl:=(List.getElem?_eq_some_iff.1 hn0).1;obtain⟨x,w',G',g1,g2,g3,g4⟩:=grow (t0:=t0) (toks':=s.toks.set t0 (xs.length+(ys.length+1))) hcs rfl (by omega) (hsmall hc3) hc2 hc4 (hold w.drew rfl) (List.getElem?_set_self hl) (fun t' ht'=>List.getElem?_set_ne (fun e=>ht' e.symm)) (fun n0 h0=>by rw [hn0] at h0;cases h0;omega);exact fin g1 g2 g3 g4
      ·cases h
     ·cases h
    ·cases h
   ·cases h
  ·rename_i l off len cap sz;split at h
   ·rename_i hcond;simp only [Bool.and_eq_true,decide_eq_true_eq] at hcond;obtain⟨⟨⟨hc1,hc2⟩,hc3⟩,hc4⟩:=hcond;subst hc1;cases ra with
    |ms hL hc hmx=>
    rename_i b;split at h
    ·rename_i hroom;split at h
     ·rename_i cs hb;split at h
      ·rename_i hcc;simp only [Bool.and_eq_true,decide_eq_true_eq] at hcc;cases h;have hsum:off+len*sz+(jY (y::ys)).length≤cs.length:=by have:=hcc.1;rw [Nat.add_mul] at this;rw [hcc.2];omega
       obtain⟨w',hst,hinv⟩:=hI.write hL hb (off:=off+len*sz) hd.flat.1 hsum;refine fin (uF ht hu ht2 hu2 hi (hnew w rfl) (w':=w') ?_ hroom) (.refl _) hinv.lA (.ms hL hroom hmx);rw [hisz];simp only [eP];exact hst
      ·cases h
     ·cases h
    ·rename_i hroom;split at h
     ·rename_i xs hrow;cases h;obtain⟨css,hcs,hxl,hcell⟩:=aCp hI hL hrow;subst hxl;obtain⟨k1,k2,k3⟩:=newTok (xs.length+(ys.length+1));obtain⟨x,w',G',g1,g2,g3,g4⟩:=grow hcs rfl (by omega) (hsmall hc3) hc2 hc4 (run_firstCells_some w.drew _ _ _ _ _ _ hcs.flat.2 (fun j u hu=>by rw [eP];exact(oV rfl).trans (hcell j u hu))) k1 k2 k3;exact fin g1 g2 g3 g4
     ·cases h
   ·cases h
  ·cases h
 ·cases h
end
section
variable {P : Program} {B : Bs} {G : Gh} {s s1 : ASt} {w : World} {P' : aS} {env : Env} {ρ : Operand → Value}
theorem aQn(hI:Inv P B G s w){ts:Array TypeId}{t e ty:TypeId}(ht:ts[0]?=some t)(hu:P.underlying t=some (.slice e))(hi: ∃i,P.info? e=some i){d x v:AV}{xd xx:Value}(rd:R G (.v d xd))(rx:R G (.v x xx)){esz:Nat}(hes:P.cellsOf e=esz)
(h:(match(generalizing:=false) d,elems s esz x with
  | .cE l off len _ sz,some ys=>
   (match s.blks[l]? with
   |some (.cells cs true)=>
    if sz=esz&&off+len*sz≤cs.length&&(jY (ys.take len)).length=(min ys.length len)*sz then
     some (AV.int .i64 (min ys.length len:Nat),Fw.lA s l (jY (ys.take len)) (s.blks.set l (.cells (fO cs off (jY (ys.take len))) true)))
    else none
   |_=>none)
  |_,_=>none)=some (v,s1)):aCG P B G s1 w (do pure (Next.value (←Builtin.copy_ ts ty #[xd,xx]))) v:=by
 obtain⟨i,hi⟩:=hi;have hisz:i.size=esz:=by rw [←hes];simp [Program.cellsOf,hi]
 split at h
 ·rename_i l off len cap sz ys he;obtain⟨dss,X,c,rfl,hd,hfirst⟩:=zI hI rx he;cases rd with
  |ms hL hc hmx=>
  rename_i b;split at h
  ·rename_i cs hb;split at h
   ·rename_i hcond;simp only [Bool.and_eq_true,decide_eq_true_eq] at hcond;obtain⟨⟨hc1,hc2⟩,hc3⟩:=hcond;subst hc1;cases h;have hdt:=(hd.take len).flat;have hle:min ys.length len*sz≤len*sz:=Nat.mul_le_mul_right _ (Nat.min_le_right _ _);have hsum:off+(jY (ys.take len)).length≤cs.length:=by rw [hc3];omega
    obtain⟨w',hst,hinv⟩:=hI.write hL hb (off:=off) hdt.1 hsum;have hf:=hfirst w rfl (min ys.length len) (Nat.min_le_left _ _);have hmin:dss.take (min ys.length len)=dss.take len:=by
     rw [←hd.len];rcases Nat.le_total dss.length len with q|q
     ·rw [Nat.min_eq_left q,List.take_of_length_le (Nat.le_refl _),List.take_of_length_le q]
     ·rw [Nat.min_eq_right q]
    rw [hmin] at hf;refine⟨_,.int .i64 (min ys.length len:Nat),w',G,?_,.inl rfl,.refl _,hinv.lA,.int (rK (by have:=Nat.min_le_right ys.length len;simp only [maxLen] at*;omega))⟩;have hnm:Nat.min ys.length len=min ys.length len:=rfl;simp [Builtin.copy_,ht,run_underlying hu,Builtin.lenOf,sizeOf,typeInfo,hi,hnm,hisz,hf,hst,goInt]
   ·cases h
  ·cases h
 ·cases h
theorem aJk: ∀(n:Nat){z:List AV}{vs:List Value},R G (.k z vs)→R G (.k (aDm n z) (List.replicate n vs).flatten)
 |0,_,_,_=>by simpa [aDm] using R.gN
 |n+1,z,vs,h=>by
  simp only [aDm,List.replicate_succ,List.flatten_cons];exact R.sT h (aJk n h)
theorem aKE(hI:Inv P B G s w){t e:TypeId}(hu:P.underlying t=some (.slice e)){z:List AV}(hz:zeroOf P e=some z){esz bytes:Nat}(hzl:z.length=esz)(hes:P.cellsOf e=esz)(hby:P.bytesOf e=bytes){a b v:AV}{xa xb:Value}(ra:R G (.v a xa))(rb:R G (.v b xb))
(h:(match g6 a,g6 b with
  |some l,some c=>
   if l≤c&&c*bytes≤big&&c≤big then some (AV.cE s.blks.length 0 l c esz,{s with blks:=s.blks++ [.cells (aDm c z) true]}) else none
  |_,_=>none)=some (v,s1)):aCG P B G s1 w (do pure (Next.value (←Instr.makeSlice t xa xb))) v:=by
 obtain⟨i,zv,hi,hzv,hrz⟩:=oG (G:=G) hz;split at h
 ·rename_i l c h1 h2;obtain⟨k1,rfl⟩:=sW h1 ra;obtain⟨k2,rfl⟩:=sW h2 rb;split at h
  ·rename_i hcond;simp only [Bool.and_eq_true,decide_eq_true_eq] at hcond;obtain⟨⟨hc1,hc2⟩,hc3⟩:=hcond;cases h;have hiby:i.bytes=bytes:=by rw [←hby];simp [Program.bytesOf,hi]
   have hisz:i.size=esz:=by rw [←hes];simp [Program.cellsOf,hi]
   have hzs:zv.cells.size=esz:=by rw [←hzl,hrz.jP];simp
   have hcb:c≤maxLen:=by simp only [big,maxLen] at*;omega
   have hw: ∀n:Nat,n≤maxLen→IntKind.i64.wrap (n:Int)=n:=fun n h=>rK h;have hcells:((Array.range (c*i.size)).map (fun j=>zv.cells[j%zv.cells.size]!)).toList=(List.replicate c zv.cells.toList).flatten:=by
    have:=aBN zv.cells.toList c;rw [show zv.cells.toList.length=i.size from by rw [hisz,←hzs];simp] at this;simpa using this
   obtain⟨hle,h2⟩:=hI.aB6 (aJk c hrz) e;refine⟨_,.slice (some ⟨w.heap.size,0,none⟩) l c,w.alloc (.cells (List.replicate c zv.cells.toList).flatten.toArray e),_,?_,.inl rfl,hle,h2,.ms oZ hc1 hcb⟩;have e1: ¬((c:Int)<0):=by omega
   have e2: ¬(281474976710656<(i.bytes:Int)*(c:Int)):=by
    rw [hiby];have:((bytes:Int)*(c:Int))=((c*bytes:Nat):Int):=by rw [Nat.mul_comm,Int.natCast_mul]
    rw [this];simp only [big] at hc2;omega
   have e3: ¬((l:Int)<0):=by omega
   have e4: ¬((c:Int)<(l:Int)):=by omega
   have hcells':(Array.range (c*i.size)).map (fun j=>zv.cells[j%zv.cells.size]!)=(List.replicate c zv.cells.toList).flatten.toArray:=by
    apply Array.ext';rw [hcells]
   by_cases q:c*i.size=0
   ·have q2:(List.replicate c zv.cells.toList).flatten.toArray= #[]:=by rw [←hcells',q];simp
    simp [Instr.makeSlice,run_underlying hu,asInt,asIntOf,typeInfo,hi,hw l (by omega),hw c hcb,e1,e2,e3,e4,sizeOf,q,newRow,q2,Array.range_zero']
   ·simp [Instr.makeSlice,run_underlying hu,asInt,asIntOf,typeInfo,hi,hw l (by omega),hw c hcb,e1,e2,e3,e4,sizeOf,q,newRow,zeroValue,hzv,hcells']
  ·cases h
 ·cases h
theorem aKM{h:Hint}{d:Option Nat}{op:Op}{ag:Bool}{sz:Nat}{x:aJ}(hk:cC P h d op=some (.load ag sz x)): ∃t a,op= .load t a∧nR P t=some ag∧cT a=some x∧sz=P.cellsOf t:=by
 unfold cC at hk;split at hk
 all_goals (try unfold cB at hk)
 all_goals (try unfold jX at hk)
 all_goals (repeat' (split at hk))
 all_goals first
  |(cases hk;done)
  |(simp only [Option.map_eq_some_iff,reduceCtorEq,and_false,exists_false] at hk;done)
  |(cases hk;exact⟨_,_,rfl,by assumption,by assumption,rfl⟩)
theorem aHM{h:Hint}{d:Option Nat}{op:Op}{ok:Bool}{kk:KK}{z:AV}{m k:aJ}(hk:cC P h d op=some (.lookup ok kk z m k)):
  ∃t xm xk kt et,op= .lookup t xm xk ok∧P.underlying t=some (.map kt et)∧aHo P kt=some kk∧zeroV P et=some z∧cT xm=some m∧cT xk=some k:=by
 unfold cC at hk;split at hk
 all_goals (try unfold cB at hk)
 all_goals (try unfold jX at hk)
 all_goals (repeat' (split at hk))
 all_goals first
  |(cases hk;done)
  |(simp only [Option.map_eq_some_iff,reduceCtorEq,and_false,exists_false] at hk;done)
  |(cases hk;exact⟨_,_,_,_,_,rfl,by assumption,by assumption,by assumption,by assumption,by assumption⟩)
theorem aP0(hI:Inv P B G s w)(hO:Opn P' env G ρ){h:Hint}{o:Oper}{aop:AOp}(hk:cC P h o.dst o.op=some aop){v:AV}(hv:fS P' env s aop=some v):lC P G w (execOp ρ o) v:=by
 cases aop with
 |load ag sz x=>
  obtain⟨t,a,ho,hag,ha,rfl⟩:=aKM hk;simp only [fS] at hv;simpa [execOp,ho,lC] using (aJ5 hI hag (hO.out _ _ ha) hv).lift
 |lookup ok kk z m k=>
  obtain⟨t,xm,xk,kt,et,ho,hu,hkt,hz,hm,hk'⟩:=aHM hk;simp only [fS] at hv;simpa [execOp,ho,lC] using (aLd hI hu hkt hz (hO.out _ _ hm) (hO.out _ _ hk') hv).lift
 |_=>simp [fS] at hv
theorem aNr{h:Hint}{d:Option Nat}{op:Op}{x:aJ}(hk:cC P h d op=some (.box x)): ∃t a,op= .box t a∧cT a=some x:=by
 unfold cC at hk;split at hk
 all_goals (try unfold cB at hk)
 all_goals (try unfold jX at hk)
 all_goals (repeat' (split at hk))
 all_goals first
  |(cases hk;done)
  |(simp only [Option.map_eq_some_iff,reduceCtorEq,and_false,exists_false] at hk;done)
  |(cases hk;exact⟨_,_,rfl,by assumption⟩)
theorem aIJ{h:Hint}{d:Option Nat}{op:Op}{z:List AV}(hk:cC P h d op=some (.alloc z)): ∃t,op= .alloc t∧zeroOf P t=some z:=by
 unfold cC at hk;split at hk
 all_goals (try unfold cB at hk)
 all_goals (try unfold jX at hk)
 all_goals (repeat' (split at hk))
 all_goals first
  |(cases hk;done)
  |(simp only [Option.map_eq_some_iff,reduceCtorEq,and_false,exists_false] at hk;done)
  |(cases hk;exact⟨_,rfl,by assumption⟩)
theorem aI4{h:Hint}{d:Option Nat}{op:Op}{sz:Nat}{a x:aJ}(hk:cC P h d op=some (.store sz a x)): ∃t i xa xv,op= .store t xa xv∧P.info? t=some i∧cT xa=some a∧cT xv=some x∧sz=P.cellsOf t:=by
 unfold cC at hk;split at hk
 all_goals (try unfold cB at hk)
 all_goals (try unfold jX at hk)
 all_goals (repeat' (split at hk))
 all_goals first
  |(cases hk;done)
  |(simp only [Option.map_eq_some_iff,reduceCtorEq,and_false,exists_false] at hk;done)
  |(cases hk;exact⟨_,_,_,_,rfl,by assumption,by assumption,by assumption,rfl⟩)
theorem aI0{h:Hint}{d:Option Nat}{op:Op}(hk:cC P h d op=some .mkMap): ∃t,op= .makeMap t none:=by
 unfold cC at hk;split at hk
 all_goals (try unfold cB at hk)
 all_goals (try unfold jX at hk)
 all_goals (repeat' (split at hk))
 all_goals first
  |(cases hk;done)
  |(simp only [Option.map_eq_some_iff,reduceCtorEq,and_false,exists_false] at hk;done)
  |exact⟨_,rfl⟩
theorem aEs{h:Hint}{d:Option Nat}{op:Op}{esz bytes:Nat}{z:List AV}{l c:aJ}(hk:cC P h d op=some (.mkSlice esz bytes z l c)):
  ∃t e xl xc,op= .makeSlice t xl xc∧P.underlying t=some (.slice e)∧zeroOf P e=some z∧z.length=P.cellsOf e∧esz=P.cellsOf e∧bytes=P.bytesOf e∧cT xl=some l∧cT xc=some c:=by
 unfold cC at hk;split at hk
 all_goals (try unfold cB at hk)
 all_goals (try unfold jX at hk)
 all_goals (repeat' (split at hk))
 all_goals first
  |(cases hk;done)
  |(simp only [Option.map_eq_some_iff,reduceCtorEq,and_false,exists_false] at hk;done)
  |(cases hk;exact⟨_,_,_,_,rfl,by assumption,by assumption,by assumption,rfl,rfl,by assumption,by assumption⟩)
theorem aH1{h:Hint}{d:Option Nat}{op:Op}{kk:KK}{m k x:aJ}(hk:cC P h d op=some (.kM kk m k x)):
  ∃t xm xk xv kt et,(op= .mapUpdate t xm xk xv∨op= .insert t xm xk xv)∧P.underlying t=some (.map kt et)∧aHo P kt=some kk∧cT xm=some m∧cT xk=some k∧cT xv=some x:=by
 unfold cC at hk;split at hk
 all_goals (try unfold cB at hk)
 all_goals (try unfold jX at hk)
 all_goals (repeat' (split at hk))
 all_goals first
  |(cases hk;done)
  |(simp only [Option.map_eq_some_iff,reduceCtorEq,and_false,exists_false] at hk;done)
  |(simp only [Option.map_eq_some_iff,AOp.kM.injEq] at hk;obtain⟨_,h1,rfl,rfl,rfl,rfl⟩:=hk;exact⟨_,_,_,_,_,_,.inl rfl,by assumption,h1,by assumption,by assumption,by assumption⟩)
  |(simp only [Option.map_eq_some_iff,AOp.kM.injEq] at hk;obtain⟨_,h1,rfl,rfl,rfl,rfl⟩:=hk;exact⟨_,_,_,_,_,_,.inr rfl,by assumption,h1,by assumption,by assumption,by assumption⟩)
theorem aDa{h:Hint}{d:Option Nat}{op:Op}{x:aJ}(hk:cC P h d op=some (.mA x)): ∃t a,op= .range t a∧P.underlying t=some .string∧cT a=some x:=by
 unfold cC at hk;split at hk
 all_goals (try unfold cB at hk)
 all_goals (try unfold jX at hk)
 all_goals (repeat' (split at hk))
 all_goals first
  |(cases hk;done)
  |(simp only [Option.map_eq_some_iff,reduceCtorEq,and_false,exists_false] at hk;done)
  |(cases hk;exact⟨_,_,rfl,by assumption,by assumption⟩)
theorem aEq{h:Hint}{d:Option Nat}{op:Op}{x:aJ}(hk:cC P h d op=some (.mH x)): ∃a,op= .next a true∧cT a=some x:=by
 unfold cC at hk;split at hk
 all_goals (try unfold cB at hk)
 all_goals (try unfold jX at hk)
 all_goals (repeat' (split at hk))
 all_goals first
  |(cases hk;done)
  |(simp only [Option.map_eq_some_iff,reduceCtorEq,and_false,exists_false] at hk;done)
  |(simp only [Option.map_eq_some_iff,AOp.mH.injEq] at hk;obtain⟨_,h1,rfl⟩:=hk;exact⟨_,rfl,h1⟩)
theorem aFT {h : Hint} {d : Option Nat} {op : Op} {tk : Bool} {esz bytes : Nat} {a x : aJ} (hk : cC P h d op = some (.append tk esz bytes a x)) :
    ∃ c : Call, ∃ xa xx t t2 e e2, op = .call c ∧ c.callee = Callee.builtin Builtin.append ∧ c.args.toList = [xa, xx] ∧ c.argTypes[0]? = some t ∧ P.underlying t = some (.slice e) ∧ c.argTypes[1]? = some t2 ∧ P.underlying t2 = some (.slice e2) ∧
      (zeroOf P e).map List.length = some (P.cellsOf e) ∧ esz = P.cellsOf e ∧ bytes = P.bytesOf e ∧ cT xa = some a ∧ cT xx = some x := by
  unfold cC at hk;split at hk
  all_goals (try unfold cB at hk)
  all_goals (try unfold jX at hk)
  all_goals (repeat' (split at hk))
  all_goals first
    | (cases hk; done)
    | (simp only [Option.map_eq_some_iff, reduceCtorEq, and_false, exists_false] at hk; done)
    | (cases hk
       rename_i hargs _ _ _ _ _ _ _ h0 h1 _ _ _;obtain ⟨t, ht, hu⟩ := Option.bind_eq_some_iff.1 h0;obtain ⟨t2, ht2, hu2⟩ := Option.bind_eq_some_iff.1 h1;exact ⟨_, _, _, t, t2, _, _, rfl, by assumption, hargs, ht, hu, ht2, hu2, by assumption, rfl, rfl, by assumption, by assumption⟩)
theorem aKG {h : Hint} {d : Option Nat} {op : Op} {esz : Nat} {a x : aJ} (hk : cC P h d op = some (.copy esz a x)) :
    ∃ c : Call, ∃ xa xx t e, op = .call c ∧ c.callee = Callee.builtin Builtin.copy ∧ c.args.toList = [xa, xx] ∧ c.argTypes[0]? = some t ∧ P.underlying t = some (.slice e) ∧
      (∃ i, P.info? e = some i) ∧ esz = P.cellsOf e ∧ cT xa = some a ∧ cT xx = some x := by
  unfold cC at hk;split at hk
  all_goals (try unfold cB at hk)
  all_goals (try unfold jX at hk)
  all_goals (repeat' (split at hk))
  all_goals first
    | (cases hk; done)
    | (simp only [Option.map_eq_some_iff, reduceCtorEq, and_false, exists_false] at hk; done)
    | (cases hk
       rename_i hargs _ _ _ _ _ _ _ h0 _ _ _ hi _ _;obtain ⟨t, ht, hu⟩ := Option.bind_eq_some_iff.1 h0;exact ⟨_, _, _, t, _, rfl, by assumption, hargs, ht, hu, ⟨_, hi⟩, rfl, by assumption, by assumption⟩)
theorem aP2(hI:Inv P B G s w)(hO:Opn P' env G ρ){h:Hint}{o:Oper}{aop:AOp}(hk:cC P h o.dst o.op=some aop){v:AV}(hv:eD P' env s aop=some (v,s1)):aCG P B G s1 w (execOp ρ o) v:=by
 cases aop with
 |box x=>
  obtain⟨t,a,ho,ha⟩:=aNr hk;simp only [eD] at hv;split at hv
  ·rename_i hb;cases hv;simpa [execOp,ho,Instr.box] using aPL hI t ((hO.out _ _ ha).box hb)
  ·cases hv
 |alloc z=>
  obtain⟨t,ho,hz⟩:=aIJ hk;simp only [eD] at hv;cases hv;obtain⟨i,zv,hi,hzv,hr⟩:=oG (G:=G) hz;have:=aPL hI t hr;unfold aCG at this⊢;simpa [execOp,ho,Instr.alloc,dM hi hzv] using this
 |store sz a x=>
  obtain⟨t,i,xa,xv,ho,hi,ha,hx,rfl⟩:=aI4 hk;simp only [eD] at hv;simpa [execOp,ho] using aOz hI hi (hO.out _ _ ha) (hO.out _ _ hx) hv
 |mkMap=>
  obtain⟨t,ho⟩:=aI0 hk;simp only [eD] at hv;cases hv;have hle:G.le (G.wD s.blks.length w.heap.size):=Gh.uK hI.aIA;refine⟨_,.map (some w.heap.size),w.alloc (.map #[] 0),_,?_,.inl rfl,hle,hI.aAt _ _ ⟨[],0,rfl,.nil⟩,.map oZ⟩;simp [execOp,ho,Instr.makeMap]
 |mkSlice esz bytes z l c=>
  obtain⟨t,e,xl,xc,ho,hu,hz,hzl,rfl,rfl,hl,hc⟩:=aEs hk;simp only [eD] at hv;simpa [execOp,ho] using aKE hI hu hz hzl rfl rfl (hO.out _ _ hl) (hO.out _ _ hc) hv
 |kM kk m k x=>
  obtain⟨t,xm,xk,xv,kt,et,ho,hu,hkt,hm,hk',hx⟩:=aH1 hk;simp only [eD] at hv;rcases ho with ho|ho
  ·simpa [execOp,ho] using aHn hI hu hkt (hO.out _ _ hm) (hO.out _ _ hk') (hO.out _ _ hx) hv
  ·simpa [execOp,ho] using aHn hI hu hkt (hO.out _ _ hm) (hO.out _ _ hk') (hO.out _ _ hx) hv
 |mA x=>
  obtain⟨t,a,ho,hu,ha⟩:=aDa hk;simp only [eD] at hv;simpa [execOp,ho] using aN4 hI hu (hO.out _ _ ha) hv
 |mH x=>
  obtain⟨a,ho,ha⟩:=aEq hk;simp only [eD] at hv;simpa [execOp,ho] using aQp (ty:=o.type) hI (hO.out _ _ ha) hv
 |append tk esz bytes a x=>
  obtain⟨c,xa,xx,t,t2,e,e2,ho,hc,hargs,ht,hu,ht2,hu2,hz,rfl,rfl,ha,hx⟩:=aFT hk;have hca:c.args= #[xa,xx]:=by rw [←Array.toArray_toList (xs:=c.args),hargs]
  simp only [eD] at hv;split at hv
  ·cases hv
  simpa [execOp,ho,resolve,hc,invoke,builtin,hca] using aLH (ty:=o.type) hI ht hu ht2 hu2 hz (hO.out _ _ ha) (hO.out _ _ hx) rfl rfl hv
 |copy esz a x=>
  obtain⟨c,xa,xx,t,e,ho,hc,hargs,ht,hu,hi,rfl,ha,hx⟩:=aKG hk;have hca:c.args= #[xa,xx]:=by rw [←Array.toArray_toList (xs:=c.args),hargs]
  simp only [eD] at hv;simpa [execOp,ho,resolve,hc,invoke,builtin,hca] using aQn (ty:=o.type) hI ht hu hi (hO.out _ _ ha) (hO.out _ _ hx) rfl hv
 |_=>simp [eD] at hv
end
section
variable {P : Program} {B : Bs} {G : Gh} {s s1 : ASt} {w : World} {P' : aS} {env : Env} {ρ : Operand → Value}
theorem Inv.freeze(hI:Inv P B G s w){l b:Nat}(hL:G.L l=some b){cs:List AV}{wr:Bool}(hb:s.blks[l]?=some (.cells cs wr)):
  ∃vs e,w.heap[b]?=some (.cells (List.toArray vs) e (0,0))∧G.le (G.kL b 0 vs.length vs)∧Inv P B (G.kL b 0 vs.length vs) {s with blks:=s.blks.set l (.cells cs false)} w:=by
 obtain⟨o,ho,hok⟩:=hI.at hL hb;obtain⟨vs,e,rfl,hk,h3,h4⟩:=hok;have hin: ∀o,0≤o→o<vs.length→ ∀x,G.M b o=some x→vs[o]?=some x:=fun o _ _ x hx=>by
  have:=hI.m b o x hx;rwa [tN ho] at this
 have hle:G.le (G.kL b 0 vs.length vs):=Gh.yV hin;refine⟨vs,e,ho,hle,hI.aRX hle (fun _=>rfl) (fun _ _=>rfl) hL (fun x j hx=>wI hx) (fun j x hx=> ?_) (fun o ho'=> ?_)⟩
 ·by_cases hj:0≤j∧j<vs.length
  ·rw [nH hj.1 hj.2] at hx;rw [tN ho];exact hx
  ·rw [zY hj] at hx;exact hI.m b j x hx
 ·rw [ho] at ho';cases ho';refine⟨vs,e,rfl,hk.mono hle,fun h=>(by cases h),fun _ j x hx=> ?_⟩;have hj:j<vs.length:=by
   rcases Nat.lt_or_ge j vs.length with q|q
   ·exact q
   ·rw [List.getElem?_eq_none q] at hx;cases hx
  rw [nH (Nat.zero_le _) hj];exact hx
theorem aJt(hI:Inv P B G s w){a a':AV}{x:Value}(r:R G (.v a x))(h:aC4 s a=some (a',s1)): ∃G',G.le G'∧Inv P B G' s1 w∧R G' (.v a' x):=by
 unfold aC4 at h;split at h
 ·rename_i l off len cap sz;cases r with
  |ms hL hc hm=>
  rename_i b;split at h
  ·rename_i xs cs wr hrow hb;cases h;obtain⟨css,hcs,hxl,hcell⟩:=aCp hI hL hrow;obtain⟨vs,e,ho,hle,hinv⟩:=hI.freeze hL hb;refine⟨_,hle,hinv,?_⟩;subst hxl;refine .dA hc hm ((hcs.mono hle).row fun j y hy=> ?_) trivial;have:=hcell j y hy;rw [tN ho] at this;have hj:off+j<vs.length:=by
    rcases Nat.lt_or_ge (off+j) vs.length with q|q
    ·exact q
    ·rw [List.getElem?_eq_none q] at this;cases this
   rw [nH (Nat.zero_le _) hj];exact this
  ·cases h
 ·split at h
  ·rename_i y hy;cases h;exact⟨G,.refl _,hI,(o0 hy r).1⟩
  ·cases h
theorem aCz: ∀{a_ as':List AV}{s s1:ASt}{G:Gh}{xs:List Value},Inv P B G s w→R G (.l a_ xs)→rL s a_=some (as',s1)→ ∃G',G.le G'∧Inv P B G' s1 w∧R G' (.l as' xs)
 | [],as',s,s1,G,xs,hI,r,h=>by simp [rL] at h;obtain⟨rfl,rfl⟩:=h;exact⟨G,.refl _,hI,r⟩
 |a::a_,as',s,s1,G,xs,hI,r,h=>by
  cases r with
  |fR r1 r2=>
   simp only [rL] at h;split at h
   ·cases h
   ·rename_i y s2 hy;split at h
    ·cases h
    ·rename_i ys s3 hys;cases h;obtain⟨G1,h1,h2,h3⟩:=aJt hI r1 hy;obtain⟨G2,k1,k2,k3⟩:=aCz h2 (r2.mono h1) hys;exact⟨G2,h1.trans k1,k2,.fR (h3.mono k1) k3⟩
structure Bs.ext(B B':Bs):Prop where
 pr: ∀b,B.Pr b→B'.Pr b
 os:B'.w0.os=B.w0.os
 tape:B'.w0.tape=B.w0.tape
 output:B'.w0.output=B.w0.output
 size:B.w0.heap.size≤B'.w0.heap.size
 heap: ∀b,B.Pr b→B'.w0.heap[b]?=B.w0.heap[b]?
 M0: ∀b,B.Pr b→ ∀o,B'.M0 b o=B.M0 b o
theorem Bs.ext.refl(B:Bs):B.ext B:=⟨fun _ h=>h,rfl,rfl,rfl,Nat.le_refl _,fun _ _=>rfl,fun _ _ _=>rfl⟩
theorem Inv.base{B':Bs}(h:Inv P B' G s w)(e:B.ext B'):Inv P B G s w where
 os:=h.os.trans e.os
 tape:=h.tape.trans e.tape
 output:=h.output.trans e.output
 size:=Nat.le_trans e.size h.size
 pr:=fun b hb=>(h.pr b (e.pr b hb)).trans (e.heap b hb)
 prM:=fun b hb o=>(h.prM b (e.pr b hb) o).trans (e.M0 b hb o)
 m:=h.m
 l:=fun ℓ b hl=>⟨(h.l ℓ b hl).1,(h.l ℓ b hl).2.1,fun hp=>(h.l ℓ b hl).2.2 (e.pr b hp)⟩
 inj:=h.inj
 blk:=h.blk
 tok:=fun t n ht=>by
  obtain⟨b,c,sz,k⟩:=h.tok t n ht;exact⟨b,c,sz,k.h,fun hp=>k.np (e.pr b hp),k.lt,k.blk,k.szp,k.nc,k.cm,k.m,k.l⟩
 lX:=h.lX
 hh:=h.hh
 tot:=h.tot
def Bs.now(_:Bs)(w:World)(G:Gh)(Pr:Nat→Prop)(lt: ∀b,Pr b→b<w.heap.size):Bs:=⟨Pr,w,G.M,lt⟩
theorem Inv.aP5(h:Inv P B G s w)(Pr:Nat→Prop)(lt: ∀b,Pr b→b<w.heap.size)(hl: ∀ℓ b,G.L ℓ=some b→ ¬Pr b)(ht: ∀t n b c sz,s.toks[t]?=some n→G.H t n=some (b,c,sz)→ ¬Pr b):
  Inv P (B.now w G Pr lt) G s w where
 os:=rfl
 tape:=rfl
 output:=rfl
 size:=Nat.le_refl _
 pr:=fun _ _=>rfl
 prM:=fun _ _ _=>rfl
 m:=h.m
 l:=fun ℓ b hl'=>⟨(h.l ℓ b hl').1,(h.l ℓ b hl').2.1,hl ℓ b hl'⟩
 inj:=h.inj
 blk:=h.blk
 tok:=fun t n ht'=>by
  obtain⟨b,c,sz,k⟩:=h.tok t n ht';exact⟨b,c,sz,k.h,ht t n b c sz ht' k.h,k.lt,k.blk,k.szp,k.nc,k.cm,k.m,k.l⟩
 lX:=h.lX
 hh:=h.hh
 tot:=h.tot
theorem Inv.aOb{B':Bs}(h:Inv P B' G s w)(e:B.ext B')(Pr:Nat→Prop)(lt: ∀b,Pr b→b<w.heap.size)(hp: ∀b,B.Pr b→Pr b):B.ext (B'.now w G Pr lt) where
 pr:=hp
 os:=h.os.trans e.os
 tape:=h.tape.trans e.tape
 output:=h.output.trans e.output
 size:=Nat.le_trans e.size h.size
 heap:=fun b hb=>(h.pr b (e.pr b hb)).trans (e.heap b hb)
 M0:=fun b hb o=>(h.prM b (e.pr b hb) o).trans (e.M0 b hb o)
structure aLw(B B':Bs)(pd:List (Nat×Nat))(tmps:Array Value):Prop where
 at_: ∀d n,(d,n)∈pd→ ∃b e vs,tmps.getD d undef= .pointer (some ⟨b,0,none⟩)∧ ¬B.Pr b∧B'.Pr b∧B'.w0.heap[b]?=some (.cells (List.toArray vs) e (0,0))∧vs.length=n∧ ∀o,B'.M0 b o=none
 inj: ∀d n d' n' b,(d,n)∈pd→(d',n')∈pd→tmps.getD d undef= .pointer (some ⟨b,0,none⟩)→tmps.getD d' undef= .pointer (some ⟨b,0,none⟩)→d=d'
theorem aLw.nil{B':Bs}{tmps:Array Value}:aLw B B' [] tmps:=⟨fun _ _ h=>(by cases h),fun _ _ _ _ _ h=>(by cases h)⟩
theorem aFh{tmps:Array Value}{d i:Nat}{v:Value}(h:i≠d):(tmps.setIfInBounds d v).getD i undef=tmps.getD i undef:=by
 simp [Array.getD_eq_getD_getElem?,Array.getElem?_setIfInBounds_ne (Ne.symm h)]
theorem xH{tmps:Array Value}{d:Nat}{v:Value}(h:d<tmps.size):(tmps.setIfInBounds d v).getD d undef=v:=by
 simp [Array.getD_eq_getD_getElem?,h]
theorem j8{d:Option Nat}{pd:List (Nat×Nat)}{x:Nat×Nat}(h:x∈aK d pd):x∈pd∧ ∀e,d=some e→x.1≠e:=by
 unfold aK at h;split at h
 ·exact⟨h,fun e he=>by cases he⟩
 ·rename_i d;rw [List.mem_filter] at h;refine⟨h.1,fun e he=> ?_⟩;cases he;intro q;rw [q] at h;simp at h
theorem aLw.put{B':Bs}{pd:List (Nat×Nat)}{tmps:Array Value}(h:aLw B B' pd tmps)(d:Option Nat)(v:Value):aLw B B' (aK d pd) (match d with|some d=>tmps.setIfInBounds d v|none=>tmps):=by
 have hg: ∀x,x∈aK d pd→(match d with|some d=>tmps.setIfInBounds d v|none=>tmps).getD x.1 undef=tmps.getD x.1 undef:=by
  intro x hx;cases d with
  |none=>rfl
  |some d=>exact aFh ((j8 hx).2 d rfl)
 refine⟨fun e n he=> ?_,fun e n e' n' b h1 h2 h3 h4=> ?_⟩
 ·rw [hg _ he];exact h.at_ e n (j8 he).1
 ·rw [hg _ h1] at h3;rw [hg _ h2] at h4;exact h.inj e n e' n' b (j8 h1).1 (j8 h2).1 h3 h4
end
def aRu(G:Gh):jM→Ending→Prop
 | .ret v,.returned x=>R G (.v v x)
 | .panic v,.panicked chain=> ∃x,chain= [{v:=x,recovered:=false}]∧R G (.v v x)
 |_,_=>False
def uR(P:Program)(B:Bs)(G:Gh)(s':ASt)(r:jM)(e:Ending)(w':World):Prop:= ∃G',G.le G'∧Inv P B G' s' w'∧aRu G' r e
def FV(P:Program):Fence:={fn:=fun f=> ∃fn,P.funcs[f]?=some fn,depth:=none,alive:=false}
theorem aPc{P:Program}(n:Nat):(FV P).room n:=fun _ h=>by simp [FV] at h
def aNz(P:Program)(m:Sem Next)(w:World)(R:Ending→World→Prop):Prop:=
 ∃n w1,m.run P w= .ok n w1∧(match n with| .enter f args=>CallsIn (FV P) 0 P f args w1 R| .value x=>R (.returned x) w1|_=>False)
def sI(G:Gh):DM→FrameMode→Prop
 | .ret,.returning=>True
 | .pan v,.panicking chain=> ∃x,chain= [{v:=x,recovered:=false}]∧R G (.v v x)
 |_,_=>False
structure HOk(P:Program)(P':aS)(H:Handler):Prop where
 func: ∀f args s r s',H.call (.func f) args s=some (r,s')→ ∀B G w xs,Inv P B G s w→g8 P' G→R G (.l args xs)→aNz P (callFunc f xs.toArray) w (uR P B G s' r)
 yield: ∀l args s r s',H.call (.yield l) args s=some (r,s')→ ∀B G w xs b,Inv P B G s w→g8 P' G→R G (.l args xs)→G.L l=some b→
  ∃f tmps a_ bd,(Instr.yield b xs.toArray).run P w= .ok (.round b f tmps a_ bd) w∧RoundIn (FV P) 0 P b f tmps a_ bd w (uR P B G s' r)
 dcall: ∀f args m s m' s',H.dcall f args m s=some (m',s')→ ∀B G w xs u,Inv P B G s w→g8 P' G→R G (.l args xs)→sI G m u→
  (callFunc f xs.toArray).run P w= .ok (.enter f xs.toArray) w∧CallsDIn (FV P) 0 P f xs.toArray u w fun e u' w'=> ∃G',G.le G'∧Inv P B G' s' w'∧(∃x,e= .returned x)∧sI G' m' (Go.settle u')
def DOk(G:Gh):hY→Deferred→Prop
 | .mark l,d=> ∃b,d.target= .collected b∧G.L l=some b
 | .call f args,d=> ∃cap:List Value,∃xs:List Value,d.target= .fn (.func f) cap.toArray∧d.args=xs.toArray∧R G (.l args (xs++cap))
inductive pQ(G:Gh):List hY→List Deferred→Prop
 |nil:pQ G [] []
 |cons {a d a_ ds} (h:DOk G a d) (t:pQ G a_ ds):pQ G (a::a_) (d::ds)
theorem DOk.mono{G G':Gh}(hG:G.le G'){a:hY}{d:Deferred}(h:DOk G a d):DOk G' a d:=by
 cases a with
 |mark l=>obtain⟨b,h1,h2⟩:=h;exact⟨b,h1,hG.L _ _ h2⟩
 |call f args=>obtain⟨cap,xs,h1,h2,h3⟩:=h;exact⟨cap,xs,h1,h2,h3.mono hG⟩
theorem pQ.mono{G G':Gh}(hG:G.le G'){a_:List hY}{ds:List Deferred}(h:pQ G a_ ds):pQ G' a_ ds:=by
 induction h with
 |nil=>exact .nil
 |cons h _ ih=>exact .cons (h.mono hG) ih
def FR(P:Program)(rd:Option Nat):Fence:={(FV P) with round:=rd}
theorem aCe{rd:Option Nat}{P:Program}{f:FuncId}{args:Array Value}{w:World}{R:Ending→World→Prop}(h:CallsIn (FV P) 0 P f args w R):CallsIn (FR P rd) 0 P f args w R:=h
theorem aL7{rd:Option Nat}{P:Program}{l:Nat}{f:FuncId}{tmps:Array Value}{a_ bd:Code}{w:World}{R:Ending→World→Prop}(h:RoundIn (FV P) 0 P l f tmps a_ bd w R):RoundIn (FR P rd) 0 P l f tmps a_ bd w R:=h
structure RI(P:Program)(B:Bs)(P':aS)(nt:Nat)(pd:List (Nat×Nat))(fr:Fr)(s:ASt)(a:Act)(w:World)(G:Gh)(B':Bs):Prop where
 ext:B.ext B'
 inv:Inv P B' G s w
 pend:aLw B B' pd a.tmps
 env:jE G nt fr.env a.tmps
 wW:g8 P' G
 ds:pQ G fr.ds a.defers
theorem jE.put{G:Gh}{nt:Nat}{env:Env}{tmps:Array Value}(h:jE G nt env tmps){d:Nat}(hd:d<nt){v:AV}{x:Value}(r:R G (.v v x)):jE G nt (upd env d v) (tmps.setIfInBounds d x):=by
 refine⟨by simp [h.1],fun i=> ?_⟩;unfold upd;by_cases e:i=d
 ·subst e;rw [xH (by rw [h.1];exact hd)];simp only [Nat.beq_refl];exact r
 ·rw [aFh e];have:Nat.beq i d=false:=by
   cases hb:Nat.beq i d with
   |false=>rfl
   |true=>exact absurd (Nat.eq_of_beq_eq_true hb) e
  rw [this];exact h.2 i
theorem jE.aPr{G:Gh}{nt:Nat}{env:Env}{a:Act}(h:jE G nt env a.tmps){d:Option Nat}(hd: ∀e,d=some e→e<nt){v:AV}{x:Value}(r:R G (.v v x)):jE G nt (eU env d v) (a.put d x).tmps:=by
 cases d with
 |none=>exact h
 |some d=>exact h.put (hd d rfl) r
theorem aBR(a:Act)(d:Option Nat)(x:Value):(a.put d x).tmps=(match d with|some d=>a.tmps.setIfInBounds d x|none=>a.tmps):=by cases d<;>rfl
theorem put_defers(a:Act)(d:Option Nat)(x:Value):(a.put d x).defers=a.defers:=by cases d<;>rfl
section
variable {P : Program} {B B' : Bs} {P' : aS} {nt : Nat} {pd : List (Nat × Nat)} {fr : Fr} {s s1 : ASt} {a : Act} {w w' : World} {G G' : Gh}
theorem RI.put(h:RI P B P' nt pd fr s a w G B')(hle:G.le G')(hI:Inv P B' G' s1 w'){d:Option Nat}(hd: ∀e,d=some e→e<nt){v:AV}{x:Value}(r:R G' (.v v x)):
  RI P B P' nt (aK d pd) {fr with env:=eU fr.env d v} s1 (a.put d x) w' G' B' where
 ext:=h.ext
 inv:=hI
 pend:=by rw [aBR];exact h.pend.put d x
 env:=(h.env.mono hle).aPr hd r
 wW:=h.wW.mono hle
 ds:=by rw [put_defers];exact h.ds.mono hle
structure aAj(P:Program)(h:Hint)(all:Array Oper)(o:Oper)(ai:AI):Prop where
 d:ai.d=o.dst
 op:ai.op= .bad∨cC P h o.dst o.op=some ai.op
 gd:match o.guard with|none=>ai.gd=none|some (j,b)=> ∃t,(all[j]?).bind (·.dst)=some t∧ai.gd=some (t,b)
theorem oI{h:Hint}{all:Array Oper}{o:Oper}{ai:AI}(hc:aAj P h all o ai)(hE:jE G nt fr.env a.tmps){b:Bool}(hw:wanted fr.env ai.gd=some b):Region.wanted o (yielded all a.tmps)=b:=by
 have hg:=hc.gd;unfold Region.wanted;cases hgo:o.guard with
 |none=>
  rw [hgo] at hg;rw [hg] at hw;simp [wanted] at hw;simp [hw]
 |some jb=>
  obtain⟨j,b'⟩:=jb;rw [hgo] at hg;obtain⟨t,ht,hg⟩:=hg;rw [hg] at hw;have hr:=hE.2 t;simp only [wanted] at hw;simp only [yielded,ht,Option.bind_some];have hget:a.tmps.getD t undef=(a.tmps[t]?).getD undef:=by simp [Array.getD_eq_getD_getElem?]
  rw [hget] at hr;split at hw
  ·rename_i c hc';rw [hc'] at hr;cases hw;cases hx:a.tmps[t]? with
   |none=>rw [hx] at hr;cases hr
   |some x=>
    rw [hx] at hr;simp only [Option.getD_some] at hr;cases hr;simp
  ·rename_i hc';rw [hc'] at hr;cases hw;cases hx:a.tmps[t]? with
   |none=>simp
   |some x=>
    rw [hx] at hr;simp only [Option.getD_some] at hr;cases hr;simp
  ·cases hw
def rB(rd:Option Nat)(P:Program)(all:Array Oper)(o:Oper)(a:Act)(w:World)(K:Act→World→Prop)(Q:Exit→Act→World→Prop):Prop:=
 if Region.wanted o (yielded all a.tmps) then o.wpIn (FR P rd) 0 P a w K Q else(∀f,o.about P w a.eval=some f→(FR P rd).fn f)∧K (a.put o.dst undef) w
theorem rI{o:Oper}(hab: ∀f,o.about P w a.eval=some f→ ∃fn,P.funcs[f]?=some fn){rd:Option Nat}{all:Array Oper}{K:Act→World→Prop}{Q:Exit→Act→World→Prop}(hw:Region.wanted o (yielded all a.tmps)=true)(hd: ∀c,o.op≠ .defer c){n:Next}{x:Value}
(hr:(execOp a.eval o).run P w= .ok n w')(hn:n= .value x∨(n= .skip∧x=undef))(hk:K (a.put o.dst x) w'):rB rd P all o a w K Q:=by
 unfold rB;rw [if_pos hw];refine⟨hab,?_⟩;rw [Oper.semAt_eq _ _ _ hd,hr];rcases hn with rfl|⟨rfl,rfl⟩<;>exact hk
theorem aDK{o:Oper}(hab: ∀f,o.about P w a.eval=some f→ ∃fn,P.funcs[f]?=some fn){rd:Option Nat}{all:Array Oper}{K:Act→World→Prop}{Q:Exit→Act→World→Prop}(hw:Region.wanted o (yielded all a.tmps)=true)(hd: ∀c,o.op≠ .defer c){R:Ending→World→Prop}
(hr:aNz P (execOp a.eval o) w R)(hk: ∀x w',R (.returned x) w'→K (a.put o.dst x) w')(hp: ∀c w',R (.panicked c) w'→Q (.panic c) a w')(ho: ∀w',¬R .outgrown w'):rB rd P all o a w K Q:=by
 unfold rB;rw [if_pos hw];refine⟨hab,?_⟩;obtain⟨n,w1,hrun,hn⟩:=hr;rw [Oper.semAt_eq _ _ _ hd,hrun];cases n<;>first|exact hn.elim|skip
 ·exact hk _ _ hn
 ·refine⟨fun h=> ?_,aCe (hn.mono fun e w2 h=> ?_)⟩
  ·simp [FR,FV] at h
  ·cases e with
   |returned v=>exact hk _ _ h
   |panicked c=>exact hp _ _ h
   |outgrown=>exact absurd h (ho _)
theorem aIP{o:Oper}(hab: ∀f,o.about P w a.eval=some f→ ∃fn,P.funcs[f]?=some fn){rd:Option Nat}{all:Array Oper}{K:Act→World→Prop}{Q:Exit→Act→World→Prop}(hw:Region.wanted o (yielded all a.tmps)=true)(hd: ∀c,o.op≠ .defer c){R:Ending→World→Prop}{l:Nat}{f:FuncId}{tmps:Array Value}{a_ bd:Code}
(hr:(execOp a.eval o).run P w= .ok (.round l f tmps a_ bd) w)(h:RoundIn (FV P) 0 P l f tmps a_ bd w R)(hk: ∀x w',R (.returned x) w'→K (a.put o.dst x) w')(hp: ∀c w',R (.panicked c) w'→Q (.panic c) a w')(ho: ∀w',¬R .outgrown w'):rB rd P all o a w K Q:=by
 unfold rB;rw [if_pos hw];refine⟨hab,?_⟩;rw [Oper.semAt_eq _ _ _ hd,hr];refine⟨fun h=> ?_,aL7 (h.mono fun e w2 h=> ?_)⟩
 ·simp [FR,FV] at h
 ·cases e with
  |returned v=>exact hk _ _ h
  |panicked c=>exact hp _ _ h
  |outgrown=>exact absurd h (ho _)
end
def kZ:Sh→Bool
 | .v a _=>cR a
 | .l a_ _=>eM a_
 | .k a_ _=>eM a_
 | .c a _=>cR a
 | .r _ a_ _ _=>eM a_
def aPj(G:Gh):Prop:=(∀l b,G.L l≠some b)∧ ∀t n x,G.H t n≠some x
theorem R.swap{G:Gh}{L:Nat→Option Nat}{H:Nat→Nat→Option (Nat×Nat×Nat)}{sh:Sh}(r:R G sh)(h:kZ sh=true∨aPj G):R ⟨G.M,L,H⟩ sh:=by
 have own: ∀{o:Own}{xs:List AV}{sz:Nat}{A:Option Addr}{n c:Nat},(cR (.slice sz xs o)=true∨aPj G)→n7 G o A sz n c→n7 ⟨G.M,L,H⟩ o A sz n c:=by
  intro o xs sz A n c hh ho;cases o with
  |no=>trivial
  |full=>exact ho
  |tok t=>
   rcases hh with hh|hh
   ·simp [cR] at hh
   ·obtain⟨b,_,h2⟩:=ho;exact absurd h2 (hh.2 _ _ _)
 have noL: ∀{l b:Nat}{X:Prop},aPj G→G.L l=some b→X:=fun hh e=>absurd e (hh.1 _ _)
 induction r with
 |int h'=>exact .int h'
 |bool b=>exact .bool b
 |str s hs=>exact .str s hs
 |cK hm ho=>exact .cK hm (own h ho)
 |dA hc hm _ ho ih=>
  refine .dA hc hm (ih ?_) (own h ho);rcases h with h|h
  ·left
   simp only [kZ,cR] at h⊢;split at h
   ·cases h
   ·exact h
  ·exact .inr h
 |ms hL hc hm=>rcases h with h|h;simp [kZ,cR] at h;exact noL h hL
 |agg _ ih=>exact .agg (ih (by simpa [kZ,cR] using h))
 |tuple _ ih=>exact .tuple (ih (by simpa [kZ,cR] using h))
 |dO=>exact .dO
 |ptr off hL=>rcases h with h|h;simp [kZ,cR] at h;exact noL h hL
 |aF off _ hM ih=>exact .aF off (ih (by simpa [kZ,cR] using h)) hM
 |func _ _ ha hb=>
  simp only [kZ,cR,Bool.and_eq_true] at h;exact .func (ha (by rcases h with h|h;exact .inl h.1;exact .inr h)) (hb (by rcases h with h|h;exact .inl h.2;exact .inr h))
 |cZ=>exact .cZ
 |yield hL=>rcases h with h|h;simp [kZ,cR] at h;exact noL h hL
 |map hL=>rcases h with h|h;simp [kZ,cR] at h;exact noL h hL
 |dX=>exact .dX
 |iface _ ih=>exact .iface (ih (by simpa [kZ,cR] using h))
 |bU=>exact .bU
 |iter hL=>rcases h with h|h;simp [kZ,cR] at h;exact noL h hL
 |lU x=>exact .lU x
 |rE=>exact .rE
 |fR _ _ h1 h2=>
  simp only [kZ,eM,Bool.and_eq_true] at h h1 h2;exact .fR (h1 (by rcases h with h|h;exact .inl h.1;exact .inr h)) (h2 (by rcases h with h|h;exact .inl h.2;exact .inr h))
 |gN=>exact .gN
 |cJ _ hc _ h1 h2=>
  simp only [kZ,eM,Bool.and_eq_true] at h h1 h2;exact .cJ (h1 (by rcases h with h|h;exact .inl h.1;exact .inr h)) hc (h2 (by rcases h with h|h;exact .inl h.2;exact .inr h))
 |tQ _ ih=>exact .tQ (ih (by simpa [kZ,cR] using h))
 |vO ha h1 _ ih=>exact .vO ha h1 (ih h)
 |w6 sz b o=>exact .w6 sz b o
 |l9 _ hl hM _ h1 h2=>
  simp only [kZ,eM,Bool.and_eq_true] at h h1 h2;exact .l9 (h1 (by rcases h with h|h;exact .inl h.1;exact .inr h)) hl hM (h2 (by rcases h with h|h;exact .inl h.2;exact .inr h))
section
variable {P : Program} {B B' : Bs} {P' : aS} {nt : Nat} {pd : List (Nat × Nat)} {fr : Fr} {s s1 : ASt} {a : Act} {w w' : World} {G G' : Gh}
theorem Inv.aKw(h:Inv P B G s w)(he:isE s=true):aPj G:=by
 unfold isE at he;split at he
 ·rename_i h1 h2;refine⟨fun l b hl=> ?_,fun t n x hx=> ?_⟩
  ·have:=(h.l l b hl).1;rw [h1] at this;simp at this
  ·obtain⟨n0,h3,_⟩:=h.hh t n x hx;rw [h2] at h3;simp at h3
 ·cases he
def aDQ(G:Gh):Gh:=⟨G.M,fun _=>none,fun _ _=>none⟩
def aJC(w:World)(G:Gh):Bs:=⟨fun b=>b<w.heap.size,w,G.M,fun _ h=>h⟩
theorem Inv.bare(h:Inv P B G s w):Inv P (aJC w G) (aDQ G) dK w where
 os:=rfl
 tape:=rfl
 output:=rfl
 size:=Nat.le_refl _
 pr:=fun _ _=>rfl
 prM:=fun _ _ _=>rfl
 m:=h.m
 l:=fun _ _ h=>by cases h
 inj:=fun _ _ _ h=>by cases h
 blk:=fun _ _ _ _ h=>by cases h
 tok:=fun t n h=>by simp [dK] at h
 lX:=fun _ _ _ _ _ _ _ _ _ h=>by simp [dK] at h
 hh:=fun _ _ _ h=>by cases h
 tot:=fun _ h=>absurd h (Nat.not_lt_zero _)
theorem Inv.aQT(h:Inv P B G s w){G2:Gh}{s2:ASt}(hle:(aDQ G).le G2)(h2:Inv P (aJC w G) G2 s2 w'):uS G w ⟨G2.M,G.L,G.H⟩ w' where
 le:=⟨hle.M,fun _ _ h=>h,fun _ _ _ h=>h⟩
 L:=fun _=>rfl
 H:=fun _ _=>rfl
 os:=h2.os
 tape:=h2.tape
 output:=h2.output
 size:=h2.size
 aBr:=fun b hb=>h2.pr b hb
 old:=fun b hb o=>h2.prM b hb o
 new:=fun b o x _ hx=>h2.m b o x hx
theorem g8.bare(h:g8 P' G)(hp: ∀g,cR (P'.gl g)=true):g8 P' (aDQ G):=fun g=>(h g).swap (.inl (by simpa [kZ,cR] using hp g))
end
structure Eff where
 t:Option Nat
 v:AV
 add:Option Nat:=none
 aRb:Option (Nat×Nat):=none
def vM(E:Eff)(pd:List (Nat×Nat)):List (Nat×Nat):=
 match E.add,E.t with
 |some n,some d=>(d,n)::aK E.t pd
 |_,_=>aK E.t pd
def sH(E:Eff)(pd:List (Nat×Nat)):Bool:=match E.aRb with|none=>true|some (d,sz)=>pd.any fun p=>Nat.beq p.1 d&&Nat.beq p.2 sz
theorem kD{pd:List (Nat×Nat)}{t:Option Nat}{v:AV}{n:Option (Nat×Nat)}:vM ⟨t,v,none,n⟩ pd=aK t pd:=by cases t<;>rfl
def eff(H:Handler)(P:aS)(i:AI)(e:Env)(ds:List hY)(s:ASt):Option (Eff×List hY×ASt):=
 match wanted e i.gd with
 |none=>none
 |some false=>some (⟨i.d,fA,none,none⟩,ds,s)
 |some true=>
  match i.op with
  | .pend z=>match i.d with|some d=>some (⟨some d,.lU,some z.length,none⟩,ds,s)|none=>none
  | .shut d sz x=>
   match i.d,gP (evO P e x) with
   |none,some v=>if(cellsOf v).length=sz then some (⟨some d,.aF v 0,none,some (d,sz)⟩,ds,s) else none
   |_,_=>none
  | .defer f args=>
   match evO P e f,dL (args.map (evO P e)) with
   | .func g a b,some vs=>some (⟨i.d,fA,none,none⟩,.call g (a++vs++b)::ds,s)
   |_,_=>none
  | .panic _=>none
  | .aW st f args=>
   match evO P e f,dL (args.map (evO P e)) with
   | .func g a b,some vs=>
    match(!st&&isE s)||eM (a++vs++b),H.call (.func g) (a++vs++b) dK with
    |true,some (.ret v,s2)=>
     match mO v with
     |some v=>match isE s2||cR v with|true=>some (⟨i.d,v,none,none⟩,ds,s)|false=>none
     |none=>none
    |_,_=>none
   |_,_=>none
  | .call _ _=>none
  |op=>
   match bJ P e op with
   |some v=>some (⟨i.d,v,none,none⟩,ds,s)
   |none=>
    match fS P e s op with
    |some v=>some (⟨i.d,v,none,none⟩,ds,s)
    |none=>
     match eD P e s op with
     |some (v,s1)=>some (⟨i.d,v,none,none⟩,ds,s1)
     |none=>none
section
variable {H : Handler} {P : aS} {i : AI} {e e' : Env} {ds : List hY} {s : ASt}
theorem m5{rest:List AI}{pd:List (Nat×Nat)}(hc:dY i.op≠3):
  bG H P (i::rest) pd ⟨e,ds⟩ s=
   match eff H P i e ds s with
   |some (E,ds',s')=>match sH E pd with|true=>bG H P rest (vM E pd) ⟨eU e E.t E.v,ds'⟩ s'|false=>none
   |none=>none:=by
 obtain⟨d,op,gd,pre⟩:=i;simp only [bG,eff];cases hw:wanted e gd with
 |none=>rfl
 |some b=>
  cases b with
  |false=>rfl
  |true=>
   cases op with
   |call f args=>simp [dY] at hc
   |panic x=>simp [dY] at hc
   |pend z=>cases d<;>rfl
   |shut d' sz x=>
    simp only;cases d with
    |some d=>cases gP (evO P e x)<;>rfl
    |none=>
     cases gP (evO P e x) with
     |none=>rfl
     |some v=>
      by_cases h1:(cellsOf v).length=sz
      ·simp only [h1,decide_true,Bool.true_and,if_true,sH];cases pd.any fun p=>Nat.beq p.1 d'&&Nat.beq p.2 sz<;>rfl
      ·simp [h1]
   |defer f args=>
    simp only;split<;>first|rfl|simp_all [vM,sH]
   |aW st f args=>
    simp only;generalize evO P e f=fv;cases fv with
    |func g a b=>
     cases dL (args.map (evO P e)) with
     |none=>rfl
     |some vs=>
      simp only;cases ((!st&&isE s)||eM (a++vs++b)) with
      |false=>rfl
      |true=>
       cases H.call (.func g) (a++vs++b) dK with
       |none=>rfl
       |some rs=>
        obtain⟨r,s2⟩:=rs;cases r with
        |panic v=>rfl
        |ret v=>
         simp only;cases mO v with
         |none=>rfl
         |some v=>simp only;cases (isE s2||cR v)<;>rfl
    |_=>rfl
   |_=>
    simp only;split
    ·rename_i h;simp only [h,sH,kD]
    ·rename_i h;split
     ·rename_i h2;simp only [h,h2,sH,kD]
     ·rename_i h2;split<;>(rename_i h3;simp only [h,h2,h3,sH,kD])
theorem bY{x:aJ}(h: ∀t∈jU x,e t=e' t):evO P e x=evO P e' x:=by
 cases x<;>simp [evO];exact h _ (by simp [jU])
theorem n5{xs:List aJ}(h: ∀t∈xs.flatMap jU,e t=e' t):xs.map (evO P e)=xs.map (evO P e'):=
 List.map_congr_left fun x hx=>bY fun t ht=>h t (List.mem_flatMap.2 ⟨x,hx,ht⟩)
theorem j6{d:Nat}{x:Option aJ}(h: ∀t∈wJ x,e t=e' t):cF P e d x=cF P e' d x:=by
 cases x with
 |none=>rfl
 |some x=>simp only [cF];rw [bY h]
theorem aIC{op:AOp}(h: ∀t∈eC op,e t=e' t):bJ P e op=bJ P e' op:=by
 cases op with
 |un u x=>cases u<;>simp only [bJ]<;>simp only [eC] at h<;>rw [bY h]
 |yI m xs=>
  rcases xs with _|⟨x,_|⟨y,_|⟨z,zs⟩⟩⟩<;>simp only [bJ];simp only [eC,List.flatMap_cons,List.flatMap_nil,List.append_nil,List.mem_append] at h;rw [bY fun t ht=>h t (.inl ht),bY fun t ht=>h t (.inr ht)]
 |pick c a b=>
  simp only [eC,List.mem_append] at h;simp only [bJ];rw [bY fun t ht=>h t (.inl (.inl ht)),bY fun t ht=>h t (.inl (.inr ht)),bY fun t ht=>h t (.inr ht)]
 |build z ps=>
  simp only [bJ];rw [List.map_congr_left (g:=fun p=>(p.1,p.2.1,evO P e' p.2.2)) fun p hp=>by
   rw [bY fun t ht=>h t (by simp only [eC];exact List.mem_flatMap.2 ⟨p,hp,ht⟩)]]
 |oK a b c ps=>
  simp only [bJ];rw [List.map_congr_left (g:=fun p=>evO P e' p.2) fun p hp=>by
   rw [bY fun t ht=>h t (by simp only [eC];exact List.mem_flatMap.2 ⟨p,hp,ht⟩)]]
 |lW f a b=>
  simp only [eC,List.mem_append] at h;simp only [bJ];rw [n5 fun t ht=>h t (.inl ht),n5 fun t ht=>h t (.inr ht)]
 |aAF z x lo hi mx=>
  simp only [eC,List.mem_append] at h;simp only [bJ];rw [bY fun t ht=>h t (.inl (.inl (.inl ht)))];simp only [j6 (P:=P) fun t ht=>h t (.inl (.inl (.inr ht))),j6 (P:=P) fun t ht=>h t (.inl (.inr ht)),j6 (P:=P) fun t ht=>h t (.inr ht)]
 |aBO x lo hi=>
  simp only [eC,List.mem_append] at h;simp only [bJ];rw [bY fun t ht=>h t (.inl (.inl ht))];simp only [j6 (P:=P) fun t ht=>h t (.inl (.inr ht)),j6 (P:=P) fun t ht=>h t (.inr ht)]
 |aMg n z x lo hi=>
  simp only [eC,List.mem_append] at h;simp only [bJ];rw [bY fun t ht=>h t (.inl (.inl ht))];simp only [j6 (P:=P) fun t ht=>h t (.inl (.inr ht)),j6 (P:=P) fun t ht=>h t (.inr ht)]
 |_=>
  first
   |rfl
   |(simp only [bJ];simp only [eC] at h;rw [bY h];done)
   |(simp only [bJ];simp only [eC,List.mem_append] at h;rw [bY fun t ht=>h t (.inl ht),bY fun t ht=>h t (.inr ht)];done)
theorem aIN{op:AOp}(h: ∀t∈eC op,e t=e' t):fS P e s op=fS P e' s op:=by
 cases op with
 |load a sz x=>simp only [eC] at h;simp only [fS];rw [bY h]
 |lookup ok kk z m k=>
  simp only [eC,List.mem_append] at h;simp only [fS];rw [bY fun t ht=>h t (.inl ht),bY fun t ht=>h t (.inr ht)]
 |_=>rfl
theorem aIv{op:AOp}(h: ∀t∈eC op,e t=e' t):eD P e s op=eD P e' s op:=by
 cases op with
 |kM kk m k v=>
  simp only [eC,List.mem_append] at h;simp only [eD];rw [bY fun t ht=>h t (.inl (.inl ht)),bY fun t ht=>h t (.inl (.inr ht)),bY fun t ht=>h t (.inr ht)]
 |_=>
  first
   |rfl
   |(simp only [eD];simp only [eC] at h;rw [bY h];done)
   |(simp only [eD];simp only [eC,List.mem_append] at h;rw [bY fun t ht=>h t (.inl ht),bY fun t ht=>h t (.inr ht)];done)
theorem aEi{gd:Option (Nat×Bool)}(h: ∀t b,gd=some (t,b)→e t=e' t):wanted e gd=wanted e' gd:=by
 cases gd with
 |none=>rfl
 |some g=>obtain⟨t,b⟩:=g;simp only [wanted];rw [h t b rfl]
theorem aDO(h: ∀t∈nS i,e t=e' t):eff H P i e ds s=eff H P i e' ds s:=by
 obtain⟨d,op,gd,pre⟩:=i;have hw:wanted e gd=wanted e' gd:=aEi fun t b hg=>h t (by subst hg;simp [nS]);have hr: ∀t∈eC op,e t=e' t:=fun t ht=>h t (by simp [nS,ht]);simp only [eff,hw];cases op with
 |pend z=>rfl
 |shut d' sz x=>
  have:evO P e x=evO P e' x:=bY fun t ht=>hr t (by simp [eC,ht]);simp only [this]
 |defer f args=>
  have h1:evO P e f=evO P e' f:=bY fun t ht=>hr t (by simp [eC,ht]);have h2:args.map (evO P e)=args.map (evO P e'):=n5 fun t ht=>hr t (by simp only [eC,List.mem_append];exact .inr ht);simp only [h1,h2]
 |aW st f args=>
  have h1:evO P e f=evO P e' f:=bY fun t ht=>hr t (by simp [eC,ht]);have h2:args.map (evO P e)=args.map (evO P e'):=n5 fun t ht=>hr t (by simp only [eC,List.mem_append];exact .inr ht);simp only [h1,h2]
 |panic x=>rfl
 |call f args=>rfl
 |_=>simp only [aIC hr,aIN hr,aIv hr]
theorem aDP{E:Eff}{ds':List hY}{s':ASt}(h:eff H P i e ds s=some (E,ds',s')): ∀t,E.t=some t→t∈eR i:=by
 obtain⟨d,op,gd,pre⟩:=i;have hd: ∀t,d=some t→t∈eR ⟨d,op,gd,pre⟩:=fun t ht=>by subst ht;simp [eR]
 simp only [eff] at h;split at h
 ·cases h
 ·cases h;exact hd
 ·split at h
  ·split at h<;>cases h;exact hd
  ·rename_i d' sz x _;split at h
   ·split at h
    ·cases h;intro t ht;cases ht;simp [eR]
    ·cases h
   ·cases h
  ·split at h<;>cases h;exact hd
  ·cases h
  ·split at h
   ·split at h
    ·split at h
     ·split at h<;>cases h;exact hd
     ·cases h
    ·cases h
   ·cases h
  ·cases h
  ·split at h
   ·cases h;exact hd
   ·split at h
    ·cases h;exact hd
    ·split at h<;>cases h;exact hd
theorem aH8{E:Eff}{ds':List hY}{s':ASt}(h:eff H P i e ds s=some (E,ds',s')): ∀t n,E.aRb=some (t,n)→t∈eR i:=by
 obtain⟨d,op,gd,pre⟩:=i;simp only [eff] at h;split at h
 ·cases h
 ·cases h;intro t n hn;cases hn
 ·split at h
  ·split at h<;>cases h;intro t n hn;cases hn
  ·rename_i d' sz x _;split at h
   ·split at h
    ·cases h;intro t n ht;cases ht;simp [eR]
    ·cases h
   ·cases h
  ·split at h<;>cases h;intro t n hn;cases hn
  ·cases h
  ·split at h
   ·split at h
    ·split at h
     ·split at h<;>cases h;intro t n hn;cases hn
     ·cases h
    ·cases h
   ·cases h
  ·cases h
  ·split at h
   ·cases h;intro t n hn;cases hn
   ·split at h
    ·cases h;intro t n hn;cases hn
    ·split at h<;>cases h;intro t n hn;cases hn
theorem aHW{op:AOp}(h:dY op≠2)(h4:dY op≠4):eD P e s op=none:=by
 cases op with
 |append tk a b c d=>cases tk<;>simp [dY] at h h4
 |_=>first|rfl|(simp [dY] at h)
theorem aNy{op:AOp}(h:dY op≠1):fS P e s op=none:=by cases op<;>first|rfl|(simp [dY] at h)
theorem qN{E:Eff}{ds':List hY}{s':ASt}(hc:dY i.op≠2)(hc4:dY i.op≠4)(h:eff H P i e ds s=some (E,ds',s')):ds'=ds∧s'=s:=by
 obtain⟨d,op,gd,pre⟩:=i;simp only at hc hc4;simp only [eff] at h;split at h
 ·cases h
 ·cases h;exact⟨rfl,rfl⟩
 ·split at h
  ·split at h<;>cases h;exact⟨rfl,rfl⟩
  ·split at h
   ·split at h
    ·cases h;exact⟨rfl,rfl⟩
    ·cases h
   ·cases h
  ·simp [dY] at hc
  ·cases h
  ·split at h
   ·split at h
    ·split at h
     ·split at h<;>cases h;exact⟨rfl,rfl⟩
     ·cases h
    ·cases h
   ·cases h
  ·cases h
  ·split at h
   ·cases h;exact⟨rfl,rfl⟩
   ·split at h
    ·cases h;exact⟨rfl,rfl⟩
    ·rw [aHW hc hc4] at h;cases h
theorem aD8 {E : Eff} {ds0 : List hY} {s0 : ASt} (hc : dY i.op = 0) (h : eff H P i e ds s = some (E, ds, s)) : eff H P i e ds0 s0 = some (E, ds0, s0) := by
  obtain ⟨d, op, gd, pre⟩ := i;simp only at hc;have h2 : dY op ≠ 2 := by rw [hc]; simp
  have h4 : dY op ≠ 4 := by rw [hc]; simp
  have h1 : dY op ≠ 1 := by rw [hc]; simp
  simp only [eff] at h ⊢;split at h
  · cases h
  · cases h; rfl
  · cases op with
    | pend z => simp only at h ⊢; split at h <;> cases h; rfl
    | shut d' sz x =>
      simp only at h ⊢;split at h
      · split at h
        · rename_i hl; cases h; simp [hl]
        · cases h
      · cases h
    | defer f args => simp [dY] at hc
    | panic x => simp [dY] at hc
    | call f args => simp [dY] at hc
    | aW st f args =>
      cases st with
      | false => simp [dY] at hc
      | true =>
        simp only [Bool.not_true, Bool.false_and, Bool.false_or] at h ⊢;split at h
        · split at h
          · split at h
            · split at h
              · cases h; simp [*]
              · cases h
            · cases h
          · cases h
        · cases h
    | _ =>
      first
        | (simp [dY] at hc; done)
        | (simp only at h ⊢
           split at h
           · cases h; rfl
           · rw [aNy h1, aHW h2 h4] at h; cases h)
theorem aNh{E:Eff}{ds0:List hY}{s0:ASt}(hc:dY i.op=1)(hb:s0.blks=s.blks)(h:eff H P i e ds s=some (E,ds,s)):eff H P i e ds0 s0=some (E,ds0,s0):=by
 obtain⟨d,op,gd,pre⟩:=i;simp only at hc;simp only [eff] at h⊢;split at h
 ·cases h
 ·cases h;rfl
 ·cases op with
  |load ag sz x=>
   simp only [bJ,fS,eD,hb] at h⊢;split at h
   ·rename_i h1;cases h;rfl
   ·cases h
  |lookup ok kk z m k=>
   simp only [bJ,fS,eD,hb] at h⊢;split at h
   ·rename_i h1;cases h;rfl
   ·cases h
  |append tk a b c d=>cases tk<;>simp [dY] at hc
  |aW st f args=>cases st<;>simp [dY] at hc
  |_=>simp [dY] at hc
theorem aMs{esz bytes:Nat}{a x:aJ}{v:AV}{s1:ASt}(h:eD P e s (.append true esz bytes a x)=some (v,s1)):s1.blks=s.blks:=by
 simp only [eD] at h;split at h
 ·cases h
 rename_i hsl;simp only [Bool.not_true,Bool.false_or,Bool.and_eq_true] at hsl;split at h
 ·split at h
  ·cases h;rfl
  ·cases h;rfl
  ·cases h
 ·split at h
  ·split at h
   ·split at h
    ·cases h;rfl
    ·split at h
     ·split at h
      ·cases h;rfl
      ·cases h
     ·cases h
    ·cases h
   ·cases h
  ·rename_i ha;rw [ha] at hsl;simp [sM] at hsl
  ·cases h
 ·cases h
theorem aJ8{E:Eff}{ds':List hY}{s':ASt}(hc:dY i.op=4)(h:eff H P i e ds s=some (E,ds',s')):ds'=ds∧s'.blks=s.blks:=by
 obtain⟨d,op,gd,pre⟩:=i;simp only at hc;cases op with
 |append tk a b c d=>
  cases tk with
  |false=>simp [dY] at hc
  |true=>
   simp only [eff] at h;split at h
   ·cases h
   ·cases h;exact⟨rfl,rfl⟩
   ·simp only [bJ,fS] at h;split at h
    ·rename_i hw;cases h;exact⟨rfl,aMs hw⟩
    ·cases h
 |aW st f args=>cases st<;>simp [dY] at hc
 |_=>simp [dY] at hc
theorem xQ{a b:Nat}(h:a≠b):Nat.beq a b=false:=by
 cases hb:Nat.beq a b with
 |false=>rfl
 |true=>exact absurd (Nat.eq_of_beq_eq_true hb) h
theorem aJ6{t:Option Nat}{v:AV}{j:Nat}(h: ∀k,t=some k→j≠k):eU e t v j=e j:=by
 cases t with
 |none=>rfl
 |some k=>simp only [eU,upd,xQ (h k rfl)]
theorem aLr{t u:Option Nat}{v w:AV}(h: ∀k,t=some k→u≠some k):eU (eU e t v) u w=eU (eU e u w) t v:=by
 cases t with
 |none=>rfl
 |some k=>
  cases u with
  |none=>rfl
  |some l=>
   have hkl:l≠k:=fun q=>h k rfl (by rw [q])
   funext j
   simp only [eU,upd];by_cases h1:j=k
   ·subst h1;simp [xQ (Ne.symm hkl)]
   ·by_cases h2:j=l
    ·subst h2;simp [xQ hkl]
    ·simp [xQ h1,xQ h2]
def sJ(a b:List (Nat×Nat)):Prop:= ∀x,x∈a↔x∈b
theorem sJ.drop{a b:List (Nat×Nat)}(h:sJ a b)(d:Option Nat):sJ (aK d a) (aK d b):=by
 cases d with
 |none=>exact h
 |some d=>intro x;simp only [aK,List.mem_filter,h x]
theorem sJ.vM{a b:List (Nat×Nat)}(h:sJ a b)(E:Eff):sJ (vM E a) (vM E b):=by
 unfold Fw.vM;split
 ·intro x;simp only [List.mem_cons,h.drop _ x]
 ·exact h.drop _
theorem sJ.sH{a b:List (Nat×Nat)}(h:sJ a b)(E:Eff):sH E a=sH E b:=by
 unfold Fw.sH;split
 ·rfl
 ·rw [Bool.eq_iff_iff,List.any_eq_true,List.any_eq_true];exact⟨fun⟨x,h1,h2⟩=>⟨x,(h x).1 h1,h2⟩,fun⟨x,h1,h2⟩=>⟨x,(h x).2 h1,h2⟩⟩
theorem aGS{d:Option Nat}{pd:List (Nat×Nat)}{x:Nat×Nat}:x∈aK d pd↔x∈pd∧ ∀e,d=some e→x.1≠e:=by
 cases d with
 |none=>simp [aK]
 |some d=>
  simp only [aK,List.mem_filter,Option.some.injEq,forall_eq'];constructor
  ·rintro ⟨h1,h2⟩;exact⟨h1,fun q=>by rw [q] at h2;simp at h2⟩
  ·rintro ⟨h1,h2⟩;exact⟨h1,by rw [xQ h2];rfl⟩
theorem aB1{E:Eff}{pd:List (Nat×Nat)}{x:Nat×Nat}:x∈vM E pd↔(∃n d,E.add=some n∧E.t=some d∧x=(d,n))∨(x∈pd∧ ∀e,E.t=some e→x.1≠e):=by
 unfold vM;split
 ·rename_i n d h1 h2;rw [List.mem_cons,aGS,h1,h2];simp
 ·rename_i h1;rw [aGS];constructor
  ·exact .inr
  ·rintro (⟨n,d,h2,h3,_⟩|h)
   ·exact absurd h3 (by intro q;exact h1 n d h2 q)
   ·exact h
theorem aLl{E F:Eff}{pd:List (Nat×Nat)}(h: ∀k,E.t=some k→F.t≠some k):sJ (vM E (vM F pd)) (vM F (vM E pd)):=by
 intro x;simp only [aB1];constructor
 ·rintro (⟨n,d,h1,h2,rfl⟩|⟨⟨n,d,h1,h2,rfl⟩|⟨h1,h2⟩,h3⟩)
  ·exact .inr ⟨.inl ⟨n,d,h1,h2,rfl⟩,fun e he q=>by subst q;exact h _ h2 he⟩
  ·exact .inl ⟨n,d,h1,h2,rfl⟩
  ·exact .inr ⟨.inr ⟨h1,h3⟩,h2⟩
 ·rintro (⟨n,d,h1,h2,rfl⟩|⟨⟨n,d,h1,h2,rfl⟩|⟨h1,h2⟩,h3⟩)
  ·exact .inr ⟨.inl ⟨n,d,h1,h2,rfl⟩,fun e he q=>by subst q;exact h _ he h2⟩
  ·exact .inl ⟨n,d,h1,h2,rfl⟩
  ·exact .inr ⟨.inr ⟨h1,h3⟩,h2⟩
theorem aD5{E F:Eff}{pd:List (Nat×Nat)}(h: ∀k n,E.aRb=some (k,n)→F.t≠some k):sH E (vM F pd)=sH E pd:=by
 unfold sH;split
 ·rfl
 ·rename_i d sz hn;have hk:=h d sz hn;rw [Bool.eq_iff_iff,List.any_eq_true,List.any_eq_true];constructor
  ·rintro ⟨x,h1,h2⟩
   rcases aB1.1 h1 with ⟨n,d',_,h4,rfl⟩|⟨h3,_⟩
   ·rw [Bool.and_eq_true] at h2;have:=Nat.eq_of_beq_eq_true h2.1;simp only at this;subst this;exact absurd h4 hk
   ·exact⟨x,h3,h2⟩
  ·rintro ⟨x,h1,h2⟩
   refine⟨x,aB1.2 (.inr ⟨h1,fun e he q=> ?_⟩),h2⟩;rw [Bool.and_eq_true] at h2;have:=Nat.eq_of_beq_eq_true h2.1;rw [q] at this;exact hk (by rw [he,this])
theorem z1: ∀{is:List AI}{pd pd':List (Nat×Nat)}{fr:Fr}{s:ASt},sJ pd pd'→bG H P is pd fr s=bG H P is pd' fr s
 | [],_,_,_,_,_=>rfl
 |i::rest,pd,pd',⟨e,ds⟩,s,h=>by
  by_cases hc:dY i.op=3
  ·obtain⟨d,op,gd,pre⟩:=i;simp only [bG];cases hw:wanted e gd with
   |none=>rfl
   |some b=>
    cases b with
    |false=>exact z1 (h.drop d)
    |true=>
     cases op with
     |call f args=>
      simp only;split
      ·split
       ·exact z1 (h.drop d)
       ·rfl
       ·rfl
      ·rfl
     |panic x=>rfl
     |aW st f args=>cases st<;>simp [dY] at hc
     |append tk a b c d=>cases tk<;>simp [dY] at hc
     |_=>simp [dY] at hc
  ·rw [m5 hc,m5 hc];split
   ·rename_i E ds' s' _;rw [h.sH E];cases sH E pd' with
    |false=>rfl
    |true=>exact z1 (h.vM E)
   ·rfl
def apart(a b:AI):Prop:=aAU (dY a.op) (dY b.op)=false∧(∀t∈eR a,t∉nS b)∧(∀t∈eR b,t∉nS a)
theorem aHq{a b:Nat}(h:aAU a b=false):a≠3:=by rintro rfl;simp [aAU] at h
theorem aMJ{a b:Nat}(h:aAU a b=false):b≠3:=by rintro rfl;unfold aAU at h;split at h<;>simp_all
theorem aH7(op:AOp):dY op≤5:=by
 cases op with
 |aW st f args=>cases st<;>simp [dY]
 |append tk a b c d=>cases tk<;>simp [dY]
 |_=>simp [dY]
theorem aFZ{x y:Nat}(hx:x≤5)(hy:y≤5)(h:aAU x y=false):
  ((x≠2∧x≠4)∧(y≠2∧y≠4))∨y=0∨x=0∨(x=1∧y=4)∨(x=4∧y=1):=by
 have:(x=0∨x=1∨x=2∨x=3∨x=4∨x=5)∧(y=0∨y=1∨y=2∨y=3∨y=4∨y=5):=by omega
 rcases this with ⟨rfl|rfl|rfl|rfl|rfl|rfl,rfl|rfl|rfl|rfl|rfl|rfl⟩<;>simp [aAU] at h⊢
theorem tS{i:AI}{t:Nat}(h:t∈eR i):t∈nS i:=by simp [nS,h]
theorem aIj{a b:AI}{rest:List AI}{pd:List (Nat×Nat)}{fr:Fr}{r:pM}(hab:apart a b)(h:bG H P (a::b::rest) pd fr s=some r):
  bG H P (b::a::rest) pd fr s=some r:=by
 obtain⟨hc,hw1,hw2⟩:=hab;obtain⟨e,ds⟩:=fr;have ha3:=aHq hc;have hb3:=aMJ hc;rw [m5 ha3] at h;cases hea:eff H P a e ds s with
 |none=>rw [hea] at h;cases h
 |some x=>
  obtain⟨Ea,ds1,s1⟩:=x;rw [hea] at h;simp only at h;cases hoka:sH Ea pd with
  |false=>rw [hoka] at h;cases h
  |true=>
   rw [hoka] at h;simp only at h;rw [m5 hb3] at h;have hag: ∀t∈nS b,eU e Ea.t Ea.v t=e t:=fun t ht=>aJ6 fun k hk q=>by
    subst q;exact hw1 _ (aDP hea _ hk) ht
   rw [aDO hag] at h;cases heb:eff H P b e ds1 s1 with
   |none=>rw [heb] at h;cases h
   |some y=>
    obtain⟨Eb,ds2,s2⟩:=y;rw [heb] at h;simp only at h;cases hokb:sH Eb (vM Ea pd) with
    |false=>rw [hokb] at h;cases h
    |true=>
     rw [hokb] at h;simp only at h;have hne: ∀k,Ea.t=some k→Eb.t≠some k:=fun k h1 h2=>hw1 k (aDP hea k h1) (tS (aDP heb k h2));have hcases:=aFZ (aH7 a.op) (aH7 b.op) hc;have key: ∃ds3 s3,eff H P b e ds s=some (Eb,ds3,s3)∧eff H P a e ds3 s3=some (Ea,ds2,s2):=by
      rcases hcases with ⟨q1,q2⟩|q2|q1|⟨q1,q2⟩|⟨q1,q2⟩
      ·obtain⟨rfl,rfl⟩:=qN q1.1 q1.2 hea;obtain⟨rfl,rfl⟩:=qN q2.1 q2.2 heb;exact⟨_,_,heb,hea⟩
      ·obtain⟨rfl,rfl⟩:=qN (by rw [q2];simp) (by rw [q2];simp) heb;exact⟨_,_,aD8 q2 heb,hea⟩
      ·obtain⟨rfl,rfl⟩:=qN (by rw [q1];simp) (by rw [q1];simp) hea;exact⟨_,_,heb,aD8 q1 hea⟩
      ·obtain⟨rfl,rfl⟩:=qN (by rw [q1];simp) (by rw [q1];simp) hea;obtain⟨rfl,hb⟩:=aJ8 q2 heb;exact⟨_,_,heb,aNh q1 hb hea⟩
      ·obtain⟨hd,hb⟩:=aJ8 q1 hea;obtain⟨hd2,hs2⟩:=qN (by rw [q2];simp) (by rw [q2];simp) heb;rw [hd2,hs2] at heb⊢;rw [hd] at heb hea⊢;exact⟨_,_,aNh q2 hb.symm heb,hea⟩
     obtain⟨ds3,s3,hb',ha'⟩:=key;have hag2: ∀t∈nS a,eU e Eb.t Eb.v t=e t:=fun t ht=>aJ6 fun k hk q=>by
      subst q;exact hw2 _ (aDP heb _ hk) ht
     rw [m5 hb3,hb'];simp only;rw [aD5 fun k n hk hq=>hw1 k (aDP hea k hq) (tS (aH8 heb k n hk))] at hokb;rw [hokb];simp only;rw [m5 ha3,aDO hag2,ha'];simp only;rw [aD5 fun k n hk hq=>hw2 k (aDP heb k hq) (tS (aH8 hea k n hk)),hoka];simp only;rw [aLr fun k h1 h2=>hne k h2 h1,z1 (aLl fun k h1 h2=>hne k h1 h2)];exact h
theorem aAO{i:AI}{rest:List AI}{r:pM}: ∀{A:List AI}{pd:List (Nat×Nat)}{fr:Fr}{s:ASt},(∀a∈A,apart a i)→bG H P (A++i::rest) pd fr s=some r→bG H P (i::(A++rest)) pd fr s=some r
 | [],_,_,_,_,h=>h
 |a::A,pd,⟨e,ds⟩,s,hA,h=>by
  refine aIj (hA a (by simp)) ?_;have ha3:=aHq (hA a (by simp)).1;simp only [List.cons_append] at h;rw [m5 ha3] at h⊢;split at h
  ·rename_i E ds' s' _;cases hok:sH E pd with
   |false=>rw [hok] at h;cases h
   |true=>
    rw [hok] at h;simp only at h⊢;exact aAO (fun x hx=>hA x (by simp [hx])) h
  ·cases h
end
end Go.Fw
