/- The functions of the program in cooked form, printed by a program of the prover's own. -/
import Derived.Test.YtelnnehpbkainaaGreatDoorCode1
set_option maxRecDepth 100000
namespace Go.Proofs.YtelnnehpbkainaaGreatDoor.Code
open Go Go.Fw
def h139 : Hint := { cb := [3, 2], ps := [6], cp := [14], cs := [44], ap := [] }
def c139 : AF := ⟨2, 59, [],
 (.seq (.reg false [
  ⟨some 2, .boxc (.t 0), none, []⟩,
  ⟨some 3, .boxc (.t 1), none, []⟩]) (.seq (.reg false [
  ⟨some 10, .load true 10 (.t 2), none, []⟩,
  ⟨some 11, .fieldA 0 (.t 3), none, []⟩,
  ⟨some 12, .fieldA 2 (.t 11), none, []⟩,
  ⟨some 13, .load false 1 (.t 12), none, []⟩,
  ⟨some 14, .callP false (.f 144) [(.t 10), (.t 13)], none, []⟩,
  ⟨some 15, .field false 1 1 (.t 14), none, []⟩,
  ⟨some 4, .mv (.t 15), none, []⟩]) (.seq (.reg false [
  ⟨some 16, .fieldA 0 (.t 3), none, []⟩,
  ⟨some 17, .fieldA 6 (.t 16), none, []⟩,
  ⟨some 18, .load false 1 (.t 17), none, []⟩,
  ⟨some 19, .lenS (.t 18), none, []⟩,
  ⟨some 20, .mv (.c (.int .i64 0)), none, []⟩]) (.block 0 (.loop (.seq (.reg false [
  ⟨some 21, .bin .lss (.t 20) (.t 19), none, []⟩]) (.seq (.cond (.t 21) (.skip) (.exit 0)) (.seq (.block 1 (.seq (.reg false [
  ⟨some 22, .mv (.t 20), none, []⟩,
  ⟨some 23, .idxS 9 (.t 18) (.t 20), none, []⟩,
  ⟨some 24, .load true 9 (.t 23), none, []⟩,
  ⟨some 6, .pend [(.str []), (.slice 0 [] .full), (.int .i64 0), (.int .i64 0), (.str []), (.str []), (.slice 0 [] .full), (.slice 0 [] .full), (.slice 0 [] .full)], none, []⟩,
  ⟨some 5, .mv (.t 22), none, []⟩,
  ⟨none, .shut 6 9 (.t 24), none, []⟩]) (.seq (.seq (.reg false [
  ⟨some 25, .mv (.t 5), none, []⟩,
  ⟨some 26, .bin .eql (.t 25) (.c (.int .i64 0)), none, []⟩,
  ⟨some 27, .mv (.t 26), none, []⟩,
  ⟨some 28, .mv (.t 4), some (27, false), []⟩,
  ⟨some 29, .mv (.t 5), some (27, false), []⟩,
  ⟨some 30, .bin .sub (.t 29) (.c (.int .i64 1)), some (27, false), []⟩,
  ⟨some 31, .idxS 14 (.t 28) (.t 30), some (27, false), []⟩,
  ⟨some 32, .fieldA 13 (.t 31), some (27, false), []⟩,
  ⟨some 33, .load false 1 (.t 32), some (27, false), []⟩,
  ⟨some 34, .un .not (.t 33), some (27, false), []⟩,
  ⟨some 35, .pick (.t 27) (.c (.bool true)) (.t 34), none, []⟩]) (.cond (.t 35) (.exit 1) (.skip))) (.seq (.reg true [
  ⟨some 37, .load true 8 (.t 3), none, []⟩,
  ⟨some 38, .fieldA 0 (.t 3), none, []⟩,
  ⟨some 39, .fieldA 5 (.t 38), none, [1]⟩,
  ⟨some 40, .load false 1 (.t 39), none, [2, 1]⟩,
  ⟨some 41, .lenS (.t 40), none, [3, 2, 1]⟩,
  ⟨some 42, .mv (.t 5), none, []⟩,
  ⟨some 43, .bin .add (.t 41) (.t 42), none, [4, 3, 2, 1, 5]⟩,
  ⟨some 44, .callP true (.f 169) [(.t 37), (.t 43)], none, [0, 6, 4, 3, 2, 1, 5]⟩,
  ⟨some 45, .fieldA 1 (.t 6), none, []⟩,
  ⟨some 46, .load false 1 (.t 45), none, [8]⟩,
  ⟨some 47, .idxS 1 (.t 46) (.c (.int .i64 1)), none, [9, 8]⟩,
  ⟨some 48, .load false 1 (.t 47), none, [10, 9, 8]⟩,
  ⟨some 49, .call (.f 48) [(.t 44), (.t 48)], none, [7, 0, 6, 4, 3, 2, 1, 5, 11, 10, 9, 8]⟩,
  ⟨some 36, .mv (.t 49), none, [12, 7, 0, 6, 4, 3, 2, 1, 5, 11, 10, 9, 8]⟩,
  ⟨some 50, .extract (.t 36) 0, none, [13, 12, 7, 0, 6, 4, 3, 2, 1, 5, 11, 10, 9, 8]⟩,
  ⟨some 51, .extract (.t 36) 1, none, [13, 12, 7, 0, 6, 4, 3, 2, 1, 5, 11, 10, 9, 8]⟩,
  ⟨some 52, .extract (.t 36) 2, none, [13, 12, 7, 0, 6, 4, 3, 2, 1, 5, 11, 10, 9, 8]⟩,
  ⟨some 7, .mv (.t 50), none, [14, 13, 12, 7, 0, 6, 4, 3, 2, 1, 5, 11, 10, 9, 8]⟩,
  ⟨some 8, .mv (.t 51), none, [15, 13, 12, 7, 0, 6, 4, 3, 2, 1, 5, 11, 10, 9, 8, 17, 14]⟩,
  ⟨some 9, .mv (.t 52), none, [16, 13, 12, 7, 0, 6, 4, 3, 2, 1, 5, 11, 10, 9, 8, 18, 15, 17, 14]⟩]) (.seq (.reg false [
  ⟨some 53, .mv (.t 9), none, []⟩,
  ⟨some 54, .bin .neq (.t 53) (.c (.int .i64 0)), none, []⟩]) (.cond (.t 54) (.reg false [
  ⟨some 55, .mv (.t 8), none, []⟩,
  ⟨some 56, .build [(.slice 0 [] .full)] [(0, 1, (.t 55))], none, []⟩,
  ⟨some 57, .mkIface 160 (.t 56), none, []⟩,
  ⟨none, .panic (.t 57), none, []⟩]) (.skip))))))) (.reg false [
  ⟨some 58, .bin .add (.t 20) (.c (.int .i64 1)), none, []⟩,
  ⟨some 20, .mv (.t 58), none, []⟩])))))))))⟩
def h140 : Hint := { cb := [], ps := [], cp := [], cs := [], ap := [] }
def c140 : AF := ⟨2, 9, [.tmp 4],
 (.seq (.reg false [
  ⟨some 4, .mv (.c (.bool false)), none, []⟩]) (.seq (.reg false [
  ⟨some 5, .mv (.t 0), none, []⟩,
  ⟨some 6, .mv (.t 1), none, []⟩,
  ⟨some 7, .call (.f 187) [(.t 5), (.t 6)], none, []⟩,
  ⟨some 8, .bin .geq (.t 7) (.c (.int .i64 0)), none, []⟩,
  ⟨some 4, .mv (.t 8), none, []⟩]) (.ret)))⟩
def h141 : Hint := { cb := [], ps := [], cp := [6], cs := [], ap := [] }
def c141 : AF := ⟨2, 8, [.tmp 3],
 (.seq (.reg false [
  ⟨some 3, .mv (.c (.bool false)), none, []⟩]) (.seq (.reg false [
  ⟨some 4, .load true 10 (.t 1), none, []⟩,
  ⟨some 5, .mv (.t 0), none, []⟩,
  ⟨some 6, .callP false (.f 142) [(.t 4), (.t 5)], none, []⟩,
  ⟨some 7, .un .not (.t 6), none, []⟩,
  ⟨some 3, .mv (.t 7), none, []⟩]) (.ret)))⟩
def h142 : Hint := { cb := [2], ps := [], cp := [7], cs := [], ap := [] }
def c142 : AF := ⟨2, 11, [.tmp 4],
 (.seq (.reg false [
  ⟨some 2, .boxc (.t 0), none, []⟩,
  ⟨some 4, .mv (.c (.bool false)), none, []⟩]) (.seq (.reg false [
  ⟨some 5, .load true 10 (.t 2), none, []⟩,
  ⟨some 6, .mv (.t 1), none, []⟩,
  ⟨some 7, .callP false (.f 144) [(.t 5), (.t 6)], none, []⟩,
  ⟨some 8, .field false 1 1 (.t 7), none, []⟩,
  ⟨some 9, .call (.f 188) [(.t 8), (.f 189)], none, []⟩,
  ⟨some 10, .un .not (.t 9), none, []⟩,
  ⟨some 4, .mv (.t 10), none, []⟩]) (.ret)))⟩
def h143 : Hint := { cb := [2], ps := [], cp := [], cs := [], ap := [] }
def c143 : AF := ⟨2, 59, [.tmp 4],
 (.seq (.reg false [
  ⟨some 2, .boxc (.t 0), none, []⟩,
  ⟨some 4, .mv (.c (.slice 0 [] .full)), none, []⟩]) (.seq (.seq (.reg false [
  ⟨some 5, .mv (.t 1), none, []⟩,
  ⟨some 6, .fieldA 0 (.t 2), none, []⟩,
  ⟨some 7, .fieldA 5 (.t 6), none, []⟩,
  ⟨some 8, .load false 1 (.t 7), none, []⟩,
  ⟨some 9, .lenS (.t 8), none, []⟩,
  ⟨some 10, .bin .geq (.t 5) (.t 9), none, []⟩]) (.cond (.t 10) (.seq (.reg false [
  ⟨some 11, .fieldA 0 (.t 2), none, []⟩,
  ⟨some 12, .fieldA 6 (.t 11), none, []⟩,
  ⟨some 13, .load false 1 (.t 12), none, []⟩,
  ⟨some 14, .mv (.t 1), none, []⟩,
  ⟨some 15, .fieldA 0 (.t 2), none, []⟩,
  ⟨some 16, .fieldA 5 (.t 15), none, []⟩,
  ⟨some 17, .load false 1 (.t 16), none, []⟩,
  ⟨some 18, .lenS (.t 17), none, []⟩,
  ⟨some 19, .bin .sub (.t 14) (.t 18), none, []⟩,
  ⟨some 20, .idxS 9 (.t 13) (.t 19), none, []⟩,
  ⟨some 21, .fieldA 1 (.t 20), none, []⟩,
  ⟨some 22, .load false 1 (.t 21), none, []⟩,
  ⟨some 4, .mv (.t 22), none, []⟩]) (.ret)) (.skip))) (.seq (.block 0 (.seq (.seq (.reg false [
  ⟨some 24, .fieldA 0 (.t 2), none, []⟩,
  ⟨some 25, .fieldA 0 (.t 24), none, []⟩,
  ⟨some 26, .load false 1 (.t 25), none, []⟩,
  ⟨some 27, .bin .eql (.t 26) (.c (.int .i64 4)), none, []⟩,
  ⟨some 23, .mv (.t 27), none, []⟩]) (.cond (.t 23) (.skip) (.seq (.reg false [
  ⟨some 28, .fieldA 0 (.t 2), none, []⟩,
  ⟨some 29, .fieldA 0 (.t 28), none, []⟩,
  ⟨some 30, .load false 1 (.t 29), none, []⟩,
  ⟨some 31, .bin .eql (.t 30) (.c (.int .i64 6)), none, []⟩,
  ⟨some 32, .mv (.t 31), none, []⟩,
  ⟨some 33, .mv (.t 1), some (32, true), []⟩,
  ⟨some 34, .bin .eql (.t 33) (.c (.int .i64 1)), some (32, true), []⟩,
  ⟨some 35, .pick (.t 32) (.t 34) (.c (.bool false)), none, []⟩,
  ⟨some 23, .mv (.t 35), none, []⟩]) (.cond (.t 23) (.skip) (.reg false [
  ⟨some 36, .fieldA 0 (.t 2), none, []⟩,
  ⟨some 37, .fieldA 0 (.t 36), none, []⟩,
  ⟨some 38, .load false 1 (.t 37), none, []⟩,
  ⟨some 39, .bin .eql (.t 38) (.c (.int .i64 17)), none, []⟩,
  ⟨some 40, .mv (.t 39), none, []⟩,
  ⟨some 41, .mv (.t 1), some (40, true), []⟩,
  ⟨some 42, .bin .eql (.t 41) (.c (.int .i64 2)), some (40, true), []⟩,
  ⟨some 43, .pick (.t 40) (.t 42) (.c (.bool false)), none, []⟩,
  ⟨some 23, .mv (.t 43), none, []⟩]))))) (.cond (.t 23) (.seq (.reg false [
  ⟨some 44, .fieldA 0 (.t 2), none, []⟩,
  ⟨some 45, .fieldA 4 (.t 44), none, []⟩,
  ⟨some 46, .load false 1 (.t 45), none, []⟩,
  ⟨some 47, .cutS 1 (.t 46) none (some (.c (.int .i64 1))) none, none, []⟩,
  ⟨some 4, .mv (.t 47), none, []⟩]) (.ret)) (.seq (.reg false [
  ⟨some 49, .fieldA 0 (.t 2), none, []⟩,
  ⟨some 50, .fieldA 0 (.t 49), none, []⟩,
  ⟨some 51, .load false 1 (.t 50), none, []⟩,
  ⟨some 52, .bin .eql (.t 51) (.c (.int .i64 7)), none, []⟩,
  ⟨some 48, .mv (.t 52), none, []⟩]) (.cond (.t 48) (.seq (.reg false [
  ⟨some 53, .fieldA 0 (.t 2), none, []⟩,
  ⟨some 54, .fieldA 4 (.t 53), none, []⟩,
  ⟨some 55, .load false 1 (.t 54), none, []⟩,
  ⟨some 56, .mv (.t 1), none, []⟩,
  ⟨some 57, .bin .sub (.c (.int .i64 2)) (.t 56), none, []⟩,
  ⟨some 58, .cutS 1 (.t 55) none (some (.t 57)) none, none, []⟩,
  ⟨some 4, .mv (.t 58), none, []⟩]) (.ret)) (.skip)))))) (.seq (.reg false [
  ⟨some 4, .mv (.c (.slice 0 [] .full)), none, []⟩]) (.ret)))))⟩
def h144 : Hint := { cb := [2], ps := [], cp := [11], cs := [], ap := [] }
def c144 : AF := ⟨2, 34, [.cell 4 true 2],
 (.seq (.reg false [
  ⟨some 2, .boxc (.t 0), none, []⟩,
  ⟨some 4, .alloc [(.str []), (.slice 0 [] .full)], none, []⟩]) (.seq (.reg false [
  ⟨some 8, .fieldA 0 (.t 2), none, []⟩,
  ⟨some 9, .load true 10 (.t 8), none, []⟩,
  ⟨some 10, .mv (.t 1), none, []⟩,
  ⟨some 11, .callP false (.f 177) [(.t 9), (.t 10)], none, []⟩,
  ⟨some 7, .mv (.t 11), none, []⟩,
  ⟨some 12, .extract (.t 7) 0, none, []⟩,
  ⟨some 13, .extract (.t 7) 1, none, []⟩,
  ⟨some 5, .mv (.t 12), none, []⟩,
  ⟨some 6, .mv (.t 13), none, []⟩]) (.seq (.seq (.reg false [
  ⟨some 14, .mv (.t 5), none, []⟩,
  ⟨some 15, .bin .lss (.t 14) (.c (.int .i64 0)), none, []⟩,
  ⟨some 16, .mv (.t 15), none, []⟩,
  ⟨some 17, .mv (.t 5), some (16, false), []⟩,
  ⟨some 18, .fieldA 0 (.t 2), some (16, false), []⟩,
  ⟨some 19, .fieldA 1 (.t 18), some (16, false), []⟩,
  ⟨some 20, .load false 1 (.t 19), some (16, false), []⟩,
  ⟨some 21, .lenS (.t 20), some (16, false), []⟩,
  ⟨some 22, .bin .geq (.t 17) (.t 21), some (16, false), []⟩,
  ⟨some 23, .pick (.t 16) (.c (.bool true)) (.t 22), none, []⟩]) (.cond (.t 23) (.seq (.reg false [
  ⟨some 24, .build [(.str []), (.int .i64 0), (.int .i64 0), (.str []), (.slice 0 [] .full), (.slice 0 [] .full), (.int .i64 0), (.int .i64 0), (.int .i64 0), (.str []), (.slice 0 [] .full), (.slice 0 [] .full), (.int .i64 0), (.bool false)] [(0, 1, (.c (.str [112, 114, 105, 110, 116]))), (13, 1, (.c (.bool true)))], none, []⟩,
  ⟨some 25, .build [(.str []), (.int .i64 0), (.int .i64 0), (.str []), (.slice 0 [] .full), (.slice 0 [] .full), (.int .i64 0), (.int .i64 0), (.int .i64 0), (.str []), (.slice 0 [] .full), (.slice 0 [] .full), (.int .i64 0), (.bool false)] [(0, 1, (.c (.str [114, 101, 97, 100]))), (13, 1, (.c (.bool true)))], none, []⟩,
  ⟨some 26, .bslice 14 2 [(.str []), (.int .i64 0), (.int .i64 0), (.str []), (.slice 0 [] .full), (.slice 0 [] .full), (.int .i64 0), (.int .i64 0), (.int .i64 0), (.str []), (.slice 0 [] .full), (.slice 0 [] .full), (.int .i64 0), (.bool false)] [(0, (.t 24)), (1, (.t 25))], none, []⟩,
  ⟨some 27, .build [(.str []), (.slice 0 [] .full)] [(0, 1, (.c (.str [73, 79]))), (1, 1, (.t 26))], none, []⟩,
  ⟨none, .store 2 (.t 4) (.t 27), none, []⟩]) (.ret)) (.skip))) (.seq (.reg false [
  ⟨some 28, .fieldA 0 (.t 2), none, []⟩,
  ⟨some 29, .fieldA 1 (.t 28), none, []⟩,
  ⟨some 30, .load false 1 (.t 29), none, []⟩,
  ⟨some 31, .mv (.t 5), none, []⟩,
  ⟨some 32, .idxS 2 (.t 30) (.t 31), none, []⟩,
  ⟨some 33, .load true 2 (.t 32), none, []⟩,
  ⟨none, .store 2 (.t 4) (.t 33), none, []⟩]) (.ret)))))⟩
def h145 : Hint := { cb := [1], ps := [5], cp := [48, 44, 25, 21], cs := [], ap := [] }
def c145 : AF := ⟨1, 53, [.tmp 2],
 (.seq (.reg false [
  ⟨some 1, .boxc (.t 0), none, []⟩,
  ⟨some 2, .mv (.c (.int .i64 0)), none, []⟩]) (.seq (.block 0 (.seq (.reg false [
  ⟨some 8, .fieldA 1 (.t 1), none, []⟩,
  ⟨some 9, .load false 1 (.t 8), none, []⟩,
  ⟨some 10, .lenS (.t 9), none, []⟩,
  ⟨some 11, .bin .gtr (.t 10) (.c (.int .i64 4)), none, []⟩,
  ⟨some 12, .mv (.t 11), none, []⟩,
  ⟨some 13, .fieldA 2 (.t 1), some (12, false), []⟩,
  ⟨some 14, .load false 1 (.t 13), some (12, false), []⟩,
  ⟨some 15, .lenS (.t 14), some (12, false), []⟩,
  ⟨some 16, .bin .gtr (.t 15) (.c (.int .i64 8)), some (12, false), []⟩,
  ⟨some 17, .pick (.t 12) (.c (.bool true)) (.t 16), none, []⟩,
  ⟨some 7, .mv (.t 17), none, []⟩]) (.cond (.t 7) (.seq (.reg false [
  ⟨some 2, .mv (.c (.int .i64 3)), none, []⟩]) (.ret)) (.seq (.reg false [
  ⟨some 19, .fieldA 0 (.t 1), none, []⟩,
  ⟨some 20, .load false 1 (.t 19), none, []⟩,
  ⟨some 21, .callP false (.f 149) [(.t 20), (.c (.int .i64 2))], none, []⟩,
  ⟨some 22, .un .not (.t 21), none, []⟩,
  ⟨some 18, .mv (.t 22), none, []⟩]) (.cond (.t 18) (.seq (.reg false [
  ⟨some 2, .mv (.c (.int .i64 4)), none, []⟩]) (.ret)) (.skip)))))) (.seq (.seq (.reg false [
  ⟨some 23, .fieldA 1 (.t 1), none, []⟩,
  ⟨some 24, .load false 1 (.t 23), none, []⟩,
  ⟨some 25, .callP false (.f 190) [(.t 24), (.c (.int .i64 1))], none, []⟩,
  ⟨some 3, .mv (.t 25), none, []⟩]) (.seq (.reg false [
  ⟨some 26, .mv (.t 3), none, []⟩,
  ⟨some 27, .bin .neq (.t 26) (.c (.int .i64 0)), none, []⟩]) (.cond (.t 27) (.seq (.reg false [
  ⟨some 28, .mv (.t 3), none, []⟩,
  ⟨some 2, .mv (.t 28), none, []⟩]) (.ret)) (.skip)))) (.seq (.seq (.reg false [
  ⟨some 29, .fieldA 2 (.t 1), none, []⟩,
  ⟨some 30, .load false 1 (.t 29), none, []⟩,
  ⟨some 31, .lenS (.t 30), none, []⟩,
  ⟨some 32, .mv (.c (.int .i64 0)), none, []⟩]) (.block 1 (.loop (.seq (.reg false [
  ⟨some 33, .bin .lss (.t 32) (.t 31), none, []⟩]) (.seq (.cond (.t 33) (.skip) (.exit 1)) (.seq (.block 2 (.seq (.reg false [
  ⟨some 34, .idxS 2 (.t 30) (.t 32), none, []⟩,
  ⟨some 35, .load true 2 (.t 34), none, []⟩,
  ⟨some 5, .pend [(.str []), (.slice 0 [] .full)], none, []⟩,
  ⟨none, .shut 5 2 (.t 35), none, []⟩]) (.seq (.block 3 (.seq (.reg false [
  ⟨some 37, .fieldA 1 (.t 5), none, []⟩,
  ⟨some 38, .load false 1 (.t 37), none, []⟩,
  ⟨some 39, .lenS (.t 38), none, []⟩,
  ⟨some 40, .bin .gtr (.t 39) (.c (.int .i64 4)), none, []⟩,
  ⟨some 36, .mv (.t 40), none, []⟩]) (.cond (.t 36) (.seq (.reg false [
  ⟨some 2, .mv (.c (.int .i64 3)), none, []⟩]) (.ret)) (.seq (.reg false [
  ⟨some 42, .fieldA 0 (.t 5), none, []⟩,
  ⟨some 43, .load false 1 (.t 42), none, []⟩,
  ⟨some 44, .callP false (.f 149) [(.t 43), (.c (.int .i64 2))], none, []⟩,
  ⟨some 45, .un .not (.t 44), none, []⟩,
  ⟨some 41, .mv (.t 45), none, []⟩]) (.cond (.t 41) (.seq (.reg false [
  ⟨some 2, .mv (.c (.int .i64 4)), none, []⟩]) (.ret)) (.skip)))))) (.seq (.reg false [
  ⟨some 46, .fieldA 1 (.t 5), none, []⟩,
  ⟨some 47, .load false 1 (.t 46), none, []⟩,
  ⟨some 48, .callP false (.f 191) [(.t 47)], none, []⟩,
  ⟨some 6, .mv (.t 48), none, []⟩]) (.seq (.reg false [
  ⟨some 49, .mv (.t 6), none, []⟩,
  ⟨some 50, .bin .neq (.t 49) (.c (.int .i64 0)), none, []⟩]) (.cond (.t 50) (.seq (.reg false [
  ⟨some 51, .mv (.t 6), none, []⟩,
  ⟨some 2, .mv (.t 51), none, []⟩]) (.ret)) (.skip))))))) (.reg false [
  ⟨some 52, .bin .add (.t 32) (.c (.int .i64 1)), none, []⟩,
  ⟨some 32, .mv (.t 52), none, []⟩]))))))) (.seq (.reg false [
  ⟨some 2, .mv (.c (.int .i64 0)), none, []⟩]) (.ret))))))⟩
def h146 : Hint := { cb := [1], ps := [4], cp := [32, 25, 14], cs := [], ap := [] }
def c146 : AF := ⟨1, 37, [.tmp 2],
 (.seq (.reg false [
  ⟨some 1, .boxc (.t 0), none, []⟩,
  ⟨some 2, .mv (.c (.int .i64 0)), none, []⟩]) (.seq (.block 0 (.seq (.reg false [
  ⟨some 7, .fieldA 1 (.t 1), none, []⟩,
  ⟨some 8, .load false 1 (.t 7), none, []⟩,
  ⟨some 9, .lenS (.t 8), none, []⟩,
  ⟨some 10, .bin .gtr (.t 9) (.c (.int .i64 8)), none, []⟩,
  ⟨some 6, .mv (.t 10), none, []⟩]) (.cond (.t 6) (.seq (.reg false [
  ⟨some 2, .mv (.c (.int .i64 3)), none, []⟩]) (.ret)) (.seq (.reg false [
  ⟨some 12, .fieldA 0 (.t 1), none, []⟩,
  ⟨some 13, .load false 1 (.t 12), none, []⟩,
  ⟨some 14, .callP false (.f 149) [(.t 13), (.c (.int .i64 2))], none, []⟩,
  ⟨some 15, .un .not (.t 14), none, []⟩,
  ⟨some 11, .mv (.t 15), none, []⟩]) (.cond (.t 11) (.seq (.reg false [
  ⟨some 2, .mv (.c (.int .i64 4)), none, []⟩]) (.ret)) (.skip)))))) (.seq (.seq (.reg false [
  ⟨some 16, .fieldA 1 (.t 1), none, []⟩,
  ⟨some 17, .load false 1 (.t 16), none, []⟩,
  ⟨some 18, .lenS (.t 17), none, []⟩,
  ⟨some 19, .mv (.c (.int .i64 0)), none, []⟩]) (.block 1 (.loop (.seq (.reg false [
  ⟨some 20, .bin .lss (.t 19) (.t 18), none, []⟩]) (.seq (.cond (.t 20) (.skip) (.exit 1)) (.seq (.block 2 (.seq (.reg false [
  ⟨some 21, .idxS 14 (.t 17) (.t 19), none, []⟩,
  ⟨some 22, .load true 14 (.t 21), none, []⟩,
  ⟨some 4, .pend [(.str []), (.int .i64 0), (.int .i64 0), (.str []), (.slice 0 [] .full), (.slice 0 [] .full), (.int .i64 0), (.int .i64 0), (.int .i64 0), (.str []), (.slice 0 [] .full), (.slice 0 [] .full), (.int .i64 0), (.bool false)], none, []⟩,
  ⟨none, .shut 4 14 (.t 22), none, []⟩]) (.seq (.seq (.reg false [
  ⟨some 23, .fieldA 0 (.t 4), none, []⟩,
  ⟨some 24, .load false 1 (.t 23), none, []⟩,
  ⟨some 25, .callP false (.f 149) [(.t 24), (.c (.int .i64 1))], none, []⟩,
  ⟨some 26, .un .not (.t 25), none, []⟩]) (.cond (.t 26) (.seq (.reg false [
  ⟨some 2, .mv (.c (.int .i64 4)), none, []⟩]) (.ret)) (.skip))) (.seq (.reg false [
  ⟨some 27, .fieldA 1 (.t 4), none, []⟩,
  ⟨some 28, .load true 6 (.t 27), none, []⟩,
  ⟨some 29, .fieldA 7 (.t 4), none, []⟩,
  ⟨some 30, .load true 6 (.t 29), none, []⟩,
  ⟨some 31, .bslice 6 2 [(.int .i64 0), (.int .i64 0), (.str []), (.slice 0 [] .full), (.slice 0 [] .full), (.int .i64 0)] [(0, (.t 28)), (1, (.t 30))], none, []⟩,
  ⟨some 32, .callP false (.f 191) [(.t 31)], none, []⟩,
  ⟨some 5, .mv (.t 32), none, []⟩]) (.seq (.reg false [
  ⟨some 33, .mv (.t 5), none, []⟩,
  ⟨some 34, .bin .neq (.t 33) (.c (.int .i64 0)), none, []⟩]) (.cond (.t 34) (.seq (.reg false [
  ⟨some 35, .mv (.t 5), none, []⟩,
  ⟨some 2, .mv (.t 35), none, []⟩]) (.ret)) (.skip))))))) (.reg false [
  ⟨some 36, .bin .add (.t 19) (.c (.int .i64 1)), none, []⟩,
  ⟨some 19, .mv (.t 36), none, []⟩]))))))) (.seq (.reg false [
  ⟨some 2, .mv (.c (.int .i64 0)), none, []⟩]) (.ret)))))⟩
def h147 : Hint := { cb := [5, 4, 3], ps := [], cp := [], cs := [], ap := [] }
def c147 : AF := ⟨3, 35, [.tmp 6],
 (.seq (.reg false [
  ⟨some 3, .boxc (.t 0), none, []⟩,
  ⟨some 4, .boxc (.t 1), none, []⟩,
  ⟨some 5, .boxc (.t 2), none, []⟩,
  ⟨some 6, .mv (.c (.bool false)), none, []⟩]) (.seq (.reg false [
  ⟨some 7, .load false 1 (.t 3), none, []⟩,
  ⟨some 8, .nilchk (.t 7), none, []⟩,
  ⟨some 9, .fieldA 0 (.t 8), none, []⟩,
  ⟨some 10, .load false 1 (.t 9), none, []⟩,
  ⟨some 11, .bin .sub (.t 10) (.c (.int .i64 1)), none, []⟩,
  ⟨some 12, .nilchk (.t 7), none, []⟩,
  ⟨some 13, .fieldA 0 (.t 12), none, []⟩,
  ⟨none, .store 1 (.t 13) (.t 11), none, []⟩]) (.seq (.reg true [
  ⟨some 14, .load false 1 (.t 3), none, []⟩,
  ⟨some 15, .load false 1 (.t 3), none, []⟩,
  ⟨some 16, .nilchk (.t 15), none, [1]⟩,
  ⟨some 17, .fieldA 1 (.t 16), none, [2, 1]⟩,
  ⟨some 18, .load false 1 (.t 17), none, [3, 2, 1]⟩,
  ⟨some 19, .load false 1 (.t 5), none, []⟩,
  ⟨some 20, .minmax true [(.t 18), (.t 19)], none, [4, 3, 2, 1, 5]⟩,
  ⟨some 21, .nilchk (.t 14), none, [0, 1, 2, 3, 4, 5, 6]⟩,
  ⟨some 22, .fieldA 1 (.t 21), none, [7, 0, 1, 2, 3, 4, 5, 6]⟩,
  ⟨none, .store 1 (.t 22) (.t 20), none, [8, 7, 0, 1, 2, 3, 4, 5, 6]⟩]) (.seq (.seq (.reg false [
  ⟨some 23, .load false 1 (.t 3), none, []⟩,
  ⟨some 24, .nilchk (.t 23), none, []⟩,
  ⟨some 25, .fieldA 0 (.t 24), none, []⟩,
  ⟨some 26, .load false 1 (.t 25), none, []⟩,
  ⟨some 27, .bin .lss (.t 26) (.c (.int .i64 0)), none, []⟩,
  ⟨some 28, .mv (.t 27), none, []⟩,
  ⟨some 29, .load false 1 (.t 5), some (28, false), []⟩,
  ⟨some 30, .bin .gtr (.t 29) (.c (.int .i64 200)), some (28, false), []⟩,
  ⟨some 31, .pick (.t 28) (.c (.bool true)) (.t 30), none, []⟩]) (.cond (.t 31) (.seq (.reg false [
  ⟨some 6, .mv (.c (.bool false)), none, []⟩]) (.ret)) (.skip))) (.seq (.reg false [
  ⟨some 32, .load true 7 (.t 4), none, []⟩,
  ⟨some 33, .mkFunc 193 [] [(.t 3), (.t 5)], none, []⟩,
  ⟨some 34, .call (.f 192) [(.t 32), (.t 33)], none, []⟩,
  ⟨some 6, .mv (.t 34), none, []⟩]) (.ret))))))⟩
def h148 : Hint := { cb := [1], ps := [5], cp := [], cs := [], ap := [] }
def c148 : AF := ⟨1, 30, [.cell 2 true 7],
 (.seq (.reg false [
  ⟨some 1, .boxc (.t 0), none, []⟩,
  ⟨some 2, .alloc [(.int .i64 0), (.int .i64 0), (.str []), (.str []), (.slice 0 [] .full), (.slice 0 [] .full), (.slice 0 [] .full)], none, []⟩]) (.seq (.reg false [
  ⟨some 6, .fieldA 3 (.t 1), none, []⟩,
  ⟨some 7, .load true 7 (.t 6), none, []⟩,
  ⟨some 3, .alloc [(.int .i64 0), (.int .i64 0), (.str []), (.str []), (.slice 0 [] .full), (.slice 0 [] .full), (.slice 0 [] .full)], none, []⟩,
  ⟨none, .store 7 (.t 3) (.t 7), none, []⟩]) (.seq (.seq (.reg false [
  ⟨some 8, .fieldA 2 (.t 1), none, []⟩,
  ⟨some 9, .load false 1 (.t 8), none, []⟩,
  ⟨some 10, .lenS (.t 9), none, []⟩,
  ⟨some 11, .bin .sub (.t 10) (.c (.int .i64 1)), none, []⟩,
  ⟨some 4, .mv (.t 11), none, []⟩]) (.block 0 (.loop (.seq (.seq (.reg false [
  ⟨some 12, .mv (.t 4), none, []⟩,
  ⟨some 13, .bin .geq (.t 12) (.c (.int .i64 0)), none, []⟩]) (.cond (.t 13) (.skip) (.exit 0))) (.seq (.block 1 (.seq (.reg false [
  ⟨some 16, .fieldA 2 (.t 1), none, []⟩,
  ⟨some 17, .load false 1 (.t 16), none, []⟩,
  ⟨some 18, .mv (.t 4), none, []⟩,
  ⟨some 19, .idxS 8 (.t 17) (.t 18), none, []⟩,
  ⟨some 20, .load true 8 (.t 19), none, []⟩,
  ⟨some 5, .pend [(.str []), (.int .i64 0), (.int .i64 0), (.str []), (.str []), (.slice 0 [] .full), (.slice 0 [] .full), (.slice 0 [] .full)], none, []⟩,
  ⟨none, .shut 5 8 (.t 20), none, []⟩]) (.reg false [
  ⟨some 21, .fieldA 0 (.t 5), none, []⟩,
  ⟨some 22, .load false 1 (.t 21), none, []⟩,
  ⟨some 23, .bslice 1 1 [(.str [])] [(0, (.t 22))], none, []⟩,
  ⟨some 24, .fieldA 1 (.t 5), none, []⟩,
  ⟨some 25, .load true 7 (.t 24), none, []⟩,
  ⟨some 26, .load true 7 (.t 3), none, []⟩,
  ⟨some 27, .bslice 7 2 [(.int .i64 0), (.int .i64 0), (.str []), (.str []), (.slice 0 [] .full), (.slice 0 [] .full), (.slice 0 [] .full)] [(0, (.t 25)), (1, (.t 26))], none, []⟩,
  ⟨some 28, .build [(.int .i64 0), (.int .i64 0), (.str []), (.str []), (.slice 0 [] .full), (.slice 0 [] .full), (.slice 0 [] .full)] [(0, 1, (.c (.int .i64 6))), (4, 1, (.t 23)), (5, 1, (.t 27))], none, []⟩,
  ⟨none, .store 7 (.t 3) (.t 28), none, []⟩]))) (.reg false [
  ⟨some 14, .mv (.t 4), none, []⟩,
  ⟨some 15, .bin .sub (.t 14) (.c (.int .i64 1)), none, []⟩,
  ⟨some 4, .mv (.t 15), none, []⟩])))))) (.seq (.reg false [
  ⟨some 29, .load true 7 (.t 3), none, []⟩,
  ⟨none, .store 7 (.t 2) (.t 29), none, []⟩]) (.ret)))))⟩
def h149 : Hint := { cb := [], ps := [], cp := [13, 9], cs := [], ap := [] }
def c149 : AF := ⟨2, 36, [.tmp 4],
 (.seq (.reg false [
  ⟨some 4, .mv (.c (.bool false)), none, []⟩]) (.seq (.seq (.reg false [
  ⟨some 5, .mv (.t 1), none, []⟩]) (.block 0 (.seq (.reg false [
  ⟨some 7, .bin .eql (.t 5) (.c (.int .i64 1)), none, []⟩,
  ⟨some 6, .mv (.t 7), none, []⟩]) (.cond (.t 6) (.seq (.reg false [
  ⟨some 8, .mv (.t 0), none, []⟩,
  ⟨some 9, .callP false (.f 77) [(.t 8)], none, []⟩,
  ⟨some 4, .mv (.t 9), none, []⟩]) (.ret)) (.seq (.reg false [
  ⟨some 11, .bin .eql (.t 5) (.c (.int .i64 2)), none, []⟩,
  ⟨some 10, .mv (.t 11), none, []⟩]) (.cond (.t 10) (.seq (.reg false [
  ⟨some 12, .mv (.t 0), none, []⟩,
  ⟨some 13, .callP false (.f 194) [(.t 12)], none, []⟩,
  ⟨some 4, .mv (.t 13), none, []⟩]) (.ret)) (.seq (.reg false [
  ⟨some 15, .bin .eql (.t 5) (.c (.int .i64 3)), none, []⟩,
  ⟨some 14, .mv (.t 15), none, []⟩]) (.cond (.t 14) (.seq (.reg false [
  ⟨some 16, .mv (.t 0), none, []⟩,
  ⟨some 17, .bin .eql (.t 16) (.c (.str [43])), none, []⟩,
  ⟨some 18, .mv (.t 17), none, []⟩,
  ⟨some 19, .mv (.t 0), some (18, false), []⟩,
  ⟨some 20, .bin .eql (.t 19) (.c (.str [45])), some (18, false), []⟩,
  ⟨some 21, .pick (.t 18) (.c (.bool true)) (.t 20), none, []⟩,
  ⟨some 22, .mv (.t 21), none, []⟩,
  ⟨some 23, .mv (.t 0), some (22, false), []⟩,
  ⟨some 24, .bin .eql (.t 23) (.c (.str [42])), some (22, false), []⟩,
  ⟨some 25, .pick (.t 22) (.c (.bool true)) (.t 24), none, []⟩,
  ⟨some 26, .mv (.t 25), none, []⟩,
  ⟨some 27, .mv (.t 0), some (26, false), []⟩,
  ⟨some 28, .bin .eql (.t 27) (.c (.str [60])), some (26, false), []⟩,
  ⟨some 29, .pick (.t 26) (.c (.bool true)) (.t 28), none, []⟩,
  ⟨some 30, .mv (.t 29), none, []⟩,
  ⟨some 31, .mv (.t 0), some (30, false), []⟩,
  ⟨some 32, .bin .eql (.t 31) (.c (.str [61, 61])), some (30, false), []⟩,
  ⟨some 33, .pick (.t 30) (.c (.bool true)) (.t 32), none, []⟩,
  ⟨some 4, .mv (.t 33), none, []⟩]) (.ret)) (.skip))))))))) (.seq (.reg false [
  ⟨some 34, .mv (.t 0), none, []⟩,
  ⟨some 35, .bin .eql (.t 34) (.c (.str [])), none, []⟩,
  ⟨some 4, .mv (.t 35), none, []⟩]) (.ret))))⟩
def h150 : Hint := { cb := [1], ps := [], cp := [5], cs := [], ap := [] }
def c150 : AF := ⟨1, 12, [.tmp 2],
 (.seq (.reg false [
  ⟨some 1, .boxc (.t 0), none, []⟩,
  ⟨some 2, .mv (.c (.int .i64 0)), none, []⟩]) (.seq (.reg false [
  ⟨some 4, .load true 7 (.t 1), none, []⟩,
  ⟨some 5, .callP false (.f 195) [(.t 4)], none, []⟩,
  ⟨some 3, .alloc [(.int .i64 0)], none, []⟩,
  ⟨none, .store 1 (.t 3) (.t 5), none, []⟩]) (.seq (.seq (.reg false [
  ⟨some 6, .load false 1 (.t 3), none, []⟩,
  ⟨some 7, .bin .eql (.t 6) (.c (.int .i64 0)), none, []⟩]) (.cond (.t 7) (.reg false [
  ⟨some 8, .load true 7 (.t 1), none, []⟩,
  ⟨some 9, .mkFunc 196 [] [(.t 3)], none, []⟩,
  ⟨some 10, .call (.f 192) [(.t 8), (.t 9)], none, []⟩]) (.skip))) (.seq (.reg false [
  ⟨some 11, .load false 1 (.t 3), none, []⟩,
  ⟨some 2, .mv (.t 11), none, []⟩]) (.ret)))))⟩
def h164 : Hint := { cb := [], ps := [], cp := [], cs := [], ap := [] }
def c164 : AF := ⟨1, 39, [.tmp 2],
 (.seq (.reg false [
  ⟨some 2, .mv (.c (.int .i64 0)), none, []⟩]) (.seq (.block 0 (.seq (.reg false [
  ⟨some 4, .mv (.t 0), none, []⟩,
  ⟨some 5, .bin .eql (.t 4) (.c (.int .u8 32)), none, []⟩,
  ⟨some 6, .mv (.t 5), none, []⟩,
  ⟨some 7, .mv (.t 0), some (6, false), []⟩,
  ⟨some 8, .bin .eql (.t 7) (.c (.int .u8 9)), some (6, false), []⟩,
  ⟨some 9, .pick (.t 6) (.c (.bool true)) (.t 8), none, []⟩,
  ⟨some 10, .mv (.t 9), none, []⟩,
  ⟨some 11, .mv (.t 0), some (10, false), []⟩,
  ⟨some 12, .bin .eql (.t 11) (.c (.int .u8 10)), some (10, false), []⟩,
  ⟨some 13, .pick (.t 10) (.c (.bool true)) (.t 12), none, []⟩,
  ⟨some 3, .mv (.t 13), none, []⟩]) (.cond (.t 3) (.seq (.reg false [
  ⟨some 2, .mv (.c (.int .i64 1)), none, []⟩]) (.ret)) (.seq (.reg false [
  ⟨some 15, .mv (.t 0), none, []⟩,
  ⟨some 16, .bin .eql (.t 15) (.c (.int .u8 95)), none, []⟩,
  ⟨some 17, .mv (.t 16), none, []⟩,
  ⟨some 18, .mv (.t 0), some (17, false), []⟩,
  ⟨some 19, .bin .leq (.c (.int .u8 97)) (.t 18), some (17, false), []⟩,
  ⟨some 20, .mv (.t 19), some (17, false), []⟩,
  ⟨some 21, .mv (.t 0), some (20, true), []⟩,
  ⟨some 22, .bin .leq (.t 21) (.c (.int .u8 122)), some (20, true), []⟩,
  ⟨some 23, .pick (.t 20) (.t 22) (.c (.bool false)), some (17, false), []⟩,
  ⟨some 24, .pick (.t 17) (.c (.bool true)) (.t 23), none, []⟩,
  ⟨some 14, .mv (.t 24), none, []⟩]) (.cond (.t 14) (.seq (.reg false [
  ⟨some 2, .mv (.c (.int .i64 2)), none, []⟩]) (.ret)) (.seq (.reg false [
  ⟨some 26, .mv (.t 0), none, []⟩,
  ⟨some 27, .bin .leq (.c (.int .u8 65)) (.t 26), none, []⟩,
  ⟨some 28, .mv (.t 27), none, []⟩,
  ⟨some 29, .mv (.t 0), some (28, true), []⟩,
  ⟨some 30, .bin .leq (.t 29) (.c (.int .u8 90)), some (28, true), []⟩,
  ⟨some 31, .pick (.t 28) (.t 30) (.c (.bool false)), none, []⟩,
  ⟨some 25, .mv (.t 31), none, []⟩]) (.cond (.t 25) (.seq (.reg false [
  ⟨some 2, .mv (.c (.int .i64 3)), none, []⟩]) (.ret)) (.seq (.reg false [
  ⟨some 33, .mv (.t 0), none, []⟩,
  ⟨some 34, .bin .leq (.c (.int .u8 48)) (.t 33), none, []⟩,
  ⟨some 35, .mv (.t 34), none, []⟩,
  ⟨some 36, .mv (.t 0), some (35, true), []⟩,
  ⟨some 37, .bin .leq (.t 36) (.c (.int .u8 57)), some (35, true), []⟩,
  ⟨some 38, .pick (.t 35) (.t 37) (.c (.bool false)), none, []⟩,
  ⟨some 32, .mv (.t 38), none, []⟩]) (.cond (.t 32) (.seq (.reg false [
  ⟨some 2, .mv (.c (.int .i64 4)), none, []⟩]) (.ret)) (.skip)))))))))) (.seq (.reg false [
  ⟨some 2, .mv (.c (.int .i64 0)), none, []⟩]) (.ret))))⟩
def h165 : Hint := { cb := [], ps := [], cp := [5], cs := [], ap := [] }
def c165 : AF := ⟨0, 15, [.tmp 0],
 (.seq (.reg false [
  ⟨some 0, .mv (.c .nilmap), none, []⟩]) (.seq (.reg false [
  ⟨some 4, .mkMap, none, []⟩,
  ⟨some 1, .mv (.t 4), none, []⟩]) (.seq (.seq (.reg false [
  ⟨some 5, .callP false (.f 200) [(.c (.str [102, 117, 110, 32, 108, 101, 116, 32, 114, 101, 99, 32, 105, 110, 32, 105, 102, 32, 116, 104, 101, 110, 32, 101, 108, 115, 101, 32, 109, 97, 116, 99, 104, 32, 100, 111, 32, 104, 97, 110, 100, 108, 101, 32, 115, 104, 97, 108, 108, 111, 119, 32, 110, 97, 109, 101, 100, 32, 109, 97, 115, 107, 32, 117, 115, 105, 110, 103, 32, 99, 108, 111, 115, 101, 32, 114, 101, 115, 117, 109, 101, 32, 100, 114, 111, 112, 32, 114, 101, 116, 117, 114, 110, 32, 116, 114, 117, 101, 32, 102, 97, 108, 115, 101, 32, 100, 97, 116, 97, 32, 101, 102, 102, 101, 99, 116, 32, 111, 110, 99, 101, 32, 100, 101, 102, 32, 109, 97, 105, 110]))], none, []⟩,
  ⟨some 6, .lenS (.t 5), none, []⟩,
  ⟨some 7, .mv (.c (.int .i64 0)), none, []⟩]) (.block 0 (.loop (.seq (.reg false [
  ⟨some 8, .bin .lss (.t 7) (.t 6), none, []⟩]) (.seq (.cond (.t 8) (.skip) (.exit 0)) (.seq (.block 1 (.seq (.reg false [
  ⟨some 9, .idxS 1 (.t 5) (.t 7), none, []⟩,
  ⟨some 10, .load false 1 (.t 9), none, []⟩,
  ⟨some 3, .mv (.t 10), none, []⟩]) (.reg false [
  ⟨some 11, .mv (.t 1), none, []⟩,
  ⟨some 12, .mv (.t 3), none, []⟩,
  ⟨none, .mapSet .str (.t 11) (.t 12) (.c (.int .i64 1)), none, []⟩]))) (.reg false [
  ⟨some 13, .bin .add (.t 7) (.c (.int .i64 1)), none, []⟩,
  ⟨some 7, .mv (.t 13), none, []⟩]))))))) (.seq (.reg false [
  ⟨some 14, .mv (.t 1), none, []⟩,
  ⟨some 0, .mv (.t 14), none, []⟩]) (.ret)))))⟩
def h167 : Hint := { cb := [], ps := [], cp := [], cs := [], ap := [] }
def c167 : AF := ⟨2, 19, [.tmp 4],
 (.seq (.reg false [
  ⟨some 4, .mv (.c (.int .i64 0)), none, []⟩]) (.seq (.seq (.reg false [
  ⟨some 6, .mv (.t 0), none, []⟩,
  ⟨some 7, .lenS (.t 6), none, []⟩,
  ⟨some 8, .mv (.c (.int .i64 0)), none, []⟩]) (.block 0 (.loop (.seq (.reg false [
  ⟨some 9, .bin .lss (.t 8) (.t 7), none, []⟩]) (.seq (.cond (.t 9) (.skip) (.exit 0)) (.seq (.block 1 (.seq (.reg false [
  ⟨some 10, .mv (.t 8), none, []⟩,
  ⟨some 5, .mv (.t 10), none, []⟩]) (.seq (.reg false [
  ⟨some 11, .mv (.t 1), none, []⟩,
  ⟨some 12, .mv (.t 0), none, []⟩,
  ⟨some 13, .mv (.t 5), none, []⟩,
  ⟨some 14, .idxS 1 (.t 12) (.t 13), none, []⟩,
  ⟨some 15, .load false 1 (.t 14), none, []⟩,
  ⟨some 16, .bin .eql (.t 11) (.t 15), none, []⟩]) (.cond (.t 16) (.seq (.reg false [
  ⟨some 17, .mv (.t 5), none, []⟩,
  ⟨some 4, .mv (.t 17), none, []⟩]) (.ret)) (.skip))))) (.reg false [
  ⟨some 18, .bin .add (.t 8) (.c (.int .i64 1)), none, []⟩,
  ⟨some 8, .mv (.t 18), none, []⟩]))))))) (.seq (.reg false [
  ⟨some 4, .mv (.c (.int .i64 (-1))), none, []⟩]) (.ret))))⟩
def h168 : Hint := { cb := [], ps := [], cp := [20], cs := [], ap := [] }
def c168 : AF := ⟨2, 24, [],
 (.seq (.reg false [
  ⟨some 4, .fieldA 0 (.t 1), none, []⟩,
  ⟨some 5, .fieldA 5 (.t 4), none, []⟩,
  ⟨some 6, .load false 1 (.t 5), none, []⟩,
  ⟨some 7, .lenS (.t 6), none, []⟩,
  ⟨some 8, .fieldA 0 (.t 1), none, []⟩,
  ⟨some 9, .fieldA 6 (.t 8), none, []⟩,
  ⟨some 10, .load false 1 (.t 9), none, []⟩,
  ⟨some 11, .lenS (.t 10), none, []⟩,
  ⟨some 12, .bin .add (.t 7) (.t 11), none, []⟩,
  ⟨some 13, .mv (.c (.int .i64 0)), none, []⟩]) (.block 0 (.loop (.seq (.reg false [
  ⟨some 14, .bin .lss (.t 13) (.t 12), none, []⟩]) (.seq (.cond (.t 14) (.skip) (.exit 0)) (.seq (.block 1 (.seq (.reg false [
  ⟨some 15, .mv (.t 13), none, []⟩,
  ⟨some 3, .mv (.t 15), none, []⟩]) (.seq (.reg false [
  ⟨some 16, .mv (.t 0), none, []⟩,
  ⟨some 17, .mv (.t 3), none, []⟩,
  ⟨some 18, .load true 8 (.t 1), none, []⟩,
  ⟨some 19, .mv (.t 3), none, []⟩,
  ⟨some 20, .callP false (.f 169) [(.t 18), (.t 19)], none, []⟩,
  ⟨some 21, .call (.t 16) [(.t 17), (.t 20)], none, []⟩,
  ⟨some 22, .un .not (.t 21), none, []⟩]) (.cond (.t 22) (.ret) (.skip))))) (.reg false [
  ⟨some 23, .bin .add (.t 13) (.c (.int .i64 1)), none, []⟩,
  ⟨some 13, .mv (.t 23), none, []⟩])))))))⟩
def h169 : Hint := { cb := [2], ps := [], cp := [], cs := [35], ap := [] }
def c169 : AF := ⟨2, 37, [.cell 4 true 8],
 (.seq (.reg false [
  ⟨some 2, .boxc (.t 0), none, []⟩,
  ⟨some 4, .alloc [(.int .i64 0), (.int .i64 0), (.str []), (.str []), (.slice 0 [] .full), (.slice 0 [] .full), (.slice 0 [] .full), (.slice 0 [] .full)], none, []⟩]) (.seq (.reg false [
  ⟨some 6, .build [(.int .i64 0), (.int .i64 0), (.str []), (.str []), (.slice 0 [] .full), (.slice 0 [] .full), (.slice 0 [] .full)] [], none, []⟩,
  ⟨some 5, .alloc [(.int .i64 0), (.int .i64 0), (.str []), (.str []), (.slice 0 [] .full), (.slice 0 [] .full), (.slice 0 [] .full)], none, []⟩,
  ⟨none, .store 7 (.t 5) (.t 6), none, []⟩]) (.seq (.seq (.reg false [
  ⟨some 7, .mv (.t 1), none, []⟩,
  ⟨some 8, .fieldA 0 (.t 2), none, []⟩,
  ⟨some 9, .fieldA 5 (.t 8), none, []⟩,
  ⟨some 10, .load false 1 (.t 9), none, []⟩,
  ⟨some 11, .lenS (.t 10), none, []⟩,
  ⟨some 12, .bin .lss (.t 7) (.t 11), none, []⟩]) (.cond (.t 12) (.reg false [
  ⟨some 13, .fieldA 0 (.t 2), none, []⟩,
  ⟨some 14, .fieldA 5 (.t 13), none, []⟩,
  ⟨some 15, .load false 1 (.t 14), none, []⟩,
  ⟨some 16, .mv (.t 1), none, []⟩,
  ⟨some 17, .idxS 7 (.t 15) (.t 16), none, []⟩,
  ⟨some 18, .load true 7 (.t 17), none, []⟩,
  ⟨none, .store 7 (.t 5) (.t 18), none, []⟩]) (.reg false [
  ⟨some 19, .fieldA 0 (.t 2), none, []⟩,
  ⟨some 20, .fieldA 6 (.t 19), none, []⟩,
  ⟨some 21, .load false 1 (.t 20), none, []⟩,
  ⟨some 22, .mv (.t 1), none, []⟩,
  ⟨some 23, .fieldA 0 (.t 2), none, []⟩,
  ⟨some 24, .fieldA 5 (.t 23), none, []⟩,
  ⟨some 25, .load false 1 (.t 24), none, []⟩,
  ⟨some 26, .lenS (.t 25), none, []⟩,
  ⟨some 27, .bin .sub (.t 22) (.t 26), none, []⟩,
  ⟨some 28, .idxS 9 (.t 21) (.t 27), none, []⟩,
  ⟨some 29, .fieldA 2 (.t 28), none, []⟩,
  ⟨some 30, .load true 7 (.t 29), none, []⟩,
  ⟨none, .store 7 (.t 5) (.t 30), none, []⟩]))) (.seq (.reg true [
  ⟨some 31, .load true 7 (.t 5), none, []⟩,
  ⟨some 32, .fieldA 7 (.t 2), none, []⟩,
  ⟨some 33, .load false 1 (.t 32), none, [1]⟩,
  ⟨some 34, .mv (.t 1), none, []⟩,
  ⟨some 35, .callP true (.f 202) [(.t 33), (.t 34)], none, [2, 1, 3]⟩,
  ⟨some 36, .build [(.int .i64 0), (.int .i64 0), (.str []), (.str []), (.slice 0 [] .full), (.slice 0 [] .full), (.slice 0 [] .full), (.slice 0 [] .full)] [(0, 7, (.t 31)), (7, 1, (.t 35))], none, [0, 4, 2, 1, 3]⟩,
  ⟨none, .store 8 (.t 4) (.t 36), none, [5, 0, 4, 2, 1, 3]⟩]) (.ret)))))⟩
def h170 : Hint := { cb := [3, 2], ps := [7], cp := [26, 22, 12], cs := [], ap := [] }
def c170 : AF := ⟨2, 31, [.cell 4 false 1, .cell 5 false 1],
 (.seq (.reg false [
  ⟨some 2, .boxc (.t 0), none, []⟩,
  ⟨some 3, .boxc (.t 1), none, []⟩,
  ⟨some 4, .alloc [(.slice 0 [] .full)], none, []⟩,
  ⟨some 5, .alloc [(.bool false)], none, []⟩]) (.seq (.seq (.reg false [
  ⟨some 10, .load true 8 (.t 2), none, []⟩,
  ⟨some 11, .load false 1 (.t 3), none, []⟩,
  ⟨some 12, .callP false (.f 114) [(.t 10), (.t 11)], none, []⟩]) (.cond (.t 12) (.seq (.reg false [
  ⟨some 13, .fieldA 7 (.t 2), none, []⟩,
  ⟨some 14, .load false 1 (.t 13), none, []⟩,
  ⟨none, .store 1 (.t 4) (.t 14), none, []⟩,
  ⟨none, .store 1 (.t 5) (.c (.bool true)), none, []⟩]) (.ret)) (.skip))) (.seq (.seq (.reg false [
  ⟨some 15, .load true 8 (.t 2), none, []⟩,
  ⟨some 16, .call (.f 116) [(.t 15)], none, []⟩]) (.block 0 (.rangeF (.t 16) [17, 18] (.seq (.reg false [
  ⟨some 6, .mv (.t 17), none, []⟩]) (.reg false [
  ⟨some 7, .pend [(.int .i64 0), (.int .i64 0), (.str []), (.str []), (.slice 0 [] .full), (.slice 0 [] .full), (.slice 0 [] .full), (.slice 0 [] .full)], none, []⟩,
  ⟨none, .shut 7 8 (.t 18), none, []⟩])) (.block 1 (.seq (.seq (.reg false [
  ⟨some 19, .load true 8 (.t 2), none, []⟩,
  ⟨some 20, .mv (.t 6), none, []⟩,
  ⟨some 21, .load false 1 (.t 3), none, []⟩,
  ⟨some 22, .callP false (.f 117) [(.t 19), (.t 20), (.t 21)], none, []⟩]) (.cond (.t 22) (.exit 1) (.skip))) (.seq (.reg false [
  ⟨some 24, .load true 8 (.t 7), none, []⟩,
  ⟨some 25, .load false 1 (.t 3), none, []⟩,
  ⟨some 26, .callP false (.f 170) [(.t 24), (.t 25)], none, []⟩,
  ⟨some 23, .mv (.t 26), none, []⟩,
  ⟨some 27, .extract (.t 23) 0, none, []⟩,
  ⟨some 28, .extract (.t 23) 1, none, []⟩,
  ⟨some 8, .mv (.t 27), none, []⟩,
  ⟨some 9, .mv (.t 28), none, []⟩]) (.seq (.reg false [
  ⟨some 29, .mv (.t 9), none, []⟩]) (.cond (.t 29) (.seq (.reg false [
  ⟨some 30, .mv (.t 8), none, []⟩,
  ⟨none, .store 1 (.t 4) (.t 30), none, []⟩,
  ⟨none, .store 1 (.t 5) (.c (.bool true)), none, []⟩]) (.ret)) (.skip))))))))) (.seq (.reg false [
  ⟨none, .store 1 (.t 4) (.c (.slice 0 [] .full)), none, []⟩,
  ⟨none, .store 1 (.t 5) (.c (.bool false)), none, []⟩]) (.ret)))))⟩
def h171 : Hint := { cb := [], ps := [], cp := [], cs := [], ap := [] }
def c171 : AF := ⟨1, 24, [.tmp 2, .tmp 3],
 (.seq (.reg false [
  ⟨some 2, .mv (.c (.slice 0 [] .full)), none, []⟩,
  ⟨some 3, .mv (.c (.bool false)), none, []⟩]) (.seq (.seq (.reg false [
  ⟨some 9, .mv (.t 0), none, []⟩,
  ⟨some 10, .lenS (.t 9), none, []⟩,
  ⟨some 11, .mv (.c (.int .i64 0)), none, []⟩]) (.block 0 (.loop (.seq (.reg false [
  ⟨some 12, .bin .lss (.t 11) (.t 10), none, []⟩]) (.seq (.cond (.t 12) (.skip) (.exit 0)) (.seq (.block 1 (.seq (.reg false [
  ⟨some 13, .idxS 1 (.t 9) (.t 11), none, []⟩,
  ⟨some 14, .load false 1 (.t 13), none, []⟩,
  ⟨some 5, .mv (.t 14), none, []⟩]) (.seq (.reg false [
  ⟨some 16, .mv (.t 5), none, []⟩,
  ⟨some 17, .call (.t 16) [], none, []⟩,
  ⟨some 15, .mv (.t 17), none, []⟩,
  ⟨some 18, .extract (.t 15) 0, none, []⟩,
  ⟨some 19, .extract (.t 15) 1, none, []⟩,
  ⟨some 6, .mv (.t 18), none, []⟩,
  ⟨some 7, .mv (.t 19), none, []⟩]) (.seq (.reg false [
  ⟨some 20, .mv (.t 7), none, []⟩]) (.cond (.t 20) (.seq (.reg false [
  ⟨some 21, .mv (.t 6), none, []⟩,
  ⟨some 2, .mv (.t 21), none, []⟩,
  ⟨some 3, .mv (.c (.bool true)), none, []⟩]) (.ret)) (.skip)))))) (.reg false [
  ⟨some 22, .bin .add (.t 11) (.c (.int .i64 1)), none, []⟩,
  ⟨some 11, .mv (.t 22), none, []⟩]))))))) (.seq (.reg false [
  ⟨some 8, .mv (.c (.slice 0 [] .full)), none, []⟩]) (.seq (.reg false [
  ⟨some 23, .mv (.t 8), none, []⟩,
  ⟨some 2, .mv (.t 23), none, []⟩,
  ⟨some 3, .mv (.c (.bool false)), none, []⟩]) (.ret)))))⟩
def h172 : Hint := { cb := [], ps := [], cp := [9], cs := [], ap := [] }
def c172 : AF := ⟨2, 12, [.tmp 2, .tmp 3],
 (.seq (.reg false [
  ⟨some 2, .mv (.c (.slice 0 [] .full)), none, []⟩,
  ⟨some 3, .mv (.c (.bool false)), none, []⟩]) (.seq (.reg true [
  ⟨some 4, .load true 8 (.t 0), none, []⟩,
  ⟨some 5, .load false 1 (.t 1), none, []⟩,
  ⟨some 6, .nilchk (.t 5), none, [1]⟩,
  ⟨some 7, .fieldA 0 (.t 6), none, [2, 1]⟩,
  ⟨some 8, .load false 1 (.t 7), none, [3, 2, 1]⟩,
  ⟨some 9, .callP false (.f 82) [(.t 4), (.t 8), (.c (.bool false)), (.c (.bool false))], none, [0, 4, 3, 2, 1]⟩,
  ⟨some 10, .extract (.t 9) 0, none, [5, 0, 4, 3, 2, 1]⟩,
  ⟨some 11, .extract (.t 9) 1, none, [5, 0, 4, 3, 2, 1]⟩,
  ⟨some 2, .mv (.t 10), none, [6, 5, 0, 4, 3, 2, 1, 7]⟩,
  ⟨some 3, .mv (.t 11), none, [7, 5, 0, 4, 3, 2, 1, 8, 6]⟩]) (.ret)))⟩
def h173 : Hint := { cb := [], ps := [], cp := [], cs := [], ap := [] }
def c173 : AF := ⟨2, 16, [.tmp 2, .tmp 3],
 (.seq (.reg false [
  ⟨some 2, .mv (.c (.slice 0 [] .full)), none, []⟩,
  ⟨some 3, .mv (.c (.bool false)), none, []⟩]) (.seq (.reg true [
  ⟨some 4, .fieldA 7 (.t 0), none, []⟩,
  ⟨some 5, .load false 1 (.t 4), none, [0]⟩,
  ⟨some 6, .fieldA 0 (.t 0), none, []⟩,
  ⟨some 7, .fieldA 4 (.t 6), none, [2]⟩,
  ⟨some 8, .load false 1 (.t 7), none, [3, 2]⟩,
  ⟨some 9, .idxS 1 (.t 8) (.c (.int .i64 0)), none, [4, 3, 2]⟩,
  ⟨some 10, .load false 1 (.t 9), none, [5, 4, 3, 2]⟩,
  ⟨some 11, .load false 1 (.t 1), none, []⟩,
  ⟨some 12, .nilchk (.t 11), none, [7]⟩,
  ⟨some 13, .fieldA 0 (.t 12), none, [8, 7]⟩,
  ⟨some 14, .load false 1 (.t 13), none, [9, 8, 7]⟩,
  ⟨some 15, .bin .eql (.t 10) (.t 14), none, [6, 5, 4, 3, 2, 10, 9, 8, 7]⟩,
  ⟨some 2, .mv (.t 5), none, [1, 0]⟩,
  ⟨some 3, .mv (.t 15), none, [11, 6, 5, 4, 3, 2, 10, 9, 8, 7, 12, 1, 0]⟩]) (.ret)))⟩
def h175 : Hint := { cb := [], ps := [], cp := [], cs := [], ap := [] }
def c175 : AF := ⟨2, 19, [.tmp 4],
 (.seq (.reg false [
  ⟨some 4, .mv (.c (.int .i64 0)), none, []⟩]) (.seq (.seq (.reg false [
  ⟨some 6, .mv (.t 0), none, []⟩,
  ⟨some 7, .lenS (.t 6), none, []⟩,
  ⟨some 8, .mv (.c (.int .i64 0)), none, []⟩]) (.block 0 (.loop (.seq (.reg false [
  ⟨some 9, .bin .lss (.t 8) (.t 7), none, []⟩]) (.seq (.cond (.t 9) (.skip) (.exit 0)) (.seq (.block 1 (.seq (.reg false [
  ⟨some 10, .mv (.t 8), none, []⟩,
  ⟨some 5, .mv (.t 10), none, []⟩]) (.seq (.reg false [
  ⟨some 11, .mv (.t 1), none, []⟩,
  ⟨some 12, .mv (.t 0), none, []⟩,
  ⟨some 13, .mv (.t 5), none, []⟩,
  ⟨some 14, .idxS 1 (.t 12) (.t 13), none, []⟩,
  ⟨some 15, .load false 1 (.t 14), none, []⟩,
  ⟨some 16, .bin .eql (.t 11) (.t 15), none, []⟩]) (.cond (.t 16) (.seq (.reg false [
  ⟨some 17, .mv (.t 5), none, []⟩,
  ⟨some 4, .mv (.t 17), none, []⟩]) (.ret)) (.skip))))) (.reg false [
  ⟨some 18, .bin .add (.t 8) (.c (.int .i64 1)), none, []⟩,
  ⟨some 8, .mv (.t 18), none, []⟩]))))))) (.seq (.reg false [
  ⟨some 4, .mv (.c (.int .i64 (-1))), none, []⟩]) (.ret))))⟩
def h176 : Hint := { cb := [3], ps := [], cp := [], cs := [], ap := [] }
def c176 : AF := ⟨2, 12, [.tmp 4],
 (.seq (.reg false [
  ⟨some 3, .boxc (.t 1), none, []⟩,
  ⟨some 4, .mv (.c (.int .i64 0)), none, []⟩]) (.seq (.reg false [
  ⟨some 5, .mv (.t 0), none, []⟩,
  ⟨some 6, .nilchk (.t 5), none, []⟩,
  ⟨some 7, .fieldA 0 (.t 6), none, []⟩,
  ⟨some 8, .fieldA 0 (.t 7), none, []⟩,
  ⟨some 9, .load false 1 (.t 8), none, []⟩,
  ⟨some 10, .mkFunc 206 [] [(.t 3)], none, []⟩,
  ⟨some 11, .call (.f 205) [(.t 9), (.t 10)], none, []⟩,
  ⟨some 4, .mv (.t 11), none, []⟩]) (.ret)))⟩
def h177 : Hint := { cb := [3, 2], ps := [], cp := [], cs := [], ap := [] }
def c177 : AF := ⟨2, 16, [.tmp 4, .tmp 5],
 (.seq (.reg false [
  ⟨some 2, .boxc (.t 0), none, []⟩,
  ⟨some 3, .boxc (.t 1), none, []⟩,
  ⟨some 4, .mv (.c (.int .i64 0)), none, []⟩,
  ⟨some 5, .mv (.c (.int .i64 0)), none, []⟩]) (.seq (.seq (.reg false [
  ⟨some 7, .fieldA 1 (.t 2), none, []⟩,
  ⟨some 8, .load false 1 (.t 7), none, []⟩,
  ⟨some 9, .mkFunc 208 [] [(.t 3)], none, []⟩,
  ⟨some 10, .call (.f 207) [(.t 8), (.t 9)], none, []⟩,
  ⟨some 6, .mv (.t 10), none, []⟩]) (.seq (.reg false [
  ⟨some 11, .mv (.t 6), none, []⟩,
  ⟨some 12, .bin .geq (.t 11) (.c (.int .i64 0)), none, []⟩]) (.cond (.t 12) (.seq (.reg false [
  ⟨some 13, .mv (.t 6), none, []⟩,
  ⟨some 4, .mv (.t 13), none, []⟩,
  ⟨some 5, .mv (.c (.int .i64 0)), none, []⟩]) (.ret)) (.skip)))) (.seq (.seq (.reg false [
  ⟨some 14, .load false 1 (.t 3), none, []⟩,
  ⟨some 15, .bin .eql (.t 14) (.c (.str [73, 79])), none, []⟩]) (.cond (.t 15) (.seq (.reg false [
  ⟨some 4, .mv (.c (.int .i64 (-1))), none, []⟩,
  ⟨some 5, .mv (.c (.int .i64 0)), none, []⟩]) (.ret)) (.skip))) (.seq (.reg false [
  ⟨some 4, .mv (.c (.int .i64 0)), none, []⟩,
  ⟨some 5, .mv (.c (.int .i64 6)), none, []⟩]) (.ret)))))⟩
def h178 : Hint := { cb := [], ps := [9, 8], cp := [], cs := [], ap := [] }
def c178 : AF := ⟨3, 32, [.tmp 6],
 (.seq (.reg false [
  ⟨some 6, .mv (.c (.bool false)), none, []⟩]) (.seq (.seq (.reg false [
  ⟨some 10, .mv (.t 0), none, []⟩,
  ⟨some 11, .lenS (.t 10), none, []⟩,
  ⟨some 12, .mv (.t 1), none, []⟩,
  ⟨some 13, .lenS (.t 12), none, []⟩,
  ⟨some 14, .bin .neq (.t 11) (.t 13), none, []⟩]) (.cond (.t 14) (.seq (.reg false [
  ⟨some 6, .mv (.c (.bool false)), none, []⟩]) (.ret)) (.skip))) (.seq (.seq (.reg false [
  ⟨some 15, .mv (.t 0), none, []⟩,
  ⟨some 16, .lenS (.t 15), none, []⟩,
  ⟨some 17, .mv (.c (.int .i64 0)), none, []⟩]) (.block 0 (.loop (.seq (.reg false [
  ⟨some 18, .bin .lss (.t 17) (.t 16), none, []⟩]) (.seq (.cond (.t 18) (.skip) (.exit 0)) (.seq (.block 1 (.seq (.reg false [
  ⟨some 19, .mv (.t 17), none, []⟩,
  ⟨some 20, .idxS 2 (.t 15) (.t 17), none, []⟩,
  ⟨some 21, .load true 2 (.t 20), none, []⟩,
  ⟨some 8, .pend [(.str []), (.slice 0 [] .full)], none, []⟩,
  ⟨some 7, .mv (.t 19), none, []⟩,
  ⟨none, .shut 8 2 (.t 21), none, []⟩]) (.seq (.reg false [
  ⟨some 22, .mv (.t 1), none, []⟩,
  ⟨some 23, .mv (.t 7), none, []⟩,
  ⟨some 24, .idxS 9 (.t 22) (.t 23), none, []⟩,
  ⟨some 25, .load true 9 (.t 24), none, []⟩,
  ⟨some 9, .pend [(.str []), (.slice 0 [] .full), (.int .i64 0), (.int .i64 0), (.str []), (.str []), (.slice 0 [] .full), (.slice 0 [] .full), (.slice 0 [] .full)], none, []⟩,
  ⟨none, .shut 9 9 (.t 25), none, []⟩]) (.seq (.reg false [
  ⟨some 26, .mv (.t 2), none, []⟩,
  ⟨some 27, .load true 2 (.t 8), none, []⟩,
  ⟨some 28, .load true 9 (.t 9), none, []⟩,
  ⟨some 29, .call (.t 26) [(.t 27), (.t 28)], none, []⟩,
  ⟨some 30, .un .not (.t 29), none, []⟩]) (.cond (.t 30) (.seq (.reg false [
  ⟨some 6, .mv (.c (.bool false)), none, []⟩]) (.ret)) (.skip)))))) (.reg false [
  ⟨some 31, .bin .add (.t 17) (.c (.int .i64 1)), none, []⟩,
  ⟨some 17, .mv (.t 31), none, []⟩]))))))) (.seq (.reg false [
  ⟨some 6, .mv (.c (.bool true)), none, []⟩]) (.ret)))))⟩
def h179 : Hint := { cb := [3, 2], ps := [], cp := [], cs := [], ap := [] }
def c179 : AF := ⟨2, 10, [.tmp 4],
 (.seq (.reg false [
  ⟨some 2, .boxc (.t 0), none, []⟩,
  ⟨some 3, .boxc (.t 1), none, []⟩,
  ⟨some 4, .mv (.c (.bool false)), none, []⟩]) (.seq (.reg false [
  ⟨some 5, .fieldA 0 (.t 2), none, []⟩,
  ⟨some 6, .load false 1 (.t 5), none, []⟩,
  ⟨some 7, .fieldA 0 (.t 3), none, []⟩,
  ⟨some 8, .load false 1 (.t 7), none, []⟩,
  ⟨some 9, .bin .eql (.t 6) (.t 8), none, []⟩,
  ⟨some 4, .mv (.t 9), none, []⟩]) (.ret)))⟩
def h180 : Hint := { cb := [3, 2], ps := [], cp := [], cs := [], ap := [] }
def c180 : AF := ⟨2, 12, [.tmp 4],
 (.seq (.reg false [
  ⟨some 2, .boxc (.t 0), none, []⟩,
  ⟨some 3, .boxc (.t 1), none, []⟩,
  ⟨some 4, .mv (.c (.bool false)), none, []⟩]) (.seq (.reg false [
  ⟨some 5, .fieldA 1 (.t 2), none, []⟩,
  ⟨some 6, .load false 1 (.t 5), none, []⟩,
  ⟨some 7, .lenS (.t 6), none, []⟩,
  ⟨some 8, .fieldA 1 (.t 3), none, []⟩,
  ⟨some 9, .load false 1 (.t 8), none, []⟩,
  ⟨some 10, .lenS (.t 9), none, []⟩,
  ⟨some 11, .bin .eql (.t 7) (.t 10), none, []⟩,
  ⟨some 4, .mv (.t 11), none, []⟩]) (.ret)))⟩
def h181 : Hint := { cb := [2], ps := [], cp := [29, 27, 20, 18], cs := [], ap := [] }
def c181 : AF := ⟨2, 33, [.tmp 4, .tmp 5, .tmp 6],
 (.seq (.reg false [
  ⟨some 2, .boxc (.t 0), none, []⟩,
  ⟨some 4, .mv (.c (.int .i64 0)), none, []⟩,
  ⟨some 5, .mv (.c (.int .i64 0)), none, []⟩,
  ⟨some 6, .mv (.c (.int .i64 0)), none, []⟩]) (.seq (.seq (.reg false [
  ⟨some 10, .fieldA 1 (.t 2), none, []⟩,
  ⟨some 11, .load false 1 (.t 10), none, []⟩,
  ⟨some 12, .lenS (.t 11), none, []⟩,
  ⟨some 13, .mv (.c (.int .i64 0)), none, []⟩]) (.block 0 (.loop (.seq (.reg false [
  ⟨some 14, .bin .lss (.t 13) (.t 12), none, []⟩]) (.seq (.cond (.t 14) (.skip) (.exit 0)) (.seq (.block 1 (.seq (.reg false [
  ⟨some 15, .mv (.t 13), none, []⟩,
  ⟨some 7, .mv (.t 15), none, []⟩]) (.seq (.reg false [
  ⟨some 16, .load true 10 (.t 2), none, []⟩,
  ⟨some 17, .mv (.t 7), none, []⟩,
  ⟨some 18, .callP false (.f 183) [(.t 16), (.t 17)], none, []⟩,
  ⟨some 19, .mv (.t 1), none, []⟩,
  ⟨some 20, .callP false (.f 175) [(.t 18), (.t 19)], none, []⟩,
  ⟨some 8, .mv (.t 20), none, []⟩]) (.seq (.reg false [
  ⟨some 21, .mv (.t 8), none, []⟩,
  ⟨some 22, .bin .geq (.t 21) (.c (.int .i64 0)), none, []⟩]) (.cond (.t 22) (.seq (.reg false [
  ⟨some 23, .mv (.t 7), none, []⟩,
  ⟨some 24, .mv (.t 8), none, []⟩,
  ⟨some 4, .mv (.t 23), none, []⟩,
  ⟨some 5, .mv (.t 24), none, []⟩,
  ⟨some 6, .mv (.c (.int .i64 0)), none, []⟩]) (.ret)) (.skip)))))) (.reg false [
  ⟨some 25, .bin .add (.t 13) (.c (.int .i64 1)), none, []⟩,
  ⟨some 13, .mv (.t 25), none, []⟩]))))))) (.seq (.seq (.reg false [
  ⟨some 26, .load true 10 (.t 2), none, []⟩,
  ⟨some 27, .callP false (.f 183) [(.t 26), (.c (.int .i64 (-1)))], none, []⟩,
  ⟨some 28, .mv (.t 1), none, []⟩,
  ⟨some 29, .callP false (.f 175) [(.t 27), (.t 28)], none, []⟩,
  ⟨some 9, .mv (.t 29), none, []⟩]) (.seq (.reg false [
  ⟨some 30, .mv (.t 9), none, []⟩,
  ⟨some 31, .bin .geq (.t 30) (.c (.int .i64 0)), none, []⟩]) (.cond (.t 31) (.seq (.reg false [
  ⟨some 32, .mv (.t 9), none, []⟩,
  ⟨some 4, .mv (.c (.int .i64 (-1))), none, []⟩,
  ⟨some 5, .mv (.t 32), none, []⟩,
  ⟨some 6, .mv (.c (.int .i64 0)), none, []⟩]) (.ret)) (.skip)))) (.seq (.reg false [
  ⟨some 4, .mv (.c (.int .i64 0)), none, []⟩,
  ⟨some 5, .mv (.c (.int .i64 0)), none, []⟩,
  ⟨some 6, .mv (.c (.int .i64 6)), none, []⟩]) (.ret)))))⟩
def h182 : Hint := { cb := [], ps := [9], cp := [], cs := [], ap := [] }
def c182 : AF := ⟨3, 32, [.tmp 6],
 (.seq (.reg false [
  ⟨some 6, .mv (.c (.bool false)), none, []⟩]) (.seq (.seq (.reg false [
  ⟨some 10, .mv (.t 0), none, []⟩,
  ⟨some 11, .lenS (.t 10), none, []⟩,
  ⟨some 12, .mv (.t 1), none, []⟩,
  ⟨some 13, .lenS (.t 12), none, []⟩,
  ⟨some 14, .bin .neq (.t 11) (.t 13), none, []⟩]) (.cond (.t 14) (.seq (.reg false [
  ⟨some 6, .mv (.c (.bool false)), none, []⟩]) (.ret)) (.skip))) (.seq (.seq (.reg false [
  ⟨some 15, .mv (.t 0), none, []⟩,
  ⟨some 16, .lenS (.t 15), none, []⟩,
  ⟨some 17, .mv (.c (.int .i64 0)), none, []⟩]) (.block 0 (.loop (.seq (.reg false [
  ⟨some 18, .bin .lss (.t 17) (.t 16), none, []⟩]) (.seq (.cond (.t 18) (.skip) (.exit 0)) (.seq (.block 1 (.seq (.reg false [
  ⟨some 19, .mv (.t 17), none, []⟩,
  ⟨some 20, .idxS 1 (.t 15) (.t 17), none, []⟩,
  ⟨some 21, .load false 1 (.t 20), none, []⟩,
  ⟨some 7, .mv (.t 19), none, []⟩,
  ⟨some 8, .mv (.t 21), none, []⟩]) (.seq (.reg false [
  ⟨some 22, .mv (.t 1), none, []⟩,
  ⟨some 23, .mv (.t 7), none, []⟩,
  ⟨some 24, .idxS 9 (.t 22) (.t 23), none, []⟩,
  ⟨some 25, .load true 9 (.t 24), none, []⟩,
  ⟨some 9, .pend [(.str []), (.slice 0 [] .full), (.int .i64 0), (.int .i64 0), (.str []), (.str []), (.slice 0 [] .full), (.slice 0 [] .full), (.slice 0 [] .full)], none, []⟩,
  ⟨none, .shut 9 9 (.t 25), none, []⟩]) (.seq (.reg false [
  ⟨some 26, .mv (.t 2), none, []⟩,
  ⟨some 27, .mv (.t 8), none, []⟩,
  ⟨some 28, .load true 9 (.t 9), none, []⟩,
  ⟨some 29, .call (.t 26) [(.t 27), (.t 28)], none, []⟩,
  ⟨some 30, .un .not (.t 29), none, []⟩]) (.cond (.t 30) (.seq (.reg false [
  ⟨some 6, .mv (.c (.bool false)), none, []⟩]) (.ret)) (.skip)))))) (.reg false [
  ⟨some 31, .bin .add (.t 17) (.c (.int .i64 1)), none, []⟩,
  ⟨some 17, .mv (.t 31), none, []⟩]))))))) (.seq (.reg false [
  ⟨some 6, .mv (.c (.bool true)), none, []⟩]) (.ret)))))⟩
def h183 : Hint := { cb := [2], ps := [7], cp := [], cs := [], ap := [] }
def c183 : AF := ⟨2, 29, [.tmp 4],
 (.seq (.reg false [
  ⟨some 2, .boxc (.t 0), none, []⟩,
  ⟨some 4, .mv (.c (.slice 0 [] .full)), none, []⟩]) (.seq (.seq (.reg false [
  ⟨some 8, .mv (.t 1), none, []⟩,
  ⟨some 9, .bin .lss (.t 8) (.c (.int .i64 0)), none, []⟩]) (.cond (.t 9) (.seq (.reg false [
  ⟨some 10, .bslice 1 2 [(.str [])] [(0, (.c (.str [112, 114, 105, 110, 116]))), (1, (.c (.str [114, 101, 97, 100])))], none, []⟩,
  ⟨some 4, .mv (.t 10), none, []⟩]) (.ret)) (.skip))) (.seq (.reg false [
  ⟨some 5, .mv (.c (.slice 0 [] .full)), none, []⟩]) (.seq (.seq (.reg false [
  ⟨some 11, .fieldA 1 (.t 2), none, []⟩,
  ⟨some 12, .load false 1 (.t 11), none, []⟩,
  ⟨some 13, .mv (.t 1), none, []⟩,
  ⟨some 14, .idxS 2 (.t 12) (.t 13), none, []⟩,
  ⟨some 15, .fieldA 1 (.t 14), none, []⟩,
  ⟨some 16, .load false 1 (.t 15), none, []⟩,
  ⟨some 17, .lenS (.t 16), none, []⟩,
  ⟨some 18, .mv (.c (.int .i64 0)), none, []⟩]) (.block 0 (.loop (.seq (.reg false [
  ⟨some 19, .bin .lss (.t 18) (.t 17), none, []⟩]) (.seq (.cond (.t 19) (.skip) (.exit 0)) (.seq (.block 1 (.seq (.reg false [
  ⟨some 20, .idxS 14 (.t 16) (.t 18), none, []⟩,
  ⟨some 21, .load true 14 (.t 20), none, []⟩,
  ⟨some 7, .pend [(.str []), (.int .i64 0), (.int .i64 0), (.str []), (.slice 0 [] .full), (.slice 0 [] .full), (.int .i64 0), (.int .i64 0), (.int .i64 0), (.str []), (.slice 0 [] .full), (.slice 0 [] .full), (.int .i64 0), (.bool false)], none, []⟩,
  ⟨none, .shut 7 14 (.t 21), none, []⟩]) (.reg false [
  ⟨some 22, .mv (.t 5), none, []⟩,
  ⟨some 23, .fieldA 0 (.t 7), none, []⟩,
  ⟨some 24, .load false 1 (.t 23), none, []⟩,
  ⟨some 25, .bslice 1 1 [(.str [])] [(0, (.t 24))], none, []⟩,
  ⟨some 26, .append false 1 16 (.t 22) (.t 25), none, []⟩,
  ⟨some 5, .mv (.t 26), none, []⟩]))) (.reg false [
  ⟨some 27, .bin .add (.t 18) (.c (.int .i64 1)), none, []⟩,
  ⟨some 18, .mv (.t 27), none, []⟩]))))))) (.seq (.reg false [
  ⟨some 28, .mv (.t 5), none, []⟩,
  ⟨some 4, .mv (.t 28), none, []⟩]) (.ret))))))⟩
def h184 : Hint := { cb := [3], ps := [], cp := [], cs := [], ap := [] }
def c184 : AF := ⟨2, 9, [.tmp 4],
 (.seq (.reg false [
  ⟨some 3, .boxc (.t 1), none, []⟩,
  ⟨some 4, .mv (.c (.bool false)), none, []⟩]) (.seq (.reg false [
  ⟨some 5, .mv (.t 0), none, []⟩,
  ⟨some 6, .fieldA 0 (.t 3), none, []⟩,
  ⟨some 7, .load false 1 (.t 6), none, []⟩,
  ⟨some 8, .bin .eql (.t 5) (.t 7), none, []⟩,
  ⟨some 4, .mv (.t 8), none, []⟩]) (.ret)))⟩
def h185 : Hint := { cb := [2], ps := [], cp := [], cs := [], ap := [] }
def c185 : AF := ⟨2, 8, [],
 (.seq (.reg false [
  ⟨some 2, .boxc (.t 0), none, []⟩]) (.seq (.reg false [
  ⟨some 3, .alloc [.nilfunc], none, []⟩]) (.seq (.reg false [
  ⟨some 4, .mkFunc 186 [] [(.t 2), (.t 3)], none, []⟩,
  ⟨none, .store 1 (.t 3) (.t 4), none, []⟩]) (.reg false [
  ⟨some 5, .load false 1 (.t 3), none, []⟩,
  ⟨some 6, .load true 7 (.t 1), none, []⟩,
  ⟨some 7, .call (.t 5) [(.t 6)], none, []⟩]))))⟩
def h186 : Hint := { cb := [3], ps := [8, 6], cp := [], cs := [], ap := [] }
def c186 : AF := ⟨3, 38, [.tmp 4],
 (.seq (.reg false [
  ⟨some 3, .boxc (.t 0), none, []⟩,
  ⟨some 4, .mv (.c (.bool false)), none, []⟩]) (.seq (.seq (.reg false [
  ⟨some 9, .load false 1 (.t 1), none, []⟩,
  ⟨some 10, .load true 7 (.t 3), none, []⟩,
  ⟨some 11, .call (.t 9) [(.t 10)], none, []⟩,
  ⟨some 12, .un .not (.t 11), none, []⟩]) (.cond (.t 12) (.seq (.reg false [
  ⟨some 4, .mv (.c (.bool false)), none, []⟩]) (.ret)) (.skip))) (.seq (.seq (.reg false [
  ⟨some 13, .fieldA 5 (.t 3), none, []⟩,
  ⟨some 14, .load false 1 (.t 13), none, []⟩,
  ⟨some 15, .lenS (.t 14), none, []⟩,
  ⟨some 16, .mv (.c (.int .i64 0)), none, []⟩]) (.block 0 (.loop (.seq (.reg false [
  ⟨some 17, .bin .lss (.t 16) (.t 15), none, []⟩]) (.seq (.cond (.t 17) (.skip) (.exit 0)) (.seq (.block 1 (.seq (.reg false [
  ⟨some 18, .idxS 7 (.t 14) (.t 16), none, []⟩,
  ⟨some 19, .load true 7 (.t 18), none, []⟩,
  ⟨some 6, .pend [(.int .i64 0), (.int .i64 0), (.str []), (.str []), (.slice 0 [] .full), (.slice 0 [] .full), (.slice 0 [] .full)], none, []⟩,
  ⟨none, .shut 6 7 (.t 19), none, []⟩]) (.seq (.reg false [
  ⟨some 20, .load false 1 (.t 2), none, []⟩,
  ⟨some 21, .load true 7 (.t 6), none, []⟩,
  ⟨some 22, .call (.t 20) [(.t 21)], none, []⟩,
  ⟨some 23, .un .not (.t 22), none, []⟩]) (.cond (.t 23) (.seq (.reg false [
  ⟨some 4, .mv (.c (.bool false)), none, []⟩]) (.ret)) (.skip))))) (.reg false [
  ⟨some 24, .bin .add (.t 16) (.c (.int .i64 1)), none, []⟩,
  ⟨some 16, .mv (.t 24), none, []⟩]))))))) (.seq (.seq (.reg false [
  ⟨some 25, .fieldA 6 (.t 3), none, []⟩,
  ⟨some 26, .load false 1 (.t 25), none, []⟩,
  ⟨some 27, .lenS (.t 26), none, []⟩,
  ⟨some 28, .mv (.c (.int .i64 0)), none, []⟩]) (.block 2 (.loop (.seq (.reg false [
  ⟨some 29, .bin .lss (.t 28) (.t 27), none, []⟩]) (.seq (.cond (.t 29) (.skip) (.exit 2)) (.seq (.block 3 (.seq (.reg false [
  ⟨some 30, .idxS 9 (.t 26) (.t 28), none, []⟩,
  ⟨some 31, .load true 9 (.t 30), none, []⟩,
  ⟨some 8, .pend [(.str []), (.slice 0 [] .full), (.int .i64 0), (.int .i64 0), (.str []), (.str []), (.slice 0 [] .full), (.slice 0 [] .full), (.slice 0 [] .full)], none, []⟩,
  ⟨none, .shut 8 9 (.t 31), none, []⟩]) (.seq (.reg false [
  ⟨some 32, .load false 1 (.t 2), none, []⟩,
  ⟨some 33, .fieldA 2 (.t 8), none, []⟩,
  ⟨some 34, .load true 7 (.t 33), none, []⟩,
  ⟨some 35, .call (.t 32) [(.t 34)], none, []⟩,
  ⟨some 36, .un .not (.t 35), none, []⟩]) (.cond (.t 36) (.seq (.reg false [
  ⟨some 4, .mv (.c (.bool false)), none, []⟩]) (.ret)) (.skip))))) (.reg false [
  ⟨some 37, .bin .add (.t 28) (.c (.int .i64 1)), none, []⟩,
  ⟨some 28, .mv (.t 37), none, []⟩]))))))) (.seq (.reg false [
  ⟨some 4, .mv (.c (.bool true)), none, []⟩]) (.ret))))))⟩
def h187 : Hint := { cb := [], ps := [], cp := [], cs := [], ap := [] }
def c187 : AF := ⟨2, 19, [.tmp 4],
 (.seq (.reg false [
  ⟨some 4, .mv (.c (.int .i64 0)), none, []⟩]) (.seq (.seq (.reg false [
  ⟨some 6, .mv (.t 0), none, []⟩,
  ⟨some 7, .lenS (.t 6), none, []⟩,
  ⟨some 8, .mv (.c (.int .i64 0)), none, []⟩]) (.block 0 (.loop (.seq (.reg false [
  ⟨some 9, .bin .lss (.t 8) (.t 7), none, []⟩]) (.seq (.cond (.t 9) (.skip) (.exit 0)) (.seq (.block 1 (.seq (.reg false [
  ⟨some 10, .mv (.t 8), none, []⟩,
  ⟨some 5, .mv (.t 10), none, []⟩]) (.seq (.reg false [
  ⟨some 11, .mv (.t 1), none, []⟩,
  ⟨some 12, .mv (.t 0), none, []⟩,
  ⟨some 13, .mv (.t 5), none, []⟩,
  ⟨some 14, .idxS 1 (.t 12) (.t 13), none, []⟩,
  ⟨some 15, .load false 1 (.t 14), none, []⟩,
  ⟨some 16, .call (.t 11) [(.t 15)], none, []⟩]) (.cond (.t 16) (.seq (.reg false [
  ⟨some 17, .mv (.t 5), none, []⟩,
  ⟨some 4, .mv (.t 17), none, []⟩]) (.ret)) (.skip))))) (.reg false [
  ⟨some 18, .bin .add (.t 8) (.c (.int .i64 1)), none, []⟩,
  ⟨some 8, .mv (.t 18), none, []⟩]))))))) (.seq (.reg false [
  ⟨some 4, .mv (.c (.int .i64 (-1))), none, []⟩]) (.ret))))⟩
def h188 : Hint := { cb := [], ps := [], cp := [], cs := [], ap := [] }
def c188 : AF := ⟨2, 9, [.tmp 4],
 (.seq (.reg false [
  ⟨some 4, .mv (.c (.bool false)), none, []⟩]) (.seq (.reg false [
  ⟨some 5, .mv (.t 0), none, []⟩,
  ⟨some 6, .mv (.t 1), none, []⟩,
  ⟨some 7, .call (.f 209) [(.t 5), (.t 6)], none, []⟩,
  ⟨some 8, .bin .geq (.t 7) (.c (.int .i64 0)), none, []⟩,
  ⟨some 4, .mv (.t 8), none, []⟩]) (.ret)))⟩
def h189 : Hint := { cb := [1], ps := [], cp := [], cs := [], ap := [] }
def c189 : AF := ⟨1, 6, [.tmp 2],
 (.seq (.reg false [
  ⟨some 1, .boxc (.t 0), none, []⟩,
  ⟨some 2, .mv (.c (.bool false)), none, []⟩]) (.seq (.reg false [
  ⟨some 3, .fieldA 13 (.t 1), none, []⟩,
  ⟨some 4, .load false 1 (.t 3), none, []⟩,
  ⟨some 5, .un .not (.t 4), none, []⟩,
  ⟨some 2, .mv (.t 5), none, []⟩]) (.ret)))⟩
def h190 : Hint := { cb := [], ps := [], cp := [24, 17], cs := [], ap := [] }
def c190 : AF := ⟨2, 26, [.tmp 4],
 (.seq (.reg false [
  ⟨some 4, .mv (.c (.int .i64 0)), none, []⟩]) (.seq (.seq (.reg false [
  ⟨some 7, .mv (.t 0), none, []⟩,
  ⟨some 8, .lenS (.t 7), none, []⟩,
  ⟨some 9, .mv (.c (.int .i64 0)), none, []⟩]) (.block 0 (.loop (.seq (.reg false [
  ⟨some 10, .bin .lss (.t 9) (.t 8), none, []⟩]) (.seq (.cond (.t 10) (.skip) (.exit 0)) (.seq (.block 1 (.seq (.reg false [
  ⟨some 11, .mv (.t 9), none, []⟩,
  ⟨some 12, .idxS 1 (.t 7) (.t 9), none, []⟩,
  ⟨some 13, .load false 1 (.t 12), none, []⟩,
  ⟨some 5, .mv (.t 11), none, []⟩,
  ⟨some 6, .mv (.t 13), none, []⟩]) (.block 2 (.seq (.reg false [
  ⟨some 15, .mv (.t 6), none, []⟩,
  ⟨some 16, .mv (.t 1), none, []⟩,
  ⟨some 17, .callP false (.f 149) [(.t 15), (.t 16)], none, []⟩,
  ⟨some 18, .un .not (.t 17), none, []⟩,
  ⟨some 14, .mv (.t 18), none, []⟩]) (.cond (.t 14) (.seq (.reg false [
  ⟨some 4, .mv (.c (.int .i64 4)), none, []⟩]) (.ret)) (.seq (.reg false [
  ⟨some 20, .mv (.t 0), none, []⟩,
  ⟨some 21, .mv (.t 5), none, []⟩,
  ⟨some 22, .cutS 1 (.t 20) none (some (.t 21)) none, none, []⟩,
  ⟨some 23, .mv (.t 6), none, []⟩,
  ⟨some 24, .callP false (.f 127) [(.t 22), (.t 23)], none, []⟩,
  ⟨some 19, .mv (.t 24), none, []⟩]) (.cond (.t 19) (.seq (.reg false [
  ⟨some 4, .mv (.c (.int .i64 5)), none, []⟩]) (.ret)) (.skip)))))))) (.reg false [
  ⟨some 25, .bin .add (.t 9) (.c (.int .i64 1)), none, []⟩,
  ⟨some 9, .mv (.t 25), none, []⟩]))))))) (.seq (.reg false [
  ⟨some 4, .mv (.c (.int .i64 0)), none, []⟩]) (.ret))))⟩
def h191 : Hint := { cb := [], ps := [4], cp := [18, 13], cs := [], ap := [] }
def c191 : AF := ⟨1, 21, [.tmp 2],
 (.seq (.reg false [
  ⟨some 2, .mv (.c (.int .i64 0)), none, []⟩]) (.seq (.seq (.reg false [
  ⟨some 6, .mv (.t 0), none, []⟩,
  ⟨some 7, .lenS (.t 6), none, []⟩,
  ⟨some 8, .mv (.c (.int .i64 0)), none, []⟩]) (.block 0 (.loop (.seq (.reg false [
  ⟨some 9, .bin .lss (.t 8) (.t 7), none, []⟩]) (.seq (.cond (.t 9) (.skip) (.exit 0)) (.seq (.block 1 (.seq (.reg false [
  ⟨some 10, .idxS 6 (.t 6) (.t 8), none, []⟩,
  ⟨some 11, .load true 6 (.t 10), none, []⟩,
  ⟨some 4, .pend [(.int .i64 0), (.int .i64 0), (.str []), (.slice 0 [] .full), (.slice 0 [] .full), (.int .i64 0)], none, []⟩,
  ⟨none, .shut 4 6 (.t 11), none, []⟩]) (.seq (.seq (.reg false [
  ⟨some 12, .load true 6 (.t 4), none, []⟩,
  ⟨some 13, .callP false (.f 210) [(.t 12)], none, []⟩,
  ⟨some 5, .mv (.t 13), none, []⟩]) (.seq (.reg false [
  ⟨some 14, .mv (.t 5), none, []⟩,
  ⟨some 15, .bin .neq (.t 14) (.c (.int .i64 0)), none, []⟩]) (.cond (.t 15) (.seq (.reg false [
  ⟨some 16, .mv (.t 5), none, []⟩,
  ⟨some 2, .mv (.t 16), none, []⟩]) (.ret)) (.skip)))) (.seq (.reg false [
  ⟨some 17, .load true 6 (.t 4), none, []⟩,
  ⟨some 18, .callP false (.f 211) [(.t 17)], none, []⟩,
  ⟨some 19, .un .not (.t 18), none, []⟩]) (.cond (.t 19) (.seq (.reg false [
  ⟨some 2, .mv (.c (.int .i64 1)), none, []⟩]) (.ret)) (.skip)))))) (.reg false [
  ⟨some 20, .bin .add (.t 8) (.c (.int .i64 1)), none, []⟩,
  ⟨some 8, .mv (.t 20), none, []⟩]))))))) (.seq (.reg false [
  ⟨some 2, .mv (.c (.int .i64 0)), none, []⟩]) (.ret))))⟩
def h192 : Hint := { cb := [2], ps := [8, 6], cp := [], cs := [], ap := [] }
def c192 : AF := ⟨2, 34, [.tmp 4],
 (.seq (.reg false [
  ⟨some 2, .boxc (.t 0), none, []⟩,
  ⟨some 4, .mv (.c (.bool false)), none, []⟩]) (.seq (.seq (.reg false [
  ⟨some 9, .fieldA 5 (.t 2), none, []⟩,
  ⟨some 10, .load false 1 (.t 9), none, []⟩,
  ⟨some 11, .lenS (.t 10), none, []⟩,
  ⟨some 12, .mv (.c (.int .i64 0)), none, []⟩]) (.block 0 (.loop (.seq (.reg false [
  ⟨some 13, .bin .lss (.t 12) (.t 11), none, []⟩]) (.seq (.cond (.t 13) (.skip) (.exit 0)) (.seq (.block 1 (.seq (.reg false [
  ⟨some 14, .idxS 7 (.t 10) (.t 12), none, []⟩,
  ⟨some 15, .load true 7 (.t 14), none, []⟩,
  ⟨some 6, .pend [(.int .i64 0), (.int .i64 0), (.str []), (.str []), (.slice 0 [] .full), (.slice 0 [] .full), (.slice 0 [] .full)], none, []⟩,
  ⟨none, .shut 6 7 (.t 15), none, []⟩]) (.seq (.reg false [
  ⟨some 16, .mv (.t 1), none, []⟩,
  ⟨some 17, .load true 7 (.t 6), none, []⟩,
  ⟨some 18, .call (.t 16) [(.t 17)], none, []⟩,
  ⟨some 19, .un .not (.t 18), none, []⟩]) (.cond (.t 19) (.seq (.reg false [
  ⟨some 4, .mv (.c (.bool false)), none, []⟩]) (.ret)) (.skip))))) (.reg false [
  ⟨some 20, .bin .add (.t 12) (.c (.int .i64 1)), none, []⟩,
  ⟨some 12, .mv (.t 20), none, []⟩]))))))) (.seq (.seq (.reg false [
  ⟨some 21, .fieldA 6 (.t 2), none, []⟩,
  ⟨some 22, .load false 1 (.t 21), none, []⟩,
  ⟨some 23, .lenS (.t 22), none, []⟩,
  ⟨some 24, .mv (.c (.int .i64 0)), none, []⟩]) (.block 2 (.loop (.seq (.reg false [
  ⟨some 25, .bin .lss (.t 24) (.t 23), none, []⟩]) (.seq (.cond (.t 25) (.skip) (.exit 2)) (.seq (.block 3 (.seq (.reg false [
  ⟨some 26, .idxS 9 (.t 22) (.t 24), none, []⟩,
  ⟨some 27, .load true 9 (.t 26), none, []⟩,
  ⟨some 8, .pend [(.str []), (.slice 0 [] .full), (.int .i64 0), (.int .i64 0), (.str []), (.str []), (.slice 0 [] .full), (.slice 0 [] .full), (.slice 0 [] .full)], none, []⟩,
  ⟨none, .shut 8 9 (.t 27), none, []⟩]) (.seq (.reg false [
  ⟨some 28, .mv (.t 1), none, []⟩,
  ⟨some 29, .fieldA 2 (.t 8), none, []⟩,
  ⟨some 30, .load true 7 (.t 29), none, []⟩,
  ⟨some 31, .call (.t 28) [(.t 30)], none, []⟩,
  ⟨some 32, .un .not (.t 31), none, []⟩]) (.cond (.t 32) (.seq (.reg false [
  ⟨some 4, .mv (.c (.bool false)), none, []⟩]) (.ret)) (.skip))))) (.reg false [
  ⟨some 33, .bin .add (.t 24) (.c (.int .i64 1)), none, []⟩,
  ⟨some 24, .mv (.t 33), none, []⟩]))))))) (.seq (.reg false [
  ⟨some 4, .mv (.c (.bool true)), none, []⟩]) (.ret)))))⟩
def h193 : Hint := { cb := [3], ps := [], cp := [], cs := [], ap := [] }
def c193 : AF := ⟨3, 10, [.tmp 4],
 (.seq (.reg false [
  ⟨some 3, .boxc (.t 0), none, []⟩,
  ⟨some 4, .mv (.c (.bool false)), none, []⟩]) (.seq (.reg false [
  ⟨some 5, .load false 1 (.t 1), none, []⟩,
  ⟨some 6, .load true 7 (.t 3), none, []⟩,
  ⟨some 7, .load false 1 (.t 2), none, []⟩,
  ⟨some 8, .bin .add (.t 7) (.c (.int .i64 1)), none, []⟩,
  ⟨some 9, .call (.f 147) [(.t 5), (.t 6), (.t 8)], none, []⟩,
  ⟨some 4, .mv (.t 9), none, []⟩]) (.ret)))⟩
def h194 : Hint := { cb := [], ps := [], cp := [4], cs := [], ap := [] }
def c194 : AF := ⟨1, 5, [.tmp 2],
 (.seq (.reg false [
  ⟨some 2, .mv (.c (.bool false)), none, []⟩]) (.seq (.reg false [
  ⟨some 3, .mv (.t 0), none, []⟩,
  ⟨some 4, .callP false (.f 109) [(.t 3), (.c (.int .i64 3))], none, []⟩,
  ⟨some 2, .mv (.t 4), none, []⟩]) (.ret)))⟩
def h195 : Hint := { cb := [1], ps := [3], cp := [114, 102, 94, 65, 52, 38, 31, 24, 11], cs := [], ap := [] }
def c195 : AF := ⟨1, 132, [.tmp 2],
 (.seq (.reg false [
  ⟨some 1, .boxc (.t 0), none, []⟩,
  ⟨some 2, .mv (.c (.int .i64 0)), none, []⟩]) (.seq (.seq (.reg false [
  ⟨some 9, .fieldA 0 (.t 1), none, []⟩,
  ⟨some 10, .load false 1 (.t 9), none, []⟩,
  ⟨some 11, .callP false (.f 212) [(.t 10), (.c (.int .i64 0)), (.c (.int .i64 19))], none, []⟩,
  ⟨some 12, .un .not (.t 11), none, []⟩]) (.cond (.t 12) (.seq (.reg false [
  ⟨some 2, .mv (.c (.int .i64 1)), none, []⟩]) (.ret)) (.skip))) (.seq (.reg false [
  ⟨some 13, .fieldA 0 (.t 1), none, []⟩,
  ⟨some 14, .load false 1 (.t 13), none, []⟩,
  ⟨some 15, .idxA 20 9 (.g 1) (.t 14), none, []⟩,
  ⟨some 16, .load true 9 (.t 15), none, []⟩,
  ⟨some 3, .pend [(.int .i64 0), (.int .i64 0), (.int .i64 0), (.int .i64 0), (.int .i64 0), (.int .i64 0), (.bool false), (.int .i64 0), (.int .i64 0)], none, []⟩,
  ⟨none, .shut 3 9 (.t 16), none, []⟩]) (.seq (.block 0 (.seq (.reg false [
  ⟨some 18, .fieldA 1 (.t 1), none, []⟩,
  ⟨some 19, .load false 1 (.t 18), none, []⟩,
  ⟨some 20, .fieldA 7 (.t 3), none, []⟩,
  ⟨some 21, .load false 1 (.t 20), none, []⟩,
  ⟨some 22, .fieldA 8 (.t 3), none, []⟩,
  ⟨some 23, .load false 1 (.t 22), none, []⟩,
  ⟨some 24, .callP false (.f 212) [(.t 19), (.t 21), (.t 23)], none, []⟩,
  ⟨some 25, .un .not (.t 24), none, []⟩,
  ⟨some 17, .mv (.t 25), none, []⟩]) (.cond (.t 17) (.seq (.reg false [
  ⟨some 2, .mv (.c (.int .i64 1)), none, []⟩]) (.ret)) (.seq (.reg false [
  ⟨some 27, .fieldA 2 (.t 1), none, []⟩,
  ⟨some 28, .load false 1 (.t 27), none, []⟩,
  ⟨some 29, .fieldA 0 (.t 3), none, []⟩,
  ⟨some 30, .load false 1 (.t 29), none, []⟩,
  ⟨some 31, .callP false (.f 149) [(.t 28), (.t 30)], none, []⟩,
  ⟨some 32, .un .not (.t 31), none, []⟩,
  ⟨some 33, .mv (.t 32), none, []⟩,
  ⟨some 34, .fieldA 3 (.t 1), some (33, false), []⟩,
  ⟨some 35, .load false 1 (.t 34), some (33, false), []⟩,
  ⟨some 36, .fieldA 1 (.t 3), some (33, false), []⟩,
  ⟨some 37, .load false 1 (.t 36), some (33, false), []⟩,
  ⟨some 38, .callP false (.f 149) [(.t 35), (.t 37)], some (33, false), []⟩,
  ⟨some 39, .un .not (.t 38), some (33, false), []⟩,
  ⟨some 40, .pick (.t 33) (.c (.bool true)) (.t 39), none, []⟩,
  ⟨some 26, .mv (.t 40), none, []⟩]) (.cond (.t 26) (.seq (.reg false [
  ⟨some 2, .mv (.c (.int .i64 4)), none, []⟩]) (.ret)) (.seq (.reg false [
  ⟨some 42, .fieldA 4 (.t 1), none, []⟩,
  ⟨some 43, .load false 1 (.t 42), none, []⟩,
  ⟨some 44, .lenS (.t 43), none, []⟩,
  ⟨some 45, .fieldA 2 (.t 3), none, []⟩,
  ⟨some 46, .load false 1 (.t 45), none, []⟩,
  ⟨some 47, .fieldA 2 (.t 3), none, []⟩,
  ⟨some 48, .load false 1 (.t 47), none, []⟩,
  ⟨some 49, .fieldA 3 (.t 3), none, []⟩,
  ⟨some 50, .load false 1 (.t 49), none, []⟩,
  ⟨some 51, .bin .add (.t 48) (.t 50), none, []⟩,
  ⟨some 52, .callP false (.f 212) [(.t 44), (.t 46), (.t 51)], none, []⟩,
  ⟨some 53, .un .not (.t 52), none, []⟩,
  ⟨some 54, .mv (.t 53), none, []⟩,
  ⟨some 55, .fieldA 5 (.t 1), some (54, false), []⟩,
  ⟨some 56, .load false 1 (.t 55), some (54, false), []⟩,
  ⟨some 57, .lenS (.t 56), some (54, false), []⟩,
  ⟨some 58, .fieldA 4 (.t 3), some (54, false), []⟩,
  ⟨some 59, .load false 1 (.t 58), some (54, false), []⟩,
  ⟨some 60, .fieldA 4 (.t 3), some (54, false), []⟩,
  ⟨some 61, .load false 1 (.t 60), some (54, false), []⟩,
  ⟨some 62, .fieldA 5 (.t 3), some (54, false), []⟩,
  ⟨some 63, .load false 1 (.t 62), some (54, false), []⟩,
  ⟨some 64, .bin .add (.t 61) (.t 63), some (54, false), []⟩,
  ⟨some 65, .callP false (.f 212) [(.t 57), (.t 59), (.t 64)], some (54, false), []⟩,
  ⟨some 66, .un .not (.t 65), some (54, false), []⟩,
  ⟨some 67, .pick (.t 54) (.c (.bool true)) (.t 66), none, []⟩,
  ⟨some 41, .mv (.t 67), none, []⟩]) (.cond (.t 41) (.seq (.reg false [
  ⟨some 2, .mv (.c (.int .i64 7)), none, []⟩]) (.ret)) (.seq (.reg false [
  ⟨some 69, .fieldA 6 (.t 3), none, []⟩,
  ⟨some 70, .load false 1 (.t 69), none, []⟩,
  ⟨some 71, .un .not (.t 70), none, []⟩,
  ⟨some 72, .mv (.t 71), none, []⟩,
  ⟨some 73, .fieldA 6 (.t 1), some (72, true), []⟩,
  ⟨some 74, .load false 1 (.t 73), some (72, true), []⟩,
  ⟨some 75, .lenS (.t 74), some (72, true), []⟩,
  ⟨some 76, .bin .gtr (.t 75) (.c (.int .i64 0)), some (72, true), []⟩,
  ⟨some 77, .pick (.t 72) (.t 76) (.c (.bool false)), none, []⟩,
  ⟨some 78, .mv (.t 77), none, []⟩,
  ⟨some 79, .fieldA 6 (.t 1), some (78, false), []⟩,
  ⟨some 80, .load false 1 (.t 79), some (78, false), []⟩,
  ⟨some 81, .lenS (.t 80), some (78, false), []⟩,
  ⟨some 82, .bin .gtr (.t 81) (.c (.int .i64 9)), some (78, false), []⟩,
  ⟨some 83, .pick (.t 78) (.c (.bool true)) (.t 82), none, []⟩,
  ⟨some 68, .mv (.t 83), none, []⟩]) (.cond (.t 68) (.seq (.reg false [
  ⟨some 2, .mv (.c (.int .i64 7)), none, []⟩]) (.ret)) (.skip)))))))))) (.seq (.reg false [
  ⟨some 84, .fieldA 4 (.t 1), none, []⟩,
  ⟨some 85, .load false 1 (.t 84), none, []⟩,
  ⟨some 86, .lenS (.t 85), none, []⟩,
  ⟨some 4, .mv (.t 86), none, []⟩]) (.seq (.seq (.reg false [
  ⟨some 87, .fieldA 0 (.t 1), none, []⟩,
  ⟨some 88, .load false 1 (.t 87), none, []⟩,
  ⟨some 89, .bin .eql (.t 88) (.c (.int .i64 17)), none, []⟩]) (.cond (.t 89) (.reg false [
  ⟨some 4, .mv (.c (.int .i64 1)), none, []⟩]) (.skip))) (.seq (.seq (.reg false [
  ⟨some 90, .fieldA 4 (.t 1), none, []⟩,
  ⟨some 91, .load false 1 (.t 90), none, []⟩,
  ⟨some 92, .mv (.t 4), none, []⟩,
  ⟨some 93, .cutS 1 (.t 91) none (some (.t 92)) none, none, []⟩,
  ⟨some 94, .callP false (.f 190) [(.t 93), (.c (.int .i64 1))], none, []⟩,
  ⟨some 5, .mv (.t 94), none, []⟩]) (.seq (.reg false [
  ⟨some 95, .mv (.t 5), none, []⟩,
  ⟨some 96, .bin .neq (.t 95) (.c (.int .i64 0)), none, []⟩]) (.cond (.t 96) (.seq (.reg false [
  ⟨some 97, .mv (.t 5), none, []⟩,
  ⟨some 2, .mv (.t 97), none, []⟩]) (.ret)) (.skip)))) (.seq (.seq (.reg false [
  ⟨some 98, .fieldA 4 (.t 1), none, []⟩,
  ⟨some 99, .load false 1 (.t 98), none, []⟩,
  ⟨some 100, .mv (.t 4), none, []⟩,
  ⟨some 101, .cutS 1 (.t 99) (some (.t 100)) none none, none, []⟩,
  ⟨some 102, .callP false (.f 190) [(.t 101), (.c (.int .i64 2))], none, []⟩,
  ⟨some 6, .mv (.t 102), none, []⟩]) (.seq (.reg false [
  ⟨some 103, .mv (.t 6), none, []⟩,
  ⟨some 104, .bin .neq (.t 103) (.c (.int .i64 0)), none, []⟩]) (.cond (.t 104) (.seq (.reg false [
  ⟨some 105, .mv (.t 6), none, []⟩,
  ⟨some 2, .mv (.t 105), none, []⟩]) (.ret)) (.skip)))) (.seq (.seq (.reg false [
  ⟨some 106, .fieldA 6 (.t 1), none, []⟩,
  ⟨some 107, .load false 1 (.t 106), none, []⟩,
  ⟨some 108, .lenS (.t 107), none, []⟩,
  ⟨some 109, .mv (.c (.int .i64 0)), none, []⟩]) (.block 1 (.loop (.seq (.reg false [
  ⟨some 110, .bin .lss (.t 109) (.t 108), none, []⟩]) (.seq (.cond (.t 110) (.skip) (.exit 1)) (.seq (.block 2 (.seq (.reg false [
  ⟨some 111, .mv (.t 109), none, []⟩,
  ⟨some 7, .mv (.t 111), none, []⟩]) (.seq (.reg false [
  ⟨some 112, .load true 7 (.t 1), none, []⟩,
  ⟨some 113, .mv (.t 7), none, []⟩,
  ⟨some 114, .callP false (.f 213) [(.t 112), (.t 113)], none, []⟩,
  ⟨some 8, .mv (.t 114), none, []⟩]) (.seq (.reg false [
  ⟨some 115, .mv (.t 8), none, []⟩,
  ⟨some 116, .bin .neq (.t 115) (.c (.int .i64 0)), none, []⟩]) (.cond (.t 116) (.seq (.reg false [
  ⟨some 117, .mv (.t 8), none, []⟩,
  ⟨some 2, .mv (.t 117), none, []⟩]) (.ret)) (.skip)))))) (.reg false [
  ⟨some 118, .bin .add (.t 109) (.c (.int .i64 1)), none, []⟩,
  ⟨some 109, .mv (.t 118), none, []⟩]))))))) (.seq (.seq (.reg false [
  ⟨some 119, .fieldA 0 (.t 1), none, []⟩,
  ⟨some 120, .load false 1 (.t 119), none, []⟩,
  ⟨some 121, .bin .neq (.t 120) (.c (.int .i64 11)), none, []⟩,
  ⟨some 122, .mv (.t 121), none, []⟩,
  ⟨some 123, .fieldA 6 (.t 3), some (122, true), []⟩,
  ⟨some 124, .load false 1 (.t 123), some (122, true), []⟩,
  ⟨some 125, .pick (.t 122) (.t 124) (.c (.bool false)), none, []⟩,
  ⟨some 126, .mv (.t 125), none, []⟩,
  ⟨some 127, .fieldA 6 (.t 1), some (126, true), []⟩,
  ⟨some 128, .load false 1 (.t 127), some (126, true), []⟩,
  ⟨some 129, .lenS (.t 128), some (126, true), []⟩,
  ⟨some 130, .bin .eql (.t 129) (.c (.int .i64 0)), some (126, true), []⟩,
  ⟨some 131, .pick (.t 126) (.t 130) (.c (.bool false)), none, []⟩]) (.cond (.t 131) (.seq (.reg false [
  ⟨some 2, .mv (.c (.int .i64 7)), none, []⟩]) (.ret)) (.skip))) (.seq (.reg false [
  ⟨some 2, .mv (.c (.int .i64 0)), none, []⟩]) (.ret))))))))))))⟩
def h196 : Hint := { cb := [2], ps := [], cp := [5], cs := [], ap := [] }
def c196 : AF := ⟨2, 8, [.tmp 3],
 (.seq (.reg false [
  ⟨some 2, .boxc (.t 0), none, []⟩,
  ⟨some 3, .mv (.c (.bool false)), none, []⟩]) (.seq (.reg false [
  ⟨some 4, .load true 7 (.t 2), none, []⟩,
  ⟨some 5, .callP false (.f 150) [(.t 4)], none, []⟩,
  ⟨none, .store 1 (.t 1) (.t 5), none, []⟩]) (.seq (.reg false [
  ⟨some 6, .load false 1 (.t 1), none, []⟩,
  ⟨some 7, .bin .eql (.t 6) (.c (.int .i64 0)), none, []⟩,
  ⟨some 3, .mv (.t 7), none, []⟩]) (.ret))))⟩
def h200 : Hint := { cb := [], ps := [], cp := [], cs := [], ap := [] }
def c200 : AF := ⟨1, 106, [.tmp 2],
 (.seq (.reg false [
  ⟨some 2, .mv (.c (.slice 0 [] .full)), none, []⟩]) (.seq (.reg false [
  ⟨some 3, .mv (.c (.int .i64 0)), none, []⟩]) (.seq (.reg false [
  ⟨some 4, .mv (.c (.int .i64 1)), none, []⟩]) (.seq (.reg false [
  ⟨some 5, .mv (.c (.int .u8 0)), none, []⟩]) (.seq (.seq (.reg false [
  ⟨some 6, .mv (.c (.int .i64 0)), none, []⟩]) (.block 0 (.loop (.seq (.seq (.reg false [
  ⟨some 13, .mv (.t 6), none, []⟩,
  ⟨some 14, .mv (.t 0), none, []⟩,
  ⟨some 15, .lenStr (.t 14), none, []⟩,
  ⟨some 16, .bin .lss (.t 13) (.t 15), none, []⟩]) (.cond (.t 16) (.skip) (.exit 0))) (.seq (.block 1 (.seq (.reg false [
  ⟨some 19, .mv (.t 0), none, []⟩,
  ⟨some 20, .mv (.t 6), none, []⟩,
  ⟨some 21, .idxStr (.t 19) (.t 20), none, []⟩,
  ⟨some 7, .mv (.t 21), none, []⟩]) (.seq (.reg false [
  ⟨some 22, .mv (.t 5), none, []⟩,
  ⟨some 23, .mv (.t 7), none, []⟩,
  ⟨some 24, .bin .or (.t 22) (.t 23), none, []⟩,
  ⟨some 5, .mv (.t 24), none, []⟩]) (.seq (.reg false [
  ⟨some 25, .mv (.t 7), none, []⟩,
  ⟨some 26, .idxA 256 1 (.g 2) (.t 25), none, []⟩,
  ⟨some 27, .load false 1 (.t 26), none, []⟩,
  ⟨some 28, .toInt .i64 (.t 27), none, []⟩,
  ⟨some 8, .mv (.t 28), none, []⟩]) (.seq (.reg false [
  ⟨some 29, .mv (.t 3), none, []⟩,
  ⟨some 30, .mv (.t 4), none, []⟩,
  ⟨some 31, .mv (.t 8), none, []⟩,
  ⟨some 32, .un .xor (.t 31), none, []⟩,
  ⟨some 33, .bin .and (.t 30) (.t 32), none, []⟩,
  ⟨some 34, .bin .add (.t 29) (.t 33), none, []⟩,
  ⟨some 3, .mv (.t 34), none, []⟩]) (.reg false [
  ⟨some 35, .mv (.t 8), none, []⟩,
  ⟨some 4, .mv (.t 35), none, []⟩])))))) (.reg false [
  ⟨some 17, .mv (.t 6), none, []⟩,
  ⟨some 18, .bin .add (.t 17) (.c (.int .i64 1)), none, []⟩,
  ⟨some 6, .mv (.t 18), none, []⟩])))))) (.seq (.seq (.reg false [
  ⟨some 36, .mv (.t 5), none, []⟩,
  ⟨some 37, .bin .geq (.t 36) (.c (.int .u8 128)), none, []⟩]) (.cond (.t 37) (.seq (.reg false [
  ⟨some 38, .mv (.t 0), none, []⟩,
  ⟨some 39, .call (.f 216) [(.t 38), (.f 217)], none, []⟩,
  ⟨some 2, .mv (.t 39), none, []⟩]) (.ret)) (.skip))) (.seq (.reg false [
  ⟨some 40, .mv (.t 3), none, []⟩,
  ⟨some 41, .mkSlice 1 16 [(.str [])] (.t 40) (.t 40), none, []⟩,
  ⟨some 9, .mv (.t 41), none, []⟩]) (.seq (.reg false [
  ⟨some 10, .mv (.c (.int .i64 0)), none, []⟩]) (.seq (.reg false [
  ⟨some 11, .mv (.c (.int .i64 0)), none, []⟩]) (.seq (.reg false [
  ⟨some 12, .mv (.c (.int .i64 0)), none, []⟩]) (.seq (.block 2 (.loop (.seq (.seq (.reg false [
  ⟨some 42, .mv (.t 12), none, []⟩,
  ⟨some 43, .mv (.t 0), none, []⟩,
  ⟨some 44, .lenStr (.t 43), none, []⟩,
  ⟨some 45, .bin .lss (.t 42) (.t 44), none, []⟩,
  ⟨some 46, .mv (.t 45), none, []⟩,
  ⟨some 47, .mv (.t 0), some (46, true), []⟩,
  ⟨some 48, .mv (.t 12), some (46, true), []⟩,
  ⟨some 49, .idxStr (.t 47) (.t 48), some (46, true), []⟩,
  ⟨some 50, .idxA 256 1 (.g 2) (.t 49), some (46, true), []⟩,
  ⟨some 51, .load false 1 (.t 50), some (46, true), []⟩,
  ⟨some 52, .bin .neq (.t 51) (.c (.int .u8 0)), some (46, true), []⟩,
  ⟨some 53, .pick (.t 46) (.t 52) (.c (.bool false)), none, []⟩]) (.cond (.t 53) (.skip) (.exit 2))) (.block 3 (.reg false [
  ⟨some 54, .mv (.t 12), none, []⟩,
  ⟨some 55, .bin .add (.t 54) (.c (.int .i64 1)), none, []⟩,
  ⟨some 12, .mv (.t 55), none, []⟩]))))) (.seq (.reg false [
  ⟨some 56, .mv (.t 12), none, []⟩,
  ⟨some 11, .mv (.t 56), none, []⟩]) (.seq (.block 4 (.loop (.seq (.seq (.reg false [
  ⟨some 57, .mv (.t 12), none, []⟩,
  ⟨some 58, .mv (.t 0), none, []⟩,
  ⟨some 59, .lenStr (.t 58), none, []⟩,
  ⟨some 60, .bin .lss (.t 57) (.t 59), none, []⟩]) (.cond (.t 60) (.skip) (.exit 4))) (.block 5 (.seq (.seq (.reg false [
  ⟨some 61, .mv (.t 0), none, []⟩,
  ⟨some 62, .mv (.t 12), none, []⟩,
  ⟨some 63, .idxStr (.t 61) (.t 62), none, []⟩,
  ⟨some 64, .idxA 256 1 (.g 2) (.t 63), none, []⟩,
  ⟨some 65, .load false 1 (.t 64), none, []⟩,
  ⟨some 66, .bin .eql (.t 65) (.c (.int .u8 0)), none, []⟩]) (.cond (.t 66) (.seq (.reg false [
  ⟨some 67, .mv (.t 12), none, []⟩,
  ⟨some 68, .bin .add (.t 67) (.c (.int .i64 1)), none, []⟩,
  ⟨some 12, .mv (.t 68), none, []⟩]) (.exit 5)) (.skip))) (.seq (.reg false [
  ⟨some 69, .mv (.t 9), none, []⟩,
  ⟨some 70, .mv (.t 10), none, []⟩,
  ⟨some 71, .mv (.t 0), none, []⟩,
  ⟨some 72, .mv (.t 11), none, []⟩,
  ⟨some 73, .mv (.t 12), none, []⟩,
  ⟨some 74, .cutStr (.t 71) (some (.t 72)) (some (.t 73)), none, []⟩,
  ⟨some 75, .idxS 1 (.t 69) (.t 70), none, []⟩,
  ⟨none, .store 1 (.t 75) (.t 74), none, []⟩]) (.seq (.reg false [
  ⟨some 76, .mv (.t 10), none, []⟩,
  ⟨some 77, .bin .add (.t 76) (.c (.int .i64 1)), none, []⟩,
  ⟨some 10, .mv (.t 77), none, []⟩]) (.seq (.reg false [
  ⟨some 78, .mv (.t 12), none, []⟩,
  ⟨some 79, .bin .add (.t 78) (.c (.int .i64 1)), none, []⟩,
  ⟨some 12, .mv (.t 79), none, []⟩]) (.seq (.block 6 (.loop (.seq (.seq (.reg false [
  ⟨some 80, .mv (.t 12), none, []⟩,
  ⟨some 81, .mv (.t 0), none, []⟩,
  ⟨some 82, .lenStr (.t 81), none, []⟩,
  ⟨some 83, .bin .lss (.t 80) (.t 82), none, []⟩,
  ⟨some 84, .mv (.t 83), none, []⟩,
  ⟨some 85, .mv (.t 0), some (84, true), []⟩,
  ⟨some 86, .mv (.t 12), some (84, true), []⟩,
  ⟨some 87, .idxStr (.t 85) (.t 86), some (84, true), []⟩,
  ⟨some 88, .idxA 256 1 (.g 2) (.t 87), some (84, true), []⟩,
  ⟨some 89, .load false 1 (.t 88), some (84, true), []⟩,
  ⟨some 90, .bin .neq (.t 89) (.c (.int .u8 0)), some (84, true), []⟩,
  ⟨some 91, .pick (.t 84) (.t 90) (.c (.bool false)), none, []⟩]) (.cond (.t 91) (.skip) (.exit 6))) (.block 7 (.reg false [
  ⟨some 92, .mv (.t 12), none, []⟩,
  ⟨some 93, .bin .add (.t 92) (.c (.int .i64 1)), none, []⟩,
  ⟨some 12, .mv (.t 93), none, []⟩]))))) (.reg false [
  ⟨some 94, .mv (.t 12), none, []⟩,
  ⟨some 11, .mv (.t 94), none, []⟩])))))))))) (.seq (.seq (.reg false [
  ⟨some 95, .mv (.t 11), none, []⟩,
  ⟨some 96, .mv (.t 0), none, []⟩,
  ⟨some 97, .lenStr (.t 96), none, []⟩,
  ⟨some 98, .bin .lss (.t 95) (.t 97), none, []⟩]) (.cond (.t 98) (.reg false [
  ⟨some 99, .mv (.t 9), none, []⟩,
  ⟨some 100, .mv (.t 10), none, []⟩,
  ⟨some 101, .mv (.t 0), none, []⟩,
  ⟨some 102, .mv (.t 11), none, []⟩,
  ⟨some 103, .cutStr (.t 101) (some (.t 102)) none, none, []⟩,
  ⟨some 104, .idxS 1 (.t 99) (.t 100), none, []⟩,
  ⟨none, .store 1 (.t 104) (.t 103), none, []⟩]) (.skip))) (.seq (.reg false [
  ⟨some 105, .mv (.t 9), none, []⟩,
  ⟨some 2, .mv (.t 105), none, []⟩]) (.ret))))))))))))))))⟩
def h202 : Hint := { cb := [], ps := [], cp := [], cs := [], ap := [] }
def c202 : AF := ⟨2, 19, [.tmp 4],
 (.seq (.reg false [
  ⟨some 4, .mv (.c (.slice 0 [] .full)), none, []⟩]) (.seq (.reg false [
  ⟨some 6, .mv (.t 0), none, []⟩,
  ⟨some 7, .lenS (.t 6), none, []⟩,
  ⟨some 8, .mv (.t 0), none, []⟩,
  ⟨some 9, .lenS (.t 8), none, []⟩,
  ⟨some 10, .bin .add (.t 9) (.c (.int .i64 1)), none, []⟩,
  ⟨some 11, .mkSlice 1 8 [(.int .i64 0)] (.t 7) (.t 10), none, []⟩,
  ⟨some 5, .mv (.t 11), none, []⟩]) (.seq (.reg false [
  ⟨some 12, .mv (.t 5), none, []⟩,
  ⟨some 13, .mv (.t 0), none, []⟩,
  ⟨some 14, .copy 1 (.t 12) (.t 13), none, []⟩]) (.seq (.reg false [
  ⟨some 15, .mv (.t 5), none, []⟩,
  ⟨some 16, .mv (.t 1), none, []⟩,
  ⟨some 17, .bslice 1 1 [(.int .i64 0)] [(0, (.t 16))], none, []⟩,
  ⟨some 18, .append false 1 8 (.t 15) (.t 17), none, []⟩,
  ⟨some 4, .mv (.t 18), none, []⟩]) (.ret)))))⟩
def h205 : Hint := { cb := [], ps := [], cp := [], cs := [], ap := [] }
def c205 : AF := ⟨2, 8, [.tmp 4],
 (.seq (.reg false [
  ⟨some 4, .mv (.c (.int .i64 0)), none, []⟩]) (.seq (.reg false [
  ⟨some 5, .mv (.t 0), none, []⟩,
  ⟨some 6, .mv (.t 1), none, []⟩,
  ⟨some 7, .call (.f 222) [(.t 5), (.t 6)], none, []⟩,
  ⟨some 4, .mv (.t 7), none, []⟩]) (.ret)))⟩
def h206 : Hint := { cb := [2], ps := [], cp := [], cs := [], ap := [] }
def c206 : AF := ⟨2, 8, [.tmp 3],
 (.seq (.reg false [
  ⟨some 2, .boxc (.t 0), none, []⟩,
  ⟨some 3, .mv (.c (.bool false)), none, []⟩]) (.seq (.reg false [
  ⟨some 4, .fieldA 0 (.t 2), none, []⟩,
  ⟨some 5, .load false 1 (.t 4), none, []⟩,
  ⟨some 6, .load false 1 (.t 1), none, []⟩,
  ⟨some 7, .bin .eql (.t 5) (.t 6), none, []⟩,
  ⟨some 3, .mv (.t 7), none, []⟩]) (.ret)))⟩
def h207 : Hint := { cb := [], ps := [], cp := [], cs := [], ap := [] }
def c207 : AF := ⟨2, 8, [.tmp 4],
 (.seq (.reg false [
  ⟨some 4, .mv (.c (.int .i64 0)), none, []⟩]) (.seq (.reg false [
  ⟨some 5, .mv (.t 0), none, []⟩,
  ⟨some 6, .mv (.t 1), none, []⟩,
  ⟨some 7, .call (.f 223) [(.t 5), (.t 6)], none, []⟩,
  ⟨some 4, .mv (.t 7), none, []⟩]) (.ret)))⟩
def h208 : Hint := { cb := [2], ps := [], cp := [], cs := [], ap := [] }
def c208 : AF := ⟨2, 8, [.tmp 3],
 (.seq (.reg false [
  ⟨some 2, .boxc (.t 0), none, []⟩,
  ⟨some 3, .mv (.c (.bool false)), none, []⟩]) (.seq (.reg false [
  ⟨some 4, .fieldA 0 (.t 2), none, []⟩,
  ⟨some 5, .load false 1 (.t 4), none, []⟩,
  ⟨some 6, .load false 1 (.t 1), none, []⟩,
  ⟨some 7, .bin .eql (.t 5) (.t 6), none, []⟩,
  ⟨some 3, .mv (.t 7), none, []⟩]) (.ret)))⟩
def h209 : Hint := { cb := [], ps := [], cp := [], cs := [], ap := [] }
def c209 : AF := ⟨2, 19, [.tmp 4],
 (.seq (.reg false [
  ⟨some 4, .mv (.c (.int .i64 0)), none, []⟩]) (.seq (.seq (.reg false [
  ⟨some 6, .mv (.t 0), none, []⟩,
  ⟨some 7, .lenS (.t 6), none, []⟩,
  ⟨some 8, .mv (.c (.int .i64 0)), none, []⟩]) (.block 0 (.loop (.seq (.reg false [
  ⟨some 9, .bin .lss (.t 8) (.t 7), none, []⟩]) (.seq (.cond (.t 9) (.skip) (.exit 0)) (.seq (.block 1 (.seq (.reg false [
  ⟨some 10, .mv (.t 8), none, []⟩,
  ⟨some 5, .mv (.t 10), none, []⟩]) (.seq (.reg false [
  ⟨some 11, .mv (.t 1), none, []⟩,
  ⟨some 12, .mv (.t 0), none, []⟩,
  ⟨some 13, .mv (.t 5), none, []⟩,
  ⟨some 14, .idxS 14 (.t 12) (.t 13), none, []⟩,
  ⟨some 15, .load true 14 (.t 14), none, []⟩,
  ⟨some 16, .call (.t 11) [(.t 15)], none, []⟩]) (.cond (.t 16) (.seq (.reg false [
  ⟨some 17, .mv (.t 5), none, []⟩,
  ⟨some 4, .mv (.t 17), none, []⟩]) (.ret)) (.skip))))) (.reg false [
  ⟨some 18, .bin .add (.t 8) (.c (.int .i64 1)), none, []⟩,
  ⟨some 8, .mv (.t 18), none, []⟩]))))))) (.seq (.reg false [
  ⟨some 4, .mv (.c (.int .i64 (-1))), none, []⟩]) (.ret))))⟩
def h210 : Hint := { cb := [1], ps := [], cp := [9], cs := [], ap := [] }
def c210 : AF := ⟨1, 10, [.tmp 2],
 (.seq (.reg false [
  ⟨some 1, .boxc (.t 0), none, []⟩,
  ⟨some 2, .mv (.c (.int .i64 0)), none, []⟩]) (.seq (.reg false [
  ⟨some 4, .build [(.int .i64 0), (.int .i64 0)] [(0, 1, (.c (.int .i64 3000)))], none, []⟩,
  ⟨some 3, .alloc [(.int .i64 0), (.int .i64 0)], none, []⟩,
  ⟨none, .store 2 (.t 3) (.t 4), none, []⟩]) (.seq (.seq (.reg false [
  ⟨some 5, .load true 6 (.t 1), none, []⟩,
  ⟨some 6, .call (.f 224) [(.t 3), (.t 5), (.c (.int .i64 1))], none, []⟩,
  ⟨some 7, .un .not (.t 6), none, []⟩]) (.cond (.t 7) (.seq (.reg false [
  ⟨some 2, .mv (.c (.int .i64 3)), none, []⟩]) (.ret)) (.skip))) (.seq (.reg false [
  ⟨some 8, .load true 6 (.t 1), none, []⟩,
  ⟨some 9, .callP false (.f 225) [(.t 8)], none, []⟩,
  ⟨some 2, .mv (.t 9), none, []⟩]) (.ret)))))⟩
def h211 : Hint := { cb := [1], ps := [], cp := [], cs := [], ap := [] }
def c211 : AF := ⟨1, 25, [.tmp 2],
 (.seq (.reg false [
  ⟨some 1, .boxc (.t 0), none, []⟩,
  ⟨some 2, .mv (.c (.bool false)), none, []⟩]) (.seq (.seq (.reg false [
  ⟨some 3, .fieldA 0 (.t 1), none, []⟩,
  ⟨some 4, .load false 1 (.t 3), none, []⟩,
  ⟨some 5, .bin .eql (.t 4) (.c (.int .i64 0)), none, []⟩,
  ⟨some 6, .mv (.t 5), none, []⟩,
  ⟨some 7, .fieldA 0 (.t 1), some (6, false), []⟩,
  ⟨some 8, .load false 1 (.t 7), some (6, false), []⟩,
  ⟨some 9, .bin .eql (.t 8) (.c (.int .i64 5)), some (6, false), []⟩,
  ⟨some 10, .mv (.t 9), some (6, false), []⟩,
  ⟨some 11, .fieldA 4 (.t 1), some (10, true), []⟩,
  ⟨some 12, .fieldA 1 (.t 11), some (10, true), []⟩,
  ⟨some 13, .load false 1 (.t 12), some (10, true), []⟩,
  ⟨some 14, .bin .geq (.t 13) (.c (.int .i64 0)), some (10, true), []⟩,
  ⟨some 15, .pick (.t 10) (.t 14) (.c (.bool false)), some (6, false), []⟩,
  ⟨some 16, .pick (.t 6) (.c (.bool true)) (.t 15), none, []⟩]) (.cond (.t 16) (.seq (.reg false [
  ⟨some 2, .mv (.c (.bool false)), none, []⟩]) (.ret)) (.skip))) (.seq (.seq (.reg false [
  ⟨some 17, .fieldA 4 (.t 1), none, []⟩,
  ⟨some 18, .fieldA 0 (.t 17), none, []⟩,
  ⟨some 19, .load false 1 (.t 18), none, []⟩,
  ⟨some 20, .call (.f 226) [(.t 19), (.f 227)], none, []⟩]) (.cond (.t 20) (.seq (.reg false [
  ⟨some 2, .mv (.c (.bool false)), none, []⟩]) (.ret)) (.skip))) (.seq (.reg false [
  ⟨some 21, .fieldA 3 (.t 1), none, []⟩,
  ⟨some 22, .load false 1 (.t 21), none, []⟩,
  ⟨some 23, .call (.f 228) [(.t 22), (.f 229)], none, []⟩,
  ⟨some 24, .un .not (.t 23), none, []⟩,
  ⟨some 2, .mv (.t 24), none, []⟩]) (.ret)))))⟩
def h212 : Hint := { cb := [], ps := [], cp := [], cs := [], ap := [] }
def c212 : AF := ⟨3, 15, [.tmp 6],
 (.seq (.reg false [
  ⟨some 6, .mv (.c (.bool false)), none, []⟩]) (.seq (.reg false [
  ⟨some 7, .mv (.t 1), none, []⟩,
  ⟨some 8, .mv (.t 0), none, []⟩,
  ⟨some 9, .bin .leq (.t 7) (.t 8), none, []⟩,
  ⟨some 10, .mv (.t 9), none, []⟩,
  ⟨some 11, .mv (.t 0), some (10, true), []⟩,
  ⟨some 12, .mv (.t 2), some (10, true), []⟩,
  ⟨some 13, .bin .leq (.t 11) (.t 12), some (10, true), []⟩,
  ⟨some 14, .pick (.t 10) (.t 13) (.c (.bool false)), none, []⟩,
  ⟨some 6, .mv (.t 14), none, []⟩]) (.ret)))⟩
def h213 : Hint := { cb := [2], ps := [5], cp := [51, 46], cs := [], ap := [] }
def c213 : AF := ⟨2, 61, [.tmp 4],
 (.seq (.reg false [
  ⟨some 2, .boxc (.t 0), none, []⟩,
  ⟨some 4, .mv (.c (.int .i64 0)), none, []⟩]) (.seq (.reg false [
  ⟨some 9, .fieldA 6 (.t 2), none, []⟩,
  ⟨some 10, .load false 1 (.t 9), none, []⟩,
  ⟨some 11, .mv (.t 1), none, []⟩,
  ⟨some 12, .idxS 9 (.t 10) (.t 11), none, []⟩,
  ⟨some 13, .load true 9 (.t 12), none, []⟩,
  ⟨some 5, .pend [(.str []), (.slice 0 [] .full), (.int .i64 0), (.int .i64 0), (.str []), (.str []), (.slice 0 [] .full), (.slice 0 [] .full), (.slice 0 [] .full)], none, []⟩,
  ⟨none, .shut 5 9 (.t 13), none, []⟩]) (.seq (.reg true [
  ⟨some 14, .fieldA 1 (.t 5), none, []⟩,
  ⟨some 15, .load false 1 (.t 14), none, [0]⟩,
  ⟨some 16, .lenS (.t 15), none, [1, 0]⟩,
  ⟨some 17, .bin .eql (.t 16) (.c (.int .i64 2)), none, [2, 1, 0]⟩,
  ⟨some 6, .mv (.c (.int .i64 1)), none, []⟩,
  ⟨some 7, .mv (.t 17), none, [3, 2, 1, 0, 4]⟩]) (.seq (.block 0 (.seq (.reg false [
  ⟨some 19, .fieldA 0 (.t 2), none, []⟩,
  ⟨some 20, .load false 1 (.t 19), none, []⟩,
  ⟨some 21, .bin .eql (.t 20) (.c (.int .i64 11)), none, []⟩,
  ⟨some 18, .mv (.t 21), none, []⟩]) (.cond (.t 18) (.reg true [
  ⟨some 22, .fieldA 1 (.t 5), none, []⟩,
  ⟨some 23, .load false 1 (.t 22), none, [0]⟩,
  ⟨some 24, .lenS (.t 23), none, [1, 0]⟩,
  ⟨some 25, .bin .leq (.t 24) (.c (.int .i64 4)), none, [2, 1, 0]⟩,
  ⟨some 6, .mv (.c (.int .i64 2)), none, []⟩,
  ⟨some 7, .mv (.t 25), none, [3, 2, 1, 0, 4]⟩]) (.seq (.reg false [
  ⟨some 27, .mv (.t 1), none, []⟩,
  ⟨some 28, .bin .eql (.t 27) (.c (.int .i64 0)), none, []⟩,
  ⟨some 26, .mv (.t 28), none, []⟩]) (.cond (.t 26) (.reg true [
  ⟨some 29, .fieldA 1 (.t 5), none, []⟩,
  ⟨some 30, .load false 1 (.t 29), none, [0]⟩,
  ⟨some 31, .lenS (.t 30), none, [1, 0]⟩,
  ⟨some 32, .bin .eql (.t 31) (.c (.int .i64 1)), none, [2, 1, 0]⟩,
  ⟨some 33, .mv (.t 32), none, [3, 2, 1, 0]⟩,
  ⟨some 34, .fieldA 0 (.t 5), some (33, true), [4, 3, 2, 1, 0]⟩,
  ⟨some 35, .load false 1 (.t 34), some (33, true), [5, 4, 3, 2, 1, 0]⟩,
  ⟨some 36, .bin .eql (.t 35) (.c (.str [114, 101, 116, 117, 114, 110])), some (33, true), [6, 5, 4, 3, 2, 1, 0]⟩,
  ⟨some 37, .pick (.t 33) (.t 36) (.c (.bool false)), none, [4, 3, 2, 1, 0, 7, 6, 5]⟩,
  ⟨some 6, .mv (.c (.int .i64 0)), none, [4, 3, 2, 1, 0]⟩,
  ⟨some 7, .mv (.t 37), none, [8, 4, 3, 2, 1, 0, 7, 6, 5, 9]⟩]) (.skip)))))) (.seq (.seq (.reg false [
  ⟨some 38, .mv (.t 7), none, []⟩,
  ⟨some 39, .un .not (.t 38), none, []⟩]) (.cond (.t 39) (.seq (.reg false [
  ⟨some 4, .mv (.c (.int .i64 7)), none, []⟩]) (.ret)) (.skip))) (.seq (.seq (.reg false [
  ⟨some 40, .mv (.t 6), none, []⟩,
  ⟨some 41, .bin .neq (.t 40) (.c (.int .i64 0)), none, []⟩,
  ⟨some 42, .mv (.t 41), none, []⟩,
  ⟨some 43, .fieldA 0 (.t 5), some (42, true), []⟩,
  ⟨some 44, .load false 1 (.t 43), some (42, true), []⟩,
  ⟨some 45, .mv (.t 6), some (42, true), []⟩,
  ⟨some 46, .callP false (.f 149) [(.t 44), (.t 45)], some (42, true), []⟩,
  ⟨some 47, .un .not (.t 46), some (42, true), []⟩,
  ⟨some 48, .pick (.t 42) (.t 47) (.c (.bool false)), none, []⟩]) (.cond (.t 48) (.seq (.reg false [
  ⟨some 4, .mv (.c (.int .i64 4)), none, []⟩]) (.ret)) (.skip))) (.seq (.seq (.reg false [
  ⟨some 49, .fieldA 1 (.t 5), none, []⟩,
  ⟨some 50, .load false 1 (.t 49), none, []⟩,
  ⟨some 51, .callP false (.f 190) [(.t 50), (.c (.int .i64 1))], none, []⟩,
  ⟨some 8, .mv (.t 51), none, []⟩]) (.seq (.reg false [
  ⟨some 52, .mv (.t 8), none, []⟩,
  ⟨some 53, .bin .neq (.t 52) (.c (.int .i64 0)), none, []⟩]) (.cond (.t 53) (.seq (.reg false [
  ⟨some 54, .mv (.t 8), none, []⟩,
  ⟨some 4, .mv (.t 54), none, []⟩]) (.ret)) (.skip)))) (.seq (.seq (.reg false [
  ⟨some 55, .fieldA 6 (.t 2), none, []⟩,
  ⟨some 56, .load false 1 (.t 55), none, []⟩,
  ⟨some 57, .mv (.t 1), none, []⟩,
  ⟨some 58, .cutS 9 (.t 56) none (some (.t 57)) none, none, []⟩,
  ⟨some 59, .mkFunc 231 [] [(.t 5)], none, []⟩,
  ⟨some 60, .call (.f 230) [(.t 58), (.t 59)], none, []⟩]) (.cond (.t 60) (.seq (.reg false [
  ⟨some 4, .mv (.c (.int .i64 5)), none, []⟩]) (.ret)) (.skip))) (.seq (.reg false [
  ⟨some 4, .mv (.c (.int .i64 0)), none, []⟩]) (.ret))))))))))⟩
def h216 : Hint := { cb := [], ps := [11], cp := [], cs := [], ap := [] }
def c216 : AF := ⟨2, 65, [.tmp 4],
 (.seq (.reg false [
  ⟨some 4, .mv (.c (.slice 0 [] .full)), none, []⟩]) (.seq (.reg false [
  ⟨some 12, .mkSlice 2 16 [(.int .i64 0), (.int .i64 0)] (.c (.int .i64 0)) (.c (.int .i64 32)), none, []⟩,
  ⟨some 5, .mv (.t 12), none, []⟩]) (.seq (.reg false [
  ⟨some 6, .mv (.c (.int .i64 (-1))), none, []⟩]) (.seq (.seq (.reg false [
  ⟨some 13, .mv (.t 0), none, []⟩,
  ⟨some 14, .rangeStr (.t 13), none, []⟩]) (.block 0 (.loop (.seq (.reg false [
  ⟨some 15, .nextStr (.t 14), none, []⟩,
  ⟨some 16, .extract (.t 15) 0, none, []⟩]) (.seq (.cond (.t 16) (.skip) (.exit 0)) (.block 1 (.seq (.reg false [
  ⟨some 17, .extract (.t 15) 1, none, []⟩,
  ⟨some 18, .extract (.t 15) 2, none, []⟩,
  ⟨some 7, .mv (.t 17), none, []⟩,
  ⟨some 8, .mv (.t 18), none, []⟩]) (.seq (.reg false [
  ⟨some 19, .mv (.t 1), none, []⟩,
  ⟨some 20, .mv (.t 8), none, []⟩,
  ⟨some 21, .call (.t 19) [(.t 20)], none, []⟩]) (.cond (.t 21) (.seq (.reg false [
  ⟨some 22, .mv (.t 6), none, []⟩,
  ⟨some 23, .bin .geq (.t 22) (.c (.int .i64 0)), none, []⟩]) (.cond (.t 23) (.seq (.reg false [
  ⟨some 24, .mv (.t 5), none, []⟩,
  ⟨some 25, .mv (.t 6), none, []⟩,
  ⟨some 26, .mv (.t 7), none, []⟩,
  ⟨some 27, .build [(.int .i64 0), (.int .i64 0)] [(0, 1, (.t 25)), (1, 1, (.t 26))], none, []⟩,
  ⟨some 28, .bslice 2 1 [(.int .i64 0), (.int .i64 0)] [(0, (.t 27))], none, []⟩,
  ⟨some 29, .append false 2 16 (.t 24) (.t 28), none, []⟩,
  ⟨some 5, .mv (.t 29), none, []⟩]) (.reg false [
  ⟨some 30, .mv (.t 6), none, []⟩,
  ⟨some 31, .un .xor (.t 30), none, []⟩,
  ⟨some 6, .mv (.t 31), none, []⟩])) (.skip))) (.seq (.reg false [
  ⟨some 32, .mv (.t 6), none, []⟩,
  ⟨some 33, .bin .lss (.t 32) (.c (.int .i64 0)), none, []⟩]) (.cond (.t 33) (.reg false [
  ⟨some 34, .mv (.t 7), none, []⟩,
  ⟨some 6, .mv (.t 34), none, []⟩]) (.skip)))))))))))) (.seq (.seq (.reg false [
  ⟨some 35, .mv (.t 6), none, []⟩,
  ⟨some 36, .bin .geq (.t 35) (.c (.int .i64 0)), none, []⟩]) (.cond (.t 36) (.reg false [
  ⟨some 37, .mv (.t 5), none, []⟩,
  ⟨some 38, .mv (.t 6), none, []⟩,
  ⟨some 39, .mv (.t 0), none, []⟩,
  ⟨some 40, .lenStr (.t 39), none, []⟩,
  ⟨some 41, .build [(.int .i64 0), (.int .i64 0)] [(0, 1, (.t 38)), (1, 1, (.t 40))], none, []⟩,
  ⟨some 42, .bslice 2 1 [(.int .i64 0), (.int .i64 0)] [(0, (.t 41))], none, []⟩,
  ⟨some 43, .append false 2 16 (.t 37) (.t 42), none, []⟩,
  ⟨some 5, .mv (.t 43), none, []⟩]) (.skip))) (.seq (.reg false [
  ⟨some 44, .mv (.t 5), none, []⟩,
  ⟨some 45, .lenS (.t 44), none, []⟩,
  ⟨some 46, .mkSlice 1 16 [(.str [])] (.t 45) (.t 45), none, []⟩,
  ⟨some 9, .mv (.t 46), none, []⟩]) (.seq (.seq (.reg false [
  ⟨some 47, .mv (.t 5), none, []⟩,
  ⟨some 48, .lenS (.t 47), none, []⟩,
  ⟨some 49, .mv (.c (.int .i64 0)), none, []⟩]) (.block 2 (.loop (.seq (.reg false [
  ⟨some 50, .bin .lss (.t 49) (.t 48), none, []⟩]) (.seq (.cond (.t 50) (.skip) (.exit 2)) (.seq (.block 3 (.seq (.reg false [
  ⟨some 51, .mv (.t 49), none, []⟩,
  ⟨some 52, .idxS 2 (.t 47) (.t 49), none, []⟩,
  ⟨some 53, .load true 2 (.t 52), none, []⟩,
  ⟨some 11, .pend [(.int .i64 0), (.int .i64 0)], none, []⟩,
  ⟨some 10, .mv (.t 51), none, []⟩,
  ⟨none, .shut 11 2 (.t 53), none, []⟩]) (.reg false [
  ⟨some 54, .mv (.t 9), none, []⟩,
  ⟨some 55, .mv (.t 10), none, []⟩,
  ⟨some 56, .mv (.t 0), none, []⟩,
  ⟨some 57, .fieldA 0 (.t 11), none, []⟩,
  ⟨some 58, .load false 1 (.t 57), none, []⟩,
  ⟨some 59, .fieldA 1 (.t 11), none, []⟩,
  ⟨some 60, .load false 1 (.t 59), none, []⟩,
  ⟨some 61, .cutStr (.t 56) (some (.t 58)) (some (.t 60)), none, []⟩,
  ⟨some 62, .idxS 1 (.t 54) (.t 55), none, []⟩,
  ⟨none, .store 1 (.t 62) (.t 61), none, []⟩]))) (.reg false [
  ⟨some 63, .bin .add (.t 49) (.c (.int .i64 1)), none, []⟩,
  ⟨some 49, .mv (.t 63), none, []⟩]))))))) (.seq (.reg false [
  ⟨some 64, .mv (.t 9), none, []⟩,
  ⟨some 4, .mv (.t 64), none, []⟩]) (.ret)))))))))⟩
def h217 : Hint := { cb := [], ps := [], cp := [], cs := [], ap := [] }
def c217 : AF := ⟨1, 19, [.tmp 2],
 (.seq (.reg false [
  ⟨some 2, .mv (.c (.bool false)), none, []⟩]) (.seq (.seq (.reg false [
  ⟨some 3, .mv (.t 0), none, []⟩,
  ⟨some 4, .toInt .u32 (.t 3), none, []⟩,
  ⟨some 5, .bin .leq (.t 4) (.c (.int .u32 255)), none, []⟩]) (.cond (.t 5) (.seq (.seq (.reg false [
  ⟨some 6, .mv (.t 0), none, []⟩]) (.block 0 (.seq (.seq (.reg false [
  ⟨some 8, .bin .eql (.t 6) (.c (.int .i32 9)), none, []⟩,
  ⟨some 7, .mv (.t 8), none, []⟩]) (.cond (.t 7) (.skip) (.seq (.reg false [
  ⟨some 9, .bin .eql (.t 6) (.c (.int .i32 10)), none, []⟩,
  ⟨some 7, .mv (.t 9), none, []⟩]) (.cond (.t 7) (.skip) (.seq (.reg false [
  ⟨some 10, .bin .eql (.t 6) (.c (.int .i32 11)), none, []⟩,
  ⟨some 7, .mv (.t 10), none, []⟩]) (.cond (.t 7) (.skip) (.seq (.reg false [
  ⟨some 11, .bin .eql (.t 6) (.c (.int .i32 12)), none, []⟩,
  ⟨some 7, .mv (.t 11), none, []⟩]) (.cond (.t 7) (.skip) (.seq (.reg false [
  ⟨some 12, .bin .eql (.t 6) (.c (.int .i32 13)), none, []⟩,
  ⟨some 7, .mv (.t 12), none, []⟩]) (.cond (.t 7) (.skip) (.seq (.reg false [
  ⟨some 13, .bin .eql (.t 6) (.c (.int .i32 32)), none, []⟩,
  ⟨some 7, .mv (.t 13), none, []⟩]) (.cond (.t 7) (.skip) (.seq (.reg false [
  ⟨some 14, .bin .eql (.t 6) (.c (.int .i32 133)), none, []⟩,
  ⟨some 7, .mv (.t 14), none, []⟩]) (.cond (.t 7) (.skip) (.reg false [
  ⟨some 15, .bin .eql (.t 6) (.c (.int .i32 160)), none, []⟩,
  ⟨some 7, .mv (.t 15), none, []⟩]))))))))))))))) (.cond (.t 7) (.seq (.reg false [
  ⟨some 2, .mv (.c (.bool true)), none, []⟩]) (.ret)) (.skip))))) (.seq (.reg false [
  ⟨some 2, .mv (.c (.bool false)), none, []⟩]) (.ret))) (.skip))) (.seq (.reg false [
  ⟨some 16, .load false 1 (.g 3), none, []⟩,
  ⟨some 17, .mv (.t 0), none, []⟩,
  ⟨some 18, .call (.f 234) [(.t 16), (.t 17)], none, []⟩,
  ⟨some 2, .mv (.t 18), none, []⟩]) (.ret))))⟩
def h222 : Hint := { cb := [], ps := [], cp := [], cs := [], ap := [] }
def c222 : AF := ⟨2, 19, [.tmp 4],
 (.seq (.reg false [
  ⟨some 4, .mv (.c (.int .i64 0)), none, []⟩]) (.seq (.seq (.reg false [
  ⟨some 6, .mv (.t 0), none, []⟩,
  ⟨some 7, .lenS (.t 6), none, []⟩,
  ⟨some 8, .mv (.c (.int .i64 0)), none, []⟩]) (.block 0 (.loop (.seq (.reg false [
  ⟨some 9, .bin .lss (.t 8) (.t 7), none, []⟩]) (.seq (.cond (.t 9) (.skip) (.exit 0)) (.seq (.block 1 (.seq (.reg false [
  ⟨some 10, .mv (.t 8), none, []⟩,
  ⟨some 5, .mv (.t 10), none, []⟩]) (.seq (.reg false [
  ⟨some 11, .mv (.t 1), none, []⟩,
  ⟨some 12, .mv (.t 0), none, []⟩,
  ⟨some 13, .mv (.t 5), none, []⟩,
  ⟨some 14, .idxS 3 (.t 12) (.t 13), none, []⟩,
  ⟨some 15, .load true 3 (.t 14), none, []⟩,
  ⟨some 16, .call (.t 11) [(.t 15)], none, []⟩]) (.cond (.t 16) (.seq (.reg false [
  ⟨some 17, .mv (.t 5), none, []⟩,
  ⟨some 4, .mv (.t 17), none, []⟩]) (.ret)) (.skip))))) (.reg false [
  ⟨some 18, .bin .add (.t 8) (.c (.int .i64 1)), none, []⟩,
  ⟨some 8, .mv (.t 18), none, []⟩]))))))) (.seq (.reg false [
  ⟨some 4, .mv (.c (.int .i64 (-1))), none, []⟩]) (.ret))))⟩
def h223 : Hint := { cb := [], ps := [], cp := [], cs := [], ap := [] }
def c223 : AF := ⟨2, 19, [.tmp 4],
 (.seq (.reg false [
  ⟨some 4, .mv (.c (.int .i64 0)), none, []⟩]) (.seq (.seq (.reg false [
  ⟨some 6, .mv (.t 0), none, []⟩,
  ⟨some 7, .lenS (.t 6), none, []⟩,
  ⟨some 8, .mv (.c (.int .i64 0)), none, []⟩]) (.block 0 (.loop (.seq (.reg false [
  ⟨some 9, .bin .lss (.t 8) (.t 7), none, []⟩]) (.seq (.cond (.t 9) (.skip) (.exit 0)) (.seq (.block 1 (.seq (.reg false [
  ⟨some 10, .mv (.t 8), none, []⟩,
  ⟨some 5, .mv (.t 10), none, []⟩]) (.seq (.reg false [
  ⟨some 11, .mv (.t 1), none, []⟩,
  ⟨some 12, .mv (.t 0), none, []⟩,
  ⟨some 13, .mv (.t 5), none, []⟩,
  ⟨some 14, .idxS 2 (.t 12) (.t 13), none, []⟩,
  ⟨some 15, .load true 2 (.t 14), none, []⟩,
  ⟨some 16, .call (.t 11) [(.t 15)], none, []⟩]) (.cond (.t 16) (.seq (.reg false [
  ⟨some 17, .mv (.t 5), none, []⟩,
  ⟨some 4, .mv (.t 17), none, []⟩]) (.ret)) (.skip))))) (.reg false [
  ⟨some 18, .bin .add (.t 8) (.c (.int .i64 1)), none, []⟩,
  ⟨some 8, .mv (.t 18), none, []⟩]))))))) (.seq (.reg false [
  ⟨some 4, .mv (.c (.int .i64 (-1))), none, []⟩]) (.ret))))⟩
def h224 : Hint := { cb := [5, 4, 3], ps := [], cp := [], cs := [], ap := [] }
def c224 : AF := ⟨3, 35, [.tmp 6],
 (.seq (.reg false [
  ⟨some 3, .boxc (.t 0), none, []⟩,
  ⟨some 4, .boxc (.t 1), none, []⟩,
  ⟨some 5, .boxc (.t 2), none, []⟩,
  ⟨some 6, .mv (.c (.bool false)), none, []⟩]) (.seq (.reg false [
  ⟨some 7, .load false 1 (.t 3), none, []⟩,
  ⟨some 8, .nilchk (.t 7), none, []⟩,
  ⟨some 9, .fieldA 0 (.t 8), none, []⟩,
  ⟨some 10, .load false 1 (.t 9), none, []⟩,
  ⟨some 11, .bin .sub (.t 10) (.c (.int .i64 1)), none, []⟩,
  ⟨some 12, .nilchk (.t 7), none, []⟩,
  ⟨some 13, .fieldA 0 (.t 12), none, []⟩,
  ⟨none, .store 1 (.t 13) (.t 11), none, []⟩]) (.seq (.seq (.reg false [
  ⟨some 14, .load false 1 (.t 3), none, []⟩,
  ⟨some 15, .nilchk (.t 14), none, []⟩,
  ⟨some 16, .fieldA 0 (.t 15), none, []⟩,
  ⟨some 17, .load false 1 (.t 16), none, []⟩,
  ⟨some 18, .bin .lss (.t 17) (.c (.int .i64 0)), none, []⟩,
  ⟨some 19, .mv (.t 18), none, []⟩,
  ⟨some 20, .load false 1 (.t 5), some (19, false), []⟩,
  ⟨some 21, .bin .gtr (.t 20) (.c (.int .i64 200)), some (19, false), []⟩,
  ⟨some 22, .pick (.t 19) (.c (.bool true)) (.t 21), none, []⟩,
  ⟨some 23, .mv (.t 22), none, []⟩,
  ⟨some 24, .fieldA 4 (.t 4), some (23, false), []⟩,
  ⟨some 25, .fieldA 0 (.t 24), some (23, false), []⟩,
  ⟨some 26, .load false 1 (.t 25), some (23, false), []⟩,
  ⟨some 27, .lenS (.t 26), some (23, false), []⟩,
  ⟨some 28, .bin .gtr (.t 27) (.c (.int .i64 24)), some (23, false), []⟩,
  ⟨some 29, .pick (.t 23) (.c (.bool true)) (.t 28), none, []⟩]) (.cond (.t 29) (.seq (.reg false [
  ⟨some 6, .mv (.c (.bool false)), none, []⟩]) (.ret)) (.skip))) (.seq (.reg false [
  ⟨some 30, .fieldA 3 (.t 4), none, []⟩,
  ⟨some 31, .load false 1 (.t 30), none, []⟩,
  ⟨some 32, .mkFunc 240 [] [(.t 3), (.t 5)], none, []⟩,
  ⟨some 33, .call (.f 228) [(.t 31), (.t 32)], none, []⟩,
  ⟨some 34, .un .not (.t 33), none, []⟩,
  ⟨some 6, .mv (.t 34), none, []⟩]) (.ret)))))⟩
def h225 : Hint := { cb := [1], ps := [], cp := [23, 6], cs := [], ap := [] }
def c225 : AF := ⟨1, 25, [.tmp 2],
 (.seq (.reg false [
  ⟨some 1, .boxc (.t 0), none, []⟩,
  ⟨some 2, .mv (.c (.int .i64 0)), none, []⟩]) (.seq (.reg false [
  ⟨some 5, .load true 6 (.t 1), none, []⟩,
  ⟨some 6, .callP false (.f 241) [(.t 5)], none, []⟩,
  ⟨some 3, .mv (.t 6), none, []⟩]) (.seq (.seq (.reg false [
  ⟨some 4, .mv (.c (.int .i64 0)), none, []⟩]) (.block 0 (.loop (.seq (.seq (.reg false [
  ⟨some 7, .mv (.t 4), none, []⟩,
  ⟨some 8, .fieldA 3 (.t 1), none, []⟩,
  ⟨some 9, .load false 1 (.t 8), none, []⟩,
  ⟨some 10, .lenS (.t 9), none, []⟩,
  ⟨some 11, .bin .lss (.t 7) (.t 10), none, []⟩,
  ⟨some 12, .mv (.t 11), none, []⟩,
  ⟨some 13, .mv (.t 3), some (12, true), []⟩,
  ⟨some 14, .bin .eql (.t 13) (.c (.int .i64 0)), some (12, true), []⟩,
  ⟨some 15, .pick (.t 12) (.t 14) (.c (.bool false)), none, []⟩]) (.cond (.t 15) (.skip) (.exit 0))) (.seq (.block 1 (.reg false [
  ⟨some 18, .fieldA 3 (.t 1), none, []⟩,
  ⟨some 19, .load false 1 (.t 18), none, []⟩,
  ⟨some 20, .mv (.t 4), none, []⟩,
  ⟨some 21, .idxS 6 (.t 19) (.t 20), none, []⟩,
  ⟨some 22, .load true 6 (.t 21), none, []⟩,
  ⟨some 23, .callP false (.f 225) [(.t 22)], none, []⟩,
  ⟨some 3, .mv (.t 23), none, []⟩])) (.reg false [
  ⟨some 16, .mv (.t 4), none, []⟩,
  ⟨some 17, .bin .add (.t 16) (.c (.int .i64 1)), none, []⟩,
  ⟨some 4, .mv (.t 17), none, []⟩])))))) (.seq (.reg false [
  ⟨some 24, .mv (.t 3), none, []⟩,
  ⟨some 2, .mv (.t 24), none, []⟩]) (.ret)))))⟩
def h226 : Hint := { cb := [], ps := [], cp := [], cs := [], ap := [] }
def c226 : AF := ⟨2, 9, [.tmp 4],
 (.seq (.reg false [
  ⟨some 4, .mv (.c (.bool false)), none, []⟩]) (.seq (.reg false [
  ⟨some 5, .mv (.t 0), none, []⟩,
  ⟨some 6, .mv (.t 1), none, []⟩,
  ⟨some 7, .call (.f 242) [(.t 5), (.t 6)], none, []⟩,
  ⟨some 8, .bin .geq (.t 7) (.c (.int .i64 0)), none, []⟩,
  ⟨some 4, .mv (.t 8), none, []⟩]) (.ret)))⟩
def h227 : Hint := { cb := [1], ps := [], cp := [], cs := [], ap := [] }
def c227 : AF := ⟨1, 6, [.tmp 2],
 (.seq (.reg false [
  ⟨some 1, .boxc (.t 0), none, []⟩,
  ⟨some 2, .mv (.c (.bool false)), none, []⟩]) (.seq (.reg false [
  ⟨some 3, .fieldA 1 (.t 1), none, []⟩,
  ⟨some 4, .load false 1 (.t 3), none, []⟩,
  ⟨some 5, .bin .neq (.t 4) (.c (.int .i64 0)), none, []⟩,
  ⟨some 2, .mv (.t 5), none, []⟩]) (.ret)))⟩
def h228 : Hint := { cb := [], ps := [], cp := [], cs := [], ap := [] }
def c228 : AF := ⟨2, 9, [.tmp 4],
 (.seq (.reg false [
  ⟨some 4, .mv (.c (.bool false)), none, []⟩]) (.seq (.reg false [
  ⟨some 5, .mv (.t 0), none, []⟩,
  ⟨some 6, .mv (.t 1), none, []⟩,
  ⟨some 7, .call (.f 243) [(.t 5), (.t 6)], none, []⟩,
  ⟨some 8, .bin .geq (.t 7) (.c (.int .i64 0)), none, []⟩,
  ⟨some 4, .mv (.t 8), none, []⟩]) (.ret)))⟩
def h229 : Hint := { cb := [1], ps := [], cp := [4], cs := [], ap := [] }
def c229 : AF := ⟨1, 6, [.tmp 2],
 (.seq (.reg false [
  ⟨some 1, .boxc (.t 0), none, []⟩,
  ⟨some 2, .mv (.c (.bool false)), none, []⟩]) (.seq (.reg false [
  ⟨some 3, .load true 6 (.t 1), none, []⟩,
  ⟨some 4, .callP false (.f 211) [(.t 3)], none, []⟩,
  ⟨some 5, .un .not (.t 4), none, []⟩,
  ⟨some 2, .mv (.t 5), none, []⟩]) (.ret)))⟩
def h230 : Hint := { cb := [], ps := [], cp := [], cs := [], ap := [] }
def c230 : AF := ⟨2, 9, [.tmp 4],
 (.seq (.reg false [
  ⟨some 4, .mv (.c (.bool false)), none, []⟩]) (.seq (.reg false [
  ⟨some 5, .mv (.t 0), none, []⟩,
  ⟨some 6, .mv (.t 1), none, []⟩,
  ⟨some 7, .call (.f 244) [(.t 5), (.t 6)], none, []⟩,
  ⟨some 8, .bin .geq (.t 7) (.c (.int .i64 0)), none, []⟩,
  ⟨some 4, .mv (.t 8), none, []⟩]) (.ret)))⟩
def h231 : Hint := { cb := [2], ps := [], cp := [], cs := [], ap := [] }
def c231 : AF := ⟨2, 9, [.tmp 3],
 (.seq (.reg false [
  ⟨some 2, .boxc (.t 0), none, []⟩,
  ⟨some 3, .mv (.c (.bool false)), none, []⟩]) (.seq (.reg false [
  ⟨some 4, .fieldA 0 (.t 2), none, []⟩,
  ⟨some 5, .load false 1 (.t 4), none, []⟩,
  ⟨some 6, .fieldA 0 (.t 1), none, []⟩,
  ⟨some 7, .load false 1 (.t 6), none, []⟩,
  ⟨some 8, .bin .eql (.t 5) (.t 7), none, []⟩,
  ⟨some 3, .mv (.t 8), none, []⟩]) (.ret)))⟩
def h234 : Hint := { cb := [], ps := [], cp := [58, 38], cs := [], ap := [] }
def c234 : AF := ⟨2, 59, [.tmp 4],
 (.seq (.reg false [
  ⟨some 4, .mv (.c (.bool false)), none, []⟩]) (.seq (.reg false [
  ⟨some 8, .mv (.t 0), none, []⟩,
  ⟨some 9, .nilchk (.t 8), none, []⟩,
  ⟨some 10, .fieldA 0 (.t 9), none, []⟩,
  ⟨some 11, .load false 1 (.t 10), none, []⟩,
  ⟨some 5, .mv (.t 11), none, []⟩]) (.seq (.seq (.reg false [
  ⟨some 12, .mv (.t 0), none, []⟩,
  ⟨some 13, .nilchk (.t 12), none, []⟩,
  ⟨some 14, .fieldA 2 (.t 13), none, []⟩,
  ⟨some 15, .load false 1 (.t 14), none, []⟩,
  ⟨some 6, .mv (.t 15), none, []⟩]) (.seq (.reg false [
  ⟨some 16, .mv (.t 5), none, []⟩,
  ⟨some 17, .lenS (.t 16), none, []⟩,
  ⟨some 18, .mv (.t 6), none, []⟩,
  ⟨some 19, .bin .gtr (.t 17) (.t 18), none, []⟩,
  ⟨some 20, .mv (.t 19), none, []⟩,
  ⟨some 21, .mv (.t 1), some (20, true), []⟩,
  ⟨some 22, .toInt .u32 (.t 21), some (20, true), []⟩,
  ⟨some 23, .mv (.t 5), some (20, true), []⟩,
  ⟨some 24, .mv (.t 5), some (20, true), []⟩,
  ⟨some 25, .lenS (.t 24), some (20, true), []⟩,
  ⟨some 26, .bin .sub (.t 25) (.c (.int .i64 1)), some (20, true), []⟩,
  ⟨some 27, .idxS 3 (.t 23) (.t 26), some (20, true), []⟩,
  ⟨some 28, .fieldA 1 (.t 27), some (20, true), []⟩,
  ⟨some 29, .load false 1 (.t 28), some (20, true), []⟩,
  ⟨some 30, .toInt .u32 (.t 29), some (20, true), []⟩,
  ⟨some 31, .bin .leq (.t 22) (.t 30), some (20, true), []⟩,
  ⟨some 32, .pick (.t 20) (.t 31) (.c (.bool false)), none, []⟩]) (.cond (.t 32) (.seq (.reg false [
  ⟨some 33, .mv (.t 5), none, []⟩,
  ⟨some 34, .mv (.t 6), none, []⟩,
  ⟨some 35, .cutS 3 (.t 33) (some (.t 34)) none none, none, []⟩,
  ⟨some 36, .mv (.t 1), none, []⟩,
  ⟨some 37, .toInt .u16 (.t 36), none, []⟩,
  ⟨some 38, .callP false (.f 245) [(.t 35), (.t 37)], none, []⟩,
  ⟨some 4, .mv (.t 38), none, []⟩]) (.ret)) (.skip)))) (.seq (.reg false [
  ⟨some 39, .mv (.t 0), none, []⟩,
  ⟨some 40, .nilchk (.t 39), none, []⟩,
  ⟨some 41, .fieldA 1 (.t 40), none, []⟩,
  ⟨some 42, .load false 1 (.t 41), none, []⟩,
  ⟨some 7, .mv (.t 42), none, []⟩]) (.seq (.seq (.reg false [
  ⟨some 43, .mv (.t 7), none, []⟩,
  ⟨some 44, .lenS (.t 43), none, []⟩,
  ⟨some 45, .bin .gtr (.t 44) (.c (.int .i64 0)), none, []⟩,
  ⟨some 46, .mv (.t 45), none, []⟩,
  ⟨some 47, .mv (.t 1), some (46, true), []⟩,
  ⟨some 48, .mv (.t 7), some (46, true), []⟩,
  ⟨some 49, .idxS 3 (.t 48) (.c (.int .i64 0)), some (46, true), []⟩,
  ⟨some 50, .fieldA 0 (.t 49), some (46, true), []⟩,
  ⟨some 51, .load false 1 (.t 50), some (46, true), []⟩,
  ⟨some 52, .toInt .i32 (.t 51), some (46, true), []⟩,
  ⟨some 53, .bin .geq (.t 47) (.t 52), some (46, true), []⟩,
  ⟨some 54, .pick (.t 46) (.t 53) (.c (.bool false)), none, []⟩]) (.cond (.t 54) (.seq (.reg false [
  ⟨some 55, .mv (.t 7), none, []⟩,
  ⟨some 56, .mv (.t 1), none, []⟩,
  ⟨some 57, .toInt .u32 (.t 56), none, []⟩,
  ⟨some 58, .callP false (.f 246) [(.t 55), (.t 57)], none, []⟩,
  ⟨some 4, .mv (.t 58), none, []⟩]) (.ret)) (.skip))) (.seq (.reg false [
  ⟨some 4, .mv (.c (.bool false)), none, []⟩]) (.ret)))))))⟩
def h240 : Hint := { cb := [3], ps := [], cp := [], cs := [], ap := [] }
def c240 : AF := ⟨3, 11, [.tmp 4],
 (.seq (.reg false [
  ⟨some 3, .boxc (.t 0), none, []⟩,
  ⟨some 4, .mv (.c (.bool false)), none, []⟩]) (.seq (.reg false [
  ⟨some 5, .load false 1 (.t 1), none, []⟩,
  ⟨some 6, .load true 6 (.t 3), none, []⟩,
  ⟨some 7, .load false 1 (.t 2), none, []⟩,
  ⟨some 8, .bin .add (.t 7) (.c (.int .i64 1)), none, []⟩,
  ⟨some 9, .call (.f 224) [(.t 5), (.t 6), (.t 8)], none, []⟩,
  ⟨some 10, .un .not (.t 9), none, []⟩,
  ⟨some 4, .mv (.t 10), none, []⟩]) (.ret)))⟩
def h241 : Hint := { cb := [1], ps := [], cp := [65, 57, 46, 39, 15, 10], cs := [], ap := [] }
def c241 : AF := ⟨1, 78, [.tmp 2],
 (.seq (.reg false [
  ⟨some 1, .boxc (.t 0), none, []⟩,
  ⟨some 2, .mv (.c (.int .i64 0)), none, []⟩]) (.seq (.seq (.reg false [
  ⟨some 8, .fieldA 0 (.t 1), none, []⟩,
  ⟨some 9, .load false 1 (.t 8), none, []⟩,
  ⟨some 10, .callP false (.f 212) [(.t 9), (.c (.int .i64 0)), (.c (.int .i64 6))], none, []⟩,
  ⟨some 11, .un .not (.t 10), none, []⟩,
  ⟨some 12, .mv (.t 11), none, []⟩,
  ⟨some 13, .fieldA 1 (.t 1), some (12, false), []⟩,
  ⟨some 14, .load false 1 (.t 13), some (12, false), []⟩,
  ⟨some 15, .callP false (.f 212) [(.t 14), (.c (.int .i64 0)), (.c (.int .i64 999999999))], some (12, false), []⟩,
  ⟨some 16, .un .not (.t 15), some (12, false), []⟩,
  ⟨some 17, .pick (.t 12) (.c (.bool true)) (.t 16), none, []⟩,
  ⟨some 18, .mv (.t 17), none, []⟩,
  ⟨some 19, .fieldA 0 (.t 1), some (18, false), []⟩,
  ⟨some 20, .load false 1 (.t 19), some (18, false), []⟩,
  ⟨some 21, .bin .neq (.t 20) (.c (.int .i64 0)), some (18, false), []⟩,
  ⟨some 22, .mv (.t 21), some (18, false), []⟩,
  ⟨some 23, .fieldA 1 (.t 1), some (22, true), []⟩,
  ⟨some 24, .load false 1 (.t 23), some (22, true), []⟩,
  ⟨some 25, .bin .gtr (.t 24) (.c (.int .i64 0)), some (22, true), []⟩,
  ⟨some 26, .pick (.t 22) (.t 25) (.c (.bool false)), some (18, false), []⟩,
  ⟨some 27, .pick (.t 18) (.c (.bool true)) (.t 26), none, []⟩]) (.cond (.t 27) (.seq (.reg false [
  ⟨some 2, .mv (.c (.int .i64 1)), none, []⟩]) (.ret)) (.skip))) (.seq (.reg false [
  ⟨some 3, .mv (.c (.int .i64 0)), none, []⟩,
  ⟨some 4, .mv (.c (.int .i64 0)), none, []⟩,
  ⟨some 5, .mv (.c (.int .i64 0)), none, []⟩]) (.seq (.seq (.reg false [
  ⟨some 28, .fieldA 0 (.t 1), none, []⟩,
  ⟨some 29, .load false 1 (.t 28), none, []⟩]) (.block 0 (.seq (.reg false [
  ⟨some 31, .bin .eql (.t 29) (.c (.int .i64 1)), none, []⟩,
  ⟨some 30, .mv (.t 31), none, []⟩]) (.cond (.t 30) (.reg false [
  ⟨some 3, .mv (.c (.int .i64 1)), none, []⟩]) (.seq (.reg false [
  ⟨some 33, .bin .eql (.t 29) (.c (.int .i64 6)), none, []⟩,
  ⟨some 32, .mv (.t 33), none, []⟩]) (.cond (.t 32) (.reg false [
  ⟨some 3, .mv (.c (.int .i64 2)), none, []⟩,
  ⟨some 5, .mv (.c (.int .i64 4)), none, []⟩]) (.seq (.reg false [
  ⟨some 35, .bin .eql (.t 29) (.c (.int .i64 5)), none, []⟩,
  ⟨some 34, .mv (.t 35), none, []⟩]) (.cond (.t 34) (.reg false [
  ⟨some 4, .mv (.c (.int .i64 2)), none, []⟩,
  ⟨some 5, .mv (.c (.int .i64 2)), none, []⟩]) (.skip))))))))) (.seq (.reg false [
  ⟨some 37, .fieldA 2 (.t 1), none, []⟩,
  ⟨some 38, .load false 1 (.t 37), none, []⟩,
  ⟨some 39, .callP false (.f 249) [(.t 38)], none, []⟩,
  ⟨some 36, .mv (.t 39), none, []⟩,
  ⟨some 40, .extract (.t 36) 0, none, []⟩,
  ⟨some 41, .extract (.t 36) 1, none, []⟩,
  ⟨some 6, .mv (.t 40), none, []⟩,
  ⟨some 7, .mv (.t 41), none, []⟩]) (.seq (.block 1 (.seq (.reg false [
  ⟨some 43, .fieldA 2 (.t 1), none, []⟩,
  ⟨some 44, .load false 1 (.t 43), none, []⟩,
  ⟨some 45, .mv (.t 3), none, []⟩,
  ⟨some 46, .callP false (.f 149) [(.t 44), (.t 45)], none, []⟩,
  ⟨some 47, .un .not (.t 46), none, []⟩,
  ⟨some 48, .mv (.t 47), none, []⟩,
  ⟨some 49, .mv (.t 7), some (48, false), []⟩,
  ⟨some 50, .pick (.t 48) (.c (.bool true)) (.t 49), none, []⟩,
  ⟨some 42, .mv (.t 50), none, []⟩]) (.cond (.t 42) (.seq (.reg false [
  ⟨some 2, .mv (.c (.int .i64 4)), none, []⟩]) (.ret)) (.seq (.reg false [
  ⟨some 52, .fieldA 3 (.t 1), none, []⟩,
  ⟨some 53, .load false 1 (.t 52), none, []⟩,
  ⟨some 54, .lenS (.t 53), none, []⟩,
  ⟨some 55, .mv (.t 4), none, []⟩,
  ⟨some 56, .mv (.t 5), none, []⟩,
  ⟨some 57, .callP false (.f 212) [(.t 54), (.t 55), (.t 56)], none, []⟩,
  ⟨some 58, .un .not (.t 57), none, []⟩,
  ⟨some 51, .mv (.t 58), none, []⟩]) (.cond (.t 51) (.seq (.reg false [
  ⟨some 2, .mv (.c (.int .i64 7)), none, []⟩]) (.ret)) (.seq (.reg false [
  ⟨some 60, .fieldA 0 (.t 1), none, []⟩,
  ⟨some 61, .load false 1 (.t 60), none, []⟩,
  ⟨some 62, .bin .eql (.t 61) (.c (.int .i64 5)), none, []⟩,
  ⟨some 59, .mv (.t 62), none, []⟩]) (.cond (.t 59) (.seq (.reg false [
  ⟨some 63, .fieldA 4 (.t 1), none, []⟩,
  ⟨some 64, .load true 2 (.t 63), none, []⟩,
  ⟨some 65, .callP false (.f 250) [(.t 64)], none, []⟩,
  ⟨some 2, .mv (.t 65), none, []⟩]) (.ret)) (.seq (.reg false [
  ⟨some 67, .fieldA 4 (.t 1), none, []⟩,
  ⟨some 68, .fieldA 0 (.t 67), none, []⟩,
  ⟨some 69, .load false 1 (.t 68), none, []⟩,
  ⟨some 70, .lenS (.t 69), none, []⟩,
  ⟨some 71, .bin .gtr (.t 70) (.c (.int .i64 0)), none, []⟩,
  ⟨some 72, .mv (.t 71), none, []⟩,
  ⟨some 73, .fieldA 4 (.t 1), some (72, false), []⟩,
  ⟨some 74, .fieldA 1 (.t 73), some (72, false), []⟩,
  ⟨some 75, .load false 1 (.t 74), some (72, false), []⟩,
  ⟨some 76, .bin .neq (.t 75) (.c (.int .i64 0)), some (72, false), []⟩,
  ⟨some 77, .pick (.t 72) (.c (.bool true)) (.t 76), none, []⟩,
  ⟨some 66, .mv (.t 77), none, []⟩]) (.cond (.t 66) (.seq (.reg false [
  ⟨some 2, .mv (.c (.int .i64 1)), none, []⟩]) (.ret)) (.skip)))))))))) (.seq (.reg false [
  ⟨some 2, .mv (.c (.int .i64 0)), none, []⟩]) (.ret))))))))⟩
def h242 : Hint := { cb := [], ps := [], cp := [], cs := [], ap := [] }
def c242 : AF := ⟨2, 19, [.tmp 4],
 (.seq (.reg false [
  ⟨some 4, .mv (.c (.int .i64 0)), none, []⟩]) (.seq (.seq (.reg false [
  ⟨some 6, .mv (.t 0), none, []⟩,
  ⟨some 7, .lenS (.t 6), none, []⟩,
  ⟨some 8, .mv (.c (.int .i64 0)), none, []⟩]) (.block 0 (.loop (.seq (.reg false [
  ⟨some 9, .bin .lss (.t 8) (.t 7), none, []⟩]) (.seq (.cond (.t 9) (.skip) (.exit 0)) (.seq (.block 1 (.seq (.reg false [
  ⟨some 10, .mv (.t 8), none, []⟩,
  ⟨some 5, .mv (.t 10), none, []⟩]) (.seq (.reg false [
  ⟨some 11, .mv (.t 1), none, []⟩,
  ⟨some 12, .mv (.t 0), none, []⟩,
  ⟨some 13, .mv (.t 5), none, []⟩,
  ⟨some 14, .idxS 2 (.t 12) (.t 13), none, []⟩,
  ⟨some 15, .load true 2 (.t 14), none, []⟩,
  ⟨some 16, .call (.t 11) [(.t 15)], none, []⟩]) (.cond (.t 16) (.seq (.reg false [
  ⟨some 17, .mv (.t 5), none, []⟩,
  ⟨some 4, .mv (.t 17), none, []⟩]) (.ret)) (.skip))))) (.reg false [
  ⟨some 18, .bin .add (.t 8) (.c (.int .i64 1)), none, []⟩,
  ⟨some 8, .mv (.t 18), none, []⟩]))))))) (.seq (.reg false [
  ⟨some 4, .mv (.c (.int .i64 (-1))), none, []⟩]) (.ret))))⟩
def h243 : Hint := { cb := [], ps := [], cp := [], cs := [], ap := [] }
def c243 : AF := ⟨2, 19, [.tmp 4],
 (.seq (.reg false [
  ⟨some 4, .mv (.c (.int .i64 0)), none, []⟩]) (.seq (.seq (.reg false [
  ⟨some 6, .mv (.t 0), none, []⟩,
  ⟨some 7, .lenS (.t 6), none, []⟩,
  ⟨some 8, .mv (.c (.int .i64 0)), none, []⟩]) (.block 0 (.loop (.seq (.reg false [
  ⟨some 9, .bin .lss (.t 8) (.t 7), none, []⟩]) (.seq (.cond (.t 9) (.skip) (.exit 0)) (.seq (.block 1 (.seq (.reg false [
  ⟨some 10, .mv (.t 8), none, []⟩,
  ⟨some 5, .mv (.t 10), none, []⟩]) (.seq (.reg false [
  ⟨some 11, .mv (.t 1), none, []⟩,
  ⟨some 12, .mv (.t 0), none, []⟩,
  ⟨some 13, .mv (.t 5), none, []⟩,
  ⟨some 14, .idxS 6 (.t 12) (.t 13), none, []⟩,
  ⟨some 15, .load true 6 (.t 14), none, []⟩,
  ⟨some 16, .call (.t 11) [(.t 15)], none, []⟩]) (.cond (.t 16) (.seq (.reg false [
  ⟨some 17, .mv (.t 5), none, []⟩,
  ⟨some 4, .mv (.t 17), none, []⟩]) (.ret)) (.skip))))) (.reg false [
  ⟨some 18, .bin .add (.t 8) (.c (.int .i64 1)), none, []⟩,
  ⟨some 8, .mv (.t 18), none, []⟩]))))))) (.seq (.reg false [
  ⟨some 4, .mv (.c (.int .i64 (-1))), none, []⟩]) (.ret))))⟩
def h244 : Hint := { cb := [], ps := [], cp := [], cs := [], ap := [] }
def c244 : AF := ⟨2, 19, [.tmp 4],
 (.seq (.reg false [
  ⟨some 4, .mv (.c (.int .i64 0)), none, []⟩]) (.seq (.seq (.reg false [
  ⟨some 6, .mv (.t 0), none, []⟩,
  ⟨some 7, .lenS (.t 6), none, []⟩,
  ⟨some 8, .mv (.c (.int .i64 0)), none, []⟩]) (.block 0 (.loop (.seq (.reg false [
  ⟨some 9, .bin .lss (.t 8) (.t 7), none, []⟩]) (.seq (.cond (.t 9) (.skip) (.exit 0)) (.seq (.block 1 (.seq (.reg false [
  ⟨some 10, .mv (.t 8), none, []⟩,
  ⟨some 5, .mv (.t 10), none, []⟩]) (.seq (.reg false [
  ⟨some 11, .mv (.t 1), none, []⟩,
  ⟨some 12, .mv (.t 0), none, []⟩,
  ⟨some 13, .mv (.t 5), none, []⟩,
  ⟨some 14, .idxS 9 (.t 12) (.t 13), none, []⟩,
  ⟨some 15, .load true 9 (.t 14), none, []⟩,
  ⟨some 16, .call (.t 11) [(.t 15)], none, []⟩]) (.cond (.t 16) (.seq (.reg false [
  ⟨some 17, .mv (.t 5), none, []⟩,
  ⟨some 4, .mv (.t 17), none, []⟩]) (.ret)) (.skip))))) (.reg false [
  ⟨some 18, .bin .add (.t 8) (.c (.int .i64 1)), none, []⟩,
  ⟨some 8, .mv (.t 18), none, []⟩]))))))) (.seq (.reg false [
  ⟨some 4, .mv (.c (.int .i64 (-1))), none, []⟩]) (.ret))))⟩
def h245 : Hint := { cb := [], ps := [], cp := [], cs := [], ap := [] }
def c245 : AF := ⟨2, 114, [.tmp 4],
 (.seq (.reg false [
  ⟨some 4, .mv (.c (.bool false)), none, []⟩]) (.seq (.seq (.reg false [
  ⟨some 11, .mv (.t 0), none, []⟩,
  ⟨some 12, .lenS (.t 11), none, []⟩,
  ⟨some 13, .bin .leq (.t 12) (.c (.int .i64 18)), none, []⟩,
  ⟨some 14, .mv (.t 13), none, []⟩,
  ⟨some 15, .mv (.t 1), some (14, false), []⟩,
  ⟨some 16, .bin .leq (.t 15) (.c (.int .u16 255)), some (14, false), []⟩,
  ⟨some 17, .pick (.t 14) (.c (.bool true)) (.t 16), none, []⟩]) (.cond (.t 17) (.seq (.seq (.reg false [
  ⟨some 18, .mv (.t 0), none, []⟩,
  ⟨some 19, .lenS (.t 18), none, []⟩,
  ⟨some 20, .mv (.c (.int .i64 0)), none, []⟩]) (.block 0 (.loop (.seq (.reg false [
  ⟨some 21, .bin .lss (.t 20) (.t 19), none, []⟩]) (.seq (.cond (.t 21) (.skip) (.exit 0)) (.seq (.block 1 (.seq (.reg false [
  ⟨some 22, .mv (.t 20), none, []⟩,
  ⟨some 5, .mv (.t 22), none, []⟩]) (.seq (.reg false [
  ⟨some 23, .mv (.t 0), none, []⟩,
  ⟨some 24, .mv (.t 5), none, []⟩,
  ⟨some 25, .idxS 3 (.t 23) (.t 24), none, []⟩,
  ⟨some 6, .mv (.t 25), none, []⟩]) (.seq (.seq (.reg false [
  ⟨some 26, .mv (.t 1), none, []⟩,
  ⟨some 27, .mv (.t 6), none, []⟩,
  ⟨some 28, .nilchk (.t 27), none, []⟩,
  ⟨some 29, .fieldA 0 (.t 28), none, []⟩,
  ⟨some 30, .load false 1 (.t 29), none, []⟩,
  ⟨some 31, .bin .lss (.t 26) (.t 30), none, []⟩]) (.cond (.t 31) (.seq (.reg false [
  ⟨some 4, .mv (.c (.bool false)), none, []⟩]) (.ret)) (.skip))) (.seq (.reg false [
  ⟨some 32, .mv (.t 1), none, []⟩,
  ⟨some 33, .mv (.t 6), none, []⟩,
  ⟨some 34, .nilchk (.t 33), none, []⟩,
  ⟨some 35, .fieldA 1 (.t 34), none, []⟩,
  ⟨some 36, .load false 1 (.t 35), none, []⟩,
  ⟨some 37, .bin .leq (.t 32) (.t 36), none, []⟩]) (.cond (.t 37) (.seq (.reg true [
  ⟨some 38, .mv (.t 6), none, []⟩,
  ⟨some 39, .nilchk (.t 38), none, [0]⟩,
  ⟨some 40, .fieldA 2 (.t 39), none, [1, 0]⟩,
  ⟨some 41, .load false 1 (.t 40), none, [2, 1, 0]⟩,
  ⟨some 42, .bin .eql (.t 41) (.c (.int .u16 1)), none, [3, 2, 1, 0]⟩,
  ⟨some 43, .mv (.t 42), none, [4, 3, 2, 1, 0]⟩,
  ⟨some 44, .mv (.t 1), some (43, false), [5, 4, 3, 2, 1, 0]⟩,
  ⟨some 45, .mv (.t 6), some (43, false), [5, 4, 3, 2, 1, 0]⟩,
  ⟨some 46, .nilchk (.t 45), some (43, false), [7, 5, 4, 3, 2, 1, 0]⟩,
  ⟨some 47, .fieldA 0 (.t 46), some (43, false), [8, 7, 5, 4, 3, 2, 1, 0]⟩,
  ⟨some 48, .load false 1 (.t 47), some (43, false), [9, 8, 7, 5, 4, 3, 2, 1, 0]⟩,
  ⟨some 49, .bin .sub (.t 44) (.t 48), some (43, false), [6, 5, 4, 3, 2, 1, 0, 10, 9, 8, 7]⟩,
  ⟨some 50, .mv (.t 6), some (43, false), [5, 4, 3, 2, 1, 0]⟩,
  ⟨some 51, .nilchk (.t 50), some (43, false), [12, 5, 4, 3, 2, 1, 0]⟩,
  ⟨some 52, .fieldA 2 (.t 51), some (43, false), [13, 12, 5, 4, 3, 2, 1, 0]⟩,
  ⟨some 53, .load false 1 (.t 52), some (43, false), [14, 13, 12, 5, 4, 3, 2, 1, 0]⟩,
  ⟨some 54, .bin .rem (.t 49) (.t 53), some (43, false), [11, 6, 5, 4, 3, 2, 1, 0, 10, 9, 8, 7, 15, 14, 13, 12]⟩,
  ⟨some 55, .bin .eql (.t 54) (.c (.int .u16 0)), some (43, false), [16, 11, 6, 5, 4, 3, 2, 1, 0, 10, 9, 8, 7, 15, 14, 13, 12]⟩,
  ⟨some 56, .pick (.t 43) (.c (.bool true)) (.t 55), none, [5, 4, 3, 2, 1, 0, 17, 16, 11, 6, 10, 9, 8, 7, 15, 14, 13, 12]⟩,
  ⟨some 4, .mv (.t 56), none, [18, 5, 4, 3, 2, 1, 0, 17, 16, 11, 6, 10, 9, 8, 7, 15, 14, 13, 12]⟩]) (.ret)) (.skip))))))) (.reg false [
  ⟨some 57, .bin .add (.t 20) (.c (.int .i64 1)), none, []⟩,
  ⟨some 20, .mv (.t 57), none, []⟩]))))))) (.seq (.reg false [
  ⟨some 4, .mv (.c (.bool false)), none, []⟩]) (.ret))) (.skip))) (.seq (.reg false [
  ⟨some 7, .mv (.c (.int .i64 0)), none, []⟩]) (.seq (.reg false [
  ⟨some 58, .mv (.t 0), none, []⟩,
  ⟨some 59, .lenS (.t 58), none, []⟩,
  ⟨some 8, .mv (.t 59), none, []⟩]) (.seq (.block 2 (.loop (.seq (.seq (.reg false [
  ⟨some 60, .mv (.t 7), none, []⟩,
  ⟨some 61, .mv (.t 8), none, []⟩,
  ⟨some 62, .bin .lss (.t 60) (.t 61), none, []⟩]) (.cond (.t 62) (.skip) (.exit 2))) (.block 3 (.seq (.reg false [
  ⟨some 63, .mv (.t 7), none, []⟩,
  ⟨some 64, .mv (.t 8), none, []⟩,
  ⟨some 65, .bin .add (.t 63) (.t 64), none, []⟩,
  ⟨some 66, .toInt .u64 (.t 65), none, []⟩,
  ⟨some 67, .bin .shr (.t 66) (.c (.int .u64 1)), none, []⟩,
  ⟨some 68, .toInt .i64 (.t 67), none, []⟩,
  ⟨some 9, .mv (.t 68), none, []⟩]) (.seq (.reg false [
  ⟨some 69, .mv (.t 0), none, []⟩,
  ⟨some 70, .mv (.t 9), none, []⟩,
  ⟨some 71, .idxS 3 (.t 69) (.t 70), none, []⟩,
  ⟨some 10, .mv (.t 71), none, []⟩]) (.seq (.seq (.reg false [
  ⟨some 72, .mv (.t 10), none, []⟩,
  ⟨some 73, .nilchk (.t 72), none, []⟩,
  ⟨some 74, .fieldA 0 (.t 73), none, []⟩,
  ⟨some 75, .load false 1 (.t 74), none, []⟩,
  ⟨some 76, .mv (.t 1), none, []⟩,
  ⟨some 77, .bin .leq (.t 75) (.t 76), none, []⟩,
  ⟨some 78, .mv (.t 77), none, []⟩,
  ⟨some 79, .mv (.t 1), some (78, true), []⟩,
  ⟨some 80, .mv (.t 10), some (78, true), []⟩,
  ⟨some 81, .nilchk (.t 80), some (78, true), []⟩,
  ⟨some 82, .fieldA 1 (.t 81), some (78, true), []⟩,
  ⟨some 83, .load false 1 (.t 82), some (78, true), []⟩,
  ⟨some 84, .bin .leq (.t 79) (.t 83), some (78, true), []⟩,
  ⟨some 85, .pick (.t 78) (.t 84) (.c (.bool false)), none, []⟩]) (.cond (.t 85) (.seq (.reg true [
  ⟨some 86, .mv (.t 10), none, []⟩,
  ⟨some 87, .nilchk (.t 86), none, [0]⟩,
  ⟨some 88, .fieldA 2 (.t 87), none, [1, 0]⟩,
  ⟨some 89, .load false 1 (.t 88), none, [2, 1, 0]⟩,
  ⟨some 90, .bin .eql (.t 89) (.c (.int .u16 1)), none, [3, 2, 1, 0]⟩,
  ⟨some 91, .mv (.t 90), none, [4, 3, 2, 1, 0]⟩,
  ⟨some 92, .mv (.t 1), some (91, false), [5, 4, 3, 2, 1, 0]⟩,
  ⟨some 93, .mv (.t 10), some (91, false), [5, 4, 3, 2, 1, 0]⟩,
  ⟨some 94, .nilchk (.t 93), some (91, false), [7, 5, 4, 3, 2, 1, 0]⟩,
  ⟨some 95, .fieldA 0 (.t 94), some (91, false), [8, 7, 5, 4, 3, 2, 1, 0]⟩,
  ⟨some 96, .load false 1 (.t 95), some (91, false), [9, 8, 7, 5, 4, 3, 2, 1, 0]⟩,
  ⟨some 97, .bin .sub (.t 92) (.t 96), some (91, false), [6, 5, 4, 3, 2, 1, 0, 10, 9, 8, 7]⟩,
  ⟨some 98, .mv (.t 10), some (91, false), [5, 4, 3, 2, 1, 0]⟩,
  ⟨some 99, .nilchk (.t 98), some (91, false), [12, 5, 4, 3, 2, 1, 0]⟩,
  ⟨some 100, .fieldA 2 (.t 99), some (91, false), [13, 12, 5, 4, 3, 2, 1, 0]⟩,
  ⟨some 101, .load false 1 (.t 100), some (91, false), [14, 13, 12, 5, 4, 3, 2, 1, 0]⟩,
  ⟨some 102, .bin .rem (.t 97) (.t 101), some (91, false), [11, 6, 5, 4, 3, 2, 1, 0, 10, 9, 8, 7, 15, 14, 13, 12]⟩,
  ⟨some 103, .bin .eql (.t 102) (.c (.int .u16 0)), some (91, false), [16, 11, 6, 5, 4, 3, 2, 1, 0, 10, 9, 8, 7, 15, 14, 13, 12]⟩,
  ⟨some 104, .pick (.t 91) (.c (.bool true)) (.t 103), none, [5, 4, 3, 2, 1, 0, 17, 16, 11, 6, 10, 9, 8, 7, 15, 14, 13, 12]⟩,
  ⟨some 4, .mv (.t 104), none, [18, 5, 4, 3, 2, 1, 0, 17, 16, 11, 6, 10, 9, 8, 7, 15, 14, 13, 12]⟩]) (.ret)) (.skip))) (.seq (.reg false [
  ⟨some 105, .mv (.t 1), none, []⟩,
  ⟨some 106, .mv (.t 10), none, []⟩,
  ⟨some 107, .nilchk (.t 106), none, []⟩,
  ⟨some 108, .fieldA 0 (.t 107), none, []⟩,
  ⟨some 109, .load false 1 (.t 108), none, []⟩,
  ⟨some 110, .bin .lss (.t 105) (.t 109), none, []⟩]) (.cond (.t 110) (.reg false [
  ⟨some 111, .mv (.t 9), none, []⟩,
  ⟨some 8, .mv (.t 111), none, []⟩]) (.reg false [
  ⟨some 112, .mv (.t 9), none, []⟩,
  ⟨some 113, .bin .add (.t 112) (.c (.int .i64 1)), none, []⟩,
  ⟨some 7, .mv (.t 113), none, []⟩])))))))))) (.seq (.reg false [
  ⟨some 4, .mv (.c (.bool false)), none, []⟩]) (.ret)))))))⟩
def h246 : Hint := { cb := [], ps := [10], cp := [], cs := [], ap := [] }
def c246 : AF := ⟨2, 99, [.tmp 4],
 (.seq (.reg false [
  ⟨some 4, .mv (.c (.bool false)), none, []⟩]) (.seq (.seq (.reg false [
  ⟨some 11, .mv (.t 0), none, []⟩,
  ⟨some 12, .lenS (.t 11), none, []⟩,
  ⟨some 13, .bin .leq (.t 12) (.c (.int .i64 18)), none, []⟩]) (.cond (.t 13) (.seq (.seq (.reg false [
  ⟨some 14, .mv (.t 0), none, []⟩,
  ⟨some 15, .lenS (.t 14), none, []⟩,
  ⟨some 16, .mv (.c (.int .i64 0)), none, []⟩]) (.block 0 (.loop (.seq (.reg false [
  ⟨some 17, .bin .lss (.t 16) (.t 15), none, []⟩]) (.seq (.cond (.t 17) (.skip) (.exit 0)) (.seq (.block 1 (.seq (.reg false [
  ⟨some 18, .mv (.t 16), none, []⟩,
  ⟨some 5, .mv (.t 18), none, []⟩]) (.seq (.reg false [
  ⟨some 19, .mv (.t 0), none, []⟩,
  ⟨some 20, .mv (.t 5), none, []⟩,
  ⟨some 21, .idxS 3 (.t 19) (.t 20), none, []⟩,
  ⟨some 6, .mv (.t 21), none, []⟩]) (.seq (.seq (.reg false [
  ⟨some 22, .mv (.t 1), none, []⟩,
  ⟨some 23, .mv (.t 6), none, []⟩,
  ⟨some 24, .nilchk (.t 23), none, []⟩,
  ⟨some 25, .fieldA 0 (.t 24), none, []⟩,
  ⟨some 26, .load false 1 (.t 25), none, []⟩,
  ⟨some 27, .bin .lss (.t 22) (.t 26), none, []⟩]) (.cond (.t 27) (.seq (.reg false [
  ⟨some 4, .mv (.c (.bool false)), none, []⟩]) (.ret)) (.skip))) (.seq (.reg false [
  ⟨some 28, .mv (.t 1), none, []⟩,
  ⟨some 29, .mv (.t 6), none, []⟩,
  ⟨some 30, .nilchk (.t 29), none, []⟩,
  ⟨some 31, .fieldA 1 (.t 30), none, []⟩,
  ⟨some 32, .load false 1 (.t 31), none, []⟩,
  ⟨some 33, .bin .leq (.t 28) (.t 32), none, []⟩]) (.cond (.t 33) (.seq (.reg true [
  ⟨some 34, .mv (.t 6), none, []⟩,
  ⟨some 35, .nilchk (.t 34), none, [0]⟩,
  ⟨some 36, .fieldA 2 (.t 35), none, [1, 0]⟩,
  ⟨some 37, .load false 1 (.t 36), none, [2, 1, 0]⟩,
  ⟨some 38, .bin .eql (.t 37) (.c (.int .u32 1)), none, [3, 2, 1, 0]⟩,
  ⟨some 39, .mv (.t 38), none, [4, 3, 2, 1, 0]⟩,
  ⟨some 40, .mv (.t 1), some (39, false), [5, 4, 3, 2, 1, 0]⟩,
  ⟨some 41, .mv (.t 6), some (39, false), [5, 4, 3, 2, 1, 0]⟩,
  ⟨some 42, .nilchk (.t 41), some (39, false), [7, 5, 4, 3, 2, 1, 0]⟩,
  ⟨some 43, .fieldA 0 (.t 42), some (39, false), [8, 7, 5, 4, 3, 2, 1, 0]⟩,
  ⟨some 44, .load false 1 (.t 43), some (39, false), [9, 8, 7, 5, 4, 3, 2, 1, 0]⟩,
  ⟨some 45, .bin .sub (.t 40) (.t 44), some (39, false), [6, 5, 4, 3, 2, 1, 0, 10, 9, 8, 7]⟩,
  ⟨some 46, .mv (.t 6), some (39, false), [5, 4, 3, 2, 1, 0]⟩,
  ⟨some 47, .nilchk (.t 46), some (39, false), [12, 5, 4, 3, 2, 1, 0]⟩,
  ⟨some 48, .fieldA 2 (.t 47), some (39, false), [13, 12, 5, 4, 3, 2, 1, 0]⟩,
  ⟨some 49, .load false 1 (.t 48), some (39, false), [14, 13, 12, 5, 4, 3, 2, 1, 0]⟩,
  ⟨some 50, .bin .rem (.t 45) (.t 49), some (39, false), [11, 6, 5, 4, 3, 2, 1, 0, 10, 9, 8, 7, 15, 14, 13, 12]⟩,
  ⟨some 51, .bin .eql (.t 50) (.c (.int .u32 0)), some (39, false), [16, 11, 6, 5, 4, 3, 2, 1, 0, 10, 9, 8, 7, 15, 14, 13, 12]⟩,
  ⟨some 52, .pick (.t 39) (.c (.bool true)) (.t 51), none, [5, 4, 3, 2, 1, 0, 17, 16, 11, 6, 10, 9, 8, 7, 15, 14, 13, 12]⟩,
  ⟨some 4, .mv (.t 52), none, [18, 5, 4, 3, 2, 1, 0, 17, 16, 11, 6, 10, 9, 8, 7, 15, 14, 13, 12]⟩]) (.ret)) (.skip))))))) (.reg false [
  ⟨some 53, .bin .add (.t 16) (.c (.int .i64 1)), none, []⟩,
  ⟨some 16, .mv (.t 53), none, []⟩]))))))) (.seq (.reg false [
  ⟨some 4, .mv (.c (.bool false)), none, []⟩]) (.ret))) (.skip))) (.seq (.reg false [
  ⟨some 7, .mv (.c (.int .i64 0)), none, []⟩]) (.seq (.reg false [
  ⟨some 54, .mv (.t 0), none, []⟩,
  ⟨some 55, .lenS (.t 54), none, []⟩,
  ⟨some 8, .mv (.t 55), none, []⟩]) (.seq (.block 2 (.loop (.seq (.seq (.reg false [
  ⟨some 56, .mv (.t 7), none, []⟩,
  ⟨some 57, .mv (.t 8), none, []⟩,
  ⟨some 58, .bin .lss (.t 56) (.t 57), none, []⟩]) (.cond (.t 58) (.skip) (.exit 2))) (.block 3 (.seq (.reg false [
  ⟨some 59, .mv (.t 7), none, []⟩,
  ⟨some 60, .mv (.t 8), none, []⟩,
  ⟨some 61, .bin .add (.t 59) (.t 60), none, []⟩,
  ⟨some 62, .toInt .u64 (.t 61), none, []⟩,
  ⟨some 63, .bin .shr (.t 62) (.c (.int .u64 1)), none, []⟩,
  ⟨some 64, .toInt .i64 (.t 63), none, []⟩,
  ⟨some 9, .mv (.t 64), none, []⟩]) (.seq (.reg false [
  ⟨some 65, .mv (.t 0), none, []⟩,
  ⟨some 66, .mv (.t 9), none, []⟩,
  ⟨some 67, .idxS 3 (.t 65) (.t 66), none, []⟩,
  ⟨some 68, .load true 3 (.t 67), none, []⟩,
  ⟨some 10, .pend [(.int .u32 0), (.int .u32 0), (.int .u32 0)], none, []⟩,
  ⟨none, .shut 10 3 (.t 68), none, []⟩]) (.seq (.seq (.reg false [
  ⟨some 69, .fieldA 0 (.t 10), none, []⟩,
  ⟨some 70, .load false 1 (.t 69), none, []⟩,
  ⟨some 71, .mv (.t 1), none, []⟩,
  ⟨some 72, .bin .leq (.t 70) (.t 71), none, []⟩,
  ⟨some 73, .mv (.t 72), none, []⟩,
  ⟨some 74, .mv (.t 1), some (73, true), []⟩,
  ⟨some 75, .fieldA 1 (.t 10), some (73, true), []⟩,
  ⟨some 76, .load false 1 (.t 75), some (73, true), []⟩,
  ⟨some 77, .bin .leq (.t 74) (.t 76), some (73, true), []⟩,
  ⟨some 78, .pick (.t 73) (.t 77) (.c (.bool false)), none, []⟩]) (.cond (.t 78) (.seq (.reg false [
  ⟨some 79, .fieldA 2 (.t 10), none, []⟩,
  ⟨some 80, .load false 1 (.t 79), none, []⟩,
  ⟨some 81, .bin .eql (.t 80) (.c (.int .u32 1)), none, []⟩,
  ⟨some 82, .mv (.t 81), none, []⟩,
  ⟨some 83, .mv (.t 1), some (82, false), []⟩,
  ⟨some 84, .fieldA 0 (.t 10), some (82, false), []⟩,
  ⟨some 85, .load false 1 (.t 84), some (82, false), []⟩,
  ⟨some 86, .bin .sub (.t 83) (.t 85), some (82, false), []⟩,
  ⟨some 87, .fieldA 2 (.t 10), some (82, false), []⟩,
  ⟨some 88, .load false 1 (.t 87), some (82, false), []⟩,
  ⟨some 89, .bin .rem (.t 86) (.t 88), some (82, false), []⟩,
  ⟨some 90, .bin .eql (.t 89) (.c (.int .u32 0)), some (82, false), []⟩,
  ⟨some 91, .pick (.t 82) (.c (.bool true)) (.t 90), none, []⟩,
  ⟨some 4, .mv (.t 91), none, []⟩]) (.ret)) (.skip))) (.seq (.reg false [
  ⟨some 92, .mv (.t 1), none, []⟩,
  ⟨some 93, .fieldA 0 (.t 10), none, []⟩,
  ⟨some 94, .load false 1 (.t 93), none, []⟩,
  ⟨some 95, .bin .lss (.t 92) (.t 94), none, []⟩]) (.cond (.t 95) (.reg false [
  ⟨some 96, .mv (.t 9), none, []⟩,
  ⟨some 8, .mv (.t 96), none, []⟩]) (.reg false [
  ⟨some 97, .mv (.t 9), none, []⟩,
  ⟨some 98, .bin .add (.t 97) (.c (.int .i64 1)), none, []⟩,
  ⟨some 7, .mv (.t 98), none, []⟩])))))))))) (.seq (.reg false [
  ⟨some 4, .mv (.c (.bool false)), none, []⟩]) (.ret)))))))⟩
def h249 : Hint := { cb := [], ps := [], cp := [], cs := [], ap := [] }
def c249 : AF := ⟨1, 11, [.tmp 2, .tmp 3],
 (.seq (.reg false [
  ⟨some 2, .mv (.c (.int .i64 0)), none, []⟩,
  ⟨some 3, .mv (.c (.bool false)), none, []⟩]) (.seq (.seq (.reg false [
  ⟨some 4, .mv (.t 0), none, []⟩]) (.block 0 (.seq (.reg false [
  ⟨some 6, .bin .eql (.t 4) (.c (.str [73, 110, 116])), none, []⟩,
  ⟨some 5, .mv (.t 6), none, []⟩]) (.cond (.t 5) (.seq (.reg false [
  ⟨some 2, .mv (.c (.int .i64 2)), none, []⟩,
  ⟨some 3, .mv (.c (.bool true)), none, []⟩]) (.ret)) (.seq (.reg false [
  ⟨some 8, .bin .eql (.t 4) (.c (.str [66, 111, 111, 108])), none, []⟩,
  ⟨some 7, .mv (.t 8), none, []⟩]) (.cond (.t 7) (.seq (.reg false [
  ⟨some 2, .mv (.c (.int .i64 3)), none, []⟩,
  ⟨some 3, .mv (.c (.bool true)), none, []⟩]) (.ret)) (.seq (.reg false [
  ⟨some 10, .bin .eql (.t 4) (.c (.str [85, 110, 105, 116])), none, []⟩,
  ⟨some 9, .mv (.t 10), none, []⟩]) (.cond (.t 9) (.seq (.reg false [
  ⟨some 2, .mv (.c (.int .i64 4)), none, []⟩,
  ⟨some 3, .mv (.c (.bool true)), none, []⟩]) (.ret)) (.skip))))))))) (.seq (.reg false [
  ⟨some 2, .mv (.c (.int .i64 0)), none, []⟩,
  ⟨some 3, .mv (.c (.bool false)), none, []⟩]) (.ret))))⟩
def h250 : Hint := { cb := [1], ps := [4], cp := [25, 20, 15], cs := [], ap := [] }
def c250 : AF := ⟨1, 27, [.tmp 2],
 (.seq (.reg false [
  ⟨some 1, .boxc (.t 0), none, []⟩,
  ⟨some 2, .mv (.c (.int .i64 0)), none, []⟩]) (.seq (.seq (.reg false [
  ⟨some 5, .fieldA 0 (.t 1), none, []⟩,
  ⟨some 6, .load false 1 (.t 5), none, []⟩,
  ⟨some 7, .lenS (.t 6), none, []⟩,
  ⟨some 8, .mv (.c (.int .i64 0)), none, []⟩]) (.block 0 (.loop (.seq (.reg false [
  ⟨some 9, .bin .lss (.t 8) (.t 7), none, []⟩]) (.seq (.cond (.t 9) (.skip) (.exit 0)) (.seq (.block 1 (.seq (.reg false [
  ⟨some 10, .idxS 2 (.t 6) (.t 8), none, []⟩,
  ⟨some 11, .load true 2 (.t 10), none, []⟩,
  ⟨some 4, .pend [(.str []), (.int .i64 0)], none, []⟩,
  ⟨none, .shut 4 2 (.t 11), none, []⟩]) (.block 2 (.seq (.reg false [
  ⟨some 13, .fieldA 0 (.t 4), none, []⟩,
  ⟨some 14, .load false 1 (.t 13), none, []⟩,
  ⟨some 15, .callP false (.f 149) [(.t 14), (.c (.int .i64 2))], none, []⟩,
  ⟨some 16, .un .not (.t 15), none, []⟩,
  ⟨some 12, .mv (.t 16), none, []⟩]) (.cond (.t 12) (.seq (.reg false [
  ⟨some 2, .mv (.c (.int .i64 4)), none, []⟩]) (.ret)) (.seq (.reg false [
  ⟨some 18, .fieldA 1 (.t 4), none, []⟩,
  ⟨some 19, .load false 1 (.t 18), none, []⟩,
  ⟨some 20, .callP false (.f 212) [(.t 19), (.c (.int .i64 0)), (.c (.int .i64 999999999))], none, []⟩,
  ⟨some 21, .un .not (.t 20), none, []⟩,
  ⟨some 17, .mv (.t 21), none, []⟩]) (.cond (.t 17) (.seq (.reg false [
  ⟨some 2, .mv (.c (.int .i64 1)), none, []⟩]) (.ret)) (.skip)))))))) (.reg false [
  ⟨some 22, .bin .add (.t 8) (.c (.int .i64 1)), none, []⟩,
  ⟨some 8, .mv (.t 22), none, []⟩]))))))) (.seq (.seq (.reg false [
  ⟨some 23, .fieldA 1 (.t 1), none, []⟩,
  ⟨some 24, .load false 1 (.t 23), none, []⟩,
  ⟨some 25, .callP false (.f 212) [(.t 24), (.c (.int .i64 (-1))), (.c (.int .i64 999999999))], none, []⟩,
  ⟨some 26, .un .not (.t 25), none, []⟩]) (.cond (.t 26) (.seq (.reg false [
  ⟨some 2, .mv (.c (.int .i64 1)), none, []⟩]) (.ret)) (.skip))) (.seq (.reg false [
  ⟨some 2, .mv (.c (.int .i64 0)), none, []⟩]) (.ret)))))⟩
end Go.Proofs.YtelnnehpbkainaaGreatDoor.Code
