/- The functions of the program in cooked form, printed by a program of the prover's own. -/
import Derived.Test.YthmlommnlihgcaaGreatDoorCode2
set_option maxRecDepth 100000
namespace Go.Proofs.YthmlommnlihgcaaGreatDoor.Code
open Go Go.Fw
def h127 : Hint := { cb := [], ps := [], cp := [], cs := [], ap := [], ls := [] }
def c127 : AF := ⟨2, 19, [.tmp 4],
 (.seq (.reg false [
  ⟨some 4, .mv (.c (.int .i64 0)), none, []⟩]) (.seq (.seq (.reg false [
  ⟨some 6, .mv (.t 0), none, []⟩,
  ⟨some 7, .lenS (.t 6), none, []⟩,
  ⟨some 8, .mv (.c (.int .i64 0)), none, []⟩]) (.block 0 (.loop (.seq (.reg false [
  ⟨some 9, .bin .lss (.t 8) (.t 7), none, []⟩]) (.seq (.cond (.t 9) (.skip) (.exit 0)) (.seq (.block 1 (.seq (.reg false [
  ⟨some 10, .mv (.t 8), none, []⟩,
  ⟨some 5, .mv (.t 10), none, []⟩]) (.seq (.reg false [
  ⟨some 11, .mv (.t 1), none, []⟩,
  ⟨some 12, .mv (.t 0), none, []⟩,
  ⟨some 13, .mv (.t 5), none, []⟩,
  ⟨some 14, .idxS 9 (.t 12) (.t 13), none, []⟩,
  ⟨some 15, .load true 9 (.t 14), none, []⟩,
  ⟨some 16, .call (.t 11) [(.t 15)], none, []⟩]) (.cond (.t 16) (.seq (.reg false [
  ⟨some 17, .mv (.t 5), none, []⟩,
  ⟨some 4, .mv (.t 17), none, []⟩]) (.ret)) (.skip))))) (.reg false [
  ⟨some 18, .bin .add (.t 8) (.c (.int .i64 1)), none, []⟩,
  ⟨some 8, .mv (.t 18), none, []⟩]))))))) (.seq (.reg false [
  ⟨some 4, .mv (.c (.int .i64 (-1))), none, []⟩]) (.ret))))⟩
def h128 : Hint := { cb := [], ps := [], cp := [], cs := [], ap := [], ls := [] }
def c128 : AF := ⟨1, 11, [.tmp 2, .tmp 3],
 (.seq (.reg false [
  ⟨some 2, .mv (.c (.int .i64 0)), none, []⟩,
  ⟨some 3, .mv (.c (.bool false)), none, []⟩]) (.seq (.seq (.reg false [
  ⟨some 4, .mv (.t 0), none, []⟩]) (.block 0 (.seq (.reg false [
  ⟨some 6, .bin .eql (.t 4) (.c (.str [73, 110, 116])), none, []⟩,
  ⟨some 5, .mv (.t 6), none, []⟩]) (.cond (.t 5) (.seq (.reg false [
  ⟨some 2, .mv (.c (.int .i64 2)), none, []⟩,
  ⟨some 3, .mv (.c (.bool true)), none, []⟩]) (.ret)) (.seq (.reg false [
  ⟨some 8, .bin .eql (.t 4) (.c (.str [66, 111, 111, 108])), none, []⟩,
  ⟨some 7, .mv (.t 8), none, []⟩]) (.cond (.t 7) (.seq (.reg false [
  ⟨some 2, .mv (.c (.int .i64 3)), none, []⟩,
  ⟨some 3, .mv (.c (.bool true)), none, []⟩]) (.ret)) (.seq (.reg false [
  ⟨some 10, .bin .eql (.t 4) (.c (.str [85, 110, 105, 116])), none, []⟩,
  ⟨some 9, .mv (.t 10), none, []⟩]) (.cond (.t 9) (.seq (.reg false [
  ⟨some 2, .mv (.c (.int .i64 4)), none, []⟩,
  ⟨some 3, .mv (.c (.bool true)), none, []⟩]) (.ret)) (.skip))))))))) (.seq (.reg false [
  ⟨some 2, .mv (.c (.int .i64 0)), none, []⟩,
  ⟨some 3, .mv (.c (.bool false)), none, []⟩]) (.ret))))⟩
def h129 : Hint := { cb := [1], ps := [4], cp := [25, 20, 15], cs := [], ap := [], ls := [] }
def c129 : AF := ⟨1, 27, [.tmp 2],
 (.seq (.reg false [
  ⟨some 1, .boxc (.t 0), none, []⟩,
  ⟨some 2, .mv (.c (.int .i64 0)), none, []⟩]) (.seq (.seq (.reg false [
  ⟨some 5, .fieldA 0 (.t 1), none, []⟩,
  ⟨some 6, .load false 1 (.t 5), none, []⟩,
  ⟨some 7, .lenS (.t 6), none, []⟩,
  ⟨some 8, .mv (.c (.int .i64 0)), none, []⟩]) (.block 0 (.loop (.seq (.reg false [
  ⟨some 9, .bin .lss (.t 8) (.t 7), none, []⟩]) (.seq (.cond (.t 9) (.skip) (.exit 0)) (.seq (.block 1 (.seq (.reg false [
  ⟨some 10, .idxS 2 (.t 6) (.t 8), none, []⟩,
  ⟨some 11, .load true 2 (.t 10), none, []⟩,
  ⟨some 4, .pend [(.str []), (.int .i64 0)], none, []⟩,
  ⟨none, .shut 4 2 (.t 11), none, []⟩]) (.block 2 (.seq (.reg false [
  ⟨some 13, .fieldA 0 (.t 4), none, []⟩,
  ⟨some 14, .load false 1 (.t 13), none, []⟩,
  ⟨some 15, .callP false (.f 89) [(.t 14), (.c (.int .i64 2))], none, []⟩,
  ⟨some 16, .un .not (.t 15), none, []⟩,
  ⟨some 12, .mv (.t 16), none, []⟩]) (.cond (.t 12) (.seq (.reg false [
  ⟨some 2, .mv (.c (.int .i64 4)), none, []⟩]) (.ret)) (.seq (.reg false [
  ⟨some 18, .fieldA 1 (.t 4), none, []⟩,
  ⟨some 19, .load false 1 (.t 18), none, []⟩,
  ⟨some 20, .callP false (.f 109) [(.t 19), (.c (.int .i64 0)), (.c (.int .i64 999999999))], none, []⟩,
  ⟨some 21, .un .not (.t 20), none, []⟩,
  ⟨some 17, .mv (.t 21), none, []⟩]) (.cond (.t 17) (.seq (.reg false [
  ⟨some 2, .mv (.c (.int .i64 1)), none, []⟩]) (.ret)) (.skip)))))))) (.reg false [
  ⟨some 22, .bin .add (.t 8) (.c (.int .i64 1)), none, []⟩,
  ⟨some 8, .mv (.t 22), none, []⟩]))))))) (.seq (.seq (.reg false [
  ⟨some 23, .fieldA 1 (.t 1), none, []⟩,
  ⟨some 24, .load false 1 (.t 23), none, []⟩,
  ⟨some 25, .callP false (.f 109) [(.t 24), (.c (.int .i64 (-1))), (.c (.int .i64 999999999))], none, []⟩,
  ⟨some 26, .un .not (.t 25), none, []⟩]) (.cond (.t 26) (.seq (.reg false [
  ⟨some 2, .mv (.c (.int .i64 1)), none, []⟩]) (.ret)) (.skip))) (.seq (.reg false [
  ⟨some 2, .mv (.c (.int .i64 0)), none, []⟩]) (.ret)))))⟩
def h130 : Hint := { cb := [], ps := [11], cp := [], cs := [], ap := [], ls := [] }
def c130 : AF := ⟨2, 65, [.tmp 4],
 (.seq (.reg false [
  ⟨some 4, .mv (.c (.slice 0 [] .full)), none, []⟩]) (.seq (.reg false [
  ⟨some 12, .mkSlice 2 16 [(.int .i64 0), (.int .i64 0)] (.c (.int .i64 0)) (.c (.int .i64 32)), none, []⟩,
  ⟨some 5, .mv (.t 12), none, []⟩]) (.seq (.reg false [
  ⟨some 6, .mv (.c (.int .i64 (-1))), none, []⟩]) (.seq (.seq (.reg false [
  ⟨some 13, .mv (.t 0), none, []⟩,
  ⟨some 14, .rangeStr (.t 13), none, []⟩]) (.block 0 (.loop (.seq (.reg false [
  ⟨some 15, .nextStr (.t 14), none, []⟩,
  ⟨some 16, .extract (.t 15) 0, none, []⟩]) (.seq (.cond (.t 16) (.skip) (.exit 0)) (.block 1 (.seq (.reg false [
  ⟨some 17, .extract (.t 15) 1, none, []⟩,
  ⟨some 18, .extract (.t 15) 2, none, []⟩,
  ⟨some 7, .mv (.t 17), none, []⟩,
  ⟨some 8, .mv (.t 18), none, []⟩]) (.seq (.reg false [
  ⟨some 19, .mv (.t 1), none, []⟩,
  ⟨some 20, .mv (.t 8), none, []⟩,
  ⟨some 21, .call (.t 19) [(.t 20)], none, []⟩]) (.cond (.t 21) (.seq (.reg false [
  ⟨some 22, .mv (.t 6), none, []⟩,
  ⟨some 23, .bin .geq (.t 22) (.c (.int .i64 0)), none, []⟩]) (.cond (.t 23) (.seq (.reg false [
  ⟨some 24, .mv (.t 5), none, []⟩,
  ⟨some 25, .mv (.t 6), none, []⟩,
  ⟨some 26, .mv (.t 7), none, []⟩,
  ⟨some 27, .build [(.int .i64 0), (.int .i64 0)] [(0, 1, (.t 25)), (1, 1, (.t 26))], none, []⟩,
  ⟨some 28, .bslice 2 1 [(.int .i64 0), (.int .i64 0)] [(0, (.t 27))], none, []⟩,
  ⟨some 29, .append false 2 16 (.t 24) (.t 28), none, []⟩,
  ⟨some 5, .mv (.t 29), none, []⟩]) (.reg false [
  ⟨some 30, .mv (.t 6), none, []⟩,
  ⟨some 31, .un .xor (.t 30), none, []⟩,
  ⟨some 6, .mv (.t 31), none, []⟩])) (.skip))) (.seq (.reg false [
  ⟨some 32, .mv (.t 6), none, []⟩,
  ⟨some 33, .bin .lss (.t 32) (.c (.int .i64 0)), none, []⟩]) (.cond (.t 33) (.reg false [
  ⟨some 34, .mv (.t 7), none, []⟩,
  ⟨some 6, .mv (.t 34), none, []⟩]) (.skip)))))))))))) (.seq (.seq (.reg false [
  ⟨some 35, .mv (.t 6), none, []⟩,
  ⟨some 36, .bin .geq (.t 35) (.c (.int .i64 0)), none, []⟩]) (.cond (.t 36) (.reg false [
  ⟨some 37, .mv (.t 5), none, []⟩,
  ⟨some 38, .mv (.t 6), none, []⟩,
  ⟨some 39, .mv (.t 0), none, []⟩,
  ⟨some 40, .lenStr (.t 39), none, []⟩,
  ⟨some 41, .build [(.int .i64 0), (.int .i64 0)] [(0, 1, (.t 38)), (1, 1, (.t 40))], none, []⟩,
  ⟨some 42, .bslice 2 1 [(.int .i64 0), (.int .i64 0)] [(0, (.t 41))], none, []⟩,
  ⟨some 43, .append false 2 16 (.t 37) (.t 42), none, []⟩,
  ⟨some 5, .mv (.t 43), none, []⟩]) (.skip))) (.seq (.reg false [
  ⟨some 44, .mv (.t 5), none, []⟩,
  ⟨some 45, .lenS (.t 44), none, []⟩,
  ⟨some 46, .mkSlice 1 16 [(.str [])] (.t 45) (.t 45), none, []⟩,
  ⟨some 9, .mv (.t 46), none, []⟩]) (.seq (.seq (.reg false [
  ⟨some 47, .mv (.t 5), none, []⟩,
  ⟨some 48, .lenS (.t 47), none, []⟩,
  ⟨some 49, .mv (.c (.int .i64 0)), none, []⟩]) (.block 2 (.loop (.seq (.reg false [
  ⟨some 50, .bin .lss (.t 49) (.t 48), none, []⟩]) (.seq (.cond (.t 50) (.skip) (.exit 2)) (.seq (.block 3 (.seq (.reg false [
  ⟨some 51, .mv (.t 49), none, []⟩,
  ⟨some 52, .idxS 2 (.t 47) (.t 49), none, []⟩,
  ⟨some 53, .load true 2 (.t 52), none, []⟩,
  ⟨some 11, .pend [(.int .i64 0), (.int .i64 0)], none, []⟩,
  ⟨some 10, .mv (.t 51), none, []⟩,
  ⟨none, .shut 11 2 (.t 53), none, []⟩]) (.reg false [
  ⟨some 54, .mv (.t 9), none, []⟩,
  ⟨some 55, .mv (.t 10), none, []⟩,
  ⟨some 56, .mv (.t 0), none, []⟩,
  ⟨some 57, .fieldA 0 (.t 11), none, []⟩,
  ⟨some 58, .load false 1 (.t 57), none, []⟩,
  ⟨some 59, .fieldA 1 (.t 11), none, []⟩,
  ⟨some 60, .load false 1 (.t 59), none, []⟩,
  ⟨some 61, .cutStr (.t 56) (some (.t 58)) (some (.t 60)), none, []⟩,
  ⟨some 62, .idxS 1 (.t 54) (.t 55), none, []⟩,
  ⟨none, .store 1 (.t 62) (.t 61), none, []⟩]))) (.reg false [
  ⟨some 63, .bin .add (.t 49) (.c (.int .i64 1)), none, []⟩,
  ⟨some 49, .mv (.t 63), none, []⟩]))))))) (.seq (.reg false [
  ⟨some 64, .mv (.t 9), none, []⟩,
  ⟨some 4, .mv (.t 64), none, []⟩]) (.ret)))))))))⟩
def h131 : Hint := { cb := [], ps := [], cp := [], cs := [], ap := [], ls := [] }
def c131 : AF := ⟨1, 19, [.tmp 2],
 (.seq (.reg false [
  ⟨some 2, .mv (.c (.bool false)), none, []⟩]) (.seq (.seq (.reg false [
  ⟨some 3, .mv (.t 0), none, []⟩,
  ⟨some 4, .toInt .u32 (.t 3), none, []⟩,
  ⟨some 5, .bin .leq (.t 4) (.c (.int .u32 255)), none, []⟩]) (.cond (.t 5) (.seq (.seq (.reg false [
  ⟨some 6, .mv (.t 0), none, []⟩]) (.block 0 (.seq (.seq (.reg false [
  ⟨some 8, .bin .eql (.t 6) (.c (.int .i32 9)), none, []⟩,
  ⟨some 7, .mv (.t 8), none, []⟩]) (.cond (.t 7) (.skip) (.seq (.reg false [
  ⟨some 9, .bin .eql (.t 6) (.c (.int .i32 10)), none, []⟩,
  ⟨some 7, .mv (.t 9), none, []⟩]) (.cond (.t 7) (.skip) (.seq (.reg false [
  ⟨some 10, .bin .eql (.t 6) (.c (.int .i32 11)), none, []⟩,
  ⟨some 7, .mv (.t 10), none, []⟩]) (.cond (.t 7) (.skip) (.seq (.reg false [
  ⟨some 11, .bin .eql (.t 6) (.c (.int .i32 12)), none, []⟩,
  ⟨some 7, .mv (.t 11), none, []⟩]) (.cond (.t 7) (.skip) (.seq (.reg false [
  ⟨some 12, .bin .eql (.t 6) (.c (.int .i32 13)), none, []⟩,
  ⟨some 7, .mv (.t 12), none, []⟩]) (.cond (.t 7) (.skip) (.seq (.reg false [
  ⟨some 13, .bin .eql (.t 6) (.c (.int .i32 32)), none, []⟩,
  ⟨some 7, .mv (.t 13), none, []⟩]) (.cond (.t 7) (.skip) (.seq (.reg false [
  ⟨some 14, .bin .eql (.t 6) (.c (.int .i32 133)), none, []⟩,
  ⟨some 7, .mv (.t 14), none, []⟩]) (.cond (.t 7) (.skip) (.reg false [
  ⟨some 15, .bin .eql (.t 6) (.c (.int .i32 160)), none, []⟩,
  ⟨some 7, .mv (.t 15), none, []⟩]))))))))))))))) (.cond (.t 7) (.seq (.reg false [
  ⟨some 2, .mv (.c (.bool true)), none, []⟩]) (.ret)) (.skip))))) (.seq (.reg false [
  ⟨some 2, .mv (.c (.bool false)), none, []⟩]) (.ret))) (.skip))) (.seq (.reg false [
  ⟨some 16, .load false 1 (.g 2), none, []⟩,
  ⟨some 17, .mv (.t 0), none, []⟩,
  ⟨some 18, .call (.f 132) [(.t 16), (.t 17)], none, []⟩,
  ⟨some 2, .mv (.t 18), none, []⟩]) (.ret))))⟩
def h132 : Hint := { cb := [], ps := [], cp := [58, 38], cs := [], ap := [], ls := [] }
def c132 : AF := ⟨2, 59, [.tmp 4],
 (.seq (.reg false [
  ⟨some 4, .mv (.c (.bool false)), none, []⟩]) (.seq (.reg false [
  ⟨some 8, .mv (.t 0), none, []⟩,
  ⟨some 9, .nilchk (.t 8), none, []⟩,
  ⟨some 10, .fieldA 0 (.t 9), none, []⟩,
  ⟨some 11, .load false 1 (.t 10), none, []⟩,
  ⟨some 5, .mv (.t 11), none, []⟩]) (.seq (.seq (.reg false [
  ⟨some 12, .mv (.t 0), none, []⟩,
  ⟨some 13, .nilchk (.t 12), none, []⟩,
  ⟨some 14, .fieldA 2 (.t 13), none, []⟩,
  ⟨some 15, .load false 1 (.t 14), none, []⟩,
  ⟨some 6, .mv (.t 15), none, []⟩]) (.seq (.reg false [
  ⟨some 16, .mv (.t 5), none, []⟩,
  ⟨some 17, .lenS (.t 16), none, []⟩,
  ⟨some 18, .mv (.t 6), none, []⟩,
  ⟨some 19, .bin .gtr (.t 17) (.t 18), none, []⟩,
  ⟨some 20, .mv (.t 19), none, []⟩,
  ⟨some 21, .mv (.t 1), some (20, true), []⟩,
  ⟨some 22, .toInt .u32 (.t 21), some (20, true), []⟩,
  ⟨some 23, .mv (.t 5), some (20, true), []⟩,
  ⟨some 24, .mv (.t 5), some (20, true), []⟩,
  ⟨some 25, .lenS (.t 24), some (20, true), []⟩,
  ⟨some 26, .bin .sub (.t 25) (.c (.int .i64 1)), some (20, true), []⟩,
  ⟨some 27, .idxS 3 (.t 23) (.t 26), some (20, true), []⟩,
  ⟨some 28, .fieldA 1 (.t 27), some (20, true), []⟩,
  ⟨some 29, .load false 1 (.t 28), some (20, true), []⟩,
  ⟨some 30, .toInt .u32 (.t 29), some (20, true), []⟩,
  ⟨some 31, .bin .leq (.t 22) (.t 30), some (20, true), []⟩,
  ⟨some 32, .pick (.t 20) (.t 31) (.c (.bool false)), none, []⟩]) (.cond (.t 32) (.seq (.reg false [
  ⟨some 33, .mv (.t 5), none, []⟩,
  ⟨some 34, .mv (.t 6), none, []⟩,
  ⟨some 35, .cutS 3 (.t 33) (some (.t 34)) none none, none, []⟩,
  ⟨some 36, .mv (.t 1), none, []⟩,
  ⟨some 37, .toInt .u16 (.t 36), none, []⟩,
  ⟨some 38, .callP false (.f 133) [(.t 35), (.t 37)], none, []⟩,
  ⟨some 4, .mv (.t 38), none, []⟩]) (.ret)) (.skip)))) (.seq (.reg false [
  ⟨some 39, .mv (.t 0), none, []⟩,
  ⟨some 40, .nilchk (.t 39), none, []⟩,
  ⟨some 41, .fieldA 1 (.t 40), none, []⟩,
  ⟨some 42, .load false 1 (.t 41), none, []⟩,
  ⟨some 7, .mv (.t 42), none, []⟩]) (.seq (.seq (.reg false [
  ⟨some 43, .mv (.t 7), none, []⟩,
  ⟨some 44, .lenS (.t 43), none, []⟩,
  ⟨some 45, .bin .gtr (.t 44) (.c (.int .i64 0)), none, []⟩,
  ⟨some 46, .mv (.t 45), none, []⟩,
  ⟨some 47, .mv (.t 1), some (46, true), []⟩,
  ⟨some 48, .mv (.t 7), some (46, true), []⟩,
  ⟨some 49, .idxS 3 (.t 48) (.c (.int .i64 0)), some (46, true), []⟩,
  ⟨some 50, .fieldA 0 (.t 49), some (46, true), []⟩,
  ⟨some 51, .load false 1 (.t 50), some (46, true), []⟩,
  ⟨some 52, .toInt .i32 (.t 51), some (46, true), []⟩,
  ⟨some 53, .bin .geq (.t 47) (.t 52), some (46, true), []⟩,
  ⟨some 54, .pick (.t 46) (.t 53) (.c (.bool false)), none, []⟩]) (.cond (.t 54) (.seq (.reg false [
  ⟨some 55, .mv (.t 7), none, []⟩,
  ⟨some 56, .mv (.t 1), none, []⟩,
  ⟨some 57, .toInt .u32 (.t 56), none, []⟩,
  ⟨some 58, .callP false (.f 134) [(.t 55), (.t 57)], none, []⟩,
  ⟨some 4, .mv (.t 58), none, []⟩]) (.ret)) (.skip))) (.seq (.reg false [
  ⟨some 4, .mv (.c (.bool false)), none, []⟩]) (.ret)))))))⟩
def h133 : Hint := { cb := [], ps := [], cp := [], cs := [], ap := [], ls := [] }
def c133 : AF := ⟨2, 114, [.tmp 4],
 (.seq (.reg false [
  ⟨some 4, .mv (.c (.bool false)), none, []⟩]) (.seq (.seq (.reg false [
  ⟨some 11, .mv (.t 0), none, []⟩,
  ⟨some 12, .lenS (.t 11), none, []⟩,
  ⟨some 13, .bin .leq (.t 12) (.c (.int .i64 18)), none, []⟩,
  ⟨some 14, .mv (.t 13), none, []⟩,
  ⟨some 15, .mv (.t 1), some (14, false), []⟩,
  ⟨some 16, .bin .leq (.t 15) (.c (.int .u16 255)), some (14, false), []⟩,
  ⟨some 17, .pick (.t 14) (.c (.bool true)) (.t 16), none, []⟩]) (.cond (.t 17) (.seq (.seq (.reg false [
  ⟨some 18, .mv (.t 0), none, []⟩,
  ⟨some 19, .lenS (.t 18), none, []⟩,
  ⟨some 20, .mv (.c (.int .i64 0)), none, []⟩]) (.block 0 (.loop (.seq (.reg false [
  ⟨some 21, .bin .lss (.t 20) (.t 19), none, []⟩]) (.seq (.cond (.t 21) (.skip) (.exit 0)) (.seq (.block 1 (.seq (.reg false [
  ⟨some 22, .mv (.t 20), none, []⟩,
  ⟨some 5, .mv (.t 22), none, []⟩]) (.seq (.reg false [
  ⟨some 23, .mv (.t 0), none, []⟩,
  ⟨some 24, .mv (.t 5), none, []⟩,
  ⟨some 25, .idxS 3 (.t 23) (.t 24), none, []⟩,
  ⟨some 6, .mv (.t 25), none, []⟩]) (.seq (.seq (.reg false [
  ⟨some 26, .mv (.t 1), none, []⟩,
  ⟨some 27, .mv (.t 6), none, []⟩,
  ⟨some 28, .nilchk (.t 27), none, []⟩,
  ⟨some 29, .fieldA 0 (.t 28), none, []⟩,
  ⟨some 30, .load false 1 (.t 29), none, []⟩,
  ⟨some 31, .bin .lss (.t 26) (.t 30), none, []⟩]) (.cond (.t 31) (.seq (.reg false [
  ⟨some 4, .mv (.c (.bool false)), none, []⟩]) (.ret)) (.skip))) (.seq (.reg false [
  ⟨some 32, .mv (.t 1), none, []⟩,
  ⟨some 33, .mv (.t 6), none, []⟩,
  ⟨some 34, .nilchk (.t 33), none, []⟩,
  ⟨some 35, .fieldA 1 (.t 34), none, []⟩,
  ⟨some 36, .load false 1 (.t 35), none, []⟩,
  ⟨some 37, .bin .leq (.t 32) (.t 36), none, []⟩]) (.cond (.t 37) (.seq (.reg true [
  ⟨some 38, .mv (.t 6), none, []⟩,
  ⟨some 39, .nilchk (.t 38), none, [0]⟩,
  ⟨some 40, .fieldA 2 (.t 39), none, [1, 0]⟩,
  ⟨some 41, .load false 1 (.t 40), none, [2, 1, 0]⟩,
  ⟨some 42, .bin .eql (.t 41) (.c (.int .u16 1)), none, [3, 2, 1, 0]⟩,
  ⟨some 43, .mv (.t 42), none, [4, 3, 2, 1, 0]⟩,
  ⟨some 44, .mv (.t 1), some (43, false), [5, 4, 3, 2, 1, 0]⟩,
  ⟨some 45, .mv (.t 6), some (43, false), [5, 4, 3, 2, 1, 0]⟩,
  ⟨some 46, .nilchk (.t 45), some (43, false), [7, 5, 4, 3, 2, 1, 0]⟩,
  ⟨some 47, .fieldA 0 (.t 46), some (43, false), [8, 7, 5, 4, 3, 2, 1, 0]⟩,
  ⟨some 48, .load false 1 (.t 47), some (43, false), [9, 8, 7, 5, 4, 3, 2, 1, 0]⟩,
  ⟨some 49, .bin .sub (.t 44) (.t 48), some (43, false), [6, 5, 4, 3, 2, 1, 0, 10, 9, 8, 7]⟩,
  ⟨some 50, .mv (.t 6), some (43, false), [5, 4, 3, 2, 1, 0]⟩,
  ⟨some 51, .nilchk (.t 50), some (43, false), [12, 5, 4, 3, 2, 1, 0]⟩,
  ⟨some 52, .fieldA 2 (.t 51), some (43, false), [13, 12, 5, 4, 3, 2, 1, 0]⟩,
  ⟨some 53, .load false 1 (.t 52), some (43, false), [14, 13, 12, 5, 4, 3, 2, 1, 0]⟩,
  ⟨some 54, .bin .rem (.t 49) (.t 53), some (43, false), [11, 6, 5, 4, 3, 2, 1, 0, 10, 9, 8, 7, 15, 14, 13, 12]⟩,
  ⟨some 55, .bin .eql (.t 54) (.c (.int .u16 0)), some (43, false), [16, 11, 6, 5, 4, 3, 2, 1, 0, 10, 9, 8, 7, 15, 14, 13, 12]⟩,
  ⟨some 56, .pick (.t 43) (.c (.bool true)) (.t 55), none, [5, 4, 3, 2, 1, 0, 17, 16, 11, 6, 10, 9, 8, 7, 15, 14, 13, 12]⟩,
  ⟨some 4, .mv (.t 56), none, [18, 5, 4, 3, 2, 1, 0, 17, 16, 11, 6, 10, 9, 8, 7, 15, 14, 13, 12]⟩]) (.ret)) (.skip))))))) (.reg false [
  ⟨some 57, .bin .add (.t 20) (.c (.int .i64 1)), none, []⟩,
  ⟨some 20, .mv (.t 57), none, []⟩]))))))) (.seq (.reg false [
  ⟨some 4, .mv (.c (.bool false)), none, []⟩]) (.ret))) (.skip))) (.seq (.reg false [
  ⟨some 7, .mv (.c (.int .i64 0)), none, []⟩]) (.seq (.reg false [
  ⟨some 58, .mv (.t 0), none, []⟩,
  ⟨some 59, .lenS (.t 58), none, []⟩,
  ⟨some 8, .mv (.t 59), none, []⟩]) (.seq (.block 2 (.loop (.seq (.seq (.reg false [
  ⟨some 60, .mv (.t 7), none, []⟩,
  ⟨some 61, .mv (.t 8), none, []⟩,
  ⟨some 62, .bin .lss (.t 60) (.t 61), none, []⟩]) (.cond (.t 62) (.skip) (.exit 2))) (.block 3 (.seq (.reg false [
  ⟨some 63, .mv (.t 7), none, []⟩,
  ⟨some 64, .mv (.t 8), none, []⟩,
  ⟨some 65, .bin .add (.t 63) (.t 64), none, []⟩,
  ⟨some 66, .toInt .u64 (.t 65), none, []⟩,
  ⟨some 67, .bin .shr (.t 66) (.c (.int .u64 1)), none, []⟩,
  ⟨some 68, .toInt .i64 (.t 67), none, []⟩,
  ⟨some 9, .mv (.t 68), none, []⟩]) (.seq (.reg false [
  ⟨some 69, .mv (.t 0), none, []⟩,
  ⟨some 70, .mv (.t 9), none, []⟩,
  ⟨some 71, .idxS 3 (.t 69) (.t 70), none, []⟩,
  ⟨some 10, .mv (.t 71), none, []⟩]) (.seq (.seq (.reg false [
  ⟨some 72, .mv (.t 10), none, []⟩,
  ⟨some 73, .nilchk (.t 72), none, []⟩,
  ⟨some 74, .fieldA 0 (.t 73), none, []⟩,
  ⟨some 75, .load false 1 (.t 74), none, []⟩,
  ⟨some 76, .mv (.t 1), none, []⟩,
  ⟨some 77, .bin .leq (.t 75) (.t 76), none, []⟩,
  ⟨some 78, .mv (.t 77), none, []⟩,
  ⟨some 79, .mv (.t 1), some (78, true), []⟩,
  ⟨some 80, .mv (.t 10), some (78, true), []⟩,
  ⟨some 81, .nilchk (.t 80), some (78, true), []⟩,
  ⟨some 82, .fieldA 1 (.t 81), some (78, true), []⟩,
  ⟨some 83, .load false 1 (.t 82), some (78, true), []⟩,
  ⟨some 84, .bin .leq (.t 79) (.t 83), some (78, true), []⟩,
  ⟨some 85, .pick (.t 78) (.t 84) (.c (.bool false)), none, []⟩]) (.cond (.t 85) (.seq (.reg true [
  ⟨some 86, .mv (.t 10), none, []⟩,
  ⟨some 87, .nilchk (.t 86), none, [0]⟩,
  ⟨some 88, .fieldA 2 (.t 87), none, [1, 0]⟩,
  ⟨some 89, .load false 1 (.t 88), none, [2, 1, 0]⟩,
  ⟨some 90, .bin .eql (.t 89) (.c (.int .u16 1)), none, [3, 2, 1, 0]⟩,
  ⟨some 91, .mv (.t 90), none, [4, 3, 2, 1, 0]⟩,
  ⟨some 92, .mv (.t 1), some (91, false), [5, 4, 3, 2, 1, 0]⟩,
  ⟨some 93, .mv (.t 10), some (91, false), [5, 4, 3, 2, 1, 0]⟩,
  ⟨some 94, .nilchk (.t 93), some (91, false), [7, 5, 4, 3, 2, 1, 0]⟩,
  ⟨some 95, .fieldA 0 (.t 94), some (91, false), [8, 7, 5, 4, 3, 2, 1, 0]⟩,
  ⟨some 96, .load false 1 (.t 95), some (91, false), [9, 8, 7, 5, 4, 3, 2, 1, 0]⟩,
  ⟨some 97, .bin .sub (.t 92) (.t 96), some (91, false), [6, 5, 4, 3, 2, 1, 0, 10, 9, 8, 7]⟩,
  ⟨some 98, .mv (.t 10), some (91, false), [5, 4, 3, 2, 1, 0]⟩,
  ⟨some 99, .nilchk (.t 98), some (91, false), [12, 5, 4, 3, 2, 1, 0]⟩,
  ⟨some 100, .fieldA 2 (.t 99), some (91, false), [13, 12, 5, 4, 3, 2, 1, 0]⟩,
  ⟨some 101, .load false 1 (.t 100), some (91, false), [14, 13, 12, 5, 4, 3, 2, 1, 0]⟩,
  ⟨some 102, .bin .rem (.t 97) (.t 101), some (91, false), [11, 6, 5, 4, 3, 2, 1, 0, 10, 9, 8, 7, 15, 14, 13, 12]⟩,
  ⟨some 103, .bin .eql (.t 102) (.c (.int .u16 0)), some (91, false), [16, 11, 6, 5, 4, 3, 2, 1, 0, 10, 9, 8, 7, 15, 14, 13, 12]⟩,
  ⟨some 104, .pick (.t 91) (.c (.bool true)) (.t 103), none, [5, 4, 3, 2, 1, 0, 17, 16, 11, 6, 10, 9, 8, 7, 15, 14, 13, 12]⟩,
  ⟨some 4, .mv (.t 104), none, [18, 5, 4, 3, 2, 1, 0, 17, 16, 11, 6, 10, 9, 8, 7, 15, 14, 13, 12]⟩]) (.ret)) (.skip))) (.seq (.reg false [
  ⟨some 105, .mv (.t 1), none, []⟩,
  ⟨some 106, .mv (.t 10), none, []⟩,
  ⟨some 107, .nilchk (.t 106), none, []⟩,
  ⟨some 108, .fieldA 0 (.t 107), none, []⟩,
  ⟨some 109, .load false 1 (.t 108), none, []⟩,
  ⟨some 110, .bin .lss (.t 105) (.t 109), none, []⟩]) (.cond (.t 110) (.reg false [
  ⟨some 111, .mv (.t 9), none, []⟩,
  ⟨some 8, .mv (.t 111), none, []⟩]) (.reg false [
  ⟨some 112, .mv (.t 9), none, []⟩,
  ⟨some 113, .bin .add (.t 112) (.c (.int .i64 1)), none, []⟩,
  ⟨some 7, .mv (.t 113), none, []⟩])))))))))) (.seq (.reg false [
  ⟨some 4, .mv (.c (.bool false)), none, []⟩]) (.ret)))))))⟩
def h134 : Hint := { cb := [], ps := [10], cp := [], cs := [], ap := [], ls := [] }
def c134 : AF := ⟨2, 99, [.tmp 4],
 (.seq (.reg false [
  ⟨some 4, .mv (.c (.bool false)), none, []⟩]) (.seq (.seq (.reg false [
  ⟨some 11, .mv (.t 0), none, []⟩,
  ⟨some 12, .lenS (.t 11), none, []⟩,
  ⟨some 13, .bin .leq (.t 12) (.c (.int .i64 18)), none, []⟩]) (.cond (.t 13) (.seq (.seq (.reg false [
  ⟨some 14, .mv (.t 0), none, []⟩,
  ⟨some 15, .lenS (.t 14), none, []⟩,
  ⟨some 16, .mv (.c (.int .i64 0)), none, []⟩]) (.block 0 (.loop (.seq (.reg false [
  ⟨some 17, .bin .lss (.t 16) (.t 15), none, []⟩]) (.seq (.cond (.t 17) (.skip) (.exit 0)) (.seq (.block 1 (.seq (.reg false [
  ⟨some 18, .mv (.t 16), none, []⟩,
  ⟨some 5, .mv (.t 18), none, []⟩]) (.seq (.reg false [
  ⟨some 19, .mv (.t 0), none, []⟩,
  ⟨some 20, .mv (.t 5), none, []⟩,
  ⟨some 21, .idxS 3 (.t 19) (.t 20), none, []⟩,
  ⟨some 6, .mv (.t 21), none, []⟩]) (.seq (.seq (.reg false [
  ⟨some 22, .mv (.t 1), none, []⟩,
  ⟨some 23, .mv (.t 6), none, []⟩,
  ⟨some 24, .nilchk (.t 23), none, []⟩,
  ⟨some 25, .fieldA 0 (.t 24), none, []⟩,
  ⟨some 26, .load false 1 (.t 25), none, []⟩,
  ⟨some 27, .bin .lss (.t 22) (.t 26), none, []⟩]) (.cond (.t 27) (.seq (.reg false [
  ⟨some 4, .mv (.c (.bool false)), none, []⟩]) (.ret)) (.skip))) (.seq (.reg false [
  ⟨some 28, .mv (.t 1), none, []⟩,
  ⟨some 29, .mv (.t 6), none, []⟩,
  ⟨some 30, .nilchk (.t 29), none, []⟩,
  ⟨some 31, .fieldA 1 (.t 30), none, []⟩,
  ⟨some 32, .load false 1 (.t 31), none, []⟩,
  ⟨some 33, .bin .leq (.t 28) (.t 32), none, []⟩]) (.cond (.t 33) (.seq (.reg true [
  ⟨some 34, .mv (.t 6), none, []⟩,
  ⟨some 35, .nilchk (.t 34), none, [0]⟩,
  ⟨some 36, .fieldA 2 (.t 35), none, [1, 0]⟩,
  ⟨some 37, .load false 1 (.t 36), none, [2, 1, 0]⟩,
  ⟨some 38, .bin .eql (.t 37) (.c (.int .u32 1)), none, [3, 2, 1, 0]⟩,
  ⟨some 39, .mv (.t 38), none, [4, 3, 2, 1, 0]⟩,
  ⟨some 40, .mv (.t 1), some (39, false), [5, 4, 3, 2, 1, 0]⟩,
  ⟨some 41, .mv (.t 6), some (39, false), [5, 4, 3, 2, 1, 0]⟩,
  ⟨some 42, .nilchk (.t 41), some (39, false), [7, 5, 4, 3, 2, 1, 0]⟩,
  ⟨some 43, .fieldA 0 (.t 42), some (39, false), [8, 7, 5, 4, 3, 2, 1, 0]⟩,
  ⟨some 44, .load false 1 (.t 43), some (39, false), [9, 8, 7, 5, 4, 3, 2, 1, 0]⟩,
  ⟨some 45, .bin .sub (.t 40) (.t 44), some (39, false), [6, 5, 4, 3, 2, 1, 0, 10, 9, 8, 7]⟩,
  ⟨some 46, .mv (.t 6), some (39, false), [5, 4, 3, 2, 1, 0]⟩,
  ⟨some 47, .nilchk (.t 46), some (39, false), [12, 5, 4, 3, 2, 1, 0]⟩,
  ⟨some 48, .fieldA 2 (.t 47), some (39, false), [13, 12, 5, 4, 3, 2, 1, 0]⟩,
  ⟨some 49, .load false 1 (.t 48), some (39, false), [14, 13, 12, 5, 4, 3, 2, 1, 0]⟩,
  ⟨some 50, .bin .rem (.t 45) (.t 49), some (39, false), [11, 6, 5, 4, 3, 2, 1, 0, 10, 9, 8, 7, 15, 14, 13, 12]⟩,
  ⟨some 51, .bin .eql (.t 50) (.c (.int .u32 0)), some (39, false), [16, 11, 6, 5, 4, 3, 2, 1, 0, 10, 9, 8, 7, 15, 14, 13, 12]⟩,
  ⟨some 52, .pick (.t 39) (.c (.bool true)) (.t 51), none, [5, 4, 3, 2, 1, 0, 17, 16, 11, 6, 10, 9, 8, 7, 15, 14, 13, 12]⟩,
  ⟨some 4, .mv (.t 52), none, [18, 5, 4, 3, 2, 1, 0, 17, 16, 11, 6, 10, 9, 8, 7, 15, 14, 13, 12]⟩]) (.ret)) (.skip))))))) (.reg false [
  ⟨some 53, .bin .add (.t 16) (.c (.int .i64 1)), none, []⟩,
  ⟨some 16, .mv (.t 53), none, []⟩]))))))) (.seq (.reg false [
  ⟨some 4, .mv (.c (.bool false)), none, []⟩]) (.ret))) (.skip))) (.seq (.reg false [
  ⟨some 7, .mv (.c (.int .i64 0)), none, []⟩]) (.seq (.reg false [
  ⟨some 54, .mv (.t 0), none, []⟩,
  ⟨some 55, .lenS (.t 54), none, []⟩,
  ⟨some 8, .mv (.t 55), none, []⟩]) (.seq (.block 2 (.loop (.seq (.seq (.reg false [
  ⟨some 56, .mv (.t 7), none, []⟩,
  ⟨some 57, .mv (.t 8), none, []⟩,
  ⟨some 58, .bin .lss (.t 56) (.t 57), none, []⟩]) (.cond (.t 58) (.skip) (.exit 2))) (.block 3 (.seq (.reg false [
  ⟨some 59, .mv (.t 7), none, []⟩,
  ⟨some 60, .mv (.t 8), none, []⟩,
  ⟨some 61, .bin .add (.t 59) (.t 60), none, []⟩,
  ⟨some 62, .toInt .u64 (.t 61), none, []⟩,
  ⟨some 63, .bin .shr (.t 62) (.c (.int .u64 1)), none, []⟩,
  ⟨some 64, .toInt .i64 (.t 63), none, []⟩,
  ⟨some 9, .mv (.t 64), none, []⟩]) (.seq (.reg false [
  ⟨some 65, .mv (.t 0), none, []⟩,
  ⟨some 66, .mv (.t 9), none, []⟩,
  ⟨some 67, .idxS 3 (.t 65) (.t 66), none, []⟩,
  ⟨some 68, .load true 3 (.t 67), none, []⟩,
  ⟨some 10, .pend [(.int .u32 0), (.int .u32 0), (.int .u32 0)], none, []⟩,
  ⟨none, .shut 10 3 (.t 68), none, []⟩]) (.seq (.seq (.reg false [
  ⟨some 69, .fieldA 0 (.t 10), none, []⟩,
  ⟨some 70, .load false 1 (.t 69), none, []⟩,
  ⟨some 71, .mv (.t 1), none, []⟩,
  ⟨some 72, .bin .leq (.t 70) (.t 71), none, []⟩,
  ⟨some 73, .mv (.t 72), none, []⟩,
  ⟨some 74, .mv (.t 1), some (73, true), []⟩,
  ⟨some 75, .fieldA 1 (.t 10), some (73, true), []⟩,
  ⟨some 76, .load false 1 (.t 75), some (73, true), []⟩,
  ⟨some 77, .bin .leq (.t 74) (.t 76), some (73, true), []⟩,
  ⟨some 78, .pick (.t 73) (.t 77) (.c (.bool false)), none, []⟩]) (.cond (.t 78) (.seq (.reg false [
  ⟨some 79, .fieldA 2 (.t 10), none, []⟩,
  ⟨some 80, .load false 1 (.t 79), none, []⟩,
  ⟨some 81, .bin .eql (.t 80) (.c (.int .u32 1)), none, []⟩,
  ⟨some 82, .mv (.t 81), none, []⟩,
  ⟨some 83, .mv (.t 1), some (82, false), []⟩,
  ⟨some 84, .fieldA 0 (.t 10), some (82, false), []⟩,
  ⟨some 85, .load false 1 (.t 84), some (82, false), []⟩,
  ⟨some 86, .bin .sub (.t 83) (.t 85), some (82, false), []⟩,
  ⟨some 87, .fieldA 2 (.t 10), some (82, false), []⟩,
  ⟨some 88, .load false 1 (.t 87), some (82, false), []⟩,
  ⟨some 89, .bin .rem (.t 86) (.t 88), some (82, false), []⟩,
  ⟨some 90, .bin .eql (.t 89) (.c (.int .u32 0)), some (82, false), []⟩,
  ⟨some 91, .pick (.t 82) (.c (.bool true)) (.t 90), none, []⟩,
  ⟨some 4, .mv (.t 91), none, []⟩]) (.ret)) (.skip))) (.seq (.reg false [
  ⟨some 92, .mv (.t 1), none, []⟩,
  ⟨some 93, .fieldA 0 (.t 10), none, []⟩,
  ⟨some 94, .load false 1 (.t 93), none, []⟩,
  ⟨some 95, .bin .lss (.t 92) (.t 94), none, []⟩]) (.cond (.t 95) (.reg false [
  ⟨some 96, .mv (.t 9), none, []⟩,
  ⟨some 8, .mv (.t 96), none, []⟩]) (.reg false [
  ⟨some 97, .mv (.t 9), none, []⟩,
  ⟨some 98, .bin .add (.t 97) (.c (.int .i64 1)), none, []⟩,
  ⟨some 7, .mv (.t 98), none, []⟩])))))))))) (.seq (.reg false [
  ⟨some 4, .mv (.c (.bool false)), none, []⟩]) (.ret)))))))⟩
end Go.Proofs.YthmlommnlihgcaaGreatDoor.Code
