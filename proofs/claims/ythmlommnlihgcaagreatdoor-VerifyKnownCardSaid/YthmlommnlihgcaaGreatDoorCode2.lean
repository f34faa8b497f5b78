/- The functions of the program in cooked form, printed by a program of the prover's own. -/
import Derived.Test.YthmlommnlihgcaaGreatDoorCode1
set_option maxRecDepth 100000
namespace Go.Proofs.YthmlommnlihgcaaGreatDoor.Code
open Go Go.Fw
def h45 : Hint := { cb := [], ps := [], cp := [], cs := [], ap := [], ls := [] }
def c45 : AF := ⟨1, 19, [.tmp 2],
 (.seq (.reg false [
  ⟨some 2, .mv (.c (.int .i64 0)), none, []⟩]) (.seq (.seq (.reg false [
  ⟨some 3, .mv (.t 0), none, []⟩,
  ⟨some 4, .bin .geq (.t 3) (.c (.int .u32 65536)), none, []⟩]) (.cond (.t 4) (.seq (.reg false [
  ⟨some 5, .mv (.t 0), none, []⟩,
  ⟨some 6, .bin .shr (.t 5) (.c (.int .u64 16)), none, []⟩,
  ⟨some 0, .mv (.t 6), none, []⟩]) (.reg false [
  ⟨some 2, .mv (.c (.int .i64 16)), none, []⟩])) (.skip))) (.seq (.seq (.reg false [
  ⟨some 7, .mv (.t 0), none, []⟩,
  ⟨some 8, .bin .geq (.t 7) (.c (.int .u32 256)), none, []⟩]) (.cond (.t 8) (.seq (.reg false [
  ⟨some 9, .mv (.t 0), none, []⟩,
  ⟨some 10, .bin .shr (.t 9) (.c (.int .u64 8)), none, []⟩,
  ⟨some 0, .mv (.t 10), none, []⟩]) (.reg false [
  ⟨some 11, .mv (.t 2), none, []⟩,
  ⟨some 12, .bin .add (.t 11) (.c (.int .i64 8)), none, []⟩,
  ⟨some 2, .mv (.t 12), none, []⟩])) (.skip))) (.seq (.reg false [
  ⟨some 13, .mv (.t 2), none, []⟩,
  ⟨some 14, .mv (.t 0), none, []⟩,
  ⟨some 15, .toInt .u8 (.t 14), none, []⟩,
  ⟨some 16, .idxStr (.c (.str [0, 1, 2, 2, 3, 3, 3, 3, 4, 4, 4, 4, 4, 4, 4, 4, 5, 5, 5, 5, 5, 5, 5, 5, 5, 5, 5, 5, 5, 5, 5, 5, 6, 6, 6, 6, 6, 6, 6, 6, 6, 6, 6, 6, 6, 6, 6, 6, 6, 6, 6, 6, 6, 6, 6, 6, 6, 6, 6, 6, 6, 6, 6, 6, 7, 7, 7, 7, 7, 7, 7, 7, 7, 7, 7, 7, 7, 7, 7, 7, 7, 7, 7, 7, 7, 7, 7, 7, 7, 7, 7, 7, 7, 7, 7, 7, 7, 7, 7, 7, 7, 7, 7, 7, 7, 7, 7, 7, 7, 7, 7, 7, 7, 7, 7, 7, 7, 7, 7, 7, 7, 7, 7, 7, 7, 7, 7, 7, 8, 8, 8, 8, 8, 8, 8, 8, 8, 8, 8, 8, 8, 8, 8, 8, 8, 8, 8, 8, 8, 8, 8, 8, 8, 8, 8, 8, 8, 8, 8, 8, 8, 8, 8, 8, 8, 8, 8, 8, 8, 8, 8, 8, 8, 8, 8, 8, 8, 8, 8, 8, 8, 8, 8, 8, 8, 8, 8, 8, 8, 8, 8, 8, 8, 8, 8, 8, 8, 8, 8, 8, 8, 8, 8, 8, 8, 8, 8, 8, 8, 8, 8, 8, 8, 8, 8, 8, 8, 8, 8, 8, 8, 8, 8, 8, 8, 8, 8, 8, 8, 8, 8, 8, 8, 8, 8, 8, 8, 8, 8, 8, 8, 8, 8, 8, 8, 8, 8, 8, 8, 8, 8, 8, 8, 8, 8, 8])) (.t 15), none, []⟩,
  ⟨some 17, .toInt .i64 (.t 16), none, []⟩,
  ⟨some 18, .bin .add (.t 13) (.t 17), none, []⟩,
  ⟨some 2, .mv (.t 18), none, []⟩]) (.ret)))))⟩
def h46 : Hint := { cb := [], ps := [], cp := [], cs := [], ap := [], ls := [] }
def c46 : AF := ⟨1, 25, [.tmp 2],
 (.seq (.reg false [
  ⟨some 2, .mv (.c (.int .i64 0)), none, []⟩]) (.seq (.seq (.reg false [
  ⟨some 3, .mv (.t 0), none, []⟩,
  ⟨some 4, .bin .geq (.t 3) (.c (.int .u64 4294967296)), none, []⟩]) (.cond (.t 4) (.seq (.reg false [
  ⟨some 5, .mv (.t 0), none, []⟩,
  ⟨some 6, .bin .shr (.t 5) (.c (.int .u64 32)), none, []⟩,
  ⟨some 0, .mv (.t 6), none, []⟩]) (.reg false [
  ⟨some 2, .mv (.c (.int .i64 32)), none, []⟩])) (.skip))) (.seq (.seq (.reg false [
  ⟨some 7, .mv (.t 0), none, []⟩,
  ⟨some 8, .bin .geq (.t 7) (.c (.int .u64 65536)), none, []⟩]) (.cond (.t 8) (.seq (.reg false [
  ⟨some 9, .mv (.t 0), none, []⟩,
  ⟨some 10, .bin .shr (.t 9) (.c (.int .u64 16)), none, []⟩,
  ⟨some 0, .mv (.t 10), none, []⟩]) (.reg false [
  ⟨some 11, .mv (.t 2), none, []⟩,
  ⟨some 12, .bin .add (.t 11) (.c (.int .i64 16)), none, []⟩,
  ⟨some 2, .mv (.t 12), none, []⟩])) (.skip))) (.seq (.seq (.reg false [
  ⟨some 13, .mv (.t 0), none, []⟩,
  ⟨some 14, .bin .geq (.t 13) (.c (.int .u64 256)), none, []⟩]) (.cond (.t 14) (.seq (.reg false [
  ⟨some 15, .mv (.t 0), none, []⟩,
  ⟨some 16, .bin .shr (.t 15) (.c (.int .u64 8)), none, []⟩,
  ⟨some 0, .mv (.t 16), none, []⟩]) (.reg false [
  ⟨some 17, .mv (.t 2), none, []⟩,
  ⟨some 18, .bin .add (.t 17) (.c (.int .i64 8)), none, []⟩,
  ⟨some 2, .mv (.t 18), none, []⟩])) (.skip))) (.seq (.reg false [
  ⟨some 19, .mv (.t 2), none, []⟩,
  ⟨some 20, .mv (.t 0), none, []⟩,
  ⟨some 21, .toInt .u8 (.t 20), none, []⟩,
  ⟨some 22, .idxStr (.c (.str [0, 1, 2, 2, 3, 3, 3, 3, 4, 4, 4, 4, 4, 4, 4, 4, 5, 5, 5, 5, 5, 5, 5, 5, 5, 5, 5, 5, 5, 5, 5, 5, 6, 6, 6, 6, 6, 6, 6, 6, 6, 6, 6, 6, 6, 6, 6, 6, 6, 6, 6, 6, 6, 6, 6, 6, 6, 6, 6, 6, 6, 6, 6, 6, 7, 7, 7, 7, 7, 7, 7, 7, 7, 7, 7, 7, 7, 7, 7, 7, 7, 7, 7, 7, 7, 7, 7, 7, 7, 7, 7, 7, 7, 7, 7, 7, 7, 7, 7, 7, 7, 7, 7, 7, 7, 7, 7, 7, 7, 7, 7, 7, 7, 7, 7, 7, 7, 7, 7, 7, 7, 7, 7, 7, 7, 7, 7, 7, 8, 8, 8, 8, 8, 8, 8, 8, 8, 8, 8, 8, 8, 8, 8, 8, 8, 8, 8, 8, 8, 8, 8, 8, 8, 8, 8, 8, 8, 8, 8, 8, 8, 8, 8, 8, 8, 8, 8, 8, 8, 8, 8, 8, 8, 8, 8, 8, 8, 8, 8, 8, 8, 8, 8, 8, 8, 8, 8, 8, 8, 8, 8, 8, 8, 8, 8, 8, 8, 8, 8, 8, 8, 8, 8, 8, 8, 8, 8, 8, 8, 8, 8, 8, 8, 8, 8, 8, 8, 8, 8, 8, 8, 8, 8, 8, 8, 8, 8, 8, 8, 8, 8, 8, 8, 8, 8, 8, 8, 8, 8, 8, 8, 8, 8, 8, 8, 8, 8, 8, 8, 8, 8, 8, 8, 8, 8, 8])) (.t 21), none, []⟩,
  ⟨some 23, .toInt .i64 (.t 22), none, []⟩,
  ⟨some 24, .bin .add (.t 19) (.t 23), none, []⟩,
  ⟨some 2, .mv (.t 24), none, []⟩]) (.ret))))))⟩
def h47 : Hint := { cb := [], ps := [], cp := [], cs := [], ap := [], ls := [] }
def c47 : AF := ⟨1, 6, [.cell 2 false 1],
 (.seq (.reg false [
  ⟨some 2, .alloc [(.int .i64 0)], none, []⟩]) (.seq (.reg false [
  ⟨some 3, .mkFunc 68 [] [(.t 2)], none, []⟩,
  ⟨none, .defer (.t 3) [], none, []⟩]) (.seq (.reg false [
  ⟨some 4, .mv (.t 0), none, []⟩,
  ⟨some 5, .call (.t 4) [], none, []⟩]) (.seq (.reg false [
  ⟨none, .store 1 (.t 2) (.c (.int .i64 0)), none, []⟩]) (.ret)))))⟩
def h48 : Hint := { cb := [13, 1], ps := [8, 7, 5], cp := [], cs := [], ap := [], ls := [] }
def c48 : AF := ⟨1, 54, [.tmp 2],
 (.seq (.reg false [
  ⟨some 1, .boxc (.t 0), none, []⟩,
  ⟨some 2, .mv (.c .nilptr), none, []⟩]) (.seq (.reg false [
  ⟨some 10, .load true 10 (.t 1), none, []⟩,
  ⟨some 11, .mkMap, none, []⟩,
  ⟨some 12, .build [(.slice 0 [] .full), (.slice 0 [] .full), (.slice 0 [] .full), (.int .i64 0), (.int .i64 0), (.str []), (.str []), (.slice 0 [] .full), (.slice 0 [] .full), (.slice 0 [] .full), .nilmap] [(0, 10, (.t 10)), (10, 1, (.t 11))], none, []⟩,
  ⟨some 13, .boxc (.t 12), none, []⟩,
  ⟨some 3, .mv (.t 13), none, []⟩]) (.seq (.seq (.reg false [
  ⟨some 14, .fieldA 0 (.t 1), none, []⟩,
  ⟨some 15, .load false 1 (.t 14), none, []⟩,
  ⟨some 16, .lenS (.t 15), none, []⟩,
  ⟨some 17, .mv (.c (.int .i64 0)), none, []⟩]) (.block 0 (.loop (.seq (.reg false [
  ⟨some 18, .bin .lss (.t 17) (.t 16), none, []⟩]) (.seq (.cond (.t 18) (.skip) (.exit 0)) (.seq (.block 1 (.seq (.reg false [
  ⟨some 19, .mv (.t 17), none, []⟩,
  ⟨some 20, .idxS 3 (.t 15) (.t 17), none, []⟩,
  ⟨some 21, .load true 3 (.t 20), none, []⟩,
  ⟨some 5, .pend [(.str []), (.slice 0 [] .full), (.slice 0 [] .full)], none, []⟩,
  ⟨some 4, .mv (.t 19), none, []⟩,
  ⟨none, .shut 5 3 (.t 21), none, []⟩]) (.seq (.reg false [
  ⟨some 22, .fieldA 2 (.t 5), none, []⟩,
  ⟨some 23, .load false 1 (.t 22), none, []⟩,
  ⟨some 24, .lenS (.t 23), none, []⟩,
  ⟨some 25, .mv (.c (.int .i64 0)), none, []⟩]) (.block 2 (.loop (.seq (.reg false [
  ⟨some 26, .bin .lss (.t 25) (.t 24), none, []⟩]) (.seq (.cond (.t 26) (.skip) (.exit 2)) (.seq (.block 3 (.seq (.reg false [
  ⟨some 27, .mv (.t 25), none, []⟩,
  ⟨some 28, .idxS 2 (.t 23) (.t 25), none, []⟩,
  ⟨some 29, .load true 2 (.t 28), none, []⟩,
  ⟨some 7, .pend [(.str []), (.slice 0 [] .full)], none, []⟩,
  ⟨some 6, .mv (.t 27), none, []⟩,
  ⟨none, .shut 7 2 (.t 29), none, []⟩]) (.seq (.reg true [
  ⟨some 31, .mv (.t 3), none, []⟩,
  ⟨some 32, .nilchk (.t 31), none, [0]⟩,
  ⟨some 33, .fieldA 10 (.t 32), none, [1, 0]⟩,
  ⟨some 34, .load false 1 (.t 33), none, [2, 1, 0]⟩,
  ⟨some 35, .fieldA 0 (.t 7), none, []⟩,
  ⟨some 36, .load false 1 (.t 35), none, [4]⟩,
  ⟨some 37, .lookup true .str (.agg [(.int .i64 0), (.int .i64 0)]) (.t 34) (.t 36), none, [3, 2, 1, 0, 5, 4]⟩,
  ⟨some 30, .mv (.t 37), none, [6, 3, 2, 1, 0, 5, 4]⟩,
  ⟨some 38, .extract (.t 30) 0, none, [7, 6, 3, 2, 1, 0, 5, 4]⟩,
  ⟨some 39, .extract (.t 30) 1, none, [7, 6, 3, 2, 1, 0, 5, 4]⟩,
  ⟨some 8, .pend [(.int .i64 0), (.int .i64 0)], none, []⟩,
  ⟨none, .shut 8 2 (.t 38), none, [10, 8, 7, 6, 3, 2, 1, 0, 5, 4]⟩,
  ⟨some 9, .mv (.t 39), none, [9, 7, 6, 3, 2, 1, 0, 5, 4, 11, 10, 8]⟩]) (.seq (.reg false [
  ⟨some 40, .mv (.t 9), none, []⟩,
  ⟨some 41, .un .not (.t 40), none, []⟩]) (.cond (.t 41) (.reg true [
  ⟨some 42, .mv (.t 3), none, []⟩,
  ⟨some 43, .nilchk (.t 42), none, [0]⟩,
  ⟨some 44, .fieldA 10 (.t 43), none, [1, 0]⟩,
  ⟨some 45, .load false 1 (.t 44), none, [2, 1, 0]⟩,
  ⟨some 46, .fieldA 0 (.t 7), none, []⟩,
  ⟨some 47, .load false 1 (.t 46), none, [4]⟩,
  ⟨some 48, .mv (.t 4), none, []⟩,
  ⟨some 49, .mv (.t 6), none, []⟩,
  ⟨some 50, .build [(.int .i64 0), (.int .i64 0)] [(0, 1, (.t 48)), (1, 1, (.t 49))], none, [6, 7]⟩,
  ⟨none, .mapSet .str (.t 45) (.t 47) (.t 50), none, [3, 2, 1, 0, 5, 4, 8, 6, 7]⟩]) (.skip)))))) (.reg false [
  ⟨some 51, .bin .add (.t 25) (.c (.int .i64 1)), none, []⟩,
  ⟨some 25, .mv (.t 51), none, []⟩]))))))))) (.reg false [
  ⟨some 52, .bin .add (.t 17) (.c (.int .i64 1)), none, []⟩,
  ⟨some 17, .mv (.t 52), none, []⟩]))))))) (.seq (.reg false [
  ⟨some 53, .mv (.t 3), none, []⟩,
  ⟨some 2, .mv (.t 53), none, []⟩]) (.ret)))))⟩
def h49 : Hint := { cb := [], ps := [16, 14, 10, 8, 6], cp := [29], cs := [], ap := [], ls := [] }
def c49 : AF := ⟨1, 110, [],
 (.seq (.reg true [
  ⟨some 17, .mv (.t 0), none, []⟩,
  ⟨some 18, .nilchk (.t 17), none, [0]⟩,
  ⟨some 19, .fieldA 0 (.t 18), none, [1, 0]⟩,
  ⟨some 20, .fieldA 0 (.t 19), none, [2, 1, 0]⟩,
  ⟨some 21, .load false 1 (.t 20), none, [3, 2, 1, 0]⟩,
  ⟨some 22, .mv (.t 0), none, []⟩,
  ⟨some 23, .nilchk (.t 22), none, [5]⟩,
  ⟨some 24, .fieldA 0 (.t 23), none, [6, 5]⟩,
  ⟨some 25, .fieldA 1 (.t 24), none, [7, 6, 5]⟩,
  ⟨some 26, .load false 1 (.t 25), none, [8, 7, 6, 5]⟩,
  ⟨some 27, .build [(.int .i64 0), (.int .i64 0), (.str []), (.str []), (.slice 0 [] .full), (.slice 0 [] .full), (.slice 0 [] .full)] [(0, 1, (.c (.int .i64 3)))], none, []⟩,
  ⟨some 28, .build [(.slice 0 [] .full), (.slice 0 [] .full), (.slice 0 [] .full), (.int .i64 0), (.int .i64 0), (.str []), (.str []), (.slice 0 [] .full), (.slice 0 [] .full), (.slice 0 [] .full)] [(0, 1, (.t 21)), (1, 1, (.t 26)), (3, 7, (.t 27))], none, [4, 3, 2, 1, 0, 9, 8, 7, 6, 5, 10]⟩,
  ⟨some 29, .callP false (.f 70) [(.t 28)], none, [11, 4, 3, 2, 1, 0, 9, 8, 7, 6, 5, 10]⟩,
  ⟨some 30, .call (.f 69) [(.t 29)], none, [12, 11, 4, 3, 2, 1, 0, 9, 8, 7, 6, 5, 10]⟩]) (.seq (.reg false [
  ⟨some 31, .bslice 1 3 [(.str [])] [(0, (.c (.str [73, 110, 116]))), (1, (.c (.str [66, 111, 111, 108]))), (2, (.c (.str [85, 110, 105, 116])))], none, []⟩,
  ⟨some 32, .bslice 1 0 [(.str [])] [], none, []⟩,
  ⟨some 2, .alloc [(.slice 0 [] .full)], none, []⟩,
  ⟨some 3, .alloc [(.slice 0 [] .full)], none, []⟩,
  ⟨none, .store 1 (.t 2) (.t 31), none, []⟩,
  ⟨none, .store 1 (.t 3) (.t 32), none, []⟩]) (.seq (.reg false [
  ⟨some 4, .mv (.f 71), none, []⟩]) (.seq (.seq (.reg false [
  ⟨some 33, .mv (.t 0), none, []⟩,
  ⟨some 34, .nilchk (.t 33), none, []⟩,
  ⟨some 35, .fieldA 0 (.t 34), none, []⟩,
  ⟨some 36, .fieldA 0 (.t 35), none, []⟩,
  ⟨some 37, .load false 1 (.t 36), none, []⟩,
  ⟨some 38, .lenS (.t 37), none, []⟩,
  ⟨some 39, .mv (.c (.int .i64 0)), none, []⟩]) (.block 0 (.loop (.seq (.reg false [
  ⟨some 40, .bin .lss (.t 39) (.t 38), none, []⟩]) (.seq (.cond (.t 40) (.skip) (.exit 0)) (.seq (.block 1 (.seq (.reg false [
  ⟨some 41, .idxS 3 (.t 37) (.t 39), none, []⟩,
  ⟨some 42, .load true 3 (.t 41), none, []⟩,
  ⟨some 6, .pend [(.str []), (.slice 0 [] .full), (.slice 0 [] .full)], none, []⟩,
  ⟨none, .shut 6 3 (.t 42), none, []⟩]) (.seq (.reg false [
  ⟨some 43, .mv (.t 4), none, []⟩,
  ⟨some 44, .fieldA 0 (.t 6), none, []⟩,
  ⟨some 45, .load false 1 (.t 44), none, []⟩,
  ⟨some 46, .call (.t 43) [(.t 2), (.t 45)], none, []⟩]) (.seq (.reg false [
  ⟨some 47, .fieldA 2 (.t 6), none, []⟩,
  ⟨some 48, .load false 1 (.t 47), none, []⟩,
  ⟨some 49, .lenS (.t 48), none, []⟩,
  ⟨some 50, .mv (.c (.int .i64 0)), none, []⟩]) (.block 2 (.loop (.seq (.reg false [
  ⟨some 51, .bin .lss (.t 50) (.t 49), none, []⟩]) (.seq (.cond (.t 51) (.skip) (.exit 2)) (.seq (.block 3 (.seq (.reg false [
  ⟨some 52, .idxS 2 (.t 48) (.t 50), none, []⟩,
  ⟨some 53, .load true 2 (.t 52), none, []⟩,
  ⟨some 8, .pend [(.str []), (.slice 0 [] .full)], none, []⟩,
  ⟨none, .shut 8 2 (.t 53), none, []⟩]) (.seq (.reg false [
  ⟨some 54, .mv (.t 4), none, []⟩,
  ⟨some 55, .fieldA 0 (.t 8), none, []⟩,
  ⟨some 56, .load false 1 (.t 55), none, []⟩,
  ⟨some 57, .call (.t 54) [(.t 3), (.t 56)], none, []⟩]) (.seq (.reg false [
  ⟨some 58, .fieldA 1 (.t 8), none, []⟩,
  ⟨some 59, .load false 1 (.t 58), none, []⟩,
  ⟨some 60, .lenS (.t 59), none, []⟩,
  ⟨some 61, .mv (.c (.int .i64 0)), none, []⟩]) (.block 4 (.loop (.seq (.reg false [
  ⟨some 62, .bin .lss (.t 61) (.t 60), none, []⟩]) (.seq (.cond (.t 62) (.skip) (.exit 4)) (.seq (.block 5 (.seq (.reg false [
  ⟨some 63, .idxS 6 (.t 59) (.t 61), none, []⟩,
  ⟨some 64, .load true 6 (.t 63), none, []⟩,
  ⟨some 10, .pend [(.int .i64 0), (.int .i64 0), (.str []), (.slice 0 [] .full), (.slice 0 [] .full), (.int .i64 0)], none, []⟩,
  ⟨none, .shut 10 6 (.t 64), none, []⟩]) (.reg false [
  ⟨some 65, .mv (.t 0), none, []⟩,
  ⟨some 66, .load true 6 (.t 10), none, []⟩,
  ⟨some 67, .fieldA 1 (.t 6), none, []⟩,
  ⟨some 68, .load false 1 (.t 67), none, []⟩,
  ⟨some 69, .call (.f 74) [(.t 65), (.t 66), (.t 68)], none, []⟩]))) (.reg false [
  ⟨some 70, .bin .add (.t 61) (.c (.int .i64 1)), none, []⟩,
  ⟨some 61, .mv (.t 70), none, []⟩])))))))))) (.reg false [
  ⟨some 71, .bin .add (.t 50) (.c (.int .i64 1)), none, []⟩,
  ⟨some 50, .mv (.t 71), none, []⟩])))))))))) (.reg false [
  ⟨some 72, .bin .add (.t 39) (.c (.int .i64 1)), none, []⟩,
  ⟨some 39, .mv (.t 72), none, []⟩]))))))) (.seq (.reg false [
  ⟨some 73, .bslice 1 1 [(.str [])] [(0, (.c (.str [73, 79])))], none, []⟩,
  ⟨some 74, .bslice 1 2 [(.str [])] [(0, (.c (.str [112, 114, 105, 110, 116]))), (1, (.c (.str [114, 101, 97, 100])))], none, []⟩,
  ⟨some 11, .alloc [(.slice 0 [] .full)], none, []⟩,
  ⟨some 12, .alloc [(.slice 0 [] .full)], none, []⟩,
  ⟨none, .store 1 (.t 11) (.t 73), none, []⟩,
  ⟨none, .store 1 (.t 12) (.t 74), none, []⟩]) (.seq (.reg false [
  ⟨some 75, .mv (.t 0), none, []⟩,
  ⟨some 76, .nilchk (.t 75), none, []⟩,
  ⟨some 77, .fieldA 0 (.t 76), none, []⟩,
  ⟨some 78, .fieldA 1 (.t 77), none, []⟩,
  ⟨some 79, .load false 1 (.t 78), none, []⟩,
  ⟨some 80, .lenS (.t 79), none, []⟩,
  ⟨some 81, .mv (.c (.int .i64 0)), none, []⟩]) (.block 6 (.loop (.seq (.reg false [
  ⟨some 82, .bin .lss (.t 81) (.t 80), none, []⟩]) (.seq (.cond (.t 82) (.skip) (.exit 6)) (.seq (.block 7 (.seq (.reg false [
  ⟨some 83, .idxS 2 (.t 79) (.t 81), none, []⟩,
  ⟨some 84, .load true 2 (.t 83), none, []⟩,
  ⟨some 14, .pend [(.str []), (.slice 0 [] .full)], none, []⟩,
  ⟨none, .shut 14 2 (.t 84), none, []⟩]) (.seq (.reg false [
  ⟨some 85, .mv (.t 4), none, []⟩,
  ⟨some 86, .fieldA 0 (.t 14), none, []⟩,
  ⟨some 87, .load false 1 (.t 86), none, []⟩,
  ⟨some 88, .call (.t 85) [(.t 11), (.t 87)], none, []⟩]) (.seq (.reg false [
  ⟨some 89, .fieldA 1 (.t 14), none, []⟩,
  ⟨some 90, .load false 1 (.t 89), none, []⟩,
  ⟨some 91, .lenS (.t 90), none, []⟩,
  ⟨some 92, .mv (.c (.int .i64 0)), none, []⟩]) (.block 8 (.loop (.seq (.reg false [
  ⟨some 93, .bin .lss (.t 92) (.t 91), none, []⟩]) (.seq (.cond (.t 93) (.skip) (.exit 8)) (.seq (.block 9 (.seq (.reg false [
  ⟨some 94, .idxS 14 (.t 90) (.t 92), none, []⟩,
  ⟨some 95, .load true 14 (.t 94), none, []⟩,
  ⟨some 16, .pend [(.str []), (.int .i64 0), (.int .i64 0), (.str []), (.slice 0 [] .full), (.slice 0 [] .full), (.int .i64 0), (.int .i64 0), (.int .i64 0), (.str []), (.slice 0 [] .full), (.slice 0 [] .full), (.int .i64 0), (.bool false)], none, []⟩,
  ⟨none, .shut 16 14 (.t 95), none, []⟩]) (.seq (.reg false [
  ⟨some 96, .mv (.t 4), none, []⟩,
  ⟨some 97, .fieldA 0 (.t 16), none, []⟩,
  ⟨some 98, .load false 1 (.t 97), none, []⟩,
  ⟨some 99, .call (.t 96) [(.t 12), (.t 98)], none, []⟩]) (.seq (.reg false [
  ⟨some 100, .mv (.t 0), none, []⟩,
  ⟨some 101, .fieldA 1 (.t 16), none, []⟩,
  ⟨some 102, .load true 6 (.t 101), none, []⟩,
  ⟨some 103, .call (.f 74) [(.t 100), (.t 102), (.c (.slice 0 [] .full))], none, []⟩]) (.reg false [
  ⟨some 104, .mv (.t 0), none, []⟩,
  ⟨some 105, .fieldA 7 (.t 16), none, []⟩,
  ⟨some 106, .load true 6 (.t 105), none, []⟩,
  ⟨some 107, .call (.f 74) [(.t 104), (.t 106), (.c (.slice 0 [] .full))], none, []⟩]))))) (.reg false [
  ⟨some 108, .bin .add (.t 92) (.c (.int .i64 1)), none, []⟩,
  ⟨some 92, .mv (.t 108), none, []⟩])))))))))) (.reg false [
  ⟨some 109, .bin .add (.t 81) (.c (.int .i64 1)), none, []⟩,
  ⟨some 81, .mv (.t 109), none, []⟩]))))))))))))⟩
def h50 : Hint := { cb := [3, 2], ps := [8], cp := [], cs := [], ap := [], ls := [] }
def c50 : AF := ⟨2, 27, [.tmp 4, .tmp 5, .tmp 6],
 (.seq (.reg false [
  ⟨some 2, .boxc (.t 0), none, []⟩,
  ⟨some 3, .boxc (.t 1), none, []⟩,
  ⟨some 4, .mv (.c (.int .i64 0)), none, []⟩,
  ⟨some 5, .mv (.c (.int .i64 0)), none, []⟩,
  ⟨some 6, .mv (.c (.int .i64 0)), none, []⟩]) (.seq (.seq (.reg false [
  ⟨some 10, .fieldA 0 (.t 2), none, []⟩,
  ⟨some 11, .load false 1 (.t 10), none, []⟩,
  ⟨some 12, .lenS (.t 11), none, []⟩,
  ⟨some 13, .mv (.c (.int .i64 0)), none, []⟩]) (.block 0 (.loop (.seq (.reg false [
  ⟨some 14, .bin .lss (.t 13) (.t 12), none, []⟩]) (.seq (.cond (.t 14) (.skip) (.exit 0)) (.seq (.block 1 (.seq (.reg false [
  ⟨some 15, .mv (.t 13), none, []⟩,
  ⟨some 16, .idxS 3 (.t 11) (.t 13), none, []⟩,
  ⟨some 17, .load true 3 (.t 16), none, []⟩,
  ⟨some 8, .pend [(.str []), (.slice 0 [] .full), (.slice 0 [] .full)], none, []⟩,
  ⟨some 7, .mv (.t 15), none, []⟩,
  ⟨none, .shut 8 3 (.t 17), none, []⟩]) (.seq (.reg false [
  ⟨some 18, .fieldA 2 (.t 8), none, []⟩,
  ⟨some 19, .load false 1 (.t 18), none, []⟩,
  ⟨some 20, .mkFunc 76 [] [(.t 3)], none, []⟩,
  ⟨some 21, .call (.f 75) [(.t 19), (.t 20)], none, []⟩,
  ⟨some 9, .mv (.t 21), none, []⟩]) (.seq (.reg false [
  ⟨some 22, .mv (.t 9), none, []⟩,
  ⟨some 23, .bin .geq (.t 22) (.c (.int .i64 0)), none, []⟩]) (.cond (.t 23) (.seq (.reg false [
  ⟨some 24, .mv (.t 7), none, []⟩,
  ⟨some 25, .mv (.t 9), none, []⟩,
  ⟨some 4, .mv (.t 24), none, []⟩,
  ⟨some 5, .mv (.t 25), none, []⟩,
  ⟨some 6, .mv (.c (.int .i64 0)), none, []⟩]) (.ret)) (.skip)))))) (.reg false [
  ⟨some 26, .bin .add (.t 13) (.c (.int .i64 1)), none, []⟩,
  ⟨some 13, .mv (.t 26), none, []⟩]))))))) (.seq (.reg false [
  ⟨some 4, .mv (.c (.int .i64 0)), none, []⟩,
  ⟨some 5, .mv (.c (.int .i64 0)), none, []⟩,
  ⟨some 6, .mv (.c (.int .i64 6)), none, []⟩]) (.ret))))⟩
def h51 : Hint := { cb := [2], ps := [], cp := [29, 27, 20, 18], cs := [], ap := [], ls := [] }
def c51 : AF := ⟨2, 33, [.tmp 4, .tmp 5, .tmp 6],
 (.seq (.reg false [
  ⟨some 2, .boxc (.t 0), none, []⟩,
  ⟨some 4, .mv (.c (.int .i64 0)), none, []⟩,
  ⟨some 5, .mv (.c (.int .i64 0)), none, []⟩,
  ⟨some 6, .mv (.c (.int .i64 0)), none, []⟩]) (.seq (.seq (.reg false [
  ⟨some 10, .fieldA 1 (.t 2), none, []⟩,
  ⟨some 11, .load false 1 (.t 10), none, []⟩,
  ⟨some 12, .lenS (.t 11), none, []⟩,
  ⟨some 13, .mv (.c (.int .i64 0)), none, []⟩]) (.block 0 (.loop (.seq (.reg false [
  ⟨some 14, .bin .lss (.t 13) (.t 12), none, []⟩]) (.seq (.cond (.t 14) (.skip) (.exit 0)) (.seq (.block 1 (.seq (.reg false [
  ⟨some 15, .mv (.t 13), none, []⟩,
  ⟨some 7, .mv (.t 15), none, []⟩]) (.seq (.reg false [
  ⟨some 16, .load true 10 (.t 2), none, []⟩,
  ⟨some 17, .mv (.t 7), none, []⟩,
  ⟨some 18, .callP false (.f 78) [(.t 16), (.t 17)], none, []⟩,
  ⟨some 19, .mv (.t 1), none, []⟩,
  ⟨some 20, .callP false (.f 77) [(.t 18), (.t 19)], none, []⟩,
  ⟨some 8, .mv (.t 20), none, []⟩]) (.seq (.reg false [
  ⟨some 21, .mv (.t 8), none, []⟩,
  ⟨some 22, .bin .geq (.t 21) (.c (.int .i64 0)), none, []⟩]) (.cond (.t 22) (.seq (.reg false [
  ⟨some 23, .mv (.t 7), none, []⟩,
  ⟨some 24, .mv (.t 8), none, []⟩,
  ⟨some 4, .mv (.t 23), none, []⟩,
  ⟨some 5, .mv (.t 24), none, []⟩,
  ⟨some 6, .mv (.c (.int .i64 0)), none, []⟩]) (.ret)) (.skip)))))) (.reg false [
  ⟨some 25, .bin .add (.t 13) (.c (.int .i64 1)), none, []⟩,
  ⟨some 13, .mv (.t 25), none, []⟩]))))))) (.seq (.seq (.reg false [
  ⟨some 26, .load true 10 (.t 2), none, []⟩,
  ⟨some 27, .callP false (.f 78) [(.t 26), (.c (.int .i64 (-1)))], none, []⟩,
  ⟨some 28, .mv (.t 1), none, []⟩,
  ⟨some 29, .callP false (.f 77) [(.t 27), (.t 28)], none, []⟩,
  ⟨some 9, .mv (.t 29), none, []⟩]) (.seq (.reg false [
  ⟨some 30, .mv (.t 9), none, []⟩,
  ⟨some 31, .bin .geq (.t 30) (.c (.int .i64 0)), none, []⟩]) (.cond (.t 31) (.seq (.reg false [
  ⟨some 32, .mv (.t 9), none, []⟩,
  ⟨some 4, .mv (.c (.int .i64 (-1))), none, []⟩,
  ⟨some 5, .mv (.t 32), none, []⟩,
  ⟨some 6, .mv (.c (.int .i64 0)), none, []⟩]) (.ret)) (.skip)))) (.seq (.reg false [
  ⟨some 4, .mv (.c (.int .i64 0)), none, []⟩,
  ⟨some 5, .mv (.c (.int .i64 0)), none, []⟩,
  ⟨some 6, .mv (.c (.int .i64 6)), none, []⟩]) (.ret)))))⟩
def h52 : Hint := { cb := [3, 2], ps := [], cp := [], cs := [], ap := [], ls := [] }
def c52 : AF := ⟨2, 16, [.tmp 4, .tmp 5],
 (.seq (.reg false [
  ⟨some 2, .boxc (.t 0), none, []⟩,
  ⟨some 3, .boxc (.t 1), none, []⟩,
  ⟨some 4, .mv (.c (.int .i64 0)), none, []⟩,
  ⟨some 5, .mv (.c (.int .i64 0)), none, []⟩]) (.seq (.seq (.reg false [
  ⟨some 7, .fieldA 1 (.t 2), none, []⟩,
  ⟨some 8, .load false 1 (.t 7), none, []⟩,
  ⟨some 9, .mkFunc 80 [] [(.t 3)], none, []⟩,
  ⟨some 10, .call (.f 79) [(.t 8), (.t 9)], none, []⟩,
  ⟨some 6, .mv (.t 10), none, []⟩]) (.seq (.reg false [
  ⟨some 11, .mv (.t 6), none, []⟩,
  ⟨some 12, .bin .geq (.t 11) (.c (.int .i64 0)), none, []⟩]) (.cond (.t 12) (.seq (.reg false [
  ⟨some 13, .mv (.t 6), none, []⟩,
  ⟨some 4, .mv (.t 13), none, []⟩,
  ⟨some 5, .mv (.c (.int .i64 0)), none, []⟩]) (.ret)) (.skip)))) (.seq (.seq (.reg false [
  ⟨some 14, .load false 1 (.t 3), none, []⟩,
  ⟨some 15, .bin .eql (.t 14) (.c (.str [73, 79])), none, []⟩]) (.cond (.t 15) (.seq (.reg false [
  ⟨some 4, .mv (.c (.int .i64 (-1))), none, []⟩,
  ⟨some 5, .mv (.c (.int .i64 0)), none, []⟩]) (.ret)) (.skip))) (.seq (.reg false [
  ⟨some 4, .mv (.c (.int .i64 0)), none, []⟩,
  ⟨some 5, .mv (.c (.int .i64 6)), none, []⟩]) (.ret)))))⟩
def h53 : Hint := { cb := [], ps := [], cp := [], cs := [], ap := [], ls := [] }
def c53 : AF := ⟨3, 13, [],
 (.seq (.reg false [
  ⟨some 5, .mv (.t 1), none, []⟩,
  ⟨some 6, .bin .neq (.t 5) (.c (.int .i64 0)), none, []⟩]) (.cond (.t 6) (.reg false [
  ⟨some 7, .load false 1 (.t 2), none, []⟩,
  ⟨some 8, .mv (.t 0), none, []⟩,
  ⟨some 9, .build [(.int .i64 0), (.int .i64 0)] [(0, 1, (.t 7)), (1, 1, (.t 8))], none, []⟩,
  ⟨some 10, .mv (.t 1), none, []⟩,
  ⟨some 11, .build [(.int .i64 0), (.int .i64 0), (.int .i64 0)] [(0, 2, (.t 9)), (2, 1, (.t 10))], none, []⟩,
  ⟨some 12, .mkIface 70 (.t 11), none, []⟩,
  ⟨none, .panic (.t 12), none, []⟩]) (.skip)))⟩
def h54 : Hint := { cb := [], ps := [], cp := [], cs := [], ap := [], ls := [] }
def c54 : AF := ⟨2, 14, [],
 (.reg false [
  ⟨some 4, .mv (.t 0), none, []⟩,
  ⟨some 5, .mv (.t 0), none, []⟩,
  ⟨some 6, .nilchk (.t 5), none, []⟩,
  ⟨some 7, .fieldA 0 (.t 6), none, []⟩,
  ⟨some 8, .load false 1 (.t 7), none, []⟩,
  ⟨some 9, .mv (.t 1), none, []⟩,
  ⟨some 10, .bslice 1 1 [(.int .i64 0)] [(0, (.t 9))], none, []⟩,
  ⟨some 11, .append false 1 8 (.t 8) (.t 10), none, []⟩,
  ⟨some 12, .nilchk (.t 4), none, []⟩,
  ⟨some 13, .fieldA 0 (.t 12), none, []⟩,
  ⟨none, .store 1 (.t 13) (.t 11), none, []⟩])⟩
def h55 : Hint := { cb := [1], ps := [], cp := [], cs := [], ap := [], ls := [] }
def c55 : AF := ⟨1, 4, [.tmp 2],
 (.seq (.reg false [
  ⟨some 1, .boxc (.t 0), none, []⟩,
  ⟨some 2, .mv (.c .nilfunc), none, []⟩]) (.seq (.reg false [
  ⟨some 3, .mkFunc 81 [] [(.t 1)], none, []⟩,
  ⟨some 2, .mv (.t 3), none, []⟩]) (.ret)))⟩
def h56 : Hint := { cb := [6, 5, 4], ps := [], cp := [41, 28], cs := [], ap := [], ls := [] }
def c56 : AF := ⟨4, 42, [.tmp 8],
 (.seq (.reg false [
  ⟨some 4, .boxc (.t 0), none, []⟩,
  ⟨some 5, .boxc (.t 1), none, []⟩,
  ⟨some 6, .boxc (.t 2), none, []⟩,
  ⟨some 8, .mv (.c (.int .i64 0)), none, []⟩]) (.seq (.block 0 (.seq (.reg false [
  ⟨some 10, .fieldA 0 (.t 6), none, []⟩,
  ⟨some 11, .load false 1 (.t 10), none, []⟩,
  ⟨some 12, .bin .eql (.t 11) (.c (.int .i64 3)), none, []⟩,
  ⟨some 13, .mv (.t 12), none, []⟩,
  ⟨some 14, .fieldA 0 (.t 6), some (13, false), []⟩,
  ⟨some 15, .load false 1 (.t 14), some (13, false), []⟩,
  ⟨some 16, .bin .eql (.t 15) (.c (.int .i64 4)), some (13, false), []⟩,
  ⟨some 17, .pick (.t 13) (.c (.bool true)) (.t 16), none, []⟩,
  ⟨some 18, .mv (.t 17), none, []⟩,
  ⟨some 19, .fieldA 1 (.t 6), some (18, true), []⟩,
  ⟨some 20, .load false 1 (.t 19), some (18, true), []⟩,
  ⟨some 21, .fieldA 2 (.t 5), some (18, true), []⟩,
  ⟨some 22, .load false 1 (.t 21), some (18, true), []⟩,
  ⟨some 23, .bin .geq (.t 20) (.t 22), some (18, true), []⟩,
  ⟨some 24, .pick (.t 18) (.t 23) (.c (.bool false)), none, []⟩,
  ⟨some 9, .mv (.t 24), none, []⟩]) (.cond (.t 9) (.seq (.reg false [
  ⟨some 8, .mv (.c (.int .i64 1)), none, []⟩]) (.ret)) (.seq (.reg false [
  ⟨some 26, .mv (.t 3), none, []⟩,
  ⟨some 27, .load true 4 (.t 6), none, []⟩,
  ⟨some 28, .callP false (.f 58) [(.t 27)], none, []⟩,
  ⟨some 29, .bin .lss (.t 26) (.t 28), none, []⟩,
  ⟨some 30, .mv (.t 29), none, []⟩,
  ⟨some 31, .fieldA 0 (.t 6), some (30, false), []⟩,
  ⟨some 32, .load false 1 (.t 31), some (30, false), []⟩,
  ⟨some 33, .bin .eql (.t 32) (.c (.int .i64 8)), some (30, false), []⟩,
  ⟨some 34, .mv (.t 33), some (30, false), []⟩,
  ⟨some 35, .mv (.t 3), some (34, true), []⟩,
  ⟨some 36, .bin .neq (.t 35) (.c (.int .i64 1)), some (34, true), []⟩,
  ⟨some 37, .pick (.t 34) (.t 36) (.c (.bool false)), some (30, false), []⟩,
  ⟨some 38, .pick (.t 30) (.c (.bool true)) (.t 37), none, []⟩,
  ⟨some 25, .mv (.t 38), none, []⟩]) (.cond (.t 25) (.seq (.reg false [
  ⟨some 8, .mv (.c (.int .i64 7)), none, []⟩]) (.ret)) (.skip)))))) (.seq (.reg false [
  ⟨some 39, .load true 3 (.t 4), none, []⟩,
  ⟨some 40, .load true 4 (.t 6), none, []⟩,
  ⟨some 41, .callP false (.f 82) [(.t 39), (.t 40)], none, []⟩,
  ⟨some 8, .mv (.t 41), none, []⟩]) (.ret))))⟩
def h57 : Hint := { cb := [3], ps := [], cp := [8], cs := [], ap := [], ls := [] }
def c57 : AF := ⟨2, 46, [.tmp 4],
 (.seq (.reg false [
  ⟨some 3, .boxc (.t 1), none, []⟩,
  ⟨some 4, .mv (.c (.slice 0 [] .full)), none, []⟩]) (.seq (.reg false [
  ⟨some 6, .fieldA 0 (.t 3), none, []⟩,
  ⟨some 7, .load false 1 (.t 6), none, []⟩,
  ⟨some 8, .callP false (.f 83) [(.t 7)], none, []⟩,
  ⟨some 9, .idxV 4 1 false (.t 8) (.c (.int .i64 1)), none, []⟩,
  ⟨some 5, .mv (.t 9), none, []⟩]) (.seq (.seq (.reg false [
  ⟨some 10, .fieldA 0 (.t 3), none, []⟩,
  ⟨some 11, .load false 1 (.t 10), none, []⟩]) (.block 0 (.seq (.seq (.reg false [
  ⟨some 13, .bin .eql (.t 11) (.c (.int .i64 8)), none, []⟩,
  ⟨some 12, .mv (.t 13), none, []⟩]) (.cond (.t 12) (.skip) (.reg false [
  ⟨some 14, .bin .eql (.t 11) (.c (.int .i64 13)), none, []⟩,
  ⟨some 12, .mv (.t 14), none, []⟩]))) (.cond (.t 12) (.seq (.reg false [
  ⟨some 4, .mv (.c (.slice 0 [] .full)), none, []⟩]) (.ret)) (.seq (.reg false [
  ⟨some 16, .bin .eql (.t 11) (.c (.int .i64 10)), none, []⟩,
  ⟨some 15, .mv (.t 16), none, []⟩]) (.cond (.t 15) (.seq (.reg false [
  ⟨some 17, .fieldA 1 (.t 3), none, []⟩,
  ⟨some 18, .load false 1 (.t 17), none, []⟩,
  ⟨some 19, .build [(.int .i64 0), (.int .i64 0)] [(0, 1, (.t 18)), (1, 1, (.c (.int .i64 0)))], none, []⟩,
  ⟨some 20, .bslice 2 1 [(.int .i64 0), (.int .i64 0)] [(0, (.t 19))], none, []⟩,
  ⟨some 4, .mv (.t 20), none, []⟩]) (.ret)) (.seq (.reg false [
  ⟨some 22, .bin .eql (.t 11) (.c (.int .i64 11)), none, []⟩,
  ⟨some 21, .mv (.t 22), none, []⟩]) (.cond (.t 21) (.seq (.reg false [
  ⟨some 23, .mv (.t 0), none, []⟩,
  ⟨some 24, .bin .add (.t 23) (.c (.int .i64 1)), none, []⟩,
  ⟨some 25, .build [(.int .i64 0), (.int .i64 0)] [(0, 1, (.t 24)), (1, 1, (.c (.int .i64 0)))], none, []⟩,
  ⟨some 26, .fieldA 1 (.t 3), none, []⟩,
  ⟨some 27, .load false 1 (.t 26), none, []⟩,
  ⟨some 28, .build [(.int .i64 0), (.int .i64 0)] [(0, 1, (.t 27)), (1, 1, (.c (.int .i64 0)))], none, []⟩,
  ⟨some 29, .bslice 2 2 [(.int .i64 0), (.int .i64 0)] [(0, (.t 25)), (1, (.t 28))], none, []⟩,
  ⟨some 4, .mv (.t 29), none, []⟩]) (.ret)) (.seq (.reg false [
  ⟨some 31, .bin .eql (.t 11) (.c (.int .i64 12)), none, []⟩,
  ⟨some 30, .mv (.t 31), none, []⟩]) (.cond (.t 30) (.seq (.reg false [
  ⟨some 32, .mv (.t 0), none, []⟩,
  ⟨some 33, .bin .add (.t 32) (.c (.int .i64 1)), none, []⟩,
  ⟨some 34, .fieldA 1 (.t 3), none, []⟩,
  ⟨some 35, .load false 1 (.t 34), none, []⟩,
  ⟨some 36, .build [(.int .i64 0), (.int .i64 0)] [(0, 1, (.t 33)), (1, 1, (.t 35))], none, []⟩,
  ⟨some 37, .fieldA 2 (.t 3), none, []⟩,
  ⟨some 38, .load false 1 (.t 37), none, []⟩,
  ⟨some 39, .build [(.int .i64 0), (.int .i64 0)] [(0, 1, (.t 38)), (1, 1, (.c (.int .i64 1)))], none, []⟩,
  ⟨some 40, .bslice 2 2 [(.int .i64 0), (.int .i64 0)] [(0, (.t 36)), (1, (.t 39))], none, []⟩,
  ⟨some 4, .mv (.t 40), none, []⟩]) (.ret)) (.skip))))))))))) (.seq (.reg false [
  ⟨some 41, .mv (.t 0), none, []⟩,
  ⟨some 42, .bin .add (.t 41) (.c (.int .i64 1)), none, []⟩,
  ⟨some 43, .mv (.t 5), none, []⟩,
  ⟨some 44, .build [(.int .i64 0), (.int .i64 0)] [(0, 1, (.t 42)), (1, 1, (.t 43))], none, []⟩,
  ⟨some 45, .bslice 2 1 [(.int .i64 0), (.int .i64 0)] [(0, (.t 44))], none, []⟩,
  ⟨some 4, .mv (.t 45), none, []⟩]) (.ret)))))⟩
def h58 : Hint := { cb := [1], ps := [3], cp := [6], cs := [], ap := [], ls := [] }
def c58 : AF := ⟨1, 21, [.tmp 2],
 (.seq (.reg false [
  ⟨some 1, .boxc (.t 0), none, []⟩,
  ⟨some 2, .mv (.c (.int .i64 0)), none, []⟩]) (.seq (.reg false [
  ⟨some 4, .fieldA 0 (.t 1), none, []⟩,
  ⟨some 5, .load false 1 (.t 4), none, []⟩,
  ⟨some 6, .callP false (.f 83) [(.t 5)], none, []⟩,
  ⟨some 3, .pend [(.int .i64 0), (.int .i64 0), (.int .i64 0), (.int .i64 0)], none, []⟩,
  ⟨none, .shut 3 4 (.t 6), none, []⟩]) (.seq (.reg false [
  ⟨some 7, .idxA 4 1 (.t 3) (.c (.int .i64 0)), none, []⟩,
  ⟨some 8, .load false 1 (.t 7), none, []⟩,
  ⟨some 9, .idxA 4 1 (.t 3) (.c (.int .i64 2)), none, []⟩,
  ⟨some 10, .load false 1 (.t 9), none, []⟩,
  ⟨some 11, .fieldA 1 (.t 1), none, []⟩,
  ⟨some 12, .load false 1 (.t 11), none, []⟩,
  ⟨some 13, .bin .mul (.t 10) (.t 12), none, []⟩,
  ⟨some 14, .bin .add (.t 8) (.t 13), none, []⟩,
  ⟨some 15, .idxA 4 1 (.t 3) (.c (.int .i64 3)), none, []⟩,
  ⟨some 16, .load false 1 (.t 15), none, []⟩,
  ⟨some 17, .fieldA 2 (.t 1), none, []⟩,
  ⟨some 18, .load false 1 (.t 17), none, []⟩,
  ⟨some 19, .bin .mul (.t 16) (.t 18), none, []⟩,
  ⟨some 20, .bin .add (.t 14) (.t 19), none, []⟩,
  ⟨some 2, .mv (.t 20), none, []⟩]) (.ret))))⟩
def h59 : Hint := { cb := [], ps := [], cp := [], cs := [], ap := [], ls := [] }
def c59 : AF := ⟨2, 32, [.tmp 4],
 (.seq (.reg false [
  ⟨some 4, .mv (.c (.slice 0 [] .full)), none, []⟩]) (.scope (.seq (.reg false [
  ⟨some 7, .mv (.t 0), none, []⟩,
  ⟨some 8, .lenS (.t 7), none, []⟩,
  ⟨some 9, .mkSlice 1 8 [(.int .i64 0)] (.t 8) (.t 8), none, []⟩,
  ⟨some 5, .mv (.t 9), none, []⟩]) (.seq (.reg false [
  ⟨some 10, .mv (.t 5), none, []⟩,
  ⟨some 11, .mv (.t 0), none, []⟩,
  ⟨some 12, .copy 1 (.t 10) (.t 11), none, []⟩]) (.seq (.skip) (.seq (.seq (.reg false [
  ⟨some 13, .mv (.t 5), none, []⟩,
  ⟨some 14, .lenS (.t 13), none, []⟩,
  ⟨some 15, .mv (.c (.int .i64 0)), none, []⟩]) (.block 0 (.loop (.seq (.reg false [
  ⟨some 16, .bin .lss (.t 15) (.t 14), none, []⟩]) (.seq (.cond (.t 16) (.skip) (.exit 0)) (.seq (.block 1 (.seq (.reg false [
  ⟨some 17, .mv (.t 15), none, []⟩,
  ⟨some 6, .mv (.t 17), none, []⟩]) (.seq (.seq (.reg true [
  ⟨some 18, .mv (.t 0), none, []⟩,
  ⟨some 19, .mv (.t 6), none, []⟩,
  ⟨some 20, .idxS 1 (.t 18) (.t 19), none, [0, 1]⟩,
  ⟨some 21, .load false 1 (.t 20), none, [2, 0, 1]⟩,
  ⟨some 22, .mv (.t 1), none, []⟩,
  ⟨some 23, .mv (.t 6), none, []⟩,
  ⟨some 24, .idxS 1 (.t 22) (.t 23), none, [4, 5]⟩,
  ⟨some 25, .load false 1 (.t 24), none, [6, 4, 5]⟩,
  ⟨some 26, .bin .eql (.t 21) (.t 25), none, [3, 2, 0, 1, 7, 6, 4, 5]⟩]) (.cond (.t 26) (.exit 1) (.skip))) (.reg false [
  ⟨some 27, .mv (.t 5), none, []⟩,
  ⟨some 28, .mv (.t 6), none, []⟩,
  ⟨some 29, .idxS 1 (.t 27) (.t 28), none, []⟩,
  ⟨none, .store 1 (.t 29) (.c (.int .i64 (-1))), none, []⟩])))) (.reg false [
  ⟨some 30, .bin .add (.t 15) (.c (.int .i64 1)), none, []⟩,
  ⟨some 15, .mv (.t 30), none, []⟩]))))))) (.seq (.reg false [
  ⟨some 31, .mv (.t 5), none, []⟩,
  ⟨some 4, .mv (.t 31), none, []⟩]) (.ret))))))))⟩
def h60 : Hint := { cb := [], ps := [], cp := [], cs := [], ap := [], ls := [] }
def c60 : AF := ⟨2, 26, [.tmp 4],
 (.seq (.reg false [
  ⟨some 4, .mv (.c (.bool false)), none, []⟩]) (.seq (.seq (.reg false [
  ⟨some 6, .mv (.t 0), none, []⟩,
  ⟨some 7, .lenS (.t 6), none, []⟩,
  ⟨some 8, .mv (.t 1), none, []⟩,
  ⟨some 9, .lenS (.t 8), none, []⟩,
  ⟨some 10, .bin .neq (.t 7) (.t 9), none, []⟩]) (.cond (.t 10) (.seq (.reg false [
  ⟨some 4, .mv (.c (.bool false)), none, []⟩]) (.ret)) (.skip))) (.seq (.seq (.reg false [
  ⟨some 11, .mv (.t 0), none, []⟩,
  ⟨some 12, .lenS (.t 11), none, []⟩,
  ⟨some 13, .mv (.c (.int .i64 0)), none, []⟩]) (.block 0 (.loop (.seq (.reg false [
  ⟨some 14, .bin .lss (.t 13) (.t 12), none, []⟩]) (.seq (.cond (.t 14) (.skip) (.exit 0)) (.seq (.block 1 (.seq (.reg false [
  ⟨some 15, .mv (.t 13), none, []⟩,
  ⟨some 5, .mv (.t 15), none, []⟩]) (.seq (.reg true [
  ⟨some 16, .mv (.t 0), none, []⟩,
  ⟨some 17, .mv (.t 5), none, []⟩,
  ⟨some 18, .idxS 1 (.t 16) (.t 17), none, [0, 1]⟩,
  ⟨some 19, .load false 1 (.t 18), none, [2, 0, 1]⟩,
  ⟨some 20, .mv (.t 1), none, []⟩,
  ⟨some 21, .mv (.t 5), none, []⟩,
  ⟨some 22, .idxS 1 (.t 20) (.t 21), none, [4, 5]⟩,
  ⟨some 23, .load false 1 (.t 22), none, [6, 4, 5]⟩,
  ⟨some 24, .bin .neq (.t 19) (.t 23), none, [3, 2, 0, 1, 7, 6, 4, 5]⟩]) (.cond (.t 24) (.seq (.reg false [
  ⟨some 4, .mv (.c (.bool false)), none, []⟩]) (.ret)) (.skip))))) (.reg false [
  ⟨some 25, .bin .add (.t 13) (.c (.int .i64 1)), none, []⟩,
  ⟨some 13, .mv (.t 25), none, []⟩]))))))) (.seq (.reg false [
  ⟨some 4, .mv (.c (.bool true)), none, []⟩]) (.ret)))))⟩
def h61 : Hint := { cb := [3], ps := [], cp := [], cs := [], ap := [], ls := [] }
def c61 : AF := ⟨3, 20, [.tmp 6],
 (.seq (.reg false [
  ⟨some 3, .boxc (.t 0), none, []⟩,
  ⟨some 6, .mv (.c (.bool false)), none, []⟩]) (.seq (.reg false [
  ⟨some 7, .mv (.t 1), none, []⟩,
  ⟨some 8, .bin .neq (.t 7) (.c (.int .i64 (-1))), none, []⟩,
  ⟨some 9, .mv (.t 8), none, []⟩,
  ⟨some 10, .fieldA 0 (.t 3), some (9, true), []⟩,
  ⟨some 11, .fieldA 2 (.t 10), some (9, true), []⟩,
  ⟨some 12, .load false 1 (.t 11), some (9, true), []⟩,
  ⟨some 13, .mv (.t 1), some (9, true), []⟩,
  ⟨some 14, .idxS 5 (.t 12) (.t 13), some (9, true), []⟩,
  ⟨some 15, .fieldA 0 (.t 14), some (9, true), []⟩,
  ⟨some 16, .load false 1 (.t 15), some (9, true), []⟩,
  ⟨some 17, .mv (.t 2), some (9, true), []⟩,
  ⟨some 18, .bin .eql (.t 16) (.t 17), some (9, true), []⟩,
  ⟨some 19, .pick (.t 9) (.t 18) (.c (.bool false)), none, []⟩,
  ⟨some 6, .mv (.t 19), none, []⟩]) (.ret)))⟩
def h62 : Hint := { cb := [], ps := [], cp := [51, 35], cs := [], ap := [], ls := [] }
def c62 : AF := ⟨4, 76, [],
 (.seq (.reg false [
  ⟨some 10, .mv (.t 1), none, []⟩,
  ⟨some 8, .mv (.t 10), none, []⟩]) (.block 0 (.loop (.block 1 (.seq (.reg false [
  ⟨some 11, .mv (.t 8), none, []⟩,
  ⟨some 12, .bin .mul (.c (.int .i64 2)) (.t 11), none, []⟩,
  ⟨some 13, .bin .add (.t 12) (.c (.int .i64 1)), none, []⟩,
  ⟨some 9, .mv (.t 13), none, []⟩]) (.seq (.seq (.reg false [
  ⟨some 14, .mv (.t 9), none, []⟩,
  ⟨some 15, .mv (.t 2), none, []⟩,
  ⟨some 16, .bin .geq (.t 14) (.t 15), none, []⟩]) (.cond (.t 16) (.exit 0) (.skip))) (.seq (.seq (.reg true [
  ⟨some 17, .mv (.t 9), none, []⟩,
  ⟨some 18, .bin .add (.t 17) (.c (.int .i64 1)), none, [0]⟩,
  ⟨some 19, .mv (.t 2), none, []⟩,
  ⟨some 20, .bin .lss (.t 18) (.t 19), none, [1, 0, 2]⟩,
  ⟨some 21, .mv (.t 20), none, [3, 1, 0, 2]⟩,
  ⟨some 22, .mv (.t 0), some (21, true), [4, 3, 1, 0, 2]⟩,
  ⟨some 23, .mv (.t 3), some (21, true), [4, 3, 1, 0, 2]⟩,
  ⟨some 24, .mv (.t 9), some (21, true), [4, 3, 1, 0, 2]⟩,
  ⟨some 25, .bin .add (.t 23) (.t 24), some (21, true), [6, 4, 3, 1, 0, 2, 7]⟩,
  ⟨some 26, .idxS 1 (.t 22) (.t 25), some (21, true), [5, 4, 3, 1, 0, 2, 8, 6, 7]⟩,
  ⟨some 27, .load false 1 (.t 26), some (21, true), [9, 5, 4, 3, 1, 0, 2, 8, 6, 7]⟩,
  ⟨some 28, .mv (.t 0), some (21, true), [4, 3, 1, 0, 2]⟩,
  ⟨some 29, .mv (.t 3), some (21, true), [4, 3, 1, 0, 2]⟩,
  ⟨some 30, .mv (.t 9), some (21, true), [4, 3, 1, 0, 2]⟩,
  ⟨some 31, .bin .add (.t 29) (.t 30), some (21, true), [12, 4, 3, 1, 0, 2, 13]⟩,
  ⟨some 32, .bin .add (.t 31) (.c (.int .i64 1)), some (21, true), [14, 12, 4, 3, 1, 0, 2, 13]⟩,
  ⟨some 33, .idxS 1 (.t 28) (.t 32), some (21, true), [11, 4, 3, 1, 0, 2, 15, 14, 12, 13]⟩,
  ⟨some 34, .load false 1 (.t 33), some (21, true), [16, 11, 4, 3, 1, 0, 2, 15, 14, 12, 13]⟩,
  ⟨some 35, .callP false (.f 42) [(.t 27), (.t 34)], some (21, true), [10, 9, 5, 4, 3, 1, 0, 2, 8, 6, 7, 17, 16, 11, 15, 14, 12, 13]⟩,
  ⟨some 36, .pick (.t 21) (.t 35) (.c (.bool false)), none, [4, 3, 1, 0, 2, 18, 10, 9, 5, 8, 6, 7, 17, 16, 11, 15, 14, 12, 13]⟩]) (.cond (.t 36) (.reg false [
  ⟨some 37, .mv (.t 9), none, []⟩,
  ⟨some 38, .bin .add (.t 37) (.c (.int .i64 1)), none, []⟩,
  ⟨some 9, .mv (.t 38), none, []⟩]) (.skip))) (.seq (.seq (.reg true [
  ⟨some 39, .mv (.t 0), none, []⟩,
  ⟨some 40, .mv (.t 3), none, []⟩,
  ⟨some 41, .mv (.t 8), none, []⟩,
  ⟨some 42, .bin .add (.t 40) (.t 41), none, [1, 2]⟩,
  ⟨some 43, .idxS 1 (.t 39) (.t 42), none, [0, 3, 1, 2]⟩,
  ⟨some 44, .load false 1 (.t 43), none, [4, 0, 3, 1, 2]⟩,
  ⟨some 45, .mv (.t 0), none, []⟩,
  ⟨some 46, .mv (.t 3), none, []⟩,
  ⟨some 47, .mv (.t 9), none, []⟩,
  ⟨some 48, .bin .add (.t 46) (.t 47), none, [7, 8]⟩,
  ⟨some 49, .idxS 1 (.t 45) (.t 48), none, [6, 9, 7, 8]⟩,
  ⟨some 50, .load false 1 (.t 49), none, [10, 6, 9, 7, 8]⟩,
  ⟨some 51, .callP false (.f 42) [(.t 44), (.t 50)], none, [5, 4, 0, 3, 1, 2, 11, 10, 6, 9, 7, 8]⟩,
  ⟨some 52, .un .not (.t 51), none, [12, 5, 4, 0, 3, 1, 2, 11, 10, 6, 9, 7, 8]⟩]) (.cond (.t 52) (.ret) (.skip))) (.seq (.reg true [
  ⟨some 53, .mv (.t 0), none, []⟩,
  ⟨some 54, .mv (.t 3), none, []⟩,
  ⟨some 55, .mv (.t 8), none, []⟩,
  ⟨some 56, .bin .add (.t 54) (.t 55), none, [1, 2]⟩,
  ⟨some 57, .mv (.t 0), none, []⟩,
  ⟨some 58, .mv (.t 3), none, []⟩,
  ⟨some 59, .mv (.t 9), none, []⟩,
  ⟨some 60, .bin .add (.t 58) (.t 59), none, [5, 6]⟩,
  ⟨some 61, .mv (.t 0), none, []⟩,
  ⟨some 62, .mv (.t 3), none, []⟩,
  ⟨some 63, .mv (.t 9), none, []⟩,
  ⟨some 64, .bin .add (.t 62) (.t 63), none, [9, 10]⟩,
  ⟨some 65, .idxS 1 (.t 61) (.t 64), none, [8, 11, 9, 10]⟩,
  ⟨some 66, .load false 1 (.t 65), none, [12, 8, 11, 9, 10]⟩,
  ⟨some 67, .mv (.t 0), none, []⟩,
  ⟨some 68, .mv (.t 3), none, []⟩,
  ⟨some 69, .mv (.t 8), none, []⟩,
  ⟨some 70, .bin .add (.t 68) (.t 69), none, [15, 16]⟩,
  ⟨some 71, .idxS 1 (.t 67) (.t 70), none, [14, 17, 15, 16]⟩,
  ⟨some 72, .load false 1 (.t 71), none, [18, 14, 17, 15, 16]⟩,
  ⟨some 73, .idxS 1 (.t 53) (.t 56), none, [0, 3, 1, 2, 8, 9, 10, 11, 12, 13, 19, 18, 14, 17, 15, 16]⟩,
  ⟨none, .store 1 (.t 73) (.t 66), none, [20, 0, 3, 1, 2, 8, 9, 10, 11, 12, 13, 19, 18, 14, 17, 15, 16]⟩,
  ⟨some 74, .idxS 1 (.t 57) (.t 60), none, [4, 7, 5, 6, 0, 1, 2, 3, 8, 9, 10, 11, 12, 13, 14, 15, 16, 17, 18, 19, 20, 21]⟩,
  ⟨none, .store 1 (.t 74) (.t 72), none, [22, 4, 7, 5, 6, 0, 1, 2, 3, 8, 9, 10, 11, 12, 13, 14, 15, 16, 17, 18, 19, 20, 21]⟩]) (.reg false [
  ⟨some 75, .mv (.t 9), none, []⟩,
  ⟨some 8, .mv (.t 75), none, []⟩]))))))))))⟩
def h63 : Hint := { cb := [], ps := [], cp := [5], cs := [], ap := [], ls := [] }
def c63 : AF := ⟨1, 7, [.tmp 2],
 (.seq (.reg false [
  ⟨some 2, .mv (.c (.int .u64 0)), none, []⟩]) (.seq (.reg false [
  ⟨some 3, .mv (.t 0), none, []⟩,
  ⟨some 4, .toInt .u64 (.t 3), none, []⟩,
  ⟨some 5, .callP false (.f 25) [(.t 4)], none, []⟩,
  ⟨some 6, .bin .shl (.c (.int .u64 1)) (.t 5), none, []⟩,
  ⟨some 2, .mv (.t 6), none, []⟩]) (.ret)))⟩
def h64 : Hint := { cb := [], ps := [], cp := [], cs := [], ap := [], ls := [] }
def c64 : AF := ⟨1, 33, [.tmp 2],
 (.seq (.reg false [
  ⟨some 2, .mv (.c (.int .u64 0)), none, []⟩]) (.seq (.reg true [
  ⟨some 3, .mv (.t 0), none, []⟩,
  ⟨some 4, .nilchk (.t 3), none, [0]⟩,
  ⟨some 5, .load false 1 (.t 4), none, [1, 0]⟩,
  ⟨some 6, .mv (.t 0), none, []⟩,
  ⟨some 7, .nilchk (.t 6), none, [3]⟩,
  ⟨some 8, .load false 1 (.t 7), none, [4, 3]⟩,
  ⟨some 9, .bin .shl (.t 8) (.c (.int .u64 13)), none, [5, 4, 3]⟩,
  ⟨some 10, .bin .xor (.t 5) (.t 9), none, [2, 1, 0, 6, 5, 4, 3]⟩,
  ⟨some 11, .nilchk (.t 3), none, [0, 1, 2, 3, 4, 5, 6, 7]⟩,
  ⟨none, .store 1 (.t 11) (.t 10), none, [8, 0, 1, 2, 3, 4, 5, 6, 7]⟩]) (.seq (.reg true [
  ⟨some 12, .mv (.t 0), none, []⟩,
  ⟨some 13, .nilchk (.t 12), none, [0]⟩,
  ⟨some 14, .load false 1 (.t 13), none, [1, 0]⟩,
  ⟨some 15, .mv (.t 0), none, []⟩,
  ⟨some 16, .nilchk (.t 15), none, [3]⟩,
  ⟨some 17, .load false 1 (.t 16), none, [4, 3]⟩,
  ⟨some 18, .bin .shr (.t 17) (.c (.int .u64 7)), none, [5, 4, 3]⟩,
  ⟨some 19, .bin .xor (.t 14) (.t 18), none, [2, 1, 0, 6, 5, 4, 3]⟩,
  ⟨some 20, .nilchk (.t 12), none, [0, 1, 2, 3, 4, 5, 6, 7]⟩,
  ⟨none, .store 1 (.t 20) (.t 19), none, [8, 0, 1, 2, 3, 4, 5, 6, 7]⟩]) (.seq (.reg true [
  ⟨some 21, .mv (.t 0), none, []⟩,
  ⟨some 22, .nilchk (.t 21), none, [0]⟩,
  ⟨some 23, .load false 1 (.t 22), none, [1, 0]⟩,
  ⟨some 24, .mv (.t 0), none, []⟩,
  ⟨some 25, .nilchk (.t 24), none, [3]⟩,
  ⟨some 26, .load false 1 (.t 25), none, [4, 3]⟩,
  ⟨some 27, .bin .shl (.t 26) (.c (.int .u64 17)), none, [5, 4, 3]⟩,
  ⟨some 28, .bin .xor (.t 23) (.t 27), none, [2, 1, 0, 6, 5, 4, 3]⟩,
  ⟨some 29, .nilchk (.t 21), none, [0, 1, 2, 3, 4, 5, 6, 7]⟩,
  ⟨none, .store 1 (.t 29) (.t 28), none, [8, 0, 1, 2, 3, 4, 5, 6, 7]⟩]) (.seq (.reg false [
  ⟨some 30, .mv (.t 0), none, []⟩,
  ⟨some 31, .nilchk (.t 30), none, []⟩,
  ⟨some 32, .load false 1 (.t 31), none, []⟩,
  ⟨some 2, .mv (.t 32), none, []⟩]) (.ret))))))⟩
def h65 : Hint := { cb := [], ps := [], cp := [], cs := [], ap := [], ls := [] }
def c65 : AF := ⟨3, 15, [.tmp 6],
 (.seq (.reg false [
  ⟨some 6, .mv (.c (.int .i64 0)), none, []⟩]) (.seq (.reg false [
  ⟨some 7, .mv (.t 0), none, []⟩,
  ⟨some 8, .mv (.t 1), none, []⟩,
  ⟨some 9, .bin .sub (.t 8) (.c (.int .i64 1)), none, []⟩,
  ⟨some 10, .mv (.t 1), none, []⟩,
  ⟨some 11, .mv (.t 1), none, []⟩,
  ⟨some 12, .bin .add (.t 11) (.c (.int .i64 1)), none, []⟩,
  ⟨some 13, .mv (.t 2), none, []⟩,
  ⟨some 14, .call (.f 66) [(.t 7), (.t 9), (.t 10), (.t 12), (.t 13)], none, []⟩,
  ⟨some 6, .mv (.t 14), none, []⟩]) (.ret)))⟩
def h66 : Hint := { cb := [], ps := [], cp := [], cs := [], ap := [], ls := [] }
def c66 : AF := ⟨5, 36, [.tmp 10],
 (.seq (.reg false [
  ⟨some 10, .mv (.c (.int .i64 0)), none, []⟩]) (.seq (.reg false [
  ⟨some 12, .mv (.t 0), none, []⟩,
  ⟨some 13, .mv (.t 1), none, []⟩,
  ⟨some 14, .mv (.t 2), none, []⟩,
  ⟨some 15, .mv (.t 4), none, []⟩,
  ⟨some 16, .call (.f 84) [(.t 12), (.t 13), (.t 14), (.t 15)], none, []⟩,
  ⟨some 11, .mv (.t 16), none, []⟩,
  ⟨some 17, .extract (.t 11) 0, none, []⟩,
  ⟨some 18, .extract (.t 11) 1, none, []⟩,
  ⟨some 1, .mv (.t 17), none, []⟩,
  ⟨some 2, .mv (.t 18), none, []⟩]) (.seq (.reg false [
  ⟨some 20, .mv (.t 0), none, []⟩,
  ⟨some 21, .mv (.t 2), none, []⟩,
  ⟨some 22, .mv (.t 3), none, []⟩,
  ⟨some 23, .mv (.t 4), none, []⟩,
  ⟨some 24, .call (.f 84) [(.t 20), (.t 21), (.t 22), (.t 23)], none, []⟩,
  ⟨some 19, .mv (.t 24), none, []⟩,
  ⟨some 25, .extract (.t 19) 0, none, []⟩,
  ⟨some 26, .extract (.t 19) 1, none, []⟩,
  ⟨some 2, .mv (.t 25), none, []⟩,
  ⟨some 3, .mv (.t 26), none, []⟩]) (.seq (.reg false [
  ⟨some 28, .mv (.t 0), none, []⟩,
  ⟨some 29, .mv (.t 1), none, []⟩,
  ⟨some 30, .mv (.t 2), none, []⟩,
  ⟨some 31, .mv (.t 4), none, []⟩,
  ⟨some 32, .call (.f 84) [(.t 28), (.t 29), (.t 30), (.t 31)], none, []⟩,
  ⟨some 27, .mv (.t 32), none, []⟩,
  ⟨some 33, .extract (.t 27) 0, none, []⟩,
  ⟨some 34, .extract (.t 27) 1, none, []⟩,
  ⟨some 1, .mv (.t 33), none, []⟩,
  ⟨some 2, .mv (.t 34), none, []⟩]) (.seq (.reg false [
  ⟨some 35, .mv (.t 2), none, []⟩,
  ⟨some 10, .mv (.t 35), none, []⟩]) (.ret))))))⟩
def h67 : Hint := { cb := [], ps := [], cp := [], cs := [], ap := [], ls := [] }
def c67 : AF := ⟨1, 6, [.tmp 2],
 (.seq (.reg false [
  ⟨some 2, .mv (.c (.bool false)), none, []⟩]) (.seq (.reg false [
  ⟨some 3, .mv (.t 0), none, []⟩,
  ⟨some 4, .mv (.t 0), none, []⟩,
  ⟨some 5, .bin .neq (.t 3) (.t 4), none, []⟩,
  ⟨some 2, .mv (.t 5), none, []⟩]) (.ret)))⟩
def h68 : Hint := { cb := [], ps := [2], cp := [], cs := [], ap := [], ls := [] }
def c68 : AF := ⟨1, 17, [],
 (.seq (.reg false [
  ⟨some 4, .recov, none, []⟩,
  ⟨some 1, .mv (.t 4), none, []⟩]) (.seq (.reg false [
  ⟨some 5, .mv (.t 1), none, []⟩,
  ⟨some 6, .eqnil true .iface (.t 5), none, []⟩]) (.cond (.t 6) (.seq (.reg false [
  ⟨some 8, .mv (.t 1), none, []⟩,
  ⟨some 9, .assert true 134 (.agg [(.int .i64 0)]) (.t 8), none, []⟩,
  ⟨some 7, .mv (.t 9), none, []⟩,
  ⟨some 10, .extract (.t 7) 0, none, []⟩,
  ⟨some 11, .extract (.t 7) 1, none, []⟩,
  ⟨some 2, .pend [(.int .i64 0)], none, []⟩,
  ⟨none, .shut 2 1 (.t 10), none, []⟩,
  ⟨some 3, .mv (.t 11), none, []⟩]) (.seq (.seq (.reg false [
  ⟨some 12, .mv (.t 3), none, []⟩,
  ⟨some 13, .un .not (.t 12), none, []⟩]) (.cond (.t 13) (.reg false [
  ⟨some 14, .mv (.t 1), none, []⟩,
  ⟨none, .panic (.t 14), none, []⟩]) (.skip))) (.reg false [
  ⟨some 15, .fieldA 0 (.t 2), none, []⟩,
  ⟨some 16, .load false 1 (.t 15), none, []⟩,
  ⟨none, .store 1 (.t 0) (.t 16), none, []⟩]))) (.skip))))⟩
def h69 : Hint := { cb := [], ps := [], cp := [], cs := [], ap := [], ls := [] }
def c69 : AF := ⟨1, 6, [],
 (.seq (.reg false [
  ⟨some 2, .mv (.t 0), none, []⟩,
  ⟨some 3, .bin .neq (.t 2) (.c (.int .i64 0)), none, []⟩]) (.cond (.t 3) (.reg false [
  ⟨some 4, .mv (.t 0), none, []⟩,
  ⟨some 5, .call (.f 73) [(.t 4)], none, []⟩]) (.skip)))⟩
def h70 : Hint := { cb := [1], ps := [11, 7, 4], cp := [80, 73, 69, 57, 50, 37], cs := [], ap := [], ls := [] }
def c70 : AF := ⟨1, 81, [.tmp 2],
 (.seq (.reg false [
  ⟨some 1, .boxc (.t 0), none, []⟩,
  ⟨some 2, .mv (.c (.int .i64 0)), none, []⟩]) (.seq (.seq (.reg false [
  ⟨some 13, .fieldA 0 (.t 1), none, []⟩,
  ⟨some 14, .load false 1 (.t 13), none, []⟩,
  ⟨some 15, .lenS (.t 14), none, []⟩,
  ⟨some 16, .bin .gtr (.t 15) (.c (.int .i64 12)), none, []⟩,
  ⟨some 17, .mv (.t 16), none, []⟩,
  ⟨some 18, .fieldA 1 (.t 1), some (17, false), []⟩,
  ⟨some 19, .load false 1 (.t 18), some (17, false), []⟩,
  ⟨some 20, .lenS (.t 19), some (17, false), []⟩,
  ⟨some 21, .bin .gtr (.t 20) (.c (.int .i64 12)), some (17, false), []⟩,
  ⟨some 22, .pick (.t 17) (.c (.bool true)) (.t 21), none, []⟩,
  ⟨some 23, .mv (.t 22), none, []⟩,
  ⟨some 24, .fieldA 2 (.t 1), some (23, false), []⟩,
  ⟨some 25, .load false 1 (.t 24), some (23, false), []⟩,
  ⟨some 26, .lenS (.t 25), some (23, false), []⟩,
  ⟨some 27, .bin .gtr (.t 26) (.c (.int .i64 60)), some (23, false), []⟩,
  ⟨some 28, .pick (.t 23) (.c (.bool true)) (.t 27), none, []⟩]) (.cond (.t 28) (.seq (.reg false [
  ⟨some 2, .mv (.c (.int .i64 3)), none, []⟩]) (.ret)) (.skip))) (.seq (.seq (.reg false [
  ⟨some 29, .fieldA 0 (.t 1), none, []⟩,
  ⟨some 30, .load false 1 (.t 29), none, []⟩,
  ⟨some 31, .lenS (.t 30), none, []⟩,
  ⟨some 32, .mv (.c (.int .i64 0)), none, []⟩]) (.block 0 (.loop (.seq (.reg false [
  ⟨some 33, .bin .lss (.t 32) (.t 31), none, []⟩]) (.seq (.cond (.t 33) (.skip) (.exit 0)) (.seq (.block 1 (.seq (.reg false [
  ⟨some 34, .idxS 3 (.t 30) (.t 32), none, []⟩,
  ⟨some 35, .load true 3 (.t 34), none, []⟩,
  ⟨some 4, .pend [(.str []), (.slice 0 [] .full), (.slice 0 [] .full)], none, []⟩,
  ⟨none, .shut 4 3 (.t 35), none, []⟩]) (.seq (.reg false [
  ⟨some 36, .load true 3 (.t 4), none, []⟩,
  ⟨some 37, .callP false (.f 85) [(.t 36)], none, []⟩,
  ⟨some 5, .mv (.t 37), none, []⟩]) (.seq (.reg false [
  ⟨some 38, .mv (.t 5), none, []⟩,
  ⟨some 39, .bin .neq (.t 38) (.c (.int .i64 0)), none, []⟩]) (.cond (.t 39) (.seq (.reg false [
  ⟨some 40, .mv (.t 5), none, []⟩,
  ⟨some 2, .mv (.t 40), none, []⟩]) (.ret)) (.skip)))))) (.reg false [
  ⟨some 41, .bin .add (.t 32) (.c (.int .i64 1)), none, []⟩,
  ⟨some 32, .mv (.t 41), none, []⟩]))))))) (.seq (.seq (.reg false [
  ⟨some 42, .fieldA 1 (.t 1), none, []⟩,
  ⟨some 43, .load false 1 (.t 42), none, []⟩,
  ⟨some 44, .lenS (.t 43), none, []⟩,
  ⟨some 45, .mv (.c (.int .i64 0)), none, []⟩]) (.block 2 (.loop (.seq (.reg false [
  ⟨some 46, .bin .lss (.t 45) (.t 44), none, []⟩]) (.seq (.cond (.t 46) (.skip) (.exit 2)) (.seq (.block 3 (.seq (.reg false [
  ⟨some 47, .idxS 2 (.t 43) (.t 45), none, []⟩,
  ⟨some 48, .load true 2 (.t 47), none, []⟩,
  ⟨some 7, .pend [(.str []), (.slice 0 [] .full)], none, []⟩,
  ⟨none, .shut 7 2 (.t 48), none, []⟩]) (.seq (.reg false [
  ⟨some 49, .load true 2 (.t 7), none, []⟩,
  ⟨some 50, .callP false (.f 86) [(.t 49)], none, []⟩,
  ⟨some 8, .mv (.t 50), none, []⟩]) (.seq (.reg false [
  ⟨some 51, .mv (.t 8), none, []⟩,
  ⟨some 52, .bin .neq (.t 51) (.c (.int .i64 0)), none, []⟩]) (.cond (.t 52) (.seq (.reg false [
  ⟨some 53, .mv (.t 8), none, []⟩,
  ⟨some 2, .mv (.t 53), none, []⟩]) (.ret)) (.skip)))))) (.reg false [
  ⟨some 54, .bin .add (.t 45) (.c (.int .i64 1)), none, []⟩,
  ⟨some 45, .mv (.t 54), none, []⟩]))))))) (.seq (.reg false [
  ⟨some 55, .build [(.int .i64 0), (.int .i64 0)] [(0, 1, (.c (.int .i64 3000)))], none, []⟩,
  ⟨some 9, .alloc [(.int .i64 0), (.int .i64 0)], none, []⟩,
  ⟨none, .store 2 (.t 9) (.t 55), none, []⟩]) (.seq (.seq (.reg false [
  ⟨some 56, .load true 10 (.t 1), none, []⟩,
  ⟨some 57, .callP false (.f 88) [(.t 56)], none, []⟩,
  ⟨some 58, .call (.f 87) [(.t 9), (.t 57), (.c (.int .i64 1))], none, []⟩,
  ⟨some 59, .un .not (.t 58), none, []⟩]) (.cond (.t 59) (.seq (.reg false [
  ⟨some 2, .mv (.c (.int .i64 3)), none, []⟩]) (.ret)) (.skip))) (.seq (.seq (.reg false [
  ⟨some 60, .fieldA 2 (.t 1), none, []⟩,
  ⟨some 61, .load false 1 (.t 60), none, []⟩,
  ⟨some 62, .lenS (.t 61), none, []⟩,
  ⟨some 63, .mv (.c (.int .i64 0)), none, []⟩]) (.block 4 (.loop (.seq (.reg false [
  ⟨some 64, .bin .lss (.t 63) (.t 62), none, []⟩]) (.seq (.cond (.t 64) (.skip) (.exit 4)) (.seq (.block 5 (.seq (.reg false [
  ⟨some 65, .idxS 8 (.t 61) (.t 63), none, []⟩,
  ⟨some 66, .load true 8 (.t 65), none, []⟩,
  ⟨some 11, .pend [(.str []), (.int .i64 0), (.int .i64 0), (.str []), (.str []), (.slice 0 [] .full), (.slice 0 [] .full), (.slice 0 [] .full)], none, []⟩,
  ⟨none, .shut 11 8 (.t 66), none, []⟩]) (.seq (.seq (.reg false [
  ⟨some 67, .fieldA 0 (.t 11), none, []⟩,
  ⟨some 68, .load false 1 (.t 67), none, []⟩,
  ⟨some 69, .callP false (.f 89) [(.t 68), (.c (.int .i64 1))], none, []⟩,
  ⟨some 70, .un .not (.t 69), none, []⟩]) (.cond (.t 70) (.seq (.reg false [
  ⟨some 2, .mv (.c (.int .i64 4)), none, []⟩]) (.ret)) (.skip))) (.seq (.reg false [
  ⟨some 71, .fieldA 1 (.t 11), none, []⟩,
  ⟨some 72, .load true 7 (.t 71), none, []⟩,
  ⟨some 73, .callP false (.f 90) [(.t 72)], none, []⟩,
  ⟨some 12, .mv (.t 73), none, []⟩]) (.seq (.reg false [
  ⟨some 74, .mv (.t 12), none, []⟩,
  ⟨some 75, .bin .neq (.t 74) (.c (.int .i64 0)), none, []⟩]) (.cond (.t 75) (.seq (.reg false [
  ⟨some 76, .mv (.t 12), none, []⟩,
  ⟨some 2, .mv (.t 76), none, []⟩]) (.ret)) (.skip))))))) (.reg false [
  ⟨some 77, .bin .add (.t 63) (.c (.int .i64 1)), none, []⟩,
  ⟨some 63, .mv (.t 77), none, []⟩]))))))) (.seq (.reg false [
  ⟨some 78, .fieldA 3 (.t 1), none, []⟩,
  ⟨some 79, .load true 7 (.t 78), none, []⟩,
  ⟨some 80, .callP false (.f 90) [(.t 79)], none, []⟩,
  ⟨some 2, .mv (.t 80), none, []⟩]) (.ret)))))))))⟩
def h71 : Hint := { cb := [], ps := [], cp := [8], cs := [], ap := [], ls := [] }
def c71 : AF := ⟨2, 18, [],
 (.seq (.seq (.reg false [
  ⟨some 4, .mv (.t 0), none, []⟩,
  ⟨some 5, .nilchk (.t 4), none, []⟩,
  ⟨some 6, .load false 1 (.t 5), none, []⟩,
  ⟨some 7, .mv (.t 1), none, []⟩,
  ⟨some 8, .callP false (.f 72) [(.t 6), (.t 7)], none, []⟩]) (.cond (.t 8) (.reg false [
  ⟨some 9, .call (.f 73) [(.c (.int .i64 5))], none, []⟩]) (.skip))) (.reg false [
  ⟨some 10, .mv (.t 0), none, []⟩,
  ⟨some 11, .mv (.t 0), none, []⟩,
  ⟨some 12, .nilchk (.t 11), none, []⟩,
  ⟨some 13, .load false 1 (.t 12), none, []⟩,
  ⟨some 14, .mv (.t 1), none, []⟩,
  ⟨some 15, .bslice 1 1 [(.str [])] [(0, (.t 14))], none, []⟩,
  ⟨some 16, .append false 1 16 (.t 13) (.t 15), none, []⟩,
  ⟨some 17, .nilchk (.t 10), none, []⟩,
  ⟨none, .store 1 (.t 17) (.t 16), none, []⟩]))⟩
def h72 : Hint := { cb := [], ps := [], cp := [7], cs := [], ap := [], ls := [] }
def c72 : AF := ⟨2, 9, [.tmp 4],
 (.seq (.reg false [
  ⟨some 4, .mv (.c (.bool false)), none, []⟩]) (.seq (.reg false [
  ⟨some 5, .mv (.t 0), none, []⟩,
  ⟨some 6, .mv (.t 1), none, []⟩,
  ⟨some 7, .callP false (.f 77) [(.t 5), (.t 6)], none, []⟩,
  ⟨some 8, .bin .geq (.t 7) (.c (.int .i64 0)), none, []⟩,
  ⟨some 4, .mv (.t 8), none, []⟩]) (.ret)))⟩
def h73 : Hint := { cb := [], ps := [], cp := [], cs := [], ap := [], ls := [] }
def c73 : AF := ⟨1, 5, [],
 (.reg false [
  ⟨some 2, .mv (.t 0), none, []⟩,
  ⟨some 3, .build [(.int .i64 0)] [(0, 1, (.t 2))], none, []⟩,
  ⟨some 4, .mkIface 134 (.t 3), none, []⟩,
  ⟨none, .panic (.t 4), none, []⟩])⟩
def h74 : Hint := { cb := [4], ps := [12, 8], cp := [64, 20], cs := [], ap := [], ls := [] }
def c74 : AF := ⟨3, 82, [],
 (.seq (.reg false [
  ⟨some 4, .boxc (.t 1), none, []⟩]) (.seq (.seq (.reg false [
  ⟨some 13, .fieldA 0 (.t 4), none, []⟩,
  ⟨some 14, .load false 1 (.t 13), none, []⟩]) (.block 0 (.seq (.reg false [
  ⟨some 16, .bin .eql (.t 14) (.c (.int .i64 1)), none, []⟩,
  ⟨some 15, .mv (.t 16), none, []⟩]) (.cond (.t 15) (.seq (.reg false [
  ⟨some 17, .mv (.t 2), none, []⟩,
  ⟨some 18, .fieldA 2 (.t 4), none, []⟩,
  ⟨some 19, .load false 1 (.t 18), none, []⟩,
  ⟨some 20, .callP false (.f 72) [(.t 17), (.t 19)], none, []⟩,
  ⟨some 21, .un .not (.t 20), none, []⟩]) (.cond (.t 21) (.reg false [
  ⟨some 22, .call (.f 73) [(.c (.int .i64 6))], none, []⟩]) (.skip))) (.seq (.reg false [
  ⟨some 24, .bin .eql (.t 14) (.c (.int .i64 6)), none, []⟩,
  ⟨some 23, .mv (.t 24), none, []⟩]) (.cond (.t 23) (.seq (.reg false [
  ⟨some 25, .mv (.t 0), none, []⟩,
  ⟨some 26, .fieldA 2 (.t 4), none, []⟩,
  ⟨some 27, .load false 1 (.t 26), none, []⟩,
  ⟨some 28, .call (.f 91) [(.t 25), (.t 27)], none, []⟩,
  ⟨some 6, .mv (.t 28), none, []⟩]) (.seq (.seq (.reg false [
  ⟨some 29, .mv (.t 6), none, []⟩,
  ⟨some 30, .bin .lss (.t 29) (.c (.int .i64 0)), none, []⟩]) (.cond (.t 30) (.reg false [
  ⟨some 31, .call (.f 73) [(.c (.int .i64 6))], none, []⟩]) (.skip))) (.seq (.reg true [
  ⟨some 32, .mv (.t 0), none, []⟩,
  ⟨some 33, .nilchk (.t 32), none, [0]⟩,
  ⟨some 34, .fieldA 0 (.t 33), none, [1, 0]⟩,
  ⟨some 35, .fieldA 0 (.t 34), none, [2, 1, 0]⟩,
  ⟨some 36, .load false 1 (.t 35), none, [3, 2, 1, 0]⟩,
  ⟨some 37, .mv (.t 6), none, []⟩,
  ⟨some 38, .idxS 3 (.t 36) (.t 37), none, [4, 3, 2, 1, 0, 5]⟩,
  ⟨some 39, .fieldA 1 (.t 38), none, [6, 4, 3, 2, 1, 0, 5]⟩,
  ⟨some 40, .load false 1 (.t 39), none, [7, 6, 4, 3, 2, 1, 0, 5]⟩,
  ⟨some 41, .lenS (.t 40), none, [8, 7, 6, 4, 3, 2, 1, 0, 5]⟩,
  ⟨some 42, .fieldA 3 (.t 4), none, []⟩,
  ⟨some 43, .load false 1 (.t 42), none, [10]⟩,
  ⟨some 44, .lenS (.t 43), none, [11, 10]⟩,
  ⟨some 45, .bin .neq (.t 41) (.t 44), none, [9, 8, 7, 6, 4, 3, 2, 1, 0, 5, 12, 11, 10]⟩]) (.cond (.t 45) (.reg false [
  ⟨some 46, .call (.f 73) [(.c (.int .i64 7))], none, []⟩]) (.skip))))) (.seq (.reg false [
  ⟨some 48, .bin .eql (.t 14) (.c (.int .i64 5)), none, []⟩,
  ⟨some 47, .mv (.t 48), none, []⟩]) (.cond (.t 47) (.seq (.reg false [
  ⟨some 49, .fieldA 4 (.t 4), none, []⟩,
  ⟨some 50, .fieldA 0 (.t 49), none, []⟩,
  ⟨some 51, .load false 1 (.t 50), none, []⟩,
  ⟨some 52, .lenS (.t 51), none, []⟩,
  ⟨some 53, .mv (.c (.int .i64 0)), none, []⟩]) (.block 1 (.loop (.seq (.reg false [
  ⟨some 54, .bin .lss (.t 53) (.t 52), none, []⟩]) (.seq (.cond (.t 54) (.skip) (.exit 1)) (.seq (.block 2 (.seq (.reg false [
  ⟨some 55, .idxS 2 (.t 51) (.t 53), none, []⟩,
  ⟨some 56, .load true 2 (.t 55), none, []⟩,
  ⟨some 8, .pend [(.str []), (.int .i64 0)], none, []⟩,
  ⟨none, .shut 8 2 (.t 56), none, []⟩]) (.seq (.reg true [
  ⟨some 58, .mv (.t 0), none, []⟩,
  ⟨some 59, .nilchk (.t 58), none, [0]⟩,
  ⟨some 60, .fieldA 0 (.t 59), none, [1, 0]⟩,
  ⟨some 61, .load true 10 (.t 60), none, [2, 1, 0]⟩,
  ⟨some 62, .fieldA 0 (.t 8), none, []⟩,
  ⟨some 63, .load false 1 (.t 62), none, [4]⟩,
  ⟨some 64, .callP false (.f 52) [(.t 61), (.t 63)], none, [3, 2, 1, 0, 5, 4]⟩,
  ⟨some 57, .mv (.t 64), none, [6, 3, 2, 1, 0, 5, 4]⟩,
  ⟨some 65, .extract (.t 57) 0, none, [7, 6, 3, 2, 1, 0, 5, 4]⟩,
  ⟨some 66, .extract (.t 57) 1, none, [7, 6, 3, 2, 1, 0, 5, 4]⟩,
  ⟨some 9, .mv (.t 65), none, [8, 7, 6, 3, 2, 1, 0, 5, 4]⟩,
  ⟨some 10, .mv (.t 66), none, [9, 7, 6, 3, 2, 1, 0, 5, 4, 10, 8]⟩]) (.reg false [
  ⟨some 67, .mv (.t 10), none, []⟩,
  ⟨some 68, .call (.f 69) [(.t 67)], none, []⟩])))) (.reg false [
  ⟨some 69, .bin .add (.t 53) (.c (.int .i64 1)), none, []⟩,
  ⟨some 53, .mv (.t 69), none, []⟩]))))))) (.skip))))))))) (.seq (.reg false [
  ⟨some 70, .fieldA 3 (.t 4), none, []⟩,
  ⟨some 71, .load false 1 (.t 70), none, []⟩,
  ⟨some 72, .lenS (.t 71), none, []⟩,
  ⟨some 73, .mv (.c (.int .i64 0)), none, []⟩]) (.block 3 (.loop (.seq (.reg false [
  ⟨some 74, .bin .lss (.t 73) (.t 72), none, []⟩]) (.seq (.cond (.t 74) (.skip) (.exit 3)) (.seq (.block 4 (.seq (.reg false [
  ⟨some 75, .idxS 6 (.t 71) (.t 73), none, []⟩,
  ⟨some 76, .load true 6 (.t 75), none, []⟩,
  ⟨some 12, .pend [(.int .i64 0), (.int .i64 0), (.str []), (.slice 0 [] .full), (.slice 0 [] .full), (.int .i64 0)], none, []⟩,
  ⟨none, .shut 12 6 (.t 76), none, []⟩]) (.reg false [
  ⟨some 77, .mv (.t 0), none, []⟩,
  ⟨some 78, .load true 6 (.t 12), none, []⟩,
  ⟨some 79, .mv (.t 2), none, []⟩,
  ⟨some 80, .call (.f 74) [(.t 77), (.t 78), (.t 79)], none, []⟩]))) (.reg false [
  ⟨some 81, .bin .add (.t 73) (.c (.int .i64 1)), none, []⟩,
  ⟨some 73, .mv (.t 81), none, []⟩])))))))))⟩
def h75 : Hint := { cb := [], ps := [], cp := [], cs := [], ap := [], ls := [] }
def c75 : AF := ⟨2, 8, [.tmp 4],
 (.seq (.reg false [
  ⟨some 4, .mv (.c (.int .i64 0)), none, []⟩]) (.seq (.reg false [
  ⟨some 5, .mv (.t 0), none, []⟩,
  ⟨some 6, .mv (.t 1), none, []⟩,
  ⟨some 7, .call (.f 92) [(.t 5), (.t 6)], none, []⟩,
  ⟨some 4, .mv (.t 7), none, []⟩]) (.ret)))⟩
def h76 : Hint := { cb := [2], ps := [], cp := [], cs := [], ap := [], ls := [] }
def c76 : AF := ⟨2, 8, [.tmp 3],
 (.seq (.reg false [
  ⟨some 2, .boxc (.t 0), none, []⟩,
  ⟨some 3, .mv (.c (.bool false)), none, []⟩]) (.seq (.reg false [
  ⟨some 4, .fieldA 0 (.t 2), none, []⟩,
  ⟨some 5, .load false 1 (.t 4), none, []⟩,
  ⟨some 6, .load false 1 (.t 1), none, []⟩,
  ⟨some 7, .bin .eql (.t 5) (.t 6), none, []⟩,
  ⟨some 3, .mv (.t 7), none, []⟩]) (.ret)))⟩
def h77 : Hint := { cb := [], ps := [], cp := [], cs := [], ap := [], ls := [] }
def c77 : AF := ⟨2, 19, [.tmp 4],
 (.seq (.reg false [
  ⟨some 4, .mv (.c (.int .i64 0)), none, []⟩]) (.seq (.seq (.reg false [
  ⟨some 6, .mv (.t 0), none, []⟩,
  ⟨some 7, .lenS (.t 6), none, []⟩,
  ⟨some 8, .mv (.c (.int .i64 0)), none, []⟩]) (.block 0 (.loop (.seq (.reg false [
  ⟨some 9, .bin .lss (.t 8) (.t 7), none, []⟩]) (.seq (.cond (.t 9) (.skip) (.exit 0)) (.seq (.block 1 (.seq (.reg false [
  ⟨some 10, .mv (.t 8), none, []⟩,
  ⟨some 5, .mv (.t 10), none, []⟩]) (.seq (.reg false [
  ⟨some 11, .mv (.t 1), none, []⟩,
  ⟨some 12, .mv (.t 0), none, []⟩,
  ⟨some 13, .mv (.t 5), none, []⟩,
  ⟨some 14, .idxS 1 (.t 12) (.t 13), none, []⟩,
  ⟨some 15, .load false 1 (.t 14), none, []⟩,
  ⟨some 16, .bin .eql (.t 11) (.t 15), none, []⟩]) (.cond (.t 16) (.seq (.reg false [
  ⟨some 17, .mv (.t 5), none, []⟩,
  ⟨some 4, .mv (.t 17), none, []⟩]) (.ret)) (.skip))))) (.reg false [
  ⟨some 18, .bin .add (.t 8) (.c (.int .i64 1)), none, []⟩,
  ⟨some 8, .mv (.t 18), none, []⟩]))))))) (.seq (.reg false [
  ⟨some 4, .mv (.c (.int .i64 (-1))), none, []⟩]) (.ret))))⟩
def h78 : Hint := { cb := [2], ps := [7], cp := [], cs := [], ap := [], ls := [] }
def c78 : AF := ⟨2, 29, [.tmp 4],
 (.seq (.reg false [
  ⟨some 2, .boxc (.t 0), none, []⟩,
  ⟨some 4, .mv (.c (.slice 0 [] .full)), none, []⟩]) (.seq (.seq (.reg false [
  ⟨some 8, .mv (.t 1), none, []⟩,
  ⟨some 9, .bin .lss (.t 8) (.c (.int .i64 0)), none, []⟩]) (.cond (.t 9) (.seq (.reg false [
  ⟨some 10, .bslice 1 2 [(.str [])] [(0, (.c (.str [112, 114, 105, 110, 116]))), (1, (.c (.str [114, 101, 97, 100])))], none, []⟩,
  ⟨some 4, .mv (.t 10), none, []⟩]) (.ret)) (.skip))) (.seq (.reg false [
  ⟨some 5, .mv (.c (.slice 0 [] .full)), none, []⟩]) (.seq (.seq (.reg false [
  ⟨some 11, .fieldA 1 (.t 2), none, []⟩,
  ⟨some 12, .load false 1 (.t 11), none, []⟩,
  ⟨some 13, .mv (.t 1), none, []⟩,
  ⟨some 14, .idxS 2 (.t 12) (.t 13), none, []⟩,
  ⟨some 15, .fieldA 1 (.t 14), none, []⟩,
  ⟨some 16, .load false 1 (.t 15), none, []⟩,
  ⟨some 17, .lenS (.t 16), none, []⟩,
  ⟨some 18, .mv (.c (.int .i64 0)), none, []⟩]) (.block 0 (.loop (.seq (.reg false [
  ⟨some 19, .bin .lss (.t 18) (.t 17), none, []⟩]) (.seq (.cond (.t 19) (.skip) (.exit 0)) (.seq (.block 1 (.seq (.reg false [
  ⟨some 20, .idxS 14 (.t 16) (.t 18), none, []⟩,
  ⟨some 21, .load true 14 (.t 20), none, []⟩,
  ⟨some 7, .pend [(.str []), (.int .i64 0), (.int .i64 0), (.str []), (.slice 0 [] .full), (.slice 0 [] .full), (.int .i64 0), (.int .i64 0), (.int .i64 0), (.str []), (.slice 0 [] .full), (.slice 0 [] .full), (.int .i64 0), (.bool false)], none, []⟩,
  ⟨none, .shut 7 14 (.t 21), none, []⟩]) (.reg false [
  ⟨some 22, .mv (.t 5), none, []⟩,
  ⟨some 23, .fieldA 0 (.t 7), none, []⟩,
  ⟨some 24, .load false 1 (.t 23), none, []⟩,
  ⟨some 25, .bslice 1 1 [(.str [])] [(0, (.t 24))], none, []⟩,
  ⟨some 26, .append false 1 16 (.t 22) (.t 25), none, []⟩,
  ⟨some 5, .mv (.t 26), none, []⟩]))) (.reg false [
  ⟨some 27, .bin .add (.t 18) (.c (.int .i64 1)), none, []⟩,
  ⟨some 18, .mv (.t 27), none, []⟩]))))))) (.seq (.reg false [
  ⟨some 28, .mv (.t 5), none, []⟩,
  ⟨some 4, .mv (.t 28), none, []⟩]) (.ret))))))⟩
def h79 : Hint := { cb := [], ps := [], cp := [], cs := [], ap := [], ls := [] }
def c79 : AF := ⟨2, 8, [.tmp 4],
 (.seq (.reg false [
  ⟨some 4, .mv (.c (.int .i64 0)), none, []⟩]) (.seq (.reg false [
  ⟨some 5, .mv (.t 0), none, []⟩,
  ⟨some 6, .mv (.t 1), none, []⟩,
  ⟨some 7, .call (.f 93) [(.t 5), (.t 6)], none, []⟩,
  ⟨some 4, .mv (.t 7), none, []⟩]) (.ret)))⟩
def h80 : Hint := { cb := [2], ps := [], cp := [], cs := [], ap := [], ls := [] }
def c80 : AF := ⟨2, 8, [.tmp 3],
 (.seq (.reg false [
  ⟨some 2, .boxc (.t 0), none, []⟩,
  ⟨some 3, .mv (.c (.bool false)), none, []⟩]) (.seq (.reg false [
  ⟨some 4, .fieldA 0 (.t 2), none, []⟩,
  ⟨some 5, .load false 1 (.t 4), none, []⟩,
  ⟨some 6, .load false 1 (.t 1), none, []⟩,
  ⟨some 7, .bin .eql (.t 5) (.t 6), none, []⟩,
  ⟨some 3, .mv (.t 7), none, []⟩]) (.ret)))⟩
def h81 : Hint := { cb := [], ps := [], cp := [], cs := [], ap := [], ls := [] }
def c81 : AF := ⟨2, 23, [],
 (.seq (.reg false [
  ⟨some 3, .mv (.c (.int .i64 0)), none, []⟩]) (.block 0 (.loop (.seq (.seq (.reg false [
  ⟨some 4, .mv (.t 3), none, []⟩,
  ⟨some 5, .load false 1 (.t 1), none, []⟩,
  ⟨some 6, .nilchk (.t 5), none, []⟩,
  ⟨some 7, .fieldA 0 (.t 6), none, []⟩,
  ⟨some 8, .load false 1 (.t 7), none, []⟩,
  ⟨some 9, .lenS (.t 8), none, []⟩,
  ⟨some 10, .bin .lss (.t 4) (.t 9), none, []⟩]) (.cond (.t 10) (.skip) (.exit 0))) (.seq (.block 1 (.seq (.reg false [
  ⟨some 13, .mv (.t 0), none, []⟩,
  ⟨some 14, .load false 1 (.t 1), none, []⟩,
  ⟨some 15, .nilchk (.t 14), none, []⟩,
  ⟨some 16, .fieldA 0 (.t 15), none, []⟩,
  ⟨some 17, .load false 1 (.t 16), none, []⟩,
  ⟨some 18, .mv (.t 3), none, []⟩,
  ⟨some 19, .idxS 1 (.t 17) (.t 18), none, []⟩,
  ⟨some 20, .load false 1 (.t 19), none, []⟩,
  ⟨some 21, .call (.t 13) [(.t 20)], none, []⟩,
  ⟨some 22, .un .not (.t 21), none, []⟩]) (.cond (.t 22) (.ret) (.skip)))) (.reg false [
  ⟨some 11, .mv (.t 3), none, []⟩,
  ⟨some 12, .bin .add (.t 11) (.c (.int .i64 1)), none, []⟩,
  ⟨some 3, .mv (.t 12), none, []⟩]))))))⟩
def h82 : Hint := { cb := [3, 2], ps := [], cp := [60, 34], cs := [57, 31], ap := [], ls := [] }
def c82 : AF := ⟨2, 86, [.tmp 4],
 (.seq (.reg false [
  ⟨some 2, .boxc (.t 0), none, []⟩,
  ⟨some 3, .boxc (.t 1), none, []⟩,
  ⟨some 4, .mv (.c (.int .i64 0)), none, []⟩]) (.seq (.seq (.reg false [
  ⟨some 11, .fieldA 0 (.t 3), none, []⟩,
  ⟨some 12, .load false 1 (.t 11), none, []⟩]) (.block 0 (.seq (.reg false [
  ⟨some 14, .bin .eql (.t 12) (.c (.int .i64 6)), none, []⟩,
  ⟨some 13, .mv (.t 14), none, []⟩]) (.cond (.t 13) (.seq (.reg true [
  ⟨some 15, .fieldA 2 (.t 3), none, []⟩,
  ⟨some 16, .load false 1 (.t 15), none, [0]⟩,
  ⟨some 17, .fieldA 0 (.t 2), none, []⟩,
  ⟨some 18, .fieldA 2 (.t 17), none, [2]⟩,
  ⟨some 19, .load false 1 (.t 18), none, [3, 2]⟩,
  ⟨some 20, .fieldA 1 (.t 3), none, []⟩,
  ⟨some 21, .load false 1 (.t 20), none, [5]⟩,
  ⟨some 22, .idxS 5 (.t 19) (.t 21), none, [4, 3, 2, 6, 5]⟩,
  ⟨some 23, .fieldA 1 (.t 22), none, [7, 4, 3, 2, 6, 5]⟩,
  ⟨some 24, .load false 1 (.t 23), none, [8, 7, 4, 3, 2, 6, 5]⟩,
  ⟨some 25, .bin .neq (.t 16) (.t 24), none, [1, 0, 9, 8, 7, 4, 3, 2, 6, 5]⟩]) (.cond (.t 25) (.seq (.reg false [
  ⟨some 4, .mv (.c (.int .i64 7)), none, []⟩]) (.ret)) (.skip))) (.seq (.seq (.reg false [
  ⟨some 27, .bin .eql (.t 12) (.c (.int .i64 9)), none, []⟩,
  ⟨some 26, .mv (.t 27), none, []⟩]) (.cond (.t 26) (.skip) (.reg false [
  ⟨some 28, .bin .eql (.t 12) (.c (.int .i64 12)), none, []⟩,
  ⟨some 26, .mv (.t 28), none, []⟩]))) (.cond (.t 26) (.seq (.reg true [
  ⟨some 30, .load true 3 (.t 2), none, []⟩,
  ⟨some 31, .callP true (.f 94) [(.t 30)], none, [0]⟩,
  ⟨some 32, .fieldA 3 (.t 3), none, []⟩,
  ⟨some 33, .load false 1 (.t 32), none, [2]⟩,
  ⟨some 34, .callP false (.f 50) [(.t 31), (.t 33)], none, [1, 0, 3, 2]⟩,
  ⟨some 29, .mv (.t 34), none, [4, 1, 0, 3, 2]⟩,
  ⟨some 35, .extract (.t 29) 0, none, [5, 4, 1, 0, 3, 2]⟩,
  ⟨some 36, .extract (.t 29) 1, none, [5, 4, 1, 0, 3, 2]⟩,
  ⟨some 37, .extract (.t 29) 2, none, [5, 4, 1, 0, 3, 2]⟩,
  ⟨some 5, .mv (.t 35), none, [6, 5, 4, 1, 0, 3, 2]⟩,
  ⟨some 6, .mv (.t 36), none, [7, 5, 4, 1, 0, 3, 2, 9, 6]⟩,
  ⟨some 7, .mv (.t 37), none, [8, 5, 4, 1, 0, 3, 2, 10, 7, 9, 6]⟩]) (.seq (.reg true [
  ⟨some 38, .fieldA 1 (.t 3), none, []⟩,
  ⟨some 39, .load false 1 (.t 38), none, [0]⟩,
  ⟨some 40, .fieldA 0 (.t 2), none, []⟩,
  ⟨some 41, .fieldA 0 (.t 40), none, [2]⟩,
  ⟨some 42, .load false 1 (.t 41), none, [3, 2]⟩,
  ⟨some 43, .mv (.t 5), none, []⟩,
  ⟨some 44, .idxS 3 (.t 42) (.t 43), none, [4, 3, 2, 5]⟩,
  ⟨some 45, .fieldA 2 (.t 44), none, [6, 4, 3, 2, 5]⟩,
  ⟨some 46, .load false 1 (.t 45), none, [7, 6, 4, 3, 2, 5]⟩,
  ⟨some 47, .mv (.t 6), none, []⟩,
  ⟨some 48, .idxS 2 (.t 46) (.t 47), none, [8, 7, 6, 4, 3, 2, 5, 9]⟩,
  ⟨some 49, .fieldA 1 (.t 48), none, [10, 8, 7, 6, 4, 3, 2, 5, 9]⟩,
  ⟨some 50, .load false 1 (.t 49), none, [11, 10, 8, 7, 6, 4, 3, 2, 5, 9]⟩,
  ⟨some 51, .lenS (.t 50), none, [12, 11, 10, 8, 7, 6, 4, 3, 2, 5, 9]⟩,
  ⟨some 52, .bin .neq (.t 39) (.t 51), none, [1, 0, 13, 12, 11, 10, 8, 7, 6, 4, 3, 2, 5, 9]⟩]) (.cond (.t 52) (.seq (.reg false [
  ⟨some 4, .mv (.c (.int .i64 7)), none, []⟩]) (.ret)) (.skip)))) (.seq (.reg false [
  ⟨some 54, .bin .eql (.t 12) (.c (.int .i64 16)), none, []⟩,
  ⟨some 53, .mv (.t 54), none, []⟩]) (.cond (.t 53) (.seq (.reg false [
  ⟨some 8, .mv (.c (.int .i64 2)), none, []⟩]) (.seq (.seq (.reg true [
  ⟨some 56, .load true 3 (.t 2), none, []⟩,
  ⟨some 57, .callP true (.f 94) [(.t 56)], none, [0]⟩,
  ⟨some 58, .fieldA 3 (.t 3), none, []⟩,
  ⟨some 59, .load false 1 (.t 58), none, [2]⟩,
  ⟨some 60, .callP false (.f 52) [(.t 57), (.t 59)], none, [1, 0, 3, 2]⟩,
  ⟨some 55, .mv (.t 60), none, [4, 1, 0, 3, 2]⟩,
  ⟨some 61, .extract (.t 55) 0, none, [5, 4, 1, 0, 3, 2]⟩,
  ⟨some 62, .extract (.t 55) 1, none, [5, 4, 1, 0, 3, 2]⟩,
  ⟨some 9, .mv (.t 61), none, [6, 5, 4, 1, 0, 3, 2]⟩,
  ⟨some 10, .mv (.t 62), none, [7, 5, 4, 1, 0, 3, 2, 8, 6]⟩]) (.seq (.reg false [
  ⟨some 63, .mv (.t 9), none, []⟩,
  ⟨some 64, .bin .geq (.t 63) (.c (.int .i64 0)), none, []⟩,
  ⟨some 65, .mv (.t 64), none, []⟩,
  ⟨some 66, .mv (.t 9), some (65, true), []⟩,
  ⟨some 67, .fieldA 0 (.t 2), some (65, true), []⟩,
  ⟨some 68, .fieldA 1 (.t 67), some (65, true), []⟩,
  ⟨some 69, .load false 1 (.t 68), some (65, true), []⟩,
  ⟨some 70, .lenS (.t 69), some (65, true), []⟩,
  ⟨some 71, .bin .lss (.t 66) (.t 70), some (65, true), []⟩,
  ⟨some 72, .pick (.t 65) (.t 71) (.c (.bool false)), none, []⟩]) (.cond (.t 72) (.reg false [
  ⟨some 73, .fieldA 0 (.t 2), none, []⟩,
  ⟨some 74, .fieldA 1 (.t 73), none, []⟩,
  ⟨some 75, .load false 1 (.t 74), none, []⟩,
  ⟨some 76, .mv (.t 9), none, []⟩,
  ⟨some 77, .idxS 2 (.t 75) (.t 76), none, []⟩,
  ⟨some 78, .fieldA 1 (.t 77), none, []⟩,
  ⟨some 79, .load false 1 (.t 78), none, []⟩,
  ⟨some 80, .lenS (.t 79), none, []⟩,
  ⟨some 8, .mv (.t 80), none, []⟩]) (.skip)))) (.seq (.reg false [
  ⟨some 81, .fieldA 2 (.t 3), none, []⟩,
  ⟨some 82, .load false 1 (.t 81), none, []⟩,
  ⟨some 83, .mv (.t 8), none, []⟩,
  ⟨some 84, .bin .add (.t 83) (.c (.int .i64 1)), none, []⟩,
  ⟨some 85, .bin .neq (.t 82) (.t 84), none, []⟩]) (.cond (.t 85) (.seq (.reg false [
  ⟨some 4, .mv (.c (.int .i64 9)), none, []⟩]) (.ret)) (.skip))))) (.skip))))))))) (.seq (.reg false [
  ⟨some 4, .mv (.c (.int .i64 0)), none, []⟩]) (.ret))))⟩
def h83 : Hint := { cb := [], ps := [], cp := [], cs := [], ap := [], ls := [] }
def c83 : AF := ⟨1, 26, [.cell 2 true 4],
 (.seq (.reg false [
  ⟨some 2, .alloc [(.int .i64 0), (.int .i64 0), (.int .i64 0), (.int .i64 0)], none, []⟩]) (.seq (.reg false [
  ⟨some 3, .build [(.int .i64 0), (.int .i64 0), (.int .i64 0), (.int .i64 0)] [(0, 1, (.c (.int .i64 0))), (1, 1, (.c (.int .i64 1)))], none, []⟩,
  ⟨some 4, .build [(.int .i64 0), (.int .i64 0), (.int .i64 0), (.int .i64 0)] [(0, 1, (.c (.int .i64 0))), (1, 1, (.c (.int .i64 1)))], none, []⟩,
  ⟨some 5, .build [(.int .i64 0), (.int .i64 0), (.int .i64 0), (.int .i64 0)] [(0, 1, (.c (.int .i64 0))), (1, 1, (.c (.int .i64 1)))], none, []⟩,
  ⟨some 6, .build [(.int .i64 0), (.int .i64 0), (.int .i64 0), (.int .i64 0)] [(0, 1, (.c (.int .i64 0))), (1, 1, (.c (.int .i64 1)))], none, []⟩,
  ⟨some 7, .build [(.int .i64 0), (.int .i64 0), (.int .i64 0), (.int .i64 0)] [(0, 1, (.c (.int .i64 1))), (1, 1, (.c (.int .i64 0)))], none, []⟩,
  ⟨some 8, .build [(.int .i64 0), (.int .i64 0), (.int .i64 0), (.int .i64 0)] [(0, 1, (.c (.int .i64 2))), (1, 1, (.c (.int .i64 1)))], none, []⟩,
  ⟨some 9, .build [(.int .i64 0), (.int .i64 0), (.int .i64 0), (.int .i64 0)] [(0, 1, (.c (.int .i64 0))), (1, 1, (.c (.int .i64 1))), (2, 1, (.c (.int .i64 0))), (3, 1, (.c (.int .i64 1)))], none, []⟩,
  ⟨some 10, .build [(.int .i64 0), (.int .i64 0), (.int .i64 0), (.int .i64 0)] [(0, 1, (.c (.int .i64 2))), (1, 1, (.c (.int .i64 1)))], none, []⟩,
  ⟨some 11, .build [(.int .i64 0), (.int .i64 0), (.int .i64 0), (.int .i64 0)] [(0, 1, (.c (.int .i64 1))), (1, 1, (.c (.int .i64 0)))], none, []⟩,
  ⟨some 12, .build [(.int .i64 0), (.int .i64 0), (.int .i64 0), (.int .i64 0)] [(0, 1, (.c (.int .i64 0))), (1, 1, (.c (.int .i64 1))), (2, 1, (.c (.int .i64 1)))], none, []⟩,
  ⟨some 13, .build [(.int .i64 0), (.int .i64 0), (.int .i64 0), (.int .i64 0)] [], none, []⟩,
  ⟨some 14, .build [(.int .i64 0), (.int .i64 0), (.int .i64 0), (.int .i64 0)] [(0, 1, (.c (.int .i64 1))), (1, 1, (.c (.int .i64 0)))], none, []⟩,
  ⟨some 15, .build [(.int .i64 0), (.int .i64 0), (.int .i64 0), (.int .i64 0)] [(0, 1, (.c (.int .i64 1))), (1, 1, (.c (.int .i64 0)))], none, []⟩,
  ⟨some 16, .build [(.int .i64 0), (.int .i64 0), (.int .i64 0), (.int .i64 0)] [], none, []⟩,
  ⟨some 17, .build [(.int .i64 0), (.int .i64 0), (.int .i64 0), (.int .i64 0)] [(0, 1, (.c (.int .i64 1))), (1, 1, (.c (.int .i64 1)))], none, []⟩,
  ⟨some 18, .build [(.int .i64 0), (.int .i64 0), (.int .i64 0), (.int .i64 0)] [(0, 1, (.c (.int .i64 2))), (1, 1, (.c (.int .i64 1)))], none, []⟩,
  ⟨some 19, .build [(.int .i64 0), (.int .i64 0), (.int .i64 0), (.int .i64 0)] [(0, 1, (.c (.int .i64 1))), (1, 1, (.c (.int .i64 1))), (2, 1, (.c (.int .i64 0))), (3, 1, (.c (.int .i64 1)))], none, []⟩,
  ⟨some 20, .build [(.int .i64 0), (.int .i64 0), (.int .i64 0), (.int .i64 0)] [(0, 1, (.c (.int .i64 1))), (1, 1, (.c (.int .i64 1)))], none, []⟩,
  ⟨some 21, .build [(.int .i64 0), (.int .i64 0), (.int .i64 0), (.int .i64 0)] [(0, 1, (.c (.int .i64 3))), (1, 1, (.c (.int .i64 1)))], none, []⟩,
  ⟨some 22, .build [(.int .i64 0), (.int .i64 0), (.int .i64 0), (.int .i64 0)] [(0, 1, (.c (.int .i64 1))), (1, 1, (.c (.int .i64 1)))], none, []⟩,
  ⟨some 23, .build [(.int .i64 0), (.int .i64 0), (.int .i64 0), (.int .i64 0), (.int .i64 0), (.int .i64 0), (.int .i64 0), (.int .i64 0), (.int .i64 0), (.int .i64 0), (.int .i64 0), (.int .i64 0), (.int .i64 0), (.int .i64 0), (.int .i64 0), (.int .i64 0), (.int .i64 0), (.int .i64 0), (.int .i64 0), (.int .i64 0), (.int .i64 0), (.int .i64 0), (.int .i64 0), (.int .i64 0), (.int .i64 0), (.int .i64 0), (.int .i64 0), (.int .i64 0), (.int .i64 0), (.int .i64 0), (.int .i64 0), (.int .i64 0), (.int .i64 0), (.int .i64 0), (.int .i64 0), (.int .i64 0), (.int .i64 0), (.int .i64 0), (.int .i64 0), (.int .i64 0), (.int .i64 0), (.int .i64 0), (.int .i64 0), (.int .i64 0), (.int .i64 0), (.int .i64 0), (.int .i64 0), (.int .i64 0), (.int .i64 0), (.int .i64 0), (.int .i64 0), (.int .i64 0), (.int .i64 0), (.int .i64 0), (.int .i64 0), (.int .i64 0), (.int .i64 0), (.int .i64 0), (.int .i64 0), (.int .i64 0), (.int .i64 0), (.int .i64 0), (.int .i64 0), (.int .i64 0), (.int .i64 0), (.int .i64 0), (.int .i64 0), (.int .i64 0), (.int .i64 0), (.int .i64 0), (.int .i64 0), (.int .i64 0), (.int .i64 0), (.int .i64 0), (.int .i64 0), (.int .i64 0), (.int .i64 0), (.int .i64 0), (.int .i64 0), (.int .i64 0)] [(0, 4, (.t 3)), (4, 4, (.t 4)), (8, 4, (.t 5)), (12, 4, (.t 6)), (16, 4, (.t 7)), (20, 4, (.t 8)), (24, 4, (.t 9)), (28, 4, (.t 10)), (32, 4, (.t 11)), (36, 4, (.t 12)), (40, 4, (.t 13)), (44, 4, (.t 14)), (48, 4, (.t 15)), (52, 4, (.t 16)), (56, 4, (.t 17)), (60, 4, (.t 18)), (64, 4, (.t 19)), (68, 4, (.t 20)), (72, 4, (.t 21)), (76, 4, (.t 22))], none, []⟩,
  ⟨some 24, .mv (.t 0), none, []⟩,
  ⟨some 25, .idxV 20 4 true (.t 23) (.t 24), none, []⟩,
  ⟨none, .store 4 (.t 2) (.t 25), none, []⟩]) (.ret)))⟩
def h84 : Hint := { cb := [], ps := [], cp := [18], cs := [], ap := [], ls := [] }
def c84 : AF := ⟨4, 28, [.tmp 8, .tmp 9],
 (.seq (.reg false [
  ⟨some 8, .mv (.c (.int .i64 0)), none, []⟩,
  ⟨some 9, .mv (.c (.int .i64 0)), none, []⟩]) (.seq (.seq (.reg true [
  ⟨some 10, .mv (.t 0), none, []⟩,
  ⟨some 11, .mv (.t 2), none, []⟩,
  ⟨some 12, .idxS 1 (.t 10) (.t 11), none, [0, 1]⟩,
  ⟨some 13, .load false 1 (.t 12), none, [2, 0, 1]⟩,
  ⟨some 14, .mv (.t 0), none, []⟩,
  ⟨some 15, .mv (.t 1), none, []⟩,
  ⟨some 16, .idxS 1 (.t 14) (.t 15), none, [4, 5]⟩,
  ⟨some 17, .load false 1 (.t 16), none, [6, 4, 5]⟩,
  ⟨some 18, .callP false (.f 42) [(.t 13), (.t 17)], none, [3, 2, 0, 1, 7, 6, 4, 5]⟩]) (.cond (.t 18) (.seq (.reg false [
  ⟨some 19, .mv (.t 3), none, []⟩,
  ⟨some 20, .nilchk (.t 19), none, []⟩,
  ⟨some 21, .load false 1 (.t 20), none, []⟩,
  ⟨some 22, .bin .add (.t 21) (.c (.int .i64 1)), none, []⟩,
  ⟨some 23, .nilchk (.t 19), none, []⟩,
  ⟨none, .store 1 (.t 23) (.t 22), none, []⟩]) (.seq (.reg false [
  ⟨some 24, .mv (.t 2), none, []⟩,
  ⟨some 25, .mv (.t 1), none, []⟩,
  ⟨some 8, .mv (.t 24), none, []⟩,
  ⟨some 9, .mv (.t 25), none, []⟩]) (.ret))) (.skip))) (.seq (.reg false [
  ⟨some 26, .mv (.t 1), none, []⟩,
  ⟨some 27, .mv (.t 2), none, []⟩,
  ⟨some 8, .mv (.t 26), none, []⟩,
  ⟨some 9, .mv (.t 27), none, []⟩]) (.ret))))⟩
def h85 : Hint := { cb := [1], ps := [5], cp := [48, 44, 25, 21], cs := [], ap := [], ls := [] }
def c85 : AF := ⟨1, 53, [.tmp 2],
 (.seq (.reg false [
  ⟨some 1, .boxc (.t 0), none, []⟩,
  ⟨some 2, .mv (.c (.int .i64 0)), none, []⟩]) (.seq (.block 0 (.seq (.reg false [
  ⟨some 8, .fieldA 1 (.t 1), none, []⟩,
  ⟨some 9, .load false 1 (.t 8), none, []⟩,
  ⟨some 10, .lenS (.t 9), none, []⟩,
  ⟨some 11, .bin .gtr (.t 10) (.c (.int .i64 4)), none, []⟩,
  ⟨some 12, .mv (.t 11), none, []⟩,
  ⟨some 13, .fieldA 2 (.t 1), some (12, false), []⟩,
  ⟨some 14, .load false 1 (.t 13), some (12, false), []⟩,
  ⟨some 15, .lenS (.t 14), some (12, false), []⟩,
  ⟨some 16, .bin .gtr (.t 15) (.c (.int .i64 8)), some (12, false), []⟩,
  ⟨some 17, .pick (.t 12) (.c (.bool true)) (.t 16), none, []⟩,
  ⟨some 7, .mv (.t 17), none, []⟩]) (.cond (.t 7) (.seq (.reg false [
  ⟨some 2, .mv (.c (.int .i64 3)), none, []⟩]) (.ret)) (.seq (.reg false [
  ⟨some 19, .fieldA 0 (.t 1), none, []⟩,
  ⟨some 20, .load false 1 (.t 19), none, []⟩,
  ⟨some 21, .callP false (.f 89) [(.t 20), (.c (.int .i64 2))], none, []⟩,
  ⟨some 22, .un .not (.t 21), none, []⟩,
  ⟨some 18, .mv (.t 22), none, []⟩]) (.cond (.t 18) (.seq (.reg false [
  ⟨some 2, .mv (.c (.int .i64 4)), none, []⟩]) (.ret)) (.skip)))))) (.seq (.seq (.reg false [
  ⟨some 23, .fieldA 1 (.t 1), none, []⟩,
  ⟨some 24, .load false 1 (.t 23), none, []⟩,
  ⟨some 25, .callP false (.f 95) [(.t 24), (.c (.int .i64 1))], none, []⟩,
  ⟨some 3, .mv (.t 25), none, []⟩]) (.seq (.reg false [
  ⟨some 26, .mv (.t 3), none, []⟩,
  ⟨some 27, .bin .neq (.t 26) (.c (.int .i64 0)), none, []⟩]) (.cond (.t 27) (.seq (.reg false [
  ⟨some 28, .mv (.t 3), none, []⟩,
  ⟨some 2, .mv (.t 28), none, []⟩]) (.ret)) (.skip)))) (.seq (.seq (.reg false [
  ⟨some 29, .fieldA 2 (.t 1), none, []⟩,
  ⟨some 30, .load false 1 (.t 29), none, []⟩,
  ⟨some 31, .lenS (.t 30), none, []⟩,
  ⟨some 32, .mv (.c (.int .i64 0)), none, []⟩]) (.block 1 (.loop (.seq (.reg false [
  ⟨some 33, .bin .lss (.t 32) (.t 31), none, []⟩]) (.seq (.cond (.t 33) (.skip) (.exit 1)) (.seq (.block 2 (.seq (.reg false [
  ⟨some 34, .idxS 2 (.t 30) (.t 32), none, []⟩,
  ⟨some 35, .load true 2 (.t 34), none, []⟩,
  ⟨some 5, .pend [(.str []), (.slice 0 [] .full)], none, []⟩,
  ⟨none, .shut 5 2 (.t 35), none, []⟩]) (.seq (.block 3 (.seq (.reg false [
  ⟨some 37, .fieldA 1 (.t 5), none, []⟩,
  ⟨some 38, .load false 1 (.t 37), none, []⟩,
  ⟨some 39, .lenS (.t 38), none, []⟩,
  ⟨some 40, .bin .gtr (.t 39) (.c (.int .i64 4)), none, []⟩,
  ⟨some 36, .mv (.t 40), none, []⟩]) (.cond (.t 36) (.seq (.reg false [
  ⟨some 2, .mv (.c (.int .i64 3)), none, []⟩]) (.ret)) (.seq (.reg false [
  ⟨some 42, .fieldA 0 (.t 5), none, []⟩,
  ⟨some 43, .load false 1 (.t 42), none, []⟩,
  ⟨some 44, .callP false (.f 89) [(.t 43), (.c (.int .i64 2))], none, []⟩,
  ⟨some 45, .un .not (.t 44), none, []⟩,
  ⟨some 41, .mv (.t 45), none, []⟩]) (.cond (.t 41) (.seq (.reg false [
  ⟨some 2, .mv (.c (.int .i64 4)), none, []⟩]) (.ret)) (.skip)))))) (.seq (.reg false [
  ⟨some 46, .fieldA 1 (.t 5), none, []⟩,
  ⟨some 47, .load false 1 (.t 46), none, []⟩,
  ⟨some 48, .callP false (.f 96) [(.t 47)], none, []⟩,
  ⟨some 6, .mv (.t 48), none, []⟩]) (.seq (.reg false [
  ⟨some 49, .mv (.t 6), none, []⟩,
  ⟨some 50, .bin .neq (.t 49) (.c (.int .i64 0)), none, []⟩]) (.cond (.t 50) (.seq (.reg false [
  ⟨some 51, .mv (.t 6), none, []⟩,
  ⟨some 2, .mv (.t 51), none, []⟩]) (.ret)) (.skip))))))) (.reg false [
  ⟨some 52, .bin .add (.t 32) (.c (.int .i64 1)), none, []⟩,
  ⟨some 32, .mv (.t 52), none, []⟩]))))))) (.seq (.reg false [
  ⟨some 2, .mv (.c (.int .i64 0)), none, []⟩]) (.ret))))))⟩
def h86 : Hint := { cb := [1], ps := [4], cp := [32, 25, 14], cs := [], ap := [], ls := [] }
def c86 : AF := ⟨1, 37, [.tmp 2],
 (.seq (.reg false [
  ⟨some 1, .boxc (.t 0), none, []⟩,
  ⟨some 2, .mv (.c (.int .i64 0)), none, []⟩]) (.seq (.block 0 (.seq (.reg false [
  ⟨some 7, .fieldA 1 (.t 1), none, []⟩,
  ⟨some 8, .load false 1 (.t 7), none, []⟩,
  ⟨some 9, .lenS (.t 8), none, []⟩,
  ⟨some 10, .bin .gtr (.t 9) (.c (.int .i64 8)), none, []⟩,
  ⟨some 6, .mv (.t 10), none, []⟩]) (.cond (.t 6) (.seq (.reg false [
  ⟨some 2, .mv (.c (.int .i64 3)), none, []⟩]) (.ret)) (.seq (.reg false [
  ⟨some 12, .fieldA 0 (.t 1), none, []⟩,
  ⟨some 13, .load false 1 (.t 12), none, []⟩,
  ⟨some 14, .callP false (.f 89) [(.t 13), (.c (.int .i64 2))], none, []⟩,
  ⟨some 15, .un .not (.t 14), none, []⟩,
  ⟨some 11, .mv (.t 15), none, []⟩]) (.cond (.t 11) (.seq (.reg false [
  ⟨some 2, .mv (.c (.int .i64 4)), none, []⟩]) (.ret)) (.skip)))))) (.seq (.seq (.reg false [
  ⟨some 16, .fieldA 1 (.t 1), none, []⟩,
  ⟨some 17, .load false 1 (.t 16), none, []⟩,
  ⟨some 18, .lenS (.t 17), none, []⟩,
  ⟨some 19, .mv (.c (.int .i64 0)), none, []⟩]) (.block 1 (.loop (.seq (.reg false [
  ⟨some 20, .bin .lss (.t 19) (.t 18), none, []⟩]) (.seq (.cond (.t 20) (.skip) (.exit 1)) (.seq (.block 2 (.seq (.reg false [
  ⟨some 21, .idxS 14 (.t 17) (.t 19), none, []⟩,
  ⟨some 22, .load true 14 (.t 21), none, []⟩,
  ⟨some 4, .pend [(.str []), (.int .i64 0), (.int .i64 0), (.str []), (.slice 0 [] .full), (.slice 0 [] .full), (.int .i64 0), (.int .i64 0), (.int .i64 0), (.str []), (.slice 0 [] .full), (.slice 0 [] .full), (.int .i64 0), (.bool false)], none, []⟩,
  ⟨none, .shut 4 14 (.t 22), none, []⟩]) (.seq (.seq (.reg false [
  ⟨some 23, .fieldA 0 (.t 4), none, []⟩,
  ⟨some 24, .load false 1 (.t 23), none, []⟩,
  ⟨some 25, .callP false (.f 89) [(.t 24), (.c (.int .i64 1))], none, []⟩,
  ⟨some 26, .un .not (.t 25), none, []⟩]) (.cond (.t 26) (.seq (.reg false [
  ⟨some 2, .mv (.c (.int .i64 4)), none, []⟩]) (.ret)) (.skip))) (.seq (.reg false [
  ⟨some 27, .fieldA 1 (.t 4), none, []⟩,
  ⟨some 28, .load true 6 (.t 27), none, []⟩,
  ⟨some 29, .fieldA 7 (.t 4), none, []⟩,
  ⟨some 30, .load true 6 (.t 29), none, []⟩,
  ⟨some 31, .bslice 6 2 [(.int .i64 0), (.int .i64 0), (.str []), (.slice 0 [] .full), (.slice 0 [] .full), (.int .i64 0)] [(0, (.t 28)), (1, (.t 30))], none, []⟩,
  ⟨some 32, .callP false (.f 96) [(.t 31)], none, []⟩,
  ⟨some 5, .mv (.t 32), none, []⟩]) (.seq (.reg false [
  ⟨some 33, .mv (.t 5), none, []⟩,
  ⟨some 34, .bin .neq (.t 33) (.c (.int .i64 0)), none, []⟩]) (.cond (.t 34) (.seq (.reg false [
  ⟨some 35, .mv (.t 5), none, []⟩,
  ⟨some 2, .mv (.t 35), none, []⟩]) (.ret)) (.skip))))))) (.reg false [
  ⟨some 36, .bin .add (.t 19) (.c (.int .i64 1)), none, []⟩,
  ⟨some 19, .mv (.t 36), none, []⟩]))))))) (.seq (.reg false [
  ⟨some 2, .mv (.c (.int .i64 0)), none, []⟩]) (.ret)))))⟩
def h87 : Hint := { cb := [5, 4, 3], ps := [], cp := [], cs := [], ap := [], ls := [] }
def c87 : AF := ⟨3, 35, [.tmp 6],
 (.seq (.reg false [
  ⟨some 3, .boxc (.t 0), none, []⟩,
  ⟨some 4, .boxc (.t 1), none, []⟩,
  ⟨some 5, .boxc (.t 2), none, []⟩,
  ⟨some 6, .mv (.c (.bool false)), none, []⟩]) (.seq (.reg false [
  ⟨some 7, .load false 1 (.t 3), none, []⟩,
  ⟨some 8, .nilchk (.t 7), none, []⟩,
  ⟨some 9, .fieldA 0 (.t 8), none, []⟩,
  ⟨some 10, .load false 1 (.t 9), none, []⟩,
  ⟨some 11, .bin .sub (.t 10) (.c (.int .i64 1)), none, []⟩,
  ⟨some 12, .nilchk (.t 7), none, []⟩,
  ⟨some 13, .fieldA 0 (.t 12), none, []⟩,
  ⟨none, .store 1 (.t 13) (.t 11), none, []⟩]) (.seq (.reg true [
  ⟨some 14, .load false 1 (.t 3), none, []⟩,
  ⟨some 15, .load false 1 (.t 3), none, []⟩,
  ⟨some 16, .nilchk (.t 15), none, [1]⟩,
  ⟨some 17, .fieldA 1 (.t 16), none, [2, 1]⟩,
  ⟨some 18, .load false 1 (.t 17), none, [3, 2, 1]⟩,
  ⟨some 19, .load false 1 (.t 5), none, []⟩,
  ⟨some 20, .minmax true [(.t 18), (.t 19)], none, [4, 3, 2, 1, 5]⟩,
  ⟨some 21, .nilchk (.t 14), none, [0, 1, 2, 3, 4, 5, 6]⟩,
  ⟨some 22, .fieldA 1 (.t 21), none, [7, 0, 1, 2, 3, 4, 5, 6]⟩,
  ⟨none, .store 1 (.t 22) (.t 20), none, [8, 7, 0, 1, 2, 3, 4, 5, 6]⟩]) (.seq (.seq (.reg false [
  ⟨some 23, .load false 1 (.t 3), none, []⟩,
  ⟨some 24, .nilchk (.t 23), none, []⟩,
  ⟨some 25, .fieldA 0 (.t 24), none, []⟩,
  ⟨some 26, .load false 1 (.t 25), none, []⟩,
  ⟨some 27, .bin .lss (.t 26) (.c (.int .i64 0)), none, []⟩,
  ⟨some 28, .mv (.t 27), none, []⟩,
  ⟨some 29, .load false 1 (.t 5), some (28, false), []⟩,
  ⟨some 30, .bin .gtr (.t 29) (.c (.int .i64 200)), some (28, false), []⟩,
  ⟨some 31, .pick (.t 28) (.c (.bool true)) (.t 30), none, []⟩]) (.cond (.t 31) (.seq (.reg false [
  ⟨some 6, .mv (.c (.bool false)), none, []⟩]) (.ret)) (.skip))) (.seq (.reg false [
  ⟨some 32, .load true 7 (.t 4), none, []⟩,
  ⟨some 33, .mkFunc 98 [] [(.t 3), (.t 5)], none, []⟩,
  ⟨some 34, .call (.f 97) [(.t 32), (.t 33)], none, []⟩,
  ⟨some 6, .mv (.t 34), none, []⟩]) (.ret))))))⟩
def h88 : Hint := { cb := [1], ps := [5], cp := [], cs := [], ap := [], ls := [] }
def c88 : AF := ⟨1, 30, [.cell 2 true 7],
 (.seq (.reg false [
  ⟨some 1, .boxc (.t 0), none, []⟩,
  ⟨some 2, .alloc [(.int .i64 0), (.int .i64 0), (.str []), (.str []), (.slice 0 [] .full), (.slice 0 [] .full), (.slice 0 [] .full)], none, []⟩]) (.seq (.reg false [
  ⟨some 6, .fieldA 3 (.t 1), none, []⟩,
  ⟨some 7, .load true 7 (.t 6), none, []⟩,
  ⟨some 3, .alloc [(.int .i64 0), (.int .i64 0), (.str []), (.str []), (.slice 0 [] .full), (.slice 0 [] .full), (.slice 0 [] .full)], none, []⟩,
  ⟨none, .store 7 (.t 3) (.t 7), none, []⟩]) (.seq (.seq (.reg false [
  ⟨some 8, .fieldA 2 (.t 1), none, []⟩,
  ⟨some 9, .load false 1 (.t 8), none, []⟩,
  ⟨some 10, .lenS (.t 9), none, []⟩,
  ⟨some 11, .bin .sub (.t 10) (.c (.int .i64 1)), none, []⟩,
  ⟨some 4, .mv (.t 11), none, []⟩]) (.block 0 (.loop (.seq (.seq (.reg false [
  ⟨some 12, .mv (.t 4), none, []⟩,
  ⟨some 13, .bin .geq (.t 12) (.c (.int .i64 0)), none, []⟩]) (.cond (.t 13) (.skip) (.exit 0))) (.seq (.block 1 (.seq (.reg false [
  ⟨some 16, .fieldA 2 (.t 1), none, []⟩,
  ⟨some 17, .load false 1 (.t 16), none, []⟩,
  ⟨some 18, .mv (.t 4), none, []⟩,
  ⟨some 19, .idxS 8 (.t 17) (.t 18), none, []⟩,
  ⟨some 20, .load true 8 (.t 19), none, []⟩,
  ⟨some 5, .pend [(.str []), (.int .i64 0), (.int .i64 0), (.str []), (.str []), (.slice 0 [] .full), (.slice 0 [] .full), (.slice 0 [] .full)], none, []⟩,
  ⟨none, .shut 5 8 (.t 20), none, []⟩]) (.reg false [
  ⟨some 21, .fieldA 0 (.t 5), none, []⟩,
  ⟨some 22, .load false 1 (.t 21), none, []⟩,
  ⟨some 23, .bslice 1 1 [(.str [])] [(0, (.t 22))], none, []⟩,
  ⟨some 24, .fieldA 1 (.t 5), none, []⟩,
  ⟨some 25, .load true 7 (.t 24), none, []⟩,
  ⟨some 26, .load true 7 (.t 3), none, []⟩,
  ⟨some 27, .bslice 7 2 [(.int .i64 0), (.int .i64 0), (.str []), (.str []), (.slice 0 [] .full), (.slice 0 [] .full), (.slice 0 [] .full)] [(0, (.t 25)), (1, (.t 26))], none, []⟩,
  ⟨some 28, .build [(.int .i64 0), (.int .i64 0), (.str []), (.str []), (.slice 0 [] .full), (.slice 0 [] .full), (.slice 0 [] .full)] [(0, 1, (.c (.int .i64 6))), (4, 1, (.t 23)), (5, 1, (.t 27))], none, []⟩,
  ⟨none, .store 7 (.t 3) (.t 28), none, []⟩]))) (.reg false [
  ⟨some 14, .mv (.t 4), none, []⟩,
  ⟨some 15, .bin .sub (.t 14) (.c (.int .i64 1)), none, []⟩,
  ⟨some 4, .mv (.t 15), none, []⟩])))))) (.seq (.reg false [
  ⟨some 29, .load true 7 (.t 3), none, []⟩,
  ⟨none, .store 7 (.t 2) (.t 29), none, []⟩]) (.ret)))))⟩
def h89 : Hint := { cb := [], ps := [], cp := [13, 9], cs := [], ap := [], ls := [] }
def c89 : AF := ⟨2, 36, [.tmp 4],
 (.seq (.reg false [
  ⟨some 4, .mv (.c (.bool false)), none, []⟩]) (.seq (.seq (.reg false [
  ⟨some 5, .mv (.t 1), none, []⟩]) (.block 0 (.seq (.reg false [
  ⟨some 7, .bin .eql (.t 5) (.c (.int .i64 1)), none, []⟩,
  ⟨some 6, .mv (.t 7), none, []⟩]) (.cond (.t 6) (.seq (.reg false [
  ⟨some 8, .mv (.t 0), none, []⟩,
  ⟨some 9, .callP false (.f 99) [(.t 8)], none, []⟩,
  ⟨some 4, .mv (.t 9), none, []⟩]) (.ret)) (.seq (.reg false [
  ⟨some 11, .bin .eql (.t 5) (.c (.int .i64 2)), none, []⟩,
  ⟨some 10, .mv (.t 11), none, []⟩]) (.cond (.t 10) (.seq (.reg false [
  ⟨some 12, .mv (.t 0), none, []⟩,
  ⟨some 13, .callP false (.f 100) [(.t 12)], none, []⟩,
  ⟨some 4, .mv (.t 13), none, []⟩]) (.ret)) (.seq (.reg false [
  ⟨some 15, .bin .eql (.t 5) (.c (.int .i64 3)), none, []⟩,
  ⟨some 14, .mv (.t 15), none, []⟩]) (.cond (.t 14) (.seq (.reg false [
  ⟨some 16, .mv (.t 0), none, []⟩,
  ⟨some 17, .bin .eql (.t 16) (.c (.str [43])), none, []⟩,
  ⟨some 18, .mv (.t 17), none, []⟩,
  ⟨some 19, .mv (.t 0), some (18, false), []⟩,
  ⟨some 20, .bin .eql (.t 19) (.c (.str [45])), some (18, false), []⟩,
  ⟨some 21, .pick (.t 18) (.c (.bool true)) (.t 20), none, []⟩,
  ⟨some 22, .mv (.t 21), none, []⟩,
  ⟨some 23, .mv (.t 0), some (22, false), []⟩,
  ⟨some 24, .bin .eql (.t 23) (.c (.str [42])), some (22, false), []⟩,
  ⟨some 25, .pick (.t 22) (.c (.bool true)) (.t 24), none, []⟩,
  ⟨some 26, .mv (.t 25), none, []⟩,
  ⟨some 27, .mv (.t 0), some (26, false), []⟩,
  ⟨some 28, .bin .eql (.t 27) (.c (.str [60])), some (26, false), []⟩,
  ⟨some 29, .pick (.t 26) (.c (.bool true)) (.t 28), none, []⟩,
  ⟨some 30, .mv (.t 29), none, []⟩,
  ⟨some 31, .mv (.t 0), some (30, false), []⟩,
  ⟨some 32, .bin .eql (.t 31) (.c (.str [61, 61])), some (30, false), []⟩,
  ⟨some 33, .pick (.t 30) (.c (.bool true)) (.t 32), none, []⟩,
  ⟨some 4, .mv (.t 33), none, []⟩]) (.ret)) (.skip))))))))) (.seq (.reg false [
  ⟨some 34, .mv (.t 0), none, []⟩,
  ⟨some 35, .bin .eql (.t 34) (.c (.str [])), none, []⟩,
  ⟨some 4, .mv (.t 35), none, []⟩]) (.ret))))⟩
def h90 : Hint := { cb := [1], ps := [], cp := [5], cs := [], ap := [], ls := [] }
def c90 : AF := ⟨1, 12, [.tmp 2],
 (.seq (.reg false [
  ⟨some 1, .boxc (.t 0), none, []⟩,
  ⟨some 2, .mv (.c (.int .i64 0)), none, []⟩]) (.seq (.reg false [
  ⟨some 4, .load true 7 (.t 1), none, []⟩,
  ⟨some 5, .callP false (.f 101) [(.t 4)], none, []⟩,
  ⟨some 3, .alloc [(.int .i64 0)], none, []⟩,
  ⟨none, .store 1 (.t 3) (.t 5), none, []⟩]) (.seq (.seq (.reg false [
  ⟨some 6, .load false 1 (.t 3), none, []⟩,
  ⟨some 7, .bin .eql (.t 6) (.c (.int .i64 0)), none, []⟩]) (.cond (.t 7) (.reg false [
  ⟨some 8, .load true 7 (.t 1), none, []⟩,
  ⟨some 9, .mkFunc 102 [] [(.t 3)], none, []⟩,
  ⟨some 10, .call (.f 97) [(.t 8), (.t 9)], none, []⟩]) (.skip))) (.seq (.reg false [
  ⟨some 11, .load false 1 (.t 3), none, []⟩,
  ⟨some 2, .mv (.t 11), none, []⟩]) (.ret)))))⟩
def h91 : Hint := { cb := [3], ps := [], cp := [], cs := [], ap := [], ls := [] }
def c91 : AF := ⟨2, 12, [.tmp 4],
 (.seq (.reg false [
  ⟨some 3, .boxc (.t 1), none, []⟩,
  ⟨some 4, .mv (.c (.int .i64 0)), none, []⟩]) (.seq (.reg false [
  ⟨some 5, .mv (.t 0), none, []⟩,
  ⟨some 6, .nilchk (.t 5), none, []⟩,
  ⟨some 7, .fieldA 0 (.t 6), none, []⟩,
  ⟨some 8, .fieldA 0 (.t 7), none, []⟩,
  ⟨some 9, .load false 1 (.t 8), none, []⟩,
  ⟨some 10, .mkFunc 104 [] [(.t 3)], none, []⟩,
  ⟨some 11, .call (.f 103) [(.t 9), (.t 10)], none, []⟩,
  ⟨some 4, .mv (.t 11), none, []⟩]) (.ret)))⟩
def h92 : Hint := { cb := [], ps := [], cp := [], cs := [], ap := [], ls := [] }
def c92 : AF := ⟨2, 19, [.tmp 4],
 (.seq (.reg false [
  ⟨some 4, .mv (.c (.int .i64 0)), none, []⟩]) (.seq (.seq (.reg false [
  ⟨some 6, .mv (.t 0), none, []⟩,
  ⟨some 7, .lenS (.t 6), none, []⟩,
  ⟨some 8, .mv (.c (.int .i64 0)), none, []⟩]) (.block 0 (.loop (.seq (.reg false [
  ⟨some 9, .bin .lss (.t 8) (.t 7), none, []⟩]) (.seq (.cond (.t 9) (.skip) (.exit 0)) (.seq (.block 1 (.seq (.reg false [
  ⟨some 10, .mv (.t 8), none, []⟩,
  ⟨some 5, .mv (.t 10), none, []⟩]) (.seq (.reg false [
  ⟨some 11, .mv (.t 1), none, []⟩,
  ⟨some 12, .mv (.t 0), none, []⟩,
  ⟨some 13, .mv (.t 5), none, []⟩,
  ⟨some 14, .idxS 2 (.t 12) (.t 13), none, []⟩,
  ⟨some 15, .load true 2 (.t 14), none, []⟩,
  ⟨some 16, .call (.t 11) [(.t 15)], none, []⟩]) (.cond (.t 16) (.seq (.reg false [
  ⟨some 17, .mv (.t 5), none, []⟩,
  ⟨some 4, .mv (.t 17), none, []⟩]) (.ret)) (.skip))))) (.reg false [
  ⟨some 18, .bin .add (.t 8) (.c (.int .i64 1)), none, []⟩,
  ⟨some 8, .mv (.t 18), none, []⟩]))))))) (.seq (.reg false [
  ⟨some 4, .mv (.c (.int .i64 (-1))), none, []⟩]) (.ret))))⟩
def h93 : Hint := { cb := [], ps := [], cp := [], cs := [], ap := [], ls := [] }
def c93 : AF := ⟨2, 19, [.tmp 4],
 (.seq (.reg false [
  ⟨some 4, .mv (.c (.int .i64 0)), none, []⟩]) (.seq (.seq (.reg false [
  ⟨some 6, .mv (.t 0), none, []⟩,
  ⟨some 7, .lenS (.t 6), none, []⟩,
  ⟨some 8, .mv (.c (.int .i64 0)), none, []⟩]) (.block 0 (.loop (.seq (.reg false [
  ⟨some 9, .bin .lss (.t 8) (.t 7), none, []⟩]) (.seq (.cond (.t 9) (.skip) (.exit 0)) (.seq (.block 1 (.seq (.reg false [
  ⟨some 10, .mv (.t 8), none, []⟩,
  ⟨some 5, .mv (.t 10), none, []⟩]) (.seq (.reg false [
  ⟨some 11, .mv (.t 1), none, []⟩,
  ⟨some 12, .mv (.t 0), none, []⟩,
  ⟨some 13, .mv (.t 5), none, []⟩,
  ⟨some 14, .idxS 2 (.t 12) (.t 13), none, []⟩,
  ⟨some 15, .load true 2 (.t 14), none, []⟩,
  ⟨some 16, .call (.t 11) [(.t 15)], none, []⟩]) (.cond (.t 16) (.seq (.reg false [
  ⟨some 17, .mv (.t 5), none, []⟩,
  ⟨some 4, .mv (.t 17), none, []⟩]) (.ret)) (.skip))))) (.reg false [
  ⟨some 18, .bin .add (.t 8) (.c (.int .i64 1)), none, []⟩,
  ⟨some 8, .mv (.t 18), none, []⟩]))))))) (.seq (.reg false [
  ⟨some 4, .mv (.c (.int .i64 (-1))), none, []⟩]) (.ret))))⟩
def h94 : Hint := { cb := [1], ps := [], cp := [], cs := [], ap := [], ls := [] }
def c94 : AF := ⟨1, 10, [.cell 2 true 10],
 (.seq (.reg false [
  ⟨some 1, .boxc (.t 0), none, []⟩,
  ⟨some 2, .alloc [(.slice 0 [] .full), (.slice 0 [] .full), (.slice 0 [] .full), (.int .i64 0), (.int .i64 0), (.str []), (.str []), (.slice 0 [] .full), (.slice 0 [] .full), (.slice 0 [] .full)], none, []⟩]) (.seq (.reg false [
  ⟨some 3, .fieldA 0 (.t 1), none, []⟩,
  ⟨some 4, .fieldA 0 (.t 3), none, []⟩,
  ⟨some 5, .load false 1 (.t 4), none, []⟩,
  ⟨some 6, .fieldA 0 (.t 1), none, []⟩,
  ⟨some 7, .fieldA 1 (.t 6), none, []⟩,
  ⟨some 8, .load false 1 (.t 7), none, []⟩,
  ⟨some 9, .build [(.slice 0 [] .full), (.slice 0 [] .full), (.slice 0 [] .full), (.int .i64 0), (.int .i64 0), (.str []), (.str []), (.slice 0 [] .full), (.slice 0 [] .full), (.slice 0 [] .full)] [(0, 1, (.t 5)), (1, 1, (.t 8))], none, []⟩,
  ⟨none, .store 10 (.t 2) (.t 9), none, []⟩]) (.ret)))⟩
def h95 : Hint := { cb := [], ps := [], cp := [24, 17], cs := [], ap := [], ls := [] }
def c95 : AF := ⟨2, 26, [.tmp 4],
 (.seq (.reg false [
  ⟨some 4, .mv (.c (.int .i64 0)), none, []⟩]) (.seq (.seq (.reg false [
  ⟨some 7, .mv (.t 0), none, []⟩,
  ⟨some 8, .lenS (.t 7), none, []⟩,
  ⟨some 9, .mv (.c (.int .i64 0)), none, []⟩]) (.block 0 (.loop (.seq (.reg false [
  ⟨some 10, .bin .lss (.t 9) (.t 8), none, []⟩]) (.seq (.cond (.t 10) (.skip) (.exit 0)) (.seq (.block 1 (.seq (.reg false [
  ⟨some 11, .mv (.t 9), none, []⟩,
  ⟨some 12, .idxS 1 (.t 7) (.t 9), none, []⟩,
  ⟨some 13, .load false 1 (.t 12), none, []⟩,
  ⟨some 5, .mv (.t 11), none, []⟩,
  ⟨some 6, .mv (.t 13), none, []⟩]) (.block 2 (.seq (.reg false [
  ⟨some 15, .mv (.t 6), none, []⟩,
  ⟨some 16, .mv (.t 1), none, []⟩,
  ⟨some 17, .callP false (.f 89) [(.t 15), (.t 16)], none, []⟩,
  ⟨some 18, .un .not (.t 17), none, []⟩,
  ⟨some 14, .mv (.t 18), none, []⟩]) (.cond (.t 14) (.seq (.reg false [
  ⟨some 4, .mv (.c (.int .i64 4)), none, []⟩]) (.ret)) (.seq (.reg false [
  ⟨some 20, .mv (.t 0), none, []⟩,
  ⟨some 21, .mv (.t 5), none, []⟩,
  ⟨some 22, .cutS 1 (.t 20) none (some (.t 21)) none, none, []⟩,
  ⟨some 23, .mv (.t 6), none, []⟩,
  ⟨some 24, .callP false (.f 72) [(.t 22), (.t 23)], none, []⟩,
  ⟨some 19, .mv (.t 24), none, []⟩]) (.cond (.t 19) (.seq (.reg false [
  ⟨some 4, .mv (.c (.int .i64 5)), none, []⟩]) (.ret)) (.skip)))))))) (.reg false [
  ⟨some 25, .bin .add (.t 9) (.c (.int .i64 1)), none, []⟩,
  ⟨some 9, .mv (.t 25), none, []⟩]))))))) (.seq (.reg false [
  ⟨some 4, .mv (.c (.int .i64 0)), none, []⟩]) (.ret))))⟩
def h96 : Hint := { cb := [], ps := [4], cp := [18, 13], cs := [], ap := [], ls := [] }
def c96 : AF := ⟨1, 21, [.tmp 2],
 (.seq (.reg false [
  ⟨some 2, .mv (.c (.int .i64 0)), none, []⟩]) (.seq (.seq (.reg false [
  ⟨some 6, .mv (.t 0), none, []⟩,
  ⟨some 7, .lenS (.t 6), none, []⟩,
  ⟨some 8, .mv (.c (.int .i64 0)), none, []⟩]) (.block 0 (.loop (.seq (.reg false [
  ⟨some 9, .bin .lss (.t 8) (.t 7), none, []⟩]) (.seq (.cond (.t 9) (.skip) (.exit 0)) (.seq (.block 1 (.seq (.reg false [
  ⟨some 10, .idxS 6 (.t 6) (.t 8), none, []⟩,
  ⟨some 11, .load true 6 (.t 10), none, []⟩,
  ⟨some 4, .pend [(.int .i64 0), (.int .i64 0), (.str []), (.slice 0 [] .full), (.slice 0 [] .full), (.int .i64 0)], none, []⟩,
  ⟨none, .shut 4 6 (.t 11), none, []⟩]) (.seq (.seq (.reg false [
  ⟨some 12, .load true 6 (.t 4), none, []⟩,
  ⟨some 13, .callP false (.f 105) [(.t 12)], none, []⟩,
  ⟨some 5, .mv (.t 13), none, []⟩]) (.seq (.reg false [
  ⟨some 14, .mv (.t 5), none, []⟩,
  ⟨some 15, .bin .neq (.t 14) (.c (.int .i64 0)), none, []⟩]) (.cond (.t 15) (.seq (.reg false [
  ⟨some 16, .mv (.t 5), none, []⟩,
  ⟨some 2, .mv (.t 16), none, []⟩]) (.ret)) (.skip)))) (.seq (.reg false [
  ⟨some 17, .load true 6 (.t 4), none, []⟩,
  ⟨some 18, .callP false (.f 106) [(.t 17)], none, []⟩,
  ⟨some 19, .un .not (.t 18), none, []⟩]) (.cond (.t 19) (.seq (.reg false [
  ⟨some 2, .mv (.c (.int .i64 1)), none, []⟩]) (.ret)) (.skip)))))) (.reg false [
  ⟨some 20, .bin .add (.t 8) (.c (.int .i64 1)), none, []⟩,
  ⟨some 8, .mv (.t 20), none, []⟩]))))))) (.seq (.reg false [
  ⟨some 2, .mv (.c (.int .i64 0)), none, []⟩]) (.ret))))⟩
def h97 : Hint := { cb := [2], ps := [8, 6], cp := [], cs := [], ap := [], ls := [] }
def c97 : AF := ⟨2, 34, [.tmp 4],
 (.seq (.reg false [
  ⟨some 2, .boxc (.t 0), none, []⟩,
  ⟨some 4, .mv (.c (.bool false)), none, []⟩]) (.seq (.seq (.reg false [
  ⟨some 9, .fieldA 5 (.t 2), none, []⟩,
  ⟨some 10, .load false 1 (.t 9), none, []⟩,
  ⟨some 11, .lenS (.t 10), none, []⟩,
  ⟨some 12, .mv (.c (.int .i64 0)), none, []⟩]) (.block 0 (.loop (.seq (.reg false [
  ⟨some 13, .bin .lss (.t 12) (.t 11), none, []⟩]) (.seq (.cond (.t 13) (.skip) (.exit 0)) (.seq (.block 1 (.seq (.reg false [
  ⟨some 14, .idxS 7 (.t 10) (.t 12), none, []⟩,
  ⟨some 15, .load true 7 (.t 14), none, []⟩,
  ⟨some 6, .pend [(.int .i64 0), (.int .i64 0), (.str []), (.str []), (.slice 0 [] .full), (.slice 0 [] .full), (.slice 0 [] .full)], none, []⟩,
  ⟨none, .shut 6 7 (.t 15), none, []⟩]) (.seq (.reg false [
  ⟨some 16, .mv (.t 1), none, []⟩,
  ⟨some 17, .load true 7 (.t 6), none, []⟩,
  ⟨some 18, .call (.t 16) [(.t 17)], none, []⟩,
  ⟨some 19, .un .not (.t 18), none, []⟩]) (.cond (.t 19) (.seq (.reg false [
  ⟨some 4, .mv (.c (.bool false)), none, []⟩]) (.ret)) (.skip))))) (.reg false [
  ⟨some 20, .bin .add (.t 12) (.c (.int .i64 1)), none, []⟩,
  ⟨some 12, .mv (.t 20), none, []⟩]))))))) (.seq (.seq (.reg false [
  ⟨some 21, .fieldA 6 (.t 2), none, []⟩,
  ⟨some 22, .load false 1 (.t 21), none, []⟩,
  ⟨some 23, .lenS (.t 22), none, []⟩,
  ⟨some 24, .mv (.c (.int .i64 0)), none, []⟩]) (.block 2 (.loop (.seq (.reg false [
  ⟨some 25, .bin .lss (.t 24) (.t 23), none, []⟩]) (.seq (.cond (.t 25) (.skip) (.exit 2)) (.seq (.block 3 (.seq (.reg false [
  ⟨some 26, .idxS 9 (.t 22) (.t 24), none, []⟩,
  ⟨some 27, .load true 9 (.t 26), none, []⟩,
  ⟨some 8, .pend [(.str []), (.slice 0 [] .full), (.int .i64 0), (.int .i64 0), (.str []), (.str []), (.slice 0 [] .full), (.slice 0 [] .full), (.slice 0 [] .full)], none, []⟩,
  ⟨none, .shut 8 9 (.t 27), none, []⟩]) (.seq (.reg false [
  ⟨some 28, .mv (.t 1), none, []⟩,
  ⟨some 29, .fieldA 2 (.t 8), none, []⟩,
  ⟨some 30, .load true 7 (.t 29), none, []⟩,
  ⟨some 31, .call (.t 28) [(.t 30)], none, []⟩,
  ⟨some 32, .un .not (.t 31), none, []⟩]) (.cond (.t 32) (.seq (.reg false [
  ⟨some 4, .mv (.c (.bool false)), none, []⟩]) (.ret)) (.skip))))) (.reg false [
  ⟨some 33, .bin .add (.t 24) (.c (.int .i64 1)), none, []⟩,
  ⟨some 24, .mv (.t 33), none, []⟩]))))))) (.seq (.reg false [
  ⟨some 4, .mv (.c (.bool true)), none, []⟩]) (.ret)))))⟩
def h98 : Hint := { cb := [3], ps := [], cp := [], cs := [], ap := [], ls := [] }
def c98 : AF := ⟨3, 10, [.tmp 4],
 (.seq (.reg false [
  ⟨some 3, .boxc (.t 0), none, []⟩,
  ⟨some 4, .mv (.c (.bool false)), none, []⟩]) (.seq (.reg false [
  ⟨some 5, .load false 1 (.t 1), none, []⟩,
  ⟨some 6, .load true 7 (.t 3), none, []⟩,
  ⟨some 7, .load false 1 (.t 2), none, []⟩,
  ⟨some 8, .bin .add (.t 7) (.c (.int .i64 1)), none, []⟩,
  ⟨some 9, .call (.f 87) [(.t 5), (.t 6), (.t 8)], none, []⟩,
  ⟨some 4, .mv (.t 9), none, []⟩]) (.ret)))⟩
def h99 : Hint := { cb := [], ps := [], cp := [7, 4], cs := [], ap := [], ls := [] }
def c99 : AF := ⟨1, 10, [.tmp 2],
 (.seq (.reg false [
  ⟨some 2, .mv (.c (.bool false)), none, []⟩]) (.seq (.reg false [
  ⟨some 3, .mv (.t 0), none, []⟩,
  ⟨some 4, .callP false (.f 107) [(.t 3), (.c (.int .i64 2))], none, []⟩,
  ⟨some 5, .mv (.t 4), none, []⟩,
  ⟨some 6, .mv (.t 0), some (5, true), []⟩,
  ⟨some 7, .callP false (.f 108) [(.t 6)], some (5, true), []⟩,
  ⟨some 8, .un .not (.t 7), some (5, true), []⟩,
  ⟨some 9, .pick (.t 5) (.t 8) (.c (.bool false)), none, []⟩,
  ⟨some 2, .mv (.t 9), none, []⟩]) (.ret)))⟩
def h100 : Hint := { cb := [], ps := [], cp := [4], cs := [], ap := [], ls := [] }
def c100 : AF := ⟨1, 5, [.tmp 2],
 (.seq (.reg false [
  ⟨some 2, .mv (.c (.bool false)), none, []⟩]) (.seq (.reg false [
  ⟨some 3, .mv (.t 0), none, []⟩,
  ⟨some 4, .callP false (.f 107) [(.t 3), (.c (.int .i64 3))], none, []⟩,
  ⟨some 2, .mv (.t 4), none, []⟩]) (.ret)))⟩
def h101 : Hint := { cb := [1], ps := [3], cp := [114, 102, 94, 65, 52, 38, 31, 24, 11], cs := [], ap := [], ls := [] }
def c101 : AF := ⟨1, 132, [.tmp 2],
 (.seq (.reg false [
  ⟨some 1, .boxc (.t 0), none, []⟩,
  ⟨some 2, .mv (.c (.int .i64 0)), none, []⟩]) (.seq (.seq (.reg false [
  ⟨some 9, .fieldA 0 (.t 1), none, []⟩,
  ⟨some 10, .load false 1 (.t 9), none, []⟩,
  ⟨some 11, .callP false (.f 109) [(.t 10), (.c (.int .i64 0)), (.c (.int .i64 19))], none, []⟩,
  ⟨some 12, .un .not (.t 11), none, []⟩]) (.cond (.t 12) (.seq (.reg false [
  ⟨some 2, .mv (.c (.int .i64 1)), none, []⟩]) (.ret)) (.skip))) (.seq (.reg false [
  ⟨some 13, .fieldA 0 (.t 1), none, []⟩,
  ⟨some 14, .load false 1 (.t 13), none, []⟩,
  ⟨some 15, .idxA 20 9 (.g 0) (.t 14), none, []⟩,
  ⟨some 16, .load true 9 (.t 15), none, []⟩,
  ⟨some 3, .pend [(.int .i64 0), (.int .i64 0), (.int .i64 0), (.int .i64 0), (.int .i64 0), (.int .i64 0), (.bool false), (.int .i64 0), (.int .i64 0)], none, []⟩,
  ⟨none, .shut 3 9 (.t 16), none, []⟩]) (.seq (.block 0 (.seq (.reg false [
  ⟨some 18, .fieldA 1 (.t 1), none, []⟩,
  ⟨some 19, .load false 1 (.t 18), none, []⟩,
  ⟨some 20, .fieldA 7 (.t 3), none, []⟩,
  ⟨some 21, .load false 1 (.t 20), none, []⟩,
  ⟨some 22, .fieldA 8 (.t 3), none, []⟩,
  ⟨some 23, .load false 1 (.t 22), none, []⟩,
  ⟨some 24, .callP false (.f 109) [(.t 19), (.t 21), (.t 23)], none, []⟩,
  ⟨some 25, .un .not (.t 24), none, []⟩,
  ⟨some 17, .mv (.t 25), none, []⟩]) (.cond (.t 17) (.seq (.reg false [
  ⟨some 2, .mv (.c (.int .i64 1)), none, []⟩]) (.ret)) (.seq (.reg false [
  ⟨some 27, .fieldA 2 (.t 1), none, []⟩,
  ⟨some 28, .load false 1 (.t 27), none, []⟩,
  ⟨some 29, .fieldA 0 (.t 3), none, []⟩,
  ⟨some 30, .load false 1 (.t 29), none, []⟩,
  ⟨some 31, .callP false (.f 89) [(.t 28), (.t 30)], none, []⟩,
  ⟨some 32, .un .not (.t 31), none, []⟩,
  ⟨some 33, .mv (.t 32), none, []⟩,
  ⟨some 34, .fieldA 3 (.t 1), some (33, false), []⟩,
  ⟨some 35, .load false 1 (.t 34), some (33, false), []⟩,
  ⟨some 36, .fieldA 1 (.t 3), some (33, false), []⟩,
  ⟨some 37, .load false 1 (.t 36), some (33, false), []⟩,
  ⟨some 38, .callP false (.f 89) [(.t 35), (.t 37)], some (33, false), []⟩,
  ⟨some 39, .un .not (.t 38), some (33, false), []⟩,
  ⟨some 40, .pick (.t 33) (.c (.bool true)) (.t 39), none, []⟩,
  ⟨some 26, .mv (.t 40), none, []⟩]) (.cond (.t 26) (.seq (.reg false [
  ⟨some 2, .mv (.c (.int .i64 4)), none, []⟩]) (.ret)) (.seq (.reg false [
  ⟨some 42, .fieldA 4 (.t 1), none, []⟩,
  ⟨some 43, .load false 1 (.t 42), none, []⟩,
  ⟨some 44, .lenS (.t 43), none, []⟩,
  ⟨some 45, .fieldA 2 (.t 3), none, []⟩,
  ⟨some 46, .load false 1 (.t 45), none, []⟩,
  ⟨some 47, .fieldA 2 (.t 3), none, []⟩,
  ⟨some 48, .load false 1 (.t 47), none, []⟩,
  ⟨some 49, .fieldA 3 (.t 3), none, []⟩,
  ⟨some 50, .load false 1 (.t 49), none, []⟩,
  ⟨some 51, .bin .add (.t 48) (.t 50), none, []⟩,
  ⟨some 52, .callP false (.f 109) [(.t 44), (.t 46), (.t 51)], none, []⟩,
  ⟨some 53, .un .not (.t 52), none, []⟩,
  ⟨some 54, .mv (.t 53), none, []⟩,
  ⟨some 55, .fieldA 5 (.t 1), some (54, false), []⟩,
  ⟨some 56, .load false 1 (.t 55), some (54, false), []⟩,
  ⟨some 57, .lenS (.t 56), some (54, false), []⟩,
  ⟨some 58, .fieldA 4 (.t 3), some (54, false), []⟩,
  ⟨some 59, .load false 1 (.t 58), some (54, false), []⟩,
  ⟨some 60, .fieldA 4 (.t 3), some (54, false), []⟩,
  ⟨some 61, .load false 1 (.t 60), some (54, false), []⟩,
  ⟨some 62, .fieldA 5 (.t 3), some (54, false), []⟩,
  ⟨some 63, .load false 1 (.t 62), some (54, false), []⟩,
  ⟨some 64, .bin .add (.t 61) (.t 63), some (54, false), []⟩,
  ⟨some 65, .callP false (.f 109) [(.t 57), (.t 59), (.t 64)], some (54, false), []⟩,
  ⟨some 66, .un .not (.t 65), some (54, false), []⟩,
  ⟨some 67, .pick (.t 54) (.c (.bool true)) (.t 66), none, []⟩,
  ⟨some 41, .mv (.t 67), none, []⟩]) (.cond (.t 41) (.seq (.reg false [
  ⟨some 2, .mv (.c (.int .i64 7)), none, []⟩]) (.ret)) (.seq (.reg false [
  ⟨some 69, .fieldA 6 (.t 3), none, []⟩,
  ⟨some 70, .load false 1 (.t 69), none, []⟩,
  ⟨some 71, .un .not (.t 70), none, []⟩,
  ⟨some 72, .mv (.t 71), none, []⟩,
  ⟨some 73, .fieldA 6 (.t 1), some (72, true), []⟩,
  ⟨some 74, .load false 1 (.t 73), some (72, true), []⟩,
  ⟨some 75, .lenS (.t 74), some (72, true), []⟩,
  ⟨some 76, .bin .gtr (.t 75) (.c (.int .i64 0)), some (72, true), []⟩,
  ⟨some 77, .pick (.t 72) (.t 76) (.c (.bool false)), none, []⟩,
  ⟨some 78, .mv (.t 77), none, []⟩,
  ⟨some 79, .fieldA 6 (.t 1), some (78, false), []⟩,
  ⟨some 80, .load false 1 (.t 79), some (78, false), []⟩,
  ⟨some 81, .lenS (.t 80), some (78, false), []⟩,
  ⟨some 82, .bin .gtr (.t 81) (.c (.int .i64 9)), some (78, false), []⟩,
  ⟨some 83, .pick (.t 78) (.c (.bool true)) (.t 82), none, []⟩,
  ⟨some 68, .mv (.t 83), none, []⟩]) (.cond (.t 68) (.seq (.reg false [
  ⟨some 2, .mv (.c (.int .i64 7)), none, []⟩]) (.ret)) (.skip)))))))))) (.seq (.reg false [
  ⟨some 84, .fieldA 4 (.t 1), none, []⟩,
  ⟨some 85, .load false 1 (.t 84), none, []⟩,
  ⟨some 86, .lenS (.t 85), none, []⟩,
  ⟨some 4, .mv (.t 86), none, []⟩]) (.seq (.seq (.reg false [
  ⟨some 87, .fieldA 0 (.t 1), none, []⟩,
  ⟨some 88, .load false 1 (.t 87), none, []⟩,
  ⟨some 89, .bin .eql (.t 88) (.c (.int .i64 17)), none, []⟩]) (.cond (.t 89) (.reg false [
  ⟨some 4, .mv (.c (.int .i64 1)), none, []⟩]) (.skip))) (.seq (.seq (.reg false [
  ⟨some 90, .fieldA 4 (.t 1), none, []⟩,
  ⟨some 91, .load false 1 (.t 90), none, []⟩,
  ⟨some 92, .mv (.t 4), none, []⟩,
  ⟨some 93, .cutS 1 (.t 91) none (some (.t 92)) none, none, []⟩,
  ⟨some 94, .callP false (.f 95) [(.t 93), (.c (.int .i64 1))], none, []⟩,
  ⟨some 5, .mv (.t 94), none, []⟩]) (.seq (.reg false [
  ⟨some 95, .mv (.t 5), none, []⟩,
  ⟨some 96, .bin .neq (.t 95) (.c (.int .i64 0)), none, []⟩]) (.cond (.t 96) (.seq (.reg false [
  ⟨some 97, .mv (.t 5), none, []⟩,
  ⟨some 2, .mv (.t 97), none, []⟩]) (.ret)) (.skip)))) (.seq (.seq (.reg false [
  ⟨some 98, .fieldA 4 (.t 1), none, []⟩,
  ⟨some 99, .load false 1 (.t 98), none, []⟩,
  ⟨some 100, .mv (.t 4), none, []⟩,
  ⟨some 101, .cutS 1 (.t 99) (some (.t 100)) none none, none, []⟩,
  ⟨some 102, .callP false (.f 95) [(.t 101), (.c (.int .i64 2))], none, []⟩,
  ⟨some 6, .mv (.t 102), none, []⟩]) (.seq (.reg false [
  ⟨some 103, .mv (.t 6), none, []⟩,
  ⟨some 104, .bin .neq (.t 103) (.c (.int .i64 0)), none, []⟩]) (.cond (.t 104) (.seq (.reg false [
  ⟨some 105, .mv (.t 6), none, []⟩,
  ⟨some 2, .mv (.t 105), none, []⟩]) (.ret)) (.skip)))) (.seq (.seq (.reg false [
  ⟨some 106, .fieldA 6 (.t 1), none, []⟩,
  ⟨some 107, .load false 1 (.t 106), none, []⟩,
  ⟨some 108, .lenS (.t 107), none, []⟩,
  ⟨some 109, .mv (.c (.int .i64 0)), none, []⟩]) (.block 1 (.loop (.seq (.reg false [
  ⟨some 110, .bin .lss (.t 109) (.t 108), none, []⟩]) (.seq (.cond (.t 110) (.skip) (.exit 1)) (.seq (.block 2 (.seq (.reg false [
  ⟨some 111, .mv (.t 109), none, []⟩,
  ⟨some 7, .mv (.t 111), none, []⟩]) (.seq (.reg false [
  ⟨some 112, .load true 7 (.t 1), none, []⟩,
  ⟨some 113, .mv (.t 7), none, []⟩,
  ⟨some 114, .callP false (.f 110) [(.t 112), (.t 113)], none, []⟩,
  ⟨some 8, .mv (.t 114), none, []⟩]) (.seq (.reg false [
  ⟨some 115, .mv (.t 8), none, []⟩,
  ⟨some 116, .bin .neq (.t 115) (.c (.int .i64 0)), none, []⟩]) (.cond (.t 116) (.seq (.reg false [
  ⟨some 117, .mv (.t 8), none, []⟩,
  ⟨some 2, .mv (.t 117), none, []⟩]) (.ret)) (.skip)))))) (.reg false [
  ⟨some 118, .bin .add (.t 109) (.c (.int .i64 1)), none, []⟩,
  ⟨some 109, .mv (.t 118), none, []⟩]))))))) (.seq (.seq (.reg false [
  ⟨some 119, .fieldA 0 (.t 1), none, []⟩,
  ⟨some 120, .load false 1 (.t 119), none, []⟩,
  ⟨some 121, .bin .neq (.t 120) (.c (.int .i64 11)), none, []⟩,
  ⟨some 122, .mv (.t 121), none, []⟩,
  ⟨some 123, .fieldA 6 (.t 3), some (122, true), []⟩,
  ⟨some 124, .load false 1 (.t 123), some (122, true), []⟩,
  ⟨some 125, .pick (.t 122) (.t 124) (.c (.bool false)), none, []⟩,
  ⟨some 126, .mv (.t 125), none, []⟩,
  ⟨some 127, .fieldA 6 (.t 1), some (126, true), []⟩,
  ⟨some 128, .load false 1 (.t 127), some (126, true), []⟩,
  ⟨some 129, .lenS (.t 128), some (126, true), []⟩,
  ⟨some 130, .bin .eql (.t 129) (.c (.int .i64 0)), some (126, true), []⟩,
  ⟨some 131, .pick (.t 126) (.t 130) (.c (.bool false)), none, []⟩]) (.cond (.t 131) (.seq (.reg false [
  ⟨some 2, .mv (.c (.int .i64 7)), none, []⟩]) (.ret)) (.skip))) (.seq (.reg false [
  ⟨some 2, .mv (.c (.int .i64 0)), none, []⟩]) (.ret))))))))))))⟩
def h102 : Hint := { cb := [2], ps := [], cp := [5], cs := [], ap := [], ls := [] }
def c102 : AF := ⟨2, 8, [.tmp 3],
 (.seq (.reg false [
  ⟨some 2, .boxc (.t 0), none, []⟩,
  ⟨some 3, .mv (.c (.bool false)), none, []⟩]) (.seq (.reg false [
  ⟨some 4, .load true 7 (.t 2), none, []⟩,
  ⟨some 5, .callP false (.f 90) [(.t 4)], none, []⟩,
  ⟨none, .store 1 (.t 1) (.t 5), none, []⟩]) (.seq (.reg false [
  ⟨some 6, .load false 1 (.t 1), none, []⟩,
  ⟨some 7, .bin .eql (.t 6) (.c (.int .i64 0)), none, []⟩,
  ⟨some 3, .mv (.t 7), none, []⟩]) (.ret))))⟩
def h103 : Hint := { cb := [], ps := [], cp := [], cs := [], ap := [], ls := [] }
def c103 : AF := ⟨2, 8, [.tmp 4],
 (.seq (.reg false [
  ⟨some 4, .mv (.c (.int .i64 0)), none, []⟩]) (.seq (.reg false [
  ⟨some 5, .mv (.t 0), none, []⟩,
  ⟨some 6, .mv (.t 1), none, []⟩,
  ⟨some 7, .call (.f 111) [(.t 5), (.t 6)], none, []⟩,
  ⟨some 4, .mv (.t 7), none, []⟩]) (.ret)))⟩
def h104 : Hint := { cb := [2], ps := [], cp := [], cs := [], ap := [], ls := [] }
def c104 : AF := ⟨2, 8, [.tmp 3],
 (.seq (.reg false [
  ⟨some 2, .boxc (.t 0), none, []⟩,
  ⟨some 3, .mv (.c (.bool false)), none, []⟩]) (.seq (.reg false [
  ⟨some 4, .fieldA 0 (.t 2), none, []⟩,
  ⟨some 5, .load false 1 (.t 4), none, []⟩,
  ⟨some 6, .load false 1 (.t 1), none, []⟩,
  ⟨some 7, .bin .eql (.t 5) (.t 6), none, []⟩,
  ⟨some 3, .mv (.t 7), none, []⟩]) (.ret)))⟩
def h105 : Hint := { cb := [1], ps := [], cp := [9], cs := [], ap := [], ls := [] }
def c105 : AF := ⟨1, 10, [.tmp 2],
 (.seq (.reg false [
  ⟨some 1, .boxc (.t 0), none, []⟩,
  ⟨some 2, .mv (.c (.int .i64 0)), none, []⟩]) (.seq (.reg false [
  ⟨some 4, .build [(.int .i64 0), (.int .i64 0)] [(0, 1, (.c (.int .i64 3000)))], none, []⟩,
  ⟨some 3, .alloc [(.int .i64 0), (.int .i64 0)], none, []⟩,
  ⟨none, .store 2 (.t 3) (.t 4), none, []⟩]) (.seq (.seq (.reg false [
  ⟨some 5, .load true 6 (.t 1), none, []⟩,
  ⟨some 6, .call (.f 112) [(.t 3), (.t 5), (.c (.int .i64 1))], none, []⟩,
  ⟨some 7, .un .not (.t 6), none, []⟩]) (.cond (.t 7) (.seq (.reg false [
  ⟨some 2, .mv (.c (.int .i64 3)), none, []⟩]) (.ret)) (.skip))) (.seq (.reg false [
  ⟨some 8, .load true 6 (.t 1), none, []⟩,
  ⟨some 9, .callP false (.f 113) [(.t 8)], none, []⟩,
  ⟨some 2, .mv (.t 9), none, []⟩]) (.ret)))))⟩
def h106 : Hint := { cb := [1], ps := [], cp := [], cs := [], ap := [], ls := [] }
def c106 : AF := ⟨1, 25, [.tmp 2],
 (.seq (.reg false [
  ⟨some 1, .boxc (.t 0), none, []⟩,
  ⟨some 2, .mv (.c (.bool false)), none, []⟩]) (.seq (.seq (.reg false [
  ⟨some 3, .fieldA 0 (.t 1), none, []⟩,
  ⟨some 4, .load false 1 (.t 3), none, []⟩,
  ⟨some 5, .bin .eql (.t 4) (.c (.int .i64 0)), none, []⟩,
  ⟨some 6, .mv (.t 5), none, []⟩,
  ⟨some 7, .fieldA 0 (.t 1), some (6, false), []⟩,
  ⟨some 8, .load false 1 (.t 7), some (6, false), []⟩,
  ⟨some 9, .bin .eql (.t 8) (.c (.int .i64 5)), some (6, false), []⟩,
  ⟨some 10, .mv (.t 9), some (6, false), []⟩,
  ⟨some 11, .fieldA 4 (.t 1), some (10, true), []⟩,
  ⟨some 12, .fieldA 1 (.t 11), some (10, true), []⟩,
  ⟨some 13, .load false 1 (.t 12), some (10, true), []⟩,
  ⟨some 14, .bin .geq (.t 13) (.c (.int .i64 0)), some (10, true), []⟩,
  ⟨some 15, .pick (.t 10) (.t 14) (.c (.bool false)), some (6, false), []⟩,
  ⟨some 16, .pick (.t 6) (.c (.bool true)) (.t 15), none, []⟩]) (.cond (.t 16) (.seq (.reg false [
  ⟨some 2, .mv (.c (.bool false)), none, []⟩]) (.ret)) (.skip))) (.seq (.seq (.reg false [
  ⟨some 17, .fieldA 4 (.t 1), none, []⟩,
  ⟨some 18, .fieldA 0 (.t 17), none, []⟩,
  ⟨some 19, .load false 1 (.t 18), none, []⟩,
  ⟨some 20, .call (.f 114) [(.t 19), (.f 115)], none, []⟩]) (.cond (.t 20) (.seq (.reg false [
  ⟨some 2, .mv (.c (.bool false)), none, []⟩]) (.ret)) (.skip))) (.seq (.reg false [
  ⟨some 21, .fieldA 3 (.t 1), none, []⟩,
  ⟨some 22, .load false 1 (.t 21), none, []⟩,
  ⟨some 23, .call (.f 116) [(.t 22), (.f 117)], none, []⟩,
  ⟨some 24, .un .not (.t 23), none, []⟩,
  ⟨some 2, .mv (.t 24), none, []⟩]) (.ret)))))⟩
def h107 : Hint := { cb := [], ps := [], cp := [31, 17], cs := [], ap := [], ls := [] }
def c107 : AF := ⟨2, 34, [.tmp 4],
 (.seq (.reg false [
  ⟨some 4, .mv (.c (.bool false)), none, []⟩]) (.seq (.seq (.reg false [
  ⟨some 7, .mv (.t 0), none, []⟩,
  ⟨some 8, .bin .eql (.t 7) (.c (.str [])), none, []⟩,
  ⟨some 9, .mv (.t 8), none, []⟩,
  ⟨some 10, .mv (.t 0), some (9, false), []⟩,
  ⟨some 11, .lenStr (.t 10), some (9, false), []⟩,
  ⟨some 12, .bin .gtr (.t 11) (.c (.int .i64 12)), some (9, false), []⟩,
  ⟨some 13, .pick (.t 9) (.c (.bool true)) (.t 12), none, []⟩,
  ⟨some 14, .mv (.t 13), none, []⟩,
  ⟨some 15, .mv (.t 0), some (14, false), []⟩,
  ⟨some 16, .idxStr (.t 15) (.c (.int .i64 0)), some (14, false), []⟩,
  ⟨some 17, .callP false (.f 118) [(.t 16)], some (14, false), []⟩,
  ⟨some 18, .mv (.t 1), some (14, false), []⟩,
  ⟨some 19, .bin .neq (.t 17) (.t 18), some (14, false), []⟩,
  ⟨some 20, .pick (.t 14) (.c (.bool true)) (.t 19), none, []⟩]) (.cond (.t 20) (.seq (.reg false [
  ⟨some 4, .mv (.c (.bool false)), none, []⟩]) (.ret)) (.skip))) (.seq (.seq (.reg false [
  ⟨some 21, .mv (.t 0), none, []⟩,
  ⟨some 22, .rangeStr (.t 21), none, []⟩]) (.block 0 (.loop (.seq (.reg false [
  ⟨some 23, .nextStr (.t 22), none, []⟩,
  ⟨some 24, .extract (.t 23) 0, none, []⟩]) (.seq (.cond (.t 24) (.skip) (.exit 0)) (.block 1 (.seq (.reg false [
  ⟨some 25, .extract (.t 23) 2, none, []⟩,
  ⟨some 6, .mv (.t 25), none, []⟩]) (.seq (.reg false [
  ⟨some 26, .mv (.t 6), none, []⟩,
  ⟨some 27, .bin .gtr (.t 26) (.c (.int .i32 127)), none, []⟩,
  ⟨some 28, .mv (.t 27), none, []⟩,
  ⟨some 29, .mv (.t 6), some (28, false), []⟩,
  ⟨some 30, .toInt .u8 (.t 29), some (28, false), []⟩,
  ⟨some 31, .callP false (.f 118) [(.t 30)], some (28, false), []⟩,
  ⟨some 32, .bin .lss (.t 31) (.c (.int .i64 2)), some (28, false), []⟩,
  ⟨some 33, .pick (.t 28) (.c (.bool true)) (.t 32), none, []⟩]) (.cond (.t 33) (.seq (.reg false [
  ⟨some 4, .mv (.c (.bool false)), none, []⟩]) (.ret)) (.skip)))))))))) (.seq (.reg false [
  ⟨some 4, .mv (.c (.bool true)), none, []⟩]) (.ret)))))⟩
def h108 : Hint := { cb := [], ps := [], cp := [], cs := [], ap := [], ls := [] }
def c108 : AF := ⟨1, 12, [.tmp 2],
 (.seq (.reg false [
  ⟨some 2, .mv (.c (.bool false)), none, []⟩]) (.seq (.reg false [
  ⟨some 6, .call (.f 119) [], none, []⟩,
  ⟨some 7, .mv (.t 0), none, []⟩,
  ⟨some 8, .lookup true .str (.int .i64 0) (.t 6) (.t 7), none, []⟩,
  ⟨some 5, .mv (.t 8), none, []⟩,
  ⟨some 9, .extract (.t 5) 0, none, []⟩,
  ⟨some 10, .extract (.t 5) 1, none, []⟩,
  ⟨some 3, .mv (.t 9), none, []⟩,
  ⟨some 4, .mv (.t 10), none, []⟩]) (.seq (.reg false [
  ⟨some 11, .mv (.t 4), none, []⟩,
  ⟨some 2, .mv (.t 11), none, []⟩]) (.ret))))⟩
def h109 : Hint := { cb := [], ps := [], cp := [], cs := [], ap := [], ls := [] }
def c109 : AF := ⟨3, 15, [.tmp 6],
 (.seq (.reg false [
  ⟨some 6, .mv (.c (.bool false)), none, []⟩]) (.seq (.reg false [
  ⟨some 7, .mv (.t 1), none, []⟩,
  ⟨some 8, .mv (.t 0), none, []⟩,
  ⟨some 9, .bin .leq (.t 7) (.t 8), none, []⟩,
  ⟨some 10, .mv (.t 9), none, []⟩,
  ⟨some 11, .mv (.t 0), some (10, true), []⟩,
  ⟨some 12, .mv (.t 2), some (10, true), []⟩,
  ⟨some 13, .bin .leq (.t 11) (.t 12), some (10, true), []⟩,
  ⟨some 14, .pick (.t 10) (.t 13) (.c (.bool false)), none, []⟩,
  ⟨some 6, .mv (.t 14), none, []⟩]) (.ret)))⟩
def h110 : Hint := { cb := [2], ps := [5], cp := [51, 46], cs := [], ap := [], ls := [] }
def c110 : AF := ⟨2, 61, [.tmp 4],
 (.seq (.reg false [
  ⟨some 2, .boxc (.t 0), none, []⟩,
  ⟨some 4, .mv (.c (.int .i64 0)), none, []⟩]) (.seq (.reg false [
  ⟨some 9, .fieldA 6 (.t 2), none, []⟩,
  ⟨some 10, .load false 1 (.t 9), none, []⟩,
  ⟨some 11, .mv (.t 1), none, []⟩,
  ⟨some 12, .idxS 9 (.t 10) (.t 11), none, []⟩,
  ⟨some 13, .load true 9 (.t 12), none, []⟩,
  ⟨some 5, .pend [(.str []), (.slice 0 [] .full), (.int .i64 0), (.int .i64 0), (.str []), (.str []), (.slice 0 [] .full), (.slice 0 [] .full), (.slice 0 [] .full)], none, []⟩,
  ⟨none, .shut 5 9 (.t 13), none, []⟩]) (.seq (.reg true [
  ⟨some 14, .fieldA 1 (.t 5), none, []⟩,
  ⟨some 15, .load false 1 (.t 14), none, [0]⟩,
  ⟨some 16, .lenS (.t 15), none, [1, 0]⟩,
  ⟨some 17, .bin .eql (.t 16) (.c (.int .i64 2)), none, [2, 1, 0]⟩,
  ⟨some 6, .mv (.c (.int .i64 1)), none, []⟩,
  ⟨some 7, .mv (.t 17), none, [3, 2, 1, 0, 4]⟩]) (.seq (.block 0 (.seq (.reg false [
  ⟨some 19, .fieldA 0 (.t 2), none, []⟩,
  ⟨some 20, .load false 1 (.t 19), none, []⟩,
  ⟨some 21, .bin .eql (.t 20) (.c (.int .i64 11)), none, []⟩,
  ⟨some 18, .mv (.t 21), none, []⟩]) (.cond (.t 18) (.reg true [
  ⟨some 22, .fieldA 1 (.t 5), none, []⟩,
  ⟨some 23, .load false 1 (.t 22), none, [0]⟩,
  ⟨some 24, .lenS (.t 23), none, [1, 0]⟩,
  ⟨some 25, .bin .leq (.t 24) (.c (.int .i64 4)), none, [2, 1, 0]⟩,
  ⟨some 6, .mv (.c (.int .i64 2)), none, []⟩,
  ⟨some 7, .mv (.t 25), none, [3, 2, 1, 0, 4]⟩]) (.seq (.reg false [
  ⟨some 27, .mv (.t 1), none, []⟩,
  ⟨some 28, .bin .eql (.t 27) (.c (.int .i64 0)), none, []⟩,
  ⟨some 26, .mv (.t 28), none, []⟩]) (.cond (.t 26) (.reg true [
  ⟨some 29, .fieldA 1 (.t 5), none, []⟩,
  ⟨some 30, .load false 1 (.t 29), none, [0]⟩,
  ⟨some 31, .lenS (.t 30), none, [1, 0]⟩,
  ⟨some 32, .bin .eql (.t 31) (.c (.int .i64 1)), none, [2, 1, 0]⟩,
  ⟨some 33, .mv (.t 32), none, [3, 2, 1, 0]⟩,
  ⟨some 34, .fieldA 0 (.t 5), some (33, true), [4, 3, 2, 1, 0]⟩,
  ⟨some 35, .load false 1 (.t 34), some (33, true), [5, 4, 3, 2, 1, 0]⟩,
  ⟨some 36, .bin .eql (.t 35) (.c (.str [114, 101, 116, 117, 114, 110])), some (33, true), [6, 5, 4, 3, 2, 1, 0]⟩,
  ⟨some 37, .pick (.t 33) (.t 36) (.c (.bool false)), none, [4, 3, 2, 1, 0, 7, 6, 5]⟩,
  ⟨some 6, .mv (.c (.int .i64 0)), none, [4, 3, 2, 1, 0]⟩,
  ⟨some 7, .mv (.t 37), none, [8, 4, 3, 2, 1, 0, 7, 6, 5, 9]⟩]) (.skip)))))) (.seq (.seq (.reg false [
  ⟨some 38, .mv (.t 7), none, []⟩,
  ⟨some 39, .un .not (.t 38), none, []⟩]) (.cond (.t 39) (.seq (.reg false [
  ⟨some 4, .mv (.c (.int .i64 7)), none, []⟩]) (.ret)) (.skip))) (.seq (.seq (.reg false [
  ⟨some 40, .mv (.t 6), none, []⟩,
  ⟨some 41, .bin .neq (.t 40) (.c (.int .i64 0)), none, []⟩,
  ⟨some 42, .mv (.t 41), none, []⟩,
  ⟨some 43, .fieldA 0 (.t 5), some (42, true), []⟩,
  ⟨some 44, .load false 1 (.t 43), some (42, true), []⟩,
  ⟨some 45, .mv (.t 6), some (42, true), []⟩,
  ⟨some 46, .callP false (.f 89) [(.t 44), (.t 45)], some (42, true), []⟩,
  ⟨some 47, .un .not (.t 46), some (42, true), []⟩,
  ⟨some 48, .pick (.t 42) (.t 47) (.c (.bool false)), none, []⟩]) (.cond (.t 48) (.seq (.reg false [
  ⟨some 4, .mv (.c (.int .i64 4)), none, []⟩]) (.ret)) (.skip))) (.seq (.seq (.reg false [
  ⟨some 49, .fieldA 1 (.t 5), none, []⟩,
  ⟨some 50, .load false 1 (.t 49), none, []⟩,
  ⟨some 51, .callP false (.f 95) [(.t 50), (.c (.int .i64 1))], none, []⟩,
  ⟨some 8, .mv (.t 51), none, []⟩]) (.seq (.reg false [
  ⟨some 52, .mv (.t 8), none, []⟩,
  ⟨some 53, .bin .neq (.t 52) (.c (.int .i64 0)), none, []⟩]) (.cond (.t 53) (.seq (.reg false [
  ⟨some 54, .mv (.t 8), none, []⟩,
  ⟨some 4, .mv (.t 54), none, []⟩]) (.ret)) (.skip)))) (.seq (.seq (.reg false [
  ⟨some 55, .fieldA 6 (.t 2), none, []⟩,
  ⟨some 56, .load false 1 (.t 55), none, []⟩,
  ⟨some 57, .mv (.t 1), none, []⟩,
  ⟨some 58, .cutS 9 (.t 56) none (some (.t 57)) none, none, []⟩,
  ⟨some 59, .mkFunc 121 [] [(.t 5)], none, []⟩,
  ⟨some 60, .call (.f 120) [(.t 58), (.t 59)], none, []⟩]) (.cond (.t 60) (.seq (.reg false [
  ⟨some 4, .mv (.c (.int .i64 5)), none, []⟩]) (.ret)) (.skip))) (.seq (.reg false [
  ⟨some 4, .mv (.c (.int .i64 0)), none, []⟩]) (.ret))))))))))⟩
def h111 : Hint := { cb := [], ps := [], cp := [], cs := [], ap := [], ls := [] }
def c111 : AF := ⟨2, 19, [.tmp 4],
 (.seq (.reg false [
  ⟨some 4, .mv (.c (.int .i64 0)), none, []⟩]) (.seq (.seq (.reg false [
  ⟨some 6, .mv (.t 0), none, []⟩,
  ⟨some 7, .lenS (.t 6), none, []⟩,
  ⟨some 8, .mv (.c (.int .i64 0)), none, []⟩]) (.block 0 (.loop (.seq (.reg false [
  ⟨some 9, .bin .lss (.t 8) (.t 7), none, []⟩]) (.seq (.cond (.t 9) (.skip) (.exit 0)) (.seq (.block 1 (.seq (.reg false [
  ⟨some 10, .mv (.t 8), none, []⟩,
  ⟨some 5, .mv (.t 10), none, []⟩]) (.seq (.reg false [
  ⟨some 11, .mv (.t 1), none, []⟩,
  ⟨some 12, .mv (.t 0), none, []⟩,
  ⟨some 13, .mv (.t 5), none, []⟩,
  ⟨some 14, .idxS 3 (.t 12) (.t 13), none, []⟩,
  ⟨some 15, .load true 3 (.t 14), none, []⟩,
  ⟨some 16, .call (.t 11) [(.t 15)], none, []⟩]) (.cond (.t 16) (.seq (.reg false [
  ⟨some 17, .mv (.t 5), none, []⟩,
  ⟨some 4, .mv (.t 17), none, []⟩]) (.ret)) (.skip))))) (.reg false [
  ⟨some 18, .bin .add (.t 8) (.c (.int .i64 1)), none, []⟩,
  ⟨some 8, .mv (.t 18), none, []⟩]))))))) (.seq (.reg false [
  ⟨some 4, .mv (.c (.int .i64 (-1))), none, []⟩]) (.ret))))⟩
def h112 : Hint := { cb := [5, 4, 3], ps := [], cp := [], cs := [], ap := [], ls := [] }
def c112 : AF := ⟨3, 35, [.tmp 6],
 (.seq (.reg false [
  ⟨some 3, .boxc (.t 0), none, []⟩,
  ⟨some 4, .boxc (.t 1), none, []⟩,
  ⟨some 5, .boxc (.t 2), none, []⟩,
  ⟨some 6, .mv (.c (.bool false)), none, []⟩]) (.seq (.reg false [
  ⟨some 7, .load false 1 (.t 3), none, []⟩,
  ⟨some 8, .nilchk (.t 7), none, []⟩,
  ⟨some 9, .fieldA 0 (.t 8), none, []⟩,
  ⟨some 10, .load false 1 (.t 9), none, []⟩,
  ⟨some 11, .bin .sub (.t 10) (.c (.int .i64 1)), none, []⟩,
  ⟨some 12, .nilchk (.t 7), none, []⟩,
  ⟨some 13, .fieldA 0 (.t 12), none, []⟩,
  ⟨none, .store 1 (.t 13) (.t 11), none, []⟩]) (.seq (.seq (.reg false [
  ⟨some 14, .load false 1 (.t 3), none, []⟩,
  ⟨some 15, .nilchk (.t 14), none, []⟩,
  ⟨some 16, .fieldA 0 (.t 15), none, []⟩,
  ⟨some 17, .load false 1 (.t 16), none, []⟩,
  ⟨some 18, .bin .lss (.t 17) (.c (.int .i64 0)), none, []⟩,
  ⟨some 19, .mv (.t 18), none, []⟩,
  ⟨some 20, .load false 1 (.t 5), some (19, false), []⟩,
  ⟨some 21, .bin .gtr (.t 20) (.c (.int .i64 200)), some (19, false), []⟩,
  ⟨some 22, .pick (.t 19) (.c (.bool true)) (.t 21), none, []⟩,
  ⟨some 23, .mv (.t 22), none, []⟩,
  ⟨some 24, .fieldA 4 (.t 4), some (23, false), []⟩,
  ⟨some 25, .fieldA 0 (.t 24), some (23, false), []⟩,
  ⟨some 26, .load false 1 (.t 25), some (23, false), []⟩,
  ⟨some 27, .lenS (.t 26), some (23, false), []⟩,
  ⟨some 28, .bin .gtr (.t 27) (.c (.int .i64 24)), some (23, false), []⟩,
  ⟨some 29, .pick (.t 23) (.c (.bool true)) (.t 28), none, []⟩]) (.cond (.t 29) (.seq (.reg false [
  ⟨some 6, .mv (.c (.bool false)), none, []⟩]) (.ret)) (.skip))) (.seq (.reg false [
  ⟨some 30, .fieldA 3 (.t 4), none, []⟩,
  ⟨some 31, .load false 1 (.t 30), none, []⟩,
  ⟨some 32, .mkFunc 122 [] [(.t 3), (.t 5)], none, []⟩,
  ⟨some 33, .call (.f 116) [(.t 31), (.t 32)], none, []⟩,
  ⟨some 34, .un .not (.t 33), none, []⟩,
  ⟨some 6, .mv (.t 34), none, []⟩]) (.ret)))))⟩
def h113 : Hint := { cb := [1], ps := [], cp := [23, 6], cs := [], ap := [], ls := [] }
def c113 : AF := ⟨1, 25, [.tmp 2],
 (.seq (.reg false [
  ⟨some 1, .boxc (.t 0), none, []⟩,
  ⟨some 2, .mv (.c (.int .i64 0)), none, []⟩]) (.seq (.reg false [
  ⟨some 5, .load true 6 (.t 1), none, []⟩,
  ⟨some 6, .callP false (.f 123) [(.t 5)], none, []⟩,
  ⟨some 3, .mv (.t 6), none, []⟩]) (.seq (.seq (.reg false [
  ⟨some 4, .mv (.c (.int .i64 0)), none, []⟩]) (.block 0 (.loop (.seq (.seq (.reg false [
  ⟨some 7, .mv (.t 4), none, []⟩,
  ⟨some 8, .fieldA 3 (.t 1), none, []⟩,
  ⟨some 9, .load false 1 (.t 8), none, []⟩,
  ⟨some 10, .lenS (.t 9), none, []⟩,
  ⟨some 11, .bin .lss (.t 7) (.t 10), none, []⟩,
  ⟨some 12, .mv (.t 11), none, []⟩,
  ⟨some 13, .mv (.t 3), some (12, true), []⟩,
  ⟨some 14, .bin .eql (.t 13) (.c (.int .i64 0)), some (12, true), []⟩,
  ⟨some 15, .pick (.t 12) (.t 14) (.c (.bool false)), none, []⟩]) (.cond (.t 15) (.skip) (.exit 0))) (.seq (.block 1 (.reg false [
  ⟨some 18, .fieldA 3 (.t 1), none, []⟩,
  ⟨some 19, .load false 1 (.t 18), none, []⟩,
  ⟨some 20, .mv (.t 4), none, []⟩,
  ⟨some 21, .idxS 6 (.t 19) (.t 20), none, []⟩,
  ⟨some 22, .load true 6 (.t 21), none, []⟩,
  ⟨some 23, .callP false (.f 113) [(.t 22)], none, []⟩,
  ⟨some 3, .mv (.t 23), none, []⟩])) (.reg false [
  ⟨some 16, .mv (.t 4), none, []⟩,
  ⟨some 17, .bin .add (.t 16) (.c (.int .i64 1)), none, []⟩,
  ⟨some 4, .mv (.t 17), none, []⟩])))))) (.seq (.reg false [
  ⟨some 24, .mv (.t 3), none, []⟩,
  ⟨some 2, .mv (.t 24), none, []⟩]) (.ret)))))⟩
def h114 : Hint := { cb := [], ps := [], cp := [], cs := [], ap := [], ls := [] }
def c114 : AF := ⟨2, 9, [.tmp 4],
 (.seq (.reg false [
  ⟨some 4, .mv (.c (.bool false)), none, []⟩]) (.seq (.reg false [
  ⟨some 5, .mv (.t 0), none, []⟩,
  ⟨some 6, .mv (.t 1), none, []⟩,
  ⟨some 7, .call (.f 124) [(.t 5), (.t 6)], none, []⟩,
  ⟨some 8, .bin .geq (.t 7) (.c (.int .i64 0)), none, []⟩,
  ⟨some 4, .mv (.t 8), none, []⟩]) (.ret)))⟩
def h115 : Hint := { cb := [1], ps := [], cp := [], cs := [], ap := [], ls := [] }
def c115 : AF := ⟨1, 6, [.tmp 2],
 (.seq (.reg false [
  ⟨some 1, .boxc (.t 0), none, []⟩,
  ⟨some 2, .mv (.c (.bool false)), none, []⟩]) (.seq (.reg false [
  ⟨some 3, .fieldA 1 (.t 1), none, []⟩,
  ⟨some 4, .load false 1 (.t 3), none, []⟩,
  ⟨some 5, .bin .neq (.t 4) (.c (.int .i64 0)), none, []⟩,
  ⟨some 2, .mv (.t 5), none, []⟩]) (.ret)))⟩
def h116 : Hint := { cb := [], ps := [], cp := [], cs := [], ap := [], ls := [] }
def c116 : AF := ⟨2, 9, [.tmp 4],
 (.seq (.reg false [
  ⟨some 4, .mv (.c (.bool false)), none, []⟩]) (.seq (.reg false [
  ⟨some 5, .mv (.t 0), none, []⟩,
  ⟨some 6, .mv (.t 1), none, []⟩,
  ⟨some 7, .call (.f 125) [(.t 5), (.t 6)], none, []⟩,
  ⟨some 8, .bin .geq (.t 7) (.c (.int .i64 0)), none, []⟩,
  ⟨some 4, .mv (.t 8), none, []⟩]) (.ret)))⟩
def h117 : Hint := { cb := [1], ps := [], cp := [4], cs := [], ap := [], ls := [] }
def c117 : AF := ⟨1, 6, [.tmp 2],
 (.seq (.reg false [
  ⟨some 1, .boxc (.t 0), none, []⟩,
  ⟨some 2, .mv (.c (.bool false)), none, []⟩]) (.seq (.reg false [
  ⟨some 3, .load true 6 (.t 1), none, []⟩,
  ⟨some 4, .callP false (.f 106) [(.t 3)], none, []⟩,
  ⟨some 5, .un .not (.t 4), none, []⟩,
  ⟨some 2, .mv (.t 5), none, []⟩]) (.ret)))⟩
def h118 : Hint := { cb := [], ps := [], cp := [], cs := [], ap := [], ls := [] }
def c118 : AF := ⟨1, 39, [.tmp 2],
 (.seq (.reg false [
  ⟨some 2, .mv (.c (.int .i64 0)), none, []⟩]) (.seq (.block 0 (.seq (.reg false [
  ⟨some 4, .mv (.t 0), none, []⟩,
  ⟨some 5, .bin .eql (.t 4) (.c (.int .u8 32)), none, []⟩,
  ⟨some 6, .mv (.t 5), none, []⟩,
  ⟨some 7, .mv (.t 0), some (6, false), []⟩,
  ⟨some 8, .bin .eql (.t 7) (.c (.int .u8 9)), some (6, false), []⟩,
  ⟨some 9, .pick (.t 6) (.c (.bool true)) (.t 8), none, []⟩,
  ⟨some 10, .mv (.t 9), none, []⟩,
  ⟨some 11, .mv (.t 0), some (10, false), []⟩,
  ⟨some 12, .bin .eql (.t 11) (.c (.int .u8 10)), some (10, false), []⟩,
  ⟨some 13, .pick (.t 10) (.c (.bool true)) (.t 12), none, []⟩,
  ⟨some 3, .mv (.t 13), none, []⟩]) (.cond (.t 3) (.seq (.reg false [
  ⟨some 2, .mv (.c (.int .i64 1)), none, []⟩]) (.ret)) (.seq (.reg false [
  ⟨some 15, .mv (.t 0), none, []⟩,
  ⟨some 16, .bin .eql (.t 15) (.c (.int .u8 95)), none, []⟩,
  ⟨some 17, .mv (.t 16), none, []⟩,
  ⟨some 18, .mv (.t 0), some (17, false), []⟩,
  ⟨some 19, .bin .leq (.c (.int .u8 97)) (.t 18), some (17, false), []⟩,
  ⟨some 20, .mv (.t 19), some (17, false), []⟩,
  ⟨some 21, .mv (.t 0), some (20, true), []⟩,
  ⟨some 22, .bin .leq (.t 21) (.c (.int .u8 122)), some (20, true), []⟩,
  ⟨some 23, .pick (.t 20) (.t 22) (.c (.bool false)), some (17, false), []⟩,
  ⟨some 24, .pick (.t 17) (.c (.bool true)) (.t 23), none, []⟩,
  ⟨some 14, .mv (.t 24), none, []⟩]) (.cond (.t 14) (.seq (.reg false [
  ⟨some 2, .mv (.c (.int .i64 2)), none, []⟩]) (.ret)) (.seq (.reg false [
  ⟨some 26, .mv (.t 0), none, []⟩,
  ⟨some 27, .bin .leq (.c (.int .u8 65)) (.t 26), none, []⟩,
  ⟨some 28, .mv (.t 27), none, []⟩,
  ⟨some 29, .mv (.t 0), some (28, true), []⟩,
  ⟨some 30, .bin .leq (.t 29) (.c (.int .u8 90)), some (28, true), []⟩,
  ⟨some 31, .pick (.t 28) (.t 30) (.c (.bool false)), none, []⟩,
  ⟨some 25, .mv (.t 31), none, []⟩]) (.cond (.t 25) (.seq (.reg false [
  ⟨some 2, .mv (.c (.int .i64 3)), none, []⟩]) (.ret)) (.seq (.reg false [
  ⟨some 33, .mv (.t 0), none, []⟩,
  ⟨some 34, .bin .leq (.c (.int .u8 48)) (.t 33), none, []⟩,
  ⟨some 35, .mv (.t 34), none, []⟩,
  ⟨some 36, .mv (.t 0), some (35, true), []⟩,
  ⟨some 37, .bin .leq (.t 36) (.c (.int .u8 57)), some (35, true), []⟩,
  ⟨some 38, .pick (.t 35) (.t 37) (.c (.bool false)), none, []⟩,
  ⟨some 32, .mv (.t 38), none, []⟩]) (.cond (.t 32) (.seq (.reg false [
  ⟨some 2, .mv (.c (.int .i64 4)), none, []⟩]) (.ret)) (.skip)))))))))) (.seq (.reg false [
  ⟨some 2, .mv (.c (.int .i64 0)), none, []⟩]) (.ret))))⟩
def h119 : Hint := { cb := [], ps := [], cp := [5], cs := [], ap := [], ls := [] }
def c119 : AF := ⟨0, 15, [.tmp 0],
 (.seq (.reg false [
  ⟨some 0, .mv (.c .nilmap), none, []⟩]) (.seq (.reg false [
  ⟨some 4, .mkMap, none, []⟩,
  ⟨some 1, .mv (.t 4), none, []⟩]) (.seq (.seq (.reg false [
  ⟨some 5, .callP false (.f 126) [(.c (.str [102, 117, 110, 32, 108, 101, 116, 32, 114, 101, 99, 32, 105, 110, 32, 105, 102, 32, 116, 104, 101, 110, 32, 101, 108, 115, 101, 32, 109, 97, 116, 99, 104, 32, 100, 111, 32, 104, 97, 110, 100, 108, 101, 32, 115, 104, 97, 108, 108, 111, 119, 32, 110, 97, 109, 101, 100, 32, 109, 97, 115, 107, 32, 117, 115, 105, 110, 103, 32, 99, 108, 111, 115, 101, 32, 114, 101, 115, 117, 109, 101, 32, 100, 114, 111, 112, 32, 114, 101, 116, 117, 114, 110, 32, 116, 114, 117, 101, 32, 102, 97, 108, 115, 101, 32, 100, 97, 116, 97, 32, 101, 102, 102, 101, 99, 116, 32, 111, 110, 99, 101, 32, 100, 101, 102, 32, 109, 97, 105, 110]))], none, []⟩,
  ⟨some 6, .lenS (.t 5), none, []⟩,
  ⟨some 7, .mv (.c (.int .i64 0)), none, []⟩]) (.block 0 (.loop (.seq (.reg false [
  ⟨some 8, .bin .lss (.t 7) (.t 6), none, []⟩]) (.seq (.cond (.t 8) (.skip) (.exit 0)) (.seq (.block 1 (.seq (.reg false [
  ⟨some 9, .idxS 1 (.t 5) (.t 7), none, []⟩,
  ⟨some 10, .load false 1 (.t 9), none, []⟩,
  ⟨some 3, .mv (.t 10), none, []⟩]) (.reg false [
  ⟨some 11, .mv (.t 1), none, []⟩,
  ⟨some 12, .mv (.t 3), none, []⟩,
  ⟨none, .mapSet .str (.t 11) (.t 12) (.c (.int .i64 1)), none, []⟩]))) (.reg false [
  ⟨some 13, .bin .add (.t 7) (.c (.int .i64 1)), none, []⟩,
  ⟨some 7, .mv (.t 13), none, []⟩]))))))) (.seq (.reg false [
  ⟨some 14, .mv (.t 1), none, []⟩,
  ⟨some 0, .mv (.t 14), none, []⟩]) (.ret)))))⟩
def h120 : Hint := { cb := [], ps := [], cp := [], cs := [], ap := [], ls := [] }
def c120 : AF := ⟨2, 9, [.tmp 4],
 (.seq (.reg false [
  ⟨some 4, .mv (.c (.bool false)), none, []⟩]) (.seq (.reg false [
  ⟨some 5, .mv (.t 0), none, []⟩,
  ⟨some 6, .mv (.t 1), none, []⟩,
  ⟨some 7, .call (.f 127) [(.t 5), (.t 6)], none, []⟩,
  ⟨some 8, .bin .geq (.t 7) (.c (.int .i64 0)), none, []⟩,
  ⟨some 4, .mv (.t 8), none, []⟩]) (.ret)))⟩
def h121 : Hint := { cb := [2], ps := [], cp := [], cs := [], ap := [], ls := [] }
def c121 : AF := ⟨2, 9, [.tmp 3],
 (.seq (.reg false [
  ⟨some 2, .boxc (.t 0), none, []⟩,
  ⟨some 3, .mv (.c (.bool false)), none, []⟩]) (.seq (.reg false [
  ⟨some 4, .fieldA 0 (.t 2), none, []⟩,
  ⟨some 5, .load false 1 (.t 4), none, []⟩,
  ⟨some 6, .fieldA 0 (.t 1), none, []⟩,
  ⟨some 7, .load false 1 (.t 6), none, []⟩,
  ⟨some 8, .bin .eql (.t 5) (.t 7), none, []⟩,
  ⟨some 3, .mv (.t 8), none, []⟩]) (.ret)))⟩
def h122 : Hint := { cb := [3], ps := [], cp := [], cs := [], ap := [], ls := [] }
def c122 : AF := ⟨3, 11, [.tmp 4],
 (.seq (.reg false [
  ⟨some 3, .boxc (.t 0), none, []⟩,
  ⟨some 4, .mv (.c (.bool false)), none, []⟩]) (.seq (.reg false [
  ⟨some 5, .load false 1 (.t 1), none, []⟩,
  ⟨some 6, .load true 6 (.t 3), none, []⟩,
  ⟨some 7, .load false 1 (.t 2), none, []⟩,
  ⟨some 8, .bin .add (.t 7) (.c (.int .i64 1)), none, []⟩,
  ⟨some 9, .call (.f 112) [(.t 5), (.t 6), (.t 8)], none, []⟩,
  ⟨some 10, .un .not (.t 9), none, []⟩,
  ⟨some 4, .mv (.t 10), none, []⟩]) (.ret)))⟩
def h123 : Hint := { cb := [1], ps := [], cp := [65, 57, 46, 39, 15, 10], cs := [], ap := [], ls := [] }
def c123 : AF := ⟨1, 78, [.tmp 2],
 (.seq (.reg false [
  ⟨some 1, .boxc (.t 0), none, []⟩,
  ⟨some 2, .mv (.c (.int .i64 0)), none, []⟩]) (.seq (.seq (.reg false [
  ⟨some 8, .fieldA 0 (.t 1), none, []⟩,
  ⟨some 9, .load false 1 (.t 8), none, []⟩,
  ⟨some 10, .callP false (.f 109) [(.t 9), (.c (.int .i64 0)), (.c (.int .i64 6))], none, []⟩,
  ⟨some 11, .un .not (.t 10), none, []⟩,
  ⟨some 12, .mv (.t 11), none, []⟩,
  ⟨some 13, .fieldA 1 (.t 1), some (12, false), []⟩,
  ⟨some 14, .load false 1 (.t 13), some (12, false), []⟩,
  ⟨some 15, .callP false (.f 109) [(.t 14), (.c (.int .i64 0)), (.c (.int .i64 999999999))], some (12, false), []⟩,
  ⟨some 16, .un .not (.t 15), some (12, false), []⟩,
  ⟨some 17, .pick (.t 12) (.c (.bool true)) (.t 16), none, []⟩,
  ⟨some 18, .mv (.t 17), none, []⟩,
  ⟨some 19, .fieldA 0 (.t 1), some (18, false), []⟩,
  ⟨some 20, .load false 1 (.t 19), some (18, false), []⟩,
  ⟨some 21, .bin .neq (.t 20) (.c (.int .i64 0)), some (18, false), []⟩,
  ⟨some 22, .mv (.t 21), some (18, false), []⟩,
  ⟨some 23, .fieldA 1 (.t 1), some (22, true), []⟩,
  ⟨some 24, .load false 1 (.t 23), some (22, true), []⟩,
  ⟨some 25, .bin .gtr (.t 24) (.c (.int .i64 0)), some (22, true), []⟩,
  ⟨some 26, .pick (.t 22) (.t 25) (.c (.bool false)), some (18, false), []⟩,
  ⟨some 27, .pick (.t 18) (.c (.bool true)) (.t 26), none, []⟩]) (.cond (.t 27) (.seq (.reg false [
  ⟨some 2, .mv (.c (.int .i64 1)), none, []⟩]) (.ret)) (.skip))) (.seq (.reg false [
  ⟨some 3, .mv (.c (.int .i64 0)), none, []⟩,
  ⟨some 4, .mv (.c (.int .i64 0)), none, []⟩,
  ⟨some 5, .mv (.c (.int .i64 0)), none, []⟩]) (.seq (.seq (.reg false [
  ⟨some 28, .fieldA 0 (.t 1), none, []⟩,
  ⟨some 29, .load false 1 (.t 28), none, []⟩]) (.block 0 (.seq (.reg false [
  ⟨some 31, .bin .eql (.t 29) (.c (.int .i64 1)), none, []⟩,
  ⟨some 30, .mv (.t 31), none, []⟩]) (.cond (.t 30) (.reg false [
  ⟨some 3, .mv (.c (.int .i64 1)), none, []⟩]) (.seq (.reg false [
  ⟨some 33, .bin .eql (.t 29) (.c (.int .i64 6)), none, []⟩,
  ⟨some 32, .mv (.t 33), none, []⟩]) (.cond (.t 32) (.reg false [
  ⟨some 3, .mv (.c (.int .i64 2)), none, []⟩,
  ⟨some 5, .mv (.c (.int .i64 4)), none, []⟩]) (.seq (.reg false [
  ⟨some 35, .bin .eql (.t 29) (.c (.int .i64 5)), none, []⟩,
  ⟨some 34, .mv (.t 35), none, []⟩]) (.cond (.t 34) (.reg false [
  ⟨some 4, .mv (.c (.int .i64 2)), none, []⟩,
  ⟨some 5, .mv (.c (.int .i64 2)), none, []⟩]) (.skip))))))))) (.seq (.reg false [
  ⟨some 37, .fieldA 2 (.t 1), none, []⟩,
  ⟨some 38, .load false 1 (.t 37), none, []⟩,
  ⟨some 39, .callP false (.f 128) [(.t 38)], none, []⟩,
  ⟨some 36, .mv (.t 39), none, []⟩,
  ⟨some 40, .extract (.t 36) 0, none, []⟩,
  ⟨some 41, .extract (.t 36) 1, none, []⟩,
  ⟨some 6, .mv (.t 40), none, []⟩,
  ⟨some 7, .mv (.t 41), none, []⟩]) (.seq (.block 1 (.seq (.reg false [
  ⟨some 43, .fieldA 2 (.t 1), none, []⟩,
  ⟨some 44, .load false 1 (.t 43), none, []⟩,
  ⟨some 45, .mv (.t 3), none, []⟩,
  ⟨some 46, .callP false (.f 89) [(.t 44), (.t 45)], none, []⟩,
  ⟨some 47, .un .not (.t 46), none, []⟩,
  ⟨some 48, .mv (.t 47), none, []⟩,
  ⟨some 49, .mv (.t 7), some (48, false), []⟩,
  ⟨some 50, .pick (.t 48) (.c (.bool true)) (.t 49), none, []⟩,
  ⟨some 42, .mv (.t 50), none, []⟩]) (.cond (.t 42) (.seq (.reg false [
  ⟨some 2, .mv (.c (.int .i64 4)), none, []⟩]) (.ret)) (.seq (.reg false [
  ⟨some 52, .fieldA 3 (.t 1), none, []⟩,
  ⟨some 53, .load false 1 (.t 52), none, []⟩,
  ⟨some 54, .lenS (.t 53), none, []⟩,
  ⟨some 55, .mv (.t 4), none, []⟩,
  ⟨some 56, .mv (.t 5), none, []⟩,
  ⟨some 57, .callP false (.f 109) [(.t 54), (.t 55), (.t 56)], none, []⟩,
  ⟨some 58, .un .not (.t 57), none, []⟩,
  ⟨some 51, .mv (.t 58), none, []⟩]) (.cond (.t 51) (.seq (.reg false [
  ⟨some 2, .mv (.c (.int .i64 7)), none, []⟩]) (.ret)) (.seq (.reg false [
  ⟨some 60, .fieldA 0 (.t 1), none, []⟩,
  ⟨some 61, .load false 1 (.t 60), none, []⟩,
  ⟨some 62, .bin .eql (.t 61) (.c (.int .i64 5)), none, []⟩,
  ⟨some 59, .mv (.t 62), none, []⟩]) (.cond (.t 59) (.seq (.reg false [
  ⟨some 63, .fieldA 4 (.t 1), none, []⟩,
  ⟨some 64, .load true 2 (.t 63), none, []⟩,
  ⟨some 65, .callP false (.f 129) [(.t 64)], none, []⟩,
  ⟨some 2, .mv (.t 65), none, []⟩]) (.ret)) (.seq (.reg false [
  ⟨some 67, .fieldA 4 (.t 1), none, []⟩,
  ⟨some 68, .fieldA 0 (.t 67), none, []⟩,
  ⟨some 69, .load false 1 (.t 68), none, []⟩,
  ⟨some 70, .lenS (.t 69), none, []⟩,
  ⟨some 71, .bin .gtr (.t 70) (.c (.int .i64 0)), none, []⟩,
  ⟨some 72, .mv (.t 71), none, []⟩,
  ⟨some 73, .fieldA 4 (.t 1), some (72, false), []⟩,
  ⟨some 74, .fieldA 1 (.t 73), some (72, false), []⟩,
  ⟨some 75, .load false 1 (.t 74), some (72, false), []⟩,
  ⟨some 76, .bin .neq (.t 75) (.c (.int .i64 0)), some (72, false), []⟩,
  ⟨some 77, .pick (.t 72) (.c (.bool true)) (.t 76), none, []⟩,
  ⟨some 66, .mv (.t 77), none, []⟩]) (.cond (.t 66) (.seq (.reg false [
  ⟨some 2, .mv (.c (.int .i64 1)), none, []⟩]) (.ret)) (.skip)))))))))) (.seq (.reg false [
  ⟨some 2, .mv (.c (.int .i64 0)), none, []⟩]) (.ret))))))))⟩
def h124 : Hint := { cb := [], ps := [], cp := [], cs := [], ap := [], ls := [] }
def c124 : AF := ⟨2, 19, [.tmp 4],
 (.seq (.reg false [
  ⟨some 4, .mv (.c (.int .i64 0)), none, []⟩]) (.seq (.seq (.reg false [
  ⟨some 6, .mv (.t 0), none, []⟩,
  ⟨some 7, .lenS (.t 6), none, []⟩,
  ⟨some 8, .mv (.c (.int .i64 0)), none, []⟩]) (.block 0 (.loop (.seq (.reg false [
  ⟨some 9, .bin .lss (.t 8) (.t 7), none, []⟩]) (.seq (.cond (.t 9) (.skip) (.exit 0)) (.seq (.block 1 (.seq (.reg false [
  ⟨some 10, .mv (.t 8), none, []⟩,
  ⟨some 5, .mv (.t 10), none, []⟩]) (.seq (.reg false [
  ⟨some 11, .mv (.t 1), none, []⟩,
  ⟨some 12, .mv (.t 0), none, []⟩,
  ⟨some 13, .mv (.t 5), none, []⟩,
  ⟨some 14, .idxS 2 (.t 12) (.t 13), none, []⟩,
  ⟨some 15, .load true 2 (.t 14), none, []⟩,
  ⟨some 16, .call (.t 11) [(.t 15)], none, []⟩]) (.cond (.t 16) (.seq (.reg false [
  ⟨some 17, .mv (.t 5), none, []⟩,
  ⟨some 4, .mv (.t 17), none, []⟩]) (.ret)) (.skip))))) (.reg false [
  ⟨some 18, .bin .add (.t 8) (.c (.int .i64 1)), none, []⟩,
  ⟨some 8, .mv (.t 18), none, []⟩]))))))) (.seq (.reg false [
  ⟨some 4, .mv (.c (.int .i64 (-1))), none, []⟩]) (.ret))))⟩
def h125 : Hint := { cb := [], ps := [], cp := [], cs := [], ap := [], ls := [] }
def c125 : AF := ⟨2, 19, [.tmp 4],
 (.seq (.reg false [
  ⟨some 4, .mv (.c (.int .i64 0)), none, []⟩]) (.seq (.seq (.reg false [
  ⟨some 6, .mv (.t 0), none, []⟩,
  ⟨some 7, .lenS (.t 6), none, []⟩,
  ⟨some 8, .mv (.c (.int .i64 0)), none, []⟩]) (.block 0 (.loop (.seq (.reg false [
  ⟨some 9, .bin .lss (.t 8) (.t 7), none, []⟩]) (.seq (.cond (.t 9) (.skip) (.exit 0)) (.seq (.block 1 (.seq (.reg false [
  ⟨some 10, .mv (.t 8), none, []⟩,
  ⟨some 5, .mv (.t 10), none, []⟩]) (.seq (.reg false [
  ⟨some 11, .mv (.t 1), none, []⟩,
  ⟨some 12, .mv (.t 0), none, []⟩,
  ⟨some 13, .mv (.t 5), none, []⟩,
  ⟨some 14, .idxS 6 (.t 12) (.t 13), none, []⟩,
  ⟨some 15, .load true 6 (.t 14), none, []⟩,
  ⟨some 16, .call (.t 11) [(.t 15)], none, []⟩]) (.cond (.t 16) (.seq (.reg false [
  ⟨some 17, .mv (.t 5), none, []⟩,
  ⟨some 4, .mv (.t 17), none, []⟩]) (.ret)) (.skip))))) (.reg false [
  ⟨some 18, .bin .add (.t 8) (.c (.int .i64 1)), none, []⟩,
  ⟨some 8, .mv (.t 18), none, []⟩]))))))) (.seq (.reg false [
  ⟨some 4, .mv (.c (.int .i64 (-1))), none, []⟩]) (.ret))))⟩
def h126 : Hint := { cb := [], ps := [], cp := [], cs := [], ap := [], ls := [] }
def c126 : AF := ⟨1, 106, [.tmp 2],
 (.seq (.reg false [
  ⟨some 2, .mv (.c (.slice 0 [] .full)), none, []⟩]) (.seq (.reg false [
  ⟨some 3, .mv (.c (.int .i64 0)), none, []⟩]) (.seq (.reg false [
  ⟨some 4, .mv (.c (.int .i64 1)), none, []⟩]) (.seq (.reg false [
  ⟨some 5, .mv (.c (.int .u8 0)), none, []⟩]) (.seq (.seq (.reg false [
  ⟨some 6, .mv (.c (.int .i64 0)), none, []⟩]) (.block 0 (.loop (.seq (.seq (.reg false [
  ⟨some 13, .mv (.t 6), none, []⟩,
  ⟨some 14, .mv (.t 0), none, []⟩,
  ⟨some 15, .lenStr (.t 14), none, []⟩,
  ⟨some 16, .bin .lss (.t 13) (.t 15), none, []⟩]) (.cond (.t 16) (.skip) (.exit 0))) (.seq (.block 1 (.seq (.reg false [
  ⟨some 19, .mv (.t 0), none, []⟩,
  ⟨some 20, .mv (.t 6), none, []⟩,
  ⟨some 21, .idxStr (.t 19) (.t 20), none, []⟩,
  ⟨some 7, .mv (.t 21), none, []⟩]) (.seq (.reg false [
  ⟨some 22, .mv (.t 5), none, []⟩,
  ⟨some 23, .mv (.t 7), none, []⟩,
  ⟨some 24, .bin .or (.t 22) (.t 23), none, []⟩,
  ⟨some 5, .mv (.t 24), none, []⟩]) (.seq (.reg false [
  ⟨some 25, .mv (.t 7), none, []⟩,
  ⟨some 26, .idxA 256 1 (.g 1) (.t 25), none, []⟩,
  ⟨some 27, .load false 1 (.t 26), none, []⟩,
  ⟨some 28, .toInt .i64 (.t 27), none, []⟩,
  ⟨some 8, .mv (.t 28), none, []⟩]) (.seq (.reg false [
  ⟨some 29, .mv (.t 3), none, []⟩,
  ⟨some 30, .mv (.t 4), none, []⟩,
  ⟨some 31, .mv (.t 8), none, []⟩,
  ⟨some 32, .un .xor (.t 31), none, []⟩,
  ⟨some 33, .bin .and (.t 30) (.t 32), none, []⟩,
  ⟨some 34, .bin .add (.t 29) (.t 33), none, []⟩,
  ⟨some 3, .mv (.t 34), none, []⟩]) (.reg false [
  ⟨some 35, .mv (.t 8), none, []⟩,
  ⟨some 4, .mv (.t 35), none, []⟩])))))) (.reg false [
  ⟨some 17, .mv (.t 6), none, []⟩,
  ⟨some 18, .bin .add (.t 17) (.c (.int .i64 1)), none, []⟩,
  ⟨some 6, .mv (.t 18), none, []⟩])))))) (.seq (.seq (.reg false [
  ⟨some 36, .mv (.t 5), none, []⟩,
  ⟨some 37, .bin .geq (.t 36) (.c (.int .u8 128)), none, []⟩]) (.cond (.t 37) (.seq (.reg false [
  ⟨some 38, .mv (.t 0), none, []⟩,
  ⟨some 39, .call (.f 130) [(.t 38), (.f 131)], none, []⟩,
  ⟨some 2, .mv (.t 39), none, []⟩]) (.ret)) (.skip))) (.seq (.reg false [
  ⟨some 40, .mv (.t 3), none, []⟩,
  ⟨some 41, .mkSlice 1 16 [(.str [])] (.t 40) (.t 40), none, []⟩,
  ⟨some 9, .mv (.t 41), none, []⟩]) (.seq (.reg false [
  ⟨some 10, .mv (.c (.int .i64 0)), none, []⟩]) (.seq (.reg false [
  ⟨some 11, .mv (.c (.int .i64 0)), none, []⟩]) (.seq (.reg false [
  ⟨some 12, .mv (.c (.int .i64 0)), none, []⟩]) (.seq (.block 2 (.loop (.seq (.seq (.reg false [
  ⟨some 42, .mv (.t 12), none, []⟩,
  ⟨some 43, .mv (.t 0), none, []⟩,
  ⟨some 44, .lenStr (.t 43), none, []⟩,
  ⟨some 45, .bin .lss (.t 42) (.t 44), none, []⟩,
  ⟨some 46, .mv (.t 45), none, []⟩,
  ⟨some 47, .mv (.t 0), some (46, true), []⟩,
  ⟨some 48, .mv (.t 12), some (46, true), []⟩,
  ⟨some 49, .idxStr (.t 47) (.t 48), some (46, true), []⟩,
  ⟨some 50, .idxA 256 1 (.g 1) (.t 49), some (46, true), []⟩,
  ⟨some 51, .load false 1 (.t 50), some (46, true), []⟩,
  ⟨some 52, .bin .neq (.t 51) (.c (.int .u8 0)), some (46, true), []⟩,
  ⟨some 53, .pick (.t 46) (.t 52) (.c (.bool false)), none, []⟩]) (.cond (.t 53) (.skip) (.exit 2))) (.block 3 (.reg false [
  ⟨some 54, .mv (.t 12), none, []⟩,
  ⟨some 55, .bin .add (.t 54) (.c (.int .i64 1)), none, []⟩,
  ⟨some 12, .mv (.t 55), none, []⟩]))))) (.seq (.reg false [
  ⟨some 56, .mv (.t 12), none, []⟩,
  ⟨some 11, .mv (.t 56), none, []⟩]) (.seq (.block 4 (.loop (.seq (.seq (.reg false [
  ⟨some 57, .mv (.t 12), none, []⟩,
  ⟨some 58, .mv (.t 0), none, []⟩,
  ⟨some 59, .lenStr (.t 58), none, []⟩,
  ⟨some 60, .bin .lss (.t 57) (.t 59), none, []⟩]) (.cond (.t 60) (.skip) (.exit 4))) (.block 5 (.seq (.seq (.reg false [
  ⟨some 61, .mv (.t 0), none, []⟩,
  ⟨some 62, .mv (.t 12), none, []⟩,
  ⟨some 63, .idxStr (.t 61) (.t 62), none, []⟩,
  ⟨some 64, .idxA 256 1 (.g 1) (.t 63), none, []⟩,
  ⟨some 65, .load false 1 (.t 64), none, []⟩,
  ⟨some 66, .bin .eql (.t 65) (.c (.int .u8 0)), none, []⟩]) (.cond (.t 66) (.seq (.reg false [
  ⟨some 67, .mv (.t 12), none, []⟩,
  ⟨some 68, .bin .add (.t 67) (.c (.int .i64 1)), none, []⟩,
  ⟨some 12, .mv (.t 68), none, []⟩]) (.exit 5)) (.skip))) (.seq (.reg false [
  ⟨some 69, .mv (.t 9), none, []⟩,
  ⟨some 70, .mv (.t 10), none, []⟩,
  ⟨some 71, .mv (.t 0), none, []⟩,
  ⟨some 72, .mv (.t 11), none, []⟩,
  ⟨some 73, .mv (.t 12), none, []⟩,
  ⟨some 74, .cutStr (.t 71) (some (.t 72)) (some (.t 73)), none, []⟩,
  ⟨some 75, .idxS 1 (.t 69) (.t 70), none, []⟩,
  ⟨none, .store 1 (.t 75) (.t 74), none, []⟩]) (.seq (.reg false [
  ⟨some 76, .mv (.t 10), none, []⟩,
  ⟨some 77, .bin .add (.t 76) (.c (.int .i64 1)), none, []⟩,
  ⟨some 10, .mv (.t 77), none, []⟩]) (.seq (.reg false [
  ⟨some 78, .mv (.t 12), none, []⟩,
  ⟨some 79, .bin .add (.t 78) (.c (.int .i64 1)), none, []⟩,
  ⟨some 12, .mv (.t 79), none, []⟩]) (.seq (.block 6 (.loop (.seq (.seq (.reg false [
  ⟨some 80, .mv (.t 12), none, []⟩,
  ⟨some 81, .mv (.t 0), none, []⟩,
  ⟨some 82, .lenStr (.t 81), none, []⟩,
  ⟨some 83, .bin .lss (.t 80) (.t 82), none, []⟩,
  ⟨some 84, .mv (.t 83), none, []⟩,
  ⟨some 85, .mv (.t 0), some (84, true), []⟩,
  ⟨some 86, .mv (.t 12), some (84, true), []⟩,
  ⟨some 87, .idxStr (.t 85) (.t 86), some (84, true), []⟩,
  ⟨some 88, .idxA 256 1 (.g 1) (.t 87), some (84, true), []⟩,
  ⟨some 89, .load false 1 (.t 88), some (84, true), []⟩,
  ⟨some 90, .bin .neq (.t 89) (.c (.int .u8 0)), some (84, true), []⟩,
  ⟨some 91, .pick (.t 84) (.t 90) (.c (.bool false)), none, []⟩]) (.cond (.t 91) (.skip) (.exit 6))) (.block 7 (.reg false [
  ⟨some 92, .mv (.t 12), none, []⟩,
  ⟨some 93, .bin .add (.t 92) (.c (.int .i64 1)), none, []⟩,
  ⟨some 12, .mv (.t 93), none, []⟩]))))) (.reg false [
  ⟨some 94, .mv (.t 12), none, []⟩,
  ⟨some 11, .mv (.t 94), none, []⟩])))))))))) (.seq (.seq (.reg false [
  ⟨some 95, .mv (.t 11), none, []⟩,
  ⟨some 96, .mv (.t 0), none, []⟩,
  ⟨some 97, .lenStr (.t 96), none, []⟩,
  ⟨some 98, .bin .lss (.t 95) (.t 97), none, []⟩]) (.cond (.t 98) (.reg false [
  ⟨some 99, .mv (.t 9), none, []⟩,
  ⟨some 100, .mv (.t 10), none, []⟩,
  ⟨some 101, .mv (.t 0), none, []⟩,
  ⟨some 102, .mv (.t 11), none, []⟩,
  ⟨some 103, .cutStr (.t 101) (some (.t 102)) none, none, []⟩,
  ⟨some 104, .idxS 1 (.t 99) (.t 100), none, []⟩,
  ⟨none, .store 1 (.t 104) (.t 103), none, []⟩]) (.skip))) (.seq (.reg false [
  ⟨some 105, .mv (.t 9), none, []⟩,
  ⟨some 2, .mv (.t 105), none, []⟩]) (.ret))))))))))))))))⟩
end Go.Proofs.YthmlommnlihgcaaGreatDoor.Code
