/- The functions of the program in cooked form, printed by a program of the prover's own. -/
import Derived.Test.YthmlommnlihgcaaGreatDoorFwCook
set_option maxRecDepth 100000
namespace Go.Proofs.YthmlommnlihgcaaGreatDoor.Code
open Go Go.Fw
def h3 : Hint := { cb := [], ps := [7, 5, 3, 1], cp := [94, 51, 50, 46, 45, 41, 40, 36, 35, 32, 27, 26, 23, 22, 21, 17, 16, 14], cs := [88, 83, 78], ap := [], ls := [] }
def c3 : AF := ⟨0, 104, [.tmp 0],
 (.seq (.reg false [
  ⟨some 0, .mv (.c (.bool false)), none, []⟩]) (.seq (.reg false [
  ⟨some 14, .callP false (.f 6) [(.c (.int .i64 0)), (.c (.int .i64 1))], none, []⟩,
  ⟨some 15, .bslice 4 1 [(.int .i64 0), (.int .i64 0), (.int .i64 0), (.str [])] [(0, (.t 14))], none, []⟩,
  ⟨some 16, .callP false (.f 5) [(.c (.int .i64 0)), (.t 15)], none, []⟩,
  ⟨some 17, .callP false (.f 4) [(.t 16)], none, []⟩,
  ⟨some 13, .mv (.t 17), none, []⟩,
  ⟨some 18, .extract (.t 13) 0, none, []⟩,
  ⟨some 19, .extract (.t 13) 1, none, []⟩,
  ⟨some 1, .pend [(.int .i64 0), (.int .i64 0)], none, []⟩,
  ⟨none, .shut 1 2 (.t 18), none, []⟩,
  ⟨some 2, .mv (.t 19), none, []⟩]) (.seq (.reg false [
  ⟨some 21, .callP false (.f 6) [(.c (.int .i64 0)), (.c (.int .i64 1))], none, []⟩,
  ⟨some 22, .callP false (.f 6) [(.c (.int .i64 4)), (.c (.int .i64 0))], none, []⟩,
  ⟨some 23, .callP false (.f 6) [(.c (.int .i64 0)), (.c (.int .i64 2))], none, []⟩,
  ⟨some 24, .build [(.int .i64 0), (.int .i64 0), (.int .i64 0), (.str [])] [(0, 1, (.c (.int .i64 8)))], none, []⟩,
  ⟨some 25, .bslice 4 4 [(.int .i64 0), (.int .i64 0), (.int .i64 0), (.str [])] [(0, (.t 21)), (1, (.t 22)), (2, (.t 23)), (3, (.t 24))], none, []⟩,
  ⟨some 26, .callP false (.f 5) [(.c (.int .i64 0)), (.t 25)], none, []⟩,
  ⟨some 27, .callP false (.f 4) [(.t 26)], none, []⟩,
  ⟨some 20, .mv (.t 27), none, []⟩,
  ⟨some 28, .extract (.t 20) 0, none, []⟩,
  ⟨some 29, .extract (.t 20) 1, none, []⟩,
  ⟨some 3, .pend [(.int .i64 0), (.int .i64 0)], none, []⟩,
  ⟨none, .shut 3 2 (.t 28), none, []⟩,
  ⟨some 4, .mv (.t 29), none, []⟩]) (.seq (.reg false [
  ⟨some 31, .build [(.int .i64 0), (.int .i64 0), (.int .i64 0), (.str [])] [(0, 1, (.c (.int .i64 2)))], none, []⟩,
  ⟨some 32, .callP false (.f 6) [(.c (.int .i64 0)), (.c (.int .i64 1))], none, []⟩,
  ⟨some 33, .build [(.int .i64 0), (.int .i64 0), (.int .i64 0), (.str [])] [(0, 1, (.c (.int .i64 8)))], none, []⟩,
  ⟨some 34, .bslice 4 3 [(.int .i64 0), (.int .i64 0), (.int .i64 0), (.str [])] [(0, (.t 31)), (1, (.t 32)), (2, (.t 33))], none, []⟩,
  ⟨some 35, .callP false (.f 5) [(.c (.int .i64 0)), (.t 34)], none, []⟩,
  ⟨some 36, .callP false (.f 4) [(.t 35)], none, []⟩,
  ⟨some 30, .mv (.t 36), none, []⟩,
  ⟨some 37, .extract (.t 30) 0, none, []⟩,
  ⟨some 38, .extract (.t 30) 1, none, []⟩,
  ⟨some 5, .pend [(.int .i64 0), (.int .i64 0)], none, []⟩,
  ⟨none, .shut 5 2 (.t 37), none, []⟩,
  ⟨some 6, .mv (.t 38), none, []⟩]) (.seq (.reg false [
  ⟨some 40, .callP false (.f 7) [], none, []⟩,
  ⟨some 41, .callP false (.f 4) [(.t 40)], none, []⟩,
  ⟨some 39, .mv (.t 41), none, []⟩,
  ⟨some 42, .extract (.t 39) 0, none, []⟩,
  ⟨some 43, .extract (.t 39) 1, none, []⟩,
  ⟨some 7, .pend [(.int .i64 0), (.int .i64 0)], none, []⟩,
  ⟨none, .shut 7 2 (.t 42), none, []⟩,
  ⟨some 8, .mv (.t 43), none, []⟩]) (.seq (.reg false [
  ⟨some 45, .callP false (.f 7) [], none, []⟩,
  ⟨some 46, .callP false (.f 8) [(.t 45), (.c (.int .i64 0))], none, []⟩,
  ⟨some 44, .mv (.t 46), none, []⟩,
  ⟨some 47, .extract (.t 44) 0, none, []⟩,
  ⟨some 48, .extract (.t 44) 1, none, []⟩,
  ⟨some 9, .mv (.t 47), none, []⟩,
  ⟨some 10, .mv (.t 48), none, []⟩]) (.seq (.reg false [
  ⟨some 50, .callP false (.f 7) [], none, []⟩,
  ⟨some 51, .callP false (.f 9) [(.t 50), (.c (.int .i64 1))], none, []⟩,
  ⟨some 49, .mv (.t 51), none, []⟩,
  ⟨some 52, .extract (.t 49) 0, none, []⟩,
  ⟨some 53, .extract (.t 49) 1, none, []⟩,
  ⟨some 11, .mv (.t 52), none, []⟩,
  ⟨some 12, .mv (.t 53), none, []⟩]) (.seq (.reg true [
  ⟨some 54, .mv (.t 2), none, []⟩,
  ⟨some 55, .bin .eql (.t 54) (.c (.int .i64 6)), none, [0]⟩,
  ⟨some 56, .mv (.t 55), none, [1, 0]⟩,
  ⟨some 57, .mv (.t 4), some (56, true), [2, 1, 0]⟩,
  ⟨some 58, .bin .eql (.t 57) (.c (.int .i64 1)), some (56, true), [3, 2, 1, 0]⟩,
  ⟨some 59, .pick (.t 56) (.t 58) (.c (.bool false)), none, [2, 1, 0, 4, 3]⟩,
  ⟨some 60, .mv (.t 59), none, [5, 2, 1, 0, 4, 3]⟩,
  ⟨some 61, .mv (.t 6), some (60, true), [6, 5, 2, 1, 0, 4, 3]⟩,
  ⟨some 62, .bin .eql (.t 61) (.c (.int .i64 7)), some (60, true), [7, 6, 5, 2, 1, 0, 4, 3]⟩,
  ⟨some 63, .pick (.t 60) (.t 62) (.c (.bool false)), none, [6, 5, 2, 1, 0, 4, 3, 8, 7]⟩,
  ⟨some 64, .mv (.t 63), none, [9, 6, 5, 2, 1, 0, 4, 3, 8, 7]⟩,
  ⟨some 65, .mv (.t 8), some (64, true), [10, 9, 6, 5, 2, 1, 0, 4, 3, 8, 7]⟩,
  ⟨some 66, .bin .eql (.t 65) (.c (.int .i64 0)), some (64, true), [11, 10, 9, 6, 5, 2, 1, 0, 4, 3, 8, 7]⟩,
  ⟨some 67, .pick (.t 64) (.t 66) (.c (.bool false)), none, [10, 9, 6, 5, 2, 1, 0, 4, 3, 8, 7, 12, 11]⟩,
  ⟨some 68, .mv (.t 67), none, [13, 10, 9, 6, 5, 2, 1, 0, 4, 3, 8, 7, 12, 11]⟩,
  ⟨some 69, .mv (.t 10), some (68, true), [14, 13, 10, 9, 6, 5, 2, 1, 0, 4, 3, 8, 7, 12, 11]⟩,
  ⟨some 70, .bin .eql (.t 69) (.c (.int .i64 0)), some (68, true), [15, 14, 13, 10, 9, 6, 5, 2, 1, 0, 4, 3, 8, 7, 12, 11]⟩,
  ⟨some 71, .pick (.t 68) (.t 70) (.c (.bool false)), none, [14, 13, 10, 9, 6, 5, 2, 1, 0, 4, 3, 8, 7, 12, 11, 16, 15]⟩,
  ⟨some 72, .mv (.t 71), none, [17, 14, 13, 10, 9, 6, 5, 2, 1, 0, 4, 3, 8, 7, 12, 11, 16, 15]⟩,
  ⟨some 73, .mv (.t 12), some (72, true), [18, 17, 14, 13, 10, 9, 6, 5, 2, 1, 0, 4, 3, 8, 7, 12, 11, 16, 15]⟩,
  ⟨some 74, .bin .eql (.t 73) (.c (.int .i64 0)), some (72, true), [19, 18, 17, 14, 13, 10, 9, 6, 5, 2, 1, 0, 4, 3, 8, 7, 12, 11, 16, 15]⟩,
  ⟨some 75, .pick (.t 72) (.t 74) (.c (.bool false)), none, [18, 17, 14, 13, 10, 9, 6, 5, 2, 1, 0, 4, 3, 8, 7, 12, 11, 16, 15, 20, 19]⟩,
  ⟨some 76, .mv (.t 75), none, [21, 18, 17, 14, 13, 10, 9, 6, 5, 2, 1, 0, 4, 3, 8, 7, 12, 11, 16, 15, 20, 19]⟩,
  ⟨some 77, .load true 2 (.t 1), some (76, true), [22, 21, 18, 17, 14, 13, 10, 9, 6, 5, 2, 1, 0, 4, 3, 8, 7, 12, 11, 16, 15, 20, 19]⟩,
  ⟨some 78, .callP true (.f 10) [(.c (.int .i64 0)), (.c (.int .i64 0))], some (76, true), [22, 21, 18, 17, 14, 13, 10, 9, 6, 5, 2, 1, 0, 4, 3, 8, 7, 12, 11, 16, 15, 20, 19]⟩,
  ⟨some 79, .eqF false [.int, .int] (.t 77) (.t 78), some (76, true), [23, 22, 21, 18, 17, 14, 13, 10, 9, 6, 5, 2, 1, 0, 4, 3, 8, 7, 12, 11, 16, 15, 20, 19, 24]⟩,
  ⟨some 80, .pick (.t 76) (.t 79) (.c (.bool false)), none, [22, 21, 18, 17, 14, 13, 10, 9, 6, 5, 2, 1, 0, 4, 3, 8, 7, 12, 11, 16, 15, 20, 19, 25, 23, 24]⟩,
  ⟨some 81, .mv (.t 80), none, [26, 22, 21, 18, 17, 14, 13, 10, 9, 6, 5, 2, 1, 0, 4, 3, 8, 7, 12, 11, 16, 15, 20, 19, 25, 23, 24]⟩,
  ⟨some 82, .load true 2 (.t 3), some (81, true), [27, 26, 22, 21, 18, 17, 14, 13, 10, 9, 6, 5, 2, 1, 0, 4, 3, 8, 7, 12, 11, 16, 15, 20, 19, 25, 23, 24]⟩,
  ⟨some 83, .callP true (.f 10) [(.c (.int .i64 0)), (.c (.int .i64 1))], some (81, true), [27, 26, 22, 21, 18, 17, 14, 13, 10, 9, 6, 5, 2, 1, 0, 4, 3, 8, 7, 12, 11, 16, 15, 20, 19, 25, 23, 24]⟩,
  ⟨some 84, .eqF false [.int, .int] (.t 82) (.t 83), some (81, true), [28, 27, 26, 22, 21, 18, 17, 14, 13, 10, 9, 6, 5, 2, 1, 0, 4, 3, 8, 7, 12, 11, 16, 15, 20, 19, 25, 23, 24, 29]⟩,
  ⟨some 85, .pick (.t 81) (.t 84) (.c (.bool false)), none, [27, 26, 22, 21, 18, 17, 14, 13, 10, 9, 6, 5, 2, 1, 0, 4, 3, 8, 7, 12, 11, 16, 15, 20, 19, 25, 23, 24, 30, 28, 29]⟩,
  ⟨some 86, .mv (.t 85), none, [31, 27, 26, 22, 21, 18, 17, 14, 13, 10, 9, 6, 5, 2, 1, 0, 4, 3, 8, 7, 12, 11, 16, 15, 20, 19, 25, 23, 24, 30, 28, 29]⟩,
  ⟨some 87, .load true 2 (.t 5), some (86, true), [32, 31, 27, 26, 22, 21, 18, 17, 14, 13, 10, 9, 6, 5, 2, 1, 0, 4, 3, 8, 7, 12, 11, 16, 15, 20, 19, 25, 23, 24, 30, 28, 29]⟩,
  ⟨some 88, .callP true (.f 10) [(.c (.int .i64 0)), (.c (.int .i64 2))], some (86, true), [32, 31, 27, 26, 22, 21, 18, 17, 14, 13, 10, 9, 6, 5, 2, 1, 0, 4, 3, 8, 7, 12, 11, 16, 15, 20, 19, 25, 23, 24, 30, 28, 29]⟩,
  ⟨some 89, .eqF false [.int, .int] (.t 87) (.t 88), some (86, true), [33, 32, 31, 27, 26, 22, 21, 18, 17, 14, 13, 10, 9, 6, 5, 2, 1, 0, 4, 3, 8, 7, 12, 11, 16, 15, 20, 19, 25, 23, 24, 30, 28, 29, 34]⟩,
  ⟨some 90, .pick (.t 86) (.t 89) (.c (.bool false)), none, [32, 31, 27, 26, 22, 21, 18, 17, 14, 13, 10, 9, 6, 5, 2, 1, 0, 4, 3, 8, 7, 12, 11, 16, 15, 20, 19, 25, 23, 24, 30, 28, 29, 35, 33, 34]⟩,
  ⟨some 91, .mv (.t 90), none, [36, 32, 31, 27, 26, 22, 21, 18, 17, 14, 13, 10, 9, 6, 5, 2, 1, 0, 4, 3, 8, 7, 12, 11, 16, 15, 20, 19, 25, 23, 24, 30, 28, 29, 35, 33, 34]⟩,
  ⟨some 92, .mv (.t 9), some (91, true), [37, 36, 32, 31, 27, 26, 22, 21, 18, 17, 14, 13, 10, 9, 6, 5, 2, 1, 0, 4, 3, 8, 7, 12, 11, 16, 15, 20, 19, 25, 23, 24, 30, 28, 29, 35, 33, 34]⟩,
  ⟨some 93, .bslice 1 5 [(.int .i64 0)] [(0, (.c (.int .i64 0))), (1, (.c (.int .i64 1))), (2, (.c (.int .i64 0))), (3, (.c (.int .i64 1))), (4, (.c (.int .i64 1)))], some (91, true), [37, 36, 32, 31, 27, 26, 22, 21, 18, 17, 14, 13, 10, 9, 6, 5, 2, 1, 0, 4, 3, 8, 7, 12, 11, 16, 15, 20, 19, 25, 23, 24, 30, 28, 29, 35, 33, 34]⟩,
  ⟨some 94, .callP false (.f 11) [(.t 92), (.t 93)], some (91, true), [38, 37, 36, 32, 31, 27, 26, 22, 21, 18, 17, 14, 13, 10, 9, 6, 5, 2, 1, 0, 4, 3, 8, 7, 12, 11, 16, 15, 20, 19, 25, 23, 24, 30, 28, 29, 35, 33, 34, 39]⟩,
  ⟨some 95, .pick (.t 91) (.t 94) (.c (.bool false)), none, [37, 36, 32, 31, 27, 26, 22, 21, 18, 17, 14, 13, 10, 9, 6, 5, 2, 1, 0, 4, 3, 8, 7, 12, 11, 16, 15, 20, 19, 25, 23, 24, 30, 28, 29, 35, 33, 34, 40, 38, 39]⟩,
  ⟨some 96, .mv (.t 95), none, [41, 37, 36, 32, 31, 27, 26, 22, 21, 18, 17, 14, 13, 10, 9, 6, 5, 2, 1, 0, 4, 3, 8, 7, 12, 11, 16, 15, 20, 19, 25, 23, 24, 30, 28, 29, 35, 33, 34, 40, 38, 39]⟩,
  ⟨some 97, .mv (.t 11), some (96, true), [42, 41, 37, 36, 32, 31, 27, 26, 22, 21, 18, 17, 14, 13, 10, 9, 6, 5, 2, 1, 0, 4, 3, 8, 7, 12, 11, 16, 15, 20, 19, 25, 23, 24, 30, 28, 29, 35, 33, 34, 40, 38, 39]⟩,
  ⟨some 98, .lenS (.t 97), some (96, true), [43, 42, 41, 37, 36, 32, 31, 27, 26, 22, 21, 18, 17, 14, 13, 10, 9, 6, 5, 2, 1, 0, 4, 3, 8, 7, 12, 11, 16, 15, 20, 19, 25, 23, 24, 30, 28, 29, 35, 33, 34, 40, 38, 39]⟩,
  ⟨some 99, .bin .eql (.t 98) (.c (.int .i64 0)), some (96, true), [44, 43, 42, 41, 37, 36, 32, 31, 27, 26, 22, 21, 18, 17, 14, 13, 10, 9, 6, 5, 2, 1, 0, 4, 3, 8, 7, 12, 11, 16, 15, 20, 19, 25, 23, 24, 30, 28, 29, 35, 33, 34, 40, 38, 39]⟩,
  ⟨some 100, .pick (.t 96) (.t 99) (.c (.bool false)), none, [42, 41, 37, 36, 32, 31, 27, 26, 22, 21, 18, 17, 14, 13, 10, 9, 6, 5, 2, 1, 0, 4, 3, 8, 7, 12, 11, 16, 15, 20, 19, 25, 23, 24, 30, 28, 29, 35, 33, 34, 40, 38, 39, 45, 44, 43]⟩,
  ⟨some 101, .mv (.t 100), none, [46, 42, 41, 37, 36, 32, 31, 27, 26, 22, 21, 18, 17, 14, 13, 10, 9, 6, 5, 2, 1, 0, 4, 3, 8, 7, 12, 11, 16, 15, 20, 19, 25, 23, 24, 30, 28, 29, 35, 33, 34, 40, 38, 39, 45, 44, 43]⟩,
  ⟨some 102, .call (.f 12) [], some (101, true), [47, 46, 42, 41, 37, 36, 32, 31, 27, 26, 22, 21, 18, 17, 14, 13, 10, 9, 6, 5, 2, 1, 0, 4, 3, 8, 7, 12, 11, 16, 15, 20, 19, 25, 23, 24, 30, 28, 29, 35, 33, 34, 40, 38, 39, 45, 44, 43]⟩,
  ⟨some 103, .pick (.t 101) (.t 102) (.c (.bool false)), none, [47, 46, 42, 41, 37, 36, 32, 31, 27, 26, 22, 21, 18, 17, 14, 13, 10, 9, 6, 5, 2, 1, 0, 4, 3, 8, 7, 12, 11, 16, 15, 20, 19, 25, 23, 24, 30, 28, 29, 35, 33, 34, 40, 38, 39, 45, 44, 43, 48]⟩,
  ⟨some 0, .mv (.t 103), none, [49, 47, 46, 42, 41, 37, 36, 32, 31, 27, 26, 22, 21, 18, 17, 14, 13, 10, 9, 6, 5, 2, 1, 0, 4, 3, 8, 7, 12, 11, 16, 15, 20, 19, 25, 23, 24, 30, 28, 29, 35, 33, 34, 40, 38, 39, 45, 44, 43, 48]⟩]) (.ret)))))))))⟩
def h4 : Hint := { cb := [1], ps := [5], cp := [9], cs := [], ap := [], ls := [] }
def c4 : AF := ⟨1, 15, [.cell 2 true 2, .tmp 3],
 (.seq (.reg false [
  ⟨some 1, .boxc (.t 0), none, []⟩,
  ⟨some 2, .alloc [(.int .i64 0), (.int .i64 0)], none, []⟩,
  ⟨some 3, .mv (.c (.int .i64 0)), none, []⟩]) (.seq (.reg false [
  ⟨some 8, .load true 3 (.t 1), none, []⟩,
  ⟨some 9, .callP false (.f 13) [(.t 8)], none, []⟩,
  ⟨some 7, .mv (.t 9), none, []⟩,
  ⟨some 10, .extract (.t 7) 0, none, []⟩,
  ⟨some 11, .extract (.t 7) 1, none, []⟩,
  ⟨some 12, .extract (.t 7) 2, none, []⟩,
  ⟨some 5, .pend [(.int .i64 0), (.int .i64 0)], none, []⟩,
  ⟨some 4, .mv (.t 10), none, []⟩,
  ⟨none, .shut 5 2 (.t 11), none, []⟩,
  ⟨some 6, .mv (.t 12), none, []⟩]) (.seq (.reg false [
  ⟨some 13, .load true 2 (.t 5), none, []⟩,
  ⟨some 14, .mv (.t 6), none, []⟩,
  ⟨none, .store 2 (.t 2) (.t 13), none, []⟩,
  ⟨some 3, .mv (.t 14), none, []⟩]) (.ret))))⟩
def h5 : Hint := { cb := [], ps := [], cp := [], cs := [], ap := [], ls := [8] }
def c5 : AF := ⟨2, 10, [.cell 4 true 3],
 (.seq (.reg false [
  ⟨some 4, .alloc [(.slice 0 [] .full), (.slice 0 [] .full), (.slice 0 [] .full)], none, []⟩]) (.seq (.reg false [
  ⟨some 5, .mv (.t 0), none, []⟩,
  ⟨some 6, .mv (.t 1), none, []⟩,
  ⟨some 7, .build [(.int .i64 0), (.int .i64 0), (.int .i64 0), (.bool false), (.slice 0 [] .full)] [(2, 1, (.t 5)), (4, 1, (.t 6))], none, []⟩,
  ⟨some 8, .bsliceF 5 1 [(.int .i64 0), (.int .i64 0), (.int .i64 0), (.bool false), (.slice 0 [] .full)] [(0, (.t 7))], none, []⟩,
  ⟨some 9, .build [(.slice 0 [] .full), (.slice 0 [] .full), (.slice 0 [] .full)] [(2, 1, (.t 8))], none, []⟩,
  ⟨none, .store 3 (.t 4) (.t 9), none, []⟩]) (.ret)))⟩
def h6 : Hint := { cb := [], ps := [], cp := [], cs := [], ap := [], ls := [] }
def c6 : AF := ⟨2, 8, [.cell 4 true 4],
 (.seq (.reg false [
  ⟨some 4, .alloc [(.int .i64 0), (.int .i64 0), (.int .i64 0), (.str [])], none, []⟩]) (.seq (.reg false [
  ⟨some 5, .mv (.t 0), none, []⟩,
  ⟨some 6, .mv (.t 1), none, []⟩,
  ⟨some 7, .build [(.int .i64 0), (.int .i64 0), (.int .i64 0), (.str [])] [(0, 1, (.t 5)), (1, 1, (.t 6))], none, []⟩,
  ⟨none, .store 4 (.t 4) (.t 7), none, []⟩]) (.ret)))⟩
def h7 : Hint := { cb := [], ps := [], cp := [4, 3, 2], cs := [12, 11], ap := [], ls := [] }
def c7 : AF := ⟨0, 21, [.cell 0 true 3],
 (.seq (.reg false [
  ⟨some 0, .alloc [(.slice 0 [] .full), (.slice 0 [] .full), (.slice 0 [] .full)], none, []⟩]) (.seq (.reg false [
  ⟨some 2, .callP false (.f 6) [(.c (.int .i64 0)), (.c (.int .i64 3))], none, []⟩,
  ⟨some 3, .callP false (.f 6) [(.c (.int .i64 4)), (.c (.int .i64 0))], none, []⟩,
  ⟨some 4, .callP false (.f 6) [(.c (.int .i64 3)), (.c (.int .i64 0))], none, []⟩,
  ⟨some 5, .build [(.int .i64 0), (.int .i64 0), (.int .i64 0), (.str [])] [(0, 1, (.c (.int .i64 6))), (1, 1, (.c (.int .i64 1))), (2, 1, (.c (.int .i64 1)))], none, []⟩,
  ⟨some 6, .build [(.int .i64 0), (.int .i64 0), (.int .i64 0), (.str [])] [(0, 1, (.c (.int .i64 8)))], none, []⟩,
  ⟨some 7, .bslice 4 5 [(.int .i64 0), (.int .i64 0), (.int .i64 0), (.str [])] [(0, (.t 2)), (1, (.t 3)), (2, (.t 4)), (3, (.t 5)), (4, (.t 6))], none, []⟩,
  ⟨some 8, .call (.f 5) [(.c (.int .i64 1)), (.t 7)], none, []⟩,
  ⟨some 1, .alloc [(.slice 0 [] .full), (.slice 0 [] .full), (.slice 0 [] .full)], none, []⟩,
  ⟨none, .store 3 (.t 1) (.t 8), none, []⟩]) (.seq (.reg true [
  ⟨some 9, .fieldA 2 (.t 1), none, []⟩,
  ⟨some 10, .load false 1 (.t 9), none, [0]⟩,
  ⟨some 11, .callP true (.f 6) [(.c (.int .i64 3)), (.c (.int .i64 1))], none, []⟩,
  ⟨some 12, .callP true (.f 6) [(.c (.int .i64 3)), (.c (.int .i64 0))], none, [2]⟩,
  ⟨some 13, .build [(.int .i64 0), (.int .i64 0), (.int .i64 0), (.str [])] [(0, 1, (.c (.int .i64 5))), (3, 1, (.c (.str [43])))], none, []⟩,
  ⟨some 14, .build [(.int .i64 0), (.int .i64 0), (.int .i64 0), (.str [])] [(0, 1, (.c (.int .i64 8)))], none, []⟩,
  ⟨some 15, .bslice 4 4 [(.int .i64 0), (.int .i64 0), (.int .i64 0), (.str [])] [(0, (.t 11)), (1, (.t 12)), (2, (.t 13)), (3, (.t 14))], none, [2, 3, 4, 5]⟩,
  ⟨some 16, .build [(.int .i64 0), (.int .i64 0), (.int .i64 0), (.bool false), (.slice 0 [] .full)] [(0, 1, (.c (.int .i64 1))), (1, 1, (.c (.int .i64 1))), (2, 1, (.c (.int .i64 2))), (4, 1, (.t 15))], none, [6, 2, 3, 4, 5]⟩,
  ⟨some 17, .bslice 5 1 [(.int .i64 0), (.int .i64 0), (.int .i64 0), (.bool false), (.slice 0 [] .full)] [(0, (.t 16))], none, [7, 6, 2, 3, 4, 5]⟩,
  ⟨some 18, .append false 5 56 (.t 10) (.t 17), none, [1, 0, 8, 7, 6, 2, 3, 4, 5]⟩,
  ⟨some 19, .fieldA 2 (.t 1), none, [0, 1, 2, 3, 4, 5, 6, 7, 8, 9]⟩,
  ⟨none, .store 1 (.t 19) (.t 18), none, [10, 0, 1, 2, 3, 4, 5, 6, 7, 8, 9]⟩]) (.seq (.reg false [
  ⟨some 20, .load true 3 (.t 1), none, []⟩,
  ⟨none, .store 3 (.t 0) (.t 20), none, []⟩]) (.ret)))))⟩
def h8 : Hint := { cb := [2], ps := [7], cp := [11], cs := [], ap := [], ls := [] }
def c8 : AF := ⟨2, 32, [.tmp 4, .tmp 5],
 (.seq (.reg false [
  ⟨some 2, .boxc (.t 0), none, []⟩,
  ⟨some 4, .mv (.c (.slice 0 [] .full)), none, []⟩,
  ⟨some 5, .mv (.c (.int .i64 0)), none, []⟩]) (.seq (.reg false [
  ⟨some 10, .load true 3 (.t 2), none, []⟩,
  ⟨some 11, .callP false (.f 13) [(.t 10)], none, []⟩,
  ⟨some 9, .mv (.t 11), none, []⟩,
  ⟨some 12, .extract (.t 9) 0, none, []⟩,
  ⟨some 13, .extract (.t 9) 1, none, []⟩,
  ⟨some 14, .extract (.t 9) 2, none, []⟩,
  ⟨some 7, .pend [(.int .i64 0), (.int .i64 0)], none, []⟩,
  ⟨some 6, .mv (.t 12), none, []⟩,
  ⟨none, .shut 7 2 (.t 13), none, []⟩,
  ⟨some 8, .mv (.t 14), none, []⟩]) (.seq (.block 0 (.seq (.reg false [
  ⟨some 16, .mv (.t 8), none, []⟩,
  ⟨some 17, .bin .neq (.t 16) (.c (.int .i64 0)), none, []⟩,
  ⟨some 15, .mv (.t 17), none, []⟩]) (.cond (.t 15) (.seq (.reg false [
  ⟨some 18, .mv (.t 8), none, []⟩,
  ⟨some 4, .mv (.c (.slice 0 [] .full)), none, []⟩,
  ⟨some 5, .mv (.t 18), none, []⟩]) (.ret)) (.seq (.reg false [
  ⟨some 20, .mv (.t 1), none, []⟩,
  ⟨some 21, .bin .lss (.t 20) (.c (.int .i64 0)), none, []⟩,
  ⟨some 22, .mv (.t 21), none, []⟩,
  ⟨some 23, .mv (.t 1), some (22, false), []⟩,
  ⟨some 24, .mv (.t 6), some (22, false), []⟩,
  ⟨some 25, .lenS (.t 24), some (22, false), []⟩,
  ⟨some 26, .bin .geq (.t 23) (.t 25), some (22, false), []⟩,
  ⟨some 27, .pick (.t 22) (.c (.bool true)) (.t 26), none, []⟩,
  ⟨some 19, .mv (.t 27), none, []⟩]) (.cond (.t 19) (.seq (.reg false [
  ⟨some 4, .mv (.c (.slice 0 [] .full)), none, []⟩,
  ⟨some 5, .mv (.c (.int .i64 6)), none, []⟩]) (.ret)) (.skip)))))) (.seq (.reg false [
  ⟨some 28, .mv (.t 6), none, []⟩,
  ⟨some 29, .mv (.t 1), none, []⟩,
  ⟨some 30, .idxS 1 (.t 28) (.t 29), none, []⟩,
  ⟨some 31, .load false 1 (.t 30), none, []⟩,
  ⟨some 4, .mv (.t 31), none, []⟩,
  ⟨some 5, .mv (.c (.int .i64 0)), none, []⟩]) (.ret)))))⟩
def h9 : Hint := { cb := [2], ps := [10], cp := [51, 49, 14], cs := [], ap := [], ls := [] }
def c9 : AF := ⟨2, 52, [.tmp 4, .tmp 5],
 (.seq (.reg false [
  ⟨some 2, .boxc (.t 0), none, []⟩,
  ⟨some 4, .mv (.c (.slice 0 [] .full)), none, []⟩,
  ⟨some 5, .mv (.c (.int .i64 0)), none, []⟩]) (.seq (.reg false [
  ⟨some 12, .load true 3 (.t 2), none, []⟩,
  ⟨some 13, .mv (.t 1), none, []⟩,
  ⟨some 14, .callP false (.f 8) [(.t 12), (.t 13)], none, []⟩,
  ⟨some 11, .mv (.t 14), none, []⟩,
  ⟨some 15, .extract (.t 11) 0, none, []⟩,
  ⟨some 16, .extract (.t 11) 1, none, []⟩,
  ⟨some 6, .mv (.t 15), none, []⟩,
  ⟨some 7, .mv (.t 16), none, []⟩]) (.seq (.seq (.reg false [
  ⟨some 17, .mv (.t 7), none, []⟩,
  ⟨some 18, .bin .neq (.t 17) (.c (.int .i64 0)), none, []⟩]) (.cond (.t 18) (.seq (.reg false [
  ⟨some 19, .mv (.t 7), none, []⟩,
  ⟨some 4, .mv (.c (.slice 0 [] .full)), none, []⟩,
  ⟨some 5, .mv (.t 19), none, []⟩]) (.ret)) (.skip))) (.seq (.reg false [
  ⟨some 8, .mv (.c (.slice 0 [] .full)), none, []⟩]) (.seq (.seq (.reg false [
  ⟨some 20, .fieldA 2 (.t 2), none, []⟩,
  ⟨some 21, .load false 1 (.t 20), none, []⟩,
  ⟨some 22, .mv (.t 1), none, []⟩,
  ⟨some 23, .idxS 5 (.t 21) (.t 22), none, []⟩,
  ⟨some 24, .fieldA 4 (.t 23), none, []⟩,
  ⟨some 25, .load false 1 (.t 24), none, []⟩,
  ⟨some 26, .lenS (.t 25), none, []⟩,
  ⟨some 27, .mv (.c (.int .i64 0)), none, []⟩]) (.block 0 (.loop (.seq (.reg false [
  ⟨some 28, .bin .lss (.t 27) (.t 26), none, []⟩]) (.seq (.cond (.t 28) (.skip) (.exit 0)) (.seq (.block 1 (.seq (.reg false [
  ⟨some 29, .mv (.t 27), none, []⟩,
  ⟨some 30, .idxS 4 (.t 25) (.t 27), none, []⟩,
  ⟨some 31, .load true 4 (.t 30), none, []⟩,
  ⟨some 10, .pend [(.int .i64 0), (.int .i64 0), (.int .i64 0), (.str [])], none, []⟩,
  ⟨some 9, .mv (.t 29), none, []⟩,
  ⟨none, .shut 10 4 (.t 31), none, []⟩]) (.seq (.reg false [
  ⟨some 32, .mv (.t 6), none, []⟩,
  ⟨some 33, .mv (.t 9), none, []⟩,
  ⟨some 34, .idxS 1 (.t 32) (.t 33), none, []⟩,
  ⟨some 35, .load false 1 (.t 34), none, []⟩,
  ⟨some 36, .bin .geq (.t 35) (.c (.int .i64 0)), none, []⟩,
  ⟨some 37, .mv (.t 36), none, []⟩,
  ⟨some 38, .fieldA 0 (.t 10), some (37, true), []⟩,
  ⟨some 39, .load false 1 (.t 38), some (37, true), []⟩,
  ⟨some 40, .bin .eql (.t 39) (.c (.int .i64 6)), some (37, true), []⟩,
  ⟨some 41, .pick (.t 37) (.t 40) (.c (.bool false)), none, []⟩]) (.cond (.t 41) (.reg false [
  ⟨some 42, .mv (.t 8), none, []⟩,
  ⟨some 43, .fieldA 1 (.t 10), none, []⟩,
  ⟨some 44, .load false 1 (.t 43), none, []⟩,
  ⟨some 45, .bslice 1 1 [(.int .i64 0)] [(0, (.t 44))], none, []⟩,
  ⟨some 46, .append false 1 8 (.t 42) (.t 45), none, []⟩,
  ⟨some 8, .mv (.t 46), none, []⟩]) (.skip))))) (.reg false [
  ⟨some 47, .bin .add (.t 27) (.c (.int .i64 1)), none, []⟩,
  ⟨some 27, .mv (.t 47), none, []⟩]))))))) (.seq (.reg false [
  ⟨some 48, .mv (.t 8), none, []⟩,
  ⟨some 49, .callP false (.f 14) [(.t 48)], none, []⟩]) (.seq (.reg false [
  ⟨some 50, .mv (.t 8), none, []⟩,
  ⟨some 51, .callP false (.f 15) [(.t 50)], none, []⟩,
  ⟨some 4, .mv (.t 51), none, []⟩,
  ⟨some 5, .mv (.c (.int .i64 0)), none, []⟩]) (.ret))))))))⟩
def h10 : Hint := { cb := [], ps := [], cp := [], cs := [], ap := [], ls := [] }
def c10 : AF := ⟨2, 8, [.cell 4 true 2],
 (.seq (.reg false [
  ⟨some 4, .alloc [(.int .i64 0), (.int .i64 0)], none, []⟩]) (.seq (.reg false [
  ⟨some 5, .mv (.t 0), none, []⟩,
  ⟨some 6, .mv (.t 1), none, []⟩,
  ⟨some 7, .build [(.int .i64 0), (.int .i64 0)] [(0, 1, (.t 5)), (1, 1, (.t 6))], none, []⟩,
  ⟨none, .store 2 (.t 4) (.t 7), none, []⟩]) (.ret)))⟩
def h11 : Hint := { cb := [], ps := [], cp := [], cs := [], ap := [], ls := [] }
def c11 : AF := ⟨2, 26, [.tmp 4],
 (.seq (.reg false [
  ⟨some 4, .mv (.c (.bool false)), none, []⟩]) (.seq (.seq (.reg false [
  ⟨some 6, .mv (.t 0), none, []⟩,
  ⟨some 7, .lenS (.t 6), none, []⟩,
  ⟨some 8, .mv (.t 1), none, []⟩,
  ⟨some 9, .lenS (.t 8), none, []⟩,
  ⟨some 10, .bin .neq (.t 7) (.t 9), none, []⟩]) (.cond (.t 10) (.seq (.reg false [
  ⟨some 4, .mv (.c (.bool false)), none, []⟩]) (.ret)) (.skip))) (.seq (.seq (.reg false [
  ⟨some 5, .mv (.c (.int .i64 0)), none, []⟩]) (.block 0 (.loop (.seq (.seq (.reg false [
  ⟨some 11, .mv (.t 5), none, []⟩,
  ⟨some 12, .mv (.t 0), none, []⟩,
  ⟨some 13, .lenS (.t 12), none, []⟩,
  ⟨some 14, .bin .lss (.t 11) (.t 13), none, []⟩]) (.cond (.t 14) (.skip) (.exit 0))) (.seq (.block 1 (.seq (.reg true [
  ⟨some 17, .mv (.t 0), none, []⟩,
  ⟨some 18, .mv (.t 5), none, []⟩,
  ⟨some 19, .idxS 1 (.t 17) (.t 18), none, [0, 1]⟩,
  ⟨some 20, .load false 1 (.t 19), none, [2, 0, 1]⟩,
  ⟨some 21, .mv (.t 1), none, []⟩,
  ⟨some 22, .mv (.t 5), none, []⟩,
  ⟨some 23, .idxS 1 (.t 21) (.t 22), none, [4, 5]⟩,
  ⟨some 24, .load false 1 (.t 23), none, [6, 4, 5]⟩,
  ⟨some 25, .bin .neq (.t 20) (.t 24), none, [3, 2, 0, 1, 7, 6, 4, 5]⟩]) (.cond (.t 25) (.seq (.reg false [
  ⟨some 4, .mv (.c (.bool false)), none, []⟩]) (.ret)) (.skip)))) (.reg false [
  ⟨some 15, .mv (.t 5), none, []⟩,
  ⟨some 16, .bin .add (.t 15) (.c (.int .i64 1)), none, []⟩,
  ⟨some 5, .mv (.t 16), none, []⟩])))))) (.seq (.reg false [
  ⟨some 4, .mv (.c (.bool true)), none, []⟩]) (.ret)))))⟩
def h12 : Hint := { cb := [], ps := [7, 5, 3, 1], cp := [149, 140, 134, 74, 73, 69, 68, 63, 59, 58, 54, 53, 49, 48, 40, 39, 36, 35, 34, 33, 29, 28, 21, 20], cs := [138, 128, 123, 118, 113], ap := [], ls := [] }
def c12 : AF := ⟨0, 151, [.tmp 0],
 (.seq (.reg false [
  ⟨some 0, .mv (.c (.bool false)), none, []⟩]) (.seq (.reg false [
  ⟨some 20, .callP false (.f 16) [], none, []⟩,
  ⟨some 21, .callP false (.f 4) [(.t 20)], none, []⟩,
  ⟨some 19, .mv (.t 21), none, []⟩,
  ⟨some 22, .extract (.t 19) 0, none, []⟩,
  ⟨some 23, .extract (.t 19) 1, none, []⟩,
  ⟨some 1, .pend [(.int .i64 0), (.int .i64 0)], none, []⟩,
  ⟨none, .shut 1 2 (.t 22), none, []⟩,
  ⟨some 2, .mv (.t 23), none, []⟩]) (.seq (.reg false [
  ⟨some 25, .build [(.int .i64 0), (.int .i64 0), (.int .i64 0), (.str [])] [(0, 1, (.c (.int .i64 5))), (3, 1, (.c (.str [43])))], none, []⟩,
  ⟨some 26, .build [(.int .i64 0), (.int .i64 0), (.int .i64 0), (.str [])] [(0, 1, (.c (.int .i64 8)))], none, []⟩,
  ⟨some 27, .bslice 4 2 [(.int .i64 0), (.int .i64 0), (.int .i64 0), (.str [])] [(0, (.t 25)), (1, (.t 26))], none, []⟩,
  ⟨some 28, .callP false (.f 5) [(.c (.int .i64 0)), (.t 27)], none, []⟩,
  ⟨some 29, .callP false (.f 4) [(.t 28)], none, []⟩,
  ⟨some 24, .mv (.t 29), none, []⟩,
  ⟨some 30, .extract (.t 24) 0, none, []⟩,
  ⟨some 31, .extract (.t 24) 1, none, []⟩,
  ⟨some 3, .pend [(.int .i64 0), (.int .i64 0)], none, []⟩,
  ⟨none, .shut 3 2 (.t 30), none, []⟩,
  ⟨some 4, .mv (.t 31), none, []⟩]) (.seq (.reg false [
  ⟨some 33, .callP false (.f 6) [(.c (.int .i64 1)), (.c (.int .i64 1))], none, []⟩,
  ⟨some 34, .callP false (.f 6) [(.c (.int .i64 11)), (.c (.int .i64 3))], none, []⟩,
  ⟨some 35, .callP false (.f 6) [(.c (.int .i64 0)), (.c (.int .i64 1))], none, []⟩,
  ⟨some 36, .callP false (.f 6) [(.c (.int .i64 0)), (.c (.int .i64 2))], none, []⟩,
  ⟨some 37, .build [(.int .i64 0), (.int .i64 0), (.int .i64 0), (.str [])] [(0, 1, (.c (.int .i64 8)))], none, []⟩,
  ⟨some 38, .bslice 4 5 [(.int .i64 0), (.int .i64 0), (.int .i64 0), (.str [])] [(0, (.t 33)), (1, (.t 34)), (2, (.t 35)), (3, (.t 36)), (4, (.t 37))], none, []⟩,
  ⟨some 39, .callP false (.f 5) [(.c (.int .i64 0)), (.t 38)], none, []⟩,
  ⟨some 40, .callP false (.f 4) [(.t 39)], none, []⟩,
  ⟨some 32, .mv (.t 40), none, []⟩,
  ⟨some 41, .extract (.t 32) 0, none, []⟩,
  ⟨some 42, .extract (.t 32) 1, none, []⟩,
  ⟨some 5, .pend [(.int .i64 0), (.int .i64 0)], none, []⟩,
  ⟨none, .shut 5 2 (.t 41), none, []⟩,
  ⟨some 6, .mv (.t 42), none, []⟩]) (.seq (.reg false [
  ⟨some 44, .build [(.int .i64 0), (.int .i64 0), (.int .i64 0), (.str [])] [(0, 1, (.c (.int .i64 2)))], none, []⟩,
  ⟨some 45, .build [(.int .i64 0), (.int .i64 0), (.int .i64 0), (.str [])] [(0, 1, (.c (.int .i64 17))), (3, 1, (.c (.str [73, 79])))], none, []⟩,
  ⟨some 46, .build [(.int .i64 0), (.int .i64 0), (.int .i64 0), (.str [])] [(0, 1, (.c (.int .i64 8)))], none, []⟩,
  ⟨some 47, .bslice 4 3 [(.int .i64 0), (.int .i64 0), (.int .i64 0), (.str [])] [(0, (.t 44)), (1, (.t 45)), (2, (.t 46))], none, []⟩,
  ⟨some 48, .callP false (.f 5) [(.c (.int .i64 0)), (.t 47)], none, []⟩,
  ⟨some 49, .callP false (.f 4) [(.t 48)], none, []⟩,
  ⟨some 43, .mv (.t 49), none, []⟩,
  ⟨some 50, .extract (.t 43) 0, none, []⟩,
  ⟨some 51, .extract (.t 43) 1, none, []⟩,
  ⟨some 7, .pend [(.int .i64 0), (.int .i64 0)], none, []⟩,
  ⟨none, .shut 7 2 (.t 50), none, []⟩,
  ⟨some 8, .mv (.t 51), none, []⟩]) (.seq (.reg false [
  ⟨some 53, .callP false (.f 17) [], none, []⟩,
  ⟨some 54, .callP false (.f 8) [(.t 53), (.c (.int .i64 0))], none, []⟩,
  ⟨some 52, .mv (.t 54), none, []⟩,
  ⟨some 55, .extract (.t 52) 0, none, []⟩,
  ⟨some 56, .extract (.t 52) 1, none, []⟩,
  ⟨some 9, .mv (.t 55), none, []⟩,
  ⟨some 10, .mv (.t 56), none, []⟩]) (.seq (.reg false [
  ⟨some 58, .callP false (.f 17) [], none, []⟩,
  ⟨some 59, .callP false (.f 18) [(.t 58)], none, []⟩,
  ⟨some 57, .mv (.t 59), none, []⟩,
  ⟨some 60, .extract (.t 57) 0, none, []⟩,
  ⟨some 61, .extract (.t 57) 1, none, []⟩,
  ⟨some 11, .mv (.t 60), none, []⟩,
  ⟨some 12, .mv (.t 61), none, []⟩]) (.seq (.reg false [
  ⟨some 63, .callP false (.f 16) [], none, []⟩,
  ⟨some 64, .call (.f 19) [(.t 63)], none, []⟩,
  ⟨some 62, .mv (.t 64), none, []⟩,
  ⟨some 65, .extract (.t 62) 0, none, []⟩,
  ⟨some 66, .extract (.t 62) 1, none, []⟩,
  ⟨some 13, .mv (.t 65), none, []⟩,
  ⟨some 14, .mv (.t 66), none, []⟩]) (.seq (.reg false [
  ⟨some 68, .callP false (.f 7) [], none, []⟩,
  ⟨some 69, .callP false (.f 9) [(.t 68), (.c (.int .i64 0))], none, []⟩,
  ⟨some 67, .mv (.t 69), none, []⟩,
  ⟨some 70, .extract (.t 67) 0, none, []⟩,
  ⟨some 71, .extract (.t 67) 1, none, []⟩,
  ⟨some 15, .mv (.t 70), none, []⟩,
  ⟨some 16, .mv (.t 71), none, []⟩]) (.seq (.reg false [
  ⟨some 73, .callP false (.f 16) [], none, []⟩,
  ⟨some 74, .callP false (.f 8) [(.t 73), (.c (.int .i64 1))], none, []⟩,
  ⟨some 72, .mv (.t 74), none, []⟩,
  ⟨some 75, .extract (.t 72) 0, none, []⟩,
  ⟨some 76, .extract (.t 72) 1, none, []⟩,
  ⟨some 17, .mv (.t 75), none, []⟩,
  ⟨some 18, .mv (.t 76), none, []⟩]) (.seq (.reg true [
  ⟨some 77, .mv (.t 2), none, []⟩,
  ⟨some 78, .bin .eql (.t 77) (.c (.int .i64 0)), none, [0]⟩,
  ⟨some 79, .mv (.t 78), none, [1, 0]⟩,
  ⟨some 80, .mv (.t 4), some (79, true), [2, 1, 0]⟩,
  ⟨some 81, .bin .eql (.t 80) (.c (.int .i64 7)), some (79, true), [3, 2, 1, 0]⟩,
  ⟨some 82, .pick (.t 79) (.t 81) (.c (.bool false)), none, [2, 1, 0, 4, 3]⟩,
  ⟨some 83, .mv (.t 82), none, [5, 2, 1, 0, 4, 3]⟩,
  ⟨some 84, .mv (.t 6), some (83, true), [6, 5, 2, 1, 0, 4, 3]⟩,
  ⟨some 85, .bin .eql (.t 84) (.c (.int .i64 13)), some (83, true), [7, 6, 5, 2, 1, 0, 4, 3]⟩,
  ⟨some 86, .pick (.t 83) (.t 85) (.c (.bool false)), none, [6, 5, 2, 1, 0, 4, 3, 8, 7]⟩,
  ⟨some 87, .mv (.t 86), none, [9, 6, 5, 2, 1, 0, 4, 3, 8, 7]⟩,
  ⟨some 88, .mv (.t 8), some (87, true), [10, 9, 6, 5, 2, 1, 0, 4, 3, 8, 7]⟩,
  ⟨some 89, .bin .eql (.t 88) (.c (.int .i64 8)), some (87, true), [11, 10, 9, 6, 5, 2, 1, 0, 4, 3, 8, 7]⟩,
  ⟨some 90, .pick (.t 87) (.t 89) (.c (.bool false)), none, [10, 9, 6, 5, 2, 1, 0, 4, 3, 8, 7, 12, 11]⟩,
  ⟨some 91, .mv (.t 90), none, [13, 10, 9, 6, 5, 2, 1, 0, 4, 3, 8, 7, 12, 11]⟩,
  ⟨some 92, .mv (.t 10), some (91, true), [14, 13, 10, 9, 6, 5, 2, 1, 0, 4, 3, 8, 7, 12, 11]⟩,
  ⟨some 93, .bin .eql (.t 92) (.c (.int .i64 0)), some (91, true), [15, 14, 13, 10, 9, 6, 5, 2, 1, 0, 4, 3, 8, 7, 12, 11]⟩,
  ⟨some 94, .pick (.t 91) (.t 93) (.c (.bool false)), none, [14, 13, 10, 9, 6, 5, 2, 1, 0, 4, 3, 8, 7, 12, 11, 16, 15]⟩,
  ⟨some 95, .mv (.t 94), none, [17, 14, 13, 10, 9, 6, 5, 2, 1, 0, 4, 3, 8, 7, 12, 11, 16, 15]⟩,
  ⟨some 96, .mv (.t 12), some (95, true), [18, 17, 14, 13, 10, 9, 6, 5, 2, 1, 0, 4, 3, 8, 7, 12, 11, 16, 15]⟩,
  ⟨some 97, .bin .eql (.t 96) (.c (.int .i64 0)), some (95, true), [19, 18, 17, 14, 13, 10, 9, 6, 5, 2, 1, 0, 4, 3, 8, 7, 12, 11, 16, 15]⟩,
  ⟨some 98, .pick (.t 95) (.t 97) (.c (.bool false)), none, [18, 17, 14, 13, 10, 9, 6, 5, 2, 1, 0, 4, 3, 8, 7, 12, 11, 16, 15, 20, 19]⟩,
  ⟨some 99, .mv (.t 98), none, [21, 18, 17, 14, 13, 10, 9, 6, 5, 2, 1, 0, 4, 3, 8, 7, 12, 11, 16, 15, 20, 19]⟩,
  ⟨some 100, .mv (.t 14), some (99, true), [22, 21, 18, 17, 14, 13, 10, 9, 6, 5, 2, 1, 0, 4, 3, 8, 7, 12, 11, 16, 15, 20, 19]⟩,
  ⟨some 101, .bin .eql (.t 100) (.c (.int .i64 0)), some (99, true), [23, 22, 21, 18, 17, 14, 13, 10, 9, 6, 5, 2, 1, 0, 4, 3, 8, 7, 12, 11, 16, 15, 20, 19]⟩,
  ⟨some 102, .pick (.t 99) (.t 101) (.c (.bool false)), none, [22, 21, 18, 17, 14, 13, 10, 9, 6, 5, 2, 1, 0, 4, 3, 8, 7, 12, 11, 16, 15, 20, 19, 24, 23]⟩,
  ⟨some 103, .mv (.t 102), none, [25, 22, 21, 18, 17, 14, 13, 10, 9, 6, 5, 2, 1, 0, 4, 3, 8, 7, 12, 11, 16, 15, 20, 19, 24, 23]⟩,
  ⟨some 104, .mv (.t 16), some (103, true), [26, 25, 22, 21, 18, 17, 14, 13, 10, 9, 6, 5, 2, 1, 0, 4, 3, 8, 7, 12, 11, 16, 15, 20, 19, 24, 23]⟩,
  ⟨some 105, .bin .eql (.t 104) (.c (.int .i64 0)), some (103, true), [27, 26, 25, 22, 21, 18, 17, 14, 13, 10, 9, 6, 5, 2, 1, 0, 4, 3, 8, 7, 12, 11, 16, 15, 20, 19, 24, 23]⟩,
  ⟨some 106, .pick (.t 103) (.t 105) (.c (.bool false)), none, [26, 25, 22, 21, 18, 17, 14, 13, 10, 9, 6, 5, 2, 1, 0, 4, 3, 8, 7, 12, 11, 16, 15, 20, 19, 24, 23, 28, 27]⟩,
  ⟨some 107, .mv (.t 106), none, [29, 26, 25, 22, 21, 18, 17, 14, 13, 10, 9, 6, 5, 2, 1, 0, 4, 3, 8, 7, 12, 11, 16, 15, 20, 19, 24, 23, 28, 27]⟩,
  ⟨some 108, .mv (.t 18), some (107, true), [30, 29, 26, 25, 22, 21, 18, 17, 14, 13, 10, 9, 6, 5, 2, 1, 0, 4, 3, 8, 7, 12, 11, 16, 15, 20, 19, 24, 23, 28, 27]⟩,
  ⟨some 109, .bin .eql (.t 108) (.c (.int .i64 6)), some (107, true), [31, 30, 29, 26, 25, 22, 21, 18, 17, 14, 13, 10, 9, 6, 5, 2, 1, 0, 4, 3, 8, 7, 12, 11, 16, 15, 20, 19, 24, 23, 28, 27]⟩,
  ⟨some 110, .pick (.t 107) (.t 109) (.c (.bool false)), none, [30, 29, 26, 25, 22, 21, 18, 17, 14, 13, 10, 9, 6, 5, 2, 1, 0, 4, 3, 8, 7, 12, 11, 16, 15, 20, 19, 24, 23, 28, 27, 32, 31]⟩,
  ⟨some 111, .mv (.t 110), none, [33, 30, 29, 26, 25, 22, 21, 18, 17, 14, 13, 10, 9, 6, 5, 2, 1, 0, 4, 3, 8, 7, 12, 11, 16, 15, 20, 19, 24, 23, 28, 27, 32, 31]⟩,
  ⟨some 112, .load true 2 (.t 1), some (111, true), [34, 33, 30, 29, 26, 25, 22, 21, 18, 17, 14, 13, 10, 9, 6, 5, 2, 1, 0, 4, 3, 8, 7, 12, 11, 16, 15, 20, 19, 24, 23, 28, 27, 32, 31]⟩,
  ⟨some 113, .callP true (.f 10) [(.c (.int .i64 0)), (.c (.int .i64 0))], some (111, true), [34, 33, 30, 29, 26, 25, 22, 21, 18, 17, 14, 13, 10, 9, 6, 5, 2, 1, 0, 4, 3, 8, 7, 12, 11, 16, 15, 20, 19, 24, 23, 28, 27, 32, 31]⟩,
  ⟨some 114, .eqF false [.int, .int] (.t 112) (.t 113), some (111, true), [35, 34, 33, 30, 29, 26, 25, 22, 21, 18, 17, 14, 13, 10, 9, 6, 5, 2, 1, 0, 4, 3, 8, 7, 12, 11, 16, 15, 20, 19, 24, 23, 28, 27, 32, 31, 36]⟩,
  ⟨some 115, .pick (.t 111) (.t 114) (.c (.bool false)), none, [34, 33, 30, 29, 26, 25, 22, 21, 18, 17, 14, 13, 10, 9, 6, 5, 2, 1, 0, 4, 3, 8, 7, 12, 11, 16, 15, 20, 19, 24, 23, 28, 27, 32, 31, 37, 35, 36]⟩,
  ⟨some 116, .mv (.t 115), none, [38, 34, 33, 30, 29, 26, 25, 22, 21, 18, 17, 14, 13, 10, 9, 6, 5, 2, 1, 0, 4, 3, 8, 7, 12, 11, 16, 15, 20, 19, 24, 23, 28, 27, 32, 31, 37, 35, 36]⟩,
  ⟨some 117, .load true 2 (.t 3), some (116, true), [39, 38, 34, 33, 30, 29, 26, 25, 22, 21, 18, 17, 14, 13, 10, 9, 6, 5, 2, 1, 0, 4, 3, 8, 7, 12, 11, 16, 15, 20, 19, 24, 23, 28, 27, 32, 31, 37, 35, 36]⟩,
  ⟨some 118, .callP true (.f 10) [(.c (.int .i64 0)), (.c (.int .i64 0))], some (116, true), [39, 38, 34, 33, 30, 29, 26, 25, 22, 21, 18, 17, 14, 13, 10, 9, 6, 5, 2, 1, 0, 4, 3, 8, 7, 12, 11, 16, 15, 20, 19, 24, 23, 28, 27, 32, 31, 37, 35, 36]⟩,
  ⟨some 119, .eqF false [.int, .int] (.t 117) (.t 118), some (116, true), [40, 39, 38, 34, 33, 30, 29, 26, 25, 22, 21, 18, 17, 14, 13, 10, 9, 6, 5, 2, 1, 0, 4, 3, 8, 7, 12, 11, 16, 15, 20, 19, 24, 23, 28, 27, 32, 31, 37, 35, 36, 41]⟩,
  ⟨some 120, .pick (.t 116) (.t 119) (.c (.bool false)), none, [39, 38, 34, 33, 30, 29, 26, 25, 22, 21, 18, 17, 14, 13, 10, 9, 6, 5, 2, 1, 0, 4, 3, 8, 7, 12, 11, 16, 15, 20, 19, 24, 23, 28, 27, 32, 31, 37, 35, 36, 42, 40, 41]⟩,
  ⟨some 121, .mv (.t 120), none, [43, 39, 38, 34, 33, 30, 29, 26, 25, 22, 21, 18, 17, 14, 13, 10, 9, 6, 5, 2, 1, 0, 4, 3, 8, 7, 12, 11, 16, 15, 20, 19, 24, 23, 28, 27, 32, 31, 37, 35, 36, 42, 40, 41]⟩,
  ⟨some 122, .load true 2 (.t 5), some (121, true), [44, 43, 39, 38, 34, 33, 30, 29, 26, 25, 22, 21, 18, 17, 14, 13, 10, 9, 6, 5, 2, 1, 0, 4, 3, 8, 7, 12, 11, 16, 15, 20, 19, 24, 23, 28, 27, 32, 31, 37, 35, 36, 42, 40, 41]⟩,
  ⟨some 123, .callP true (.f 10) [(.c (.int .i64 0)), (.c (.int .i64 2))], some (121, true), [44, 43, 39, 38, 34, 33, 30, 29, 26, 25, 22, 21, 18, 17, 14, 13, 10, 9, 6, 5, 2, 1, 0, 4, 3, 8, 7, 12, 11, 16, 15, 20, 19, 24, 23, 28, 27, 32, 31, 37, 35, 36, 42, 40, 41]⟩,
  ⟨some 124, .eqF false [.int, .int] (.t 122) (.t 123), some (121, true), [45, 44, 43, 39, 38, 34, 33, 30, 29, 26, 25, 22, 21, 18, 17, 14, 13, 10, 9, 6, 5, 2, 1, 0, 4, 3, 8, 7, 12, 11, 16, 15, 20, 19, 24, 23, 28, 27, 32, 31, 37, 35, 36, 42, 40, 41, 46]⟩,
  ⟨some 125, .pick (.t 121) (.t 124) (.c (.bool false)), none, [44, 43, 39, 38, 34, 33, 30, 29, 26, 25, 22, 21, 18, 17, 14, 13, 10, 9, 6, 5, 2, 1, 0, 4, 3, 8, 7, 12, 11, 16, 15, 20, 19, 24, 23, 28, 27, 32, 31, 37, 35, 36, 42, 40, 41, 47, 45, 46]⟩,
  ⟨some 126, .mv (.t 125), none, [48, 44, 43, 39, 38, 34, 33, 30, 29, 26, 25, 22, 21, 18, 17, 14, 13, 10, 9, 6, 5, 2, 1, 0, 4, 3, 8, 7, 12, 11, 16, 15, 20, 19, 24, 23, 28, 27, 32, 31, 37, 35, 36, 42, 40, 41, 47, 45, 46]⟩,
  ⟨some 127, .load true 2 (.t 7), some (126, true), [49, 48, 44, 43, 39, 38, 34, 33, 30, 29, 26, 25, 22, 21, 18, 17, 14, 13, 10, 9, 6, 5, 2, 1, 0, 4, 3, 8, 7, 12, 11, 16, 15, 20, 19, 24, 23, 28, 27, 32, 31, 37, 35, 36, 42, 40, 41, 47, 45, 46]⟩,
  ⟨some 128, .callP true (.f 10) [(.c (.int .i64 0)), (.c (.int .i64 1))], some (126, true), [49, 48, 44, 43, 39, 38, 34, 33, 30, 29, 26, 25, 22, 21, 18, 17, 14, 13, 10, 9, 6, 5, 2, 1, 0, 4, 3, 8, 7, 12, 11, 16, 15, 20, 19, 24, 23, 28, 27, 32, 31, 37, 35, 36, 42, 40, 41, 47, 45, 46]⟩,
  ⟨some 129, .eqF false [.int, .int] (.t 127) (.t 128), some (126, true), [50, 49, 48, 44, 43, 39, 38, 34, 33, 30, 29, 26, 25, 22, 21, 18, 17, 14, 13, 10, 9, 6, 5, 2, 1, 0, 4, 3, 8, 7, 12, 11, 16, 15, 20, 19, 24, 23, 28, 27, 32, 31, 37, 35, 36, 42, 40, 41, 47, 45, 46, 51]⟩,
  ⟨some 130, .pick (.t 126) (.t 129) (.c (.bool false)), none, [49, 48, 44, 43, 39, 38, 34, 33, 30, 29, 26, 25, 22, 21, 18, 17, 14, 13, 10, 9, 6, 5, 2, 1, 0, 4, 3, 8, 7, 12, 11, 16, 15, 20, 19, 24, 23, 28, 27, 32, 31, 37, 35, 36, 42, 40, 41, 47, 45, 46, 52, 50, 51]⟩,
  ⟨some 131, .mv (.t 130), none, [53, 49, 48, 44, 43, 39, 38, 34, 33, 30, 29, 26, 25, 22, 21, 18, 17, 14, 13, 10, 9, 6, 5, 2, 1, 0, 4, 3, 8, 7, 12, 11, 16, 15, 20, 19, 24, 23, 28, 27, 32, 31, 37, 35, 36, 42, 40, 41, 47, 45, 46, 52, 50, 51]⟩,
  ⟨some 132, .mv (.t 9), some (131, true), [54, 53, 49, 48, 44, 43, 39, 38, 34, 33, 30, 29, 26, 25, 22, 21, 18, 17, 14, 13, 10, 9, 6, 5, 2, 1, 0, 4, 3, 8, 7, 12, 11, 16, 15, 20, 19, 24, 23, 28, 27, 32, 31, 37, 35, 36, 42, 40, 41, 47, 45, 46, 52, 50, 51]⟩,
  ⟨some 133, .bslice 1 4 [(.int .i64 0)] [(0, (.c (.int .i64 0))), (1, (.c (.int .i64 1))), (2, (.c (.int .i64 (-1)))), (3, (.c (.int .i64 1)))], some (131, true), [54, 53, 49, 48, 44, 43, 39, 38, 34, 33, 30, 29, 26, 25, 22, 21, 18, 17, 14, 13, 10, 9, 6, 5, 2, 1, 0, 4, 3, 8, 7, 12, 11, 16, 15, 20, 19, 24, 23, 28, 27, 32, 31, 37, 35, 36, 42, 40, 41, 47, 45, 46, 52, 50, 51]⟩,
  ⟨some 134, .callP false (.f 11) [(.t 132), (.t 133)], some (131, true), [55, 54, 53, 49, 48, 44, 43, 39, 38, 34, 33, 30, 29, 26, 25, 22, 21, 18, 17, 14, 13, 10, 9, 6, 5, 2, 1, 0, 4, 3, 8, 7, 12, 11, 16, 15, 20, 19, 24, 23, 28, 27, 32, 31, 37, 35, 36, 42, 40, 41, 47, 45, 46, 52, 50, 51, 56]⟩,
  ⟨some 135, .pick (.t 131) (.t 134) (.c (.bool false)), none, [54, 53, 49, 48, 44, 43, 39, 38, 34, 33, 30, 29, 26, 25, 22, 21, 18, 17, 14, 13, 10, 9, 6, 5, 2, 1, 0, 4, 3, 8, 7, 12, 11, 16, 15, 20, 19, 24, 23, 28, 27, 32, 31, 37, 35, 36, 42, 40, 41, 47, 45, 46, 52, 50, 51, 57, 55, 56]⟩,
  ⟨some 136, .mv (.t 135), none, [58, 54, 53, 49, 48, 44, 43, 39, 38, 34, 33, 30, 29, 26, 25, 22, 21, 18, 17, 14, 13, 10, 9, 6, 5, 2, 1, 0, 4, 3, 8, 7, 12, 11, 16, 15, 20, 19, 24, 23, 28, 27, 32, 31, 37, 35, 36, 42, 40, 41, 47, 45, 46, 52, 50, 51, 57, 55, 56]⟩,
  ⟨some 137, .mv (.t 11), some (136, true), [59, 58, 54, 53, 49, 48, 44, 43, 39, 38, 34, 33, 30, 29, 26, 25, 22, 21, 18, 17, 14, 13, 10, 9, 6, 5, 2, 1, 0, 4, 3, 8, 7, 12, 11, 16, 15, 20, 19, 24, 23, 28, 27, 32, 31, 37, 35, 36, 42, 40, 41, 47, 45, 46, 52, 50, 51, 57, 55, 56]⟩,
  ⟨some 138, .callP true (.f 10) [(.c (.int .i64 0)), (.c (.int .i64 2))], some (136, true), [59, 58, 54, 53, 49, 48, 44, 43, 39, 38, 34, 33, 30, 29, 26, 25, 22, 21, 18, 17, 14, 13, 10, 9, 6, 5, 2, 1, 0, 4, 3, 8, 7, 12, 11, 16, 15, 20, 19, 24, 23, 28, 27, 32, 31, 37, 35, 36, 42, 40, 41, 47, 45, 46, 52, 50, 51, 57, 55, 56]⟩,
  ⟨some 139, .bslice 2 1 [(.int .i64 0), (.int .i64 0)] [(0, (.t 138))], some (136, true), [61, 59, 58, 54, 53, 49, 48, 44, 43, 39, 38, 34, 33, 30, 29, 26, 25, 22, 21, 18, 17, 14, 13, 10, 9, 6, 5, 2, 1, 0, 4, 3, 8, 7, 12, 11, 16, 15, 20, 19, 24, 23, 28, 27, 32, 31, 37, 35, 36, 42, 40, 41, 47, 45, 46, 52, 50, 51, 57, 55, 56]⟩,
  ⟨some 140, .callP false (.f 20) [(.t 137), (.t 139)], some (136, true), [60, 59, 58, 54, 53, 49, 48, 44, 43, 39, 38, 34, 33, 30, 29, 26, 25, 22, 21, 18, 17, 14, 13, 10, 9, 6, 5, 2, 1, 0, 4, 3, 8, 7, 12, 11, 16, 15, 20, 19, 24, 23, 28, 27, 32, 31, 37, 35, 36, 42, 40, 41, 47, 45, 46, 52, 50, 51, 57, 55, 56, 62, 61]⟩,
  ⟨some 141, .pick (.t 136) (.t 140) (.c (.bool false)), none, [59, 58, 54, 53, 49, 48, 44, 43, 39, 38, 34, 33, 30, 29, 26, 25, 22, 21, 18, 17, 14, 13, 10, 9, 6, 5, 2, 1, 0, 4, 3, 8, 7, 12, 11, 16, 15, 20, 19, 24, 23, 28, 27, 32, 31, 37, 35, 36, 42, 40, 41, 47, 45, 46, 52, 50, 51, 57, 55, 56, 63, 60, 62, 61]⟩,
  ⟨some 142, .mv (.t 141), none, [64, 59, 58, 54, 53, 49, 48, 44, 43, 39, 38, 34, 33, 30, 29, 26, 25, 22, 21, 18, 17, 14, 13, 10, 9, 6, 5, 2, 1, 0, 4, 3, 8, 7, 12, 11, 16, 15, 20, 19, 24, 23, 28, 27, 32, 31, 37, 35, 36, 42, 40, 41, 47, 45, 46, 52, 50, 51, 57, 55, 56, 63, 60, 62, 61]⟩,
  ⟨some 143, .mv (.t 13), some (142, true), [65, 64, 59, 58, 54, 53, 49, 48, 44, 43, 39, 38, 34, 33, 30, 29, 26, 25, 22, 21, 18, 17, 14, 13, 10, 9, 6, 5, 2, 1, 0, 4, 3, 8, 7, 12, 11, 16, 15, 20, 19, 24, 23, 28, 27, 32, 31, 37, 35, 36, 42, 40, 41, 47, 45, 46, 52, 50, 51, 57, 55, 56, 63, 60, 62, 61]⟩,
  ⟨some 144, .bin .eql (.t 143) (.c (.int .i64 2)), some (142, true), [66, 65, 64, 59, 58, 54, 53, 49, 48, 44, 43, 39, 38, 34, 33, 30, 29, 26, 25, 22, 21, 18, 17, 14, 13, 10, 9, 6, 5, 2, 1, 0, 4, 3, 8, 7, 12, 11, 16, 15, 20, 19, 24, 23, 28, 27, 32, 31, 37, 35, 36, 42, 40, 41, 47, 45, 46, 52, 50, 51, 57, 55, 56, 63, 60, 62, 61]⟩,
  ⟨some 145, .pick (.t 142) (.t 144) (.c (.bool false)), none, [65, 64, 59, 58, 54, 53, 49, 48, 44, 43, 39, 38, 34, 33, 30, 29, 26, 25, 22, 21, 18, 17, 14, 13, 10, 9, 6, 5, 2, 1, 0, 4, 3, 8, 7, 12, 11, 16, 15, 20, 19, 24, 23, 28, 27, 32, 31, 37, 35, 36, 42, 40, 41, 47, 45, 46, 52, 50, 51, 57, 55, 56, 63, 60, 62, 61, 67, 66]⟩,
  ⟨some 146, .mv (.t 145), none, [68, 65, 64, 59, 58, 54, 53, 49, 48, 44, 43, 39, 38, 34, 33, 30, 29, 26, 25, 22, 21, 18, 17, 14, 13, 10, 9, 6, 5, 2, 1, 0, 4, 3, 8, 7, 12, 11, 16, 15, 20, 19, 24, 23, 28, 27, 32, 31, 37, 35, 36, 42, 40, 41, 47, 45, 46, 52, 50, 51, 57, 55, 56, 63, 60, 62, 61, 67, 66]⟩,
  ⟨some 147, .mv (.t 15), some (146, true), [69, 68, 65, 64, 59, 58, 54, 53, 49, 48, 44, 43, 39, 38, 34, 33, 30, 29, 26, 25, 22, 21, 18, 17, 14, 13, 10, 9, 6, 5, 2, 1, 0, 4, 3, 8, 7, 12, 11, 16, 15, 20, 19, 24, 23, 28, 27, 32, 31, 37, 35, 36, 42, 40, 41, 47, 45, 46, 52, 50, 51, 57, 55, 56, 63, 60, 62, 61, 67, 66]⟩,
  ⟨some 148, .bslice 1 1 [(.int .i64 0)] [(0, (.c (.int .i64 1)))], some (146, true), [69, 68, 65, 64, 59, 58, 54, 53, 49, 48, 44, 43, 39, 38, 34, 33, 30, 29, 26, 25, 22, 21, 18, 17, 14, 13, 10, 9, 6, 5, 2, 1, 0, 4, 3, 8, 7, 12, 11, 16, 15, 20, 19, 24, 23, 28, 27, 32, 31, 37, 35, 36, 42, 40, 41, 47, 45, 46, 52, 50, 51, 57, 55, 56, 63, 60, 62, 61, 67, 66]⟩,
  ⟨some 149, .callP false (.f 11) [(.t 147), (.t 148)], some (146, true), [70, 69, 68, 65, 64, 59, 58, 54, 53, 49, 48, 44, 43, 39, 38, 34, 33, 30, 29, 26, 25, 22, 21, 18, 17, 14, 13, 10, 9, 6, 5, 2, 1, 0, 4, 3, 8, 7, 12, 11, 16, 15, 20, 19, 24, 23, 28, 27, 32, 31, 37, 35, 36, 42, 40, 41, 47, 45, 46, 52, 50, 51, 57, 55, 56, 63, 60, 62, 61, 67, 66, 71]⟩,
  ⟨some 150, .pick (.t 146) (.t 149) (.c (.bool false)), none, [69, 68, 65, 64, 59, 58, 54, 53, 49, 48, 44, 43, 39, 38, 34, 33, 30, 29, 26, 25, 22, 21, 18, 17, 14, 13, 10, 9, 6, 5, 2, 1, 0, 4, 3, 8, 7, 12, 11, 16, 15, 20, 19, 24, 23, 28, 27, 32, 31, 37, 35, 36, 42, 40, 41, 47, 45, 46, 52, 50, 51, 57, 55, 56, 63, 60, 62, 61, 67, 66, 72, 70, 71]⟩,
  ⟨some 0, .mv (.t 150), none, [73, 69, 68, 65, 64, 59, 58, 54, 53, 49, 48, 44, 43, 39, 38, 34, 33, 30, 29, 26, 25, 22, 21, 18, 17, 14, 13, 10, 9, 6, 5, 2, 1, 0, 4, 3, 8, 7, 12, 11, 16, 15, 20, 19, 24, 23, 28, 27, 32, 31, 37, 35, 36, 42, 40, 41, 47, 45, 46, 52, 50, 51, 57, 55, 56, 63, 60, 62, 61, 67, 66, 72, 70, 71]⟩]) (.ret))))))))))))⟩
def h13 : Hint := { cb := [1], ps := [6], cp := [], cs := [], ap := [], ls := [] }
def c13 : AF := ⟨1, 46, [.tmp 2, .cell 3 true 2, .cell 4 false 1],
 (.seq (.reg false [
  ⟨some 1, .boxc (.t 0), none, []⟩,
  ⟨some 2, .mv (.c (.slice 0 [] .full)), none, []⟩,
  ⟨some 3, .alloc [(.int .i64 0), (.int .i64 0)], none, []⟩,
  ⟨some 4, .alloc [(.int .i64 0)], none, []⟩]) (.seq (.reg false [
  ⟨none, .defer (.f 21) [(.t 3), (.t 4)], none, []⟩]) (.seq (.seq (.reg false [
  ⟨some 9, .load true 3 (.t 1), none, []⟩,
  ⟨some 10, .call (.f 22) [(.t 9)], none, []⟩,
  ⟨some 5, .mv (.t 10), none, []⟩]) (.seq (.reg false [
  ⟨some 11, .mv (.t 5), none, []⟩,
  ⟨some 12, .bin .neq (.t 11) (.c (.int .i64 0)), none, []⟩]) (.cond (.t 12) (.seq (.reg true [
  ⟨some 13, .load true 2 (.t 3), none, []⟩,
  ⟨some 14, .mv (.t 5), none, []⟩,
  ⟨some 2, .mv (.c (.slice 0 [] .full)), none, []⟩,
  ⟨none, .store 2 (.t 3) (.t 13), none, [0, 2]⟩,
  ⟨none, .store 1 (.t 4) (.t 14), none, [1, 3, 0, 2]⟩]) (.ret)) (.skip)))) (.seq (.seq (.reg false [
  ⟨some 15, .fieldA 2 (.t 1), none, []⟩,
  ⟨some 16, .load false 1 (.t 15), none, []⟩,
  ⟨some 17, .idxS 5 (.t 16) (.c (.int .i64 0)), none, []⟩,
  ⟨some 18, .load true 5 (.t 17), none, []⟩,
  ⟨some 6, .pend [(.int .i64 0), (.int .i64 0), (.int .i64 0), (.bool false), (.slice 0 [] .full)], none, []⟩,
  ⟨none, .shut 6 5 (.t 18), none, []⟩]) (.seq (.reg false [
  ⟨some 19, .fieldA 0 (.t 6), none, []⟩,
  ⟨some 20, .load false 1 (.t 19), none, []⟩,
  ⟨some 21, .fieldA 1 (.t 6), none, []⟩,
  ⟨some 22, .load false 1 (.t 21), none, []⟩,
  ⟨some 23, .bin .add (.t 20) (.t 22), none, []⟩,
  ⟨some 24, .bin .gtr (.t 23) (.c (.int .i64 0)), none, []⟩,
  ⟨some 25, .mv (.t 24), none, []⟩,
  ⟨some 26, .fieldA 3 (.t 6), some (25, false), []⟩,
  ⟨some 27, .load false 1 (.t 26), some (25, false), []⟩,
  ⟨some 28, .pick (.t 25) (.c (.bool true)) (.t 27), none, []⟩]) (.cond (.t 28) (.seq (.reg true [
  ⟨some 29, .load true 2 (.t 3), none, []⟩,
  ⟨some 2, .mv (.c (.slice 0 [] .full)), none, []⟩,
  ⟨none, .store 2 (.t 3) (.t 29), none, [0, 1]⟩,
  ⟨none, .store 1 (.t 4) (.c (.int .i64 7)), none, [2, 0, 1]⟩]) (.ret)) (.skip)))) (.seq (.reg false [
  ⟨some 7, .mv (.c (.slice 0 [] .full)), none, []⟩]) (.seq (.seq (.reg false [
  ⟨some 30, .fieldA 2 (.t 1), none, []⟩,
  ⟨some 31, .load false 1 (.t 30), none, []⟩,
  ⟨some 32, .lenS (.t 31), none, []⟩,
  ⟨some 33, .mv (.c (.int .i64 0)), none, []⟩]) (.block 0 (.loop (.seq (.reg false [
  ⟨some 34, .bin .lss (.t 33) (.t 32), none, []⟩]) (.seq (.cond (.t 34) (.skip) (.exit 0)) (.seq (.block 1 (.seq (.reg false [
  ⟨some 35, .mv (.t 33), none, []⟩,
  ⟨some 8, .mv (.t 35), none, []⟩]) (.reg false [
  ⟨some 36, .mv (.t 7), none, []⟩,
  ⟨some 37, .load true 3 (.t 1), none, []⟩,
  ⟨some 38, .build [(.slice 0 [] .full), (.slice 0 [] .full), (.slice 0 [] .full)] [(0, 3, (.t 37))], none, []⟩,
  ⟨some 39, .mv (.t 8), none, []⟩,
  ⟨some 40, .call (.f 23) [(.t 38), (.t 39)], none, []⟩,
  ⟨some 41, .bslice 1 1 [(.slice 0 [] .full)] [(0, (.t 40))], none, []⟩,
  ⟨some 42, .append false 1 24 (.t 36) (.t 41), none, []⟩,
  ⟨some 7, .mv (.t 42), none, []⟩]))) (.reg false [
  ⟨some 43, .bin .add (.t 33) (.c (.int .i64 1)), none, []⟩,
  ⟨some 33, .mv (.t 43), none, []⟩]))))))) (.seq (.reg true [
  ⟨some 44, .mv (.t 7), none, []⟩,
  ⟨some 45, .load true 2 (.t 3), none, []⟩,
  ⟨some 2, .mv (.t 44), none, [0]⟩,
  ⟨none, .store 2 (.t 3) (.t 45), none, [1, 2, 0]⟩,
  ⟨none, .store 1 (.t 4) (.c (.int .i64 0)), none, [3, 1, 2, 0]⟩]) (.ret))))))))⟩
def h14 : Hint := { cb := [], ps := [], cp := [10, 9], cs := [], ap := [], ls := [] }
def c14 : AF := ⟨1, 11, [],
 (.seq (.reg false [
  ⟨some 3, .mv (.t 0), none, []⟩,
  ⟨some 4, .lenS (.t 3), none, []⟩,
  ⟨some 2, .mv (.t 4), none, []⟩]) (.reg false [
  ⟨some 5, .mv (.t 0), none, []⟩,
  ⟨some 6, .mv (.t 2), none, []⟩,
  ⟨some 7, .mv (.t 2), none, []⟩,
  ⟨some 8, .toInt .u64 (.t 7), none, []⟩,
  ⟨some 9, .callP false (.f 25) [(.t 8)], none, []⟩,
  ⟨some 10, .callP false (.f 24) [(.t 5), (.c (.int .i64 0)), (.t 6), (.t 9)], none, []⟩]))⟩
def h15 : Hint := { cb := [], ps := [], cp := [], cs := [], ap := [], ls := [] }
def c15 : AF := ⟨1, 61, [.tmp 2],
 (.seq (.reg false [
  ⟨some 2, .mv (.c (.slice 0 [] .full)), none, []⟩]) (.seq (.seq (.reg false [
  ⟨some 6, .mv (.t 0), none, []⟩,
  ⟨some 7, .lenS (.t 6), none, []⟩,
  ⟨some 8, .bin .lss (.t 7) (.c (.int .i64 2)), none, []⟩]) (.cond (.t 8) (.seq (.reg false [
  ⟨some 9, .mv (.t 0), none, []⟩,
  ⟨some 2, .mv (.t 9), none, []⟩]) (.ret)) (.skip))) (.seq (.seq (.reg false [
  ⟨some 3, .mv (.c (.int .i64 1)), none, []⟩]) (.block 0 (.loop (.seq (.seq (.reg false [
  ⟨some 10, .mv (.t 3), none, []⟩,
  ⟨some 11, .mv (.t 0), none, []⟩,
  ⟨some 12, .lenS (.t 11), none, []⟩,
  ⟨some 13, .bin .lss (.t 10) (.t 12), none, []⟩]) (.cond (.t 13) (.skip) (.exit 0))) (.seq (.block 1 (.seq (.reg true [
  ⟨some 16, .mv (.t 0), none, []⟩,
  ⟨some 17, .mv (.t 3), none, []⟩,
  ⟨some 18, .idxS 1 (.t 16) (.t 17), none, [0, 1]⟩,
  ⟨some 19, .load false 1 (.t 18), none, [2, 0, 1]⟩,
  ⟨some 20, .mv (.t 0), none, []⟩,
  ⟨some 21, .mv (.t 3), none, []⟩,
  ⟨some 22, .bin .sub (.t 21) (.c (.int .i64 1)), none, [5]⟩,
  ⟨some 23, .idxS 1 (.t 20) (.t 22), none, [4, 6, 5]⟩,
  ⟨some 24, .load false 1 (.t 23), none, [7, 4, 6, 5]⟩,
  ⟨some 25, .bin .eql (.t 19) (.t 24), none, [3, 2, 0, 1, 8, 7, 4, 6, 5]⟩]) (.cond (.t 25) (.seq (.reg false [
  ⟨some 26, .mv (.t 0), none, []⟩,
  ⟨some 27, .mv (.t 3), none, []⟩,
  ⟨some 28, .cutS 1 (.t 26) (some (.t 27)) none none, none, []⟩,
  ⟨some 4, .mv (.t 28), none, []⟩]) (.seq (.seq (.reg false [
  ⟨some 5, .mv (.c (.int .i64 1)), none, []⟩]) (.block 2 (.loop (.seq (.seq (.reg false [
  ⟨some 29, .mv (.t 5), none, []⟩,
  ⟨some 30, .mv (.t 4), none, []⟩,
  ⟨some 31, .lenS (.t 30), none, []⟩,
  ⟨some 32, .bin .lss (.t 29) (.t 31), none, []⟩]) (.cond (.t 32) (.skip) (.exit 2))) (.seq (.block 3 (.seq (.reg true [
  ⟨some 35, .mv (.t 4), none, []⟩,
  ⟨some 36, .mv (.t 5), none, []⟩,
  ⟨some 37, .idxS 1 (.t 35) (.t 36), none, [0, 1]⟩,
  ⟨some 38, .load false 1 (.t 37), none, [2, 0, 1]⟩,
  ⟨some 39, .mv (.t 4), none, []⟩,
  ⟨some 40, .mv (.t 5), none, []⟩,
  ⟨some 41, .bin .sub (.t 40) (.c (.int .i64 1)), none, [5]⟩,
  ⟨some 42, .idxS 1 (.t 39) (.t 41), none, [4, 6, 5]⟩,
  ⟨some 43, .load false 1 (.t 42), none, [7, 4, 6, 5]⟩,
  ⟨some 44, .bin .neq (.t 38) (.t 43), none, [3, 2, 0, 1, 8, 7, 4, 6, 5]⟩]) (.cond (.t 44) (.seq (.reg false [
  ⟨some 45, .mv (.t 0), none, []⟩,
  ⟨some 46, .mv (.t 3), none, []⟩,
  ⟨some 47, .mv (.t 4), none, []⟩,
  ⟨some 48, .mv (.t 5), none, []⟩,
  ⟨some 49, .idxS 1 (.t 47) (.t 48), none, []⟩,
  ⟨some 50, .load false 1 (.t 49), none, []⟩,
  ⟨some 51, .idxS 1 (.t 45) (.t 46), none, []⟩,
  ⟨none, .store 1 (.t 51) (.t 50), none, []⟩]) (.reg false [
  ⟨some 52, .mv (.t 3), none, []⟩,
  ⟨some 53, .bin .add (.t 52) (.c (.int .i64 1)), none, []⟩,
  ⟨some 3, .mv (.t 53), none, []⟩])) (.skip)))) (.reg false [
  ⟨some 33, .mv (.t 5), none, []⟩,
  ⟨some 34, .bin .add (.t 33) (.c (.int .i64 1)), none, []⟩,
  ⟨some 5, .mv (.t 34), none, []⟩])))))) (.seq (.reg false [
  ⟨some 54, .mv (.t 0), none, []⟩,
  ⟨some 55, .mv (.t 3), none, []⟩,
  ⟨some 56, .cutS 1 (.t 54) (some (.t 55)) none none, none, []⟩,
  ⟨none, .bad, none, []⟩]) (.seq (.reg false [
  ⟨some 57, .mv (.t 0), none, []⟩,
  ⟨some 58, .mv (.t 3), none, []⟩,
  ⟨some 59, .cutS 1 (.t 57) none (some (.t 58)) none, none, []⟩,
  ⟨some 2, .mv (.t 59), none, []⟩]) (.ret))))) (.skip)))) (.reg false [
  ⟨some 14, .mv (.t 3), none, []⟩,
  ⟨some 15, .bin .add (.t 14) (.c (.int .i64 1)), none, []⟩,
  ⟨some 3, .mv (.t 15), none, []⟩])))))) (.seq (.reg false [
  ⟨some 60, .mv (.t 0), none, []⟩,
  ⟨some 2, .mv (.t 60), none, []⟩]) (.ret)))))⟩
def h16 : Hint := { cb := [], ps := [], cp := [6, 2, 1], cs := [], ap := [], ls := [] }
def c16 : AF := ⟨0, 7, [.cell 0 true 3],
 (.seq (.reg false [
  ⟨some 0, .alloc [(.slice 0 [] .full), (.slice 0 [] .full), (.slice 0 [] .full)], none, []⟩]) (.seq (.reg false [
  ⟨some 1, .callP false (.f 6) [(.c (.int .i64 0)), (.c (.int .i64 1))], none, []⟩,
  ⟨some 2, .callP false (.f 6) [(.c (.int .i64 0)), (.c (.int .i64 2))], none, []⟩,
  ⟨some 3, .build [(.int .i64 0), (.int .i64 0), (.int .i64 0), (.str [])] [(0, 1, (.c (.int .i64 5))), (3, 1, (.c (.str [43])))], none, []⟩,
  ⟨some 4, .build [(.int .i64 0), (.int .i64 0), (.int .i64 0), (.str [])] [(0, 1, (.c (.int .i64 8)))], none, []⟩,
  ⟨some 5, .bslice 4 4 [(.int .i64 0), (.int .i64 0), (.int .i64 0), (.str [])] [(0, (.t 1)), (1, (.t 2)), (2, (.t 3)), (3, (.t 4))], none, []⟩,
  ⟨some 6, .callP false (.f 5) [(.c (.int .i64 0)), (.t 5)], none, []⟩,
  ⟨none, .store 3 (.t 0) (.t 6), none, []⟩]) (.ret)))⟩
def h17 : Hint := { cb := [], ps := [], cp := [6, 2, 1], cs := [], ap := [], ls := [] }
def c17 : AF := ⟨0, 7, [.cell 0 true 3],
 (.seq (.reg false [
  ⟨some 0, .alloc [(.slice 0 [] .full), (.slice 0 [] .full), (.slice 0 [] .full)], none, []⟩]) (.seq (.reg false [
  ⟨some 1, .callP false (.f 6) [(.c (.int .i64 0)), (.c (.int .i64 1))], none, []⟩,
  ⟨some 2, .callP false (.f 6) [(.c (.int .i64 10)), (.c (.int .i64 3))], none, []⟩,
  ⟨some 3, .build [(.int .i64 0), (.int .i64 0), (.int .i64 0), (.str [])] [(0, 1, (.c (.int .i64 13)))], none, []⟩,
  ⟨some 4, .build [(.int .i64 0), (.int .i64 0), (.int .i64 0), (.str [])] [(0, 1, (.c (.int .i64 8)))], none, []⟩,
  ⟨some 5, .bslice 4 4 [(.int .i64 0), (.int .i64 0), (.int .i64 0), (.str [])] [(0, (.t 1)), (1, (.t 2)), (2, (.t 3)), (3, (.t 4))], none, []⟩,
  ⟨some 6, .callP false (.f 5) [(.c (.int .i64 0)), (.t 5)], none, []⟩,
  ⟨none, .store 3 (.t 0) (.t 6), none, []⟩]) (.ret)))⟩
def h18 : Hint := { cb := [1], ps := [5], cp := [14], cs := [], ap := [], ls := [] }
def c18 : AF := ⟨1, 46, [.tmp 2, .tmp 3],
 (.seq (.reg false [
  ⟨some 1, .boxc (.t 0), none, []⟩,
  ⟨some 2, .mv (.c (.slice 0 [] .full)), none, []⟩,
  ⟨some 3, .mv (.c (.int .i64 0)), none, []⟩]) (.seq (.reg false [
  ⟨some 13, .load true 3 (.t 1), none, []⟩,
  ⟨some 14, .callP false (.f 13) [(.t 13)], none, []⟩,
  ⟨some 12, .mv (.t 14), none, []⟩,
  ⟨some 15, .extract (.t 12) 0, none, []⟩,
  ⟨some 16, .extract (.t 12) 1, none, []⟩,
  ⟨some 17, .extract (.t 12) 2, none, []⟩,
  ⟨some 5, .pend [(.int .i64 0), (.int .i64 0)], none, []⟩,
  ⟨some 4, .mv (.t 15), none, []⟩,
  ⟨none, .shut 5 2 (.t 16), none, []⟩,
  ⟨some 6, .mv (.t 17), none, []⟩]) (.seq (.seq (.reg false [
  ⟨some 18, .mv (.t 6), none, []⟩,
  ⟨some 19, .bin .neq (.t 18) (.c (.int .i64 0)), none, []⟩]) (.cond (.t 19) (.seq (.reg false [
  ⟨some 20, .mv (.t 6), none, []⟩,
  ⟨some 2, .mv (.c (.slice 0 [] .full)), none, []⟩,
  ⟨some 3, .mv (.t 20), none, []⟩]) (.ret)) (.skip))) (.seq (.reg false [
  ⟨some 7, .mv (.c (.slice 0 [] .full)), none, []⟩]) (.seq (.seq (.reg false [
  ⟨some 21, .mv (.t 4), none, []⟩,
  ⟨some 22, .lenS (.t 21), none, []⟩,
  ⟨some 23, .mv (.c (.int .i64 0)), none, []⟩]) (.block 0 (.loop (.seq (.reg false [
  ⟨some 24, .bin .lss (.t 23) (.t 22), none, []⟩]) (.seq (.cond (.t 24) (.skip) (.exit 0)) (.seq (.block 1 (.seq (.reg false [
  ⟨some 25, .mv (.t 23), none, []⟩,
  ⟨some 26, .idxS 1 (.t 21) (.t 23), none, []⟩,
  ⟨some 27, .load false 1 (.t 26), none, []⟩,
  ⟨some 8, .mv (.t 25), none, []⟩,
  ⟨some 9, .mv (.t 27), none, []⟩]) (.seq (.reg false [
  ⟨some 28, .mv (.t 9), none, []⟩,
  ⟨some 29, .lenS (.t 28), none, []⟩,
  ⟨some 30, .mv (.c (.int .i64 0)), none, []⟩]) (.block 2 (.loop (.seq (.reg false [
  ⟨some 31, .bin .lss (.t 30) (.t 29), none, []⟩]) (.seq (.cond (.t 31) (.skip) (.exit 2)) (.seq (.block 3 (.seq (.reg false [
  ⟨some 32, .mv (.t 30), none, []⟩,
  ⟨some 33, .idxS 1 (.t 28) (.t 30), none, []⟩,
  ⟨some 34, .load false 1 (.t 33), none, []⟩,
  ⟨some 10, .mv (.t 32), none, []⟩,
  ⟨some 11, .mv (.t 34), none, []⟩]) (.seq (.reg false [
  ⟨some 35, .mv (.t 11), none, []⟩,
  ⟨some 36, .bin .lss (.t 35) (.c (.int .i64 0)), none, []⟩]) (.cond (.t 36) (.reg false [
  ⟨some 37, .mv (.t 7), none, []⟩,
  ⟨some 38, .mv (.t 8), none, []⟩,
  ⟨some 39, .mv (.t 10), none, []⟩,
  ⟨some 40, .build [(.int .i64 0), (.int .i64 0)] [(0, 1, (.t 38)), (1, 1, (.t 39))], none, []⟩,
  ⟨some 41, .bslice 2 1 [(.int .i64 0), (.int .i64 0)] [(0, (.t 40))], none, []⟩,
  ⟨some 42, .append false 2 16 (.t 37) (.t 41), none, []⟩,
  ⟨some 7, .mv (.t 42), none, []⟩]) (.skip))))) (.reg false [
  ⟨some 43, .bin .add (.t 30) (.c (.int .i64 1)), none, []⟩,
  ⟨some 30, .mv (.t 43), none, []⟩]))))))))) (.reg false [
  ⟨some 44, .bin .add (.t 23) (.c (.int .i64 1)), none, []⟩,
  ⟨some 23, .mv (.t 44), none, []⟩]))))))) (.seq (.reg false [
  ⟨some 45, .mv (.t 7), none, []⟩,
  ⟨some 2, .mv (.t 45), none, []⟩,
  ⟨some 3, .mv (.c (.int .i64 0)), none, []⟩]) (.ret)))))))⟩
def h19 : Hint := { cb := [1], ps := [5], cp := [12], cs := [], ap := [], ls := [] }
def c19 : AF := ⟨1, 31, [.tmp 2, .tmp 3],
 (.seq (.reg false [
  ⟨some 1, .boxc (.t 0), none, []⟩,
  ⟨some 2, .mv (.c (.int .i64 0)), none, []⟩,
  ⟨some 3, .mv (.c (.int .i64 0)), none, []⟩]) (.seq (.reg false [
  ⟨some 11, .load true 3 (.t 1), none, []⟩,
  ⟨some 12, .callP false (.f 13) [(.t 11)], none, []⟩,
  ⟨some 10, .mv (.t 12), none, []⟩,
  ⟨some 13, .extract (.t 10) 0, none, []⟩,
  ⟨some 14, .extract (.t 10) 1, none, []⟩,
  ⟨some 15, .extract (.t 10) 2, none, []⟩,
  ⟨some 5, .pend [(.int .i64 0), (.int .i64 0)], none, []⟩,
  ⟨some 4, .mv (.t 13), none, []⟩,
  ⟨none, .shut 5 2 (.t 14), none, []⟩,
  ⟨some 6, .mv (.t 15), none, []⟩]) (.seq (.seq (.reg false [
  ⟨some 16, .mv (.t 6), none, []⟩,
  ⟨some 17, .bin .neq (.t 16) (.c (.int .i64 0)), none, []⟩]) (.cond (.t 17) (.seq (.reg false [
  ⟨some 18, .mv (.t 6), none, []⟩,
  ⟨some 2, .mv (.c (.int .i64 0)), none, []⟩,
  ⟨some 3, .mv (.t 18), none, []⟩]) (.ret)) (.skip))) (.seq (.reg false [
  ⟨some 7, .mv (.c (.int .i64 0)), none, []⟩]) (.seq (.seq (.reg false [
  ⟨some 19, .mv (.t 4), none, []⟩,
  ⟨some 20, .lenS (.t 19), none, []⟩,
  ⟨some 21, .mv (.c (.int .i64 0)), none, []⟩]) (.block 0 (.loop (.seq (.reg false [
  ⟨some 22, .bin .lss (.t 21) (.t 20), none, []⟩]) (.seq (.cond (.t 22) (.skip) (.exit 0)) (.seq (.block 1 (.seq (.reg false [
  ⟨some 23, .idxS 1 (.t 19) (.t 21), none, []⟩,
  ⟨some 24, .load false 1 (.t 23), none, []⟩,
  ⟨some 9, .mv (.t 24), none, []⟩]) (.reg false [
  ⟨some 25, .mv (.t 7), none, []⟩,
  ⟨some 26, .mv (.t 9), none, []⟩,
  ⟨some 27, .call (.f 26) [(.t 26)], none, []⟩,
  ⟨some 28, .minmax true [(.t 25), (.t 27)], none, []⟩,
  ⟨some 7, .mv (.t 28), none, []⟩]))) (.reg false [
  ⟨some 29, .bin .add (.t 21) (.c (.int .i64 1)), none, []⟩,
  ⟨some 21, .mv (.t 29), none, []⟩]))))))) (.seq (.reg false [
  ⟨some 30, .mv (.t 7), none, []⟩,
  ⟨some 2, .mv (.t 30), none, []⟩,
  ⟨some 3, .mv (.c (.int .i64 0)), none, []⟩]) (.ret)))))))⟩
def h20 : Hint := { cb := [], ps := [], cp := [], cs := [], ap := [], ls := [] }
def c20 : AF := ⟨2, 26, [.tmp 4],
 (.seq (.reg false [
  ⟨some 4, .mv (.c (.bool false)), none, []⟩]) (.seq (.seq (.reg false [
  ⟨some 6, .mv (.t 0), none, []⟩,
  ⟨some 7, .lenS (.t 6), none, []⟩,
  ⟨some 8, .mv (.t 1), none, []⟩,
  ⟨some 9, .lenS (.t 8), none, []⟩,
  ⟨some 10, .bin .neq (.t 7) (.t 9), none, []⟩]) (.cond (.t 10) (.seq (.reg false [
  ⟨some 4, .mv (.c (.bool false)), none, []⟩]) (.ret)) (.skip))) (.seq (.seq (.reg false [
  ⟨some 5, .mv (.c (.int .i64 0)), none, []⟩]) (.block 0 (.loop (.seq (.seq (.reg false [
  ⟨some 11, .mv (.t 5), none, []⟩,
  ⟨some 12, .mv (.t 0), none, []⟩,
  ⟨some 13, .lenS (.t 12), none, []⟩,
  ⟨some 14, .bin .lss (.t 11) (.t 13), none, []⟩]) (.cond (.t 14) (.skip) (.exit 0))) (.seq (.block 1 (.seq (.reg true [
  ⟨some 17, .mv (.t 0), none, []⟩,
  ⟨some 18, .mv (.t 5), none, []⟩,
  ⟨some 19, .idxS 2 (.t 17) (.t 18), none, [0, 1]⟩,
  ⟨some 20, .load true 2 (.t 19), none, [2, 0, 1]⟩,
  ⟨some 21, .mv (.t 1), none, []⟩,
  ⟨some 22, .mv (.t 5), none, []⟩,
  ⟨some 23, .idxS 2 (.t 21) (.t 22), none, [4, 5]⟩,
  ⟨some 24, .load true 2 (.t 23), none, [6, 4, 5]⟩,
  ⟨some 25, .eqF true [.int, .int] (.t 20) (.t 24), none, [3, 2, 0, 1, 7, 6, 4, 5]⟩]) (.cond (.t 25) (.seq (.reg false [
  ⟨some 4, .mv (.c (.bool false)), none, []⟩]) (.ret)) (.skip)))) (.reg false [
  ⟨some 15, .mv (.t 5), none, []⟩,
  ⟨some 16, .bin .add (.t 15) (.c (.int .i64 1)), none, []⟩,
  ⟨some 5, .mv (.t 16), none, []⟩])))))) (.seq (.reg false [
  ⟨some 4, .mv (.c (.bool true)), none, []⟩]) (.ret)))))⟩
def h21 : Hint := { cb := [], ps := [5], cp := [], cs := [], ap := [], ls := [] }
def c21 : AF := ⟨2, 21, [],
 (.seq (.reg false [
  ⟨some 7, .recov, none, []⟩]) (.block 0 (.seq (.reg false [
  ⟨some 9, .eqnil false .iface (.t 7), none, []⟩]) (.cond (.t 9) (.reg false [
  ⟨some 4, .mv (.t 7), none, []⟩]) (.seq (.reg false [
  ⟨some 10, .assert true 70 (.agg [(.int .i64 0), (.int .i64 0), (.int .i64 0)]) (.t 7), none, []⟩,
  ⟨some 11, .extract (.t 10) 1, none, []⟩,
  ⟨some 12, .extract (.t 10) 0, none, []⟩]) (.cond (.t 11) (.seq (.reg false [
  ⟨some 5, .pend [(.int .i64 0), (.int .i64 0), (.int .i64 0)], none, []⟩,
  ⟨none, .shut 5 3 (.t 12), none, []⟩]) (.regW [
  ⟨some 13, .mv (.t 0), none, []⟩,
  ⟨some 14, .mv (.t 1), none, []⟩,
  ⟨some 15, .fieldA 0 (.t 5), none, []⟩,
  ⟨some 16, .load true 2 (.t 15), none, [2]⟩,
  ⟨some 17, .fieldA 2 (.t 5), none, []⟩,
  ⟨some 18, .load false 1 (.t 17), none, [4]⟩,
  ⟨some 19, .nilchk (.t 13), none, [0, 2, 3]⟩,
  ⟨none, .store 2 (.t 19) (.t 16), none, [6, 0, 2, 3]⟩,
  ⟨some 20, .nilchk (.t 14), none, [1, 0, 2, 3, 4, 5, 6, 7]⟩,
  ⟨none, .store 1 (.t 20) (.t 18), none, [8, 1, 0, 2, 3, 4, 5, 6, 7]⟩])) (.seq (.reg false [
  ⟨some 6, .mv (.t 7), none, []⟩]) (.reg false [
  ⟨some 8, .mv (.t 6), none, []⟩,
  ⟨none, .panic (.t 8), none, []⟩]))))))))⟩
def h22 : Hint := { cb := [1], ps := [13, 12, 11, 9, 7, 3], cp := [120, 114, 104, 95, 89, 70, 62, 57, 15], cs := [69], ap := [], ls := [] }
def c22 : AF := ⟨1, 124, [.tmp 2],
 (.seq (.reg false [
  ⟨some 1, .boxc (.t 0), none, []⟩,
  ⟨some 2, .mv (.c (.int .i64 0)), none, []⟩]) (.seq (.reg false [
  ⟨some 14, .load true 3 (.t 1), none, []⟩,
  ⟨some 15, .callP false (.f 27) [(.t 14)], none, []⟩,
  ⟨some 3, .pend [(.slice 0 [] .full), (.slice 0 [] .full), (.slice 0 [] .full), (.int .i64 0), (.int .i64 0), (.str []), (.str []), (.slice 0 [] .full), (.slice 0 [] .full), (.slice 0 [] .full)], none, []⟩,
  ⟨none, .shut 3 10 (.t 15), none, []⟩]) (.seq (.seq (.reg false [
  ⟨some 16, .load true 10 (.t 3), none, []⟩,
  ⟨some 17, .call (.f 28) [(.t 16)], none, []⟩,
  ⟨some 4, .mv (.t 17), none, []⟩]) (.seq (.reg false [
  ⟨some 18, .mv (.t 4), none, []⟩,
  ⟨some 19, .bin .neq (.t 18) (.c (.int .i64 0)), none, []⟩]) (.cond (.t 19) (.seq (.reg false [
  ⟨some 20, .mv (.t 4), none, []⟩,
  ⟨some 2, .mv (.t 20), none, []⟩]) (.ret)) (.skip)))) (.seq (.reg false [
  ⟨some 5, .mv (.c (.int .i64 0)), none, []⟩]) (.seq (.seq (.reg false [
  ⟨some 21, .fieldA 2 (.t 1), none, []⟩,
  ⟨some 22, .load false 1 (.t 21), none, []⟩,
  ⟨some 23, .lenS (.t 22), none, []⟩,
  ⟨some 24, .mv (.c (.int .i64 0)), none, []⟩]) (.block 0 (.loop (.seq (.reg false [
  ⟨some 25, .bin .lss (.t 24) (.t 23), none, []⟩]) (.seq (.cond (.t 25) (.skip) (.exit 0)) (.seq (.block 1 (.seq (.reg false [
  ⟨some 26, .idxS 5 (.t 22) (.t 24), none, []⟩,
  ⟨some 27, .load true 5 (.t 26), none, []⟩,
  ⟨some 7, .pend [(.int .i64 0), (.int .i64 0), (.int .i64 0), (.bool false), (.slice 0 [] .full)], none, []⟩,
  ⟨none, .shut 7 5 (.t 27), none, []⟩]) (.reg false [
  ⟨some 28, .mv (.t 5), none, []⟩,
  ⟨some 29, .fieldA 4 (.t 7), none, []⟩,
  ⟨some 30, .load false 1 (.t 29), none, []⟩,
  ⟨some 31, .lenS (.t 30), none, []⟩,
  ⟨some 32, .bin .add (.t 28) (.t 31), none, []⟩,
  ⟨some 5, .mv (.t 32), none, []⟩]))) (.reg false [
  ⟨some 33, .bin .add (.t 24) (.c (.int .i64 1)), none, []⟩,
  ⟨some 24, .mv (.t 33), none, []⟩]))))))) (.seq (.block 2 (.seq (.reg false [
  ⟨some 35, .fieldA 2 (.t 1), none, []⟩,
  ⟨some 36, .load false 1 (.t 35), none, []⟩,
  ⟨some 37, .lenS (.t 36), none, []⟩,
  ⟨some 38, .bin .gtr (.t 37) (.c (.int .i64 1000)), none, []⟩,
  ⟨some 39, .mv (.t 38), none, []⟩,
  ⟨some 40, .mv (.t 5), some (39, false), []⟩,
  ⟨some 41, .bin .gtr (.t 40) (.c (.int .i64 20000)), some (39, false), []⟩,
  ⟨some 42, .pick (.t 39) (.c (.bool true)) (.t 41), none, []⟩,
  ⟨some 34, .mv (.t 42), none, []⟩]) (.cond (.t 34) (.seq (.reg false [
  ⟨some 2, .mv (.c (.int .i64 3)), none, []⟩]) (.ret)) (.seq (.reg false [
  ⟨some 44, .fieldA 2 (.t 1), none, []⟩,
  ⟨some 45, .load false 1 (.t 44), none, []⟩,
  ⟨some 46, .lenS (.t 45), none, []⟩,
  ⟨some 47, .bin .eql (.t 46) (.c (.int .i64 0)), none, []⟩,
  ⟨some 43, .mv (.t 47), none, []⟩]) (.cond (.t 43) (.seq (.reg false [
  ⟨some 2, .mv (.c (.int .i64 6)), none, []⟩]) (.ret)) (.skip)))))) (.seq (.seq (.reg false [
  ⟨some 48, .fieldA 2 (.t 1), none, []⟩,
  ⟨some 49, .load false 1 (.t 48), none, []⟩,
  ⟨some 50, .lenS (.t 49), none, []⟩,
  ⟨some 51, .mv (.c (.int .i64 0)), none, []⟩]) (.block 3 (.loop (.seq (.reg false [
  ⟨some 52, .bin .lss (.t 51) (.t 50), none, []⟩]) (.seq (.cond (.t 52) (.skip) (.exit 3)) (.seq (.block 4 (.seq (.reg false [
  ⟨some 53, .idxS 5 (.t 49) (.t 51), none, []⟩,
  ⟨some 54, .load true 5 (.t 53), none, []⟩,
  ⟨some 9, .pend [(.int .i64 0), (.int .i64 0), (.int .i64 0), (.bool false), (.slice 0 [] .full)], none, []⟩,
  ⟨none, .shut 9 5 (.t 54), none, []⟩]) (.seq (.seq (.reg true [
  ⟨some 55, .fieldA 0 (.t 9), none, []⟩,
  ⟨some 56, .load false 1 (.t 55), none, [0]⟩,
  ⟨some 57, .callP false (.f 29) [(.t 56), (.c (.int .i64 0)), (.c (.int .i64 2))], none, [1, 0]⟩,
  ⟨some 58, .un .not (.t 57), none, [2, 1, 0]⟩,
  ⟨some 59, .mv (.t 58), none, [3, 2, 1, 0]⟩,
  ⟨some 60, .fieldA 1 (.t 9), some (59, false), [4, 3, 2, 1, 0]⟩,
  ⟨some 61, .load false 1 (.t 60), some (59, false), [5, 4, 3, 2, 1, 0]⟩,
  ⟨some 62, .callP false (.f 29) [(.t 61), (.c (.int .i64 0)), (.c (.int .i64 250))], some (59, false), [6, 5, 4, 3, 2, 1, 0]⟩,
  ⟨some 63, .un .not (.t 62), some (59, false), [7, 6, 5, 4, 3, 2, 1, 0]⟩,
  ⟨some 64, .pick (.t 59) (.c (.bool true)) (.t 63), none, [4, 3, 2, 1, 0, 8, 7, 6, 5]⟩,
  ⟨some 65, .mv (.t 64), none, [9, 4, 3, 2, 1, 0, 8, 7, 6, 5]⟩,
  ⟨some 66, .fieldA 2 (.t 9), some (65, false), [10, 9, 4, 3, 2, 1, 0, 8, 7, 6, 5]⟩,
  ⟨some 67, .load false 1 (.t 66), some (65, false), [11, 10, 9, 4, 3, 2, 1, 0, 8, 7, 6, 5]⟩,
  ⟨some 68, .load true 5 (.t 9), some (65, false), [10, 9, 4, 3, 2, 1, 0, 8, 7, 6, 5]⟩,
  ⟨some 69, .callP true (.f 30) [(.t 68)], some (65, false), [13, 10, 9, 4, 3, 2, 1, 0, 8, 7, 6, 5]⟩,
  ⟨some 70, .callP false (.f 29) [(.t 67), (.t 69), (.c (.int .i64 250))], some (65, false), [12, 11, 10, 9, 4, 3, 2, 1, 0, 8, 7, 6, 5, 14, 13]⟩,
  ⟨some 71, .un .not (.t 70), some (65, false), [15, 12, 11, 10, 9, 4, 3, 2, 1, 0, 8, 7, 6, 5, 14, 13]⟩,
  ⟨some 72, .pick (.t 65) (.c (.bool true)) (.t 71), none, [10, 9, 4, 3, 2, 1, 0, 8, 7, 6, 5, 16, 15, 12, 11, 14, 13]⟩]) (.cond (.t 72) (.seq (.reg false [
  ⟨some 2, .mv (.c (.int .i64 1)), none, []⟩]) (.ret)) (.skip))) (.seq (.reg false [
  ⟨some 73, .fieldA 4 (.t 9), none, []⟩,
  ⟨some 74, .load false 1 (.t 73), none, []⟩,
  ⟨some 75, .lenS (.t 74), none, []⟩,
  ⟨some 76, .mv (.c (.int .i64 0)), none, []⟩]) (.block 5 (.loop (.seq (.reg false [
  ⟨some 77, .bin .lss (.t 76) (.t 75), none, []⟩]) (.seq (.cond (.t 77) (.skip) (.exit 5)) (.seq (.block 6 (.seq (.reg false [
  ⟨some 78, .idxS 4 (.t 74) (.t 76), none, []⟩,
  ⟨some 79, .load true 4 (.t 78), none, []⟩,
  ⟨some 11, .pend [(.int .i64 0), (.int .i64 0), (.int .i64 0), (.str [])], none, []⟩,
  ⟨none, .shut 11 4 (.t 79), none, []⟩]) (.seq (.reg false [
  ⟨some 81, .fieldA 0 (.t 11), none, []⟩,
  ⟨some 82, .load false 1 (.t 81), none, []⟩,
  ⟨some 83, .fieldA 2 (.t 1), none, []⟩,
  ⟨some 84, .load false 1 (.t 83), none, []⟩,
  ⟨some 85, .lenS (.t 84), none, []⟩,
  ⟨some 86, .fieldA 4 (.t 9), none, []⟩,
  ⟨some 87, .load false 1 (.t 86), none, []⟩,
  ⟨some 88, .lenS (.t 87), none, []⟩,
  ⟨some 89, .callP false (.f 31) [(.t 82), (.t 85), (.t 88)], none, []⟩,
  ⟨some 80, .mv (.t 89), none, []⟩,
  ⟨some 90, .extract (.t 80) 0, none, []⟩,
  ⟨some 91, .extract (.t 80) 1, none, []⟩,
  ⟨some 12, .pend [(.int .i64 0), (.int .i64 0)], none, []⟩,
  ⟨some 13, .pend [(.int .i64 0), (.int .i64 0)], none, []⟩,
  ⟨none, .shut 12 2 (.t 90), none, []⟩,
  ⟨none, .shut 13 2 (.t 91), none, []⟩]) (.block 7 (.seq (.reg false [
  ⟨some 93, .fieldA 0 (.t 11), none, []⟩,
  ⟨some 94, .load false 1 (.t 93), none, []⟩,
  ⟨some 95, .callP false (.f 29) [(.t 94), (.c (.int .i64 0)), (.c (.int .i64 19))], none, []⟩,
  ⟨some 96, .un .not (.t 95), none, []⟩,
  ⟨some 97, .mv (.t 96), none, []⟩,
  ⟨some 98, .fieldA 1 (.t 11), some (97, false), []⟩,
  ⟨some 99, .load false 1 (.t 98), some (97, false), []⟩,
  ⟨some 100, .fieldA 0 (.t 12), some (97, false), []⟩,
  ⟨some 101, .load false 1 (.t 100), some (97, false), []⟩,
  ⟨some 102, .fieldA 1 (.t 12), some (97, false), []⟩,
  ⟨some 103, .load false 1 (.t 102), some (97, false), []⟩,
  ⟨some 104, .callP false (.f 29) [(.t 99), (.t 101), (.t 103)], some (97, false), []⟩,
  ⟨some 105, .un .not (.t 104), some (97, false), []⟩,
  ⟨some 106, .pick (.t 97) (.c (.bool true)) (.t 105), none, []⟩,
  ⟨some 107, .mv (.t 106), none, []⟩,
  ⟨some 108, .fieldA 2 (.t 11), some (107, false), []⟩,
  ⟨some 109, .load false 1 (.t 108), some (107, false), []⟩,
  ⟨some 110, .fieldA 0 (.t 13), some (107, false), []⟩,
  ⟨some 111, .load false 1 (.t 110), some (107, false), []⟩,
  ⟨some 112, .fieldA 1 (.t 13), some (107, false), []⟩,
  ⟨some 113, .load false 1 (.t 112), some (107, false), []⟩,
  ⟨some 114, .callP false (.f 29) [(.t 109), (.t 111), (.t 113)], some (107, false), []⟩,
  ⟨some 115, .un .not (.t 114), some (107, false), []⟩,
  ⟨some 116, .pick (.t 107) (.c (.bool true)) (.t 115), none, []⟩,
  ⟨some 92, .mv (.t 116), none, []⟩]) (.cond (.t 92) (.seq (.reg false [
  ⟨some 2, .mv (.c (.int .i64 1)), none, []⟩]) (.ret)) (.seq (.reg false [
  ⟨some 118, .load true 10 (.t 3), none, []⟩,
  ⟨some 119, .load true 4 (.t 11), none, []⟩,
  ⟨some 120, .callP false (.f 32) [(.t 118), (.t 119)], none, []⟩,
  ⟨some 121, .un .not (.t 120), none, []⟩,
  ⟨some 117, .mv (.t 121), none, []⟩]) (.cond (.t 117) (.seq (.reg false [
  ⟨some 2, .mv (.c (.int .i64 6)), none, []⟩]) (.ret)) (.skip))))))))) (.reg false [
  ⟨some 122, .bin .add (.t 76) (.c (.int .i64 1)), none, []⟩,
  ⟨some 76, .mv (.t 122), none, []⟩])))))))))) (.reg false [
  ⟨some 123, .bin .add (.t 51) (.c (.int .i64 1)), none, []⟩,
  ⟨some 51, .mv (.t 123), none, []⟩]))))))) (.seq (.reg false [
  ⟨some 2, .mv (.c (.int .i64 0)), none, []⟩]) (.ret)))))))))⟩
def h23 : Hint := { cb := [2], ps := [8], cp := [39], cs := [], ap := [], ls := [] }
def c23 : AF := ⟨2, 49, [.tmp 4],
 (.seq (.reg false [
  ⟨some 2, .boxc (.t 0), none, []⟩,
  ⟨some 4, .mv (.c (.slice 0 [] .full)), none, []⟩]) (.seq (.reg false [
  ⟨some 9, .load true 3 (.t 2), none, []⟩,
  ⟨some 10, .mv (.t 1), none, []⟩,
  ⟨some 11, .call (.f 33) [(.t 9), (.t 10)], none, []⟩,
  ⟨some 5, .mv (.t 11), none, []⟩]) (.seq (.reg false [
  ⟨some 12, .load true 3 (.t 2), none, []⟩,
  ⟨some 13, .mv (.t 1), none, []⟩,
  ⟨some 14, .call (.f 34) [(.t 12), (.t 13)], none, []⟩,
  ⟨some 6, .mv (.t 14), none, []⟩]) (.seq (.seq (.reg false [
  ⟨some 15, .fieldA 0 (.t 2), none, []⟩,
  ⟨some 16, .fieldA 2 (.t 15), none, []⟩,
  ⟨some 17, .load false 1 (.t 16), none, []⟩,
  ⟨some 18, .mv (.t 1), none, []⟩,
  ⟨some 19, .idxS 5 (.t 17) (.t 18), none, []⟩,
  ⟨some 20, .fieldA 4 (.t 19), none, []⟩,
  ⟨some 21, .load false 1 (.t 20), none, []⟩,
  ⟨some 22, .lenS (.t 21), none, []⟩,
  ⟨some 23, .mv (.c (.int .i64 0)), none, []⟩]) (.block 0 (.loop (.seq (.reg false [
  ⟨some 24, .bin .lss (.t 23) (.t 22), none, []⟩]) (.seq (.cond (.t 24) (.skip) (.exit 0)) (.seq (.block 1 (.seq (.reg false [
  ⟨some 25, .mv (.t 23), none, []⟩,
  ⟨some 26, .idxS 4 (.t 21) (.t 23), none, []⟩,
  ⟨some 27, .load true 4 (.t 26), none, []⟩,
  ⟨some 8, .pend [(.int .i64 0), (.int .i64 0), (.int .i64 0), (.str [])], none, []⟩,
  ⟨some 7, .mv (.t 25), none, []⟩,
  ⟨none, .shut 8 4 (.t 27), none, []⟩]) (.seq (.reg false [
  ⟨some 28, .mv (.t 5), none, []⟩,
  ⟨some 29, .mv (.t 7), none, []⟩,
  ⟨some 30, .idxS 1 (.t 28) (.t 29), none, []⟩,
  ⟨some 31, .load false 1 (.t 30), none, []⟩,
  ⟨some 32, .bin .geq (.t 31) (.c (.int .i64 0)), none, []⟩,
  ⟨some 33, .mv (.t 32), none, []⟩,
  ⟨some 34, .load true 3 (.t 2), some (33, true), []⟩,
  ⟨some 35, .load true 4 (.t 8), some (33, true), []⟩,
  ⟨some 36, .mv (.t 6), some (33, true), []⟩,
  ⟨some 37, .mv (.t 7), some (33, true), []⟩,
  ⟨some 38, .lookup false .int (.slice 0 [] .full) (.t 36) (.t 37), some (33, true), []⟩,
  ⟨some 39, .callP false (.f 35) [(.t 34), (.t 35), (.t 38)], some (33, true), []⟩,
  ⟨some 40, .un .not (.t 39), some (33, true), []⟩,
  ⟨some 41, .pick (.t 33) (.t 40) (.c (.bool false)), none, []⟩]) (.cond (.t 41) (.reg false [
  ⟨some 42, .mv (.t 1), none, []⟩,
  ⟨some 43, .mv (.t 7), none, []⟩,
  ⟨some 44, .build [(.int .i64 0), (.int .i64 0)] [(0, 1, (.t 42)), (1, 1, (.t 43))], none, []⟩,
  ⟨some 45, .build [(.int .i64 0), (.int .i64 0), (.int .i64 0)] [(0, 2, (.t 44)), (2, 1, (.c (.int .i64 8)))], none, []⟩,
  ⟨some 46, .mkIface 70 (.t 45), none, []⟩,
  ⟨none, .panic (.t 46), none, []⟩]) (.skip))))) (.reg false [
  ⟨some 47, .bin .add (.t 23) (.c (.int .i64 1)), none, []⟩,
  ⟨some 23, .mv (.t 47), none, []⟩]))))))) (.seq (.reg false [
  ⟨some 48, .mv (.t 5), none, []⟩,
  ⟨some 4, .mv (.t 48), none, []⟩]) (.ret))))))⟩
def h24 : Hint := { cb := [], ps := [], cp := [132, 121, 99, 92, 85, 72, 54, 46, 39, 33, 27], cs := [], ap := [], ls := [] }
def c24 : AF := ⟨4, 134, [],
 (.seq (.reg false [
  ⟨some 8, .mv (.c (.bool true)), none, []⟩]) (.seq (.reg false [
  ⟨some 9, .mv (.c (.bool true)), none, []⟩]) (.block 0 (.loop (.block 1 (.seq (.reg false [
  ⟨some 19, .mv (.t 2), none, []⟩,
  ⟨some 20, .mv (.t 1), none, []⟩,
  ⟨some 21, .bin .sub (.t 19) (.t 20), none, []⟩,
  ⟨some 10, .mv (.t 21), none, []⟩]) (.seq (.seq (.reg false [
  ⟨some 22, .mv (.t 10), none, []⟩,
  ⟨some 23, .bin .leq (.t 22) (.c (.int .i64 12)), none, []⟩]) (.cond (.t 23) (.seq (.reg false [
  ⟨some 24, .mv (.t 0), none, []⟩,
  ⟨some 25, .mv (.t 1), none, []⟩,
  ⟨some 26, .mv (.t 2), none, []⟩,
  ⟨some 27, .callP false (.f 36) [(.t 24), (.t 25), (.t 26)], none, []⟩]) (.ret)) (.skip))) (.seq (.seq (.reg false [
  ⟨some 28, .mv (.t 3), none, []⟩,
  ⟨some 29, .bin .eql (.t 28) (.c (.int .i64 0)), none, []⟩]) (.cond (.t 29) (.seq (.reg false [
  ⟨some 30, .mv (.t 0), none, []⟩,
  ⟨some 31, .mv (.t 1), none, []⟩,
  ⟨some 32, .mv (.t 2), none, []⟩,
  ⟨some 33, .callP false (.f 37) [(.t 30), (.t 31), (.t 32)], none, []⟩]) (.ret)) (.skip))) (.seq (.seq (.reg false [
  ⟨some 34, .mv (.t 8), none, []⟩,
  ⟨some 35, .un .not (.t 34), none, []⟩]) (.cond (.t 35) (.seq (.reg false [
  ⟨some 36, .mv (.t 0), none, []⟩,
  ⟨some 37, .mv (.t 1), none, []⟩,
  ⟨some 38, .mv (.t 2), none, []⟩,
  ⟨some 39, .callP false (.f 38) [(.t 36), (.t 37), (.t 38)], none, []⟩]) (.reg false [
  ⟨some 40, .mv (.t 3), none, []⟩,
  ⟨some 41, .bin .sub (.t 40) (.c (.int .i64 1)), none, []⟩,
  ⟨some 3, .mv (.t 41), none, []⟩])) (.skip))) (.seq (.reg false [
  ⟨some 43, .mv (.t 0), none, []⟩,
  ⟨some 44, .mv (.t 1), none, []⟩,
  ⟨some 45, .mv (.t 2), none, []⟩,
  ⟨some 46, .callP false (.f 39) [(.t 43), (.t 44), (.t 45)], none, []⟩,
  ⟨some 42, .mv (.t 46), none, []⟩,
  ⟨some 47, .extract (.t 42) 0, none, []⟩,
  ⟨some 48, .extract (.t 42) 1, none, []⟩,
  ⟨some 11, .mv (.t 47), none, []⟩,
  ⟨some 12, .mv (.t 48), none, []⟩]) (.seq (.seq (.reg false [
  ⟨some 49, .mv (.t 12), none, []⟩,
  ⟨some 50, .bin .eql (.t 49) (.c (.int .i64 2)), none, []⟩]) (.cond (.t 50) (.seq (.reg false [
  ⟨some 51, .mv (.t 0), none, []⟩,
  ⟨some 52, .mv (.t 1), none, []⟩,
  ⟨some 53, .mv (.t 2), none, []⟩,
  ⟨some 54, .callP false (.f 40) [(.t 51), (.t 52), (.t 53)], none, []⟩]) (.seq (.reg false [
  ⟨some 55, .mv (.t 2), none, []⟩,
  ⟨some 56, .bin .sub (.t 55) (.c (.int .i64 1)), none, []⟩,
  ⟨some 57, .mv (.t 11), none, []⟩,
  ⟨some 58, .mv (.t 1), none, []⟩,
  ⟨some 59, .bin .sub (.t 57) (.t 58), none, []⟩,
  ⟨some 60, .bin .sub (.t 56) (.t 59), none, []⟩,
  ⟨some 11, .mv (.t 60), none, []⟩]) (.reg false [
  ⟨some 12, .mv (.c (.int .i64 1)), none, []⟩]))) (.skip))) (.seq (.seq (.reg false [
  ⟨some 61, .mv (.t 8), none, []⟩,
  ⟨some 62, .mv (.t 61), none, []⟩,
  ⟨some 63, .mv (.t 9), some (62, true), []⟩,
  ⟨some 64, .pick (.t 62) (.t 63) (.c (.bool false)), none, []⟩,
  ⟨some 65, .mv (.t 64), none, []⟩,
  ⟨some 66, .mv (.t 12), some (65, true), []⟩,
  ⟨some 67, .bin .eql (.t 66) (.c (.int .i64 1)), some (65, true), []⟩,
  ⟨some 68, .pick (.t 65) (.t 67) (.c (.bool false)), none, []⟩]) (.cond (.t 68) (.seq (.reg false [
  ⟨some 69, .mv (.t 0), none, []⟩,
  ⟨some 70, .mv (.t 1), none, []⟩,
  ⟨some 71, .mv (.t 2), none, []⟩,
  ⟨some 72, .callP false (.f 41) [(.t 69), (.t 70), (.t 71)], none, []⟩]) (.cond (.t 72) (.ret) (.skip))) (.skip))) (.seq (.seq (.reg true [
  ⟨some 73, .mv (.t 1), none, []⟩,
  ⟨some 74, .bin .gtr (.t 73) (.c (.int .i64 0)), none, [0]⟩,
  ⟨some 75, .mv (.t 74), none, [1, 0]⟩,
  ⟨some 76, .mv (.t 0), some (75, true), [2, 1, 0]⟩,
  ⟨some 77, .mv (.t 1), some (75, true), [2, 1, 0]⟩,
  ⟨some 78, .bin .sub (.t 77) (.c (.int .i64 1)), some (75, true), [4, 2, 1, 0]⟩,
  ⟨some 79, .idxS 1 (.t 76) (.t 78), some (75, true), [3, 2, 1, 0, 5, 4]⟩,
  ⟨some 80, .load false 1 (.t 79), some (75, true), [6, 3, 2, 1, 0, 5, 4]⟩,
  ⟨some 81, .mv (.t 0), some (75, true), [2, 1, 0]⟩,
  ⟨some 82, .mv (.t 11), some (75, true), [2, 1, 0]⟩,
  ⟨some 83, .idxS 1 (.t 81) (.t 82), some (75, true), [8, 2, 1, 0, 9]⟩,
  ⟨some 84, .load false 1 (.t 83), some (75, true), [10, 8, 2, 1, 0, 9]⟩,
  ⟨some 85, .callP false (.f 42) [(.t 80), (.t 84)], some (75, true), [7, 6, 3, 2, 1, 0, 5, 4, 11, 10, 8, 9]⟩,
  ⟨some 86, .un .not (.t 85), some (75, true), [12, 7, 6, 3, 2, 1, 0, 5, 4, 11, 10, 8, 9]⟩,
  ⟨some 87, .pick (.t 75) (.t 86) (.c (.bool false)), none, [2, 1, 0, 13, 12, 7, 6, 3, 5, 4, 11, 10, 8, 9]⟩]) (.cond (.t 87) (.seq (.reg false [
  ⟨some 88, .mv (.t 0), none, []⟩,
  ⟨some 89, .mv (.t 1), none, []⟩,
  ⟨some 90, .mv (.t 2), none, []⟩,
  ⟨some 91, .mv (.t 11), none, []⟩,
  ⟨some 92, .callP false (.f 43) [(.t 88), (.t 89), (.t 90), (.t 91)], none, []⟩,
  ⟨some 13, .mv (.t 92), none, []⟩]) (.seq (.reg false [
  ⟨some 93, .mv (.t 13), none, []⟩,
  ⟨some 1, .mv (.t 93), none, []⟩]) (.exit 1))) (.skip))) (.seq (.reg false [
  ⟨some 95, .mv (.t 0), none, []⟩,
  ⟨some 96, .mv (.t 1), none, []⟩,
  ⟨some 97, .mv (.t 2), none, []⟩,
  ⟨some 98, .mv (.t 11), none, []⟩,
  ⟨some 99, .callP false (.f 44) [(.t 95), (.t 96), (.t 97), (.t 98)], none, []⟩,
  ⟨some 94, .mv (.t 99), none, []⟩,
  ⟨some 100, .extract (.t 94) 0, none, []⟩,
  ⟨some 101, .extract (.t 94) 1, none, []⟩,
  ⟨some 14, .mv (.t 100), none, []⟩,
  ⟨some 15, .mv (.t 101), none, []⟩]) (.seq (.reg false [
  ⟨some 102, .mv (.t 15), none, []⟩,
  ⟨some 9, .mv (.t 102), none, []⟩]) (.seq (.reg false [
  ⟨some 103, .mv (.t 14), none, []⟩,
  ⟨some 104, .mv (.t 1), none, []⟩,
  ⟨some 105, .bin .sub (.t 103) (.t 104), none, []⟩,
  ⟨some 106, .mv (.t 2), none, []⟩,
  ⟨some 107, .mv (.t 14), none, []⟩,
  ⟨some 108, .bin .sub (.t 106) (.t 107), none, []⟩,
  ⟨some 16, .mv (.t 105), none, []⟩,
  ⟨some 17, .mv (.t 108), none, []⟩]) (.seq (.reg false [
  ⟨some 109, .mv (.t 10), none, []⟩,
  ⟨some 110, .bin .quo (.t 109) (.c (.int .i64 8)), none, []⟩,
  ⟨some 18, .mv (.t 110), none, []⟩]) (.seq (.reg false [
  ⟨some 111, .mv (.t 16), none, []⟩,
  ⟨some 112, .mv (.t 17), none, []⟩,
  ⟨some 113, .bin .lss (.t 111) (.t 112), none, []⟩]) (.cond (.t 113) (.seq (.reg false [
  ⟨some 114, .mv (.t 16), none, []⟩,
  ⟨some 115, .mv (.t 18), none, []⟩,
  ⟨some 116, .bin .geq (.t 114) (.t 115), none, []⟩,
  ⟨some 8, .mv (.t 116), none, []⟩]) (.seq (.reg false [
  ⟨some 117, .mv (.t 0), none, []⟩,
  ⟨some 118, .mv (.t 1), none, []⟩,
  ⟨some 119, .mv (.t 14), none, []⟩,
  ⟨some 120, .mv (.t 3), none, []⟩,
  ⟨some 121, .callP false (.f 24) [(.t 117), (.t 118), (.t 119), (.t 120)], none, []⟩]) (.reg false [
  ⟨some 122, .mv (.t 14), none, []⟩,
  ⟨some 123, .bin .add (.t 122) (.c (.int .i64 1)), none, []⟩,
  ⟨some 1, .mv (.t 123), none, []⟩]))) (.seq (.reg false [
  ⟨some 124, .mv (.t 17), none, []⟩,
  ⟨some 125, .mv (.t 18), none, []⟩,
  ⟨some 126, .bin .geq (.t 124) (.t 125), none, []⟩,
  ⟨some 8, .mv (.t 126), none, []⟩]) (.seq (.reg false [
  ⟨some 127, .mv (.t 0), none, []⟩,
  ⟨some 128, .mv (.t 14), none, []⟩,
  ⟨some 129, .bin .add (.t 128) (.c (.int .i64 1)), none, []⟩,
  ⟨some 130, .mv (.t 2), none, []⟩,
  ⟨some 131, .mv (.t 3), none, []⟩,
  ⟨some 132, .callP false (.f 24) [(.t 127), (.t 129), (.t 130), (.t 131)], none, []⟩]) (.reg false [
  ⟨some 133, .mv (.t 14), none, []⟩,
  ⟨some 2, .mv (.t 133), none, []⟩]))))))))))))))))))))))⟩
def h25 : Hint := { cb := [], ps := [], cp := [7, 5], cs := [], ap := [], ls := [] }
def c25 : AF := ⟨1, 8, [.tmp 2],
 (.seq (.reg false [
  ⟨some 2, .mv (.c (.int .i64 0)), none, []⟩]) (.seq (.cond (.c (.bool false)) (.seq (.reg false [
  ⟨some 3, .mv (.t 0), none, []⟩,
  ⟨some 4, .toInt .u32 (.t 3), none, []⟩,
  ⟨some 5, .callP false (.f 45) [(.t 4)], none, []⟩,
  ⟨some 2, .mv (.t 5), none, []⟩]) (.ret)) (.skip)) (.seq (.reg false [
  ⟨some 6, .mv (.t 0), none, []⟩,
  ⟨some 7, .callP false (.f 46) [(.t 6)], none, []⟩,
  ⟨some 2, .mv (.t 7), none, []⟩]) (.ret))))⟩
def h26 : Hint := { cb := [], ps := [], cp := [], cs := [], ap := [], ls := [] }
def c26 : AF := ⟨1, 25, [.tmp 2],
 (.seq (.reg false [
  ⟨some 2, .mv (.c (.int .i64 0)), none, []⟩]) (.seq (.seq (.reg false [
  ⟨some 5, .mv (.t 0), none, []⟩,
  ⟨some 6, .lenS (.t 5), none, []⟩,
  ⟨some 7, .bin .lss (.t 6) (.c (.int .i64 1)), none, []⟩]) (.cond (.t 7) (.reg false [
  ⟨some 8, .mkIface 9 (.c (.str [115, 108, 105, 99, 101, 115, 46, 77, 97, 120, 58, 32, 101, 109, 112, 116, 121, 32, 108, 105, 115, 116])), none, []⟩,
  ⟨none, .panic (.t 8), none, []⟩]) (.skip))) (.seq (.reg false [
  ⟨some 9, .mv (.t 0), none, []⟩,
  ⟨some 10, .idxS 1 (.t 9) (.c (.int .i64 0)), none, []⟩,
  ⟨some 11, .load false 1 (.t 10), none, []⟩,
  ⟨some 3, .mv (.t 11), none, []⟩]) (.seq (.seq (.reg false [
  ⟨some 4, .mv (.c (.int .i64 1)), none, []⟩]) (.block 0 (.loop (.seq (.seq (.reg false [
  ⟨some 12, .mv (.t 4), none, []⟩,
  ⟨some 13, .mv (.t 0), none, []⟩,
  ⟨some 14, .lenS (.t 13), none, []⟩,
  ⟨some 15, .bin .lss (.t 12) (.t 14), none, []⟩]) (.cond (.t 15) (.skip) (.exit 0))) (.seq (.block 1 (.reg false [
  ⟨some 18, .mv (.t 3), none, []⟩,
  ⟨some 19, .mv (.t 0), none, []⟩,
  ⟨some 20, .mv (.t 4), none, []⟩,
  ⟨some 21, .idxS 1 (.t 19) (.t 20), none, []⟩,
  ⟨some 22, .load false 1 (.t 21), none, []⟩,
  ⟨some 23, .minmax true [(.t 18), (.t 22)], none, []⟩,
  ⟨some 3, .mv (.t 23), none, []⟩])) (.reg false [
  ⟨some 16, .mv (.t 4), none, []⟩,
  ⟨some 17, .bin .add (.t 16) (.c (.int .i64 1)), none, []⟩,
  ⟨some 4, .mv (.t 17), none, []⟩])))))) (.seq (.reg false [
  ⟨some 24, .mv (.t 3), none, []⟩,
  ⟨some 2, .mv (.t 24), none, []⟩]) (.ret))))))⟩
def h27 : Hint := { cb := [1], ps := [], cp := [], cs := [], ap := [], ls := [] }
def c27 : AF := ⟨1, 8, [.cell 2 true 10],
 (.seq (.reg false [
  ⟨some 1, .boxc (.t 0), none, []⟩,
  ⟨some 2, .alloc [(.slice 0 [] .full), (.slice 0 [] .full), (.slice 0 [] .full), (.int .i64 0), (.int .i64 0), (.str []), (.str []), (.slice 0 [] .full), (.slice 0 [] .full), (.slice 0 [] .full)], none, []⟩]) (.seq (.reg false [
  ⟨some 3, .fieldA 0 (.t 1), none, []⟩,
  ⟨some 4, .load false 1 (.t 3), none, []⟩,
  ⟨some 5, .fieldA 1 (.t 1), none, []⟩,
  ⟨some 6, .load false 1 (.t 5), none, []⟩,
  ⟨some 7, .build [(.slice 0 [] .full), (.slice 0 [] .full), (.slice 0 [] .full), (.int .i64 0), (.int .i64 0), (.str []), (.str []), (.slice 0 [] .full), (.slice 0 [] .full), (.slice 0 [] .full)] [(0, 1, (.t 4)), (1, 1, (.t 6))], none, []⟩,
  ⟨none, .store 10 (.t 2) (.t 7), none, []⟩]) (.ret)))⟩
def h28 : Hint := { cb := [1], ps := [], cp := [], cs := [], ap := [], ls := [] }
def c28 : AF := ⟨1, 7, [.tmp 2],
 (.seq (.reg false [
  ⟨some 1, .boxc (.t 0), none, []⟩,
  ⟨some 2, .mv (.c (.int .i64 0)), none, []⟩]) (.seq (.reg false [
  ⟨some 3, .load true 10 (.t 1), none, []⟩,
  ⟨some 4, .call (.f 48) [(.t 3)], none, []⟩,
  ⟨some 5, .mkFunc 49 [(.t 4)] [], none, []⟩,
  ⟨some 6, .call (.f 47) [(.t 5)], none, []⟩,
  ⟨some 2, .mv (.t 6), none, []⟩]) (.ret)))⟩
def h29 : Hint := { cb := [], ps := [], cp := [], cs := [], ap := [], ls := [] }
def c29 : AF := ⟨3, 15, [.tmp 6],
 (.seq (.reg false [
  ⟨some 6, .mv (.c (.bool false)), none, []⟩]) (.seq (.reg false [
  ⟨some 7, .mv (.t 1), none, []⟩,
  ⟨some 8, .mv (.t 0), none, []⟩,
  ⟨some 9, .bin .leq (.t 7) (.t 8), none, []⟩,
  ⟨some 10, .mv (.t 9), none, []⟩,
  ⟨some 11, .mv (.t 0), some (10, true), []⟩,
  ⟨some 12, .mv (.t 2), some (10, true), []⟩,
  ⟨some 13, .bin .leq (.t 11) (.t 12), some (10, true), []⟩,
  ⟨some 14, .pick (.t 10) (.t 13) (.c (.bool false)), none, []⟩,
  ⟨some 6, .mv (.t 14), none, []⟩]) (.ret)))⟩
def h30 : Hint := { cb := [1], ps := [], cp := [], cs := [], ap := [], ls := [] }
def c30 : AF := ⟨1, 14, [.tmp 2],
 (.seq (.reg false [
  ⟨some 1, .boxc (.t 0), none, []⟩,
  ⟨some 2, .mv (.c (.int .i64 0)), none, []⟩]) (.seq (.reg false [
  ⟨some 4, .fieldA 0 (.t 1), none, []⟩,
  ⟨some 5, .load false 1 (.t 4), none, []⟩,
  ⟨some 6, .fieldA 1 (.t 1), none, []⟩,
  ⟨some 7, .load false 1 (.t 6), none, []⟩,
  ⟨some 8, .bin .add (.t 5) (.t 7), none, []⟩,
  ⟨some 3, .mv (.t 8), none, []⟩]) (.seq (.seq (.reg false [
  ⟨some 9, .fieldA 3 (.t 1), none, []⟩,
  ⟨some 10, .load false 1 (.t 9), none, []⟩]) (.cond (.t 10) (.reg false [
  ⟨some 11, .mv (.t 3), none, []⟩,
  ⟨some 12, .bin .add (.t 11) (.c (.int .i64 1)), none, []⟩,
  ⟨some 3, .mv (.t 12), none, []⟩]) (.skip))) (.seq (.reg false [
  ⟨some 13, .mv (.t 3), none, []⟩,
  ⟨some 2, .mv (.t 13), none, []⟩]) (.ret)))))⟩
def h31 : Hint := { cb := [], ps := [], cp := [], cs := [], ap := [], ls := [] }
def c31 : AF := ⟨3, 43, [.cell 6 true 2, .cell 7 true 2],
 (.seq (.reg false [
  ⟨some 6, .alloc [(.int .i64 0), (.int .i64 0)], none, []⟩,
  ⟨some 7, .alloc [(.int .i64 0), (.int .i64 0)], none, []⟩]) (.seq (.seq (.reg false [
  ⟨some 8, .mv (.t 0), none, []⟩]) (.block 0 (.seq (.block 8 (.seq (.block 7 (.seq (.block 6 (.seq (.block 5 (.seq (.block 4 (.seq (.block 3 (.seq (.block 2 (.seq (.block 1 (.seq (.seq (.seq (.reg false [
  ⟨some 10, .bin .eql (.t 8) (.c (.int .i64 0)), none, []⟩,
  ⟨some 9, .mv (.t 10), none, []⟩]) (.cond (.t 9) (.exit 1) (.skip))) (.seq (.seq (.reg false [
  ⟨some 12, .bin .eql (.t 8) (.c (.int .i64 1)), none, []⟩,
  ⟨some 11, .mv (.t 12), none, []⟩]) (.cond (.t 11) (.exit 2) (.skip))) (.seq (.seq (.seq (.reg false [
  ⟨some 14, .bin .eql (.t 8) (.c (.int .i64 3)), none, []⟩,
  ⟨some 13, .mv (.t 14), none, []⟩]) (.cond (.t 13) (.skip) (.reg false [
  ⟨some 15, .bin .eql (.t 8) (.c (.int .i64 4)), none, []⟩,
  ⟨some 13, .mv (.t 15), none, []⟩]))) (.cond (.t 13) (.exit 3) (.skip))) (.seq (.seq (.reg false [
  ⟨some 17, .bin .eql (.t 8) (.c (.int .i64 6)), none, []⟩,
  ⟨some 16, .mv (.t 17), none, []⟩]) (.cond (.t 16) (.exit 4) (.skip))) (.seq (.seq (.reg false [
  ⟨some 19, .bin .eql (.t 8) (.c (.int .i64 12)), none, []⟩,
  ⟨some 18, .mv (.t 19), none, []⟩]) (.cond (.t 18) (.exit 5) (.skip))) (.seq (.seq (.reg false [
  ⟨some 21, .bin .eql (.t 8) (.c (.int .i64 9)), none, []⟩,
  ⟨some 20, .mv (.t 21), none, []⟩]) (.cond (.t 20) (.exit 6) (.skip))) (.seq (.seq (.seq (.reg false [
  ⟨some 23, .bin .eql (.t 8) (.c (.int .i64 10)), none, []⟩,
  ⟨some 22, .mv (.t 23), none, []⟩]) (.cond (.t 22) (.skip) (.reg false [
  ⟨some 24, .bin .eql (.t 8) (.c (.int .i64 11)), none, []⟩,
  ⟨some 22, .mv (.t 24), none, []⟩]))) (.cond (.t 22) (.exit 7) (.skip))) (.seq (.reg false [
  ⟨some 26, .bin .eql (.t 8) (.c (.int .i64 16)), none, []⟩,
  ⟨some 25, .mv (.t 26), none, []⟩]) (.cond (.t 25) (.exit 8) (.skip)))))))))) (.exit 0))) (.seq (.reg false [
  ⟨some 27, .build [(.int .i64 0), (.int .i64 0)] [(0, 1, (.c (.int .i64 (-999999999)))), (1, 1, (.c (.int .i64 999999999)))], none, []⟩,
  ⟨none, .store 2 (.t 6) (.t 27), none, []⟩]) (.exit 0)))) (.seq (.reg false [
  ⟨some 28, .fieldA 1 (.t 6), none, []⟩,
  ⟨none, .store 1 (.t 28) (.c (.int .i64 1)), none, []⟩]) (.exit 0)))) (.seq (.reg false [
  ⟨some 29, .fieldA 1 (.t 6), none, []⟩,
  ⟨none, .store 1 (.t 29) (.c (.int .i64 249)), none, []⟩]) (.exit 0)))) (.seq (.reg false [
  ⟨some 30, .mv (.t 1), none, []⟩,
  ⟨some 31, .bin .sub (.t 30) (.c (.int .i64 1)), none, []⟩,
  ⟨some 32, .fieldA 1 (.t 6), none, []⟩,
  ⟨none, .store 1 (.t 32) (.t 31), none, []⟩,
  ⟨some 33, .fieldA 1 (.t 7), none, []⟩,
  ⟨none, .store 1 (.t 33) (.c (.int .i64 250)), none, []⟩]) (.exit 0)))) (.reg false [
  ⟨some 34, .mv (.t 2), none, []⟩,
  ⟨some 35, .fieldA 1 (.t 7), none, []⟩,
  ⟨none, .store 1 (.t 35) (.t 34), none, []⟩]))) (.seq (.reg false [
  ⟨some 36, .fieldA 1 (.t 6), none, []⟩,
  ⟨none, .store 1 (.t 36) (.c (.int .i64 4)), none, []⟩]) (.exit 0)))) (.seq (.reg false [
  ⟨some 37, .mv (.t 2), none, []⟩,
  ⟨some 38, .fieldA 1 (.t 6), none, []⟩,
  ⟨none, .store 1 (.t 38) (.t 37), none, []⟩]) (.exit 0)))) (.seq (.reg false [
  ⟨some 39, .fieldA 1 (.t 6), none, []⟩,
  ⟨none, .store 1 (.t 39) (.c (.int .i64 2)), none, []⟩,
  ⟨some 40, .fieldA 1 (.t 7), none, []⟩,
  ⟨none, .store 1 (.t 40) (.c (.int .i64 9)), none, []⟩]) (.exit 0))))) (.seq (.regW [
  ⟨some 41, .load true 2 (.t 6), none, []⟩,
  ⟨some 42, .load true 2 (.t 7), none, []⟩,
  ⟨none, .store 2 (.t 6) (.t 41), none, [0]⟩,
  ⟨none, .store 2 (.t 7) (.t 42), none, [1, 2, 0]⟩]) (.ret))))⟩
def h32 : Hint := { cb := [3, 2], ps := [], cp := [65, 54, 43], cs := [], ap := [], ls := [] }
def c32 : AF := ⟨2, 70, [.tmp 4],
 (.seq (.reg false [
  ⟨some 2, .boxc (.t 0), none, []⟩,
  ⟨some 3, .boxc (.t 1), none, []⟩,
  ⟨some 4, .mv (.c (.bool false)), none, []⟩]) (.seq (.reg false [
  ⟨some 5, .mv (.c (.int .i64 0)), none, []⟩]) (.seq (.seq (.reg false [
  ⟨some 6, .fieldA 0 (.t 3), none, []⟩,
  ⟨some 7, .load false 1 (.t 6), none, []⟩]) (.block 0 (.seq (.reg false [
  ⟨some 12, .bin .eql (.t 7) (.c (.int .i64 5)), none, []⟩,
  ⟨some 11, .mv (.t 12), none, []⟩]) (.cond (.t 11) (.seq (.reg false [
  ⟨some 13, .fieldA 3 (.t 3), none, []⟩,
  ⟨some 14, .load false 1 (.t 13), none, []⟩,
  ⟨some 15, .bin .eql (.t 14) (.c (.str [43])), none, []⟩,
  ⟨some 16, .mv (.t 15), none, []⟩,
  ⟨some 17, .fieldA 3 (.t 3), some (16, false), []⟩,
  ⟨some 18, .load false 1 (.t 17), some (16, false), []⟩,
  ⟨some 19, .bin .eql (.t 18) (.c (.str [45])), some (16, false), []⟩,
  ⟨some 20, .pick (.t 16) (.c (.bool true)) (.t 19), none, []⟩,
  ⟨some 21, .mv (.t 20), none, []⟩,
  ⟨some 22, .fieldA 3 (.t 3), some (21, false), []⟩,
  ⟨some 23, .load false 1 (.t 22), some (21, false), []⟩,
  ⟨some 24, .bin .eql (.t 23) (.c (.str [42])), some (21, false), []⟩,
  ⟨some 25, .pick (.t 21) (.c (.bool true)) (.t 24), none, []⟩,
  ⟨some 26, .mv (.t 25), none, []⟩,
  ⟨some 27, .fieldA 3 (.t 3), some (26, false), []⟩,
  ⟨some 28, .load false 1 (.t 27), some (26, false), []⟩,
  ⟨some 29, .bin .eql (.t 28) (.c (.str [60])), some (26, false), []⟩,
  ⟨some 30, .pick (.t 26) (.c (.bool true)) (.t 29), none, []⟩,
  ⟨some 31, .mv (.t 30), none, []⟩,
  ⟨some 32, .fieldA 3 (.t 3), some (31, false), []⟩,
  ⟨some 33, .load false 1 (.t 32), some (31, false), []⟩,
  ⟨some 34, .bin .eql (.t 33) (.c (.str [61, 61])), some (31, false), []⟩,
  ⟨some 35, .pick (.t 31) (.c (.bool true)) (.t 34), none, []⟩,
  ⟨some 4, .mv (.t 35), none, []⟩]) (.ret)) (.seq (.seq (.reg false [
  ⟨some 37, .bin .eql (.t 7) (.c (.int .i64 9)), none, []⟩,
  ⟨some 36, .mv (.t 37), none, []⟩]) (.cond (.t 36) (.skip) (.reg false [
  ⟨some 38, .bin .eql (.t 7) (.c (.int .i64 12)), none, []⟩,
  ⟨some 36, .mv (.t 38), none, []⟩]))) (.cond (.t 36) (.reg false [
  ⟨some 40, .load true 10 (.t 2), none, []⟩,
  ⟨some 41, .fieldA 3 (.t 3), none, []⟩,
  ⟨some 42, .load false 1 (.t 41), none, []⟩,
  ⟨some 43, .callP false (.f 50) [(.t 40), (.t 42)], none, []⟩,
  ⟨some 39, .mv (.t 43), none, []⟩,
  ⟨some 44, .extract (.t 39) 0, none, []⟩,
  ⟨some 45, .extract (.t 39) 1, none, []⟩,
  ⟨some 46, .extract (.t 39) 2, none, []⟩,
  ⟨some 5, .mv (.t 46), none, []⟩]) (.seq (.seq (.reg false [
  ⟨some 48, .bin .eql (.t 7) (.c (.int .i64 14)), none, []⟩,
  ⟨some 47, .mv (.t 48), none, []⟩]) (.cond (.t 47) (.skip) (.reg false [
  ⟨some 49, .bin .eql (.t 7) (.c (.int .i64 15)), none, []⟩,
  ⟨some 47, .mv (.t 49), none, []⟩]))) (.cond (.t 47) (.reg false [
  ⟨some 51, .load true 10 (.t 2), none, []⟩,
  ⟨some 52, .fieldA 3 (.t 3), none, []⟩,
  ⟨some 53, .load false 1 (.t 52), none, []⟩,
  ⟨some 54, .callP false (.f 51) [(.t 51), (.t 53)], none, []⟩,
  ⟨some 50, .mv (.t 54), none, []⟩,
  ⟨some 55, .extract (.t 50) 0, none, []⟩,
  ⟨some 56, .extract (.t 50) 1, none, []⟩,
  ⟨some 57, .extract (.t 50) 2, none, []⟩,
  ⟨some 5, .mv (.t 57), none, []⟩]) (.seq (.seq (.reg false [
  ⟨some 59, .bin .eql (.t 7) (.c (.int .i64 16)), none, []⟩,
  ⟨some 58, .mv (.t 59), none, []⟩]) (.cond (.t 58) (.skip) (.reg false [
  ⟨some 60, .bin .eql (.t 7) (.c (.int .i64 17)), none, []⟩,
  ⟨some 58, .mv (.t 60), none, []⟩]))) (.cond (.t 58) (.reg false [
  ⟨some 62, .load true 10 (.t 2), none, []⟩,
  ⟨some 63, .fieldA 3 (.t 3), none, []⟩,
  ⟨some 64, .load false 1 (.t 63), none, []⟩,
  ⟨some 65, .callP false (.f 52) [(.t 62), (.t 64)], none, []⟩,
  ⟨some 61, .mv (.t 65), none, []⟩,
  ⟨some 66, .extract (.t 61) 0, none, []⟩,
  ⟨some 67, .extract (.t 61) 1, none, []⟩,
  ⟨some 5, .mv (.t 67), none, []⟩]) (.seq (.reg false [
  ⟨some 8, .fieldA 3 (.t 3), none, []⟩,
  ⟨some 9, .load false 1 (.t 8), none, []⟩,
  ⟨some 10, .bin .eql (.t 9) (.c (.str [])), none, []⟩,
  ⟨some 4, .mv (.t 10), none, []⟩]) (.ret)))))))))))) (.seq (.reg false [
  ⟨some 68, .mv (.t 5), none, []⟩,
  ⟨some 69, .bin .eql (.t 68) (.c (.int .i64 0)), none, []⟩,
  ⟨some 4, .mv (.t 69), none, []⟩]) (.ret)))))⟩
def h33 : Hint := { cb := [3, 2], ps := [14, 12, 10, 6, 5], cp := [67], cs := [78, 63], ap := [], ls := [] }
def c33 : AF := ⟨2, 122, [.tmp 4],
 (.seq (.reg false [
  ⟨some 2, .boxc (.t 0), none, []⟩,
  ⟨some 3, .boxc (.t 1), none, []⟩,
  ⟨some 4, .mv (.c (.slice 0 [] .full)), none, []⟩]) (.seq (.reg false [
  ⟨some 16, .fieldA 0 (.t 2), none, []⟩,
  ⟨some 17, .fieldA 2 (.t 16), none, []⟩,
  ⟨some 18, .load false 1 (.t 17), none, []⟩,
  ⟨some 19, .load false 1 (.t 3), none, []⟩,
  ⟨some 20, .idxS 5 (.t 18) (.t 19), none, []⟩,
  ⟨some 21, .load true 5 (.t 20), none, []⟩,
  ⟨some 5, .pend [(.int .i64 0), (.int .i64 0), (.int .i64 0), (.bool false), (.slice 0 [] .full)], none, []⟩,
  ⟨none, .shut 5 5 (.t 21), none, []⟩]) (.seq (.reg false [
  ⟨some 22, .mkFunc 53 [] [(.t 3)], none, []⟩,
  ⟨some 6, .pend [.nilfunc], none, []⟩,
  ⟨none, .shut 6 1 (.t 22), none, []⟩]) (.seq (.seq (.reg false [
  ⟨some 23, .fieldA 4 (.t 5), none, []⟩,
  ⟨some 24, .load false 1 (.t 23), none, []⟩,
  ⟨some 25, .lenS (.t 24), none, []⟩,
  ⟨some 26, .bin .eql (.t 25) (.c (.int .i64 0)), none, []⟩]) (.cond (.t 26) (.reg false [
  ⟨some 27, .load false 1 (.t 6), none, []⟩,
  ⟨some 28, .call (.t 27) [(.c (.int .i64 0)), (.c (.int .i64 6))], none, []⟩]) (.skip))) (.seq (.reg false [
  ⟨some 29, .fieldA 4 (.t 5), none, []⟩,
  ⟨some 30, .load false 1 (.t 29), none, []⟩,
  ⟨some 31, .lenS (.t 30), none, []⟩,
  ⟨some 32, .mkSlice 1 8 [(.int .i64 0)] (.t 31) (.t 31), none, []⟩,
  ⟨some 7, .alloc [(.slice 0 [] .full)], none, []⟩,
  ⟨none, .store 1 (.t 7) (.t 32), none, []⟩]) (.seq (.seq (.reg false [
  ⟨some 33, .load false 1 (.t 7), none, []⟩,
  ⟨some 34, .lenS (.t 33), none, []⟩,
  ⟨some 35, .mv (.c (.int .i64 0)), none, []⟩]) (.block 0 (.loop (.seq (.reg false [
  ⟨some 36, .bin .lss (.t 35) (.t 34), none, []⟩]) (.seq (.cond (.t 36) (.skip) (.exit 0)) (.seq (.block 1 (.seq (.reg false [
  ⟨some 37, .mv (.t 35), none, []⟩,
  ⟨some 8, .mv (.t 37), none, []⟩]) (.reg false [
  ⟨some 38, .load false 1 (.t 7), none, []⟩,
  ⟨some 39, .mv (.t 8), none, []⟩,
  ⟨some 40, .idxS 1 (.t 38) (.t 39), none, []⟩,
  ⟨none, .store 1 (.t 40) (.c (.int .i64 (-1))), none, []⟩]))) (.reg false [
  ⟨some 41, .bin .add (.t 35) (.c (.int .i64 1)), none, []⟩,
  ⟨some 35, .mv (.t 41), none, []⟩]))))))) (.seq (.reg false [
  ⟨some 9, .alloc [(.slice 0 [] .full)], none, []⟩]) (.seq (.reg false [
  ⟨some 42, .mkFunc 54 [(.t 9)] [], none, []⟩,
  ⟨some 10, .pend [.nilfunc], none, []⟩,
  ⟨none, .shut 10 1 (.t 42), none, []⟩]) (.seq (.reg false [
  ⟨some 43, .load false 1 (.t 7), none, []⟩,
  ⟨some 44, .idxS 1 (.t 43) (.c (.int .i64 0)), none, []⟩,
  ⟨none, .store 1 (.t 44) (.c (.int .i64 0)), none, []⟩]) (.seq (.reg false [
  ⟨some 45, .load false 1 (.t 10), none, []⟩,
  ⟨some 46, .call (.t 45) [(.c (.int .i64 0))], none, []⟩]) (.seq (.seq (.reg false [
  ⟨some 47, .call (.f 55) [(.t 9)], none, []⟩]) (.block 2 (.rangeF (.t 47) [48] (.reg false [
  ⟨some 11, .mv (.t 48), none, []⟩]) (.block 3 (.seq (.reg false [
  ⟨some 49, .fieldA 4 (.t 5), none, []⟩,
  ⟨some 50, .load false 1 (.t 49), none, []⟩,
  ⟨some 51, .mv (.t 11), none, []⟩,
  ⟨some 52, .idxS 4 (.t 50) (.t 51), none, []⟩,
  ⟨some 53, .load true 4 (.t 52), none, []⟩,
  ⟨some 12, .pend [(.int .i64 0), (.int .i64 0), (.int .i64 0), (.str [])], none, []⟩,
  ⟨none, .shut 12 4 (.t 53), none, []⟩]) (.seq (.reg true [
  ⟨some 54, .load false 1 (.t 6), none, []⟩,
  ⟨some 55, .mv (.t 11), none, []⟩,
  ⟨some 56, .load true 3 (.t 2), none, []⟩,
  ⟨some 57, .load true 5 (.t 5), none, []⟩,
  ⟨some 58, .load true 4 (.t 12), none, []⟩,
  ⟨some 59, .load false 1 (.t 7), none, []⟩,
  ⟨some 60, .mv (.t 11), none, []⟩,
  ⟨some 61, .idxS 1 (.t 59) (.t 60), none, [5, 6]⟩,
  ⟨some 62, .load false 1 (.t 61), none, [7, 5, 6]⟩,
  ⟨some 63, .callP true (.f 56) [(.t 56), (.t 57), (.t 58), (.t 62)], none, [2, 3, 4, 8, 7, 5, 6]⟩,
  ⟨some 64, .call (.t 54) [(.t 55), (.t 63)], none, [0, 1, 9, 2, 3, 4, 8, 7, 5, 6]⟩]) (.seq (.reg false [
  ⟨some 65, .mv (.t 11), none, []⟩,
  ⟨some 66, .load true 4 (.t 12), none, []⟩,
  ⟨some 67, .callP false (.f 57) [(.t 65), (.t 66)], none, []⟩,
  ⟨some 68, .lenS (.t 67), none, []⟩,
  ⟨some 69, .mv (.c (.int .i64 0)), none, []⟩]) (.block 4 (.loop (.seq (.reg false [
  ⟨some 70, .bin .lss (.t 69) (.t 68), none, []⟩]) (.seq (.cond (.t 70) (.skip) (.exit 4)) (.seq (.block 5 (.seq (.reg false [
  ⟨some 71, .idxS 2 (.t 67) (.t 69), none, []⟩,
  ⟨some 72, .load true 2 (.t 71), none, []⟩,
  ⟨some 14, .pend [(.int .i64 0), (.int .i64 0)], none, []⟩,
  ⟨none, .shut 14 2 (.t 72), none, []⟩]) (.seq (.reg true [
  ⟨some 73, .load false 1 (.t 7), none, []⟩,
  ⟨some 74, .mv (.t 11), none, []⟩,
  ⟨some 75, .idxS 1 (.t 73) (.t 74), none, [0, 1]⟩,
  ⟨some 76, .load false 1 (.t 75), none, [2, 0, 1]⟩,
  ⟨some 77, .load true 4 (.t 12), none, []⟩,
  ⟨some 78, .callP true (.f 58) [(.t 77)], none, [4]⟩,
  ⟨some 79, .bin .sub (.t 76) (.t 78), none, [3, 2, 0, 1, 5, 4]⟩,
  ⟨some 80, .fieldA 1 (.t 14), none, []⟩,
  ⟨some 81, .load false 1 (.t 80), none, [7]⟩,
  ⟨some 82, .bin .add (.t 79) (.t 81), none, [6, 3, 2, 0, 1, 5, 4, 8, 7]⟩,
  ⟨some 15, .mv (.t 82), none, [9, 6, 3, 2, 0, 1, 5, 4, 8, 7]⟩]) (.block 6 (.seq (.reg false [
  ⟨some 84, .fieldA 0 (.t 14), none, []⟩,
  ⟨some 85, .load false 1 (.t 84), none, []⟩,
  ⟨some 86, .fieldA 4 (.t 5), none, []⟩,
  ⟨some 87, .load false 1 (.t 86), none, []⟩,
  ⟨some 88, .lenS (.t 87), none, []⟩,
  ⟨some 89, .bin .geq (.t 85) (.t 88), none, []⟩,
  ⟨some 83, .mv (.t 89), none, []⟩]) (.cond (.t 83) (.reg false [
  ⟨some 90, .load false 1 (.t 6), none, []⟩,
  ⟨some 91, .mv (.t 11), none, []⟩,
  ⟨some 92, .call (.t 90) [(.t 91), (.c (.int .i64 6))], none, []⟩]) (.seq (.reg false [
  ⟨some 94, .load false 1 (.t 7), none, []⟩,
  ⟨some 95, .fieldA 0 (.t 14), none, []⟩,
  ⟨some 96, .load false 1 (.t 95), none, []⟩,
  ⟨some 97, .idxS 1 (.t 94) (.t 96), none, []⟩,
  ⟨some 98, .load false 1 (.t 97), none, []⟩,
  ⟨some 99, .bin .lss (.t 98) (.c (.int .i64 0)), none, []⟩,
  ⟨some 93, .mv (.t 99), none, []⟩]) (.cond (.t 93) (.seq (.reg false [
  ⟨some 100, .load false 1 (.t 7), none, []⟩,
  ⟨some 101, .fieldA 0 (.t 14), none, []⟩,
  ⟨some 102, .load false 1 (.t 101), none, []⟩,
  ⟨some 103, .mv (.t 15), none, []⟩,
  ⟨some 104, .idxS 1 (.t 100) (.t 102), none, []⟩,
  ⟨none, .store 1 (.t 104) (.t 103), none, []⟩]) (.reg false [
  ⟨some 105, .load false 1 (.t 10), none, []⟩,
  ⟨some 106, .fieldA 0 (.t 14), none, []⟩,
  ⟨some 107, .load false 1 (.t 106), none, []⟩,
  ⟨some 108, .call (.t 105) [(.t 107)], none, []⟩])) (.seq (.reg false [
  ⟨some 110, .load false 1 (.t 7), none, []⟩,
  ⟨some 111, .fieldA 0 (.t 14), none, []⟩,
  ⟨some 112, .load false 1 (.t 111), none, []⟩,
  ⟨some 113, .idxS 1 (.t 110) (.t 112), none, []⟩,
  ⟨some 114, .load false 1 (.t 113), none, []⟩,
  ⟨some 115, .mv (.t 15), none, []⟩,
  ⟨some 116, .bin .neq (.t 114) (.t 115), none, []⟩,
  ⟨some 109, .mv (.t 116), none, []⟩]) (.cond (.t 109) (.reg false [
  ⟨some 117, .load false 1 (.t 6), none, []⟩,
  ⟨some 118, .mv (.t 11), none, []⟩,
  ⟨some 119, .call (.t 117) [(.t 118), (.c (.int .i64 13))], none, []⟩]) (.skip))))))))))) (.reg false [
  ⟨some 120, .bin .add (.t 69) (.c (.int .i64 1)), none, []⟩,
  ⟨some 69, .mv (.t 120), none, []⟩]))))))))))))) (.seq (.reg false [
  ⟨some 121, .load false 1 (.t 7), none, []⟩,
  ⟨some 4, .mv (.t 121), none, []⟩]) (.ret)))))))))))))⟩
def h34 : Hint := { cb := [2], ps := [12, 9, 6, 5], cp := [101, 98, 67, 60, 40], cs := [49], ap := [], ls := [] }
def c34 : AF := ⟨2, 112, [.tmp 4],
 (.seq (.reg false [
  ⟨some 2, .boxc (.t 0), none, []⟩,
  ⟨some 4, .mv (.c .nilmap), none, []⟩]) (.seq (.reg false [
  ⟨some 18, .fieldA 0 (.t 2), none, []⟩,
  ⟨some 19, .fieldA 2 (.t 18), none, []⟩,
  ⟨some 20, .load false 1 (.t 19), none, []⟩,
  ⟨some 21, .mv (.t 1), none, []⟩,
  ⟨some 22, .idxS 5 (.t 20) (.t 21), none, []⟩,
  ⟨some 23, .load true 5 (.t 22), none, []⟩,
  ⟨some 5, .pend [(.int .i64 0), (.int .i64 0), (.int .i64 0), (.bool false), (.slice 0 [] .full)], none, []⟩,
  ⟨none, .shut 5 5 (.t 23), none, []⟩]) (.seq (.reg false [
  ⟨some 24, .mkMap, none, []⟩,
  ⟨some 25, .bslice 1 0 [(.int .i64 0)] [], none, []⟩,
  ⟨none, .mapSet .int (.t 24) (.c (.int .i64 0)) (.t 25), none, []⟩,
  ⟨some 26, .mv (.t 24), none, []⟩,
  ⟨some 6, .pend [.nilmap], none, []⟩,
  ⟨none, .shut 6 1 (.t 26), none, []⟩]) (.seq (.reg false [
  ⟨some 7, .alloc [(.slice 0 [] .full)], none, []⟩]) (.seq (.reg false [
  ⟨some 27, .call (.f 54) [(.t 7), (.c (.int .i64 0))], none, []⟩]) (.seq (.seq (.reg false [
  ⟨some 28, .call (.f 55) [(.t 7)], none, []⟩]) (.block 0 (.rangeF (.t 28) [29] (.reg false [
  ⟨some 8, .mv (.t 29), none, []⟩]) (.block 1 (.seq (.reg false [
  ⟨some 30, .fieldA 4 (.t 5), none, []⟩,
  ⟨some 31, .load false 1 (.t 30), none, []⟩,
  ⟨some 32, .mv (.t 8), none, []⟩,
  ⟨some 33, .idxS 4 (.t 31) (.t 32), none, []⟩,
  ⟨some 34, .load true 4 (.t 33), none, []⟩,
  ⟨some 9, .pend [(.int .i64 0), (.int .i64 0), (.int .i64 0), (.str [])], none, []⟩,
  ⟨none, .shut 9 4 (.t 34), none, []⟩]) (.seq (.reg false [
  ⟨some 35, .load false 1 (.t 6), none, []⟩,
  ⟨some 36, .mv (.t 8), none, []⟩,
  ⟨some 37, .lookup false .int (.slice 0 [] .full) (.t 35) (.t 36), none, []⟩,
  ⟨some 10, .mv (.t 37), none, []⟩]) (.seq (.reg false [
  ⟨some 38, .mv (.t 8), none, []⟩,
  ⟨some 39, .load true 4 (.t 9), none, []⟩,
  ⟨some 40, .callP false (.f 57) [(.t 38), (.t 39)], none, []⟩,
  ⟨some 41, .lenS (.t 40), none, []⟩,
  ⟨some 42, .mv (.c (.int .i64 0)), none, []⟩]) (.block 2 (.loop (.seq (.reg false [
  ⟨some 43, .bin .lss (.t 42) (.t 41), none, []⟩]) (.seq (.cond (.t 43) (.skip) (.exit 2)) (.seq (.block 3 (.seq (.reg false [
  ⟨some 44, .idxS 2 (.t 40) (.t 42), none, []⟩,
  ⟨some 45, .load true 2 (.t 44), none, []⟩,
  ⟨some 12, .pend [(.int .i64 0), (.int .i64 0)], none, []⟩,
  ⟨none, .shut 12 2 (.t 45), none, []⟩]) (.seq (.reg true [
  ⟨some 46, .mv (.t 10), none, []⟩,
  ⟨some 47, .lenS (.t 46), none, [0]⟩,
  ⟨some 48, .load true 4 (.t 9), none, []⟩,
  ⟨some 49, .callP true (.f 58) [(.t 48)], none, [2]⟩,
  ⟨some 50, .bin .sub (.t 47) (.t 49), none, [1, 0, 3, 2]⟩,
  ⟨some 51, .fieldA 1 (.t 12), none, []⟩,
  ⟨some 52, .load false 1 (.t 51), none, [5]⟩,
  ⟨some 53, .bin .add (.t 50) (.t 52), none, [4, 1, 0, 3, 2, 6, 5]⟩,
  ⟨some 54, .mkSlice 1 8 [(.int .i64 0)] (.t 53) (.t 53), none, [7, 4, 1, 0, 3, 2, 6, 5]⟩,
  ⟨some 13, .mv (.t 54), none, [8, 7, 4, 1, 0, 3, 2, 6, 5]⟩]) (.seq (.reg false [
  ⟨some 55, .mv (.t 13), none, []⟩,
  ⟨some 56, .mv (.t 10), none, []⟩,
  ⟨some 57, .mv (.t 10), none, []⟩,
  ⟨some 58, .lenS (.t 57), none, []⟩,
  ⟨some 59, .load true 4 (.t 9), none, []⟩,
  ⟨some 60, .callP false (.f 58) [(.t 59)], none, []⟩,
  ⟨some 61, .bin .sub (.t 58) (.t 60), none, []⟩,
  ⟨some 62, .cutS 1 (.t 56) none (some (.t 61)) none, none, []⟩,
  ⟨some 63, .copy 1 (.t 55) (.t 62), none, []⟩]) (.seq (.seq (.reg false [
  ⟨some 64, .mv (.t 10), none, []⟩,
  ⟨some 65, .lenS (.t 64), none, []⟩,
  ⟨some 66, .load true 4 (.t 9), none, []⟩,
  ⟨some 67, .callP false (.f 58) [(.t 66)], none, []⟩,
  ⟨some 68, .bin .sub (.t 65) (.t 67), none, []⟩,
  ⟨some 14, .mv (.t 68), none, []⟩]) (.block 4 (.loop (.seq (.seq (.reg false [
  ⟨some 69, .mv (.t 14), none, []⟩,
  ⟨some 70, .mv (.t 13), none, []⟩,
  ⟨some 71, .lenS (.t 70), none, []⟩,
  ⟨some 72, .bin .lss (.t 69) (.t 71), none, []⟩]) (.cond (.t 72) (.skip) (.exit 4))) (.seq (.block 5 (.reg false [
  ⟨some 75, .mv (.t 13), none, []⟩,
  ⟨some 76, .mv (.t 14), none, []⟩,
  ⟨some 77, .idxS 1 (.t 75) (.t 76), none, []⟩,
  ⟨none, .store 1 (.t 77) (.c (.int .i64 (-1))), none, []⟩])) (.reg false [
  ⟨some 73, .mv (.t 14), none, []⟩,
  ⟨some 74, .bin .add (.t 73) (.c (.int .i64 1)), none, []⟩,
  ⟨some 14, .mv (.t 74), none, []⟩])))))) (.seq (.seq (.reg false [
  ⟨some 78, .fieldA 0 (.t 9), none, []⟩,
  ⟨some 79, .load false 1 (.t 78), none, []⟩,
  ⟨some 80, .bin .eql (.t 79) (.c (.int .i64 6)), none, []⟩]) (.cond (.t 80) (.reg false [
  ⟨some 81, .mv (.t 13), none, []⟩,
  ⟨some 82, .mv (.t 13), none, []⟩,
  ⟨some 83, .lenS (.t 82), none, []⟩,
  ⟨some 84, .bin .sub (.t 83) (.c (.int .i64 1)), none, []⟩,
  ⟨some 85, .fieldA 1 (.t 9), none, []⟩,
  ⟨some 86, .load false 1 (.t 85), none, []⟩,
  ⟨some 87, .idxS 1 (.t 81) (.t 84), none, []⟩,
  ⟨none, .store 1 (.t 87) (.t 86), none, []⟩]) (.skip))) (.seq (.seq (.reg false [
  ⟨some 89, .load false 1 (.t 6), none, []⟩,
  ⟨some 90, .fieldA 0 (.t 12), none, []⟩,
  ⟨some 91, .load false 1 (.t 90), none, []⟩,
  ⟨some 92, .lookup true .int (.slice 0 [] .full) (.t 89) (.t 91), none, []⟩,
  ⟨some 88, .mv (.t 92), none, []⟩,
  ⟨some 93, .extract (.t 88) 0, none, []⟩,
  ⟨some 94, .extract (.t 88) 1, none, []⟩,
  ⟨some 15, .mv (.t 93), none, []⟩,
  ⟨some 16, .mv (.t 94), none, []⟩]) (.seq (.reg false [
  ⟨some 95, .mv (.t 16), none, []⟩]) (.cond (.t 95) (.seq (.reg false [
  ⟨some 96, .mv (.t 15), none, []⟩,
  ⟨some 97, .mv (.t 13), none, []⟩,
  ⟨some 98, .callP false (.f 59) [(.t 96), (.t 97)], none, []⟩,
  ⟨some 17, .mv (.t 98), none, []⟩]) (.seq (.seq (.reg false [
  ⟨some 99, .mv (.t 17), none, []⟩,
  ⟨some 100, .mv (.t 15), none, []⟩,
  ⟨some 101, .callP false (.f 60) [(.t 99), (.t 100)], none, []⟩]) (.cond (.t 101) (.exit 3) (.skip))) (.reg false [
  ⟨some 102, .mv (.t 17), none, []⟩,
  ⟨some 13, .mv (.t 102), none, []⟩]))) (.skip)))) (.seq (.reg false [
  ⟨some 103, .load false 1 (.t 6), none, []⟩,
  ⟨some 104, .fieldA 0 (.t 12), none, []⟩,
  ⟨some 105, .load false 1 (.t 104), none, []⟩,
  ⟨some 106, .mv (.t 13), none, []⟩,
  ⟨none, .mapSet .int (.t 103) (.t 105) (.t 106), none, []⟩]) (.reg false [
  ⟨some 107, .fieldA 0 (.t 12), none, []⟩,
  ⟨some 108, .load false 1 (.t 107), none, []⟩,
  ⟨some 109, .call (.f 54) [(.t 7), (.t 108)], none, []⟩]))))))))) (.reg false [
  ⟨some 110, .bin .add (.t 42) (.c (.int .i64 1)), none, []⟩,
  ⟨some 42, .mv (.t 110), none, []⟩]))))))))))))) (.seq (.reg false [
  ⟨some 111, .load false 1 (.t 6), none, []⟩,
  ⟨some 4, .mv (.t 111), none, []⟩]) (.ret))))))))⟩
def h35 : Hint := { cb := [4, 3], ps := [], cp := [52, 44, 23], cs := [], ap := [], ls := [] }
def c35 : AF := ⟨3, 53, [.tmp 6],
 (.seq (.reg false [
  ⟨some 3, .boxc (.t 0), none, []⟩,
  ⟨some 4, .boxc (.t 1), none, []⟩,
  ⟨some 6, .mv (.c (.bool false)), none, []⟩]) (.seq (.reg false [
  ⟨some 10, .mv (.t 2), none, []⟩,
  ⟨some 11, .lenS (.t 10), none, []⟩,
  ⟨some 12, .bin .sub (.t 11) (.c (.int .i64 1)), none, []⟩,
  ⟨some 7, .mv (.t 12), none, []⟩]) (.seq (.seq (.reg false [
  ⟨some 13, .fieldA 0 (.t 4), none, []⟩,
  ⟨some 14, .load false 1 (.t 13), none, []⟩]) (.block 0 (.seq (.seq (.reg false [
  ⟨some 16, .bin .eql (.t 14) (.c (.int .i64 17)), none, []⟩,
  ⟨some 15, .mv (.t 16), none, []⟩]) (.cond (.t 15) (.skip) (.reg false [
  ⟨some 17, .bin .eql (.t 14) (.c (.int .i64 18)), none, []⟩,
  ⟨some 15, .mv (.t 17), none, []⟩]))) (.cond (.t 15) (.seq (.reg true [
  ⟨some 18, .load true 3 (.t 3), none, []⟩,
  ⟨some 19, .mv (.t 2), none, []⟩,
  ⟨some 20, .mv (.t 7), none, []⟩,
  ⟨some 21, .idxS 1 (.t 19) (.t 20), none, [1, 2]⟩,
  ⟨some 22, .load false 1 (.t 21), none, [3, 1, 2]⟩,
  ⟨some 23, .callP false (.f 61) [(.t 18), (.t 22), (.c (.int .i64 1))], none, [0, 4, 3, 1, 2]⟩,
  ⟨some 6, .mv (.t 23), none, [5, 0, 4, 3, 1, 2]⟩]) (.ret)) (.seq (.reg false [
  ⟨some 25, .bin .eql (.t 14) (.c (.int .i64 16)), none, []⟩,
  ⟨some 24, .mv (.t 25), none, []⟩]) (.cond (.t 24) (.seq (.seq (.reg false [
  ⟨some 26, .mv (.t 2), none, []⟩,
  ⟨some 27, .mv (.t 7), none, []⟩,
  ⟨some 28, .fieldA 2 (.t 4), none, []⟩,
  ⟨some 29, .load false 1 (.t 28), none, []⟩,
  ⟨some 30, .bin .sub (.t 27) (.t 29), none, []⟩,
  ⟨some 31, .mv (.t 7), none, []⟩,
  ⟨some 32, .cutS 1 (.t 26) (some (.t 30)) (some (.t 31)) none, none, []⟩,
  ⟨some 33, .lenS (.t 32), none, []⟩,
  ⟨some 34, .mv (.c (.int .i64 0)), none, []⟩]) (.block 1 (.loop (.seq (.reg false [
  ⟨some 35, .bin .lss (.t 34) (.t 33), none, []⟩]) (.seq (.cond (.t 35) (.skip) (.exit 1)) (.seq (.block 2 (.seq (.reg false [
  ⟨some 36, .mv (.t 34), none, []⟩,
  ⟨some 37, .idxS 1 (.t 32) (.t 34), none, []⟩,
  ⟨some 38, .load false 1 (.t 37), none, []⟩,
  ⟨some 8, .mv (.t 36), none, []⟩,
  ⟨some 9, .mv (.t 38), none, []⟩]) (.seq (.reg false [
  ⟨some 39, .load true 3 (.t 3), none, []⟩,
  ⟨some 40, .mv (.t 9), none, []⟩,
  ⟨some 41, .mv (.t 8), none, []⟩,
  ⟨some 42, .bin .add (.t 41) (.c (.int .i64 1)), none, []⟩,
  ⟨some 43, .minmax false [(.t 42), (.c (.int .i64 2))], none, []⟩,
  ⟨some 44, .callP false (.f 61) [(.t 39), (.t 40), (.t 43)], none, []⟩,
  ⟨some 45, .un .not (.t 44), none, []⟩]) (.cond (.t 45) (.seq (.reg false [
  ⟨some 6, .mv (.c (.bool false)), none, []⟩]) (.ret)) (.skip))))) (.reg false [
  ⟨some 46, .bin .add (.t 34) (.c (.int .i64 1)), none, []⟩,
  ⟨some 34, .mv (.t 46), none, []⟩]))))))) (.seq (.reg true [
  ⟨some 47, .load true 3 (.t 3), none, []⟩,
  ⟨some 48, .mv (.t 2), none, []⟩,
  ⟨some 49, .mv (.t 7), none, []⟩,
  ⟨some 50, .idxS 1 (.t 48) (.t 49), none, [1, 2]⟩,
  ⟨some 51, .load false 1 (.t 50), none, [3, 1, 2]⟩,
  ⟨some 52, .callP false (.f 61) [(.t 47), (.t 51), (.c (.int .i64 1))], none, [0, 4, 3, 1, 2]⟩,
  ⟨some 6, .mv (.t 52), none, [5, 0, 4, 3, 1, 2]⟩]) (.ret))) (.skip))))))) (.seq (.reg false [
  ⟨some 6, .mv (.c (.bool true)), none, []⟩]) (.ret)))))⟩
def h36 : Hint := { cb := [], ps := [], cp := [29], cs := [], ap := [], ls := [] }
def c36 : AF := ⟨3, 49, [],
 (.seq (.reg false [
  ⟨some 8, .mv (.t 1), none, []⟩,
  ⟨some 9, .bin .add (.t 8) (.c (.int .i64 1)), none, []⟩,
  ⟨some 6, .mv (.t 9), none, []⟩]) (.block 0 (.loop (.seq (.seq (.reg false [
  ⟨some 10, .mv (.t 6), none, []⟩,
  ⟨some 11, .mv (.t 2), none, []⟩,
  ⟨some 12, .bin .lss (.t 10) (.t 11), none, []⟩]) (.cond (.t 12) (.skip) (.exit 0))) (.seq (.block 1 (.seq (.reg false [
  ⟨some 15, .mv (.t 6), none, []⟩,
  ⟨some 7, .mv (.t 15), none, []⟩]) (.block 2 (.loop (.seq (.seq (.reg true [
  ⟨some 16, .mv (.t 7), none, []⟩,
  ⟨some 17, .mv (.t 1), none, []⟩,
  ⟨some 18, .bin .gtr (.t 16) (.t 17), none, [0, 1]⟩,
  ⟨some 19, .mv (.t 18), none, [2, 0, 1]⟩,
  ⟨some 20, .mv (.t 0), some (19, true), [3, 2, 0, 1]⟩,
  ⟨some 21, .mv (.t 7), some (19, true), [3, 2, 0, 1]⟩,
  ⟨some 22, .idxS 1 (.t 20) (.t 21), some (19, true), [4, 3, 2, 0, 1, 5]⟩,
  ⟨some 23, .load false 1 (.t 22), some (19, true), [6, 4, 3, 2, 0, 1, 5]⟩,
  ⟨some 24, .mv (.t 0), some (19, true), [3, 2, 0, 1]⟩,
  ⟨some 25, .mv (.t 7), some (19, true), [3, 2, 0, 1]⟩,
  ⟨some 26, .bin .sub (.t 25) (.c (.int .i64 1)), some (19, true), [9, 3, 2, 0, 1]⟩,
  ⟨some 27, .idxS 1 (.t 24) (.t 26), some (19, true), [8, 3, 2, 0, 1, 10, 9]⟩,
  ⟨some 28, .load false 1 (.t 27), some (19, true), [11, 8, 3, 2, 0, 1, 10, 9]⟩,
  ⟨some 29, .callP false (.f 42) [(.t 23), (.t 28)], some (19, true), [7, 6, 4, 3, 2, 0, 1, 5, 12, 11, 8, 10, 9]⟩,
  ⟨some 30, .pick (.t 19) (.t 29) (.c (.bool false)), none, [3, 2, 0, 1, 13, 7, 6, 4, 5, 12, 11, 8, 10, 9]⟩]) (.cond (.t 30) (.skip) (.exit 2))) (.seq (.block 3 (.reg true [
  ⟨some 33, .mv (.t 0), none, []⟩,
  ⟨some 34, .mv (.t 7), none, []⟩,
  ⟨some 35, .mv (.t 0), none, []⟩,
  ⟨some 36, .mv (.t 7), none, []⟩,
  ⟨some 37, .bin .sub (.t 36) (.c (.int .i64 1)), none, [3]⟩,
  ⟨some 38, .mv (.t 0), none, []⟩,
  ⟨some 39, .mv (.t 7), none, []⟩,
  ⟨some 40, .bin .sub (.t 39) (.c (.int .i64 1)), none, [6]⟩,
  ⟨some 41, .idxS 1 (.t 38) (.t 40), none, [5, 7, 6]⟩,
  ⟨some 42, .load false 1 (.t 41), none, [8, 5, 7, 6]⟩,
  ⟨some 43, .mv (.t 0), none, []⟩,
  ⟨some 44, .mv (.t 7), none, []⟩,
  ⟨some 45, .idxS 1 (.t 43) (.t 44), none, [10, 11]⟩,
  ⟨some 46, .load false 1 (.t 45), none, [12, 10, 11]⟩,
  ⟨some 47, .idxS 1 (.t 33) (.t 34), none, [0, 1, 5, 6, 7, 8, 9, 13, 12, 10, 11]⟩,
  ⟨none, .store 1 (.t 47) (.t 42), none, [14, 0, 1, 5, 6, 7, 8, 9, 13, 12, 10, 11]⟩,
  ⟨some 48, .idxS 1 (.t 35) (.t 37), none, [2, 4, 3, 0, 1, 5, 6, 7, 8, 9, 10, 11, 12, 13, 14, 15]⟩,
  ⟨none, .store 1 (.t 48) (.t 46), none, [16, 2, 4, 3, 0, 1, 5, 6, 7, 8, 9, 10, 11, 12, 13, 14, 15]⟩])) (.reg false [
  ⟨some 31, .mv (.t 7), none, []⟩,
  ⟨some 32, .bin .sub (.t 31) (.c (.int .i64 1)), none, []⟩,
  ⟨some 7, .mv (.t 32), none, []⟩]))))))) (.reg false [
  ⟨some 13, .mv (.t 6), none, []⟩,
  ⟨some 14, .bin .add (.t 13) (.c (.int .i64 1)), none, []⟩,
  ⟨some 6, .mv (.t 14), none, []⟩]))))))⟩
def h37 : Hint := { cb := [], ps := [], cp := [55, 26], cs := [], ap := [], ls := [] }
def c37 : AF := ⟨3, 56, [],
 (.seq (.reg false [
  ⟨some 11, .mv (.t 1), none, []⟩,
  ⟨some 6, .mv (.t 11), none, []⟩]) (.seq (.reg false [
  ⟨some 7, .mv (.c (.int .i64 0)), none, []⟩]) (.seq (.reg false [
  ⟨some 12, .mv (.t 2), none, []⟩,
  ⟨some 13, .mv (.t 1), none, []⟩,
  ⟨some 14, .bin .sub (.t 12) (.t 13), none, []⟩,
  ⟨some 8, .mv (.t 14), none, []⟩]) (.seq (.seq (.reg false [
  ⟨some 15, .mv (.t 8), none, []⟩,
  ⟨some 16, .bin .sub (.t 15) (.c (.int .i64 1)), none, []⟩,
  ⟨some 17, .bin .quo (.t 16) (.c (.int .i64 2)), none, []⟩,
  ⟨some 9, .mv (.t 17), none, []⟩]) (.block 0 (.loop (.seq (.seq (.reg false [
  ⟨some 18, .mv (.t 9), none, []⟩,
  ⟨some 19, .bin .geq (.t 18) (.c (.int .i64 0)), none, []⟩]) (.cond (.t 19) (.skip) (.exit 0))) (.seq (.block 1 (.reg false [
  ⟨some 22, .mv (.t 0), none, []⟩,
  ⟨some 23, .mv (.t 9), none, []⟩,
  ⟨some 24, .mv (.t 8), none, []⟩,
  ⟨some 25, .mv (.t 6), none, []⟩,
  ⟨some 26, .callP false (.f 62) [(.t 22), (.t 23), (.t 24), (.t 25)], none, []⟩])) (.reg false [
  ⟨some 20, .mv (.t 9), none, []⟩,
  ⟨some 21, .bin .sub (.t 20) (.c (.int .i64 1)), none, []⟩,
  ⟨some 9, .mv (.t 21), none, []⟩])))))) (.seq (.reg false [
  ⟨some 27, .mv (.t 8), none, []⟩,
  ⟨some 28, .bin .sub (.t 27) (.c (.int .i64 1)), none, []⟩,
  ⟨some 10, .mv (.t 28), none, []⟩]) (.block 2 (.loop (.seq (.seq (.reg false [
  ⟨some 29, .mv (.t 10), none, []⟩,
  ⟨some 30, .bin .geq (.t 29) (.c (.int .i64 0)), none, []⟩]) (.cond (.t 30) (.skip) (.exit 2))) (.seq (.block 3 (.seq (.reg true [
  ⟨some 33, .mv (.t 0), none, []⟩,
  ⟨some 34, .mv (.t 6), none, []⟩,
  ⟨some 35, .mv (.t 0), none, []⟩,
  ⟨some 36, .mv (.t 6), none, []⟩,
  ⟨some 37, .mv (.t 10), none, []⟩,
  ⟨some 38, .bin .add (.t 36) (.t 37), none, [3, 4]⟩,
  ⟨some 39, .mv (.t 0), none, []⟩,
  ⟨some 40, .mv (.t 6), none, []⟩,
  ⟨some 41, .mv (.t 10), none, []⟩,
  ⟨some 42, .bin .add (.t 40) (.t 41), none, [7, 8]⟩,
  ⟨some 43, .idxS 1 (.t 39) (.t 42), none, [6, 9, 7, 8]⟩,
  ⟨some 44, .load false 1 (.t 43), none, [10, 6, 9, 7, 8]⟩,
  ⟨some 45, .mv (.t 0), none, []⟩,
  ⟨some 46, .mv (.t 6), none, []⟩,
  ⟨some 47, .idxS 1 (.t 45) (.t 46), none, [12, 13]⟩,
  ⟨some 48, .load false 1 (.t 47), none, [14, 12, 13]⟩,
  ⟨some 49, .idxS 1 (.t 33) (.t 34), none, [0, 1, 6, 7, 8, 9, 10, 11, 15, 14, 12, 13]⟩,
  ⟨none, .store 1 (.t 49) (.t 44), none, [16, 0, 1, 6, 7, 8, 9, 10, 11, 15, 14, 12, 13]⟩,
  ⟨some 50, .idxS 1 (.t 35) (.t 38), none, [2, 5, 3, 4, 0, 1, 6, 7, 8, 9, 10, 11, 12, 13, 14, 15, 16, 17]⟩,
  ⟨none, .store 1 (.t 50) (.t 48), none, [18, 2, 5, 3, 4, 0, 1, 6, 7, 8, 9, 10, 11, 12, 13, 14, 15, 16, 17]⟩]) (.reg false [
  ⟨some 51, .mv (.t 0), none, []⟩,
  ⟨some 52, .mv (.t 7), none, []⟩,
  ⟨some 53, .mv (.t 10), none, []⟩,
  ⟨some 54, .mv (.t 6), none, []⟩,
  ⟨some 55, .callP false (.f 62) [(.t 51), (.t 52), (.t 53), (.t 54)], none, []⟩]))) (.reg false [
  ⟨some 31, .mv (.t 10), none, []⟩,
  ⟨some 32, .bin .sub (.t 31) (.c (.int .i64 1)), none, []⟩,
  ⟨some 10, .mv (.t 32), none, []⟩]))))))))))⟩
def h38 : Hint := { cb := [], ps := [], cp := [19], cs := [], ap := [], ls := [] }
def c38 : AF := ⟨3, 65, [],
 (.seq (.reg false [
  ⟨some 11, .mv (.t 2), none, []⟩,
  ⟨some 12, .mv (.t 1), none, []⟩,
  ⟨some 13, .bin .sub (.t 11) (.t 12), none, []⟩,
  ⟨some 6, .mv (.t 13), none, []⟩]) (.seq (.reg false [
  ⟨some 14, .mv (.t 6), none, []⟩,
  ⟨some 15, .bin .geq (.t 14) (.c (.int .i64 8)), none, []⟩]) (.cond (.t 15) (.seq (.reg false [
  ⟨some 16, .mv (.t 6), none, []⟩,
  ⟨some 17, .toInt .u64 (.t 16), none, []⟩,
  ⟨some 7, .alloc [(.int .u64 0)], none, []⟩,
  ⟨none, .store 1 (.t 7) (.t 17), none, []⟩]) (.seq (.reg false [
  ⟨some 18, .mv (.t 6), none, []⟩,
  ⟨some 19, .callP false (.f 63) [(.t 18)], none, []⟩,
  ⟨some 8, .mv (.t 19), none, []⟩]) (.seq (.reg false [
  ⟨some 20, .mv (.t 1), none, []⟩,
  ⟨some 21, .mv (.t 6), none, []⟩,
  ⟨some 22, .bin .quo (.t 21) (.c (.int .i64 4)), none, []⟩,
  ⟨some 23, .bin .mul (.t 22) (.c (.int .i64 2)), none, []⟩,
  ⟨some 24, .bin .add (.t 20) (.t 23), none, []⟩,
  ⟨some 25, .bin .sub (.t 24) (.c (.int .i64 1)), none, []⟩,
  ⟨some 9, .mv (.t 25), none, []⟩]) (.block 0 (.loop (.seq (.seq (.reg false [
  ⟨some 26, .mv (.t 9), none, []⟩,
  ⟨some 27, .mv (.t 1), none, []⟩,
  ⟨some 28, .mv (.t 6), none, []⟩,
  ⟨some 29, .bin .quo (.t 28) (.c (.int .i64 4)), none, []⟩,
  ⟨some 30, .bin .mul (.t 29) (.c (.int .i64 2)), none, []⟩,
  ⟨some 31, .bin .add (.t 27) (.t 30), none, []⟩,
  ⟨some 32, .bin .add (.t 31) (.c (.int .i64 1)), none, []⟩,
  ⟨some 33, .bin .leq (.t 26) (.t 32), none, []⟩]) (.cond (.t 33) (.skip) (.exit 0))) (.seq (.block 1 (.seq (.reg false [
  ⟨some 36, .call (.f 64) [(.t 7)], none, []⟩,
  ⟨some 37, .mv (.t 8), none, []⟩,
  ⟨some 38, .bin .sub (.t 37) (.c (.int .u64 1)), none, []⟩,
  ⟨some 39, .bin .and (.t 36) (.t 38), none, []⟩,
  ⟨some 40, .toInt .i64 (.t 39), none, []⟩,
  ⟨some 10, .mv (.t 40), none, []⟩]) (.seq (.seq (.reg false [
  ⟨some 41, .mv (.t 10), none, []⟩,
  ⟨some 42, .mv (.t 6), none, []⟩,
  ⟨some 43, .bin .geq (.t 41) (.t 42), none, []⟩]) (.cond (.t 43) (.reg false [
  ⟨some 44, .mv (.t 10), none, []⟩,
  ⟨some 45, .mv (.t 6), none, []⟩,
  ⟨some 46, .bin .sub (.t 44) (.t 45), none, []⟩,
  ⟨some 10, .mv (.t 46), none, []⟩]) (.skip))) (.reg true [
  ⟨some 47, .mv (.t 0), none, []⟩,
  ⟨some 48, .mv (.t 9), none, []⟩,
  ⟨some 49, .mv (.t 0), none, []⟩,
  ⟨some 50, .mv (.t 1), none, []⟩,
  ⟨some 51, .mv (.t 10), none, []⟩,
  ⟨some 52, .bin .add (.t 50) (.t 51), none, [3, 4]⟩,
  ⟨some 53, .mv (.t 0), none, []⟩,
  ⟨some 54, .mv (.t 1), none, []⟩,
  ⟨some 55, .mv (.t 10), none, []⟩,
  ⟨some 56, .bin .add (.t 54) (.t 55), none, [7, 8]⟩,
  ⟨some 57, .idxS 1 (.t 53) (.t 56), none, [6, 9, 7, 8]⟩,
  ⟨some 58, .load false 1 (.t 57), none, [10, 6, 9, 7, 8]⟩,
  ⟨some 59, .mv (.t 0), none, []⟩,
  ⟨some 60, .mv (.t 9), none, []⟩,
  ⟨some 61, .idxS 1 (.t 59) (.t 60), none, [12, 13]⟩,
  ⟨some 62, .load false 1 (.t 61), none, [14, 12, 13]⟩,
  ⟨some 63, .idxS 1 (.t 47) (.t 48), none, [0, 1, 6, 7, 8, 9, 10, 11, 15, 14, 12, 13]⟩,
  ⟨none, .store 1 (.t 63) (.t 58), none, [16, 0, 1, 6, 7, 8, 9, 10, 11, 15, 14, 12, 13]⟩,
  ⟨some 64, .idxS 1 (.t 49) (.t 52), none, [2, 5, 3, 4, 0, 1, 6, 7, 8, 9, 10, 11, 12, 13, 14, 15, 16, 17]⟩,
  ⟨none, .store 1 (.t 64) (.t 62), none, [18, 2, 5, 3, 4, 0, 1, 6, 7, 8, 9, 10, 11, 12, 13, 14, 15, 16, 17]⟩])))) (.reg false [
  ⟨some 34, .mv (.t 9), none, []⟩,
  ⟨some 35, .bin .add (.t 34) (.c (.int .i64 1)), none, []⟩,
  ⟨some 9, .mv (.t 35), none, []⟩])))))))) (.skip))))⟩
def h39 : Hint := { cb := [], ps := [], cp := [], cs := [], ap := [], ls := [] }
def c39 : AF := ⟨3, 57, [.tmp 6, .tmp 7],
 (.seq (.reg false [
  ⟨some 6, .mv (.c (.int .i64 0)), none, []⟩,
  ⟨some 7, .mv (.c (.int .i64 0)), none, []⟩]) (.seq (.reg false [
  ⟨some 13, .mv (.t 2), none, []⟩,
  ⟨some 14, .mv (.t 1), none, []⟩,
  ⟨some 15, .bin .sub (.t 13) (.t 14), none, []⟩,
  ⟨some 8, .mv (.t 15), none, []⟩]) (.seq (.reg false [
  ⟨some 9, .alloc [(.int .i64 0)], none, []⟩]) (.seq (.reg false [
  ⟨some 16, .mv (.t 1), none, []⟩,
  ⟨some 17, .mv (.t 8), none, []⟩,
  ⟨some 18, .bin .quo (.t 17) (.c (.int .i64 4)), none, []⟩,
  ⟨some 19, .bin .mul (.t 18) (.c (.int .i64 1)), none, []⟩,
  ⟨some 20, .bin .add (.t 16) (.t 19), none, []⟩,
  ⟨some 10, .mv (.t 20), none, []⟩]) (.seq (.reg false [
  ⟨some 21, .mv (.t 1), none, []⟩,
  ⟨some 22, .mv (.t 8), none, []⟩,
  ⟨some 23, .bin .quo (.t 22) (.c (.int .i64 4)), none, []⟩,
  ⟨some 24, .bin .mul (.t 23) (.c (.int .i64 2)), none, []⟩,
  ⟨some 25, .bin .add (.t 21) (.t 24), none, []⟩,
  ⟨some 11, .mv (.t 25), none, []⟩]) (.seq (.reg false [
  ⟨some 26, .mv (.t 1), none, []⟩,
  ⟨some 27, .mv (.t 8), none, []⟩,
  ⟨some 28, .bin .quo (.t 27) (.c (.int .i64 4)), none, []⟩,
  ⟨some 29, .bin .mul (.t 28) (.c (.int .i64 3)), none, []⟩,
  ⟨some 30, .bin .add (.t 26) (.t 29), none, []⟩,
  ⟨some 12, .mv (.t 30), none, []⟩]) (.seq (.seq (.reg false [
  ⟨some 31, .mv (.t 8), none, []⟩,
  ⟨some 32, .bin .geq (.t 31) (.c (.int .i64 8)), none, []⟩]) (.cond (.t 32) (.seq (.seq (.reg false [
  ⟨some 33, .mv (.t 8), none, []⟩,
  ⟨some 34, .bin .geq (.t 33) (.c (.int .i64 50)), none, []⟩]) (.cond (.t 34) (.seq (.reg false [
  ⟨some 35, .mv (.t 0), none, []⟩,
  ⟨some 36, .mv (.t 10), none, []⟩,
  ⟨some 37, .call (.f 65) [(.t 35), (.t 36), (.t 9)], none, []⟩,
  ⟨some 10, .mv (.t 37), none, []⟩]) (.seq (.reg false [
  ⟨some 38, .mv (.t 0), none, []⟩,
  ⟨some 39, .mv (.t 11), none, []⟩,
  ⟨some 40, .call (.f 65) [(.t 38), (.t 39), (.t 9)], none, []⟩,
  ⟨some 11, .mv (.t 40), none, []⟩]) (.reg false [
  ⟨some 41, .mv (.t 0), none, []⟩,
  ⟨some 42, .mv (.t 12), none, []⟩,
  ⟨some 43, .call (.f 65) [(.t 41), (.t 42), (.t 9)], none, []⟩,
  ⟨some 12, .mv (.t 43), none, []⟩]))) (.skip))) (.reg false [
  ⟨some 44, .mv (.t 0), none, []⟩,
  ⟨some 45, .mv (.t 10), none, []⟩,
  ⟨some 46, .mv (.t 11), none, []⟩,
  ⟨some 47, .mv (.t 12), none, []⟩,
  ⟨some 48, .call (.f 66) [(.t 44), (.t 45), (.t 46), (.t 47), (.t 9)], none, []⟩,
  ⟨some 11, .mv (.t 48), none, []⟩])) (.skip))) (.seq (.reg false [
  ⟨some 49, .load false 1 (.t 9), none, []⟩]) (.block 0 (.seq (.reg false [
  ⟨some 52, .bin .eql (.t 49) (.c (.int .i64 0)), none, []⟩,
  ⟨some 51, .mv (.t 52), none, []⟩]) (.cond (.t 51) (.seq (.reg false [
  ⟨some 53, .mv (.t 11), none, []⟩,
  ⟨some 6, .mv (.t 53), none, []⟩,
  ⟨some 7, .mv (.c (.int .i64 1)), none, []⟩]) (.ret)) (.seq (.reg false [
  ⟨some 55, .bin .eql (.t 49) (.c (.int .i64 12)), none, []⟩,
  ⟨some 54, .mv (.t 55), none, []⟩]) (.cond (.t 54) (.seq (.reg false [
  ⟨some 56, .mv (.t 11), none, []⟩,
  ⟨some 6, .mv (.t 56), none, []⟩,
  ⟨some 7, .mv (.c (.int .i64 2)), none, []⟩]) (.ret)) (.seq (.reg false [
  ⟨some 50, .mv (.t 11), none, []⟩,
  ⟨some 6, .mv (.t 50), none, []⟩,
  ⟨some 7, .mv (.c (.int .i64 0)), none, []⟩]) (.ret)))))))))))))))⟩
def h40 : Hint := { cb := [], ps := [], cp := [], cs := [], ap := [], ls := [] }
def c40 : AF := ⟨3, 32, [],
 (.seq (.reg false [
  ⟨some 8, .mv (.t 1), none, []⟩,
  ⟨some 6, .mv (.t 8), none, []⟩]) (.seq (.reg false [
  ⟨some 9, .mv (.t 2), none, []⟩,
  ⟨some 10, .bin .sub (.t 9) (.c (.int .i64 1)), none, []⟩,
  ⟨some 7, .mv (.t 10), none, []⟩]) (.block 0 (.loop (.seq (.seq (.reg false [
  ⟨some 11, .mv (.t 6), none, []⟩,
  ⟨some 12, .mv (.t 7), none, []⟩,
  ⟨some 13, .bin .lss (.t 11) (.t 12), none, []⟩]) (.cond (.t 13) (.skip) (.exit 0))) (.block 1 (.seq (.reg true [
  ⟨some 14, .mv (.t 0), none, []⟩,
  ⟨some 15, .mv (.t 6), none, []⟩,
  ⟨some 16, .mv (.t 0), none, []⟩,
  ⟨some 17, .mv (.t 7), none, []⟩,
  ⟨some 18, .mv (.t 0), none, []⟩,
  ⟨some 19, .mv (.t 7), none, []⟩,
  ⟨some 20, .idxS 1 (.t 18) (.t 19), none, [4, 5]⟩,
  ⟨some 21, .load false 1 (.t 20), none, [6, 4, 5]⟩,
  ⟨some 22, .mv (.t 0), none, []⟩,
  ⟨some 23, .mv (.t 6), none, []⟩,
  ⟨some 24, .idxS 1 (.t 22) (.t 23), none, [8, 9]⟩,
  ⟨some 25, .load false 1 (.t 24), none, [10, 8, 9]⟩,
  ⟨some 26, .idxS 1 (.t 14) (.t 15), none, [0, 1, 4, 5, 6, 7, 11, 10, 8, 9]⟩,
  ⟨none, .store 1 (.t 26) (.t 21), none, [12, 0, 1, 4, 5, 6, 7, 11, 10, 8, 9]⟩,
  ⟨some 27, .idxS 1 (.t 16) (.t 17), none, [2, 3, 0, 1, 4, 5, 6, 7, 8, 9, 10, 11, 12, 13]⟩,
  ⟨none, .store 1 (.t 27) (.t 25), none, [14, 2, 3, 0, 1, 4, 5, 6, 7, 8, 9, 10, 11, 12, 13]⟩]) (.seq (.reg false [
  ⟨some 28, .mv (.t 6), none, []⟩,
  ⟨some 29, .bin .add (.t 28) (.c (.int .i64 1)), none, []⟩,
  ⟨some 6, .mv (.t 29), none, []⟩]) (.reg false [
  ⟨some 30, .mv (.t 7), none, []⟩,
  ⟨some 31, .bin .sub (.t 30) (.c (.int .i64 1)), none, []⟩,
  ⟨some 7, .mv (.t 31), none, []⟩])))))))))⟩
def h41 : Hint := { cb := [], ps := [], cp := [115, 77, 30], cs := [], ap := [], ls := [] }
def c41 : AF := ⟨3, 133, [.tmp 6],
 (.seq (.reg false [
  ⟨some 6, .mv (.c (.bool false)), none, []⟩]) (.seq (.reg false [
  ⟨some 11, .mv (.t 1), none, []⟩,
  ⟨some 12, .bin .add (.t 11) (.c (.int .i64 1)), none, []⟩,
  ⟨some 7, .mv (.t 12), none, []⟩]) (.seq (.seq (.reg false [
  ⟨some 8, .mv (.c (.int .i64 0)), none, []⟩]) (.block 0 (.loop (.seq (.seq (.reg false [
  ⟨some 13, .mv (.t 8), none, []⟩,
  ⟨some 14, .bin .lss (.t 13) (.c (.int .i64 5)), none, []⟩]) (.cond (.t 14) (.skip) (.exit 0))) (.seq (.block 1 (.seq (.block 2 (.loop (.seq (.seq (.reg true [
  ⟨some 17, .mv (.t 7), none, []⟩,
  ⟨some 18, .mv (.t 2), none, []⟩,
  ⟨some 19, .bin .lss (.t 17) (.t 18), none, [0, 1]⟩,
  ⟨some 20, .mv (.t 19), none, [2, 0, 1]⟩,
  ⟨some 21, .mv (.t 0), some (20, true), [3, 2, 0, 1]⟩,
  ⟨some 22, .mv (.t 7), some (20, true), [3, 2, 0, 1]⟩,
  ⟨some 23, .idxS 1 (.t 21) (.t 22), some (20, true), [4, 3, 2, 0, 1, 5]⟩,
  ⟨some 24, .load false 1 (.t 23), some (20, true), [6, 4, 3, 2, 0, 1, 5]⟩,
  ⟨some 25, .mv (.t 0), some (20, true), [3, 2, 0, 1]⟩,
  ⟨some 26, .mv (.t 7), some (20, true), [3, 2, 0, 1]⟩,
  ⟨some 27, .bin .sub (.t 26) (.c (.int .i64 1)), some (20, true), [9, 3, 2, 0, 1]⟩,
  ⟨some 28, .idxS 1 (.t 25) (.t 27), some (20, true), [8, 3, 2, 0, 1, 10, 9]⟩,
  ⟨some 29, .load false 1 (.t 28), some (20, true), [11, 8, 3, 2, 0, 1, 10, 9]⟩,
  ⟨some 30, .callP false (.f 42) [(.t 24), (.t 29)], some (20, true), [7, 6, 4, 3, 2, 0, 1, 5, 12, 11, 8, 10, 9]⟩,
  ⟨some 31, .un .not (.t 30), some (20, true), [13, 7, 6, 4, 3, 2, 0, 1, 5, 12, 11, 8, 10, 9]⟩,
  ⟨some 32, .pick (.t 20) (.t 31) (.c (.bool false)), none, [3, 2, 0, 1, 14, 13, 7, 6, 4, 5, 12, 11, 8, 10, 9]⟩]) (.cond (.t 32) (.skip) (.exit 2))) (.block 3 (.reg false [
  ⟨some 33, .mv (.t 7), none, []⟩,
  ⟨some 34, .bin .add (.t 33) (.c (.int .i64 1)), none, []⟩,
  ⟨some 7, .mv (.t 34), none, []⟩]))))) (.seq (.seq (.reg false [
  ⟨some 35, .mv (.t 7), none, []⟩,
  ⟨some 36, .mv (.t 2), none, []⟩,
  ⟨some 37, .bin .eql (.t 35) (.t 36), none, []⟩]) (.cond (.t 37) (.seq (.reg false [
  ⟨some 6, .mv (.c (.bool true)), none, []⟩]) (.ret)) (.skip))) (.seq (.seq (.reg false [
  ⟨some 38, .mv (.t 2), none, []⟩,
  ⟨some 39, .mv (.t 1), none, []⟩,
  ⟨some 40, .bin .sub (.t 38) (.t 39), none, []⟩,
  ⟨some 41, .bin .lss (.t 40) (.c (.int .i64 50)), none, []⟩]) (.cond (.t 41) (.seq (.reg false [
  ⟨some 6, .mv (.c (.bool false)), none, []⟩]) (.ret)) (.skip))) (.seq (.reg true [
  ⟨some 42, .mv (.t 0), none, []⟩,
  ⟨some 43, .mv (.t 7), none, []⟩,
  ⟨some 44, .mv (.t 0), none, []⟩,
  ⟨some 45, .mv (.t 7), none, []⟩,
  ⟨some 46, .bin .sub (.t 45) (.c (.int .i64 1)), none, [3]⟩,
  ⟨some 47, .mv (.t 0), none, []⟩,
  ⟨some 48, .mv (.t 7), none, []⟩,
  ⟨some 49, .bin .sub (.t 48) (.c (.int .i64 1)), none, [6]⟩,
  ⟨some 50, .idxS 1 (.t 47) (.t 49), none, [5, 7, 6]⟩,
  ⟨some 51, .load false 1 (.t 50), none, [8, 5, 7, 6]⟩,
  ⟨some 52, .mv (.t 0), none, []⟩,
  ⟨some 53, .mv (.t 7), none, []⟩,
  ⟨some 54, .idxS 1 (.t 52) (.t 53), none, [10, 11]⟩,
  ⟨some 55, .load false 1 (.t 54), none, [12, 10, 11]⟩,
  ⟨some 56, .idxS 1 (.t 42) (.t 43), none, [0, 1, 5, 6, 7, 8, 9, 13, 12, 10, 11]⟩,
  ⟨none, .store 1 (.t 56) (.t 51), none, [14, 0, 1, 5, 6, 7, 8, 9, 13, 12, 10, 11]⟩,
  ⟨some 57, .idxS 1 (.t 44) (.t 46), none, [2, 4, 3, 0, 1, 5, 6, 7, 8, 9, 10, 11, 12, 13, 14, 15]⟩,
  ⟨none, .store 1 (.t 57) (.t 55), none, [16, 2, 4, 3, 0, 1, 5, 6, 7, 8, 9, 10, 11, 12, 13, 14, 15]⟩]) (.seq (.seq (.reg false [
  ⟨some 58, .mv (.t 7), none, []⟩,
  ⟨some 59, .mv (.t 1), none, []⟩,
  ⟨some 60, .bin .sub (.t 58) (.t 59), none, []⟩,
  ⟨some 61, .bin .geq (.t 60) (.c (.int .i64 2)), none, []⟩]) (.cond (.t 61) (.seq (.reg false [
  ⟨some 62, .mv (.t 7), none, []⟩,
  ⟨some 63, .bin .sub (.t 62) (.c (.int .i64 1)), none, []⟩,
  ⟨some 9, .mv (.t 63), none, []⟩]) (.block 4 (.loop (.seq (.seq (.reg false [
  ⟨some 64, .mv (.t 9), none, []⟩,
  ⟨some 65, .bin .geq (.t 64) (.c (.int .i64 1)), none, []⟩]) (.cond (.t 65) (.skip) (.exit 4))) (.seq (.block 5 (.seq (.seq (.reg true [
  ⟨some 68, .mv (.t 0), none, []⟩,
  ⟨some 69, .mv (.t 9), none, []⟩,
  ⟨some 70, .idxS 1 (.t 68) (.t 69), none, [0, 1]⟩,
  ⟨some 71, .load false 1 (.t 70), none, [2, 0, 1]⟩,
  ⟨some 72, .mv (.t 0), none, []⟩,
  ⟨some 73, .mv (.t 9), none, []⟩,
  ⟨some 74, .bin .sub (.t 73) (.c (.int .i64 1)), none, [5]⟩,
  ⟨some 75, .idxS 1 (.t 72) (.t 74), none, [4, 6, 5]⟩,
  ⟨some 76, .load false 1 (.t 75), none, [7, 4, 6, 5]⟩,
  ⟨some 77, .callP false (.f 42) [(.t 71), (.t 76)], none, [3, 2, 0, 1, 8, 7, 4, 6, 5]⟩,
  ⟨some 78, .un .not (.t 77), none, [9, 3, 2, 0, 1, 8, 7, 4, 6, 5]⟩]) (.cond (.t 78) (.exit 4) (.skip))) (.reg true [
  ⟨some 79, .mv (.t 0), none, []⟩,
  ⟨some 80, .mv (.t 9), none, []⟩,
  ⟨some 81, .mv (.t 0), none, []⟩,
  ⟨some 82, .mv (.t 9), none, []⟩,
  ⟨some 83, .bin .sub (.t 82) (.c (.int .i64 1)), none, [3]⟩,
  ⟨some 84, .mv (.t 0), none, []⟩,
  ⟨some 85, .mv (.t 9), none, []⟩,
  ⟨some 86, .bin .sub (.t 85) (.c (.int .i64 1)), none, [6]⟩,
  ⟨some 87, .idxS 1 (.t 84) (.t 86), none, [5, 7, 6]⟩,
  ⟨some 88, .load false 1 (.t 87), none, [8, 5, 7, 6]⟩,
  ⟨some 89, .mv (.t 0), none, []⟩,
  ⟨some 90, .mv (.t 9), none, []⟩,
  ⟨some 91, .idxS 1 (.t 89) (.t 90), none, [10, 11]⟩,
  ⟨some 92, .load false 1 (.t 91), none, [12, 10, 11]⟩,
  ⟨some 93, .idxS 1 (.t 79) (.t 80), none, [0, 1, 5, 6, 7, 8, 9, 13, 12, 10, 11]⟩,
  ⟨none, .store 1 (.t 93) (.t 88), none, [14, 0, 1, 5, 6, 7, 8, 9, 13, 12, 10, 11]⟩,
  ⟨some 94, .idxS 1 (.t 81) (.t 83), none, [2, 4, 3, 0, 1, 5, 6, 7, 8, 9, 10, 11, 12, 13, 14, 15]⟩,
  ⟨none, .store 1 (.t 94) (.t 92), none, [16, 2, 4, 3, 0, 1, 5, 6, 7, 8, 9, 10, 11, 12, 13, 14, 15]⟩]))) (.reg false [
  ⟨some 66, .mv (.t 9), none, []⟩,
  ⟨some 67, .bin .sub (.t 66) (.c (.int .i64 1)), none, []⟩,
  ⟨some 9, .mv (.t 67), none, []⟩])))))) (.skip))) (.seq (.reg false [
  ⟨some 95, .mv (.t 2), none, []⟩,
  ⟨some 96, .mv (.t 7), none, []⟩,
  ⟨some 97, .bin .sub (.t 95) (.t 96), none, []⟩,
  ⟨some 98, .bin .geq (.t 97) (.c (.int .i64 2)), none, []⟩]) (.cond (.t 98) (.seq (.reg false [
  ⟨some 99, .mv (.t 7), none, []⟩,
  ⟨some 100, .bin .add (.t 99) (.c (.int .i64 1)), none, []⟩,
  ⟨some 10, .mv (.t 100), none, []⟩]) (.block 6 (.loop (.seq (.seq (.reg false [
  ⟨some 101, .mv (.t 10), none, []⟩,
  ⟨some 102, .mv (.t 2), none, []⟩,
  ⟨some 103, .bin .lss (.t 101) (.t 102), none, []⟩]) (.cond (.t 103) (.skip) (.exit 6))) (.seq (.block 7 (.seq (.seq (.reg true [
  ⟨some 106, .mv (.t 0), none, []⟩,
  ⟨some 107, .mv (.t 10), none, []⟩,
  ⟨some 108, .idxS 1 (.t 106) (.t 107), none, [0, 1]⟩,
  ⟨some 109, .load false 1 (.t 108), none, [2, 0, 1]⟩,
  ⟨some 110, .mv (.t 0), none, []⟩,
  ⟨some 111, .mv (.t 10), none, []⟩,
  ⟨some 112, .bin .sub (.t 111) (.c (.int .i64 1)), none, [5]⟩,
  ⟨some 113, .idxS 1 (.t 110) (.t 112), none, [4, 6, 5]⟩,
  ⟨some 114, .load false 1 (.t 113), none, [7, 4, 6, 5]⟩,
  ⟨some 115, .callP false (.f 42) [(.t 109), (.t 114)], none, [3, 2, 0, 1, 8, 7, 4, 6, 5]⟩,
  ⟨some 116, .un .not (.t 115), none, [9, 3, 2, 0, 1, 8, 7, 4, 6, 5]⟩]) (.cond (.t 116) (.exit 6) (.skip))) (.reg true [
  ⟨some 117, .mv (.t 0), none, []⟩,
  ⟨some 118, .mv (.t 10), none, []⟩,
  ⟨some 119, .mv (.t 0), none, []⟩,
  ⟨some 120, .mv (.t 10), none, []⟩,
  ⟨some 121, .bin .sub (.t 120) (.c (.int .i64 1)), none, [3]⟩,
  ⟨some 122, .mv (.t 0), none, []⟩,
  ⟨some 123, .mv (.t 10), none, []⟩,
  ⟨some 124, .bin .sub (.t 123) (.c (.int .i64 1)), none, [6]⟩,
  ⟨some 125, .idxS 1 (.t 122) (.t 124), none, [5, 7, 6]⟩,
  ⟨some 126, .load false 1 (.t 125), none, [8, 5, 7, 6]⟩,
  ⟨some 127, .mv (.t 0), none, []⟩,
  ⟨some 128, .mv (.t 10), none, []⟩,
  ⟨some 129, .idxS 1 (.t 127) (.t 128), none, [10, 11]⟩,
  ⟨some 130, .load false 1 (.t 129), none, [12, 10, 11]⟩,
  ⟨some 131, .idxS 1 (.t 117) (.t 118), none, [0, 1, 5, 6, 7, 8, 9, 13, 12, 10, 11]⟩,
  ⟨none, .store 1 (.t 131) (.t 126), none, [14, 0, 1, 5, 6, 7, 8, 9, 13, 12, 10, 11]⟩,
  ⟨some 132, .idxS 1 (.t 119) (.t 121), none, [2, 4, 3, 0, 1, 5, 6, 7, 8, 9, 10, 11, 12, 13, 14, 15]⟩,
  ⟨none, .store 1 (.t 132) (.t 130), none, [16, 2, 4, 3, 0, 1, 5, 6, 7, 8, 9, 10, 11, 12, 13, 14, 15]⟩]))) (.reg false [
  ⟨some 104, .mv (.t 10), none, []⟩,
  ⟨some 105, .bin .add (.t 104) (.c (.int .i64 1)), none, []⟩,
  ⟨some 10, .mv (.t 105), none, []⟩])))))) (.skip))))))))) (.reg false [
  ⟨some 15, .mv (.t 8), none, []⟩,
  ⟨some 16, .bin .add (.t 15) (.c (.int .i64 1)), none, []⟩,
  ⟨some 8, .mv (.t 16), none, []⟩])))))) (.seq (.reg false [
  ⟨some 6, .mv (.c (.bool false)), none, []⟩]) (.ret)))))⟩
def h42 : Hint := { cb := [], ps := [], cp := [9, 6], cs := [], ap := [], ls := [] }
def c42 : AF := ⟨2, 17, [.tmp 4],
 (.seq (.reg false [
  ⟨some 4, .mv (.c (.bool false)), none, []⟩]) (.seq (.reg false [
  ⟨some 5, .mv (.t 0), none, []⟩,
  ⟨some 6, .callP false (.f 67) [(.t 5)], none, []⟩,
  ⟨some 7, .mv (.t 6), none, []⟩,
  ⟨some 8, .mv (.t 1), some (7, true), []⟩,
  ⟨some 9, .callP false (.f 67) [(.t 8)], some (7, true), []⟩,
  ⟨some 10, .un .not (.t 9), some (7, true), []⟩,
  ⟨some 11, .pick (.t 7) (.t 10) (.c (.bool false)), none, []⟩,
  ⟨some 12, .mv (.t 11), none, []⟩,
  ⟨some 13, .mv (.t 0), some (12, false), []⟩,
  ⟨some 14, .mv (.t 1), some (12, false), []⟩,
  ⟨some 15, .bin .lss (.t 13) (.t 14), some (12, false), []⟩,
  ⟨some 16, .pick (.t 12) (.c (.bool true)) (.t 15), none, []⟩,
  ⟨some 4, .mv (.t 16), none, []⟩]) (.ret)))⟩
def h43 : Hint := { cb := [], ps := [], cp := [58, 41], cs := [], ap := [], ls := [] }
def c43 : AF := ⟨4, 84, [.tmp 8],
 (.seq (.reg false [
  ⟨some 8, .mv (.c (.int .i64 0)), none, []⟩]) (.seq (.reg true [
  ⟨some 11, .mv (.t 0), none, []⟩,
  ⟨some 12, .mv (.t 1), none, []⟩,
  ⟨some 13, .mv (.t 0), none, []⟩,
  ⟨some 14, .mv (.t 3), none, []⟩,
  ⟨some 15, .mv (.t 0), none, []⟩,
  ⟨some 16, .mv (.t 3), none, []⟩,
  ⟨some 17, .idxS 1 (.t 15) (.t 16), none, [4, 5]⟩,
  ⟨some 18, .load false 1 (.t 17), none, [6, 4, 5]⟩,
  ⟨some 19, .mv (.t 0), none, []⟩,
  ⟨some 20, .mv (.t 1), none, []⟩,
  ⟨some 21, .idxS 1 (.t 19) (.t 20), none, [8, 9]⟩,
  ⟨some 22, .load false 1 (.t 21), none, [10, 8, 9]⟩,
  ⟨some 23, .idxS 1 (.t 11) (.t 12), none, [0, 1, 4, 5, 6, 7, 11, 10, 8, 9]⟩,
  ⟨none, .store 1 (.t 23) (.t 18), none, [12, 0, 1, 4, 5, 6, 7, 11, 10, 8, 9]⟩,
  ⟨some 24, .idxS 1 (.t 13) (.t 14), none, [2, 3, 0, 1, 4, 5, 6, 7, 8, 9, 10, 11, 12, 13]⟩,
  ⟨none, .store 1 (.t 24) (.t 22), none, [14, 2, 3, 0, 1, 4, 5, 6, 7, 8, 9, 10, 11, 12, 13]⟩]) (.seq (.reg false [
  ⟨some 25, .mv (.t 1), none, []⟩,
  ⟨some 26, .bin .add (.t 25) (.c (.int .i64 1)), none, []⟩,
  ⟨some 27, .mv (.t 2), none, []⟩,
  ⟨some 28, .bin .sub (.t 27) (.c (.int .i64 1)), none, []⟩,
  ⟨some 9, .mv (.t 26), none, []⟩,
  ⟨some 10, .mv (.t 28), none, []⟩]) (.seq (.block 0 (.loop (.block 1 (.seq (.block 2 (.loop (.seq (.seq (.reg true [
  ⟨some 29, .mv (.t 9), none, []⟩,
  ⟨some 30, .mv (.t 10), none, []⟩,
  ⟨some 31, .bin .leq (.t 29) (.t 30), none, [0, 1]⟩,
  ⟨some 32, .mv (.t 31), none, [2, 0, 1]⟩,
  ⟨some 33, .mv (.t 0), some (32, true), [3, 2, 0, 1]⟩,
  ⟨some 34, .mv (.t 1), some (32, true), [3, 2, 0, 1]⟩,
  ⟨some 35, .idxS 1 (.t 33) (.t 34), some (32, true), [4, 3, 2, 0, 1, 5]⟩,
  ⟨some 36, .load false 1 (.t 35), some (32, true), [6, 4, 3, 2, 0, 1, 5]⟩,
  ⟨some 37, .mv (.t 0), some (32, true), [3, 2, 0, 1]⟩,
  ⟨some 38, .mv (.t 9), some (32, true), [3, 2, 0, 1]⟩,
  ⟨some 39, .idxS 1 (.t 37) (.t 38), some (32, true), [8, 3, 2, 0, 1, 9]⟩,
  ⟨some 40, .load false 1 (.t 39), some (32, true), [10, 8, 3, 2, 0, 1, 9]⟩,
  ⟨some 41, .callP false (.f 42) [(.t 36), (.t 40)], some (32, true), [7, 6, 4, 3, 2, 0, 1, 5, 11, 10, 8, 9]⟩,
  ⟨some 42, .un .not (.t 41), some (32, true), [12, 7, 6, 4, 3, 2, 0, 1, 5, 11, 10, 8, 9]⟩,
  ⟨some 43, .pick (.t 32) (.t 42) (.c (.bool false)), none, [3, 2, 0, 1, 13, 12, 7, 6, 4, 5, 11, 10, 8, 9]⟩]) (.cond (.t 43) (.skip) (.exit 2))) (.block 3 (.reg false [
  ⟨some 44, .mv (.t 9), none, []⟩,
  ⟨some 45, .bin .add (.t 44) (.c (.int .i64 1)), none, []⟩,
  ⟨some 9, .mv (.t 45), none, []⟩]))))) (.seq (.block 4 (.loop (.seq (.seq (.reg true [
  ⟨some 46, .mv (.t 9), none, []⟩,
  ⟨some 47, .mv (.t 10), none, []⟩,
  ⟨some 48, .bin .leq (.t 46) (.t 47), none, [0, 1]⟩,
  ⟨some 49, .mv (.t 48), none, [2, 0, 1]⟩,
  ⟨some 50, .mv (.t 0), some (49, true), [3, 2, 0, 1]⟩,
  ⟨some 51, .mv (.t 1), some (49, true), [3, 2, 0, 1]⟩,
  ⟨some 52, .idxS 1 (.t 50) (.t 51), some (49, true), [4, 3, 2, 0, 1, 5]⟩,
  ⟨some 53, .load false 1 (.t 52), some (49, true), [6, 4, 3, 2, 0, 1, 5]⟩,
  ⟨some 54, .mv (.t 0), some (49, true), [3, 2, 0, 1]⟩,
  ⟨some 55, .mv (.t 10), some (49, true), [3, 2, 0, 1]⟩,
  ⟨some 56, .idxS 1 (.t 54) (.t 55), some (49, true), [8, 3, 2, 0, 1, 9]⟩,
  ⟨some 57, .load false 1 (.t 56), some (49, true), [10, 8, 3, 2, 0, 1, 9]⟩,
  ⟨some 58, .callP false (.f 42) [(.t 53), (.t 57)], some (49, true), [7, 6, 4, 3, 2, 0, 1, 5, 11, 10, 8, 9]⟩,
  ⟨some 59, .pick (.t 49) (.t 58) (.c (.bool false)), none, [3, 2, 0, 1, 12, 7, 6, 4, 5, 11, 10, 8, 9]⟩]) (.cond (.t 59) (.skip) (.exit 4))) (.block 5 (.reg false [
  ⟨some 60, .mv (.t 10), none, []⟩,
  ⟨some 61, .bin .sub (.t 60) (.c (.int .i64 1)), none, []⟩,
  ⟨some 10, .mv (.t 61), none, []⟩]))))) (.seq (.seq (.reg false [
  ⟨some 62, .mv (.t 9), none, []⟩,
  ⟨some 63, .mv (.t 10), none, []⟩,
  ⟨some 64, .bin .gtr (.t 62) (.t 63), none, []⟩]) (.cond (.t 64) (.exit 0) (.skip))) (.seq (.reg true [
  ⟨some 65, .mv (.t 0), none, []⟩,
  ⟨some 66, .mv (.t 9), none, []⟩,
  ⟨some 67, .mv (.t 0), none, []⟩,
  ⟨some 68, .mv (.t 10), none, []⟩,
  ⟨some 69, .mv (.t 0), none, []⟩,
  ⟨some 70, .mv (.t 10), none, []⟩,
  ⟨some 71, .idxS 1 (.t 69) (.t 70), none, [4, 5]⟩,
  ⟨some 72, .load false 1 (.t 71), none, [6, 4, 5]⟩,
  ⟨some 73, .mv (.t 0), none, []⟩,
  ⟨some 74, .mv (.t 9), none, []⟩,
  ⟨some 75, .idxS 1 (.t 73) (.t 74), none, [8, 9]⟩,
  ⟨some 76, .load false 1 (.t 75), none, [10, 8, 9]⟩,
  ⟨some 77, .idxS 1 (.t 65) (.t 66), none, [0, 1, 4, 5, 6, 7, 11, 10, 8, 9]⟩,
  ⟨none, .store 1 (.t 77) (.t 72), none, [12, 0, 1, 4, 5, 6, 7, 11, 10, 8, 9]⟩,
  ⟨some 78, .idxS 1 (.t 67) (.t 68), none, [2, 3, 0, 1, 4, 5, 6, 7, 8, 9, 10, 11, 12, 13]⟩,
  ⟨none, .store 1 (.t 78) (.t 76), none, [14, 2, 3, 0, 1, 4, 5, 6, 7, 8, 9, 10, 11, 12, 13]⟩]) (.seq (.reg false [
  ⟨some 79, .mv (.t 9), none, []⟩,
  ⟨some 80, .bin .add (.t 79) (.c (.int .i64 1)), none, []⟩,
  ⟨some 9, .mv (.t 80), none, []⟩]) (.reg false [
  ⟨some 81, .mv (.t 10), none, []⟩,
  ⟨some 82, .bin .sub (.t 81) (.c (.int .i64 1)), none, []⟩,
  ⟨some 10, .mv (.t 82), none, []⟩]))))))))) (.seq (.reg false [
  ⟨some 83, .mv (.t 9), none, []⟩,
  ⟨some 8, .mv (.t 83), none, []⟩]) (.ret))))))⟩
def h44 : Hint := { cb := [], ps := [], cp := [127, 111, 58, 42], cs := [], ap := [], ls := [] }
def c44 : AF := ⟨4, 168, [.tmp 8, .tmp 9],
 (.seq (.reg false [
  ⟨some 8, .mv (.c (.int .i64 0)), none, []⟩,
  ⟨some 9, .mv (.c (.bool false)), none, []⟩]) (.seq (.reg true [
  ⟨some 12, .mv (.t 0), none, []⟩,
  ⟨some 13, .mv (.t 1), none, []⟩,
  ⟨some 14, .mv (.t 0), none, []⟩,
  ⟨some 15, .mv (.t 3), none, []⟩,
  ⟨some 16, .mv (.t 0), none, []⟩,
  ⟨some 17, .mv (.t 3), none, []⟩,
  ⟨some 18, .idxS 1 (.t 16) (.t 17), none, [4, 5]⟩,
  ⟨some 19, .load false 1 (.t 18), none, [6, 4, 5]⟩,
  ⟨some 20, .mv (.t 0), none, []⟩,
  ⟨some 21, .mv (.t 1), none, []⟩,
  ⟨some 22, .idxS 1 (.t 20) (.t 21), none, [8, 9]⟩,
  ⟨some 23, .load false 1 (.t 22), none, [10, 8, 9]⟩,
  ⟨some 24, .idxS 1 (.t 12) (.t 13), none, [0, 1, 4, 5, 6, 7, 11, 10, 8, 9]⟩,
  ⟨none, .store 1 (.t 24) (.t 19), none, [12, 0, 1, 4, 5, 6, 7, 11, 10, 8, 9]⟩,
  ⟨some 25, .idxS 1 (.t 14) (.t 15), none, [2, 3, 0, 1, 4, 5, 6, 7, 8, 9, 10, 11, 12, 13]⟩,
  ⟨none, .store 1 (.t 25) (.t 23), none, [14, 2, 3, 0, 1, 4, 5, 6, 7, 8, 9, 10, 11, 12, 13]⟩]) (.seq (.reg false [
  ⟨some 26, .mv (.t 1), none, []⟩,
  ⟨some 27, .bin .add (.t 26) (.c (.int .i64 1)), none, []⟩,
  ⟨some 28, .mv (.t 2), none, []⟩,
  ⟨some 29, .bin .sub (.t 28) (.c (.int .i64 1)), none, []⟩,
  ⟨some 10, .mv (.t 27), none, []⟩,
  ⟨some 11, .mv (.t 29), none, []⟩]) (.seq (.block 0 (.loop (.seq (.seq (.reg true [
  ⟨some 30, .mv (.t 10), none, []⟩,
  ⟨some 31, .mv (.t 11), none, []⟩,
  ⟨some 32, .bin .leq (.t 30) (.t 31), none, [0, 1]⟩,
  ⟨some 33, .mv (.t 32), none, [2, 0, 1]⟩,
  ⟨some 34, .mv (.t 0), some (33, true), [3, 2, 0, 1]⟩,
  ⟨some 35, .mv (.t 10), some (33, true), [3, 2, 0, 1]⟩,
  ⟨some 36, .idxS 1 (.t 34) (.t 35), some (33, true), [4, 3, 2, 0, 1, 5]⟩,
  ⟨some 37, .load false 1 (.t 36), some (33, true), [6, 4, 3, 2, 0, 1, 5]⟩,
  ⟨some 38, .mv (.t 0), some (33, true), [3, 2, 0, 1]⟩,
  ⟨some 39, .mv (.t 1), some (33, true), [3, 2, 0, 1]⟩,
  ⟨some 40, .idxS 1 (.t 38) (.t 39), some (33, true), [8, 3, 2, 0, 1, 9]⟩,
  ⟨some 41, .load false 1 (.t 40), some (33, true), [10, 8, 3, 2, 0, 1, 9]⟩,
  ⟨some 42, .callP false (.f 42) [(.t 37), (.t 41)], some (33, true), [7, 6, 4, 3, 2, 0, 1, 5, 11, 10, 8, 9]⟩,
  ⟨some 43, .pick (.t 33) (.t 42) (.c (.bool false)), none, [3, 2, 0, 1, 12, 7, 6, 4, 5, 11, 10, 8, 9]⟩]) (.cond (.t 43) (.skip) (.exit 0))) (.block 1 (.reg false [
  ⟨some 44, .mv (.t 10), none, []⟩,
  ⟨some 45, .bin .add (.t 44) (.c (.int .i64 1)), none, []⟩,
  ⟨some 10, .mv (.t 45), none, []⟩]))))) (.seq (.block 2 (.loop (.seq (.seq (.reg true [
  ⟨some 46, .mv (.t 10), none, []⟩,
  ⟨some 47, .mv (.t 11), none, []⟩,
  ⟨some 48, .bin .leq (.t 46) (.t 47), none, [0, 1]⟩,
  ⟨some 49, .mv (.t 48), none, [2, 0, 1]⟩,
  ⟨some 50, .mv (.t 0), some (49, true), [3, 2, 0, 1]⟩,
  ⟨some 51, .mv (.t 11), some (49, true), [3, 2, 0, 1]⟩,
  ⟨some 52, .idxS 1 (.t 50) (.t 51), some (49, true), [4, 3, 2, 0, 1, 5]⟩,
  ⟨some 53, .load false 1 (.t 52), some (49, true), [6, 4, 3, 2, 0, 1, 5]⟩,
  ⟨some 54, .mv (.t 0), some (49, true), [3, 2, 0, 1]⟩,
  ⟨some 55, .mv (.t 1), some (49, true), [3, 2, 0, 1]⟩,
  ⟨some 56, .idxS 1 (.t 54) (.t 55), some (49, true), [8, 3, 2, 0, 1, 9]⟩,
  ⟨some 57, .load false 1 (.t 56), some (49, true), [10, 8, 3, 2, 0, 1, 9]⟩,
  ⟨some 58, .callP false (.f 42) [(.t 53), (.t 57)], some (49, true), [7, 6, 4, 3, 2, 0, 1, 5, 11, 10, 8, 9]⟩,
  ⟨some 59, .un .not (.t 58), some (49, true), [12, 7, 6, 4, 3, 2, 0, 1, 5, 11, 10, 8, 9]⟩,
  ⟨some 60, .pick (.t 49) (.t 59) (.c (.bool false)), none, [3, 2, 0, 1, 13, 12, 7, 6, 4, 5, 11, 10, 8, 9]⟩]) (.cond (.t 60) (.skip) (.exit 2))) (.block 3 (.reg false [
  ⟨some 61, .mv (.t 11), none, []⟩,
  ⟨some 62, .bin .sub (.t 61) (.c (.int .i64 1)), none, []⟩,
  ⟨some 11, .mv (.t 62), none, []⟩]))))) (.seq (.seq (.reg false [
  ⟨some 63, .mv (.t 10), none, []⟩,
  ⟨some 64, .mv (.t 11), none, []⟩,
  ⟨some 65, .bin .gtr (.t 63) (.t 64), none, []⟩]) (.cond (.t 65) (.seq (.reg true [
  ⟨some 66, .mv (.t 0), none, []⟩,
  ⟨some 67, .mv (.t 11), none, []⟩,
  ⟨some 68, .mv (.t 0), none, []⟩,
  ⟨some 69, .mv (.t 1), none, []⟩,
  ⟨some 70, .mv (.t 0), none, []⟩,
  ⟨some 71, .mv (.t 1), none, []⟩,
  ⟨some 72, .idxS 1 (.t 70) (.t 71), none, [4, 5]⟩,
  ⟨some 73, .load false 1 (.t 72), none, [6, 4, 5]⟩,
  ⟨some 74, .mv (.t 0), none, []⟩,
  ⟨some 75, .mv (.t 11), none, []⟩,
  ⟨some 76, .idxS 1 (.t 74) (.t 75), none, [8, 9]⟩,
  ⟨some 77, .load false 1 (.t 76), none, [10, 8, 9]⟩,
  ⟨some 78, .idxS 1 (.t 66) (.t 67), none, [0, 1, 4, 5, 6, 7, 11, 10, 8, 9]⟩,
  ⟨none, .store 1 (.t 78) (.t 73), none, [12, 0, 1, 4, 5, 6, 7, 11, 10, 8, 9]⟩,
  ⟨some 79, .idxS 1 (.t 68) (.t 69), none, [2, 3, 0, 1, 4, 5, 6, 7, 8, 9, 10, 11, 12, 13]⟩,
  ⟨none, .store 1 (.t 79) (.t 77), none, [14, 2, 3, 0, 1, 4, 5, 6, 7, 8, 9, 10, 11, 12, 13]⟩]) (.seq (.reg false [
  ⟨some 80, .mv (.t 11), none, []⟩,
  ⟨some 8, .mv (.t 80), none, []⟩,
  ⟨some 9, .mv (.c (.bool true)), none, []⟩]) (.ret))) (.skip))) (.seq (.reg true [
  ⟨some 81, .mv (.t 0), none, []⟩,
  ⟨some 82, .mv (.t 10), none, []⟩,
  ⟨some 83, .mv (.t 0), none, []⟩,
  ⟨some 84, .mv (.t 11), none, []⟩,
  ⟨some 85, .mv (.t 0), none, []⟩,
  ⟨some 86, .mv (.t 11), none, []⟩,
  ⟨some 87, .idxS 1 (.t 85) (.t 86), none, [4, 5]⟩,
  ⟨some 88, .load false 1 (.t 87), none, [6, 4, 5]⟩,
  ⟨some 89, .mv (.t 0), none, []⟩,
  ⟨some 90, .mv (.t 10), none, []⟩,
  ⟨some 91, .idxS 1 (.t 89) (.t 90), none, [8, 9]⟩,
  ⟨some 92, .load false 1 (.t 91), none, [10, 8, 9]⟩,
  ⟨some 93, .idxS 1 (.t 81) (.t 82), none, [0, 1, 4, 5, 6, 7, 11, 10, 8, 9]⟩,
  ⟨none, .store 1 (.t 93) (.t 88), none, [12, 0, 1, 4, 5, 6, 7, 11, 10, 8, 9]⟩,
  ⟨some 94, .idxS 1 (.t 83) (.t 84), none, [2, 3, 0, 1, 4, 5, 6, 7, 8, 9, 10, 11, 12, 13]⟩,
  ⟨none, .store 1 (.t 94) (.t 92), none, [14, 2, 3, 0, 1, 4, 5, 6, 7, 8, 9, 10, 11, 12, 13]⟩]) (.seq (.reg false [
  ⟨some 95, .mv (.t 10), none, []⟩,
  ⟨some 96, .bin .add (.t 95) (.c (.int .i64 1)), none, []⟩,
  ⟨some 10, .mv (.t 96), none, []⟩]) (.seq (.reg false [
  ⟨some 97, .mv (.t 11), none, []⟩,
  ⟨some 98, .bin .sub (.t 97) (.c (.int .i64 1)), none, []⟩,
  ⟨some 11, .mv (.t 98), none, []⟩]) (.seq (.block 4 (.loop (.block 5 (.seq (.block 6 (.loop (.seq (.seq (.reg true [
  ⟨some 99, .mv (.t 10), none, []⟩,
  ⟨some 100, .mv (.t 11), none, []⟩,
  ⟨some 101, .bin .leq (.t 99) (.t 100), none, [0, 1]⟩,
  ⟨some 102, .mv (.t 101), none, [2, 0, 1]⟩,
  ⟨some 103, .mv (.t 0), some (102, true), [3, 2, 0, 1]⟩,
  ⟨some 104, .mv (.t 10), some (102, true), [3, 2, 0, 1]⟩,
  ⟨some 105, .idxS 1 (.t 103) (.t 104), some (102, true), [4, 3, 2, 0, 1, 5]⟩,
  ⟨some 106, .load false 1 (.t 105), some (102, true), [6, 4, 3, 2, 0, 1, 5]⟩,
  ⟨some 107, .mv (.t 0), some (102, true), [3, 2, 0, 1]⟩,
  ⟨some 108, .mv (.t 1), some (102, true), [3, 2, 0, 1]⟩,
  ⟨some 109, .idxS 1 (.t 107) (.t 108), some (102, true), [8, 3, 2, 0, 1, 9]⟩,
  ⟨some 110, .load false 1 (.t 109), some (102, true), [10, 8, 3, 2, 0, 1, 9]⟩,
  ⟨some 111, .callP false (.f 42) [(.t 106), (.t 110)], some (102, true), [7, 6, 4, 3, 2, 0, 1, 5, 11, 10, 8, 9]⟩,
  ⟨some 112, .pick (.t 102) (.t 111) (.c (.bool false)), none, [3, 2, 0, 1, 12, 7, 6, 4, 5, 11, 10, 8, 9]⟩]) (.cond (.t 112) (.skip) (.exit 6))) (.block 7 (.reg false [
  ⟨some 113, .mv (.t 10), none, []⟩,
  ⟨some 114, .bin .add (.t 113) (.c (.int .i64 1)), none, []⟩,
  ⟨some 10, .mv (.t 114), none, []⟩]))))) (.seq (.block 8 (.loop (.seq (.seq (.reg true [
  ⟨some 115, .mv (.t 10), none, []⟩,
  ⟨some 116, .mv (.t 11), none, []⟩,
  ⟨some 117, .bin .leq (.t 115) (.t 116), none, [0, 1]⟩,
  ⟨some 118, .mv (.t 117), none, [2, 0, 1]⟩,
  ⟨some 119, .mv (.t 0), some (118, true), [3, 2, 0, 1]⟩,
  ⟨some 120, .mv (.t 11), some (118, true), [3, 2, 0, 1]⟩,
  ⟨some 121, .idxS 1 (.t 119) (.t 120), some (118, true), [4, 3, 2, 0, 1, 5]⟩,
  ⟨some 122, .load false 1 (.t 121), some (118, true), [6, 4, 3, 2, 0, 1, 5]⟩,
  ⟨some 123, .mv (.t 0), some (118, true), [3, 2, 0, 1]⟩,
  ⟨some 124, .mv (.t 1), some (118, true), [3, 2, 0, 1]⟩,
  ⟨some 125, .idxS 1 (.t 123) (.t 124), some (118, true), [8, 3, 2, 0, 1, 9]⟩,
  ⟨some 126, .load false 1 (.t 125), some (118, true), [10, 8, 3, 2, 0, 1, 9]⟩,
  ⟨some 127, .callP false (.f 42) [(.t 122), (.t 126)], some (118, true), [7, 6, 4, 3, 2, 0, 1, 5, 11, 10, 8, 9]⟩,
  ⟨some 128, .un .not (.t 127), some (118, true), [12, 7, 6, 4, 3, 2, 0, 1, 5, 11, 10, 8, 9]⟩,
  ⟨some 129, .pick (.t 118) (.t 128) (.c (.bool false)), none, [3, 2, 0, 1, 13, 12, 7, 6, 4, 5, 11, 10, 8, 9]⟩]) (.cond (.t 129) (.skip) (.exit 8))) (.block 9 (.reg false [
  ⟨some 130, .mv (.t 11), none, []⟩,
  ⟨some 131, .bin .sub (.t 130) (.c (.int .i64 1)), none, []⟩,
  ⟨some 11, .mv (.t 131), none, []⟩]))))) (.seq (.seq (.reg false [
  ⟨some 132, .mv (.t 10), none, []⟩,
  ⟨some 133, .mv (.t 11), none, []⟩,
  ⟨some 134, .bin .gtr (.t 132) (.t 133), none, []⟩]) (.cond (.t 134) (.exit 4) (.skip))) (.seq (.reg true [
  ⟨some 135, .mv (.t 0), none, []⟩,
  ⟨some 136, .mv (.t 10), none, []⟩,
  ⟨some 137, .mv (.t 0), none, []⟩,
  ⟨some 138, .mv (.t 11), none, []⟩,
  ⟨some 139, .mv (.t 0), none, []⟩,
  ⟨some 140, .mv (.t 11), none, []⟩,
  ⟨some 141, .idxS 1 (.t 139) (.t 140), none, [4, 5]⟩,
  ⟨some 142, .load false 1 (.t 141), none, [6, 4, 5]⟩,
  ⟨some 143, .mv (.t 0), none, []⟩,
  ⟨some 144, .mv (.t 10), none, []⟩,
  ⟨some 145, .idxS 1 (.t 143) (.t 144), none, [8, 9]⟩,
  ⟨some 146, .load false 1 (.t 145), none, [10, 8, 9]⟩,
  ⟨some 147, .idxS 1 (.t 135) (.t 136), none, [0, 1, 4, 5, 6, 7, 11, 10, 8, 9]⟩,
  ⟨none, .store 1 (.t 147) (.t 142), none, [12, 0, 1, 4, 5, 6, 7, 11, 10, 8, 9]⟩,
  ⟨some 148, .idxS 1 (.t 137) (.t 138), none, [2, 3, 0, 1, 4, 5, 6, 7, 8, 9, 10, 11, 12, 13]⟩,
  ⟨none, .store 1 (.t 148) (.t 146), none, [14, 2, 3, 0, 1, 4, 5, 6, 7, 8, 9, 10, 11, 12, 13]⟩]) (.seq (.reg false [
  ⟨some 149, .mv (.t 10), none, []⟩,
  ⟨some 150, .bin .add (.t 149) (.c (.int .i64 1)), none, []⟩,
  ⟨some 10, .mv (.t 150), none, []⟩]) (.reg false [
  ⟨some 151, .mv (.t 11), none, []⟩,
  ⟨some 152, .bin .sub (.t 151) (.c (.int .i64 1)), none, []⟩,
  ⟨some 11, .mv (.t 152), none, []⟩]))))))))) (.seq (.reg true [
  ⟨some 153, .mv (.t 0), none, []⟩,
  ⟨some 154, .mv (.t 11), none, []⟩,
  ⟨some 155, .mv (.t 0), none, []⟩,
  ⟨some 156, .mv (.t 1), none, []⟩,
  ⟨some 157, .mv (.t 0), none, []⟩,
  ⟨some 158, .mv (.t 1), none, []⟩,
  ⟨some 159, .idxS 1 (.t 157) (.t 158), none, [4, 5]⟩,
  ⟨some 160, .load false 1 (.t 159), none, [6, 4, 5]⟩,
  ⟨some 161, .mv (.t 0), none, []⟩,
  ⟨some 162, .mv (.t 11), none, []⟩,
  ⟨some 163, .idxS 1 (.t 161) (.t 162), none, [8, 9]⟩,
  ⟨some 164, .load false 1 (.t 163), none, [10, 8, 9]⟩,
  ⟨some 165, .idxS 1 (.t 153) (.t 154), none, [0, 1, 4, 5, 6, 7, 11, 10, 8, 9]⟩,
  ⟨none, .store 1 (.t 165) (.t 160), none, [12, 0, 1, 4, 5, 6, 7, 11, 10, 8, 9]⟩,
  ⟨some 166, .idxS 1 (.t 155) (.t 156), none, [2, 3, 0, 1, 4, 5, 6, 7, 8, 9, 10, 11, 12, 13]⟩,
  ⟨none, .store 1 (.t 166) (.t 164), none, [14, 2, 3, 0, 1, 4, 5, 6, 7, 8, 9, 10, 11, 12, 13]⟩]) (.seq (.reg false [
  ⟨some 167, .mv (.t 11), none, []⟩,
  ⟨some 8, .mv (.t 167), none, []⟩,
  ⟨some 9, .mv (.c (.bool false)), none, []⟩]) (.ret)))))))))))))⟩
end Go.Proofs.YthmlommnlihgcaaGreatDoor.Code
