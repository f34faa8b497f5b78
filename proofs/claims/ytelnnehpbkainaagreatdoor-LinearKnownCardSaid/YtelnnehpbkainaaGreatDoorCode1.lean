/- The functions of the program in cooked form, printed by a program of the prover's own. -/
import Derived.Test.YtelnnehpbkainaaGreatDoorFwCook
set_option maxRecDepth 100000
namespace Go.Proofs.YtelnnehpbkainaaGreatDoor.Code
open Go Go.Fw
def h6 : Hint := { cb := [], ps := [1], cp := [224, 216, 211, 124, 123, 122, 121, 116, 113, 112, 107, 106, 99, 91, 90, 85, 82, 77, 76, 71, 70, 66, 61, 60, 55, 50, 42, 39, 38, 34, 33], cs := [105], ap := [] }
def c6 : AF := ⟨0, 226, [.tmp 0],
 (.seq (.reg false [
  ⟨some 0, .mv (.c (.bool false)), none, []⟩]) (.seq (.reg false [
  ⟨some 33, .callP false (.f 26) [(.c (.str [102]))], none, []⟩,
  ⟨some 34, .callP false (.f 27) [], none, []⟩,
  ⟨some 35, .bslice 7 2 [(.int .i64 0), (.int .i64 0), (.str []), (.str []), (.slice 0 [] .full), (.slice 0 [] .full), (.slice 0 [] .full)] [(0, (.t 33)), (1, (.t 34))], none, []⟩,
  ⟨some 36, .build [(.int .i64 0), (.int .i64 0), (.str []), (.str []), (.slice 0 [] .full), (.slice 0 [] .full), (.slice 0 [] .full)] [(0, 1, (.c (.int .i64 5))), (5, 1, (.t 35))], none, []⟩,
  ⟨some 1, .pend [(.int .i64 0), (.int .i64 0), (.str []), (.str []), (.slice 0 [] .full), (.slice 0 [] .full), (.slice 0 [] .full)], none, []⟩,
  ⟨none, .shut 1 7 (.t 36), none, []⟩]) (.seq (.reg false [
  ⟨some 38, .callP false (.f 27) [], none, []⟩,
  ⟨some 39, .callP false (.f 26) [(.c (.str [120]))], none, []⟩,
  ⟨some 40, .bslice 7 2 [(.int .i64 0), (.int .i64 0), (.str []), (.str []), (.slice 0 [] .full), (.slice 0 [] .full), (.slice 0 [] .full)] [(0, (.t 38)), (1, (.t 39))], none, []⟩,
  ⟨some 41, .build [(.int .i64 0), (.int .i64 0), (.str []), (.str []), (.slice 0 [] .full), (.slice 0 [] .full), (.slice 0 [] .full)] [(0, 1, (.c (.int .i64 9))), (2, 1, (.c (.str [43]))), (5, 1, (.t 40))], none, []⟩,
  ⟨some 42, .callP false (.f 13) [(.t 41), (.c (.str [107]))], none, []⟩,
  ⟨some 37, .mv (.t 42), none, []⟩,
  ⟨some 43, .extract (.t 37) 0, none, []⟩,
  ⟨some 44, .extract (.t 37) 1, none, []⟩,
  ⟨some 2, .mv (.t 43), none, []⟩,
  ⟨some 3, .mv (.t 44), none, []⟩]) (.seq (.reg false [
  ⟨some 46, .bslice 1 1 [(.str [])] [(0, (.c (.str [121])))], none, []⟩,
  ⟨some 47, .load true 7 (.t 1), none, []⟩,
  ⟨some 48, .bslice 7 1 [(.int .i64 0), (.int .i64 0), (.str []), (.str []), (.slice 0 [] .full), (.slice 0 [] .full), (.slice 0 [] .full)] [(0, (.t 47))], none, []⟩,
  ⟨some 49, .build [(.int .i64 0), (.int .i64 0), (.str []), (.str []), (.slice 0 [] .full), (.slice 0 [] .full), (.slice 0 [] .full)] [(0, 1, (.c (.int .i64 4))), (4, 1, (.t 46)), (5, 1, (.t 48))], none, []⟩,
  ⟨some 50, .callP false (.f 13) [(.t 49), (.c (.str [107]))], none, []⟩,
  ⟨some 45, .mv (.t 50), none, []⟩,
  ⟨some 51, .extract (.t 45) 0, none, []⟩,
  ⟨some 52, .extract (.t 45) 1, none, []⟩,
  ⟨some 4, .mv (.t 51), none, []⟩,
  ⟨some 5, .mv (.t 52), none, []⟩]) (.seq (.reg false [
  ⟨some 54, .load true 7 (.t 1), none, []⟩,
  ⟨some 55, .callP false (.f 13) [(.t 54), (.c (.str [107]))], none, []⟩,
  ⟨some 53, .mv (.t 55), none, []⟩,
  ⟨some 56, .extract (.t 53) 0, none, []⟩,
  ⟨some 57, .extract (.t 53) 1, none, []⟩,
  ⟨some 6, .mv (.t 56), none, []⟩,
  ⟨some 7, .mv (.t 57), none, []⟩]) (.seq (.reg false [
  ⟨some 59, .bslice 1 1 [(.str [])] [(0, (.c (.str [121])))], none, []⟩,
  ⟨some 60, .callP false (.f 26) [(.c (.str [107]))], none, []⟩,
  ⟨some 61, .callP false (.f 26) [(.c (.str [121]))], none, []⟩,
  ⟨some 62, .bslice 7 2 [(.int .i64 0), (.int .i64 0), (.str []), (.str []), (.slice 0 [] .full), (.slice 0 [] .full), (.slice 0 [] .full)] [(0, (.t 60)), (1, (.t 61))], none, []⟩,
  ⟨some 63, .build [(.int .i64 0), (.int .i64 0), (.str []), (.str []), (.slice 0 [] .full), (.slice 0 [] .full), (.slice 0 [] .full)] [(0, 1, (.c (.int .i64 5))), (5, 1, (.t 62))], none, []⟩,
  ⟨some 64, .bslice 7 1 [(.int .i64 0), (.int .i64 0), (.str []), (.str []), (.slice 0 [] .full), (.slice 0 [] .full), (.slice 0 [] .full)] [(0, (.t 63))], none, []⟩,
  ⟨some 65, .build [(.int .i64 0), (.int .i64 0), (.str []), (.str []), (.slice 0 [] .full), (.slice 0 [] .full), (.slice 0 [] .full)] [(0, 1, (.c (.int .i64 4))), (4, 1, (.t 59)), (5, 1, (.t 64))], none, []⟩,
  ⟨some 66, .callP false (.f 13) [(.t 65), (.c (.str [107]))], none, []⟩,
  ⟨some 58, .mv (.t 66), none, []⟩,
  ⟨some 67, .extract (.t 58) 0, none, []⟩,
  ⟨some 68, .extract (.t 58) 1, none, []⟩,
  ⟨some 8, .mv (.t 67), none, []⟩,
  ⟨some 9, .mv (.t 68), none, []⟩]) (.seq (.reg false [
  ⟨some 70, .callP false (.f 28) [(.c (.str [107]))], none, []⟩,
  ⟨some 71, .callP false (.f 15) [(.t 70), (.c (.str [107]))], none, []⟩,
  ⟨some 69, .mv (.t 71), none, []⟩,
  ⟨some 72, .extract (.t 69) 0, none, []⟩,
  ⟨some 73, .extract (.t 69) 1, none, []⟩,
  ⟨some 74, .extract (.t 69) 2, none, []⟩,
  ⟨some 10, .mv (.t 72), none, []⟩,
  ⟨some 11, .mv (.t 73), none, []⟩,
  ⟨some 12, .mv (.t 74), none, []⟩]) (.seq (.reg false [
  ⟨some 76, .callP false (.f 29) [(.c (.str [107]))], none, []⟩,
  ⟨some 77, .callP false (.f 15) [(.t 76), (.c (.str [107]))], none, []⟩,
  ⟨some 75, .mv (.t 77), none, []⟩,
  ⟨some 78, .extract (.t 75) 0, none, []⟩,
  ⟨some 79, .extract (.t 75) 1, none, []⟩,
  ⟨some 80, .extract (.t 75) 2, none, []⟩,
  ⟨some 13, .mv (.t 78), none, []⟩,
  ⟨some 14, .mv (.t 79), none, []⟩,
  ⟨some 15, .mv (.t 80), none, []⟩]) (.seq (.reg false [
  ⟨some 82, .callP false (.f 26) [(.c (.str [109]))], none, []⟩,
  ⟨some 83, .bslice 7 1 [(.int .i64 0), (.int .i64 0), (.str []), (.str []), (.slice 0 [] .full), (.slice 0 [] .full), (.slice 0 [] .full)] [(0, (.t 82))], none, []⟩,
  ⟨some 84, .build [(.int .i64 0), (.int .i64 0), (.str []), (.str []), (.slice 0 [] .full), (.slice 0 [] .full), (.slice 0 [] .full)] [(0, 1, (.c (.int .i64 11))), (5, 1, (.t 83))], none, []⟩,
  ⟨some 85, .callP false (.f 15) [(.t 84), (.c (.str [107]))], none, []⟩,
  ⟨some 81, .mv (.t 85), none, []⟩,
  ⟨some 86, .extract (.t 81) 0, none, []⟩,
  ⟨some 87, .extract (.t 81) 1, none, []⟩,
  ⟨some 88, .extract (.t 81) 2, none, []⟩,
  ⟨some 16, .mv (.t 86), none, []⟩,
  ⟨some 17, .mv (.t 87), none, []⟩,
  ⟨some 18, .mv (.t 88), none, []⟩]) (.seq (.reg false [
  ⟨some 90, .callP false (.f 27) [], none, []⟩,
  ⟨some 91, .callP false (.f 15) [(.t 90), (.c (.str [107]))], none, []⟩,
  ⟨some 89, .mv (.t 91), none, []⟩,
  ⟨some 92, .extract (.t 89) 0, none, []⟩,
  ⟨some 93, .extract (.t 89) 1, none, []⟩,
  ⟨some 94, .extract (.t 89) 2, none, []⟩,
  ⟨some 19, .mv (.t 92), none, []⟩,
  ⟨some 20, .mv (.t 93), none, []⟩,
  ⟨some 21, .mv (.t 94), none, []⟩]) (.seq (.reg false [
  ⟨some 96, .load true 7 (.t 1), none, []⟩,
  ⟨some 97, .bslice 7 1 [(.int .i64 0), (.int .i64 0), (.str []), (.str []), (.slice 0 [] .full), (.slice 0 [] .full), (.slice 0 [] .full)] [(0, (.t 96))], none, []⟩,
  ⟨some 98, .build [(.int .i64 0), (.int .i64 0), (.str []), (.str []), (.slice 0 [] .full), (.slice 0 [] .full), (.slice 0 [] .full)] [(0, 1, (.c (.int .i64 18))), (2, 1, (.c (.str [107]))), (5, 1, (.t 97))], none, []⟩,
  ⟨some 99, .callP false (.f 15) [(.t 98), (.c (.str [107]))], none, []⟩,
  ⟨some 95, .mv (.t 99), none, []⟩,
  ⟨some 100, .extract (.t 95) 0, none, []⟩,
  ⟨some 101, .extract (.t 95) 1, none, []⟩,
  ⟨some 102, .extract (.t 95) 2, none, []⟩,
  ⟨some 22, .mv (.t 100), none, []⟩,
  ⟨some 23, .mv (.t 101), none, []⟩,
  ⟨some 24, .mv (.t 102), none, []⟩]) (.seq (.reg true [
  ⟨some 104, .load true 7 (.t 1), none, []⟩,
  ⟨some 105, .callP true (.f 28) [(.c (.str [107]))], none, []⟩,
  ⟨some 106, .callP false (.f 30) [(.c (.str [121])), (.t 104), (.t 105)], none, [0, 1]⟩,
  ⟨some 107, .callP false (.f 15) [(.t 106), (.c (.str [107]))], none, [2, 0, 1]⟩,
  ⟨some 103, .mv (.t 107), none, [3, 2, 0, 1]⟩,
  ⟨some 108, .extract (.t 103) 0, none, [4, 3, 2, 0, 1]⟩,
  ⟨some 109, .extract (.t 103) 1, none, [4, 3, 2, 0, 1]⟩,
  ⟨some 110, .extract (.t 103) 2, none, [4, 3, 2, 0, 1]⟩,
  ⟨some 25, .mv (.t 108), none, [5, 4, 3, 2, 0, 1]⟩,
  ⟨some 26, .mv (.t 109), none, [6, 4, 3, 2, 0, 1, 8, 5]⟩,
  ⟨some 27, .mv (.t 110), none, [7, 4, 3, 2, 0, 1, 9, 6, 8, 5]⟩]) (.seq (.reg false [
  ⟨some 112, .callP false (.f 26) [(.c (.str [102]))], none, []⟩,
  ⟨some 113, .callP false (.f 28) [(.c (.str [107]))], none, []⟩,
  ⟨some 114, .bslice 7 2 [(.int .i64 0), (.int .i64 0), (.str []), (.str []), (.slice 0 [] .full), (.slice 0 [] .full), (.slice 0 [] .full)] [(0, (.t 112)), (1, (.t 113))], none, []⟩,
  ⟨some 115, .build [(.int .i64 0), (.int .i64 0), (.str []), (.str []), (.slice 0 [] .full), (.slice 0 [] .full), (.slice 0 [] .full)] [(0, 1, (.c (.int .i64 5))), (5, 1, (.t 114))], none, []⟩,
  ⟨some 116, .callP false (.f 15) [(.t 115), (.c (.str [107]))], none, []⟩,
  ⟨some 111, .mv (.t 116), none, []⟩,
  ⟨some 117, .extract (.t 111) 0, none, []⟩,
  ⟨some 118, .extract (.t 111) 1, none, []⟩,
  ⟨some 119, .extract (.t 111) 2, none, []⟩,
  ⟨some 28, .mv (.t 117), none, []⟩,
  ⟨some 29, .mv (.t 118), none, []⟩,
  ⟨some 30, .mv (.t 119), none, []⟩]) (.seq (.reg false [
  ⟨some 121, .callP false (.f 27) [], none, []⟩,
  ⟨some 122, .callP false (.f 31) [(.t 121)], none, []⟩,
  ⟨some 123, .callP false (.f 28) [(.c (.str [107]))], none, []⟩,
  ⟨some 124, .callP false (.f 22) [(.t 122), (.t 123)], none, []⟩,
  ⟨some 120, .mv (.t 124), none, []⟩,
  ⟨some 125, .extract (.t 120) 0, none, []⟩,
  ⟨some 126, .extract (.t 120) 1, none, []⟩,
  ⟨some 31, .mv (.t 125), none, []⟩,
  ⟨some 32, .mv (.t 126), none, []⟩]) (.seq (.reg false [
  ⟨some 127, .mv (.t 3), none, []⟩,
  ⟨some 128, .bin .eql (.t 127) (.c (.int .i64 0)), none, []⟩,
  ⟨some 129, .mv (.t 128), none, []⟩,
  ⟨some 130, .mv (.t 5), some (129, true), []⟩,
  ⟨some 131, .bin .eql (.t 130) (.c (.int .i64 0)), some (129, true), []⟩,
  ⟨some 132, .pick (.t 129) (.t 131) (.c (.bool false)), none, []⟩,
  ⟨some 133, .mv (.t 132), none, []⟩,
  ⟨some 134, .mv (.t 7), some (133, true), []⟩,
  ⟨some 135, .bin .eql (.t 134) (.c (.int .i64 0)), some (133, true), []⟩,
  ⟨some 136, .pick (.t 133) (.t 135) (.c (.bool false)), none, []⟩,
  ⟨some 137, .mv (.t 136), none, []⟩,
  ⟨some 138, .mv (.t 9), some (137, true), []⟩,
  ⟨some 139, .bin .eql (.t 138) (.c (.int .i64 0)), some (137, true), []⟩,
  ⟨some 140, .pick (.t 137) (.t 139) (.c (.bool false)), none, []⟩,
  ⟨some 141, .mv (.t 140), none, []⟩,
  ⟨some 142, .mv (.t 12), some (141, true), []⟩,
  ⟨some 143, .bin .eql (.t 142) (.c (.int .i64 0)), some (141, true), []⟩,
  ⟨some 144, .pick (.t 141) (.t 143) (.c (.bool false)), none, []⟩,
  ⟨some 145, .mv (.t 144), none, []⟩,
  ⟨some 146, .mv (.t 15), some (145, true), []⟩,
  ⟨some 147, .bin .eql (.t 146) (.c (.int .i64 0)), some (145, true), []⟩,
  ⟨some 148, .pick (.t 145) (.t 147) (.c (.bool false)), none, []⟩,
  ⟨some 149, .mv (.t 148), none, []⟩,
  ⟨some 150, .mv (.t 18), some (149, true), []⟩,
  ⟨some 151, .bin .eql (.t 150) (.c (.int .i64 0)), some (149, true), []⟩,
  ⟨some 152, .pick (.t 149) (.t 151) (.c (.bool false)), none, []⟩,
  ⟨some 153, .mv (.t 152), none, []⟩,
  ⟨some 154, .mv (.t 21), some (153, true), []⟩,
  ⟨some 155, .bin .eql (.t 154) (.c (.int .i64 10)), some (153, true), []⟩,
  ⟨some 156, .pick (.t 153) (.t 155) (.c (.bool false)), none, []⟩,
  ⟨some 157, .mv (.t 156), none, []⟩,
  ⟨some 158, .mv (.t 24), some (157, true), []⟩,
  ⟨some 159, .mv (.t 21), some (157, true), []⟩,
  ⟨some 160, .bin .eql (.t 158) (.t 159), some (157, true), []⟩,
  ⟨some 161, .pick (.t 157) (.t 160) (.c (.bool false)), none, []⟩,
  ⟨some 162, .mv (.t 161), none, []⟩,
  ⟨some 163, .mv (.t 27), some (162, true), []⟩,
  ⟨some 164, .mv (.t 21), some (162, true), []⟩,
  ⟨some 165, .bin .eql (.t 163) (.t 164), some (162, true), []⟩,
  ⟨some 166, .pick (.t 162) (.t 165) (.c (.bool false)), none, []⟩,
  ⟨some 167, .mv (.t 166), none, []⟩,
  ⟨some 168, .mv (.t 30), some (167, true), []⟩,
  ⟨some 169, .mv (.t 21), some (167, true), []⟩,
  ⟨some 170, .bin .eql (.t 168) (.t 169), some (167, true), []⟩,
  ⟨some 171, .pick (.t 167) (.t 170) (.c (.bool false)), none, []⟩,
  ⟨some 172, .mv (.t 171), none, []⟩,
  ⟨some 173, .mv (.t 32), some (172, true), []⟩,
  ⟨some 174, .mv (.t 21), some (172, true), []⟩,
  ⟨some 175, .bin .eql (.t 173) (.t 174), some (172, true), []⟩,
  ⟨some 176, .pick (.t 172) (.t 175) (.c (.bool false)), none, []⟩,
  ⟨some 177, .mv (.t 176), none, []⟩,
  ⟨some 178, .mv (.t 2), some (177, true), []⟩,
  ⟨some 179, .pick (.t 177) (.t 178) (.c (.bool false)), none, []⟩,
  ⟨some 180, .mv (.t 179), none, []⟩,
  ⟨some 181, .mv (.t 4), some (180, true), []⟩,
  ⟨some 182, .pick (.t 180) (.t 181) (.c (.bool false)), none, []⟩,
  ⟨some 183, .mv (.t 182), none, []⟩,
  ⟨some 184, .mv (.t 6), some (183, true), []⟩,
  ⟨some 185, .un .not (.t 184), some (183, true), []⟩,
  ⟨some 186, .pick (.t 183) (.t 185) (.c (.bool false)), none, []⟩,
  ⟨some 187, .mv (.t 186), none, []⟩,
  ⟨some 188, .mv (.t 8), some (187, true), []⟩,
  ⟨some 189, .un .not (.t 188), some (187, true), []⟩,
  ⟨some 190, .pick (.t 187) (.t 189) (.c (.bool false)), none, []⟩,
  ⟨some 191, .mv (.t 190), none, []⟩,
  ⟨some 192, .mv (.t 10), some (191, true), []⟩,
  ⟨some 193, .bin .eql (.t 192) (.c (.int .i64 0)), some (191, true), []⟩,
  ⟨some 194, .pick (.t 191) (.t 193) (.c (.bool false)), none, []⟩,
  ⟨some 195, .mv (.t 194), none, []⟩,
  ⟨some 196, .mv (.t 13), some (195, true), []⟩,
  ⟨some 197, .bin .eql (.t 196) (.c (.int .i64 1)), some (195, true), []⟩,
  ⟨some 198, .pick (.t 195) (.t 197) (.c (.bool false)), none, []⟩,
  ⟨some 199, .mv (.t 198), none, []⟩,
  ⟨some 200, .mv (.t 16), some (199, true), []⟩,
  ⟨some 201, .bin .eql (.t 200) (.c (.int .i64 3)), some (199, true), []⟩,
  ⟨some 202, .pick (.t 199) (.t 201) (.c (.bool false)), none, []⟩,
  ⟨some 203, .mv (.t 202), none, []⟩,
  ⟨some 204, .mv (.t 20), some (203, true), []⟩,
  ⟨some 205, .lenS (.t 204), some (203, true), []⟩,
  ⟨some 206, .bin .eql (.t 205) (.c (.int .i64 0)), some (203, true), []⟩,
  ⟨some 207, .pick (.t 203) (.t 206) (.c (.bool false)), none, []⟩,
  ⟨some 208, .mv (.t 207), none, []⟩,
  ⟨some 209, .mv (.t 23), some (208, true), []⟩,
  ⟨some 210, .bslice 1 1 [(.int .i64 0)] [(0, (.c (.int .i64 0)))], some (208, true), []⟩,
  ⟨some 211, .callP false (.f 17) [(.t 209), (.t 210)], some (208, true), []⟩,
  ⟨some 212, .pick (.t 208) (.t 211) (.c (.bool false)), none, []⟩,
  ⟨some 213, .mv (.t 212), none, []⟩,
  ⟨some 214, .mv (.t 26), some (213, true), []⟩,
  ⟨some 215, .bslice 1 1 [(.int .i64 0)] [(0, (.c (.int .i64 0)))], some (213, true), []⟩,
  ⟨some 216, .callP false (.f 17) [(.t 214), (.t 215)], some (213, true), []⟩,
  ⟨some 217, .pick (.t 213) (.t 216) (.c (.bool false)), none, []⟩,
  ⟨some 218, .mv (.t 217), none, []⟩,
  ⟨some 219, .mv (.t 29), some (218, true), []⟩,
  ⟨some 220, .lenS (.t 219), some (218, true), []⟩,
  ⟨some 221, .bin .eql (.t 220) (.c (.int .i64 0)), some (218, true), []⟩,
  ⟨some 222, .pick (.t 218) (.t 221) (.c (.bool false)), none, []⟩,
  ⟨some 223, .mv (.t 222), none, []⟩,
  ⟨some 224, .callP false (.f 21) [], some (223, true), []⟩,
  ⟨some 225, .pick (.t 223) (.t 224) (.c (.bool false)), none, []⟩,
  ⟨some 0, .mv (.t 225), none, []⟩]) (.ret))))))))))))))))⟩
def h13 : Hint := { cb := [2], ps := [], cp := [16, 9], cs := [], ap := [] }
def c13 : AF := ⟨2, 17, [.tmp 4, .tmp 5],
 (.seq (.reg false [
  ⟨some 2, .boxc (.t 0), none, []⟩,
  ⟨some 4, .mv (.c (.bool false)), none, []⟩,
  ⟨some 5, .mv (.c (.int .i64 0)), none, []⟩]) (.seq (.seq (.reg false [
  ⟨some 7, .load true 7 (.t 2), none, []⟩,
  ⟨some 8, .mv (.t 1), none, []⟩,
  ⟨some 9, .callP false (.f 46) [(.t 7), (.t 8)], none, []⟩,
  ⟨some 6, .mv (.t 9), none, []⟩]) (.seq (.reg false [
  ⟨some 10, .mv (.t 6), none, []⟩,
  ⟨some 11, .bin .neq (.t 10) (.c (.int .i64 0)), none, []⟩]) (.cond (.t 11) (.seq (.reg false [
  ⟨some 12, .mv (.t 6), none, []⟩,
  ⟨some 4, .mv (.c (.bool false)), none, []⟩,
  ⟨some 5, .mv (.t 12), none, []⟩]) (.ret)) (.skip)))) (.seq (.reg false [
  ⟨some 13, .load true 7 (.t 2), none, []⟩,
  ⟨some 14, .build [(.int .i64 0), (.int .i64 0), (.str []), (.str []), (.slice 0 [] .full), (.slice 0 [] .full), (.slice 0 [] .full), (.slice 0 [] .full)] [(0, 7, (.t 13))], none, []⟩,
  ⟨some 15, .mv (.t 1), none, []⟩,
  ⟨some 16, .callP false (.f 47) [(.t 14), (.t 15)], none, []⟩,
  ⟨some 4, .mv (.t 16), none, []⟩,
  ⟨some 5, .mv (.c (.int .i64 0)), none, []⟩]) (.ret))))⟩
def h15 : Hint := { cb := [2], ps := [], cp := [13], cs := [], ap := [] }
def c15 : AF := ⟨2, 59, [.tmp 4, .tmp 5, .tmp 6],
 (.seq (.reg false [
  ⟨some 2, .boxc (.t 0), none, []⟩,
  ⟨some 4, .mv (.c (.int .i64 0)), none, []⟩,
  ⟨some 5, .mv (.c (.slice 0 [] .full)), none, []⟩,
  ⟨some 6, .mv (.c (.int .i64 0)), none, []⟩]) (.seq (.seq (.reg false [
  ⟨some 11, .load true 7 (.t 2), none, []⟩,
  ⟨some 12, .mv (.t 1), none, []⟩,
  ⟨some 13, .callP false (.f 46) [(.t 11), (.t 12)], none, []⟩,
  ⟨some 7, .mv (.t 13), none, []⟩]) (.seq (.reg false [
  ⟨some 14, .mv (.t 7), none, []⟩,
  ⟨some 15, .bin .neq (.t 14) (.c (.int .i64 0)), none, []⟩]) (.cond (.t 15) (.seq (.reg false [
  ⟨some 16, .mv (.t 7), none, []⟩,
  ⟨some 4, .mv (.c (.int .i64 0)), none, []⟩,
  ⟨some 5, .mv (.c (.slice 0 [] .full)), none, []⟩,
  ⟨some 6, .mv (.t 16), none, []⟩]) (.ret)) (.skip)))) (.seq (.reg false [
  ⟨some 18, .load true 7 (.t 2), none, []⟩,
  ⟨some 19, .build [(.int .i64 0), (.int .i64 0), (.str []), (.str []), (.slice 0 [] .full), (.slice 0 [] .full), (.slice 0 [] .full), (.slice 0 [] .full)] [(0, 7, (.t 18))], none, []⟩,
  ⟨some 20, .mv (.t 1), none, []⟩,
  ⟨some 21, .call (.f 48) [(.t 19), (.t 20)], none, []⟩,
  ⟨some 17, .mv (.t 21), none, []⟩,
  ⟨some 22, .extract (.t 17) 0, none, []⟩,
  ⟨some 23, .extract (.t 17) 1, none, []⟩,
  ⟨some 24, .extract (.t 17) 2, none, []⟩,
  ⟨some 8, .mv (.t 22), none, []⟩,
  ⟨some 9, .mv (.t 23), none, []⟩,
  ⟨some 10, .mv (.t 24), none, []⟩]) (.seq (.block 0 (.seq (.reg false [
  ⟨some 26, .mv (.t 10), none, []⟩,
  ⟨some 27, .bin .neq (.t 26) (.c (.int .i64 0)), none, []⟩,
  ⟨some 25, .mv (.t 27), none, []⟩]) (.cond (.t 25) (.seq (.reg false [
  ⟨some 28, .mv (.t 9), none, []⟩,
  ⟨some 29, .mv (.t 10), none, []⟩,
  ⟨some 4, .mv (.c (.int .i64 0)), none, []⟩,
  ⟨some 5, .mv (.t 28), none, []⟩,
  ⟨some 6, .mv (.t 29), none, []⟩]) (.ret)) (.seq (.reg false [
  ⟨some 31, .mv (.t 8), none, []⟩,
  ⟨some 32, .nilchk (.t 31), none, []⟩,
  ⟨some 33, .fieldA 2 (.t 32), none, []⟩,
  ⟨some 34, .idxA 2 1 (.t 33) (.c (.int .i64 0)), none, []⟩,
  ⟨some 35, .load false 1 (.t 34), none, []⟩,
  ⟨some 36, .bin .gtr (.t 35) (.c (.int .i64 0)), none, []⟩,
  ⟨some 37, .mv (.t 36), none, []⟩,
  ⟨some 38, .mv (.t 8), some (37, true), []⟩,
  ⟨some 39, .nilchk (.t 38), some (37, true), []⟩,
  ⟨some 40, .fieldA 2 (.t 39), some (37, true), []⟩,
  ⟨some 41, .idxA 2 1 (.t 40) (.c (.int .i64 1)), some (37, true), []⟩,
  ⟨some 42, .load false 1 (.t 41), some (37, true), []⟩,
  ⟨some 43, .bin .gtr (.t 42) (.c (.int .i64 0)), some (37, true), []⟩,
  ⟨some 44, .pick (.t 37) (.t 43) (.c (.bool false)), none, []⟩,
  ⟨some 30, .mv (.t 44), none, []⟩]) (.cond (.t 30) (.seq (.reg false [
  ⟨some 4, .mv (.c (.int .i64 2)), none, []⟩,
  ⟨some 5, .mv (.c (.slice 0 [] .full)), none, []⟩,
  ⟨some 6, .mv (.c (.int .i64 0)), none, []⟩]) (.ret)) (.seq (.reg false [
  ⟨some 46, .mv (.t 8), none, []⟩,
  ⟨some 47, .nilchk (.t 46), none, []⟩,
  ⟨some 48, .fieldA 2 (.t 47), none, []⟩,
  ⟨some 49, .idxA 2 1 (.t 48) (.c (.int .i64 0)), none, []⟩,
  ⟨some 50, .load false 1 (.t 49), none, []⟩,
  ⟨some 51, .bin .gtr (.t 50) (.c (.int .i64 0)), none, []⟩,
  ⟨some 45, .mv (.t 51), none, []⟩]) (.cond (.t 45) (.seq (.reg false [
  ⟨some 4, .mv (.c (.int .i64 0)), none, []⟩,
  ⟨some 5, .mv (.c (.slice 0 [] .full)), none, []⟩,
  ⟨some 6, .mv (.c (.int .i64 0)), none, []⟩]) (.ret)) (.seq (.reg false [
  ⟨some 53, .mv (.t 8), none, []⟩,
  ⟨some 54, .nilchk (.t 53), none, []⟩,
  ⟨some 55, .fieldA 2 (.t 54), none, []⟩,
  ⟨some 56, .idxA 2 1 (.t 55) (.c (.int .i64 1)), none, []⟩,
  ⟨some 57, .load false 1 (.t 56), none, []⟩,
  ⟨some 58, .bin .gtr (.t 57) (.c (.int .i64 0)), none, []⟩,
  ⟨some 52, .mv (.t 58), none, []⟩]) (.cond (.t 52) (.seq (.reg false [
  ⟨some 4, .mv (.c (.int .i64 1)), none, []⟩,
  ⟨some 5, .mv (.c (.slice 0 [] .full)), none, []⟩,
  ⟨some 6, .mv (.c (.int .i64 0)), none, []⟩]) (.ret)) (.skip)))))))))) (.seq (.reg false [
  ⟨some 4, .mv (.c (.int .i64 3)), none, []⟩,
  ⟨some 5, .mv (.c (.slice 0 [] .full)), none, []⟩,
  ⟨some 6, .mv (.c (.int .i64 0)), none, []⟩]) (.ret))))))⟩
def h17 : Hint := { cb := [], ps := [], cp := [], cs := [], ap := [] }
def c17 : AF := ⟨2, 26, [.tmp 4],
 (.seq (.reg false [
  ⟨some 4, .mv (.c (.bool false)), none, []⟩]) (.seq (.seq (.reg false [
  ⟨some 6, .mv (.t 0), none, []⟩,
  ⟨some 7, .lenS (.t 6), none, []⟩,
  ⟨some 8, .mv (.t 1), none, []⟩,
  ⟨some 9, .lenS (.t 8), none, []⟩,
  ⟨some 10, .bin .neq (.t 7) (.t 9), none, []⟩]) (.cond (.t 10) (.seq (.reg false [
  ⟨some 4, .mv (.c (.bool false)), none, []⟩]) (.ret)) (.skip))) (.seq (.seq (.reg false [
  ⟨some 5, .mv (.c (.int .i64 0)), none, []⟩]) (.block 0 (.loop (.seq (.seq (.reg false [
  ⟨some 11, .mv (.t 5), none, []⟩,
  ⟨some 12, .mv (.t 0), none, []⟩,
  ⟨some 13, .lenS (.t 12), none, []⟩,
  ⟨some 14, .bin .lss (.t 11) (.t 13), none, []⟩]) (.cond (.t 14) (.skip) (.exit 0))) (.seq (.block 1 (.seq (.reg true [
  ⟨some 17, .mv (.t 0), none, []⟩,
  ⟨some 18, .mv (.t 5), none, []⟩,
  ⟨some 19, .idxS 1 (.t 17) (.t 18), none, [0, 1]⟩,
  ⟨some 20, .load false 1 (.t 19), none, [2, 0, 1]⟩,
  ⟨some 21, .mv (.t 1), none, []⟩,
  ⟨some 22, .mv (.t 5), none, []⟩,
  ⟨some 23, .idxS 1 (.t 21) (.t 22), none, [4, 5]⟩,
  ⟨some 24, .load false 1 (.t 23), none, [6, 4, 5]⟩,
  ⟨some 25, .bin .neq (.t 20) (.t 24), none, [3, 2, 0, 1, 7, 6, 4, 5]⟩]) (.cond (.t 25) (.seq (.reg false [
  ⟨some 4, .mv (.c (.bool false)), none, []⟩]) (.ret)) (.skip)))) (.reg false [
  ⟨some 15, .mv (.t 5), none, []⟩,
  ⟨some 16, .bin .add (.t 15) (.c (.int .i64 1)), none, []⟩,
  ⟨some 5, .mv (.t 16), none, []⟩])))))) (.seq (.reg false [
  ⟨some 4, .mv (.c (.bool true)), none, []⟩]) (.ret)))))⟩
def h18 : Hint := { cb := [2], ps := [], cp := [12], cs := [], ap := [] }
def c18 : AF := ⟨2, 31, [.tmp 4, .tmp 5],
 (.seq (.reg false [
  ⟨some 2, .boxc (.t 0), none, []⟩,
  ⟨some 4, .mv (.c (.slice 0 [] .full)), none, []⟩,
  ⟨some 5, .mv (.c (.int .i64 0)), none, []⟩]) (.seq (.seq (.reg false [
  ⟨some 10, .load true 7 (.t 2), none, []⟩,
  ⟨some 11, .mv (.t 1), none, []⟩,
  ⟨some 12, .callP false (.f 46) [(.t 10), (.t 11)], none, []⟩,
  ⟨some 6, .mv (.t 12), none, []⟩]) (.seq (.reg false [
  ⟨some 13, .mv (.t 6), none, []⟩,
  ⟨some 14, .bin .neq (.t 13) (.c (.int .i64 0)), none, []⟩]) (.cond (.t 14) (.seq (.reg false [
  ⟨some 15, .mv (.t 6), none, []⟩,
  ⟨some 4, .mv (.c (.slice 0 [] .full)), none, []⟩,
  ⟨some 5, .mv (.t 15), none, []⟩]) (.ret)) (.skip)))) (.seq (.reg false [
  ⟨some 17, .load true 7 (.t 2), none, []⟩,
  ⟨some 18, .build [(.int .i64 0), (.int .i64 0), (.str []), (.str []), (.slice 0 [] .full), (.slice 0 [] .full), (.slice 0 [] .full), (.slice 0 [] .full)] [(0, 7, (.t 17))], none, []⟩,
  ⟨some 19, .mv (.t 1), none, []⟩,
  ⟨some 20, .call (.f 48) [(.t 18), (.t 19)], none, []⟩,
  ⟨some 16, .mv (.t 20), none, []⟩,
  ⟨some 21, .extract (.t 16) 0, none, []⟩,
  ⟨some 22, .extract (.t 16) 1, none, []⟩,
  ⟨some 23, .extract (.t 16) 2, none, []⟩,
  ⟨some 7, .mv (.t 21), none, []⟩,
  ⟨some 8, .mv (.t 22), none, []⟩,
  ⟨some 9, .mv (.t 23), none, []⟩]) (.seq (.seq (.reg false [
  ⟨some 24, .mv (.t 9), none, []⟩,
  ⟨some 25, .bin .neq (.t 24) (.c (.int .i64 0)), none, []⟩]) (.cond (.t 25) (.seq (.reg false [
  ⟨some 26, .mv (.t 9), none, []⟩,
  ⟨some 4, .mv (.c (.slice 0 [] .full)), none, []⟩,
  ⟨some 5, .mv (.t 26), none, []⟩]) (.ret)) (.skip))) (.seq (.reg false [
  ⟨some 27, .mv (.t 7), none, []⟩,
  ⟨some 28, .nilchk (.t 27), none, []⟩,
  ⟨some 29, .fieldA 1 (.t 28), none, []⟩,
  ⟨some 30, .load false 1 (.t 29), none, []⟩,
  ⟨some 4, .mv (.t 30), none, []⟩,
  ⟨some 5, .mv (.c (.int .i64 0)), none, []⟩]) (.ret))))))⟩
def h20 : Hint := { cb := [], ps := [], cp := [25], cs := [], ap := [] }
def c20 : AF := ⟨2, 27, [.tmp 4],
 (.seq (.reg false [
  ⟨some 4, .mv (.c (.bool false)), none, []⟩]) (.seq (.seq (.reg false [
  ⟨some 6, .mv (.t 0), none, []⟩,
  ⟨some 7, .lenS (.t 6), none, []⟩,
  ⟨some 8, .mv (.t 1), none, []⟩,
  ⟨some 9, .lenS (.t 8), none, []⟩,
  ⟨some 10, .bin .neq (.t 7) (.t 9), none, []⟩]) (.cond (.t 10) (.seq (.reg false [
  ⟨some 4, .mv (.c (.bool false)), none, []⟩]) (.ret)) (.skip))) (.seq (.seq (.reg false [
  ⟨some 5, .mv (.c (.int .i64 0)), none, []⟩]) (.block 0 (.loop (.seq (.seq (.reg false [
  ⟨some 11, .mv (.t 5), none, []⟩,
  ⟨some 12, .mv (.t 0), none, []⟩,
  ⟨some 13, .lenS (.t 12), none, []⟩,
  ⟨some 14, .bin .lss (.t 11) (.t 13), none, []⟩]) (.cond (.t 14) (.skip) (.exit 0))) (.seq (.block 1 (.seq (.reg true [
  ⟨some 17, .mv (.t 0), none, []⟩,
  ⟨some 18, .mv (.t 5), none, []⟩,
  ⟨some 19, .idxS 1 (.t 17) (.t 18), none, [0, 1]⟩,
  ⟨some 20, .load false 1 (.t 19), none, [2, 0, 1]⟩,
  ⟨some 21, .mv (.t 1), none, []⟩,
  ⟨some 22, .mv (.t 5), none, []⟩,
  ⟨some 23, .idxS 1 (.t 21) (.t 22), none, [4, 5]⟩,
  ⟨some 24, .load false 1 (.t 23), none, [6, 4, 5]⟩,
  ⟨some 25, .callP false (.f 17) [(.t 20), (.t 24)], none, [3, 2, 0, 1, 7, 6, 4, 5]⟩,
  ⟨some 26, .un .not (.t 25), none, [8, 3, 2, 0, 1, 7, 6, 4, 5]⟩]) (.cond (.t 26) (.seq (.reg false [
  ⟨some 4, .mv (.c (.bool false)), none, []⟩]) (.ret)) (.skip)))) (.reg false [
  ⟨some 15, .mv (.t 5), none, []⟩,
  ⟨some 16, .bin .add (.t 15) (.c (.int .i64 1)), none, []⟩,
  ⟨some 5, .mv (.t 16), none, []⟩])))))) (.seq (.reg false [
  ⟨some 4, .mv (.c (.bool true)), none, []⟩]) (.ret)))))⟩
def h21 : Hint := { cb := [], ps := [1], cp := [183, 178, 173, 166, 107, 106, 102, 101, 99, 98, 94, 93, 91, 90, 86, 85, 84, 83, 82, 78, 77, 76, 75, 74, 73, 69, 68, 67, 66, 65, 64, 60, 54, 53, 52, 51, 46, 41, 40, 36, 35, 34, 33, 31, 30, 29, 28, 27, 26], cs := [], ap := [] }
def c21 : AF := ⟨0, 185, [.tmp 0],
 (.seq (.reg false [
  ⟨some 0, .mv (.c (.bool false)), none, []⟩]) (.seq (.reg false [
  ⟨some 26, .callP false (.f 26) [(.c (.str [98]))], none, []⟩,
  ⟨some 27, .callP false (.f 28) [(.c (.str [107]))], none, []⟩,
  ⟨some 28, .callP false (.f 29) [(.c (.str [107]))], none, []⟩,
  ⟨some 29, .callP false (.f 27) [], none, []⟩,
  ⟨some 30, .callP false (.f 30) [(.c (.str [117])), (.t 28), (.t 29)], none, []⟩,
  ⟨some 31, .callP false (.f 44) [(.t 26), (.t 27), (.t 30)], none, []⟩,
  ⟨some 1, .pend [(.int .i64 0), (.int .i64 0), (.str []), (.str []), (.slice 0 [] .full), (.slice 0 [] .full), (.slice 0 [] .full)], none, []⟩,
  ⟨none, .shut 1 7 (.t 31), none, []⟩]) (.seq (.reg false [
  ⟨some 33, .callP false (.f 27) [], none, []⟩,
  ⟨some 34, .callP false (.f 26) [(.c (.str [121]))], none, []⟩,
  ⟨some 35, .callP false (.f 30) [(.c (.str [121])), (.t 33), (.t 34)], none, []⟩,
  ⟨some 36, .callP false (.f 13) [(.t 35), (.c (.str [107]))], none, []⟩,
  ⟨some 32, .mv (.t 36), none, []⟩,
  ⟨some 37, .extract (.t 32) 0, none, []⟩,
  ⟨some 38, .extract (.t 32) 1, none, []⟩,
  ⟨some 2, .mv (.t 37), none, []⟩,
  ⟨some 3, .mv (.t 38), none, []⟩]) (.seq (.reg false [
  ⟨some 40, .callP false (.f 26) [(.c (.str [107]))], none, []⟩,
  ⟨some 41, .callP false (.f 13) [(.t 40), (.c (.str [107]))], none, []⟩,
  ⟨some 39, .mv (.t 41), none, []⟩,
  ⟨some 42, .extract (.t 39) 0, none, []⟩,
  ⟨some 43, .extract (.t 39) 1, none, []⟩,
  ⟨some 4, .mv (.t 42), none, []⟩,
  ⟨some 5, .mv (.t 43), none, []⟩]) (.seq (.reg false [
  ⟨some 45, .load true 7 (.t 1), none, []⟩,
  ⟨some 46, .callP false (.f 15) [(.t 45), (.c (.str [107]))], none, []⟩,
  ⟨some 44, .mv (.t 46), none, []⟩,
  ⟨some 47, .extract (.t 44) 0, none, []⟩,
  ⟨some 48, .extract (.t 44) 1, none, []⟩,
  ⟨some 49, .extract (.t 44) 2, none, []⟩,
  ⟨some 6, .mv (.t 47), none, []⟩,
  ⟨some 7, .mv (.t 48), none, []⟩,
  ⟨some 8, .mv (.t 49), none, []⟩]) (.seq (.reg false [
  ⟨some 51, .callP false (.f 28) [(.c (.str [107]))], none, []⟩,
  ⟨some 52, .callP false (.f 28) [(.c (.str [107]))], none, []⟩,
  ⟨some 53, .callP false (.f 30) [(.c (.str [121])), (.t 51), (.t 52)], none, []⟩,
  ⟨some 54, .callP false (.f 15) [(.t 53), (.c (.str [107]))], none, []⟩,
  ⟨some 50, .mv (.t 54), none, []⟩,
  ⟨some 55, .extract (.t 50) 0, none, []⟩,
  ⟨some 56, .extract (.t 50) 1, none, []⟩,
  ⟨some 57, .extract (.t 50) 2, none, []⟩,
  ⟨some 9, .mv (.t 55), none, []⟩,
  ⟨some 10, .mv (.t 56), none, []⟩,
  ⟨some 11, .mv (.t 57), none, []⟩]) (.seq (.reg false [
  ⟨some 59, .load true 7 (.t 1), none, []⟩,
  ⟨some 60, .callP false (.f 18) [(.t 59), (.c (.str [107]))], none, []⟩,
  ⟨some 58, .mv (.t 60), none, []⟩,
  ⟨some 61, .extract (.t 58) 0, none, []⟩,
  ⟨some 62, .extract (.t 58) 1, none, []⟩,
  ⟨some 12, .mv (.t 61), none, []⟩,
  ⟨some 13, .mv (.t 62), none, []⟩]) (.seq (.reg false [
  ⟨some 64, .callP false (.f 27) [], none, []⟩,
  ⟨some 65, .callP false (.f 31) [(.t 64)], none, []⟩,
  ⟨some 66, .callP false (.f 28) [(.c (.str [107]))], none, []⟩,
  ⟨some 67, .callP false (.f 54) [], none, []⟩,
  ⟨some 68, .callP false (.f 53) [(.t 66), (.t 67)], none, []⟩,
  ⟨some 69, .callP false (.f 22) [(.t 65), (.t 68)], none, []⟩,
  ⟨some 63, .mv (.t 69), none, []⟩,
  ⟨some 70, .extract (.t 63) 0, none, []⟩,
  ⟨some 71, .extract (.t 63) 1, none, []⟩,
  ⟨some 14, .mv (.t 70), none, []⟩,
  ⟨some 15, .mv (.t 71), none, []⟩]) (.seq (.reg false [
  ⟨some 73, .callP false (.f 27) [], none, []⟩,
  ⟨some 74, .callP false (.f 31) [(.t 73)], none, []⟩,
  ⟨some 75, .callP false (.f 26) [(.c (.str [120]))], none, []⟩,
  ⟨some 76, .callP false (.f 54) [], none, []⟩,
  ⟨some 77, .callP false (.f 53) [(.t 75), (.t 76)], none, []⟩,
  ⟨some 78, .callP false (.f 22) [(.t 74), (.t 77)], none, []⟩,
  ⟨some 72, .mv (.t 78), none, []⟩,
  ⟨some 79, .extract (.t 72) 0, none, []⟩,
  ⟨some 80, .extract (.t 72) 1, none, []⟩,
  ⟨some 16, .mv (.t 79), none, []⟩,
  ⟨some 17, .mv (.t 80), none, []⟩]) (.seq (.reg false [
  ⟨some 82, .callP false (.f 28) [(.c (.str [107]))], none, []⟩,
  ⟨some 83, .callP false (.f 28) [(.c (.str [107]))], none, []⟩,
  ⟨some 84, .callP false (.f 53) [(.t 82), (.t 83)], none, []⟩,
  ⟨some 85, .callP false (.f 31) [(.t 84)], none, []⟩,
  ⟨some 86, .callP false (.f 24) [(.t 85)], none, []⟩,
  ⟨some 81, .mv (.t 86), none, []⟩,
  ⟨some 87, .extract (.t 81) 0, none, []⟩,
  ⟨some 88, .extract (.t 81) 1, none, []⟩,
  ⟨some 18, .mv (.t 87), none, []⟩,
  ⟨some 19, .mv (.t 88), none, []⟩]) (.seq (.reg false [
  ⟨some 90, .callP false (.f 27) [], none, []⟩,
  ⟨some 91, .callP false (.f 31) [(.t 90)], none, []⟩,
  ⟨some 92, .bslice 1 1 [(.str [])] [(0, (.c (.str [84, 105, 99, 107])))], none, []⟩,
  ⟨some 93, .callP false (.f 55) [(.t 92)], none, []⟩,
  ⟨some 94, .callP false (.f 22) [(.t 91), (.t 93)], none, []⟩,
  ⟨some 89, .mv (.t 94), none, []⟩,
  ⟨some 95, .extract (.t 89) 0, none, []⟩,
  ⟨some 96, .extract (.t 89) 1, none, []⟩,
  ⟨some 20, .mv (.t 95), none, []⟩,
  ⟨some 21, .mv (.t 96), none, []⟩]) (.seq (.reg false [
  ⟨some 98, .callP false (.f 27) [], none, []⟩,
  ⟨some 99, .callP false (.f 31) [(.t 98)], none, []⟩,
  ⟨some 100, .bslice 1 2 [(.str [])] [(0, (.c (.str [84, 105, 99, 107]))), (1, (.c (.str [65, 115, 107])))], none, []⟩,
  ⟨some 101, .callP false (.f 55) [(.t 100)], none, []⟩,
  ⟨some 102, .callP false (.f 22) [(.t 99), (.t 101)], none, []⟩,
  ⟨some 97, .mv (.t 102), none, []⟩,
  ⟨some 103, .extract (.t 97) 0, none, []⟩,
  ⟨some 104, .extract (.t 97) 1, none, []⟩,
  ⟨some 22, .mv (.t 103), none, []⟩,
  ⟨some 23, .mv (.t 104), none, []⟩]) (.seq (.reg false [
  ⟨some 106, .callP false (.f 27) [], none, []⟩,
  ⟨some 107, .callP false (.f 13) [(.t 106), (.c (.str [75]))], none, []⟩,
  ⟨some 105, .mv (.t 107), none, []⟩,
  ⟨some 108, .extract (.t 105) 0, none, []⟩,
  ⟨some 109, .extract (.t 105) 1, none, []⟩,
  ⟨some 24, .mv (.t 108), none, []⟩,
  ⟨some 25, .mv (.t 109), none, []⟩]) (.seq (.reg false [
  ⟨some 110, .mv (.t 3), none, []⟩,
  ⟨some 111, .bin .eql (.t 110) (.c (.int .i64 0)), none, []⟩,
  ⟨some 112, .mv (.t 111), none, []⟩,
  ⟨some 113, .mv (.t 5), some (112, true), []⟩,
  ⟨some 114, .bin .eql (.t 113) (.c (.int .i64 0)), some (112, true), []⟩,
  ⟨some 115, .pick (.t 112) (.t 114) (.c (.bool false)), none, []⟩,
  ⟨some 116, .mv (.t 115), none, []⟩,
  ⟨some 117, .mv (.t 8), some (116, true), []⟩,
  ⟨some 118, .bin .eql (.t 117) (.c (.int .i64 0)), some (116, true), []⟩,
  ⟨some 119, .pick (.t 116) (.t 118) (.c (.bool false)), none, []⟩,
  ⟨some 120, .mv (.t 119), none, []⟩,
  ⟨some 121, .mv (.t 11), some (120, true), []⟩,
  ⟨some 122, .bin .eql (.t 121) (.c (.int .i64 10)), some (120, true), []⟩,
  ⟨some 123, .pick (.t 120) (.t 122) (.c (.bool false)), none, []⟩,
  ⟨some 124, .mv (.t 123), none, []⟩,
  ⟨some 125, .mv (.t 13), some (124, true), []⟩,
  ⟨some 126, .bin .eql (.t 125) (.c (.int .i64 0)), some (124, true), []⟩,
  ⟨some 127, .pick (.t 124) (.t 126) (.c (.bool false)), none, []⟩,
  ⟨some 128, .mv (.t 127), none, []⟩,
  ⟨some 129, .mv (.t 15), some (128, true), []⟩,
  ⟨some 130, .bin .eql (.t 129) (.c (.int .i64 0)), some (128, true), []⟩,
  ⟨some 131, .pick (.t 128) (.t 130) (.c (.bool false)), none, []⟩,
  ⟨some 132, .mv (.t 131), none, []⟩,
  ⟨some 133, .mv (.t 17), some (132, true), []⟩,
  ⟨some 134, .bin .eql (.t 133) (.c (.int .i64 10)), some (132, true), []⟩,
  ⟨some 135, .pick (.t 132) (.t 134) (.c (.bool false)), none, []⟩,
  ⟨some 136, .mv (.t 135), none, []⟩,
  ⟨some 137, .mv (.t 19), some (136, true), []⟩,
  ⟨some 138, .bin .eql (.t 137) (.c (.int .i64 10)), some (136, true), []⟩,
  ⟨some 139, .pick (.t 136) (.t 138) (.c (.bool false)), none, []⟩,
  ⟨some 140, .mv (.t 139), none, []⟩,
  ⟨some 141, .mv (.t 21), some (140, true), []⟩,
  ⟨some 142, .bin .eql (.t 141) (.c (.int .i64 0)), some (140, true), []⟩,
  ⟨some 143, .pick (.t 140) (.t 142) (.c (.bool false)), none, []⟩,
  ⟨some 144, .mv (.t 143), none, []⟩,
  ⟨some 145, .mv (.t 23), some (144, true), []⟩,
  ⟨some 146, .bin .eql (.t 145) (.c (.int .i64 10)), some (144, true), []⟩,
  ⟨some 147, .pick (.t 144) (.t 146) (.c (.bool false)), none, []⟩,
  ⟨some 148, .mv (.t 147), none, []⟩,
  ⟨some 149, .mv (.t 25), some (148, true), []⟩,
  ⟨some 150, .bin .eql (.t 149) (.c (.int .i64 4)), some (148, true), []⟩,
  ⟨some 151, .pick (.t 148) (.t 150) (.c (.bool false)), none, []⟩,
  ⟨some 152, .mv (.t 151), none, []⟩,
  ⟨some 153, .mv (.t 2), some (152, true), []⟩,
  ⟨some 154, .pick (.t 152) (.t 153) (.c (.bool false)), none, []⟩,
  ⟨some 155, .mv (.t 154), none, []⟩,
  ⟨some 156, .mv (.t 4), some (155, true), []⟩,
  ⟨some 157, .un .not (.t 156), some (155, true), []⟩,
  ⟨some 158, .pick (.t 155) (.t 157) (.c (.bool false)), none, []⟩,
  ⟨some 159, .mv (.t 158), none, []⟩,
  ⟨some 160, .mv (.t 6), some (159, true), []⟩,
  ⟨some 161, .bin .eql (.t 160) (.c (.int .i64 2)), some (159, true), []⟩,
  ⟨some 162, .pick (.t 159) (.t 161) (.c (.bool false)), none, []⟩,
  ⟨some 163, .mv (.t 162), none, []⟩,
  ⟨some 164, .mv (.t 10), some (163, true), []⟩,
  ⟨some 165, .bslice 1 1 [(.int .i64 0)] [(0, (.c (.int .i64 1)))], some (163, true), []⟩,
  ⟨some 166, .callP false (.f 17) [(.t 164), (.t 165)], some (163, true), []⟩,
  ⟨some 167, .pick (.t 163) (.t 166) (.c (.bool false)), none, []⟩,
  ⟨some 168, .mv (.t 167), none, []⟩,
  ⟨some 169, .mv (.t 12), some (168, true), []⟩,
  ⟨some 170, .bslice 1 1 [(.int .i64 0)] [(0, (.c (.int .i64 1)))], some (168, true), []⟩,
  ⟨some 171, .bslice 1 2 [(.int .i64 0)] [(0, (.c (.int .i64 2))), (1, (.c (.int .i64 0)))], some (168, true), []⟩,
  ⟨some 172, .bslice 1 2 [(.slice 0 [] .full)] [(0, (.t 170)), (1, (.t 171))], some (168, true), []⟩,
  ⟨some 173, .callP false (.f 20) [(.t 169), (.t 172)], some (168, true), []⟩,
  ⟨some 174, .pick (.t 168) (.t 173) (.c (.bool false)), none, []⟩,
  ⟨some 175, .mv (.t 174), none, []⟩,
  ⟨some 176, .mv (.t 16), some (175, true), []⟩,
  ⟨some 177, .bslice 1 1 [(.int .i64 0)] [(0, (.c (.int .i64 2)))], some (175, true), []⟩,
  ⟨some 178, .callP false (.f 17) [(.t 176), (.t 177)], some (175, true), []⟩,
  ⟨some 179, .pick (.t 175) (.t 178) (.c (.bool false)), none, []⟩,
  ⟨some 180, .mv (.t 179), none, []⟩,
  ⟨some 181, .mv (.t 18), some (180, true), []⟩,
  ⟨some 182, .bslice 1 2 [(.int .i64 0)] [(0, (.c (.int .i64 0))), (1, (.c (.int .i64 3)))], some (180, true), []⟩,
  ⟨some 183, .callP false (.f 17) [(.t 181), (.t 182)], some (180, true), []⟩,
  ⟨some 184, .pick (.t 180) (.t 183) (.c (.bool false)), none, []⟩,
  ⟨some 0, .mv (.t 184), none, []⟩]) (.ret)))))))))))))))⟩
def h22 : Hint := { cb := [3, 2], ps := [], cp := [17, 9], cs := [], ap := [] }
def c22 : AF := ⟨2, 20, [.tmp 4, .tmp 5],
 (.seq (.reg false [
  ⟨some 2, .boxc (.t 0), none, []⟩,
  ⟨some 3, .boxc (.t 1), none, []⟩,
  ⟨some 4, .mv (.c (.slice 0 [] .full)), none, []⟩,
  ⟨some 5, .mv (.c (.int .i64 0)), none, []⟩]) (.seq (.seq (.reg false [
  ⟨some 7, .load true 10 (.t 2), none, []⟩,
  ⟨some 8, .load true 7 (.t 3), none, []⟩,
  ⟨some 9, .callP false (.f 56) [(.t 7), (.t 8)], none, []⟩,
  ⟨some 6, .mv (.t 9), none, []⟩]) (.seq (.reg false [
  ⟨some 10, .mv (.t 6), none, []⟩,
  ⟨some 11, .bin .neq (.t 10) (.c (.int .i64 0)), none, []⟩]) (.cond (.t 11) (.seq (.reg false [
  ⟨some 12, .mv (.t 6), none, []⟩,
  ⟨some 4, .mv (.c (.slice 0 [] .full)), none, []⟩,
  ⟨some 5, .mv (.t 12), none, []⟩]) (.ret)) (.skip)))) (.seq (.reg false [
  ⟨some 13, .load true 10 (.t 2), none, []⟩,
  ⟨some 14, .build [(.slice 0 [] .full), (.slice 0 [] .full), (.slice 0 [] .full), (.int .i64 0), (.int .i64 0), (.str []), (.str []), (.slice 0 [] .full), (.slice 0 [] .full), (.slice 0 [] .full)] [(0, 10, (.t 13))], none, []⟩,
  ⟨some 15, .load true 7 (.t 3), none, []⟩,
  ⟨some 16, .build [(.int .i64 0), (.int .i64 0), (.str []), (.str []), (.slice 0 [] .full), (.slice 0 [] .full), (.slice 0 [] .full), (.slice 0 [] .full)] [(0, 7, (.t 15))], none, []⟩,
  ⟨some 17, .callP false (.f 57) [(.t 14), (.t 16)], none, []⟩,
  ⟨some 18, .extract (.t 17) 0, none, []⟩,
  ⟨some 19, .extract (.t 17) 1, none, []⟩,
  ⟨some 4, .mv (.t 18), none, []⟩,
  ⟨some 5, .mv (.t 19), none, []⟩]) (.ret))))⟩
def h24 : Hint := { cb := [1], ps := [], cp := [41, 10], cs := [], ap := [] }
def c24 : AF := ⟨1, 49, [.tmp 2, .tmp 3],
 (.seq (.reg false [
  ⟨some 1, .boxc (.t 0), none, []⟩,
  ⟨some 2, .mv (.c (.slice 0 [] .full)), none, []⟩,
  ⟨some 3, .mv (.c (.int .i64 0)), none, []⟩]) (.seq (.seq (.reg false [
  ⟨some 9, .load true 10 (.t 1), none, []⟩,
  ⟨some 10, .callP false (.f 58) [(.t 9)], none, []⟩,
  ⟨some 4, .mv (.t 10), none, []⟩]) (.seq (.reg false [
  ⟨some 11, .mv (.t 4), none, []⟩,
  ⟨some 12, .bin .neq (.t 11) (.c (.int .i64 0)), none, []⟩]) (.cond (.t 12) (.seq (.reg false [
  ⟨some 13, .mv (.t 4), none, []⟩,
  ⟨some 2, .mv (.c (.slice 0 [] .full)), none, []⟩,
  ⟨some 3, .mv (.t 13), none, []⟩]) (.ret)) (.skip)))) (.seq (.seq (.reg false [
  ⟨some 14, .fieldA 2 (.t 1), none, []⟩,
  ⟨some 15, .load false 1 (.t 14), none, []⟩,
  ⟨some 16, .lenS (.t 15), none, []⟩,
  ⟨some 17, .bin .add (.t 16) (.c (.int .i64 1)), none, []⟩,
  ⟨some 18, .mv (.c (.int .i64 0)), none, []⟩]) (.block 0 (.loop (.seq (.reg false [
  ⟨some 19, .bin .lss (.t 18) (.t 17), none, []⟩]) (.seq (.cond (.t 19) (.skip) (.exit 0)) (.seq (.block 1 (.seq (.reg false [
  ⟨some 20, .mv (.t 18), none, []⟩,
  ⟨some 5, .mv (.t 20), none, []⟩]) (.seq (.reg false [
  ⟨some 21, .fieldA 3 (.t 1), none, []⟩,
  ⟨some 22, .load true 7 (.t 21), none, []⟩,
  ⟨some 6, .alloc [(.int .i64 0), (.int .i64 0), (.str []), (.str []), (.slice 0 [] .full), (.slice 0 [] .full), (.slice 0 [] .full)], none, []⟩,
  ⟨none, .store 7 (.t 6) (.t 22), none, []⟩]) (.seq (.seq (.reg false [
  ⟨some 23, .mv (.t 5), none, []⟩,
  ⟨some 24, .fieldA 2 (.t 1), none, []⟩,
  ⟨some 25, .load false 1 (.t 24), none, []⟩,
  ⟨some 26, .lenS (.t 25), none, []⟩,
  ⟨some 27, .bin .lss (.t 23) (.t 26), none, []⟩]) (.cond (.t 27) (.reg false [
  ⟨some 28, .fieldA 2 (.t 1), none, []⟩,
  ⟨some 29, .load false 1 (.t 28), none, []⟩,
  ⟨some 30, .mv (.t 5), none, []⟩,
  ⟨some 31, .idxS 8 (.t 29) (.t 30), none, []⟩,
  ⟨some 32, .fieldA 1 (.t 31), none, []⟩,
  ⟨some 33, .load true 7 (.t 32), none, []⟩,
  ⟨none, .store 7 (.t 6) (.t 33), none, []⟩]) (.skip))) (.seq (.reg false [
  ⟨some 35, .load true 10 (.t 1), none, []⟩,
  ⟨some 36, .build [(.slice 0 [] .full), (.slice 0 [] .full), (.slice 0 [] .full), (.int .i64 0), (.int .i64 0), (.str []), (.str []), (.slice 0 [] .full), (.slice 0 [] .full), (.slice 0 [] .full)] [(0, 10, (.t 35))], none, []⟩,
  ⟨some 37, .load true 7 (.t 6), none, []⟩,
  ⟨some 38, .mv (.t 5), none, []⟩,
  ⟨some 39, .bslice 1 1 [(.int .i64 0)] [(0, (.t 38))], none, []⟩,
  ⟨some 40, .build [(.int .i64 0), (.int .i64 0), (.str []), (.str []), (.slice 0 [] .full), (.slice 0 [] .full), (.slice 0 [] .full), (.slice 0 [] .full)] [(0, 7, (.t 37)), (7, 1, (.t 39))], none, []⟩,
  ⟨some 41, .callP false (.f 57) [(.t 36), (.t 40)], none, []⟩,
  ⟨some 34, .mv (.t 41), none, []⟩,
  ⟨some 42, .extract (.t 34) 0, none, []⟩,
  ⟨some 43, .extract (.t 34) 1, none, []⟩,
  ⟨some 7, .mv (.t 42), none, []⟩,
  ⟨some 8, .mv (.t 43), none, []⟩]) (.seq (.reg false [
  ⟨some 44, .mv (.t 8), none, []⟩,
  ⟨some 45, .bin .neq (.t 44) (.c (.int .i64 0)), none, []⟩]) (.cond (.t 45) (.seq (.reg false [
  ⟨some 46, .mv (.t 7), none, []⟩,
  ⟨some 47, .mv (.t 8), none, []⟩,
  ⟨some 2, .mv (.t 46), none, []⟩,
  ⟨some 3, .mv (.t 47), none, []⟩]) (.ret)) (.skip)))))))) (.reg false [
  ⟨some 48, .bin .add (.t 18) (.c (.int .i64 1)), none, []⟩,
  ⟨some 18, .mv (.t 48), none, []⟩]))))))) (.seq (.reg false [
  ⟨some 2, .mv (.c (.slice 0 [] .full)), none, []⟩,
  ⟨some 3, .mv (.c (.int .i64 0)), none, []⟩]) (.ret)))))⟩
def h26 : Hint := { cb := [], ps := [], cp := [], cs := [], ap := [] }
def c26 : AF := ⟨1, 5, [.cell 2 true 7],
 (.seq (.reg false [
  ⟨some 2, .alloc [(.int .i64 0), (.int .i64 0), (.str []), (.str []), (.slice 0 [] .full), (.slice 0 [] .full), (.slice 0 [] .full)], none, []⟩]) (.seq (.reg false [
  ⟨some 3, .mv (.t 0), none, []⟩,
  ⟨some 4, .build [(.int .i64 0), (.int .i64 0), (.str []), (.str []), (.slice 0 [] .full), (.slice 0 [] .full), (.slice 0 [] .full)] [(0, 1, (.c (.int .i64 0))), (2, 1, (.t 3))], none, []⟩,
  ⟨none, .store 7 (.t 2) (.t 4), none, []⟩]) (.ret)))⟩
def h27 : Hint := { cb := [], ps := [], cp := [], cs := [], ap := [] }
def c27 : AF := ⟨0, 2, [.cell 0 true 7],
 (.seq (.reg false [
  ⟨some 0, .alloc [(.int .i64 0), (.int .i64 0), (.str []), (.str []), (.slice 0 [] .full), (.slice 0 [] .full), (.slice 0 [] .full)], none, []⟩]) (.seq (.reg false [
  ⟨some 1, .build [(.int .i64 0), (.int .i64 0), (.str []), (.str []), (.slice 0 [] .full), (.slice 0 [] .full), (.slice 0 [] .full)] [(0, 1, (.c (.int .i64 1))), (1, 1, (.c (.int .i64 1)))], none, []⟩,
  ⟨none, .store 7 (.t 0) (.t 1), none, []⟩]) (.ret)))⟩
def h28 : Hint := { cb := [], ps := [], cp := [4], cs := [], ap := [] }
def c28 : AF := ⟨1, 7, [.cell 2 true 7],
 (.seq (.reg false [
  ⟨some 2, .alloc [(.int .i64 0), (.int .i64 0), (.str []), (.str []), (.slice 0 [] .full), (.slice 0 [] .full), (.slice 0 [] .full)], none, []⟩]) (.seq (.reg false [
  ⟨some 3, .mv (.t 0), none, []⟩,
  ⟨some 4, .callP false (.f 27) [], none, []⟩,
  ⟨some 5, .bslice 7 1 [(.int .i64 0), (.int .i64 0), (.str []), (.str []), (.slice 0 [] .full), (.slice 0 [] .full), (.slice 0 [] .full)] [(0, (.t 4))], none, []⟩,
  ⟨some 6, .build [(.int .i64 0), (.int .i64 0), (.str []), (.str []), (.slice 0 [] .full), (.slice 0 [] .full), (.slice 0 [] .full)] [(0, 1, (.c (.int .i64 18))), (2, 1, (.t 3)), (5, 1, (.t 5))], none, []⟩,
  ⟨none, .store 7 (.t 2) (.t 6), none, []⟩]) (.ret)))⟩
def h29 : Hint := { cb := [], ps := [], cp := [], cs := [], ap := [] }
def c29 : AF := ⟨1, 5, [.cell 2 true 7],
 (.seq (.reg false [
  ⟨some 2, .alloc [(.int .i64 0), (.int .i64 0), (.str []), (.str []), (.slice 0 [] .full), (.slice 0 [] .full), (.slice 0 [] .full)], none, []⟩]) (.seq (.reg false [
  ⟨some 3, .mv (.t 0), none, []⟩,
  ⟨some 4, .build [(.int .i64 0), (.int .i64 0), (.str []), (.str []), (.slice 0 [] .full), (.slice 0 [] .full), (.slice 0 [] .full)] [(0, 1, (.c (.int .i64 19))), (2, 1, (.t 3))], none, []⟩,
  ⟨none, .store 7 (.t 2) (.t 4), none, []⟩]) (.ret)))⟩
def h30 : Hint := { cb := [5, 4], ps := [], cp := [], cs := [], ap := [] }
def c30 : AF := ⟨3, 13, [.cell 6 true 7],
 (.seq (.reg false [
  ⟨some 4, .boxc (.t 1), none, []⟩,
  ⟨some 5, .boxc (.t 2), none, []⟩,
  ⟨some 6, .alloc [(.int .i64 0), (.int .i64 0), (.str []), (.str []), (.slice 0 [] .full), (.slice 0 [] .full), (.slice 0 [] .full)], none, []⟩]) (.seq (.reg false [
  ⟨some 7, .mv (.t 0), none, []⟩,
  ⟨some 8, .bslice 1 1 [(.str [])] [(0, (.t 7))], none, []⟩,
  ⟨some 9, .load true 7 (.t 4), none, []⟩,
  ⟨some 10, .load true 7 (.t 5), none, []⟩,
  ⟨some 11, .bslice 7 2 [(.int .i64 0), (.int .i64 0), (.str []), (.str []), (.slice 0 [] .full), (.slice 0 [] .full), (.slice 0 [] .full)] [(0, (.t 9)), (1, (.t 10))], none, []⟩,
  ⟨some 12, .build [(.int .i64 0), (.int .i64 0), (.str []), (.str []), (.slice 0 [] .full), (.slice 0 [] .full), (.slice 0 [] .full)] [(0, 1, (.c (.int .i64 6))), (4, 1, (.t 8)), (5, 1, (.t 11))], none, []⟩,
  ⟨none, .store 7 (.t 6) (.t 12), none, []⟩]) (.ret)))⟩
def h31 : Hint := { cb := [1], ps := [4, 3], cp := [], cs := [], ap := [] }
def c31 : AF := ⟨1, 23, [.cell 2 true 10],
 (.seq (.reg false [
  ⟨some 1, .boxc (.t 0), none, []⟩,
  ⟨some 2, .alloc [(.slice 0 [] .full), (.slice 0 [] .full), (.slice 0 [] .full), (.int .i64 0), (.int .i64 0), (.str []), (.str []), (.slice 0 [] .full), (.slice 0 [] .full), (.slice 0 [] .full)], none, []⟩]) (.seq (.reg false [
  ⟨some 5, .build [(.int .i64 0), (.int .i64 0), (.str []), (.slice 0 [] .full), (.slice 0 [] .full), (.int .i64 0)] [(0, 1, (.c (.int .i64 2)))], none, []⟩,
  ⟨some 6, .build [(.int .i64 0), (.int .i64 0), (.str []), (.slice 0 [] .full), (.slice 0 [] .full), (.int .i64 0)] [(0, 1, (.c (.int .i64 4)))], none, []⟩,
  ⟨some 3, .pend [(.int .i64 0), (.int .i64 0), (.str []), (.slice 0 [] .full), (.slice 0 [] .full), (.int .i64 0)], none, []⟩,
  ⟨some 4, .pend [(.int .i64 0), (.int .i64 0), (.str []), (.slice 0 [] .full), (.slice 0 [] .full), (.int .i64 0)], none, []⟩,
  ⟨none, .shut 3 6 (.t 5), none, []⟩,
  ⟨none, .shut 4 6 (.t 6), none, []⟩]) (.seq (.reg false [
  ⟨some 7, .load true 6 (.t 3), none, []⟩,
  ⟨some 8, .load true 6 (.t 3), none, []⟩,
  ⟨some 9, .build [(.str []), (.int .i64 0), (.int .i64 0), (.str []), (.slice 0 [] .full), (.slice 0 [] .full), (.int .i64 0), (.int .i64 0), (.int .i64 0), (.str []), (.slice 0 [] .full), (.slice 0 [] .full), (.int .i64 0), (.bool false)] [(0, 1, (.c (.str [97, 115, 107]))), (1, 6, (.t 7)), (7, 6, (.t 8)), (13, 1, (.c (.bool true)))], none, []⟩,
  ⟨some 10, .load true 6 (.t 3), none, []⟩,
  ⟨some 11, .load true 6 (.t 4), none, []⟩,
  ⟨some 12, .build [(.str []), (.int .i64 0), (.int .i64 0), (.str []), (.slice 0 [] .full), (.slice 0 [] .full), (.int .i64 0), (.int .i64 0), (.int .i64 0), (.str []), (.slice 0 [] .full), (.slice 0 [] .full), (.int .i64 0), (.bool false)] [(0, 1, (.c (.str [116, 101, 108, 108]))), (1, 6, (.t 10)), (7, 6, (.t 11))], none, []⟩,
  ⟨some 13, .bslice 14 2 [(.str []), (.int .i64 0), (.int .i64 0), (.str []), (.slice 0 [] .full), (.slice 0 [] .full), (.int .i64 0), (.int .i64 0), (.int .i64 0), (.str []), (.slice 0 [] .full), (.slice 0 [] .full), (.int .i64 0), (.bool false)] [(0, (.t 9)), (1, (.t 12))], none, []⟩,
  ⟨some 14, .build [(.str []), (.slice 0 [] .full)] [(0, 1, (.c (.str [65, 115, 107]))), (1, 1, (.t 13))], none, []⟩,
  ⟨some 15, .load true 6 (.t 4), none, []⟩,
  ⟨some 16, .load true 6 (.t 3), none, []⟩,
  ⟨some 17, .build [(.str []), (.int .i64 0), (.int .i64 0), (.str []), (.slice 0 [] .full), (.slice 0 [] .full), (.int .i64 0), (.int .i64 0), (.int .i64 0), (.str []), (.slice 0 [] .full), (.slice 0 [] .full), (.int .i64 0), (.bool false)] [(0, 1, (.c (.str [116, 105, 99, 107]))), (1, 6, (.t 15)), (7, 6, (.t 16)), (13, 1, (.c (.bool true)))], none, []⟩,
  ⟨some 18, .bslice 14 1 [(.str []), (.int .i64 0), (.int .i64 0), (.str []), (.slice 0 [] .full), (.slice 0 [] .full), (.int .i64 0), (.int .i64 0), (.int .i64 0), (.str []), (.slice 0 [] .full), (.slice 0 [] .full), (.int .i64 0), (.bool false)] [(0, (.t 17))], none, []⟩,
  ⟨some 19, .build [(.str []), (.slice 0 [] .full)] [(0, 1, (.c (.str [84, 105, 99, 107]))), (1, 1, (.t 18))], none, []⟩,
  ⟨some 20, .bslice 2 2 [(.str []), (.slice 0 [] .full)] [(0, (.t 14)), (1, (.t 19))], none, []⟩,
  ⟨some 21, .load true 7 (.t 1), none, []⟩,
  ⟨some 22, .build [(.slice 0 [] .full), (.slice 0 [] .full), (.slice 0 [] .full), (.int .i64 0), (.int .i64 0), (.str []), (.str []), (.slice 0 [] .full), (.slice 0 [] .full), (.slice 0 [] .full)] [(1, 1, (.t 20)), (3, 7, (.t 21))], none, []⟩,
  ⟨none, .store 10 (.t 2) (.t 22), none, []⟩]) (.ret))))⟩
def h44 : Hint := { cb := [5, 4, 3], ps := [], cp := [], cs := [], ap := [] }
def c44 : AF := ⟨3, 12, [.cell 6 true 7],
 (.seq (.reg false [
  ⟨some 3, .boxc (.t 0), none, []⟩,
  ⟨some 4, .boxc (.t 1), none, []⟩,
  ⟨some 5, .boxc (.t 2), none, []⟩,
  ⟨some 6, .alloc [(.int .i64 0), (.int .i64 0), (.str []), (.str []), (.slice 0 [] .full), (.slice 0 [] .full), (.slice 0 [] .full)], none, []⟩]) (.seq (.reg false [
  ⟨some 7, .load true 7 (.t 3), none, []⟩,
  ⟨some 8, .load true 7 (.t 4), none, []⟩,
  ⟨some 9, .load true 7 (.t 5), none, []⟩,
  ⟨some 10, .bslice 7 3 [(.int .i64 0), (.int .i64 0), (.str []), (.str []), (.slice 0 [] .full), (.slice 0 [] .full), (.slice 0 [] .full)] [(0, (.t 7)), (1, (.t 8)), (2, (.t 9))], none, []⟩,
  ⟨some 11, .build [(.int .i64 0), (.int .i64 0), (.str []), (.str []), (.slice 0 [] .full), (.slice 0 [] .full), (.slice 0 [] .full)] [(0, 1, (.c (.int .i64 8))), (5, 1, (.t 10))], none, []⟩,
  ⟨none, .store 7 (.t 6) (.t 11), none, []⟩]) (.ret)))⟩
def h46 : Hint := { cb := [2], ps := [], cp := [12, 7], cs := [], ap := [] }
def c46 : AF := ⟨2, 14, [.tmp 4],
 (.seq (.reg false [
  ⟨some 2, .boxc (.t 0), none, []⟩,
  ⟨some 4, .mv (.c (.int .i64 0)), none, []⟩]) (.seq (.seq (.reg false [
  ⟨some 6, .load true 7 (.t 2), none, []⟩,
  ⟨some 7, .callP false (.f 81) [(.t 6)], none, []⟩,
  ⟨some 5, .mv (.t 7), none, []⟩]) (.seq (.reg false [
  ⟨some 8, .mv (.t 5), none, []⟩,
  ⟨some 9, .bin .neq (.t 8) (.c (.int .i64 0)), none, []⟩]) (.cond (.t 9) (.seq (.reg false [
  ⟨some 10, .mv (.t 5), none, []⟩,
  ⟨some 4, .mv (.t 10), none, []⟩]) (.ret)) (.skip)))) (.seq (.seq (.reg false [
  ⟨some 11, .mv (.t 1), none, []⟩,
  ⟨some 12, .callP false (.f 77) [(.t 11)], none, []⟩,
  ⟨some 13, .un .not (.t 12), none, []⟩]) (.cond (.t 13) (.seq (.reg false [
  ⟨some 4, .mv (.c (.int .i64 4)), none, []⟩]) (.ret)) (.skip))) (.seq (.reg false [
  ⟨some 4, .mv (.c (.int .i64 0)), none, []⟩]) (.ret)))))⟩
def h47 : Hint := { cb := [2], ps := [], cp := [10], cs := [], ap := [] }
def c47 : AF := ⟨2, 15, [.tmp 4],
 (.seq (.reg false [
  ⟨some 2, .boxc (.t 0), none, []⟩,
  ⟨some 4, .mv (.c (.bool false)), none, []⟩]) (.seq (.reg false [
  ⟨some 8, .load true 8 (.t 2), none, []⟩,
  ⟨some 9, .mv (.t 1), none, []⟩,
  ⟨some 10, .callP false (.f 82) [(.t 8), (.t 9), (.c (.bool false)), (.c (.bool false))], none, []⟩,
  ⟨some 7, .mv (.t 10), none, []⟩,
  ⟨some 11, .extract (.t 7) 0, none, []⟩,
  ⟨some 12, .extract (.t 7) 1, none, []⟩,
  ⟨some 5, .mv (.t 11), none, []⟩,
  ⟨some 6, .mv (.t 12), none, []⟩]) (.seq (.reg false [
  ⟨some 13, .mv (.t 6), none, []⟩,
  ⟨some 14, .un .not (.t 13), none, []⟩,
  ⟨some 4, .mv (.t 14), none, []⟩]) (.ret))))⟩
def h48 : Hint := { cb := [2], ps := [], cp := [], cs := [], ap := [] }
def c48 : AF := ⟨2, 14, [.tmp 4, .cell 5 false 1, .cell 6 false 1],
 (.seq (.reg false [
  ⟨some 2, .boxc (.t 0), none, []⟩,
  ⟨some 4, .mv (.c .nilptr), none, []⟩,
  ⟨some 5, .alloc [(.slice 0 [] .full)], none, []⟩,
  ⟨some 6, .alloc [(.int .i64 0)], none, []⟩]) (.seq (.reg false [
  ⟨none, .defer (.f 83) [(.t 5), (.t 6)], none, []⟩]) (.seq (.reg false [
  ⟨some 7, .mv (.t 1), none, []⟩,
  ⟨some 8, .build [(.str []), (.slice 0 [] .full), (.int .i64 0), (.int .i64 0)] [(0, 1, (.t 7))], none, []⟩,
  ⟨some 9, .box (.t 8), none, []⟩,
  ⟨some 4, .mv (.t 9), none, []⟩]) (.seq (.reg false [
  ⟨some 10, .mv (.t 4), none, []⟩,
  ⟨some 11, .load true 8 (.t 2), none, []⟩,
  ⟨some 12, .call (.f 84) [(.t 10), (.t 11)], none, []⟩]) (.seq (.reg false [
  ⟨some 13, .mv (.t 4), none, []⟩,
  ⟨some 4, .mv (.t 13), none, []⟩,
  ⟨none, .store 1 (.t 5) (.c (.slice 0 [] .full)), none, []⟩,
  ⟨none, .store 1 (.t 6) (.c (.int .i64 0)), none, []⟩]) (.ret))))))⟩
def h53 : Hint := { cb := [3, 2], ps := [], cp := [], cs := [10, 5], ap := [] }
def c53 : AF := ⟨2, 20, [.cell 4 true 7],
 (.seq (.reg false [
  ⟨some 2, .boxc (.t 0), none, []⟩,
  ⟨some 3, .boxc (.t 1), none, []⟩,
  ⟨some 4, .alloc [(.int .i64 0), (.int .i64 0), (.str []), (.str []), (.slice 0 [] .full), (.slice 0 [] .full), (.slice 0 [] .full)], none, []⟩]) (.seq (.reg true [
  ⟨some 5, .callP true (.f 27) [], none, []⟩,
  ⟨some 6, .bslice 7 1 [(.int .i64 0), (.int .i64 0), (.str []), (.str []), (.slice 0 [] .full), (.slice 0 [] .full), (.slice 0 [] .full)] [(0, (.t 5))], none, [0]⟩,
  ⟨some 7, .build [(.int .i64 0), (.int .i64 0), (.str []), (.str []), (.slice 0 [] .full), (.slice 0 [] .full), (.slice 0 [] .full)] [(0, 1, (.c (.int .i64 12))), (2, 1, (.c (.str [97, 115, 107]))), (5, 1, (.t 6))], none, [1, 0]⟩,
  ⟨some 8, .bslice 7 1 [(.int .i64 0), (.int .i64 0), (.str []), (.str []), (.slice 0 [] .full), (.slice 0 [] .full), (.slice 0 [] .full)] [(0, (.t 7))], none, [2, 1, 0]⟩,
  ⟨some 9, .bslice 1 1 [(.str [])] [(0, (.c (.str [120])))], none, []⟩,
  ⟨some 10, .callP true (.f 26) [(.c (.str [120]))], none, [0]⟩,
  ⟨some 11, .build [(.str []), (.slice 0 [] .full), (.int .i64 0), (.int .i64 0), (.str []), (.str []), (.slice 0 [] .full), (.slice 0 [] .full), (.slice 0 [] .full)] [(0, 1, (.c (.str [114, 101, 116, 117, 114, 110]))), (1, 1, (.t 9)), (2, 7, (.t 10))], none, [4, 5, 0]⟩,
  ⟨some 12, .bslice 1 2 [(.str [])] [(0, (.c (.str [120]))), (1, (.c (.str [107])))], none, []⟩,
  ⟨some 13, .load true 7 (.t 2), none, []⟩,
  ⟨some 14, .build [(.str []), (.slice 0 [] .full), (.int .i64 0), (.int .i64 0), (.str []), (.str []), (.slice 0 [] .full), (.slice 0 [] .full), (.slice 0 [] .full)] [(0, 1, (.c (.str [97, 115, 107]))), (1, 1, (.t 12)), (2, 7, (.t 13))], none, [7, 8]⟩,
  ⟨some 15, .bslice 1 2 [(.str [])] [(0, (.c (.str [120]))), (1, (.c (.str [107])))], none, []⟩,
  ⟨some 16, .load true 7 (.t 3), none, []⟩,
  ⟨some 17, .build [(.str []), (.slice 0 [] .full), (.int .i64 0), (.int .i64 0), (.str []), (.str []), (.slice 0 [] .full), (.slice 0 [] .full), (.slice 0 [] .full)] [(0, 1, (.c (.str [116, 101, 108, 108]))), (1, 1, (.t 15)), (2, 7, (.t 16))], none, [10, 11]⟩,
  ⟨some 18, .bslice 9 3 [(.str []), (.slice 0 [] .full), (.int .i64 0), (.int .i64 0), (.str []), (.str []), (.slice 0 [] .full), (.slice 0 [] .full), (.slice 0 [] .full)] [(0, (.t 11)), (1, (.t 14)), (2, (.t 17))], none, [6, 4, 5, 0, 9, 7, 8, 12, 10, 11]⟩,
  ⟨some 19, .build [(.int .i64 0), (.int .i64 0), (.str []), (.str []), (.slice 0 [] .full), (.slice 0 [] .full), (.slice 0 [] .full)] [(0, 1, (.c (.int .i64 14))), (2, 1, (.c (.str [65, 115, 107]))), (5, 1, (.t 8)), (6, 1, (.t 18))], none, [3, 2, 1, 0, 13, 6, 4, 5, 9, 7, 8, 12, 10, 11]⟩,
  ⟨none, .store 7 (.t 4) (.t 19), none, [14, 3, 2, 1, 0, 13, 6, 4, 5, 9, 7, 8, 12, 10, 11]⟩]) (.ret)))⟩
def h54 : Hint := { cb := [], ps := [], cp := [1], cs := [], ap := [] }
def c54 : AF := ⟨0, 5, [.cell 0 true 7],
 (.seq (.reg false [
  ⟨some 0, .alloc [(.int .i64 0), (.int .i64 0), (.str []), (.str []), (.slice 0 [] .full), (.slice 0 [] .full), (.slice 0 [] .full)], none, []⟩]) (.seq (.reg false [
  ⟨some 1, .callP false (.f 26) [(.c (.str [107]))], none, []⟩,
  ⟨some 2, .build [(.int .i64 0), (.int .i64 0), (.str []), (.str []), (.slice 0 [] .full), (.slice 0 [] .full), (.slice 0 [] .full)] [(0, 1, (.c (.int .i64 3)))], none, []⟩,
  ⟨some 3, .bslice 7 2 [(.int .i64 0), (.int .i64 0), (.str []), (.str []), (.slice 0 [] .full), (.slice 0 [] .full), (.slice 0 [] .full)] [(0, (.t 1)), (1, (.t 2))], none, []⟩,
  ⟨some 4, .build [(.int .i64 0), (.int .i64 0), (.str []), (.str []), (.slice 0 [] .full), (.slice 0 [] .full), (.slice 0 [] .full)] [(0, 1, (.c (.int .i64 5))), (5, 1, (.t 3))], none, []⟩,
  ⟨none, .store 7 (.t 0) (.t 4), none, []⟩]) (.ret)))⟩
def h55 : Hint := { cb := [], ps := [], cp := [11, 6], cs := [], ap := [] }
def c55 : AF := ⟨1, 14, [.cell 2 true 7],
 (.seq (.reg false [
  ⟨some 2, .alloc [(.int .i64 0), (.int .i64 0), (.str []), (.str []), (.slice 0 [] .full), (.slice 0 [] .full), (.slice 0 [] .full)], none, []⟩]) (.seq (.reg false [
  ⟨some 3, .bslice 1 1 [(.str [])] [(0, (.c (.str [114])))], none, []⟩,
  ⟨some 4, .mv (.t 0), none, []⟩,
  ⟨some 5, .append false 1 16 (.t 3) (.t 4), none, []⟩,
  ⟨some 6, .callP false (.f 27) [], none, []⟩,
  ⟨some 7, .bslice 1 1 [(.str [])] [(0, (.c (.str [121])))], none, []⟩,
  ⟨some 8, .build [(.int .i64 0), (.int .i64 0), (.str []), (.str []), (.slice 0 [] .full), (.slice 0 [] .full), (.slice 0 [] .full)] [(0, 1, (.c (.int .i64 3)))], none, []⟩,
  ⟨some 9, .bslice 7 1 [(.int .i64 0), (.int .i64 0), (.str []), (.str []), (.slice 0 [] .full), (.slice 0 [] .full), (.slice 0 [] .full)] [(0, (.t 8))], none, []⟩,
  ⟨some 10, .build [(.int .i64 0), (.int .i64 0), (.str []), (.str []), (.slice 0 [] .full), (.slice 0 [] .full), (.slice 0 [] .full)] [(0, 1, (.c (.int .i64 4))), (4, 1, (.t 7)), (5, 1, (.t 9))], none, []⟩,
  ⟨some 11, .callP false (.f 26) [(.c (.str [114]))], none, []⟩,
  ⟨some 12, .bslice 7 3 [(.int .i64 0), (.int .i64 0), (.str []), (.str []), (.slice 0 [] .full), (.slice 0 [] .full), (.slice 0 [] .full)] [(0, (.t 6)), (1, (.t 10)), (2, (.t 11))], none, []⟩,
  ⟨some 13, .build [(.int .i64 0), (.int .i64 0), (.str []), (.str []), (.slice 0 [] .full), (.slice 0 [] .full), (.slice 0 [] .full)] [(0, 1, (.c (.int .i64 17))), (4, 1, (.t 5)), (5, 1, (.t 12))], none, []⟩,
  ⟨none, .store 7 (.t 2) (.t 13), none, []⟩]) (.ret)))⟩
def h56 : Hint := { cb := [3, 2], ps := [], cp := [], cs := [], ap := [] }
def c56 : AF := ⟨2, 7, [.tmp 4],
 (.seq (.reg false [
  ⟨some 2, .boxc (.t 0), none, []⟩,
  ⟨some 3, .boxc (.t 1), none, []⟩,
  ⟨some 4, .mv (.c (.int .i64 0)), none, []⟩]) (.seq (.reg false [
  ⟨some 5, .mkFunc 90 [] [(.t 2), (.t 3)], none, []⟩,
  ⟨some 6, .call (.f 89) [(.t 5)], none, []⟩,
  ⟨some 4, .mv (.t 6), none, []⟩]) (.ret)))⟩
def h57 : Hint := { cb := [3, 2], ps := [], cp := [], cs := [], ap := [] }
def c57 : AF := ⟨2, 9, [.cell 4 false 1, .cell 5 false 1],
 (.seq (.reg false [
  ⟨some 2, .boxc (.t 0), none, []⟩,
  ⟨some 3, .boxc (.t 1), none, []⟩,
  ⟨some 4, .alloc [(.slice 0 [] .full)], none, []⟩,
  ⟨some 5, .alloc [(.int .i64 0)], none, []⟩]) (.seq (.reg false [
  ⟨none, .defer (.f 83) [(.t 4), (.t 5)], none, []⟩]) (.seq (.reg false [
  ⟨some 6, .load true 10 (.t 2), none, []⟩,
  ⟨some 7, .load true 8 (.t 3), none, []⟩,
  ⟨some 8, .call (.f 95) [(.t 6), (.t 7), (.c .nilptr)], none, []⟩]) (.seq (.reg false [
  ⟨none, .store 1 (.t 4) (.c (.slice 0 [] .full)), none, []⟩,
  ⟨none, .store 1 (.t 5) (.c (.int .i64 0)), none, []⟩]) (.ret)))))⟩
def h58 : Hint := { cb := [1], ps := [], cp := [], cs := [], ap := [] }
def c58 : AF := ⟨1, 5, [.tmp 2],
 (.seq (.reg false [
  ⟨some 1, .boxc (.t 0), none, []⟩,
  ⟨some 2, .mv (.c (.int .i64 0)), none, []⟩]) (.seq (.reg false [
  ⟨some 3, .mkFunc 96 [] [(.t 1)], none, []⟩,
  ⟨some 4, .call (.f 89) [(.t 3)], none, []⟩,
  ⟨some 2, .mv (.t 4), none, []⟩]) (.ret)))⟩
def h77 : Hint := { cb := [], ps := [], cp := [7, 4], cs := [], ap := [] }
def c77 : AF := ⟨1, 10, [.tmp 2],
 (.seq (.reg false [
  ⟨some 2, .mv (.c (.bool false)), none, []⟩]) (.seq (.reg false [
  ⟨some 3, .mv (.t 0), none, []⟩,
  ⟨some 4, .callP false (.f 109) [(.t 3), (.c (.int .i64 2))], none, []⟩,
  ⟨some 5, .mv (.t 4), none, []⟩,
  ⟨some 6, .mv (.t 0), some (5, true), []⟩,
  ⟨some 7, .callP false (.f 110) [(.t 6)], some (5, true), []⟩,
  ⟨some 8, .un .not (.t 7), some (5, true), []⟩,
  ⟨some 9, .pick (.t 5) (.t 8) (.c (.bool false)), none, []⟩,
  ⟨some 2, .mv (.t 9), none, []⟩]) (.ret)))⟩
def h81 : Hint := { cb := [1], ps := [3], cp := [7], cs := [], ap := [] }
def c81 : AF := ⟨1, 11, [.tmp 2],
 (.seq (.reg false [
  ⟨some 1, .boxc (.t 0), none, []⟩,
  ⟨some 2, .mv (.c (.int .i64 0)), none, []⟩]) (.seq (.reg false [
  ⟨some 6, .load true 7 (.t 1), none, []⟩,
  ⟨some 7, .callP false (.f 113) [(.t 6)], none, []⟩,
  ⟨some 5, .mv (.t 7), none, []⟩,
  ⟨some 8, .extract (.t 5) 0, none, []⟩,
  ⟨some 9, .extract (.t 5) 1, none, []⟩,
  ⟨some 3, .pend [(.int .i64 0), (.int .i64 0)], none, []⟩,
  ⟨none, .shut 3 2 (.t 8), none, []⟩,
  ⟨some 4, .mv (.t 9), none, []⟩]) (.seq (.reg false [
  ⟨some 10, .mv (.t 4), none, []⟩,
  ⟨some 2, .mv (.t 10), none, []⟩]) (.ret))))⟩
def h82 : Hint := { cb := [7, 6, 5, 4], ps := [11], cp := [56, 29, 19], cs := [47], ap := [] }
def c82 : AF := ⟨4, 61, [.cell 8 false 1, .cell 9 false 1],
 (.seq (.reg false [
  ⟨some 4, .boxc (.t 0), none, []⟩,
  ⟨some 5, .boxc (.t 1), none, []⟩,
  ⟨some 6, .boxc (.t 2), none, []⟩,
  ⟨some 7, .boxc (.t 3), none, []⟩,
  ⟨some 8, .alloc [(.slice 0 [] .full)], none, []⟩,
  ⟨some 9, .alloc [(.bool false)], none, []⟩]) (.seq (.seq (.reg true [
  ⟨some 14, .load false 1 (.t 6), none, []⟩,
  ⟨some 15, .un .not (.t 14), none, [0]⟩,
  ⟨some 16, .mv (.t 15), none, [1, 0]⟩,
  ⟨some 17, .load true 8 (.t 4), some (16, true), [2, 1, 0]⟩,
  ⟨some 18, .load false 1 (.t 5), some (16, true), [2, 1, 0]⟩,
  ⟨some 19, .callP false (.f 114) [(.t 17), (.t 18)], some (16, true), [3, 2, 1, 0, 4]⟩,
  ⟨some 20, .pick (.t 16) (.t 19) (.c (.bool false)), none, [2, 1, 0, 5, 3, 4]⟩,
  ⟨some 21, .mv (.t 20), none, [6, 2, 1, 0, 5, 3, 4]⟩,
  ⟨some 22, .load false 1 (.t 7), some (21, false), [7, 6, 2, 1, 0, 5, 3, 4]⟩,
  ⟨some 23, .un .not (.t 22), some (21, false), [8, 7, 6, 2, 1, 0, 5, 3, 4]⟩,
  ⟨some 24, .mv (.t 23), some (21, false), [9, 8, 7, 6, 2, 1, 0, 5, 3, 4]⟩,
  ⟨some 25, .cutA 10 1 (.g 0) none none, some (24, true), [10, 9, 8, 7, 6, 2, 1, 0, 5, 3, 4]⟩,
  ⟨some 26, .fieldA 0 (.t 4), some (24, true), [10, 9, 8, 7, 6, 2, 1, 0, 5, 3, 4]⟩,
  ⟨some 27, .fieldA 0 (.t 26), some (24, true), [12, 10, 9, 8, 7, 6, 2, 1, 0, 5, 3, 4]⟩,
  ⟨some 28, .load false 1 (.t 27), some (24, true), [13, 12, 10, 9, 8, 7, 6, 2, 1, 0, 5, 3, 4]⟩,
  ⟨some 29, .callP false (.f 115) [(.t 25), (.t 28)], some (24, true), [11, 10, 9, 8, 7, 6, 2, 1, 0, 5, 3, 4, 14, 13, 12]⟩,
  ⟨some 30, .un .not (.t 29), some (24, true), [15, 11, 10, 9, 8, 7, 6, 2, 1, 0, 5, 3, 4, 14, 13, 12]⟩,
  ⟨some 31, .pick (.t 24) (.t 30) (.c (.bool false)), some (21, false), [10, 9, 8, 7, 6, 2, 1, 0, 5, 3, 4, 16, 15, 11, 14, 13, 12]⟩,
  ⟨some 32, .pick (.t 21) (.c (.bool true)) (.t 31), none, [7, 6, 2, 1, 0, 5, 3, 4, 17, 10, 9, 8, 16, 15, 11, 14, 13, 12]⟩]) (.cond (.t 32) (.seq (.reg false [
  ⟨some 33, .fieldA 7 (.t 4), none, []⟩,
  ⟨some 34, .load false 1 (.t 33), none, []⟩,
  ⟨none, .store 1 (.t 8) (.t 34), none, []⟩,
  ⟨none, .store 1 (.t 9) (.c (.bool true)), none, []⟩]) (.ret)) (.skip))) (.seq (.seq (.reg false [
  ⟨some 35, .load true 8 (.t 4), none, []⟩,
  ⟨some 36, .call (.f 116) [(.t 35)], none, []⟩]) (.block 0 (.rangeF (.t 36) [37, 38] (.seq (.reg false [
  ⟨some 10, .mv (.t 37), none, []⟩]) (.reg false [
  ⟨some 11, .pend [(.int .i64 0), (.int .i64 0), (.str []), (.str []), (.slice 0 [] .full), (.slice 0 [] .full), (.slice 0 [] .full), (.slice 0 [] .full)], none, []⟩,
  ⟨none, .shut 11 8 (.t 38), none, []⟩])) (.block 1 (.seq (.reg true [
  ⟨some 40, .load true 8 (.t 11), none, []⟩,
  ⟨some 41, .load false 1 (.t 5), none, []⟩,
  ⟨some 42, .load false 1 (.t 6), none, []⟩,
  ⟨some 43, .mv (.t 42), none, [2]⟩,
  ⟨some 44, .load true 8 (.t 4), some (43, false), [3, 2]⟩,
  ⟨some 45, .mv (.t 10), some (43, false), [3, 2]⟩,
  ⟨some 46, .load false 1 (.t 5), some (43, false), [3, 2]⟩,
  ⟨some 47, .callP true (.f 117) [(.t 44), (.t 45), (.t 46)], some (43, false), [4, 3, 2, 5, 6]⟩,
  ⟨some 48, .pick (.t 43) (.c (.bool true)) (.t 47), none, [3, 2, 7, 4, 5, 6]⟩,
  ⟨some 49, .load false 1 (.t 7), none, []⟩,
  ⟨some 50, .mv (.t 49), none, [9, 7, 4, 3, 2, 5, 6]⟩,
  ⟨some 51, .fieldA 0 (.t 4), some (50, false), [10, 9, 7, 4, 3, 2, 5, 6]⟩,
  ⟨some 52, .fieldA 0 (.t 51), some (50, false), [11, 10, 9, 7, 4, 3, 2, 5, 6]⟩,
  ⟨some 53, .load false 1 (.t 52), some (50, false), [12, 11, 10, 9, 7, 4, 3, 2, 5, 6]⟩,
  ⟨some 54, .bin .eql (.t 53) (.c (.int .i64 4)), some (50, false), [13, 12, 11, 10, 9, 7, 4, 3, 2, 5, 6]⟩,
  ⟨some 55, .pick (.t 50) (.c (.bool true)) (.t 54), none, [10, 9, 7, 4, 3, 2, 5, 6, 14, 13, 12, 11]⟩,
  ⟨some 56, .callP false (.f 82) [(.t 40), (.t 41), (.t 48), (.t 55)], none, [0, 1, 8, 3, 2, 7, 4, 5, 6, 15, 10, 9, 14, 13, 12, 11]⟩,
  ⟨some 39, .mv (.t 56), none, [16, 0, 1, 8, 3, 2, 7, 4, 5, 6, 15, 10, 9, 14, 13, 12, 11]⟩,
  ⟨some 57, .extract (.t 39) 0, none, [17, 16, 0, 1, 8, 3, 2, 7, 4, 5, 6, 15, 10, 9, 14, 13, 12, 11]⟩,
  ⟨some 58, .extract (.t 39) 1, none, [17, 16, 0, 1, 8, 3, 2, 7, 4, 5, 6, 15, 10, 9, 14, 13, 12, 11]⟩,
  ⟨some 12, .mv (.t 57), none, [18, 17, 16, 0, 1, 8, 3, 2, 7, 4, 5, 6, 15, 10, 9, 14, 13, 12, 11]⟩,
  ⟨some 13, .mv (.t 58), none, [19, 17, 16, 0, 1, 8, 3, 2, 7, 4, 5, 6, 15, 10, 9, 14, 13, 12, 11, 20, 18]⟩]) (.seq (.reg false [
  ⟨some 59, .mv (.t 13), none, []⟩]) (.cond (.t 59) (.seq (.reg false [
  ⟨some 60, .mv (.t 12), none, []⟩,
  ⟨none, .store 1 (.t 8) (.t 60), none, []⟩,
  ⟨none, .store 1 (.t 9) (.c (.bool true)), none, []⟩]) (.ret)) (.skip)))))))) (.seq (.reg false [
  ⟨none, .store 1 (.t 8) (.c (.slice 0 [] .full)), none, []⟩,
  ⟨none, .store 1 (.t 9) (.c (.bool false)), none, []⟩]) (.ret)))))⟩
def h83 : Hint := { cb := [], ps := [5], cp := [], cs := [], ap := [] }
def c83 : AF := ⟨2, 19, [],
 (.seq (.reg false [
  ⟨some 7, .recov, none, []⟩]) (.block 0 (.seq (.reg false [
  ⟨some 9, .eqnil false .iface (.t 7), none, []⟩]) (.cond (.t 9) (.reg false [
  ⟨some 4, .mv (.t 7), none, []⟩]) (.seq (.reg false [
  ⟨some 10, .assert true 160 (.agg [(.slice 0 [] .full)]) (.t 7), none, []⟩,
  ⟨some 11, .extract (.t 10) 1, none, []⟩,
  ⟨some 12, .extract (.t 10) 0, none, []⟩]) (.cond (.t 11) (.seq (.reg false [
  ⟨some 5, .pend [(.slice 0 [] .full)], none, []⟩,
  ⟨none, .shut 5 1 (.t 12), none, []⟩]) (.reg false [
  ⟨some 13, .mv (.t 0), none, []⟩,
  ⟨some 14, .mv (.t 1), none, []⟩,
  ⟨some 15, .fieldA 0 (.t 5), none, []⟩,
  ⟨some 16, .load false 1 (.t 15), none, []⟩,
  ⟨some 17, .nilchk (.t 13), none, []⟩,
  ⟨none, .store 1 (.t 17) (.t 16), none, []⟩,
  ⟨some 18, .nilchk (.t 14), none, []⟩,
  ⟨none, .store 1 (.t 18) (.c (.int .i64 10)), none, []⟩])) (.seq (.reg false [
  ⟨some 6, .mv (.t 7), none, []⟩]) (.reg false [
  ⟨some 8, .mv (.t 6), none, []⟩,
  ⟨none, .panic (.t 8), none, []⟩]))))))))⟩
def h84 : Hint := { cb := [3], ps := [], cp := [], cs := [], ap := [] }
def c84 : AF := ⟨2, 38, [],
 (.seq (.reg false [
  ⟨some 3, .boxc (.t 1), none, []⟩]) (.seq (.seq (.reg false [
  ⟨some 5, .mv (.t 0), none, []⟩,
  ⟨some 6, .load true 8 (.t 3), none, []⟩,
  ⟨some 7, .call (.f 118) [(.t 5), (.t 6)], none, []⟩]) (.cond (.t 7) (.seq (.reg false [
  ⟨some 8, .mv (.t 0), none, []⟩,
  ⟨some 9, .load true 8 (.t 3), none, []⟩,
  ⟨some 10, .call (.f 119) [(.t 8), (.t 9)], none, []⟩]) (.ret)) (.skip))) (.seq (.reg false [
  ⟨some 11, .mkMap, none, []⟩,
  ⟨some 12, .mv (.t 0), none, []⟩,
  ⟨some 13, .mkFunc 120 [(.t 12)] [], none, []⟩,
  ⟨none, .mapSet .int (.t 11) (.c (.int .i64 6)) (.t 13), none, []⟩,
  ⟨some 14, .mv (.t 0), none, []⟩,
  ⟨some 15, .mkFunc 121 [(.t 14)] [], none, []⟩,
  ⟨none, .mapSet .int (.t 11) (.c (.int .i64 8)) (.t 15), none, []⟩,
  ⟨some 16, .mv (.t 0), none, []⟩,
  ⟨some 17, .mkFunc 122 [(.t 16)] [], none, []⟩,
  ⟨none, .mapSet .int (.t 11) (.c (.int .i64 11)) (.t 17), none, []⟩,
  ⟨some 18, .mv (.t 0), none, []⟩,
  ⟨some 19, .mkFunc 123 [(.t 18)] [], none, []⟩,
  ⟨none, .mapSet .int (.t 11) (.c (.int .i64 14)) (.t 19), none, []⟩,
  ⟨some 20, .mv (.t 0), none, []⟩,
  ⟨some 21, .mkFunc 123 [(.t 20)] [], none, []⟩,
  ⟨none, .mapSet .int (.t 11) (.c (.int .i64 15)) (.t 21), none, []⟩,
  ⟨some 22, .mv (.t 0), none, []⟩,
  ⟨some 23, .mkFunc 123 [(.t 22)] [], none, []⟩,
  ⟨none, .mapSet .int (.t 11) (.c (.int .i64 16)) (.t 23), none, []⟩,
  ⟨some 24, .mv (.t 11), none, []⟩,
  ⟨some 25, .fieldA 0 (.t 3), none, []⟩,
  ⟨some 26, .fieldA 0 (.t 25), none, []⟩,
  ⟨some 27, .load false 1 (.t 26), none, []⟩,
  ⟨some 28, .lookup false .int .nilfunc (.t 24) (.t 27), none, []⟩,
  ⟨some 4, .mv (.t 28), none, []⟩]) (.seq (.seq (.reg false [
  ⟨some 29, .mv (.t 4), none, []⟩,
  ⟨some 30, .eqnil false .func (.t 29), none, []⟩]) (.cond (.t 30) (.reg false [
  ⟨some 31, .fieldA 7 (.t 3), none, []⟩,
  ⟨some 32, .load false 1 (.t 31), none, []⟩,
  ⟨some 33, .build [(.slice 0 [] .full)] [(0, 1, (.t 32))], none, []⟩,
  ⟨some 34, .mkIface 160 (.t 33), none, []⟩,
  ⟨none, .panic (.t 34), none, []⟩]) (.skip))) (.reg false [
  ⟨some 35, .mv (.t 4), none, []⟩,
  ⟨some 36, .load true 8 (.t 3), none, []⟩,
  ⟨some 37, .call (.t 35) [(.t 36)], none, []⟩])))))⟩
def h89 : Hint := { cb := [], ps := [], cp := [], cs := [], ap := [] }
def c89 : AF := ⟨1, 6, [.cell 2 false 1],
 (.seq (.reg false [
  ⟨some 2, .alloc [(.int .i64 0)], none, []⟩]) (.seq (.reg false [
  ⟨some 3, .mkFunc 125 [] [(.t 2)], none, []⟩,
  ⟨none, .defer (.t 3) [], none, []⟩]) (.seq (.reg false [
  ⟨some 4, .mv (.t 0), none, []⟩,
  ⟨some 5, .call (.t 4) [], none, []⟩]) (.seq (.reg false [
  ⟨none, .store 1 (.t 2) (.c (.int .i64 0)), none, []⟩]) (.ret)))))⟩
def h90 : Hint := { cb := [], ps := [], cp := [8], cs := [], ap := [] }
def c90 : AF := ⟨2, 13, [],
 (.seq (.reg false [
  ⟨some 3, .load true 10 (.t 0), none, []⟩,
  ⟨some 4, .call (.f 91) [(.t 3)], none, []⟩,
  ⟨some 2, .mv (.t 4), none, []⟩]) (.seq (.reg false [
  ⟨some 5, .mv (.t 2), none, []⟩,
  ⟨some 6, .call (.f 92) [(.t 5)], none, []⟩]) (.seq (.reg false [
  ⟨some 7, .load true 7 (.t 1), none, []⟩,
  ⟨some 8, .callP false (.f 81) [(.t 7)], none, []⟩,
  ⟨some 9, .call (.f 93) [(.t 8)], none, []⟩]) (.reg false [
  ⟨some 10, .mv (.t 2), none, []⟩,
  ⟨some 11, .load true 7 (.t 1), none, []⟩,
  ⟨some 12, .call (.f 94) [(.t 10), (.t 11)], none, []⟩]))))⟩
def h91 : Hint := { cb := [13, 1], ps := [8, 7, 5], cp := [], cs := [], ap := [] }
def c91 : AF := ⟨1, 54, [.tmp 2],
 (.seq (.reg false [
  ⟨some 1, .boxc (.t 0), none, []⟩,
  ⟨some 2, .mv (.c .nilptr), none, []⟩]) (.seq (.reg false [
  ⟨some 10, .load true 10 (.t 1), none, []⟩,
  ⟨some 11, .mkMap, none, []⟩,
  ⟨some 12, .build [(.slice 0 [] .full), (.slice 0 [] .full), (.slice 0 [] .full), (.int .i64 0), (.int .i64 0), (.str []), (.str []), (.slice 0 [] .full), (.slice 0 [] .full), (.slice 0 [] .full), .nilmap] [(0, 10, (.t 10)), (10, 1, (.t 11))], none, []⟩,
  ⟨some 13, .boxc (.t 12), none, []⟩,
  ⟨some 3, .mv (.t 13), none, []⟩]) (.seq (.seq (.reg false [
  ⟨some 14, .fieldA 0 (.t 1), none, []⟩,
  ⟨some 15, .load false 1 (.t 14), none, []⟩,
  ⟨some 16, .lenS (.t 15), none, []⟩,
  ⟨some 17, .mv (.c (.int .i64 0)), none, []⟩]) (.block 0 (.loop (.seq (.reg false [
  ⟨some 18, .bin .lss (.t 17) (.t 16), none, []⟩]) (.seq (.cond (.t 18) (.skip) (.exit 0)) (.seq (.block 1 (.seq (.reg false [
  ⟨some 19, .mv (.t 17), none, []⟩,
  ⟨some 20, .idxS 3 (.t 15) (.t 17), none, []⟩,
  ⟨some 21, .load true 3 (.t 20), none, []⟩,
  ⟨some 5, .pend [(.str []), (.slice 0 [] .full), (.slice 0 [] .full)], none, []⟩,
  ⟨some 4, .mv (.t 19), none, []⟩,
  ⟨none, .shut 5 3 (.t 21), none, []⟩]) (.seq (.reg false [
  ⟨some 22, .fieldA 2 (.t 5), none, []⟩,
  ⟨some 23, .load false 1 (.t 22), none, []⟩,
  ⟨some 24, .lenS (.t 23), none, []⟩,
  ⟨some 25, .mv (.c (.int .i64 0)), none, []⟩]) (.block 2 (.loop (.seq (.reg false [
  ⟨some 26, .bin .lss (.t 25) (.t 24), none, []⟩]) (.seq (.cond (.t 26) (.skip) (.exit 2)) (.seq (.block 3 (.seq (.reg false [
  ⟨some 27, .mv (.t 25), none, []⟩,
  ⟨some 28, .idxS 2 (.t 23) (.t 25), none, []⟩,
  ⟨some 29, .load true 2 (.t 28), none, []⟩,
  ⟨some 7, .pend [(.str []), (.slice 0 [] .full)], none, []⟩,
  ⟨some 6, .mv (.t 27), none, []⟩,
  ⟨none, .shut 7 2 (.t 29), none, []⟩]) (.seq (.reg true [
  ⟨some 31, .mv (.t 3), none, []⟩,
  ⟨some 32, .nilchk (.t 31), none, [0]⟩,
  ⟨some 33, .fieldA 10 (.t 32), none, [1, 0]⟩,
  ⟨some 34, .load false 1 (.t 33), none, [2, 1, 0]⟩,
  ⟨some 35, .fieldA 0 (.t 7), none, []⟩,
  ⟨some 36, .load false 1 (.t 35), none, [4]⟩,
  ⟨some 37, .lookup true .str (.agg [(.int .i64 0), (.int .i64 0)]) (.t 34) (.t 36), none, [3, 2, 1, 0, 5, 4]⟩,
  ⟨some 30, .mv (.t 37), none, [6, 3, 2, 1, 0, 5, 4]⟩,
  ⟨some 38, .extract (.t 30) 0, none, [7, 6, 3, 2, 1, 0, 5, 4]⟩,
  ⟨some 39, .extract (.t 30) 1, none, [7, 6, 3, 2, 1, 0, 5, 4]⟩,
  ⟨some 8, .pend [(.int .i64 0), (.int .i64 0)], none, []⟩,
  ⟨none, .shut 8 2 (.t 38), none, [10, 8, 7, 6, 3, 2, 1, 0, 5, 4]⟩,
  ⟨some 9, .mv (.t 39), none, [9, 7, 6, 3, 2, 1, 0, 5, 4, 11, 10, 8]⟩]) (.seq (.reg false [
  ⟨some 40, .mv (.t 9), none, []⟩,
  ⟨some 41, .un .not (.t 40), none, []⟩]) (.cond (.t 41) (.reg true [
  ⟨some 42, .mv (.t 3), none, []⟩,
  ⟨some 43, .nilchk (.t 42), none, [0]⟩,
  ⟨some 44, .fieldA 10 (.t 43), none, [1, 0]⟩,
  ⟨some 45, .load false 1 (.t 44), none, [2, 1, 0]⟩,
  ⟨some 46, .fieldA 0 (.t 7), none, []⟩,
  ⟨some 47, .load false 1 (.t 46), none, [4]⟩,
  ⟨some 48, .mv (.t 4), none, []⟩,
  ⟨some 49, .mv (.t 6), none, []⟩,
  ⟨some 50, .build [(.int .i64 0), (.int .i64 0)] [(0, 1, (.t 48)), (1, 1, (.t 49))], none, [6, 7]⟩,
  ⟨none, .mapSet .str (.t 45) (.t 47) (.t 50), none, [3, 2, 1, 0, 5, 4, 8, 6, 7]⟩]) (.skip)))))) (.reg false [
  ⟨some 51, .bin .add (.t 25) (.c (.int .i64 1)), none, []⟩,
  ⟨some 25, .mv (.t 51), none, []⟩]))))))))) (.reg false [
  ⟨some 52, .bin .add (.t 17) (.c (.int .i64 1)), none, []⟩,
  ⟨some 17, .mv (.t 52), none, []⟩]))))))) (.seq (.reg false [
  ⟨some 53, .mv (.t 3), none, []⟩,
  ⟨some 2, .mv (.t 53), none, []⟩]) (.ret)))))⟩
def h92 : Hint := { cb := [], ps := [16, 14, 10, 8, 6], cp := [29], cs := [], ap := [] }
def c92 : AF := ⟨1, 110, [],
 (.seq (.reg true [
  ⟨some 17, .mv (.t 0), none, []⟩,
  ⟨some 18, .nilchk (.t 17), none, [0]⟩,
  ⟨some 19, .fieldA 0 (.t 18), none, [1, 0]⟩,
  ⟨some 20, .fieldA 0 (.t 19), none, [2, 1, 0]⟩,
  ⟨some 21, .load false 1 (.t 20), none, [3, 2, 1, 0]⟩,
  ⟨some 22, .mv (.t 0), none, []⟩,
  ⟨some 23, .nilchk (.t 22), none, [5]⟩,
  ⟨some 24, .fieldA 0 (.t 23), none, [6, 5]⟩,
  ⟨some 25, .fieldA 1 (.t 24), none, [7, 6, 5]⟩,
  ⟨some 26, .load false 1 (.t 25), none, [8, 7, 6, 5]⟩,
  ⟨some 27, .build [(.int .i64 0), (.int .i64 0), (.str []), (.str []), (.slice 0 [] .full), (.slice 0 [] .full), (.slice 0 [] .full)] [(0, 1, (.c (.int .i64 3)))], none, []⟩,
  ⟨some 28, .build [(.slice 0 [] .full), (.slice 0 [] .full), (.slice 0 [] .full), (.int .i64 0), (.int .i64 0), (.str []), (.str []), (.slice 0 [] .full), (.slice 0 [] .full), (.slice 0 [] .full)] [(0, 1, (.t 21)), (1, 1, (.t 26)), (3, 7, (.t 27))], none, [4, 3, 2, 1, 0, 9, 8, 7, 6, 5, 10]⟩,
  ⟨some 29, .callP false (.f 97) [(.t 28)], none, [11, 4, 3, 2, 1, 0, 9, 8, 7, 6, 5, 10]⟩,
  ⟨some 30, .call (.f 93) [(.t 29)], none, [12, 11, 4, 3, 2, 1, 0, 9, 8, 7, 6, 5, 10]⟩]) (.seq (.reg false [
  ⟨some 31, .bslice 1 3 [(.str [])] [(0, (.c (.str [73, 110, 116]))), (1, (.c (.str [66, 111, 111, 108]))), (2, (.c (.str [85, 110, 105, 116])))], none, []⟩,
  ⟨some 32, .bslice 1 0 [(.str [])] [], none, []⟩,
  ⟨some 2, .alloc [(.slice 0 [] .full)], none, []⟩,
  ⟨some 3, .alloc [(.slice 0 [] .full)], none, []⟩,
  ⟨none, .store 1 (.t 2) (.t 31), none, []⟩,
  ⟨none, .store 1 (.t 3) (.t 32), none, []⟩]) (.seq (.reg false [
  ⟨some 4, .mv (.f 126), none, []⟩]) (.seq (.seq (.reg false [
  ⟨some 33, .mv (.t 0), none, []⟩,
  ⟨some 34, .nilchk (.t 33), none, []⟩,
  ⟨some 35, .fieldA 0 (.t 34), none, []⟩,
  ⟨some 36, .fieldA 0 (.t 35), none, []⟩,
  ⟨some 37, .load false 1 (.t 36), none, []⟩,
  ⟨some 38, .lenS (.t 37), none, []⟩,
  ⟨some 39, .mv (.c (.int .i64 0)), none, []⟩]) (.block 0 (.loop (.seq (.reg false [
  ⟨some 40, .bin .lss (.t 39) (.t 38), none, []⟩]) (.seq (.cond (.t 40) (.skip) (.exit 0)) (.seq (.block 1 (.seq (.reg false [
  ⟨some 41, .idxS 3 (.t 37) (.t 39), none, []⟩,
  ⟨some 42, .load true 3 (.t 41), none, []⟩,
  ⟨some 6, .pend [(.str []), (.slice 0 [] .full), (.slice 0 [] .full)], none, []⟩,
  ⟨none, .shut 6 3 (.t 42), none, []⟩]) (.seq (.reg false [
  ⟨some 43, .mv (.t 4), none, []⟩,
  ⟨some 44, .fieldA 0 (.t 6), none, []⟩,
  ⟨some 45, .load false 1 (.t 44), none, []⟩,
  ⟨some 46, .call (.t 43) [(.t 2), (.t 45)], none, []⟩]) (.seq (.reg false [
  ⟨some 47, .fieldA 2 (.t 6), none, []⟩,
  ⟨some 48, .load false 1 (.t 47), none, []⟩,
  ⟨some 49, .lenS (.t 48), none, []⟩,
  ⟨some 50, .mv (.c (.int .i64 0)), none, []⟩]) (.block 2 (.loop (.seq (.reg false [
  ⟨some 51, .bin .lss (.t 50) (.t 49), none, []⟩]) (.seq (.cond (.t 51) (.skip) (.exit 2)) (.seq (.block 3 (.seq (.reg false [
  ⟨some 52, .idxS 2 (.t 48) (.t 50), none, []⟩,
  ⟨some 53, .load true 2 (.t 52), none, []⟩,
  ⟨some 8, .pend [(.str []), (.slice 0 [] .full)], none, []⟩,
  ⟨none, .shut 8 2 (.t 53), none, []⟩]) (.seq (.reg false [
  ⟨some 54, .mv (.t 4), none, []⟩,
  ⟨some 55, .fieldA 0 (.t 8), none, []⟩,
  ⟨some 56, .load false 1 (.t 55), none, []⟩,
  ⟨some 57, .call (.t 54) [(.t 3), (.t 56)], none, []⟩]) (.seq (.reg false [
  ⟨some 58, .fieldA 1 (.t 8), none, []⟩,
  ⟨some 59, .load false 1 (.t 58), none, []⟩,
  ⟨some 60, .lenS (.t 59), none, []⟩,
  ⟨some 61, .mv (.c (.int .i64 0)), none, []⟩]) (.block 4 (.loop (.seq (.reg false [
  ⟨some 62, .bin .lss (.t 61) (.t 60), none, []⟩]) (.seq (.cond (.t 62) (.skip) (.exit 4)) (.seq (.block 5 (.seq (.reg false [
  ⟨some 63, .idxS 6 (.t 59) (.t 61), none, []⟩,
  ⟨some 64, .load true 6 (.t 63), none, []⟩,
  ⟨some 10, .pend [(.int .i64 0), (.int .i64 0), (.str []), (.slice 0 [] .full), (.slice 0 [] .full), (.int .i64 0)], none, []⟩,
  ⟨none, .shut 10 6 (.t 64), none, []⟩]) (.reg false [
  ⟨some 65, .mv (.t 0), none, []⟩,
  ⟨some 66, .load true 6 (.t 10), none, []⟩,
  ⟨some 67, .fieldA 1 (.t 6), none, []⟩,
  ⟨some 68, .load false 1 (.t 67), none, []⟩,
  ⟨some 69, .call (.f 129) [(.t 65), (.t 66), (.t 68)], none, []⟩]))) (.reg false [
  ⟨some 70, .bin .add (.t 61) (.c (.int .i64 1)), none, []⟩,
  ⟨some 61, .mv (.t 70), none, []⟩])))))))))) (.reg false [
  ⟨some 71, .bin .add (.t 50) (.c (.int .i64 1)), none, []⟩,
  ⟨some 50, .mv (.t 71), none, []⟩])))))))))) (.reg false [
  ⟨some 72, .bin .add (.t 39) (.c (.int .i64 1)), none, []⟩,
  ⟨some 39, .mv (.t 72), none, []⟩]))))))) (.seq (.reg false [
  ⟨some 73, .bslice 1 1 [(.str [])] [(0, (.c (.str [73, 79])))], none, []⟩,
  ⟨some 74, .bslice 1 2 [(.str [])] [(0, (.c (.str [112, 114, 105, 110, 116]))), (1, (.c (.str [114, 101, 97, 100])))], none, []⟩,
  ⟨some 11, .alloc [(.slice 0 [] .full)], none, []⟩,
  ⟨some 12, .alloc [(.slice 0 [] .full)], none, []⟩,
  ⟨none, .store 1 (.t 11) (.t 73), none, []⟩,
  ⟨none, .store 1 (.t 12) (.t 74), none, []⟩]) (.seq (.reg false [
  ⟨some 75, .mv (.t 0), none, []⟩,
  ⟨some 76, .nilchk (.t 75), none, []⟩,
  ⟨some 77, .fieldA 0 (.t 76), none, []⟩,
  ⟨some 78, .fieldA 1 (.t 77), none, []⟩,
  ⟨some 79, .load false 1 (.t 78), none, []⟩,
  ⟨some 80, .lenS (.t 79), none, []⟩,
  ⟨some 81, .mv (.c (.int .i64 0)), none, []⟩]) (.block 6 (.loop (.seq (.reg false [
  ⟨some 82, .bin .lss (.t 81) (.t 80), none, []⟩]) (.seq (.cond (.t 82) (.skip) (.exit 6)) (.seq (.block 7 (.seq (.reg false [
  ⟨some 83, .idxS 2 (.t 79) (.t 81), none, []⟩,
  ⟨some 84, .load true 2 (.t 83), none, []⟩,
  ⟨some 14, .pend [(.str []), (.slice 0 [] .full)], none, []⟩,
  ⟨none, .shut 14 2 (.t 84), none, []⟩]) (.seq (.reg false [
  ⟨some 85, .mv (.t 4), none, []⟩,
  ⟨some 86, .fieldA 0 (.t 14), none, []⟩,
  ⟨some 87, .load false 1 (.t 86), none, []⟩,
  ⟨some 88, .call (.t 85) [(.t 11), (.t 87)], none, []⟩]) (.seq (.reg false [
  ⟨some 89, .fieldA 1 (.t 14), none, []⟩,
  ⟨some 90, .load false 1 (.t 89), none, []⟩,
  ⟨some 91, .lenS (.t 90), none, []⟩,
  ⟨some 92, .mv (.c (.int .i64 0)), none, []⟩]) (.block 8 (.loop (.seq (.reg false [
  ⟨some 93, .bin .lss (.t 92) (.t 91), none, []⟩]) (.seq (.cond (.t 93) (.skip) (.exit 8)) (.seq (.block 9 (.seq (.reg false [
  ⟨some 94, .idxS 14 (.t 90) (.t 92), none, []⟩,
  ⟨some 95, .load true 14 (.t 94), none, []⟩,
  ⟨some 16, .pend [(.str []), (.int .i64 0), (.int .i64 0), (.str []), (.slice 0 [] .full), (.slice 0 [] .full), (.int .i64 0), (.int .i64 0), (.int .i64 0), (.str []), (.slice 0 [] .full), (.slice 0 [] .full), (.int .i64 0), (.bool false)], none, []⟩,
  ⟨none, .shut 16 14 (.t 95), none, []⟩]) (.seq (.reg false [
  ⟨some 96, .mv (.t 4), none, []⟩,
  ⟨some 97, .fieldA 0 (.t 16), none, []⟩,
  ⟨some 98, .load false 1 (.t 97), none, []⟩,
  ⟨some 99, .call (.t 96) [(.t 12), (.t 98)], none, []⟩]) (.seq (.reg false [
  ⟨some 100, .mv (.t 0), none, []⟩,
  ⟨some 101, .fieldA 1 (.t 16), none, []⟩,
  ⟨some 102, .load true 6 (.t 101), none, []⟩,
  ⟨some 103, .call (.f 129) [(.t 100), (.t 102), (.c (.slice 0 [] .full))], none, []⟩]) (.reg false [
  ⟨some 104, .mv (.t 0), none, []⟩,
  ⟨some 105, .fieldA 7 (.t 16), none, []⟩,
  ⟨some 106, .load true 6 (.t 105), none, []⟩,
  ⟨some 107, .call (.f 129) [(.t 104), (.t 106), (.c (.slice 0 [] .full))], none, []⟩]))))) (.reg false [
  ⟨some 108, .bin .add (.t 92) (.c (.int .i64 1)), none, []⟩,
  ⟨some 92, .mv (.t 108), none, []⟩])))))))))) (.reg false [
  ⟨some 109, .bin .add (.t 81) (.c (.int .i64 1)), none, []⟩,
  ⟨some 81, .mv (.t 109), none, []⟩]))))))))))))⟩
def h93 : Hint := { cb := [], ps := [], cp := [], cs := [], ap := [] }
def c93 : AF := ⟨1, 6, [],
 (.seq (.reg false [
  ⟨some 2, .mv (.t 0), none, []⟩,
  ⟨some 3, .bin .neq (.t 2) (.c (.int .i64 0)), none, []⟩]) (.cond (.t 3) (.reg false [
  ⟨some 4, .mv (.t 0), none, []⟩,
  ⟨some 5, .call (.f 128) [(.t 4)], none, []⟩]) (.skip)))⟩
def h94 : Hint := { cb := [3], ps := [5, 4], cp := [], cs := [], ap := [] }
def c94 : AF := ⟨2, 40, [],
 (.seq (.reg false [
  ⟨some 3, .boxc (.t 1), none, []⟩]) (.seq (.reg false [
  ⟨some 8, .mkMap, none, []⟩,
  ⟨some 9, .mv (.t 0), none, []⟩,
  ⟨some 10, .mkFunc 130 [(.t 9)] [], none, []⟩,
  ⟨none, .mapSet .int (.t 8) (.c (.int .i64 10)) (.t 10), none, []⟩,
  ⟨some 11, .mv (.t 0), none, []⟩,
  ⟨some 12, .mkFunc 131 [(.t 11)] [], none, []⟩,
  ⟨none, .mapSet .int (.t 8) (.c (.int .i64 11)) (.t 12), none, []⟩,
  ⟨some 13, .mv (.t 0), none, []⟩,
  ⟨some 14, .mkFunc 132 [(.t 13)] [], none, []⟩,
  ⟨none, .mapSet .int (.t 8) (.c (.int .i64 12)) (.t 14), none, []⟩,
  ⟨some 15, .mv (.t 0), none, []⟩,
  ⟨some 16, .mkFunc 132 [(.t 15)] [], none, []⟩,
  ⟨none, .mapSet .int (.t 8) (.c (.int .i64 13)) (.t 16), none, []⟩,
  ⟨some 17, .mv (.t 0), none, []⟩,
  ⟨some 18, .mkFunc 133 [(.t 17)] [], none, []⟩,
  ⟨none, .mapSet .int (.t 8) (.c (.int .i64 14)) (.t 18), none, []⟩,
  ⟨some 19, .mv (.t 0), none, []⟩,
  ⟨some 20, .mkFunc 133 [(.t 19)] [], none, []⟩,
  ⟨none, .mapSet .int (.t 8) (.c (.int .i64 15)) (.t 20), none, []⟩,
  ⟨some 21, .mv (.t 0), none, []⟩,
  ⟨some 22, .mkFunc 134 [(.t 21)] [], none, []⟩,
  ⟨none, .mapSet .int (.t 8) (.c (.int .i64 16)) (.t 22), none, []⟩,
  ⟨some 23, .mv (.t 0), none, []⟩,
  ⟨some 24, .mkFunc 135 [(.t 23)] [], none, []⟩,
  ⟨none, .mapSet .int (.t 8) (.c (.int .i64 17)) (.t 24), none, []⟩,
  ⟨some 25, .mv (.t 8), none, []⟩,
  ⟨some 4, .pend [.nilmap], none, []⟩,
  ⟨none, .shut 4 1 (.t 25), none, []⟩]) (.seq (.reg false [
  ⟨some 26, .load true 7 (.t 3), none, []⟩,
  ⟨some 27, .call (.f 136) [(.t 26)], none, []⟩]) (.block 0 (.rangeF (.t 27) [28] (.reg false [
  ⟨some 5, .pend [(.int .i64 0), (.int .i64 0), (.str []), (.str []), (.slice 0 [] .full), (.slice 0 [] .full), (.slice 0 [] .full)], none, []⟩,
  ⟨none, .shut 5 7 (.t 28), none, []⟩]) (.block 1 (.seq (.reg false [
  ⟨some 30, .load false 1 (.t 4), none, []⟩,
  ⟨some 31, .fieldA 0 (.t 5), none, []⟩,
  ⟨some 32, .load false 1 (.t 31), none, []⟩,
  ⟨some 33, .lookup true .int .nilfunc (.t 30) (.t 32), none, []⟩,
  ⟨some 29, .mv (.t 33), none, []⟩,
  ⟨some 34, .extract (.t 29) 0, none, []⟩,
  ⟨some 35, .extract (.t 29) 1, none, []⟩,
  ⟨some 6, .mv (.t 34), none, []⟩,
  ⟨some 7, .mv (.t 35), none, []⟩]) (.seq (.reg false [
  ⟨some 36, .mv (.t 7), none, []⟩]) (.cond (.t 36) (.reg false [
  ⟨some 37, .mv (.t 6), none, []⟩,
  ⟨some 38, .load true 7 (.t 5), none, []⟩,
  ⟨some 39, .call (.t 37) [(.t 38)], none, []⟩]) (.skip))))))))))⟩
def h95 : Hint := { cb := [100, 60, 5, 4, 3], ps := [7], cp := [81, 51], cs := [42, 24], ap := [] }
def c95 : AF := ⟨3, 105, [],
 (.seq (.reg false [
  ⟨some 3, .boxc (.t 0), none, []⟩,
  ⟨some 4, .boxc (.t 1), none, []⟩,
  ⟨some 5, .boxc (.t 2), none, []⟩]) (.seq (.seq (.reg false [
  ⟨some 12, .fieldA 0 (.t 4), none, []⟩,
  ⟨some 13, .fieldA 0 (.t 12), none, []⟩,
  ⟨some 14, .load false 1 (.t 13), none, []⟩]) (.block 0 (.seq (.seq (.reg false [
  ⟨some 16, .bin .eql (.t 14) (.c (.int .i64 18)), none, []⟩,
  ⟨some 15, .mv (.t 16), none, []⟩]) (.cond (.t 15) (.skip) (.reg false [
  ⟨some 17, .bin .eql (.t 14) (.c (.int .i64 19)), none, []⟩,
  ⟨some 15, .mv (.t 17), none, []⟩]))) (.cond (.t 15) (.reg true [
  ⟨some 18, .fieldA 7 (.t 4), none, []⟩,
  ⟨some 19, .load false 1 (.t 18), none, [0]⟩,
  ⟨some 20, .load false 1 (.t 5), none, []⟩,
  ⟨some 21, .fieldA 0 (.t 4), none, []⟩,
  ⟨some 22, .fieldA 2 (.t 21), none, [3]⟩,
  ⟨some 23, .load false 1 (.t 22), none, [4, 3]⟩,
  ⟨some 24, .callP true (.f 138) [(.t 20), (.t 23)], none, [2, 5, 4, 3]⟩,
  ⟨some 25, .un .not (.t 24), none, [6, 2, 5, 4, 3]⟩,
  ⟨some 26, .call (.f 137) [(.t 19), (.t 25)], none, [1, 0, 7, 6, 2, 5, 4, 3]⟩]) (.seq (.seq (.reg false [
  ⟨some 28, .bin .eql (.t 14) (.c (.int .i64 14)), none, []⟩,
  ⟨some 27, .mv (.t 28), none, []⟩]) (.cond (.t 27) (.skip) (.reg false [
  ⟨some 29, .bin .eql (.t 14) (.c (.int .i64 15)), none, []⟩,
  ⟨some 27, .mv (.t 29), none, []⟩]))) (.cond (.t 27) (.reg false [
  ⟨some 30, .load true 10 (.t 3), none, []⟩,
  ⟨some 31, .load true 8 (.t 4), none, []⟩,
  ⟨some 32, .call (.f 139) [(.t 30), (.t 31)], none, []⟩]) (.seq (.reg false [
  ⟨some 34, .bin .eql (.t 14) (.c (.int .i64 17)), none, []⟩,
  ⟨some 33, .mv (.t 34), none, []⟩]) (.cond (.t 33) (.reg true [
  ⟨some 35, .fieldA 7 (.t 4), none, []⟩,
  ⟨some 36, .load false 1 (.t 35), none, [0]⟩,
  ⟨some 37, .fieldA 0 (.t 4), none, []⟩,
  ⟨some 38, .fieldA 4 (.t 37), none, [2]⟩,
  ⟨some 39, .load false 1 (.t 38), none, [3, 2]⟩,
  ⟨some 40, .cutS 1 (.t 39) (some (.c (.int .i64 1))) none none, none, [4, 3, 2]⟩,
  ⟨some 41, .mkFunc 141 [] [(.t 3)], none, []⟩,
  ⟨some 42, .callP true (.f 140) [(.t 40), (.t 41)], none, [5, 4, 3, 2, 6]⟩,
  ⟨some 43, .call (.f 137) [(.t 36), (.t 42)], none, [1, 0, 7, 5, 4, 3, 2, 6]⟩]) (.skip))))))))) (.seq (.reg false [
  ⟨some 44, .load true 8 (.t 4), none, []⟩,
  ⟨some 45, .call (.f 116) [(.t 44)], none, []⟩]) (.block 1 (.rangeF (.t 45) [46, 47] (.seq (.reg false [
  ⟨some 6, .mv (.t 46), none, []⟩]) (.reg false [
  ⟨some 7, .pend [(.int .i64 0), (.int .i64 0), (.str []), (.str []), (.slice 0 [] .full), (.slice 0 [] .full), (.slice 0 [] .full), (.slice 0 [] .full)], none, []⟩,
  ⟨none, .shut 7 8 (.t 47), none, []⟩])) (.block 2 (.seq (.reg false [
  ⟨some 48, .load false 1 (.t 5), none, []⟩,
  ⟨some 8, .mv (.t 48), none, []⟩]) (.seq (.seq (.reg false [
  ⟨some 49, .load true 8 (.t 4), none, []⟩,
  ⟨some 50, .mv (.t 6), none, []⟩,
  ⟨some 51, .callP false (.f 143) [(.t 49), (.t 50)], none, []⟩,
  ⟨some 52, .lenS (.t 51), none, []⟩,
  ⟨some 53, .mv (.c (.int .i64 0)), none, []⟩]) (.block 3 (.loop (.seq (.reg false [
  ⟨some 54, .bin .lss (.t 53) (.t 52), none, []⟩]) (.seq (.cond (.t 54) (.skip) (.exit 3)) (.seq (.block 4 (.seq (.reg false [
  ⟨some 55, .idxS 1 (.t 51) (.t 53), none, []⟩,
  ⟨some 56, .load false 1 (.t 55), none, []⟩,
  ⟨some 10, .mv (.t 56), none, []⟩]) (.reg false [
  ⟨some 57, .mv (.t 10), none, []⟩,
  ⟨some 58, .mv (.t 8), none, []⟩,
  ⟨some 59, .build [(.str []), (.bool false), .nilptr] [(0, 1, (.t 57)), (1, 1, (.c (.bool false))), (2, 1, (.t 58))], none, []⟩,
  ⟨some 60, .boxc (.t 59), none, []⟩,
  ⟨some 8, .mv (.t 60), none, []⟩]))) (.reg false [
  ⟨some 61, .bin .add (.t 53) (.c (.int .i64 1)), none, []⟩,
  ⟨some 53, .mv (.t 61), none, []⟩]))))))) (.seq (.seq (.reg false [
  ⟨some 62, .mv (.t 6), none, []⟩,
  ⟨some 63, .fieldA 0 (.t 4), none, []⟩,
  ⟨some 64, .fieldA 5 (.t 63), none, []⟩,
  ⟨some 65, .load false 1 (.t 64), none, []⟩,
  ⟨some 66, .lenS (.t 65), none, []⟩,
  ⟨some 67, .bin .sub (.t 62) (.t 66), none, []⟩,
  ⟨some 11, .mv (.t 67), none, []⟩]) (.seq (.reg false [
  ⟨some 68, .mv (.t 11), none, []⟩,
  ⟨some 69, .bin .gtr (.t 68) (.c (.int .i64 0)), none, []⟩,
  ⟨some 70, .mv (.t 69), none, []⟩,
  ⟨some 71, .fieldA 0 (.t 4), some (70, true), []⟩,
  ⟨some 72, .fieldA 0 (.t 71), some (70, true), []⟩,
  ⟨some 73, .load false 1 (.t 72), some (70, true), []⟩,
  ⟨some 74, .bin .neq (.t 73) (.c (.int .i64 11)), some (70, true), []⟩,
  ⟨some 75, .pick (.t 70) (.t 74) (.c (.bool false)), none, []⟩,
  ⟨some 76, .mv (.t 75), none, []⟩,
  ⟨some 77, .load true 10 (.t 3), some (76, true), []⟩,
  ⟨some 78, .fieldA 0 (.t 4), some (76, true), []⟩,
  ⟨some 79, .fieldA 2 (.t 78), some (76, true), []⟩,
  ⟨some 80, .load false 1 (.t 79), some (76, true), []⟩,
  ⟨some 81, .callP false (.f 144) [(.t 77), (.t 80)], some (76, true), []⟩,
  ⟨some 82, .field false 1 1 (.t 81), some (76, true), []⟩,
  ⟨some 83, .mv (.t 11), some (76, true), []⟩,
  ⟨some 84, .bin .sub (.t 83) (.c (.int .i64 1)), some (76, true), []⟩,
  ⟨some 85, .idxS 14 (.t 82) (.t 84), some (76, true), []⟩,
  ⟨some 86, .fieldA 13 (.t 85), some (76, true), []⟩,
  ⟨some 87, .load false 1 (.t 86), some (76, true), []⟩,
  ⟨some 88, .pick (.t 76) (.t 87) (.c (.bool false)), none, []⟩]) (.cond (.t 88) (.reg false [
  ⟨some 89, .fieldA 0 (.t 4), none, []⟩,
  ⟨some 90, .fieldA 6 (.t 89), none, []⟩,
  ⟨some 91, .load false 1 (.t 90), none, []⟩,
  ⟨some 92, .mv (.t 11), none, []⟩,
  ⟨some 93, .idxS 9 (.t 91) (.t 92), none, []⟩,
  ⟨some 94, .fieldA 1 (.t 93), none, []⟩,
  ⟨some 95, .load false 1 (.t 94), none, []⟩,
  ⟨some 96, .idxS 1 (.t 95) (.c (.int .i64 1)), none, []⟩,
  ⟨some 97, .load false 1 (.t 96), none, []⟩,
  ⟨some 98, .mv (.t 8), none, []⟩,
  ⟨some 99, .build [(.str []), (.bool false), .nilptr] [(0, 1, (.t 97)), (1, 1, (.c (.bool true))), (2, 1, (.t 98))], none, []⟩,
  ⟨some 100, .boxc (.t 99), none, []⟩,
  ⟨some 8, .mv (.t 100), none, []⟩]) (.skip)))) (.reg false [
  ⟨some 101, .load true 10 (.t 3), none, []⟩,
  ⟨some 102, .load true 8 (.t 7), none, []⟩,
  ⟨some 103, .mv (.t 8), none, []⟩,
  ⟨some 104, .call (.f 95) [(.t 101), (.t 102), (.t 103)], none, []⟩]))))))))))⟩
def h96 : Hint := { cb := [], ps := [3], cp := [5], cs := [], ap := [] }
def c96 : AF := ⟨1, 27, [],
 (.seq (.reg false [
  ⟨some 4, .load true 10 (.t 0), none, []⟩,
  ⟨some 5, .callP false (.f 97) [(.t 4)], none, []⟩,
  ⟨some 6, .call (.f 93) [(.t 5)], none, []⟩]) (.seq (.reg false [
  ⟨some 7, .load true 10 (.t 0), none, []⟩,
  ⟨some 8, .call (.f 91) [(.t 7)], none, []⟩,
  ⟨some 1, .mv (.t 8), none, []⟩]) (.seq (.reg false [
  ⟨some 9, .mv (.t 1), none, []⟩,
  ⟨some 10, .call (.f 92) [(.t 9)], none, []⟩]) (.seq (.seq (.reg false [
  ⟨some 11, .fieldA 2 (.t 0), none, []⟩,
  ⟨some 12, .load false 1 (.t 11), none, []⟩,
  ⟨some 13, .lenS (.t 12), none, []⟩,
  ⟨some 14, .mv (.c (.int .i64 0)), none, []⟩]) (.block 0 (.loop (.seq (.reg false [
  ⟨some 15, .bin .lss (.t 14) (.t 13), none, []⟩]) (.seq (.cond (.t 15) (.skip) (.exit 0)) (.seq (.block 1 (.seq (.reg false [
  ⟨some 16, .idxS 8 (.t 12) (.t 14), none, []⟩,
  ⟨some 17, .load true 8 (.t 16), none, []⟩,
  ⟨some 3, .pend [(.str []), (.int .i64 0), (.int .i64 0), (.str []), (.str []), (.slice 0 [] .full), (.slice 0 [] .full), (.slice 0 [] .full)], none, []⟩,
  ⟨none, .shut 3 8 (.t 17), none, []⟩]) (.reg false [
  ⟨some 18, .mv (.t 1), none, []⟩,
  ⟨some 19, .fieldA 1 (.t 3), none, []⟩,
  ⟨some 20, .load true 7 (.t 19), none, []⟩,
  ⟨some 21, .call (.f 94) [(.t 18), (.t 20)], none, []⟩]))) (.reg false [
  ⟨some 22, .bin .add (.t 14) (.c (.int .i64 1)), none, []⟩,
  ⟨some 14, .mv (.t 22), none, []⟩]))))))) (.reg false [
  ⟨some 23, .mv (.t 1), none, []⟩,
  ⟨some 24, .fieldA 3 (.t 0), none, []⟩,
  ⟨some 25, .load true 7 (.t 24), none, []⟩,
  ⟨some 26, .call (.f 94) [(.t 23), (.t 25)], none, []⟩])))))⟩
def h97 : Hint := { cb := [1], ps := [11, 7, 4], cp := [80, 73, 69, 57, 50, 37], cs := [], ap := [] }
def c97 : AF := ⟨1, 81, [.tmp 2],
 (.seq (.reg false [
  ⟨some 1, .boxc (.t 0), none, []⟩,
  ⟨some 2, .mv (.c (.int .i64 0)), none, []⟩]) (.seq (.seq (.reg false [
  ⟨some 13, .fieldA 0 (.t 1), none, []⟩,
  ⟨some 14, .load false 1 (.t 13), none, []⟩,
  ⟨some 15, .lenS (.t 14), none, []⟩,
  ⟨some 16, .bin .gtr (.t 15) (.c (.int .i64 12)), none, []⟩,
  ⟨some 17, .mv (.t 16), none, []⟩,
  ⟨some 18, .fieldA 1 (.t 1), some (17, false), []⟩,
  ⟨some 19, .load false 1 (.t 18), some (17, false), []⟩,
  ⟨some 20, .lenS (.t 19), some (17, false), []⟩,
  ⟨some 21, .bin .gtr (.t 20) (.c (.int .i64 12)), some (17, false), []⟩,
  ⟨some 22, .pick (.t 17) (.c (.bool true)) (.t 21), none, []⟩,
  ⟨some 23, .mv (.t 22), none, []⟩,
  ⟨some 24, .fieldA 2 (.t 1), some (23, false), []⟩,
  ⟨some 25, .load false 1 (.t 24), some (23, false), []⟩,
  ⟨some 26, .lenS (.t 25), some (23, false), []⟩,
  ⟨some 27, .bin .gtr (.t 26) (.c (.int .i64 60)), some (23, false), []⟩,
  ⟨some 28, .pick (.t 23) (.c (.bool true)) (.t 27), none, []⟩]) (.cond (.t 28) (.seq (.reg false [
  ⟨some 2, .mv (.c (.int .i64 3)), none, []⟩]) (.ret)) (.skip))) (.seq (.seq (.reg false [
  ⟨some 29, .fieldA 0 (.t 1), none, []⟩,
  ⟨some 30, .load false 1 (.t 29), none, []⟩,
  ⟨some 31, .lenS (.t 30), none, []⟩,
  ⟨some 32, .mv (.c (.int .i64 0)), none, []⟩]) (.block 0 (.loop (.seq (.reg false [
  ⟨some 33, .bin .lss (.t 32) (.t 31), none, []⟩]) (.seq (.cond (.t 33) (.skip) (.exit 0)) (.seq (.block 1 (.seq (.reg false [
  ⟨some 34, .idxS 3 (.t 30) (.t 32), none, []⟩,
  ⟨some 35, .load true 3 (.t 34), none, []⟩,
  ⟨some 4, .pend [(.str []), (.slice 0 [] .full), (.slice 0 [] .full)], none, []⟩,
  ⟨none, .shut 4 3 (.t 35), none, []⟩]) (.seq (.reg false [
  ⟨some 36, .load true 3 (.t 4), none, []⟩,
  ⟨some 37, .callP false (.f 145) [(.t 36)], none, []⟩,
  ⟨some 5, .mv (.t 37), none, []⟩]) (.seq (.reg false [
  ⟨some 38, .mv (.t 5), none, []⟩,
  ⟨some 39, .bin .neq (.t 38) (.c (.int .i64 0)), none, []⟩]) (.cond (.t 39) (.seq (.reg false [
  ⟨some 40, .mv (.t 5), none, []⟩,
  ⟨some 2, .mv (.t 40), none, []⟩]) (.ret)) (.skip)))))) (.reg false [
  ⟨some 41, .bin .add (.t 32) (.c (.int .i64 1)), none, []⟩,
  ⟨some 32, .mv (.t 41), none, []⟩]))))))) (.seq (.seq (.reg false [
  ⟨some 42, .fieldA 1 (.t 1), none, []⟩,
  ⟨some 43, .load false 1 (.t 42), none, []⟩,
  ⟨some 44, .lenS (.t 43), none, []⟩,
  ⟨some 45, .mv (.c (.int .i64 0)), none, []⟩]) (.block 2 (.loop (.seq (.reg false [
  ⟨some 46, .bin .lss (.t 45) (.t 44), none, []⟩]) (.seq (.cond (.t 46) (.skip) (.exit 2)) (.seq (.block 3 (.seq (.reg false [
  ⟨some 47, .idxS 2 (.t 43) (.t 45), none, []⟩,
  ⟨some 48, .load true 2 (.t 47), none, []⟩,
  ⟨some 7, .pend [(.str []), (.slice 0 [] .full)], none, []⟩,
  ⟨none, .shut 7 2 (.t 48), none, []⟩]) (.seq (.reg false [
  ⟨some 49, .load true 2 (.t 7), none, []⟩,
  ⟨some 50, .callP false (.f 146) [(.t 49)], none, []⟩,
  ⟨some 8, .mv (.t 50), none, []⟩]) (.seq (.reg false [
  ⟨some 51, .mv (.t 8), none, []⟩,
  ⟨some 52, .bin .neq (.t 51) (.c (.int .i64 0)), none, []⟩]) (.cond (.t 52) (.seq (.reg false [
  ⟨some 53, .mv (.t 8), none, []⟩,
  ⟨some 2, .mv (.t 53), none, []⟩]) (.ret)) (.skip)))))) (.reg false [
  ⟨some 54, .bin .add (.t 45) (.c (.int .i64 1)), none, []⟩,
  ⟨some 45, .mv (.t 54), none, []⟩]))))))) (.seq (.reg false [
  ⟨some 55, .build [(.int .i64 0), (.int .i64 0)] [(0, 1, (.c (.int .i64 3000)))], none, []⟩,
  ⟨some 9, .alloc [(.int .i64 0), (.int .i64 0)], none, []⟩,
  ⟨none, .store 2 (.t 9) (.t 55), none, []⟩]) (.seq (.seq (.reg false [
  ⟨some 56, .load true 10 (.t 1), none, []⟩,
  ⟨some 57, .callP false (.f 148) [(.t 56)], none, []⟩,
  ⟨some 58, .call (.f 147) [(.t 9), (.t 57), (.c (.int .i64 1))], none, []⟩,
  ⟨some 59, .un .not (.t 58), none, []⟩]) (.cond (.t 59) (.seq (.reg false [
  ⟨some 2, .mv (.c (.int .i64 3)), none, []⟩]) (.ret)) (.skip))) (.seq (.seq (.reg false [
  ⟨some 60, .fieldA 2 (.t 1), none, []⟩,
  ⟨some 61, .load false 1 (.t 60), none, []⟩,
  ⟨some 62, .lenS (.t 61), none, []⟩,
  ⟨some 63, .mv (.c (.int .i64 0)), none, []⟩]) (.block 4 (.loop (.seq (.reg false [
  ⟨some 64, .bin .lss (.t 63) (.t 62), none, []⟩]) (.seq (.cond (.t 64) (.skip) (.exit 4)) (.seq (.block 5 (.seq (.reg false [
  ⟨some 65, .idxS 8 (.t 61) (.t 63), none, []⟩,
  ⟨some 66, .load true 8 (.t 65), none, []⟩,
  ⟨some 11, .pend [(.str []), (.int .i64 0), (.int .i64 0), (.str []), (.str []), (.slice 0 [] .full), (.slice 0 [] .full), (.slice 0 [] .full)], none, []⟩,
  ⟨none, .shut 11 8 (.t 66), none, []⟩]) (.seq (.seq (.reg false [
  ⟨some 67, .fieldA 0 (.t 11), none, []⟩,
  ⟨some 68, .load false 1 (.t 67), none, []⟩,
  ⟨some 69, .callP false (.f 149) [(.t 68), (.c (.int .i64 1))], none, []⟩,
  ⟨some 70, .un .not (.t 69), none, []⟩]) (.cond (.t 70) (.seq (.reg false [
  ⟨some 2, .mv (.c (.int .i64 4)), none, []⟩]) (.ret)) (.skip))) (.seq (.reg false [
  ⟨some 71, .fieldA 1 (.t 11), none, []⟩,
  ⟨some 72, .load true 7 (.t 71), none, []⟩,
  ⟨some 73, .callP false (.f 150) [(.t 72)], none, []⟩,
  ⟨some 12, .mv (.t 73), none, []⟩]) (.seq (.reg false [
  ⟨some 74, .mv (.t 12), none, []⟩,
  ⟨some 75, .bin .neq (.t 74) (.c (.int .i64 0)), none, []⟩]) (.cond (.t 75) (.seq (.reg false [
  ⟨some 76, .mv (.t 12), none, []⟩,
  ⟨some 2, .mv (.t 76), none, []⟩]) (.ret)) (.skip))))))) (.reg false [
  ⟨some 77, .bin .add (.t 63) (.c (.int .i64 1)), none, []⟩,
  ⟨some 63, .mv (.t 77), none, []⟩]))))))) (.seq (.reg false [
  ⟨some 78, .fieldA 3 (.t 1), none, []⟩,
  ⟨some 79, .load true 7 (.t 78), none, []⟩,
  ⟨some 80, .callP false (.f 150) [(.t 79)], none, []⟩,
  ⟨some 2, .mv (.t 80), none, []⟩]) (.ret)))))))))⟩
def h109 : Hint := { cb := [], ps := [], cp := [31, 17], cs := [], ap := [] }
def c109 : AF := ⟨2, 34, [.tmp 4],
 (.seq (.reg false [
  ⟨some 4, .mv (.c (.bool false)), none, []⟩]) (.seq (.seq (.reg false [
  ⟨some 7, .mv (.t 0), none, []⟩,
  ⟨some 8, .bin .eql (.t 7) (.c (.str [])), none, []⟩,
  ⟨some 9, .mv (.t 8), none, []⟩,
  ⟨some 10, .mv (.t 0), some (9, false), []⟩,
  ⟨some 11, .lenStr (.t 10), some (9, false), []⟩,
  ⟨some 12, .bin .gtr (.t 11) (.c (.int .i64 12)), some (9, false), []⟩,
  ⟨some 13, .pick (.t 9) (.c (.bool true)) (.t 12), none, []⟩,
  ⟨some 14, .mv (.t 13), none, []⟩,
  ⟨some 15, .mv (.t 0), some (14, false), []⟩,
  ⟨some 16, .idxStr (.t 15) (.c (.int .i64 0)), some (14, false), []⟩,
  ⟨some 17, .callP false (.f 164) [(.t 16)], some (14, false), []⟩,
  ⟨some 18, .mv (.t 1), some (14, false), []⟩,
  ⟨some 19, .bin .neq (.t 17) (.t 18), some (14, false), []⟩,
  ⟨some 20, .pick (.t 14) (.c (.bool true)) (.t 19), none, []⟩]) (.cond (.t 20) (.seq (.reg false [
  ⟨some 4, .mv (.c (.bool false)), none, []⟩]) (.ret)) (.skip))) (.seq (.seq (.reg false [
  ⟨some 21, .mv (.t 0), none, []⟩,
  ⟨some 22, .rangeStr (.t 21), none, []⟩]) (.block 0 (.loop (.seq (.reg false [
  ⟨some 23, .nextStr (.t 22), none, []⟩,
  ⟨some 24, .extract (.t 23) 0, none, []⟩]) (.seq (.cond (.t 24) (.skip) (.exit 0)) (.block 1 (.seq (.reg false [
  ⟨some 25, .extract (.t 23) 2, none, []⟩,
  ⟨some 6, .mv (.t 25), none, []⟩]) (.seq (.reg false [
  ⟨some 26, .mv (.t 6), none, []⟩,
  ⟨some 27, .bin .gtr (.t 26) (.c (.int .i32 127)), none, []⟩,
  ⟨some 28, .mv (.t 27), none, []⟩,
  ⟨some 29, .mv (.t 6), some (28, false), []⟩,
  ⟨some 30, .toInt .u8 (.t 29), some (28, false), []⟩,
  ⟨some 31, .callP false (.f 164) [(.t 30)], some (28, false), []⟩,
  ⟨some 32, .bin .lss (.t 31) (.c (.int .i64 2)), some (28, false), []⟩,
  ⟨some 33, .pick (.t 28) (.c (.bool true)) (.t 32), none, []⟩]) (.cond (.t 33) (.seq (.reg false [
  ⟨some 4, .mv (.c (.bool false)), none, []⟩]) (.ret)) (.skip)))))))))) (.seq (.reg false [
  ⟨some 4, .mv (.c (.bool true)), none, []⟩]) (.ret)))))⟩
def h110 : Hint := { cb := [], ps := [], cp := [], cs := [], ap := [] }
def c110 : AF := ⟨1, 12, [.tmp 2],
 (.seq (.reg false [
  ⟨some 2, .mv (.c (.bool false)), none, []⟩]) (.seq (.reg false [
  ⟨some 6, .call (.f 165) [], none, []⟩,
  ⟨some 7, .mv (.t 0), none, []⟩,
  ⟨some 8, .lookup true .str (.int .i64 0) (.t 6) (.t 7), none, []⟩,
  ⟨some 5, .mv (.t 8), none, []⟩,
  ⟨some 9, .extract (.t 5) 0, none, []⟩,
  ⟨some 10, .extract (.t 5) 1, none, []⟩,
  ⟨some 3, .mv (.t 9), none, []⟩,
  ⟨some 4, .mv (.t 10), none, []⟩]) (.seq (.reg false [
  ⟨some 11, .mv (.t 4), none, []⟩,
  ⟨some 2, .mv (.t 11), none, []⟩]) (.ret))))⟩
def h113 : Hint := { cb := [1], ps := [], cp := [], cs := [12], ap := [] }
def c113 : AF := ⟨1, 13, [.cell 2 true 2, .tmp 3],
 (.seq (.reg false [
  ⟨some 1, .boxc (.t 0), none, []⟩,
  ⟨some 2, .alloc [(.int .i64 0), (.int .i64 0)], none, []⟩,
  ⟨some 3, .mv (.c (.int .i64 0)), none, []⟩]) (.seq (.reg false [
  ⟨some 5, .build [(.int .i64 0), (.int .i64 0)] [(0, 1, (.c (.int .i64 3000)))], none, []⟩,
  ⟨some 4, .alloc [(.int .i64 0), (.int .i64 0)], none, []⟩,
  ⟨none, .store 2 (.t 4) (.t 5), none, []⟩]) (.seq (.seq (.reg false [
  ⟨some 6, .load true 7 (.t 1), none, []⟩,
  ⟨some 7, .call (.f 147) [(.t 4), (.t 6), (.c (.int .i64 1))], none, []⟩,
  ⟨some 8, .un .not (.t 7), none, []⟩]) (.cond (.t 8) (.seq (.reg false [
  ⟨some 9, .load true 2 (.t 4), none, []⟩,
  ⟨none, .store 2 (.t 2) (.t 9), none, []⟩,
  ⟨some 3, .mv (.c (.int .i64 3)), none, []⟩]) (.ret)) (.skip))) (.seq (.reg true [
  ⟨some 10, .load true 2 (.t 4), none, []⟩,
  ⟨some 11, .load true 7 (.t 1), none, []⟩,
  ⟨some 12, .callP true (.f 150) [(.t 11)], none, [1]⟩,
  ⟨none, .store 2 (.t 2) (.t 10), none, [0, 2, 1]⟩,
  ⟨some 3, .mv (.t 12), none, [2, 1, 3, 0]⟩]) (.ret)))))⟩
def h114 : Hint := { cb := [2], ps := [], cp := [], cs := [], ap := [] }
def c114 : AF := ⟨2, 28, [.tmp 4],
 (.seq (.reg false [
  ⟨some 2, .boxc (.t 0), none, []⟩,
  ⟨some 4, .mv (.c (.bool false)), none, []⟩]) (.seq (.reg false [
  ⟨some 5, .fieldA 0 (.t 2), none, []⟩,
  ⟨some 6, .fieldA 2 (.t 5), none, []⟩,
  ⟨some 7, .load false 1 (.t 6), none, []⟩,
  ⟨some 8, .mv (.t 1), none, []⟩,
  ⟨some 9, .bin .eql (.t 7) (.t 8), none, []⟩,
  ⟨some 10, .mv (.t 9), none, []⟩,
  ⟨some 11, .fieldA 0 (.t 2), some (10, true), []⟩,
  ⟨some 12, .fieldA 0 (.t 11), some (10, true), []⟩,
  ⟨some 13, .load false 1 (.t 12), some (10, true), []⟩,
  ⟨some 14, .bin .eql (.t 13) (.c (.int .i64 0)), some (10, true), []⟩,
  ⟨some 15, .mv (.t 14), some (10, true), []⟩,
  ⟨some 16, .fieldA 0 (.t 2), some (15, false), []⟩,
  ⟨some 17, .fieldA 0 (.t 16), some (15, false), []⟩,
  ⟨some 18, .load false 1 (.t 17), some (15, false), []⟩,
  ⟨some 19, .bin .eql (.t 18) (.c (.int .i64 18)), some (15, false), []⟩,
  ⟨some 20, .pick (.t 15) (.c (.bool true)) (.t 19), some (10, true), []⟩,
  ⟨some 21, .mv (.t 20), some (10, true), []⟩,
  ⟨some 22, .fieldA 0 (.t 2), some (21, false), []⟩,
  ⟨some 23, .fieldA 0 (.t 22), some (21, false), []⟩,
  ⟨some 24, .load false 1 (.t 23), some (21, false), []⟩,
  ⟨some 25, .bin .eql (.t 24) (.c (.int .i64 19)), some (21, false), []⟩,
  ⟨some 26, .pick (.t 21) (.c (.bool true)) (.t 25), some (10, true), []⟩,
  ⟨some 27, .pick (.t 10) (.t 26) (.c (.bool false)), none, []⟩,
  ⟨some 4, .mv (.t 27), none, []⟩]) (.ret)))⟩
def h115 : Hint := { cb := [], ps := [], cp := [7], cs := [], ap := [] }
def c115 : AF := ⟨2, 9, [.tmp 4],
 (.seq (.reg false [
  ⟨some 4, .mv (.c (.bool false)), none, []⟩]) (.seq (.reg false [
  ⟨some 5, .mv (.t 0), none, []⟩,
  ⟨some 6, .mv (.t 1), none, []⟩,
  ⟨some 7, .callP false (.f 167) [(.t 5), (.t 6)], none, []⟩,
  ⟨some 8, .bin .geq (.t 7) (.c (.int .i64 0)), none, []⟩,
  ⟨some 4, .mv (.t 8), none, []⟩]) (.ret)))⟩
def h116 : Hint := { cb := [1], ps := [], cp := [], cs := [], ap := [] }
def c116 : AF := ⟨1, 4, [.tmp 2],
 (.seq (.reg false [
  ⟨some 1, .boxc (.t 0), none, []⟩,
  ⟨some 2, .mv (.c .nilfunc), none, []⟩]) (.seq (.reg false [
  ⟨some 3, .mkFunc 168 [] [(.t 1)], none, []⟩,
  ⟨some 2, .mv (.t 3), none, []⟩]) (.ret)))⟩
def h117 : Hint := { cb := [3], ps := [], cp := [74, 26], cs := [], ap := [] }
def c117 : AF := ⟨3, 75, [.tmp 6],
 (.seq (.reg false [
  ⟨some 3, .boxc (.t 0), none, []⟩,
  ⟨some 6, .mv (.c (.bool false)), none, []⟩]) (.seq (.seq (.reg false [
  ⟨some 7, .mv (.t 1), none, []⟩,
  ⟨some 8, .fieldA 0 (.t 3), none, []⟩,
  ⟨some 9, .fieldA 5 (.t 8), none, []⟩,
  ⟨some 10, .load false 1 (.t 9), none, []⟩,
  ⟨some 11, .lenS (.t 10), none, []⟩,
  ⟨some 12, .bin .geq (.t 7) (.t 11), none, []⟩]) (.cond (.t 12) (.seq (.reg false [
  ⟨some 13, .fieldA 0 (.t 3), none, []⟩,
  ⟨some 14, .fieldA 6 (.t 13), none, []⟩,
  ⟨some 15, .load false 1 (.t 14), none, []⟩,
  ⟨some 16, .mv (.t 1), none, []⟩,
  ⟨some 17, .fieldA 0 (.t 3), none, []⟩,
  ⟨some 18, .fieldA 5 (.t 17), none, []⟩,
  ⟨some 19, .load false 1 (.t 18), none, []⟩,
  ⟨some 20, .lenS (.t 19), none, []⟩,
  ⟨some 21, .bin .sub (.t 16) (.t 20), none, []⟩,
  ⟨some 22, .idxS 9 (.t 15) (.t 21), none, []⟩,
  ⟨some 23, .fieldA 1 (.t 22), none, []⟩,
  ⟨some 24, .load false 1 (.t 23), none, []⟩,
  ⟨some 25, .mv (.t 2), none, []⟩,
  ⟨some 26, .callP false (.f 127) [(.t 24), (.t 25)], none, []⟩,
  ⟨some 6, .mv (.t 26), none, []⟩]) (.ret)) (.skip))) (.seq (.seq (.reg false [
  ⟨some 27, .fieldA 0 (.t 3), none, []⟩,
  ⟨some 28, .fieldA 0 (.t 27), none, []⟩,
  ⟨some 29, .load false 1 (.t 28), none, []⟩]) (.block 0 (.seq (.reg false [
  ⟨some 31, .bin .eql (.t 29) (.c (.int .i64 4)), none, []⟩,
  ⟨some 30, .mv (.t 31), none, []⟩]) (.cond (.t 30) (.seq (.reg false [
  ⟨some 32, .fieldA 0 (.t 3), none, []⟩,
  ⟨some 33, .fieldA 4 (.t 32), none, []⟩,
  ⟨some 34, .load false 1 (.t 33), none, []⟩,
  ⟨some 35, .idxS 1 (.t 34) (.c (.int .i64 0)), none, []⟩,
  ⟨some 36, .load false 1 (.t 35), none, []⟩,
  ⟨some 37, .mv (.t 2), none, []⟩,
  ⟨some 38, .bin .eql (.t 36) (.t 37), none, []⟩,
  ⟨some 6, .mv (.t 38), none, []⟩]) (.ret)) (.seq (.reg false [
  ⟨some 40, .bin .eql (.t 29) (.c (.int .i64 6)), none, []⟩,
  ⟨some 39, .mv (.t 40), none, []⟩]) (.cond (.t 39) (.seq (.reg false [
  ⟨some 41, .mv (.t 1), none, []⟩,
  ⟨some 42, .bin .eql (.t 41) (.c (.int .i64 1)), none, []⟩,
  ⟨some 43, .mv (.t 42), none, []⟩,
  ⟨some 44, .fieldA 0 (.t 3), some (43, true), []⟩,
  ⟨some 45, .fieldA 4 (.t 44), some (43, true), []⟩,
  ⟨some 46, .load false 1 (.t 45), some (43, true), []⟩,
  ⟨some 47, .idxS 1 (.t 46) (.c (.int .i64 0)), some (43, true), []⟩,
  ⟨some 48, .load false 1 (.t 47), some (43, true), []⟩,
  ⟨some 49, .mv (.t 2), some (43, true), []⟩,
  ⟨some 50, .bin .eql (.t 48) (.t 49), some (43, true), []⟩,
  ⟨some 51, .pick (.t 43) (.t 50) (.c (.bool false)), none, []⟩,
  ⟨some 6, .mv (.t 51), none, []⟩]) (.ret)) (.seq (.reg false [
  ⟨some 53, .bin .eql (.t 29) (.c (.int .i64 17)), none, []⟩,
  ⟨some 52, .mv (.t 53), none, []⟩]) (.cond (.t 52) (.seq (.reg false [
  ⟨some 54, .mv (.t 1), none, []⟩,
  ⟨some 55, .bin .eql (.t 54) (.c (.int .i64 2)), none, []⟩,
  ⟨some 56, .mv (.t 55), none, []⟩,
  ⟨some 57, .fieldA 0 (.t 3), some (56, true), []⟩,
  ⟨some 58, .fieldA 4 (.t 57), some (56, true), []⟩,
  ⟨some 59, .load false 1 (.t 58), some (56, true), []⟩,
  ⟨some 60, .idxS 1 (.t 59) (.c (.int .i64 0)), some (56, true), []⟩,
  ⟨some 61, .load false 1 (.t 60), some (56, true), []⟩,
  ⟨some 62, .mv (.t 2), some (56, true), []⟩,
  ⟨some 63, .bin .eql (.t 61) (.t 62), some (56, true), []⟩,
  ⟨some 64, .pick (.t 56) (.t 63) (.c (.bool false)), none, []⟩,
  ⟨some 6, .mv (.t 64), none, []⟩]) (.ret)) (.seq (.reg false [
  ⟨some 66, .bin .eql (.t 29) (.c (.int .i64 7)), none, []⟩,
  ⟨some 65, .mv (.t 66), none, []⟩]) (.cond (.t 65) (.seq (.reg false [
  ⟨some 67, .fieldA 0 (.t 3), none, []⟩,
  ⟨some 68, .fieldA 4 (.t 67), none, []⟩,
  ⟨some 69, .load false 1 (.t 68), none, []⟩,
  ⟨some 70, .mv (.t 1), none, []⟩,
  ⟨some 71, .bin .sub (.c (.int .i64 2)) (.t 70), none, []⟩,
  ⟨some 72, .cutS 1 (.t 69) none (some (.t 71)) none, none, []⟩,
  ⟨some 73, .mv (.t 2), none, []⟩,
  ⟨some 74, .callP false (.f 127) [(.t 72), (.t 73)], none, []⟩,
  ⟨some 6, .mv (.t 74), none, []⟩]) (.ret)) (.skip))))))))))) (.seq (.reg false [
  ⟨some 6, .mv (.c (.bool false)), none, []⟩]) (.ret)))))⟩
def h118 : Hint := { cb := [3], ps := [], cp := [], cs := [], ap := [] }
def c118 : AF := ⟨2, 25, [.tmp 4],
 (.seq (.reg false [
  ⟨some 3, .boxc (.t 1), none, []⟩,
  ⟨some 4, .mv (.c (.bool false)), none, []⟩]) (.seq (.reg true [
  ⟨some 5, .fieldA 0 (.t 3), none, []⟩,
  ⟨some 6, .fieldA 0 (.t 5), none, [0]⟩,
  ⟨some 7, .load false 1 (.t 6), none, [1, 0]⟩,
  ⟨some 8, .bin .eql (.t 7) (.c (.int .i64 18)), none, [2, 1, 0]⟩,
  ⟨some 9, .mv (.t 8), none, [3, 2, 1, 0]⟩,
  ⟨some 10, .fieldA 0 (.t 3), some (9, false), [4, 3, 2, 1, 0]⟩,
  ⟨some 11, .fieldA 0 (.t 10), some (9, false), [5, 4, 3, 2, 1, 0]⟩,
  ⟨some 12, .load false 1 (.t 11), some (9, false), [6, 5, 4, 3, 2, 1, 0]⟩,
  ⟨some 13, .bin .eql (.t 12) (.c (.int .i64 19)), some (9, false), [7, 6, 5, 4, 3, 2, 1, 0]⟩,
  ⟨some 14, .pick (.t 9) (.c (.bool true)) (.t 13), none, [4, 3, 2, 1, 0, 8, 7, 6, 5]⟩,
  ⟨some 15, .mv (.t 14), none, [9, 4, 3, 2, 1, 0, 8, 7, 6, 5]⟩,
  ⟨some 16, .fieldA 0 (.t 3), some (15, true), [10, 9, 4, 3, 2, 1, 0, 8, 7, 6, 5]⟩,
  ⟨some 17, .fieldA 2 (.t 16), some (15, true), [11, 10, 9, 4, 3, 2, 1, 0, 8, 7, 6, 5]⟩,
  ⟨some 18, .load false 1 (.t 17), some (15, true), [12, 11, 10, 9, 4, 3, 2, 1, 0, 8, 7, 6, 5]⟩,
  ⟨some 19, .mv (.t 0), some (15, true), [10, 9, 4, 3, 2, 1, 0, 8, 7, 6, 5]⟩,
  ⟨some 20, .nilchk (.t 19), some (15, true), [14, 10, 9, 4, 3, 2, 1, 0, 8, 7, 6, 5]⟩,
  ⟨some 21, .fieldA 0 (.t 20), some (15, true), [15, 14, 10, 9, 4, 3, 2, 1, 0, 8, 7, 6, 5]⟩,
  ⟨some 22, .load false 1 (.t 21), some (15, true), [16, 15, 14, 10, 9, 4, 3, 2, 1, 0, 8, 7, 6, 5]⟩,
  ⟨some 23, .bin .eql (.t 18) (.t 22), some (15, true), [13, 12, 11, 10, 9, 4, 3, 2, 1, 0, 8, 7, 6, 5, 17, 16, 15, 14]⟩,
  ⟨some 24, .pick (.t 15) (.t 23) (.c (.bool false)), none, [10, 9, 4, 3, 2, 1, 0, 8, 7, 6, 5, 18, 13, 12, 11, 17, 16, 15, 14]⟩,
  ⟨some 4, .mv (.t 24), none, [19, 10, 9, 4, 3, 2, 1, 0, 8, 7, 6, 5, 18, 13, 12, 11, 17, 16, 15, 14]⟩]) (.ret)))⟩
def h119 : Hint := { cb := [3, 2], ps := [5], cp := [15], cs := [], ap := [27] }
def c119 : AF := ⟨2, 52, [],
 (.seq (.reg false [
  ⟨some 2, .boxc (.t 0), none, []⟩,
  ⟨some 3, .boxc (.t 1), none, []⟩]) (.seq (.seq (.reg false [
  ⟨some 6, .load true 8 (.t 3), none, []⟩,
  ⟨some 7, .call (.f 116) [(.t 6)], none, []⟩]) (.block 0 (.rangeF (.t 7) [8, 9] (.reg false [
  ⟨some 5, .pend [(.int .i64 0), (.int .i64 0), (.str []), (.str []), (.slice 0 [] .full), (.slice 0 [] .full), (.slice 0 [] .full), (.slice 0 [] .full)], none, []⟩,
  ⟨none, .shut 5 8 (.t 9), none, []⟩]) (.block 1 (.reg true [
  ⟨some 10, .load true 8 (.t 5), none, []⟩,
  ⟨some 11, .load false 1 (.t 2), none, []⟩,
  ⟨some 12, .nilchk (.t 11), none, [1]⟩,
  ⟨some 13, .fieldA 0 (.t 12), none, [2, 1]⟩,
  ⟨some 14, .load false 1 (.t 13), none, [3, 2, 1]⟩,
  ⟨some 15, .callP false (.f 82) [(.t 10), (.t 14), (.c (.bool false)), (.c (.bool false))], none, [0, 4, 3, 2, 1]⟩,
  ⟨some 16, .extract (.t 15) 0, none, [5, 0, 4, 3, 2, 1]⟩,
  ⟨some 17, .extract (.t 15) 1, none, [5, 0, 4, 3, 2, 1]⟩,
  ⟨some 18, .call (.f 137) [(.t 16), (.t 17)], none, [6, 5, 0, 4, 3, 2, 1, 7]⟩]))))) (.seq (.reg true [
  ⟨some 19, .load false 1 (.t 2), none, []⟩,
  ⟨some 20, .load false 1 (.t 2), none, []⟩,
  ⟨some 21, .nilchk (.t 20), none, [1]⟩,
  ⟨some 22, .fieldA 1 (.t 21), none, [2, 1]⟩,
  ⟨some 23, .load false 1 (.t 22), none, [3, 2, 1]⟩,
  ⟨some 24, .fieldA 7 (.t 3), none, []⟩,
  ⟨some 25, .load false 1 (.t 24), none, [5]⟩,
  ⟨some 26, .bslice 1 1 [(.slice 0 [] .full)] [(0, (.t 25))], none, [6, 5]⟩,
  ⟨some 27, .append true 1 24 (.t 23) (.t 26), none, [4, 3, 2, 1, 7, 6, 5]⟩,
  ⟨some 28, .nilchk (.t 19), none, [0, 1, 2, 3, 4, 5, 6, 7, 8]⟩,
  ⟨some 29, .fieldA 1 (.t 28), none, [9, 0, 1, 2, 3, 4, 5, 6, 7, 8]⟩,
  ⟨none, .store 1 (.t 29) (.t 27), none, [10, 9, 0, 1, 2, 3, 4, 5, 6, 7, 8]⟩]) (.seq (.reg false [
  ⟨some 30, .fieldA 0 (.t 3), none, []⟩,
  ⟨some 31, .fieldA 0 (.t 30), none, []⟩,
  ⟨some 32, .load false 1 (.t 31), none, []⟩,
  ⟨some 33, .bin .eql (.t 32) (.c (.int .i64 18)), none, []⟩]) (.cond (.t 33) (.reg true [
  ⟨some 34, .load false 1 (.t 2), none, []⟩,
  ⟨some 35, .nilchk (.t 34), none, [0]⟩,
  ⟨some 36, .fieldA 2 (.t 35), none, [1, 0]⟩,
  ⟨some 37, .idxA 2 1 (.t 36) (.c (.int .i64 0)), none, [2, 1, 0]⟩,
  ⟨some 38, .load false 1 (.t 37), none, [3, 2, 1, 0]⟩,
  ⟨some 39, .bin .add (.t 38) (.c (.int .i64 1)), none, [4, 3, 2, 1, 0]⟩,
  ⟨some 40, .nilchk (.t 34), none, [0]⟩,
  ⟨some 41, .fieldA 2 (.t 40), none, [6, 0]⟩,
  ⟨some 42, .idxA 2 1 (.t 41) (.c (.int .i64 0)), none, [7, 6, 0, 1, 2, 3, 4, 5]⟩,
  ⟨none, .store 1 (.t 42) (.t 39), none, [8, 7, 6, 0, 1, 2, 3, 4, 5]⟩]) (.reg true [
  ⟨some 43, .load false 1 (.t 2), none, []⟩,
  ⟨some 44, .nilchk (.t 43), none, [0]⟩,
  ⟨some 45, .fieldA 2 (.t 44), none, [1, 0]⟩,
  ⟨some 46, .idxA 2 1 (.t 45) (.c (.int .i64 1)), none, [2, 1, 0]⟩,
  ⟨some 47, .load false 1 (.t 46), none, [3, 2, 1, 0]⟩,
  ⟨some 48, .bin .add (.t 47) (.c (.int .i64 1)), none, [4, 3, 2, 1, 0]⟩,
  ⟨some 49, .nilchk (.t 43), none, [0]⟩,
  ⟨some 50, .fieldA 2 (.t 49), none, [6, 0]⟩,
  ⟨some 51, .idxA 2 1 (.t 50) (.c (.int .i64 1)), none, [7, 6, 0, 1, 2, 3, 4, 5]⟩,
  ⟨none, .store 1 (.t 51) (.t 48), none, [8, 7, 6, 0, 1, 2, 3, 4, 5]⟩]))))))⟩
def h120 : Hint := { cb := [3, 2], ps := [5, 4], cp := [33], cs := [11, 9], ap := [] }
def c120 : AF := ⟨2, 50, [],
 (.seq (.reg false [
  ⟨some 2, .boxc (.t 0), none, []⟩,
  ⟨some 3, .boxc (.t 1), none, []⟩]) (.seq (.reg true [
  ⟨some 8, .load true 8 (.t 3), none, []⟩,
  ⟨some 9, .callP true (.f 169) [(.t 8), (.c (.int .i64 0))], none, [0]⟩,
  ⟨some 10, .load true 8 (.t 3), none, []⟩,
  ⟨some 11, .callP true (.f 169) [(.t 10), (.c (.int .i64 1))], none, [2, 1, 0]⟩,
  ⟨some 4, .pend [(.int .i64 0), (.int .i64 0), (.str []), (.str []), (.slice 0 [] .full), (.slice 0 [] .full), (.slice 0 [] .full), (.slice 0 [] .full)], none, []⟩,
  ⟨some 5, .pend [(.int .i64 0), (.int .i64 0), (.str []), (.str []), (.slice 0 [] .full), (.slice 0 [] .full), (.slice 0 [] .full), (.slice 0 [] .full)], none, []⟩,
  ⟨none, .shut 4 8 (.t 9), none, [4, 1, 0, 3, 2, 5]⟩,
  ⟨none, .shut 5 8 (.t 11), none, [5, 3, 2, 1, 0, 6, 4]⟩]) (.seq (.seq (.reg false [
  ⟨some 12, .load false 1 (.t 2), none, []⟩,
  ⟨some 13, .load true 8 (.t 4), none, []⟩,
  ⟨some 14, .call (.f 118) [(.t 12), (.t 13)], none, []⟩]) (.cond (.t 14) (.seq (.reg false [
  ⟨some 15, .load false 1 (.t 2), none, []⟩,
  ⟨some 16, .load true 8 (.t 4), none, []⟩,
  ⟨some 17, .call (.f 119) [(.t 15), (.t 16)], none, []⟩]) (.seq (.seq (.reg true [
  ⟨some 18, .fieldA 0 (.t 3), none, []⟩,
  ⟨some 19, .fieldA 4 (.t 18), none, [0]⟩,
  ⟨some 20, .load false 1 (.t 19), none, [1, 0]⟩,
  ⟨some 21, .idxS 1 (.t 20) (.c (.int .i64 0)), none, [2, 1, 0]⟩,
  ⟨some 22, .load false 1 (.t 21), none, [3, 2, 1, 0]⟩,
  ⟨some 23, .load false 1 (.t 2), none, []⟩,
  ⟨some 24, .nilchk (.t 23), none, [5]⟩,
  ⟨some 25, .fieldA 0 (.t 24), none, [6, 5]⟩,
  ⟨some 26, .load false 1 (.t 25), none, [7, 6, 5]⟩,
  ⟨some 27, .bin .neq (.t 22) (.t 26), none, [4, 3, 2, 1, 0, 8, 7, 6, 5]⟩]) (.cond (.t 27) (.reg true [
  ⟨some 28, .load true 8 (.t 5), none, []⟩,
  ⟨some 29, .load false 1 (.t 2), none, []⟩,
  ⟨some 30, .nilchk (.t 29), none, [1]⟩,
  ⟨some 31, .fieldA 0 (.t 30), none, [2, 1]⟩,
  ⟨some 32, .load false 1 (.t 31), none, [3, 2, 1]⟩,
  ⟨some 33, .callP false (.f 170) [(.t 28), (.t 32)], none, [0, 4, 3, 2, 1]⟩,
  ⟨some 34, .extract (.t 33) 0, none, [5, 0, 4, 3, 2, 1]⟩,
  ⟨some 35, .extract (.t 33) 1, none, [5, 0, 4, 3, 2, 1]⟩,
  ⟨some 36, .call (.f 137) [(.t 34), (.t 35)], none, [6, 5, 0, 4, 3, 2, 1, 7]⟩]) (.skip))) (.ret))) (.skip))) (.seq (.reg false [
  ⟨some 38, .mkFunc 172 [] [(.t 4), (.t 2)], none, []⟩,
  ⟨some 39, .mkFunc 173 [] [(.t 3), (.t 2)], none, []⟩,
  ⟨some 40, .bslice 1 2 [.nilfunc] [(0, (.t 38)), (1, (.t 39))], none, []⟩,
  ⟨some 41, .call (.f 171) [(.t 40)], none, []⟩,
  ⟨some 37, .mv (.t 41), none, []⟩,
  ⟨some 42, .extract (.t 37) 0, none, []⟩,
  ⟨some 43, .extract (.t 37) 1, none, []⟩,
  ⟨some 6, .mv (.t 42), none, []⟩,
  ⟨some 7, .mv (.t 43), none, []⟩]) (.seq (.reg false [
  ⟨some 44, .mv (.t 6), none, []⟩,
  ⟨some 45, .mv (.t 7), none, []⟩,
  ⟨some 46, .call (.f 137) [(.t 44), (.t 45)], none, []⟩]) (.reg false [
  ⟨some 47, .load false 1 (.t 2), none, []⟩,
  ⟨some 48, .load true 8 (.t 5), none, []⟩,
  ⟨some 49, .call (.f 84) [(.t 47), (.t 48)], none, []⟩]))))))⟩
def h121 : Hint := { cb := [3], ps := [], cp := [20, 16, 10], cs := [5], ap := [] }
def c121 : AF := ⟨2, 22, [],
 (.seq (.reg false [
  ⟨some 3, .boxc (.t 1), none, []⟩]) (.seq (.reg true [
  ⟨some 4, .load true 8 (.t 3), none, []⟩,
  ⟨some 5, .callP true (.f 169) [(.t 4), (.c (.int .i64 0))], none, [0]⟩,
  ⟨some 6, .mv (.t 0), none, []⟩,
  ⟨some 7, .nilchk (.t 6), none, [2]⟩,
  ⟨some 8, .fieldA 0 (.t 7), none, [3, 2]⟩,
  ⟨some 9, .load false 1 (.t 8), none, [4, 3, 2]⟩,
  ⟨some 10, .callP false (.f 82) [(.t 5), (.t 9), (.c (.bool false)), (.c (.bool false))], none, [1, 0, 5, 4, 3, 2]⟩,
  ⟨some 11, .extract (.t 10) 0, none, [6, 1, 0, 5, 4, 3, 2]⟩,
  ⟨some 12, .extract (.t 10) 1, none, [6, 1, 0, 5, 4, 3, 2]⟩,
  ⟨some 13, .call (.f 137) [(.t 11), (.t 12)], none, [7, 6, 1, 0, 5, 4, 3, 2, 8]⟩]) (.seq (.reg false [
  ⟨some 14, .mv (.t 0), none, []⟩,
  ⟨some 15, .load true 8 (.t 3), none, []⟩,
  ⟨some 16, .callP false (.f 169) [(.t 15), (.c (.int .i64 1))], none, []⟩,
  ⟨some 17, .call (.f 84) [(.t 14), (.t 16)], none, []⟩]) (.reg false [
  ⟨some 18, .mv (.t 0), none, []⟩,
  ⟨some 19, .load true 8 (.t 3), none, []⟩,
  ⟨some 20, .callP false (.f 169) [(.t 19), (.c (.int .i64 2))], none, []⟩,
  ⟨some 21, .call (.f 84) [(.t 18), (.t 20)], none, []⟩]))))⟩
def h122 : Hint := { cb := [3, 2], ps := [5], cp := [12], cs := [30, 7], ap := [] }
def c122 : AF := ⟨2, 35, [],
 (.seq (.reg false [
  ⟨some 2, .boxc (.t 0), none, []⟩,
  ⟨some 3, .boxc (.t 1), none, []⟩]) (.seq (.reg true [
  ⟨some 6, .load true 8 (.t 3), none, []⟩,
  ⟨some 7, .callP true (.f 169) [(.t 6), (.c (.int .i64 0))], none, [0]⟩,
  ⟨some 8, .load false 1 (.t 2), none, []⟩,
  ⟨some 9, .nilchk (.t 8), none, [2]⟩,
  ⟨some 10, .fieldA 0 (.t 9), none, [3, 2]⟩,
  ⟨some 11, .load false 1 (.t 10), none, [4, 3, 2]⟩,
  ⟨some 12, .callP false (.f 82) [(.t 7), (.t 11), (.c (.bool false)), (.c (.bool false))], none, [1, 0, 5, 4, 3, 2]⟩,
  ⟨some 13, .extract (.t 12) 0, none, [6, 1, 0, 5, 4, 3, 2]⟩,
  ⟨some 14, .extract (.t 12) 1, none, [6, 1, 0, 5, 4, 3, 2]⟩,
  ⟨some 15, .call (.f 137) [(.t 13), (.t 14)], none, [7, 6, 1, 0, 5, 4, 3, 2, 8]⟩]) (.seq (.reg false [
  ⟨some 16, .load true 8 (.t 3), none, []⟩,
  ⟨some 17, .call (.f 116) [(.t 16)], none, []⟩]) (.block 0 (.rangeF (.t 17) [18, 19] (.seq (.reg false [
  ⟨some 4, .mv (.t 18), none, []⟩]) (.reg false [
  ⟨some 5, .pend [(.int .i64 0), (.int .i64 0), (.str []), (.str []), (.slice 0 [] .full), (.slice 0 [] .full), (.slice 0 [] .full), (.slice 0 [] .full)], none, []⟩,
  ⟨none, .shut 5 8 (.t 19), none, []⟩])) (.block 1 (.seq (.seq (.reg false [
  ⟨some 20, .mv (.t 4), none, []⟩,
  ⟨some 21, .bin .eql (.t 20) (.c (.int .i64 0)), none, []⟩]) (.cond (.t 21) (.exit 1) (.skip))) (.seq (.reg true [
  ⟨some 22, .fieldA 7 (.t 5), none, []⟩,
  ⟨some 23, .load false 1 (.t 22), none, [0]⟩,
  ⟨some 24, .load true 8 (.t 3), none, []⟩,
  ⟨some 25, .mv (.t 4), none, []⟩,
  ⟨some 26, .load false 1 (.t 2), none, []⟩,
  ⟨some 27, .nilchk (.t 26), none, [4]⟩,
  ⟨some 28, .fieldA 0 (.t 27), none, [5, 4]⟩,
  ⟨some 29, .load false 1 (.t 28), none, [6, 5, 4]⟩,
  ⟨some 30, .callP true (.f 117) [(.t 24), (.t 25), (.t 29)], none, [2, 3, 7, 6, 5, 4]⟩,
  ⟨some 31, .call (.f 137) [(.t 23), (.t 30)], none, [1, 0, 8, 2, 3, 7, 6, 5, 4]⟩]) (.reg false [
  ⟨some 32, .load false 1 (.t 2), none, []⟩,
  ⟨some 33, .load true 8 (.t 5), none, []⟩,
  ⟨some 34, .call (.f 84) [(.t 32), (.t 33)], none, []⟩])))))))))⟩
def h123 : Hint := { cb := [3, 2], ps := [5], cp := [30, 23], cs := [8], ap := [] }
def c123 : AF := ⟨2, 34, [],
 (.seq (.reg false [
  ⟨some 2, .boxc (.t 0), none, []⟩,
  ⟨some 3, .boxc (.t 1), none, []⟩]) (.scope (.seq (.reg true [
  ⟨some 6, .load false 1 (.t 2), none, []⟩,
  ⟨some 7, .load true 8 (.t 3), none, []⟩,
  ⟨some 8, .callP true (.f 169) [(.t 7), (.c (.int .i64 0))], none, [1]⟩,
  ⟨some 9, .call (.f 84) [(.t 6), (.t 8)], none, [0, 2, 1]⟩]) (.seq (.skip) (.seq (.reg false [
  ⟨some 10, .load true 8 (.t 3), none, []⟩,
  ⟨some 11, .call (.f 116) [(.t 10)], none, []⟩]) (.block 0 (.rangeF (.t 11) [12, 13] (.seq (.reg false [
  ⟨some 4, .mv (.t 12), none, []⟩]) (.reg false [
  ⟨some 5, .pend [(.int .i64 0), (.int .i64 0), (.str []), (.str []), (.slice 0 [] .full), (.slice 0 [] .full), (.slice 0 [] .full), (.slice 0 [] .full)], none, []⟩,
  ⟨none, .shut 5 8 (.t 13), none, []⟩])) (.block 1 (.seq (.seq (.reg true [
  ⟨some 14, .mv (.t 4), none, []⟩,
  ⟨some 15, .bin .eql (.t 14) (.c (.int .i64 0)), none, [0]⟩,
  ⟨some 16, .mv (.t 15), none, [1, 0]⟩,
  ⟨some 17, .load true 8 (.t 3), some (16, false), [2, 1, 0]⟩,
  ⟨some 18, .mv (.t 4), some (16, false), [2, 1, 0]⟩,
  ⟨some 19, .load false 1 (.t 2), some (16, false), [2, 1, 0]⟩,
  ⟨some 20, .nilchk (.t 19), some (16, false), [5, 2, 1, 0]⟩,
  ⟨some 21, .fieldA 0 (.t 20), some (16, false), [6, 5, 2, 1, 0]⟩,
  ⟨some 22, .load false 1 (.t 21), some (16, false), [7, 6, 5, 2, 1, 0]⟩,
  ⟨some 23, .callP false (.f 117) [(.t 17), (.t 18), (.t 22)], some (16, false), [3, 2, 1, 0, 4, 8, 7, 6, 5]⟩,
  ⟨some 24, .pick (.t 16) (.c (.bool true)) (.t 23), none, [2, 1, 0, 9, 3, 4, 8, 7, 6, 5]⟩]) (.cond (.t 24) (.exit 1) (.skip))) (.reg true [
  ⟨some 25, .load true 8 (.t 5), none, []⟩,
  ⟨some 26, .load false 1 (.t 2), none, []⟩,
  ⟨some 27, .nilchk (.t 26), none, [1]⟩,
  ⟨some 28, .fieldA 0 (.t 27), none, [2, 1]⟩,
  ⟨some 29, .load false 1 (.t 28), none, [3, 2, 1]⟩,
  ⟨some 30, .callP false (.f 170) [(.t 25), (.t 29)], none, [0, 4, 3, 2, 1]⟩,
  ⟨some 31, .extract (.t 30) 0, none, [5, 0, 4, 3, 2, 1]⟩,
  ⟨some 32, .extract (.t 30) 1, none, [5, 0, 4, 3, 2, 1]⟩,
  ⟨some 33, .call (.f 137) [(.t 31), (.t 32)], none, [6, 5, 0, 4, 3, 2, 1, 7]⟩]))))))))))⟩
def h125 : Hint := { cb := [], ps := [2], cp := [], cs := [], ap := [] }
def c125 : AF := ⟨1, 17, [],
 (.seq (.reg false [
  ⟨some 4, .recov, none, []⟩,
  ⟨some 1, .mv (.t 4), none, []⟩]) (.seq (.reg false [
  ⟨some 5, .mv (.t 1), none, []⟩,
  ⟨some 6, .eqnil true .iface (.t 5), none, []⟩]) (.cond (.t 6) (.seq (.reg false [
  ⟨some 8, .mv (.t 1), none, []⟩,
  ⟨some 9, .assert true 164 (.agg [(.int .i64 0)]) (.t 8), none, []⟩,
  ⟨some 7, .mv (.t 9), none, []⟩,
  ⟨some 10, .extract (.t 7) 0, none, []⟩,
  ⟨some 11, .extract (.t 7) 1, none, []⟩,
  ⟨some 2, .pend [(.int .i64 0)], none, []⟩,
  ⟨none, .shut 2 1 (.t 10), none, []⟩,
  ⟨some 3, .mv (.t 11), none, []⟩]) (.seq (.seq (.reg false [
  ⟨some 12, .mv (.t 3), none, []⟩,
  ⟨some 13, .un .not (.t 12), none, []⟩]) (.cond (.t 13) (.reg false [
  ⟨some 14, .mv (.t 1), none, []⟩,
  ⟨none, .panic (.t 14), none, []⟩]) (.skip))) (.reg false [
  ⟨some 15, .fieldA 0 (.t 2), none, []⟩,
  ⟨some 16, .load false 1 (.t 15), none, []⟩,
  ⟨none, .store 1 (.t 0) (.t 16), none, []⟩]))) (.skip))))⟩
def h126 : Hint := { cb := [], ps := [], cp := [8], cs := [], ap := [] }
def c126 : AF := ⟨2, 18, [],
 (.seq (.seq (.reg false [
  ⟨some 4, .mv (.t 0), none, []⟩,
  ⟨some 5, .nilchk (.t 4), none, []⟩,
  ⟨some 6, .load false 1 (.t 5), none, []⟩,
  ⟨some 7, .mv (.t 1), none, []⟩,
  ⟨some 8, .callP false (.f 127) [(.t 6), (.t 7)], none, []⟩]) (.cond (.t 8) (.reg false [
  ⟨some 9, .call (.f 128) [(.c (.int .i64 5))], none, []⟩]) (.skip))) (.reg false [
  ⟨some 10, .mv (.t 0), none, []⟩,
  ⟨some 11, .mv (.t 0), none, []⟩,
  ⟨some 12, .nilchk (.t 11), none, []⟩,
  ⟨some 13, .load false 1 (.t 12), none, []⟩,
  ⟨some 14, .mv (.t 1), none, []⟩,
  ⟨some 15, .bslice 1 1 [(.str [])] [(0, (.t 14))], none, []⟩,
  ⟨some 16, .append false 1 16 (.t 13) (.t 15), none, []⟩,
  ⟨some 17, .nilchk (.t 10), none, []⟩,
  ⟨none, .store 1 (.t 17) (.t 16), none, []⟩]))⟩
def h127 : Hint := { cb := [], ps := [], cp := [7], cs := [], ap := [] }
def c127 : AF := ⟨2, 9, [.tmp 4],
 (.seq (.reg false [
  ⟨some 4, .mv (.c (.bool false)), none, []⟩]) (.seq (.reg false [
  ⟨some 5, .mv (.t 0), none, []⟩,
  ⟨some 6, .mv (.t 1), none, []⟩,
  ⟨some 7, .callP false (.f 175) [(.t 5), (.t 6)], none, []⟩,
  ⟨some 8, .bin .geq (.t 7) (.c (.int .i64 0)), none, []⟩,
  ⟨some 4, .mv (.t 8), none, []⟩]) (.ret)))⟩
def h128 : Hint := { cb := [], ps := [], cp := [], cs := [], ap := [] }
def c128 : AF := ⟨1, 5, [],
 (.reg false [
  ⟨some 2, .mv (.t 0), none, []⟩,
  ⟨some 3, .build [(.int .i64 0)] [(0, 1, (.t 2))], none, []⟩,
  ⟨some 4, .mkIface 164 (.t 3), none, []⟩,
  ⟨none, .panic (.t 4), none, []⟩])⟩
def h129 : Hint := { cb := [4], ps := [12, 8], cp := [64, 20], cs := [], ap := [] }
def c129 : AF := ⟨3, 82, [],
 (.seq (.reg false [
  ⟨some 4, .boxc (.t 1), none, []⟩]) (.seq (.seq (.reg false [
  ⟨some 13, .fieldA 0 (.t 4), none, []⟩,
  ⟨some 14, .load false 1 (.t 13), none, []⟩]) (.block 0 (.seq (.reg false [
  ⟨some 16, .bin .eql (.t 14) (.c (.int .i64 1)), none, []⟩,
  ⟨some 15, .mv (.t 16), none, []⟩]) (.cond (.t 15) (.seq (.reg false [
  ⟨some 17, .mv (.t 2), none, []⟩,
  ⟨some 18, .fieldA 2 (.t 4), none, []⟩,
  ⟨some 19, .load false 1 (.t 18), none, []⟩,
  ⟨some 20, .callP false (.f 127) [(.t 17), (.t 19)], none, []⟩,
  ⟨some 21, .un .not (.t 20), none, []⟩]) (.cond (.t 21) (.reg false [
  ⟨some 22, .call (.f 128) [(.c (.int .i64 6))], none, []⟩]) (.skip))) (.seq (.reg false [
  ⟨some 24, .bin .eql (.t 14) (.c (.int .i64 6)), none, []⟩,
  ⟨some 23, .mv (.t 24), none, []⟩]) (.cond (.t 23) (.seq (.reg false [
  ⟨some 25, .mv (.t 0), none, []⟩,
  ⟨some 26, .fieldA 2 (.t 4), none, []⟩,
  ⟨some 27, .load false 1 (.t 26), none, []⟩,
  ⟨some 28, .call (.f 176) [(.t 25), (.t 27)], none, []⟩,
  ⟨some 6, .mv (.t 28), none, []⟩]) (.seq (.seq (.reg false [
  ⟨some 29, .mv (.t 6), none, []⟩,
  ⟨some 30, .bin .lss (.t 29) (.c (.int .i64 0)), none, []⟩]) (.cond (.t 30) (.reg false [
  ⟨some 31, .call (.f 128) [(.c (.int .i64 6))], none, []⟩]) (.skip))) (.seq (.reg true [
  ⟨some 32, .mv (.t 0), none, []⟩,
  ⟨some 33, .nilchk (.t 32), none, [0]⟩,
  ⟨some 34, .fieldA 0 (.t 33), none, [1, 0]⟩,
  ⟨some 35, .fieldA 0 (.t 34), none, [2, 1, 0]⟩,
  ⟨some 36, .load false 1 (.t 35), none, [3, 2, 1, 0]⟩,
  ⟨some 37, .mv (.t 6), none, []⟩,
  ⟨some 38, .idxS 3 (.t 36) (.t 37), none, [4, 3, 2, 1, 0, 5]⟩,
  ⟨some 39, .fieldA 1 (.t 38), none, [6, 4, 3, 2, 1, 0, 5]⟩,
  ⟨some 40, .load false 1 (.t 39), none, [7, 6, 4, 3, 2, 1, 0, 5]⟩,
  ⟨some 41, .lenS (.t 40), none, [8, 7, 6, 4, 3, 2, 1, 0, 5]⟩,
  ⟨some 42, .fieldA 3 (.t 4), none, []⟩,
  ⟨some 43, .load false 1 (.t 42), none, [10]⟩,
  ⟨some 44, .lenS (.t 43), none, [11, 10]⟩,
  ⟨some 45, .bin .neq (.t 41) (.t 44), none, [9, 8, 7, 6, 4, 3, 2, 1, 0, 5, 12, 11, 10]⟩]) (.cond (.t 45) (.reg false [
  ⟨some 46, .call (.f 128) [(.c (.int .i64 7))], none, []⟩]) (.skip))))) (.seq (.reg false [
  ⟨some 48, .bin .eql (.t 14) (.c (.int .i64 5)), none, []⟩,
  ⟨some 47, .mv (.t 48), none, []⟩]) (.cond (.t 47) (.seq (.reg false [
  ⟨some 49, .fieldA 4 (.t 4), none, []⟩,
  ⟨some 50, .fieldA 0 (.t 49), none, []⟩,
  ⟨some 51, .load false 1 (.t 50), none, []⟩,
  ⟨some 52, .lenS (.t 51), none, []⟩,
  ⟨some 53, .mv (.c (.int .i64 0)), none, []⟩]) (.block 1 (.loop (.seq (.reg false [
  ⟨some 54, .bin .lss (.t 53) (.t 52), none, []⟩]) (.seq (.cond (.t 54) (.skip) (.exit 1)) (.seq (.block 2 (.seq (.reg false [
  ⟨some 55, .idxS 2 (.t 51) (.t 53), none, []⟩,
  ⟨some 56, .load true 2 (.t 55), none, []⟩,
  ⟨some 8, .pend [(.str []), (.int .i64 0)], none, []⟩,
  ⟨none, .shut 8 2 (.t 56), none, []⟩]) (.seq (.reg true [
  ⟨some 58, .mv (.t 0), none, []⟩,
  ⟨some 59, .nilchk (.t 58), none, [0]⟩,
  ⟨some 60, .fieldA 0 (.t 59), none, [1, 0]⟩,
  ⟨some 61, .load true 10 (.t 60), none, [2, 1, 0]⟩,
  ⟨some 62, .fieldA 0 (.t 8), none, []⟩,
  ⟨some 63, .load false 1 (.t 62), none, [4]⟩,
  ⟨some 64, .callP false (.f 177) [(.t 61), (.t 63)], none, [3, 2, 1, 0, 5, 4]⟩,
  ⟨some 57, .mv (.t 64), none, [6, 3, 2, 1, 0, 5, 4]⟩,
  ⟨some 65, .extract (.t 57) 0, none, [7, 6, 3, 2, 1, 0, 5, 4]⟩,
  ⟨some 66, .extract (.t 57) 1, none, [7, 6, 3, 2, 1, 0, 5, 4]⟩,
  ⟨some 9, .mv (.t 65), none, [8, 7, 6, 3, 2, 1, 0, 5, 4]⟩,
  ⟨some 10, .mv (.t 66), none, [9, 7, 6, 3, 2, 1, 0, 5, 4, 10, 8]⟩]) (.reg false [
  ⟨some 67, .mv (.t 10), none, []⟩,
  ⟨some 68, .call (.f 93) [(.t 67)], none, []⟩])))) (.reg false [
  ⟨some 69, .bin .add (.t 53) (.c (.int .i64 1)), none, []⟩,
  ⟨some 53, .mv (.t 69), none, []⟩]))))))) (.skip))))))))) (.seq (.reg false [
  ⟨some 70, .fieldA 3 (.t 4), none, []⟩,
  ⟨some 71, .load false 1 (.t 70), none, []⟩,
  ⟨some 72, .lenS (.t 71), none, []⟩,
  ⟨some 73, .mv (.c (.int .i64 0)), none, []⟩]) (.block 3 (.loop (.seq (.reg false [
  ⟨some 74, .bin .lss (.t 73) (.t 72), none, []⟩]) (.seq (.cond (.t 74) (.skip) (.exit 3)) (.seq (.block 4 (.seq (.reg false [
  ⟨some 75, .idxS 6 (.t 71) (.t 73), none, []⟩,
  ⟨some 76, .load true 6 (.t 75), none, []⟩,
  ⟨some 12, .pend [(.int .i64 0), (.int .i64 0), (.str []), (.slice 0 [] .full), (.slice 0 [] .full), (.int .i64 0)], none, []⟩,
  ⟨none, .shut 12 6 (.t 76), none, []⟩]) (.reg false [
  ⟨some 77, .mv (.t 0), none, []⟩,
  ⟨some 78, .load true 6 (.t 12), none, []⟩,
  ⟨some 79, .mv (.t 2), none, []⟩,
  ⟨some 80, .call (.f 129) [(.t 77), (.t 78), (.t 79)], none, []⟩]))) (.reg false [
  ⟨some 81, .bin .add (.t 73) (.c (.int .i64 1)), none, []⟩,
  ⟨some 73, .mv (.t 81), none, []⟩])))))))))⟩
def h130 : Hint := { cb := [3], ps := [4], cp := [], cs := [], ap := [] }
def c130 : AF := ⟨2, 40, [],
 (.seq (.reg false [
  ⟨some 3, .boxc (.t 1), none, []⟩]) (.seq (.reg true [
  ⟨some 7, .mv (.t 0), none, []⟩,
  ⟨some 8, .nilchk (.t 7), none, [0]⟩,
  ⟨some 9, .fieldA 10 (.t 8), none, [1, 0]⟩,
  ⟨some 10, .load false 1 (.t 9), none, [2, 1, 0]⟩,
  ⟨some 11, .fieldA 2 (.t 3), none, []⟩,
  ⟨some 12, .load false 1 (.t 11), none, [4]⟩,
  ⟨some 13, .lookup true .str (.agg [(.int .i64 0), (.int .i64 0)]) (.t 10) (.t 12), none, [3, 2, 1, 0, 5, 4]⟩,
  ⟨some 6, .mv (.t 13), none, [6, 3, 2, 1, 0, 5, 4]⟩,
  ⟨some 14, .extract (.t 6) 0, none, [7, 6, 3, 2, 1, 0, 5, 4]⟩,
  ⟨some 15, .extract (.t 6) 1, none, [7, 6, 3, 2, 1, 0, 5, 4]⟩,
  ⟨some 4, .pend [(.int .i64 0), (.int .i64 0)], none, []⟩,
  ⟨none, .shut 4 2 (.t 14), none, [10, 8, 7, 6, 3, 2, 1, 0, 5, 4]⟩,
  ⟨some 5, .mv (.t 15), none, [9, 7, 6, 3, 2, 1, 0, 5, 4, 11, 10, 8]⟩]) (.seq (.seq (.reg false [
  ⟨some 16, .mv (.t 5), none, []⟩,
  ⟨some 17, .un .not (.t 16), none, []⟩]) (.cond (.t 17) (.reg false [
  ⟨some 18, .call (.f 128) [(.c (.int .i64 6))], none, []⟩]) (.skip))) (.seq (.reg true [
  ⟨some 19, .mv (.t 0), none, []⟩,
  ⟨some 20, .nilchk (.t 19), none, [0]⟩,
  ⟨some 21, .fieldA 0 (.t 20), none, [1, 0]⟩,
  ⟨some 22, .fieldA 0 (.t 21), none, [2, 1, 0]⟩,
  ⟨some 23, .load false 1 (.t 22), none, [3, 2, 1, 0]⟩,
  ⟨some 24, .fieldA 0 (.t 4), none, []⟩,
  ⟨some 25, .load false 1 (.t 24), none, [5]⟩,
  ⟨some 26, .idxS 3 (.t 23) (.t 25), none, [4, 3, 2, 1, 0, 6, 5]⟩,
  ⟨some 27, .fieldA 2 (.t 26), none, [7, 4, 3, 2, 1, 0, 6, 5]⟩,
  ⟨some 28, .load false 1 (.t 27), none, [8, 7, 4, 3, 2, 1, 0, 6, 5]⟩,
  ⟨some 29, .fieldA 1 (.t 4), none, []⟩,
  ⟨some 30, .load false 1 (.t 29), none, [10]⟩,
  ⟨some 31, .idxS 2 (.t 28) (.t 30), none, [9, 8, 7, 4, 3, 2, 1, 0, 6, 5, 11, 10]⟩,
  ⟨some 32, .fieldA 1 (.t 31), none, [12, 9, 8, 7, 4, 3, 2, 1, 0, 6, 5, 11, 10]⟩,
  ⟨some 33, .load false 1 (.t 32), none, [13, 12, 9, 8, 7, 4, 3, 2, 1, 0, 6, 5, 11, 10]⟩,
  ⟨some 34, .lenS (.t 33), none, [14, 13, 12, 9, 8, 7, 4, 3, 2, 1, 0, 6, 5, 11, 10]⟩,
  ⟨some 35, .fieldA 5 (.t 3), none, []⟩,
  ⟨some 36, .load false 1 (.t 35), none, [16]⟩,
  ⟨some 37, .lenS (.t 36), none, [17, 16]⟩,
  ⟨some 38, .bin .neq (.t 34) (.t 37), none, [15, 14, 13, 12, 9, 8, 7, 4, 3, 2, 1, 0, 6, 5, 11, 10, 18, 17, 16]⟩]) (.cond (.t 38) (.reg false [
  ⟨some 39, .call (.f 128) [(.c (.int .i64 7))], none, []⟩]) (.skip))))))⟩
def h131 : Hint := { cb := [3], ps := [4], cp := [], cs := [], ap := [] }
def c131 : AF := ⟨2, 50, [],
 (.seq (.reg false [
  ⟨some 3, .boxc (.t 1), none, []⟩]) (.seq (.seq (.reg false [
  ⟨some 7, .fieldA 6 (.t 3), none, []⟩,
  ⟨some 8, .load false 1 (.t 7), none, []⟩,
  ⟨some 9, .lenS (.t 8), none, []⟩,
  ⟨some 10, .bin .eql (.t 9) (.c (.int .i64 0)), none, []⟩]) (.cond (.t 10) (.reg false [
  ⟨some 11, .call (.f 128) [(.c (.int .i64 9))], none, []⟩]) (.skip))) (.seq (.reg true [
  ⟨some 13, .mv (.t 0), none, []⟩,
  ⟨some 14, .nilchk (.t 13), none, [0]⟩,
  ⟨some 15, .fieldA 10 (.t 14), none, [1, 0]⟩,
  ⟨some 16, .load false 1 (.t 15), none, [2, 1, 0]⟩,
  ⟨some 17, .fieldA 6 (.t 3), none, []⟩,
  ⟨some 18, .load false 1 (.t 17), none, [4]⟩,
  ⟨some 19, .idxS 9 (.t 18) (.c (.int .i64 0)), none, [5, 4]⟩,
  ⟨some 20, .fieldA 0 (.t 19), none, [6, 5, 4]⟩,
  ⟨some 21, .load false 1 (.t 20), none, [7, 6, 5, 4]⟩,
  ⟨some 22, .lookup true .str (.agg [(.int .i64 0), (.int .i64 0)]) (.t 16) (.t 21), none, [3, 2, 1, 0, 8, 7, 6, 5, 4]⟩,
  ⟨some 12, .mv (.t 22), none, [9, 3, 2, 1, 0, 8, 7, 6, 5, 4]⟩,
  ⟨some 23, .extract (.t 12) 0, none, [10, 9, 3, 2, 1, 0, 8, 7, 6, 5, 4]⟩,
  ⟨some 24, .extract (.t 12) 1, none, [10, 9, 3, 2, 1, 0, 8, 7, 6, 5, 4]⟩,
  ⟨some 4, .pend [(.int .i64 0), (.int .i64 0)], none, []⟩,
  ⟨none, .shut 4 2 (.t 23), none, [13, 11, 10, 9, 3, 2, 1, 0, 8, 7, 6, 5, 4]⟩,
  ⟨some 5, .mv (.t 24), none, [12, 10, 9, 3, 2, 1, 0, 8, 7, 6, 5, 4, 14, 13, 11]⟩]) (.seq (.seq (.reg false [
  ⟨some 25, .mv (.t 5), none, []⟩,
  ⟨some 26, .un .not (.t 25), none, []⟩]) (.cond (.t 26) (.reg false [
  ⟨some 27, .call (.f 128) [(.c (.int .i64 6))], none, []⟩]) (.skip))) (.seq (.reg true [
  ⟨some 28, .mv (.t 0), none, []⟩,
  ⟨some 29, .nilchk (.t 28), none, [0]⟩,
  ⟨some 30, .fieldA 0 (.t 29), none, [1, 0]⟩,
  ⟨some 31, .fieldA 0 (.t 30), none, [2, 1, 0]⟩,
  ⟨some 32, .load false 1 (.t 31), none, [3, 2, 1, 0]⟩,
  ⟨some 33, .fieldA 0 (.t 4), none, []⟩,
  ⟨some 34, .load false 1 (.t 33), none, [5]⟩,
  ⟨some 35, .idxS 3 (.t 32) (.t 34), none, [4, 3, 2, 1, 0, 6, 5]⟩,
  ⟨some 36, .fieldA 2 (.t 35), none, [7, 4, 3, 2, 1, 0, 6, 5]⟩,
  ⟨some 37, .load false 1 (.t 36), none, [8, 7, 4, 3, 2, 1, 0, 6, 5]⟩,
  ⟨some 6, .mv (.t 37), none, [9, 8, 7, 4, 3, 2, 1, 0, 6, 5]⟩]) (.seq (.seq (.reg false [
  ⟨some 38, .mv (.t 6), none, []⟩,
  ⟨some 39, .fieldA 6 (.t 3), none, []⟩,
  ⟨some 40, .load false 1 (.t 39), none, []⟩,
  ⟨some 41, .call (.f 178) [(.t 38), (.t 40), (.f 179)], none, []⟩,
  ⟨some 42, .un .not (.t 41), none, []⟩]) (.cond (.t 42) (.reg false [
  ⟨some 43, .call (.f 128) [(.c (.int .i64 9))], none, []⟩]) (.skip))) (.seq (.reg false [
  ⟨some 44, .mv (.t 6), none, []⟩,
  ⟨some 45, .fieldA 6 (.t 3), none, []⟩,
  ⟨some 46, .load false 1 (.t 45), none, []⟩,
  ⟨some 47, .call (.f 178) [(.t 44), (.t 46), (.f 180)], none, []⟩,
  ⟨some 48, .un .not (.t 47), none, []⟩]) (.cond (.t 48) (.reg false [
  ⟨some 49, .call (.f 128) [(.c (.int .i64 7))], none, []⟩]) (.skip)))))))))⟩
def h132 : Hint := { cb := [3], ps := [], cp := [21], cs := [], ap := [] }
def c132 : AF := ⟨2, 27, [],
 (.seq (.reg false [
  ⟨some 3, .boxc (.t 1), none, []⟩]) (.seq (.reg false [
  ⟨some 8, .fieldA 2 (.t 3), none, []⟩,
  ⟨some 9, .load false 1 (.t 8), none, []⟩,
  ⟨some 4, .mv (.t 9), none, []⟩]) (.seq (.seq (.reg false [
  ⟨some 10, .fieldA 0 (.t 3), none, []⟩,
  ⟨some 11, .load false 1 (.t 10), none, []⟩,
  ⟨some 12, .bin .eql (.t 11) (.c (.int .i64 13)), none, []⟩]) (.cond (.t 12) (.reg false [
  ⟨some 13, .fieldA 3 (.t 3), none, []⟩,
  ⟨some 14, .load false 1 (.t 13), none, []⟩,
  ⟨some 4, .mv (.t 14), none, []⟩]) (.skip))) (.seq (.reg false [
  ⟨some 16, .mv (.t 0), none, []⟩,
  ⟨some 17, .nilchk (.t 16), none, []⟩,
  ⟨some 18, .fieldA 0 (.t 17), none, []⟩,
  ⟨some 19, .load true 10 (.t 18), none, []⟩,
  ⟨some 20, .mv (.t 4), none, []⟩,
  ⟨some 21, .callP false (.f 181) [(.t 19), (.t 20)], none, []⟩,
  ⟨some 15, .mv (.t 21), none, []⟩,
  ⟨some 22, .extract (.t 15) 0, none, []⟩,
  ⟨some 23, .extract (.t 15) 1, none, []⟩,
  ⟨some 24, .extract (.t 15) 2, none, []⟩,
  ⟨some 5, .mv (.t 22), none, []⟩,
  ⟨some 6, .mv (.t 23), none, []⟩,
  ⟨some 7, .mv (.t 24), none, []⟩]) (.reg false [
  ⟨some 25, .mv (.t 7), none, []⟩,
  ⟨some 26, .call (.f 93) [(.t 25)], none, []⟩])))))⟩
def h133 : Hint := { cb := [3], ps := [], cp := [13], cs := [23], ap := [] }
def c133 : AF := ⟨2, 30, [],
 (.seq (.reg false [
  ⟨some 3, .boxc (.t 1), none, []⟩]) (.seq (.reg true [
  ⟨some 7, .mv (.t 0), none, []⟩,
  ⟨some 8, .nilchk (.t 7), none, [0]⟩,
  ⟨some 9, .fieldA 0 (.t 8), none, [1, 0]⟩,
  ⟨some 10, .load true 10 (.t 9), none, [2, 1, 0]⟩,
  ⟨some 11, .fieldA 2 (.t 3), none, []⟩,
  ⟨some 12, .load false 1 (.t 11), none, [4]⟩,
  ⟨some 13, .callP false (.f 177) [(.t 10), (.t 12)], none, [3, 2, 1, 0, 5, 4]⟩,
  ⟨some 6, .mv (.t 13), none, [6, 3, 2, 1, 0, 5, 4]⟩,
  ⟨some 14, .extract (.t 6) 0, none, [7, 6, 3, 2, 1, 0, 5, 4]⟩,
  ⟨some 15, .extract (.t 6) 1, none, [7, 6, 3, 2, 1, 0, 5, 4]⟩,
  ⟨some 4, .mv (.t 14), none, [8, 7, 6, 3, 2, 1, 0, 5, 4]⟩,
  ⟨some 5, .mv (.t 15), none, [9, 7, 6, 3, 2, 1, 0, 5, 4, 10, 8]⟩]) (.seq (.reg false [
  ⟨some 16, .mv (.t 5), none, []⟩,
  ⟨some 17, .call (.f 93) [(.t 16)], none, []⟩]) (.seq (.reg true [
  ⟨some 18, .mv (.t 0), none, []⟩,
  ⟨some 19, .nilchk (.t 18), none, [0]⟩,
  ⟨some 20, .fieldA 0 (.t 19), none, [1, 0]⟩,
  ⟨some 21, .load true 10 (.t 20), none, [2, 1, 0]⟩,
  ⟨some 22, .mv (.t 4), none, []⟩,
  ⟨some 23, .callP true (.f 183) [(.t 21), (.t 22)], none, [3, 2, 1, 0, 4]⟩,
  ⟨some 24, .fieldA 6 (.t 3), none, []⟩,
  ⟨some 25, .load false 1 (.t 24), none, [6]⟩,
  ⟨some 26, .cutS 9 (.t 25) (some (.c (.int .i64 1))) none none, none, [7, 6]⟩,
  ⟨some 27, .call (.f 182) [(.t 23), (.t 26), (.f 184)], none, [5, 3, 2, 1, 0, 4, 8, 7, 6]⟩,
  ⟨some 28, .un .not (.t 27), none, [9, 5, 3, 2, 1, 0, 4, 8, 7, 6]⟩]) (.cond (.t 28) (.reg false [
  ⟨some 29, .call (.f 128) [(.c (.int .i64 9))], none, []⟩]) (.skip))))))⟩
def h134 : Hint := { cb := [3], ps := [], cp := [13], cs := [], ap := [] }
def c134 : AF := ⟨2, 18, [],
 (.seq (.reg false [
  ⟨some 3, .boxc (.t 1), none, []⟩]) (.seq (.reg true [
  ⟨some 7, .mv (.t 0), none, []⟩,
  ⟨some 8, .nilchk (.t 7), none, [0]⟩,
  ⟨some 9, .fieldA 0 (.t 8), none, [1, 0]⟩,
  ⟨some 10, .load true 10 (.t 9), none, [2, 1, 0]⟩,
  ⟨some 11, .fieldA 2 (.t 3), none, []⟩,
  ⟨some 12, .load false 1 (.t 11), none, [4]⟩,
  ⟨some 13, .callP false (.f 177) [(.t 10), (.t 12)], none, [3, 2, 1, 0, 5, 4]⟩,
  ⟨some 6, .mv (.t 13), none, [6, 3, 2, 1, 0, 5, 4]⟩,
  ⟨some 14, .extract (.t 6) 0, none, [7, 6, 3, 2, 1, 0, 5, 4]⟩,
  ⟨some 15, .extract (.t 6) 1, none, [7, 6, 3, 2, 1, 0, 5, 4]⟩,
  ⟨some 4, .mv (.t 14), none, [8, 7, 6, 3, 2, 1, 0, 5, 4]⟩,
  ⟨some 5, .mv (.t 15), none, [9, 7, 6, 3, 2, 1, 0, 5, 4, 10, 8]⟩]) (.reg false [
  ⟨some 16, .mv (.t 5), none, []⟩,
  ⟨some 17, .call (.f 93) [(.t 16)], none, []⟩])))⟩
def h135 : Hint := { cb := [3], ps := [], cp := [25], cs := [], ap := [] }
def c135 : AF := ⟨2, 31, [],
 (.seq (.reg false [
  ⟨some 3, .boxc (.t 1), none, []⟩]) (.seq (.reg false [
  ⟨some 8, .fieldA 4 (.t 3), none, []⟩,
  ⟨some 9, .load false 1 (.t 8), none, []⟩,
  ⟨some 10, .cutS 1 (.t 9) (some (.c (.int .i64 1))) none none, none, []⟩,
  ⟨some 11, .lenS (.t 10), none, []⟩,
  ⟨some 12, .mv (.c (.int .i64 0)), none, []⟩]) (.block 0 (.loop (.seq (.reg false [
  ⟨some 13, .bin .lss (.t 12) (.t 11), none, []⟩]) (.seq (.cond (.t 13) (.skip) (.exit 0)) (.seq (.block 1 (.seq (.reg false [
  ⟨some 14, .idxS 1 (.t 10) (.t 12), none, []⟩,
  ⟨some 15, .load false 1 (.t 14), none, []⟩,
  ⟨some 5, .mv (.t 15), none, []⟩]) (.seq (.seq (.reg false [
  ⟨some 16, .mv (.t 5), none, []⟩,
  ⟨some 17, .bin .eql (.t 16) (.c (.str [73, 79])), none, []⟩]) (.cond (.t 17) (.reg false [
  ⟨some 18, .call (.f 128) [(.c (.int .i64 5))], none, []⟩]) (.skip))) (.seq (.reg false [
  ⟨some 20, .mv (.t 0), none, []⟩,
  ⟨some 21, .nilchk (.t 20), none, []⟩,
  ⟨some 22, .fieldA 0 (.t 21), none, []⟩,
  ⟨some 23, .load true 10 (.t 22), none, []⟩,
  ⟨some 24, .mv (.t 5), none, []⟩,
  ⟨some 25, .callP false (.f 177) [(.t 23), (.t 24)], none, []⟩,
  ⟨some 19, .mv (.t 25), none, []⟩,
  ⟨some 26, .extract (.t 19) 0, none, []⟩,
  ⟨some 27, .extract (.t 19) 1, none, []⟩,
  ⟨some 6, .mv (.t 26), none, []⟩,
  ⟨some 7, .mv (.t 27), none, []⟩]) (.reg false [
  ⟨some 28, .mv (.t 7), none, []⟩,
  ⟨some 29, .call (.f 93) [(.t 28)], none, []⟩]))))) (.reg false [
  ⟨some 30, .bin .add (.t 12) (.c (.int .i64 1)), none, []⟩,
  ⟨some 12, .mv (.t 30), none, []⟩]))))))))⟩
def h136 : Hint := { cb := [1], ps := [], cp := [], cs := [], ap := [] }
def c136 : AF := ⟨1, 4, [.tmp 2],
 (.seq (.reg false [
  ⟨some 1, .boxc (.t 0), none, []⟩,
  ⟨some 2, .mv (.c .nilfunc), none, []⟩]) (.seq (.reg false [
  ⟨some 3, .mkFunc 185 [] [(.t 1)], none, []⟩,
  ⟨some 2, .mv (.t 3), none, []⟩]) (.ret)))⟩
def h137 : Hint := { cb := [], ps := [], cp := [], cs := [], ap := [] }
def c137 : AF := ⟨2, 8, [],
 (.seq (.reg false [
  ⟨some 4, .mv (.t 1), none, []⟩]) (.cond (.t 4) (.reg false [
  ⟨some 5, .mv (.t 0), none, []⟩,
  ⟨some 6, .build [(.slice 0 [] .full)] [(0, 1, (.t 5))], none, []⟩,
  ⟨some 7, .mkIface 160 (.t 6), none, []⟩,
  ⟨none, .panic (.t 7), none, []⟩]) (.skip)))⟩
def h138 : Hint := { cb := [], ps := [], cp := [], cs := [], ap := [] }
def c138 : AF := ⟨2, 21, [.tmp 4],
 (.seq (.reg false [
  ⟨some 4, .mv (.c (.bool false)), none, []⟩]) (.seq (.block 0 (.loop (.seq (.seq (.reg false [
  ⟨some 5, .mv (.t 0), none, []⟩,
  ⟨some 6, .eqnil true .ptr (.t 5), none, []⟩]) (.cond (.t 6) (.skip) (.exit 0))) (.seq (.block 1 (.seq (.reg false [
  ⟨some 11, .mv (.t 0), none, []⟩,
  ⟨some 12, .nilchk (.t 11), none, []⟩,
  ⟨some 13, .fieldA 0 (.t 12), none, []⟩,
  ⟨some 14, .load false 1 (.t 13), none, []⟩,
  ⟨some 15, .mv (.t 1), none, []⟩,
  ⟨some 16, .bin .eql (.t 14) (.t 15), none, []⟩]) (.cond (.t 16) (.seq (.reg false [
  ⟨some 17, .mv (.t 0), none, []⟩,
  ⟨some 18, .nilchk (.t 17), none, []⟩,
  ⟨some 19, .fieldA 1 (.t 18), none, []⟩,
  ⟨some 20, .load false 1 (.t 19), none, []⟩,
  ⟨some 4, .mv (.t 20), none, []⟩]) (.ret)) (.skip)))) (.reg false [
  ⟨some 7, .mv (.t 0), none, []⟩,
  ⟨some 8, .nilchk (.t 7), none, []⟩,
  ⟨some 9, .fieldA 2 (.t 8), none, []⟩,
  ⟨some 10, .load false 1 (.t 9), none, []⟩,
  ⟨some 0, .mv (.t 10), none, []⟩]))))) (.seq (.reg false [
  ⟨some 4, .mv (.c (.bool false)), none, []⟩]) (.ret))))⟩
end Go.Proofs.YtelnnehpbkainaaGreatDoor.Code
