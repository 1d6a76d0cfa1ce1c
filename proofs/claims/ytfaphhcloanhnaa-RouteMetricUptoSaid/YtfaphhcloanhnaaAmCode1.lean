/- The small code of the functions that the statements reach: printed by program (gen.sh). -/
import Derived.Test.YtfaphhcloanhnaaAmCode0
import Derived.KernelRfl
set_option linter.unusedSimpArgs false
set_option linter.unusedVariables false
namespace Go.Proofs.Ytfaphhcloanhnaa
open Go.Am
/-- 3 phasor/phasorlaw20.RouteMaps -/
def c_phasorlaw20_RouteMaps_r0 : List AO := [⟨(some 3), .box (.t 0), none, 0⟩,
  ⟨(some 6), .mov (.k (.sc (.bool false))), none, 0⟩]
def c_phasorlaw20_RouteMaps_r1 : List AO := [⟨(some 22), .mov (.t 1), none, 0⟩,
  ⟨(some 23), .call (.k (.fn (.func f_route_Line) [] [])) [(.t 22)], none, 0⟩,
  ⟨(some 21), .mov (.t 23), none, 0⟩,
  ⟨(some 24), .extract (.t 21) 0, none, 0⟩,
  ⟨(some 25), .extract (.t 21) 1, none, 0⟩,
  ⟨(some 7), .alloc [(.sc (.int .i64 0)), (.sc (.slice none 0 0))], none, 0⟩,
  ⟨none, .store 2 (.t 7) (.t 24), none, 0⟩,
  ⟨(some 8), .mov (.t 25), none, 0⟩]
def c_phasorlaw20_RouteMaps_r2 : List AO := [⟨(some 27), .mov (.t 1), none, 0⟩,
  ⟨(some 28), .call (.k (.fn (.func f_phasorref20_Line) [] [])) [(.t 27)], none, 0⟩,
  ⟨(some 26), .mov (.t 28), none, 0⟩,
  ⟨(some 29), .extract (.t 26) 0, none, 0⟩,
  ⟨(some 30), .extract (.t 26) 1, none, 0⟩,
  ⟨(some 9), .alloc [(.sc (.int .i64 0)), (.sc (.slice none 0 0))], none, 0⟩,
  ⟨none, .store 2 (.t 9) (.t 29), none, 0⟩,
  ⟨(some 10), .mov (.t 30), none, 0⟩]
def c_phasorlaw20_RouteMaps_r3 : List AO := [⟨(some 32), .mov (.t 1), none, 0⟩,
  ⟨(some 33), .call (.k (.fn (.func f_route_Ring) [] [])) [(.t 32)], none, 0⟩,
  ⟨(some 31), .mov (.t 33), none, 0⟩,
  ⟨(some 34), .extract (.t 31) 0, none, 0⟩,
  ⟨(some 35), .extract (.t 31) 1, none, 0⟩,
  ⟨(some 11), .alloc [(.sc (.int .i64 0)), (.sc (.slice none 0 0))], none, 0⟩,
  ⟨none, .store 2 (.t 11) (.t 34), none, 0⟩,
  ⟨(some 12), .mov (.t 35), none, 0⟩]
def c_phasorlaw20_RouteMaps_r4 : List AO := [⟨(some 37), .mov (.t 1), none, 0⟩,
  ⟨(some 38), .call (.k (.fn (.func f_phasorref20_Ring) [] [])) [(.t 37)], none, 0⟩,
  ⟨(some 36), .mov (.t 38), none, 0⟩,
  ⟨(some 39), .extract (.t 36) 0, none, 0⟩,
  ⟨(some 40), .extract (.t 36) 1, none, 0⟩,
  ⟨(some 13), .alloc [(.sc (.int .i64 0)), (.sc (.slice none 0 0))], none, 0⟩,
  ⟨none, .store 2 (.t 13) (.t 39), none, 0⟩,
  ⟨(some 14), .mov (.t 40), none, 0⟩]
def c_phasorlaw20_RouteMaps_r5 : List AO := [⟨(some 42), .mov (.t 1), none, 0⟩,
  ⟨(some 43), .mov (.t 2), none, 0⟩,
  ⟨(some 44), .call (.k (.fn (.func f_route_Grid) [] [])) [(.t 42), (.t 43)], none, 0⟩,
  ⟨(some 41), .mov (.t 44), none, 0⟩,
  ⟨(some 45), .extract (.t 41) 0, none, 0⟩,
  ⟨(some 46), .extract (.t 41) 1, none, 0⟩,
  ⟨(some 15), .alloc [(.sc (.int .i64 0)), (.sc (.slice none 0 0))], none, 0⟩,
  ⟨none, .store 2 (.t 15) (.t 45), none, 0⟩,
  ⟨(some 16), .mov (.t 46), none, 0⟩]
def c_phasorlaw20_RouteMaps_r6 : List AO := [⟨(some 48), .mov (.t 1), none, 0⟩,
  ⟨(some 49), .mov (.t 2), none, 0⟩,
  ⟨(some 50), .call (.k (.fn (.func f_phasorref20_Grid) [] [])) [(.t 48), (.t 49)], none, 0⟩,
  ⟨(some 47), .mov (.t 50), none, 0⟩,
  ⟨(some 51), .extract (.t 47) 0, none, 0⟩,
  ⟨(some 52), .extract (.t 47) 1, none, 0⟩,
  ⟨(some 17), .alloc [(.sc (.int .i64 0)), (.sc (.slice none 0 0))], none, 0⟩,
  ⟨none, .store 2 (.t 17) (.t 51), none, 0⟩,
  ⟨(some 18), .mov (.t 52), none, 0⟩]
def c_phasorlaw20_RouteMaps_r7 : List AO := [⟨(some 53), .load true 2 (.t 3), none, 0⟩,
  ⟨(some 54), .call (.k (.fn (.func f_phasorref20_Right) [] [])) [(.t 53)], none, 0⟩,
  ⟨(some 19), .mov (.t 54), none, 0⟩]
def c_phasorlaw20_RouteMaps_r8 : List AO := [⟨(some 55), .load true 2 (.t 3), none, 0⟩,
  ⟨(some 56), .call (.k (.fn (.func f_route_Check) [] [])) [(.t 55)], none, 0⟩,
  ⟨(some 57), .call (.k (.fn (.func f_phasorlaw20_num) [] [])) [(.t 56)], none, 0⟩,
  ⟨(some 20), .mov (.t 57), none, 0⟩]
def c_phasorlaw20_RouteMaps_r9 : List AO := [⟨(some 58), .mov (.t 8), none, 0⟩,
  ⟨(some 59), .call (.k (.fn (.func f_phasorlaw20_num) [] [])) [(.t 58)], none, 0⟩,
  ⟨(some 60), .mov (.t 10), none, 0⟩,
  ⟨(some 61), .bin .eql (.t 59) (.t 60), none, 0⟩,
  ⟨(some 62), .mov (.t 61), none, 0⟩,
  ⟨(some 63), .load true 2 (.t 7), (some ((some 62), true)), 0⟩,
  ⟨(some 64), .load true 2 (.t 9), (some ((some 62), true)), 0⟩,
  ⟨(some 65), .call (.k (.fn (.func f_phasorlaw20_same) [] [])) [(.t 63), (.t 64)], (some ((some 62), true)), 0⟩,
  ⟨(some 66), .pick (.t 62) (.t 65) (.k (.sc (.bool false))), none, 0⟩,
  ⟨(some 67), .mov (.t 66), none, 0⟩,
  ⟨(some 68), .mov (.t 12), (some ((some 67), true)), 0⟩,
  ⟨(some 69), .call (.k (.fn (.func f_phasorlaw20_num) [] [])) [(.t 68)], (some ((some 67), true)), 0⟩,
  ⟨(some 70), .mov (.t 14), (some ((some 67), true)), 0⟩,
  ⟨(some 71), .bin .eql (.t 69) (.t 70), (some ((some 67), true)), 0⟩,
  ⟨(some 72), .pick (.t 67) (.t 71) (.k (.sc (.bool false))), none, 0⟩,
  ⟨(some 73), .mov (.t 72), none, 0⟩,
  ⟨(some 74), .load true 2 (.t 11), (some ((some 73), true)), 0⟩,
  ⟨(some 75), .load true 2 (.t 13), (some ((some 73), true)), 0⟩,
  ⟨(some 76), .call (.k (.fn (.func f_phasorlaw20_same) [] [])) [(.t 74), (.t 75)], (some ((some 73), true)), 0⟩,
  ⟨(some 77), .pick (.t 73) (.t 76) (.k (.sc (.bool false))), none, 0⟩,
  ⟨(some 78), .mov (.t 77), none, 0⟩,
  ⟨(some 79), .mov (.t 16), (some ((some 78), true)), 0⟩,
  ⟨(some 80), .call (.k (.fn (.func f_phasorlaw20_num) [] [])) [(.t 79)], (some ((some 78), true)), 0⟩,
  ⟨(some 81), .mov (.t 18), (some ((some 78), true)), 0⟩,
  ⟨(some 82), .bin .eql (.t 80) (.t 81), (some ((some 78), true)), 0⟩,
  ⟨(some 83), .pick (.t 78) (.t 82) (.k (.sc (.bool false))), none, 0⟩,
  ⟨(some 84), .mov (.t 83), none, 0⟩,
  ⟨(some 85), .load true 2 (.t 15), (some ((some 84), true)), 0⟩,
  ⟨(some 86), .load true 2 (.t 17), (some ((some 84), true)), 0⟩,
  ⟨(some 87), .call (.k (.fn (.func f_phasorlaw20_same) [] [])) [(.t 85), (.t 86)], (some ((some 84), true)), 0⟩,
  ⟨(some 88), .pick (.t 84) (.t 87) (.k (.sc (.bool false))), none, 0⟩,
  ⟨(some 89), .mov (.t 88), none, 0⟩,
  ⟨(some 90), .mov (.t 20), (some ((some 89), true)), 0⟩,
  ⟨(some 91), .bin .eql (.t 90) (.k (.sc (.int .i64 0))), (some ((some 89), true)), 0⟩,
  ⟨(some 92), .mov (.t 19), (some ((some 89), true)), 0⟩,
  ⟨(some 93), .eqBool false (.t 91) (.t 92), (some ((some 89), true)), 0⟩,
  ⟨(some 94), .pick (.t 89) (.t 93) (.k (.sc (.bool false))), none, 0⟩,
  ⟨(some 95), .mov (.t 94), none, 0⟩,
  ⟨(some 96), .mov (.t 19), (some ((some 95), true)), 0⟩,
  ⟨(some 97), .mov (.t 96), (some ((some 95), true)), 0⟩,
  ⟨(some 98), .mov (.t 20), (some ((some 97), false)), 0⟩,
  ⟨(some 99), .bin .eql (.t 98) (.k (.sc (.int .i64 200))), (some ((some 97), false)), 0⟩,
  ⟨(some 100), .pick (.t 97) (.k (.sc (.bool true))) (.t 99), (some ((some 95), true)), 0⟩,
  ⟨(some 101), .pick (.t 95) (.t 100) (.k (.sc (.bool false))), none, 0⟩,
  ⟨(some 102), .mov (.t 101), none, 0⟩,
  ⟨(some 103), .call (.k (.fn (.func f_phasorlaw20_alive) [] [])) [], (some ((some 102), true)), 0⟩,
  ⟨(some 104), .pick (.t 102) (.t 103) (.k (.sc (.bool false))), none, 0⟩,
  ⟨(some 6), .mov (.t 104), none, 0⟩]
def c_phasorlaw20_RouteMaps : AFn := { code := .seq (.reg c_phasorlaw20_RouteMaps_r0 false) (.seq (.reg c_phasorlaw20_RouteMaps_r1 false) (.seq (.reg c_phasorlaw20_RouteMaps_r2 false) (.seq (.reg c_phasorlaw20_RouteMaps_r3 false) (.seq (.reg c_phasorlaw20_RouteMaps_r4 false) (.seq (.reg c_phasorlaw20_RouteMaps_r5 false) (.seq (.reg c_phasorlaw20_RouteMaps_r6 false) (.seq (.reg c_phasorlaw20_RouteMaps_r7 false) (.seq (.reg c_phasorlaw20_RouteMaps_r8 false) (.seq (.reg c_phasorlaw20_RouteMaps_r9 false) (.ret)))))))))), ntmps := 105, results := [.tmp 6] }
/-- 4 phasor/phasorlaw20.RoutePaths -/
def c_phasorlaw20_RoutePaths_r0 : List AO := [⟨(some 3), .box (.t 0), none, 0⟩,
  ⟨(some 6), .mov (.k (.sc (.bool false))), none, 0⟩]
def c_phasorlaw20_RoutePaths_r1 : List AO := [⟨(some 7), .mov (.k (.sc (.int .i64 0))), none, 0⟩]
def c_phasorlaw20_RoutePaths_r2 : List AO := [⟨(some 18), .mov (.t 7), none, 0⟩,
  ⟨(some 19), .bin .lss (.t 18) (.k (.sc (.int .i64 2))), none, 0⟩]
def c_phasorlaw20_RoutePaths_r3 : List AO := [⟨(some 23), .load true 2 (.t 3), none, 0⟩,
  ⟨(some 24), .call (.k (.fn (.func f_route_Far) [] [])) [(.t 23)], none, 0⟩,
  ⟨(some 22), .mov (.t 24), none, 0⟩,
  ⟨(some 25), .extract (.t 22) 0, none, 0⟩,
  ⟨(some 26), .extract (.t 22) 1, none, 0⟩,
  ⟨(some 8), .mov (.t 25), none, 0⟩,
  ⟨(some 9), .mov (.t 26), none, 0⟩]
def c_phasorlaw20_RoutePaths_r4 : List AO := [⟨(some 28), .load true 2 (.t 3), none, 0⟩,
  ⟨(some 29), .call (.k (.fn (.func f_phasorref20_Far) [] [])) [(.t 28)], none, 0⟩,
  ⟨(some 27), .mov (.t 29), none, 0⟩,
  ⟨(some 30), .extract (.t 27) 0, none, 0⟩,
  ⟨(some 31), .extract (.t 27) 1, none, 0⟩,
  ⟨(some 10), .mov (.t 30), none, 0⟩,
  ⟨(some 11), .mov (.t 31), none, 0⟩]
def c_phasorlaw20_RoutePaths_r5 : List AO := [⟨(some 32), .mov (.t 9), none, 0⟩,
  ⟨(some 33), .call (.k (.fn (.func f_phasorlaw20_num) [] [])) [(.t 32)], none, 0⟩,
  ⟨(some 34), .mov (.t 11), none, 0⟩,
  ⟨(some 35), .bin .neq (.t 33) (.t 34), none, 0⟩,
  ⟨(some 36), .mov (.t 35), none, 0⟩,
  ⟨(some 37), .mov (.t 8), (some ((some 36), false)), 0⟩,
  ⟨(some 38), .len (.t 37), (some ((some 36), false)), 0⟩,
  ⟨(some 39), .mov (.t 10), (some ((some 36), false)), 0⟩,
  ⟨(some 40), .len (.t 39), (some ((some 36), false)), 0⟩,
  ⟨(some 41), .bin .neq (.t 38) (.t 40), (some ((some 36), false)), 0⟩,
  ⟨(some 42), .pick (.t 36) (.k (.sc (.bool true))) (.t 41), none, 0⟩]
def c_phasorlaw20_RoutePaths_r6 : List AO := [⟨(some 6), .mov (.k (.sc (.bool false))), none, 0⟩]
def c_phasorlaw20_RoutePaths_r7 : List AO := [⟨(some 12), .mov (.k (.sc (.int .i64 0))), none, 0⟩]
def c_phasorlaw20_RoutePaths_r8 : List AO := [⟨(some 43), .mov (.t 12), none, 0⟩,
  ⟨(some 44), .mov (.t 8), none, 0⟩,
  ⟨(some 45), .len (.t 44), none, 0⟩,
  ⟨(some 46), .bin .lss (.t 43) (.t 45), none, 0⟩]
def c_phasorlaw20_RoutePaths_r9 : List AO := [⟨(some 49), .mov (.t 8), none, 0⟩,
  ⟨(some 50), .mov (.t 12), none, 0⟩,
  ⟨(some 51), .indexAddr none 1 (.t 49) (.t 50), none, 3⟩,
  ⟨(some 52), .load false 1 (.t 51), none, 7⟩,
  ⟨(some 53), .mov (.t 10), none, 0⟩,
  ⟨(some 54), .mov (.t 12), none, 0⟩,
  ⟨(some 55), .indexAddr none 1 (.t 53) (.t 54), none, 48⟩,
  ⟨(some 56), .load false 1 (.t 55), none, 112⟩,
  ⟨(some 57), .call (.k (.fn (.func f_phasorlaw20_ints) [] [])) [(.t 52), (.t 56)], none, 255⟩,
  ⟨(some 58), .un .not (.t 57), none, 511⟩]
def c_phasorlaw20_RoutePaths_r10 : List AO := [⟨(some 6), .mov (.k (.sc (.bool false))), none, 0⟩]
def c_phasorlaw20_RoutePaths_r11 : List AO := [⟨(some 13), .mov (.k (.sc (.int .i64 0))), none, 0⟩]
def c_phasorlaw20_RoutePaths_r12 : List AO := [⟨(some 59), .mov (.t 13), none, 0⟩,
  ⟨(some 60), .mov (.t 8), none, 0⟩,
  ⟨(some 61), .mov (.t 12), none, 0⟩,
  ⟨(some 62), .indexAddr none 1 (.t 60) (.t 61), none, 0⟩,
  ⟨(some 63), .load false 1 (.t 62), none, 0⟩,
  ⟨(some 64), .len (.t 63), none, 0⟩,
  ⟨(some 65), .bin .lss (.t 59) (.t 64), none, 0⟩]
def c_phasorlaw20_RoutePaths_r13 : List AO := [⟨(some 68), .mov (.t 8), none, 0⟩,
  ⟨(some 69), .mov (.t 12), none, 0⟩,
  ⟨(some 70), .indexAddr none 1 (.t 68) (.t 69), none, 0⟩,
  ⟨(some 71), .load false 1 (.t 70), none, 0⟩,
  ⟨(some 72), .mov (.t 13), none, 0⟩,
  ⟨(some 73), .indexAddr none 1 (.t 71) (.t 72), none, 0⟩,
  ⟨none, .store 1 (.t 73) (.k (.sc (.int .i64 77))), none, 0⟩]
def c_phasorlaw20_RoutePaths_r14 : List AO := [⟨(some 66), .mov (.t 13), none, 0⟩,
  ⟨(some 67), .bin .add (.t 66) (.k (.sc (.int .i64 1))), none, 0⟩,
  ⟨(some 13), .mov (.t 67), none, 0⟩]
def c_phasorlaw20_RoutePaths_l0 : AC := .seq (.seq (.reg c_phasorlaw20_RoutePaths_r12 false) (.cond (.t 65) (.skip) (.exit 4))) (.seq (.blk 5 (.reg c_phasorlaw20_RoutePaths_r13 false)) (.reg c_phasorlaw20_RoutePaths_r14 false))
def c_phasorlaw20_RoutePaths_r15 : List AO := [⟨(some 47), .mov (.t 12), none, 0⟩,
  ⟨(some 48), .bin .add (.t 47) (.k (.sc (.int .i64 1))), none, 0⟩,
  ⟨(some 12), .mov (.t 48), none, 0⟩]
def c_phasorlaw20_RoutePaths_l1 : AC := .seq (.seq (.reg c_phasorlaw20_RoutePaths_r8 false) (.cond (.t 46) (.skip) (.exit 2))) (.seq (.blk 3 (.seq (.seq (.reg c_phasorlaw20_RoutePaths_r9 true) (.cond (.t 58) (.seq (.reg c_phasorlaw20_RoutePaths_r10 false) (.ret)) (.skip))) (.seq (.reg c_phasorlaw20_RoutePaths_r11 false) (.blk 4 (.loop c_phasorlaw20_RoutePaths_l0))))) (.reg c_phasorlaw20_RoutePaths_r15 false))
def c_phasorlaw20_RoutePaths_r16 : List AO := [⟨(some 20), .mov (.t 7), none, 0⟩,
  ⟨(some 21), .bin .add (.t 20) (.k (.sc (.int .i64 1))), none, 0⟩,
  ⟨(some 7), .mov (.t 21), none, 0⟩]
def c_phasorlaw20_RoutePaths_l2 : AC := .seq (.seq (.reg c_phasorlaw20_RoutePaths_r2 false) (.cond (.t 19) (.skip) (.exit 0))) (.seq (.blk 1 (.seq (.reg c_phasorlaw20_RoutePaths_r3 false) (.seq (.reg c_phasorlaw20_RoutePaths_r4 false) (.seq (.seq (.reg c_phasorlaw20_RoutePaths_r5 false) (.cond (.t 42) (.seq (.reg c_phasorlaw20_RoutePaths_r6 false) (.ret)) (.skip))) (.seq (.reg c_phasorlaw20_RoutePaths_r7 false) (.blk 2 (.loop c_phasorlaw20_RoutePaths_l1))))))) (.reg c_phasorlaw20_RoutePaths_r16 false))
def c_phasorlaw20_RoutePaths_r17 : List AO := [⟨(some 75), .load true 2 (.t 3), none, 0⟩,
  ⟨(some 76), .mov (.t 1), none, 0⟩,
  ⟨(some 77), .mov (.t 2), none, 0⟩,
  ⟨(some 78), .call (.k (.fn (.func f_route_Path) [] [])) [(.t 75), (.t 76), (.t 77)], none, 0⟩,
  ⟨(some 74), .mov (.t 78), none, 0⟩,
  ⟨(some 79), .extract (.t 74) 0, none, 0⟩,
  ⟨(some 80), .extract (.t 74) 1, none, 0⟩,
  ⟨(some 14), .mov (.t 79), none, 0⟩,
  ⟨(some 15), .mov (.t 80), none, 0⟩]
def c_phasorlaw20_RoutePaths_r18 : List AO := [⟨(some 82), .load true 2 (.t 3), none, 0⟩,
  ⟨(some 83), .mov (.t 1), none, 0⟩,
  ⟨(some 84), .mov (.t 2), none, 0⟩,
  ⟨(some 85), .call (.k (.fn (.func f_phasorref20_Path) [] [])) [(.t 82), (.t 83), (.t 84)], none, 0⟩,
  ⟨(some 81), .mov (.t 85), none, 0⟩,
  ⟨(some 86), .extract (.t 81) 0, none, 0⟩,
  ⟨(some 87), .extract (.t 81) 1, none, 0⟩,
  ⟨(some 16), .mov (.t 86), none, 0⟩,
  ⟨(some 17), .mov (.t 87), none, 0⟩]
def c_phasorlaw20_RoutePaths_r19 : List AO := [⟨(some 88), .mov (.t 15), none, 0⟩,
  ⟨(some 89), .call (.k (.fn (.func f_phasorlaw20_num) [] [])) [(.t 88)], none, 0⟩,
  ⟨(some 90), .mov (.t 17), none, 0⟩,
  ⟨(some 91), .bin .eql (.t 89) (.t 90), none, 0⟩,
  ⟨(some 92), .mov (.t 91), none, 0⟩,
  ⟨(some 93), .mov (.t 14), (some ((some 92), true)), 0⟩,
  ⟨(some 94), .mov (.t 16), (some ((some 92), true)), 0⟩,
  ⟨(some 95), .call (.k (.fn (.func f_phasorlaw20_ints) [] [])) [(.t 93), (.t 94)], (some ((some 92), true)), 0⟩,
  ⟨(some 96), .pick (.t 92) (.t 95) (.k (.sc (.bool false))), none, 0⟩,
  ⟨(some 97), .mov (.t 96), none, 0⟩,
  ⟨(some 98), .call (.k (.fn (.func f_phasorlaw20_alive) [] [])) [], (some ((some 97), true)), 0⟩,
  ⟨(some 99), .pick (.t 97) (.t 98) (.k (.sc (.bool false))), none, 0⟩,
  ⟨(some 6), .mov (.t 99), none, 0⟩]
def c_phasorlaw20_RoutePaths : AFn := { code := .seq (.reg c_phasorlaw20_RoutePaths_r0 false) (.seq (.seq (.reg c_phasorlaw20_RoutePaths_r1 false) (.blk 0 (.loop c_phasorlaw20_RoutePaths_l2))) (.seq (.reg c_phasorlaw20_RoutePaths_r17 false) (.seq (.reg c_phasorlaw20_RoutePaths_r18 false) (.seq (.reg c_phasorlaw20_RoutePaths_r19 false) (.ret))))), ntmps := 100, results := [.tmp 6] }
/-- 5 phasor/phasorlaw20.RouteMetric -/
def c_phasorlaw20_RouteMetric_r0 : List AO := [⟨(some 4), .box (.t 0), none, 0⟩,
  ⟨(some 8), .mov (.k (.sc (.bool false))), none, 0⟩]
def c_phasorlaw20_RouteMetric_r1 : List AO := [⟨(some 16), .load true 2 (.t 4), none, 0⟩,
  ⟨(some 17), .call (.k (.fn (.func f_route_Far) [] [])) [(.t 16)], none, 0⟩,
  ⟨(some 15), .mov (.t 17), none, 0⟩,
  ⟨(some 18), .extract (.t 15) 0, none, 0⟩,
  ⟨(some 19), .extract (.t 15) 1, none, 0⟩,
  ⟨(some 9), .mov (.t 18), none, 0⟩,
  ⟨(some 10), .mov (.t 19), none, 0⟩]
def c_phasorlaw20_RouteMetric_r2 : List AO := [⟨(some 20), .mov (.t 10), none, 0⟩,
  ⟨(some 21), .call (.k (.fn (.func f_phasorlaw20_num) [] [])) [(.t 20)], none, 0⟩,
  ⟨(some 22), .bin .neq (.t 21) (.k (.sc (.int .i64 0))), none, 0⟩]
def c_phasorlaw20_RouteMetric_r3 : List AO := [⟨(some 23), .mov (.t 10), none, 0⟩,
  ⟨(some 24), .call (.k (.fn (.func f_phasorlaw20_num) [] [])) [(.t 23)], none, 0⟩,
  ⟨(some 25), .bin .eql (.t 24) (.k (.sc (.int .i64 200))), none, 0⟩,
  ⟨(some 26), .mov (.t 25), none, 0⟩,
  ⟨(some 27), .mov (.t 9), (some ((some 26), true)), 0⟩,
  ⟨(some 28), .len (.t 27), (some ((some 26), true)), 0⟩,
  ⟨(some 29), .bin .eql (.t 28) (.k (.sc (.int .i64 0))), (some ((some 26), true)), 0⟩,
  ⟨(some 30), .pick (.t 26) (.t 29) (.k (.sc (.bool false))), none, 0⟩,
  ⟨(some 31), .mov (.t 30), none, 0⟩,
  ⟨(some 32), .call (.k (.fn (.func f_phasorlaw20_alive) [] [])) [], (some ((some 31), true)), 0⟩,
  ⟨(some 33), .pick (.t 31) (.t 32) (.k (.sc (.bool false))), none, 0⟩,
  ⟨(some 8), .mov (.t 33), none, 0⟩]
def c_phasorlaw20_RouteMetric_r4 : List AO := [⟨(some 34), .mov (.t 9), none, 0⟩,
  ⟨(some 35), .len (.t 34), none, 0⟩,
  ⟨(some 36), .fieldAddr 0 (.t 4), none, 0⟩,
  ⟨(some 37), .load false 1 (.t 36), none, 0⟩,
  ⟨(some 38), .bin .neq (.t 35) (.t 37), none, 0⟩]
def c_phasorlaw20_RouteMetric_r5 : List AO := [⟨(some 8), .mov (.k (.sc (.bool false))), none, 0⟩]
def c_phasorlaw20_RouteMetric_r6 : List AO := [⟨(some 39), .mov (.t 1), none, 0⟩,
  ⟨(some 40), .conv (.int .u64) (.t 39), none, 0⟩,
  ⟨(some 41), .fieldAddr 0 (.t 4), none, 0⟩,
  ⟨(some 42), .load false 1 (.t 41), none, 0⟩,
  ⟨(some 43), .conv (.int .u64) (.t 42), none, 0⟩,
  ⟨(some 44), .bin .rem (.t 40) (.t 43), none, 0⟩,
  ⟨(some 45), .conv (.int .i64) (.t 44), none, 0⟩,
  ⟨(some 1), .mov (.t 45), none, 0⟩]
def c_phasorlaw20_RouteMetric_r7 : List AO := [⟨(some 46), .mov (.t 2), none, 0⟩,
  ⟨(some 47), .conv (.int .u64) (.t 46), none, 0⟩,
  ⟨(some 48), .fieldAddr 0 (.t 4), none, 0⟩,
  ⟨(some 49), .load false 1 (.t 48), none, 0⟩,
  ⟨(some 50), .conv (.int .u64) (.t 49), none, 0⟩,
  ⟨(some 51), .bin .rem (.t 47) (.t 50), none, 0⟩,
  ⟨(some 52), .conv (.int .i64) (.t 51), none, 0⟩,
  ⟨(some 2), .mov (.t 52), none, 0⟩]
def c_phasorlaw20_RouteMetric_r8 : List AO := [⟨(some 53), .mov (.t 3), none, 0⟩,
  ⟨(some 54), .conv (.int .u64) (.t 53), none, 0⟩,
  ⟨(some 55), .fieldAddr 0 (.t 4), none, 0⟩,
  ⟨(some 56), .load false 1 (.t 55), none, 0⟩,
  ⟨(some 57), .conv (.int .u64) (.t 56), none, 0⟩,
  ⟨(some 58), .bin .rem (.t 54) (.t 57), none, 0⟩,
  ⟨(some 59), .conv (.int .i64) (.t 58), none, 0⟩,
  ⟨(some 3), .mov (.t 59), none, 0⟩]
def c_phasorlaw20_RouteMetric_r9 : List AO := [⟨(some 60), .mov (.t 9), none, 0⟩,
  ⟨(some 61), .mov (.t 1), none, 0⟩,
  ⟨(some 62), .indexAddr none 1 (.t 60) (.t 61), none, 3⟩,
  ⟨(some 63), .load false 1 (.t 62), none, 7⟩,
  ⟨(some 64), .len (.t 63), none, 15⟩,
  ⟨(some 65), .fieldAddr 0 (.t 4), none, 0⟩,
  ⟨(some 66), .load false 1 (.t 65), none, 32⟩,
  ⟨(some 67), .bin .neq (.t 64) (.t 66), none, 127⟩,
  ⟨(some 68), .mov (.t 67), none, 255⟩,
  ⟨(some 69), .mov (.t 9), (some ((some 68), false)), 511⟩,
  ⟨(some 70), .mov (.t 2), (some ((some 68), false)), 511⟩,
  ⟨(some 71), .indexAddr none 1 (.t 69) (.t 70), (some ((some 68), false)), 2047⟩,
  ⟨(some 72), .load false 1 (.t 71), (some ((some 68), false)), 4095⟩,
  ⟨(some 73), .len (.t 72), (some ((some 68), false)), 8191⟩,
  ⟨(some 74), .fieldAddr 0 (.t 4), (some ((some 68), false)), 511⟩,
  ⟨(some 75), .load false 1 (.t 74), (some ((some 68), false)), 16895⟩,
  ⟨(some 76), .bin .neq (.t 73) (.t 75), (some ((some 68), false)), 65535⟩,
  ⟨(some 77), .pick (.t 68) (.k (.sc (.bool true))) (.t 76), none, 131071⟩,
  ⟨(some 78), .mov (.t 77), none, 262143⟩,
  ⟨(some 79), .mov (.t 9), (some ((some 78), false)), 524287⟩,
  ⟨(some 80), .mov (.t 3), (some ((some 78), false)), 524287⟩,
  ⟨(some 81), .indexAddr none 1 (.t 79) (.t 80), (some ((some 78), false)), 2097151⟩,
  ⟨(some 82), .load false 1 (.t 81), (some ((some 78), false)), 4194303⟩,
  ⟨(some 83), .len (.t 82), (some ((some 78), false)), 8388607⟩,
  ⟨(some 84), .fieldAddr 0 (.t 4), (some ((some 78), false)), 524287⟩,
  ⟨(some 85), .load false 1 (.t 84), (some ((some 78), false)), 17301503⟩,
  ⟨(some 86), .bin .neq (.t 83) (.t 85), (some ((some 78), false)), 67108863⟩,
  ⟨(some 87), .pick (.t 78) (.k (.sc (.bool true))) (.t 86), none, 134217727⟩]
def c_phasorlaw20_RouteMetric_r10 : List AO := [⟨(some 8), .mov (.k (.sc (.bool false))), none, 0⟩]
def c_phasorlaw20_RouteMetric_r11 : List AO := [⟨(some 11), .mov (.k (.sc (.bool false))), none, 0⟩]
def c_phasorlaw20_RouteMetric_r12 : List AO := [⟨(some 12), .mov (.k (.sc (.int .i64 0))), none, 0⟩]
def c_phasorlaw20_RouteMetric_r13 : List AO := [⟨(some 88), .mov (.t 12), none, 0⟩,
  ⟨(some 89), .fieldAddr 1 (.t 4), none, 0⟩,
  ⟨(some 90), .load false 1 (.t 89), none, 0⟩,
  ⟨(some 91), .len (.t 90), none, 0⟩,
  ⟨(some 92), .bin .lss (.t 88) (.t 91), none, 0⟩]
def c_phasorlaw20_RouteMetric_r14 : List AO := [⟨(some 95), .mov (.t 11), none, 0⟩,
  ⟨(some 96), .mov (.t 95), none, 0⟩,
  ⟨(some 97), .fieldAddr 1 (.t 4), (some ((some 96), false)), 0⟩,
  ⟨(some 98), .load false 1 (.t 97), (some ((some 96), false)), 0⟩,
  ⟨(some 99), .mov (.t 12), (some ((some 96), false)), 0⟩,
  ⟨(some 100), .indexAddr none 2 (.t 98) (.t 99), (some ((some 96), false)), 0⟩,
  ⟨(some 101), .load true 2 (.t 100), (some ((some 96), false)), 0⟩,
  ⟨(some 102), .mov (.t 1), (some ((some 96), false)), 0⟩,
  ⟨(some 103), .mov (.t 2), (some ((some 96), false)), 0⟩,
  ⟨(some 104), .build [(.sc (.int .i64 0)), (.sc (.int .i64 0))] [(0, 1, (.t 102)), (1, 1, (.t 103))], (some ((some 96), false)), 0⟩,
  ⟨(some 105), .eqAgg false [.int, .int] (.t 101) (.t 104), (some ((some 96), false)), 0⟩,
  ⟨(some 106), .pick (.t 96) (.k (.sc (.bool true))) (.t 105), none, 0⟩,
  ⟨(some 107), .mov (.t 106), none, 0⟩,
  ⟨(some 108), .fieldAddr 1 (.t 4), (some ((some 107), false)), 0⟩,
  ⟨(some 109), .load false 1 (.t 108), (some ((some 107), false)), 0⟩,
  ⟨(some 110), .mov (.t 12), (some ((some 107), false)), 0⟩,
  ⟨(some 111), .indexAddr none 2 (.t 109) (.t 110), (some ((some 107), false)), 0⟩,
  ⟨(some 112), .load true 2 (.t 111), (some ((some 107), false)), 0⟩,
  ⟨(some 113), .mov (.t 2), (some ((some 107), false)), 0⟩,
  ⟨(some 114), .mov (.t 1), (some ((some 107), false)), 0⟩,
  ⟨(some 115), .build [(.sc (.int .i64 0)), (.sc (.int .i64 0))] [(0, 1, (.t 113)), (1, 1, (.t 114))], (some ((some 107), false)), 0⟩,
  ⟨(some 116), .eqAgg false [.int, .int] (.t 112) (.t 115), (some ((some 107), false)), 0⟩,
  ⟨(some 117), .pick (.t 107) (.k (.sc (.bool true))) (.t 116), none, 0⟩,
  ⟨(some 11), .mov (.t 117), none, 0⟩]
def c_phasorlaw20_RouteMetric_r15 : List AO := [⟨(some 93), .mov (.t 12), none, 0⟩,
  ⟨(some 94), .bin .add (.t 93) (.k (.sc (.int .i64 1))), none, 0⟩,
  ⟨(some 12), .mov (.t 94), none, 0⟩]
def c_phasorlaw20_RouteMetric_l0 : AC := .seq (.seq (.reg c_phasorlaw20_RouteMetric_r13 false) (.cond (.t 92) (.skip) (.exit 0))) (.seq (.blk 1 (.reg c_phasorlaw20_RouteMetric_r14 false)) (.reg c_phasorlaw20_RouteMetric_r15 false))
def c_phasorlaw20_RouteMetric_r16 : List AO := [⟨(some 119), .load true 2 (.t 4), none, 0⟩,
  ⟨(some 120), .mov (.t 1), none, 0⟩,
  ⟨(some 121), .mov (.t 2), none, 0⟩,
  ⟨(some 122), .call (.k (.fn (.func f_route_Path) [] [])) [(.t 119), (.t 120), (.t 121)], none, 0⟩,
  ⟨(some 118), .mov (.t 122), none, 0⟩,
  ⟨(some 123), .extract (.t 118) 0, none, 0⟩,
  ⟨(some 124), .extract (.t 118) 1, none, 0⟩,
  ⟨(some 13), .mov (.t 123), none, 0⟩,
  ⟨(some 14), .mov (.t 124), none, 0⟩]
def c_phasorlaw20_RouteMetric_r17 : List AO := [⟨(some 125), .mov (.t 9), none, 0⟩,
  ⟨(some 126), .mov (.t 1), none, 0⟩,
  ⟨(some 127), .indexAddr none 1 (.t 125) (.t 126), none, 3⟩,
  ⟨(some 128), .load false 1 (.t 127), none, 7⟩,
  ⟨(some 129), .mov (.t 2), none, 0⟩,
  ⟨(some 130), .indexAddr none 1 (.t 128) (.t 129), none, 31⟩,
  ⟨(some 131), .load false 1 (.t 130), none, 63⟩,
  ⟨(some 132), .mov (.t 9), none, 0⟩,
  ⟨(some 133), .mov (.t 2), none, 0⟩,
  ⟨(some 134), .indexAddr none 1 (.t 132) (.t 133), none, 384⟩,
  ⟨(some 135), .load false 1 (.t 134), none, 896⟩,
  ⟨(some 136), .mov (.t 1), none, 0⟩,
  ⟨(some 137), .indexAddr none 1 (.t 135) (.t 136), none, 3968⟩,
  ⟨(some 138), .load false 1 (.t 137), none, 8064⟩,
  ⟨(some 139), .bin .eql (.t 131) (.t 138), none, 16383⟩,
  ⟨(some 140), .mov (.t 139), none, 32767⟩,
  ⟨(some 141), .mov (.t 9), (some ((some 140), true)), 65535⟩,
  ⟨(some 142), .mov (.t 1), (some ((some 140), true)), 65535⟩,
  ⟨(some 143), .indexAddr none 1 (.t 141) (.t 142), (some ((some 140), true)), 262143⟩,
  ⟨(some 144), .load false 1 (.t 143), (some ((some 140), true)), 524287⟩,
  ⟨(some 145), .mov (.t 2), (some ((some 140), true)), 65535⟩,
  ⟨(some 146), .indexAddr none 1 (.t 144) (.t 145), (some ((some 140), true)), 2097151⟩,
  ⟨(some 147), .load false 1 (.t 146), (some ((some 140), true)), 4194303⟩,
  ⟨(some 148), .mov (.t 9), (some ((some 140), true)), 65535⟩,
  ⟨(some 149), .mov (.t 1), (some ((some 140), true)), 65535⟩,
  ⟨(some 150), .indexAddr none 1 (.t 148) (.t 149), (some ((some 140), true)), 25231359⟩,
  ⟨(some 151), .load false 1 (.t 150), (some ((some 140), true)), 58785791⟩,
  ⟨(some 152), .mov (.t 3), (some ((some 140), true)), 65535⟩,
  ⟨(some 153), .indexAddr none 1 (.t 151) (.t 152), (some ((some 140), true)), 260112383⟩,
  ⟨(some 154), .load false 1 (.t 153), (some ((some 140), true)), 528547839⟩,
  ⟨(some 155), .mov (.t 9), (some ((some 140), true)), 65535⟩,
  ⟨(some 156), .mov (.t 3), (some ((some 140), true)), 65535⟩,
  ⟨(some 157), .indexAddr none 1 (.t 155) (.t 156), (some ((some 140), true)), 3221291007⟩,
  ⟨(some 158), .load false 1 (.t 157), (some ((some 140), true)), 7516258303⟩,
  ⟨(some 159), .mov (.t 2), (some ((some 140), true)), 65535⟩,
  ⟨(some 160), .indexAddr none 1 (.t 158) (.t 159), (some ((some 140), true)), 33286062079⟩,
  ⟨(some 161), .load false 1 (.t 160), (some ((some 140), true)), 67645800447⟩,
  ⟨(some 162), .bin .add (.t 154) (.t 161), (some ((some 140), true)), 137430630399⟩,
  ⟨(some 163), .bin .leq (.t 147) (.t 162), (some ((some 140), true)), 274877906943⟩,
  ⟨(some 164), .pick (.t 140) (.t 163) (.k (.sc (.bool false))), none, 549755813887⟩,
  ⟨(some 165), .mov (.t 164), none, 1099511627775⟩,
  ⟨(some 166), .mov (.t 9), (some ((some 165), true)), 2199023255551⟩,
  ⟨(some 167), .mov (.t 1), (some ((some 165), true)), 2199023255551⟩,
  ⟨(some 168), .indexAddr none 1 (.t 166) (.t 167), (some ((some 165), true)), 8796093022207⟩,
  ⟨(some 169), .load false 1 (.t 168), (some ((some 165), true)), 17592186044415⟩,
  ⟨(some 170), .mov (.t 2), (some ((some 165), true)), 2199023255551⟩,
  ⟨(some 171), .indexAddr none 1 (.t 169) (.t 170), (some ((some 165), true)), 70368744177663⟩,
  ⟨(some 172), .load false 1 (.t 171), (some ((some 165), true)), 140737488355327⟩,
  ⟨(some 173), .bin .eql (.t 172) (.k (.sc (.int .i64 0))), (some ((some 165), true)), 281474976710655⟩,
  ⟨(some 174), .mov (.t 1), (some ((some 165), true)), 2199023255551⟩,
  ⟨(some 175), .mov (.t 2), (some ((some 165), true)), 2199023255551⟩,
  ⟨(some 176), .bin .eql (.t 174) (.t 175), (some ((some 165), true)), 1691048883519487⟩,
  ⟨(some 177), .eqBool false (.t 173) (.t 176), (some ((some 165), true)), 4503599627370495⟩,
  ⟨(some 178), .pick (.t 165) (.t 177) (.k (.sc (.bool false))), none, 9007199254740991⟩,
  ⟨(some 179), .mov (.t 178), none, 18014398509481983⟩,
  ⟨(some 180), .mov (.t 9), (some ((some 179), true)), 36028797018963967⟩,
  ⟨(some 181), .mov (.t 1), (some ((some 179), true)), 36028797018963967⟩,
  ⟨(some 182), .indexAddr none 1 (.t 180) (.t 181), (some ((some 179), true)), 144115188075855871⟩,
  ⟨(some 183), .load false 1 (.t 182), (some ((some 179), true)), 288230376151711743⟩,
  ⟨(some 184), .mov (.t 2), (some ((some 179), true)), 36028797018963967⟩,
  ⟨(some 185), .indexAddr none 1 (.t 183) (.t 184), (some ((some 179), true)), 1152921504606846975⟩,
  ⟨(some 186), .load false 1 (.t 185), (some ((some 179), true)), 2305843009213693951⟩,
  ⟨(some 187), .bin .eql (.t 186) (.k (.sc (.int .i64 1))), (some ((some 179), true)), 4611686018427387903⟩,
  ⟨(some 188), .mov (.t 11), (some ((some 179), true)), 36028797018963967⟩,
  ⟨(some 189), .eqBool false (.t 187) (.t 188), (some ((some 179), true)), 18446744073709551615⟩,
  ⟨(some 190), .pick (.t 179) (.t 189) (.k (.sc (.bool false))), none, 36893488147419103231⟩,
  ⟨(some 191), .mov (.t 190), none, 73786976294838206463⟩,
  ⟨(some 192), .mov (.t 14), (some ((some 191), true)), 147573952589676412927⟩,
  ⟨(some 193), .call (.k (.fn (.func f_phasorlaw20_num) [] [])) [(.t 192)], (some ((some 191), true)), 295147905179352825855⟩,
  ⟨(some 194), .bin .eql (.t 193) (.k (.sc (.int .i64 0))), (some ((some 191), true)), 590295810358705651711⟩,
  ⟨(some 195), .pick (.t 191) (.t 194) (.k (.sc (.bool false))), none, 1180591620717411303423⟩,
  ⟨(some 196), .mov (.t 195), none, 2361183241434822606847⟩,
  ⟨(some 197), .mov (.t 13), (some ((some 196), true)), 4722366482869645213695⟩,
  ⟨(some 198), .len (.t 197), (some ((some 196), true)), 9444732965739290427391⟩,
  ⟨(some 199), .mov (.t 9), (some ((some 196), true)), 4722366482869645213695⟩,
  ⟨(some 200), .mov (.t 1), (some ((some 196), true)), 4722366482869645213695⟩,
  ⟨(some 201), .indexAddr none 1 (.t 199) (.t 200), (some ((some 196), true)), 61390764277305387778047⟩,
  ⟨(some 202), .load false 1 (.t 201), (some ((some 196), true)), 136948628003219711197183⟩,
  ⟨(some 203), .mov (.t 2), (some ((some 196), true)), 4722366482869645213695⟩,
  ⟨(some 204), .indexAddr none 1 (.t 202) (.t 203), (some ((some 196), true)), 590295810358705651711999⟩,
  ⟨(some 205), .load false 1 (.t 204), (some ((some 196), true)), 1194758720166020239065087⟩,
  ⟨(some 206), .bin .add (.t 205) (.k (.sc (.int .i64 1))), (some ((some 196), true)), 2403684539780649413771263⟩,
  ⟨(some 207), .bin .eql (.t 198) (.t 206), (some ((some 196), true)), 4835703278458516698824703⟩,
  ⟨(some 208), .pick (.t 196) (.t 207) (.k (.sc (.bool false))), none, 9671406556917033397649407⟩,
  ⟨(some 209), .mov (.t 208), none, 19342813113834066795298815⟩,
  ⟨(some 210), .mov (.t 13), (some ((some 209), true)), 38685626227668133590597631⟩,
  ⟨(some 211), .indexAddr none 1 (.t 210) (.k (.sc (.int .i64 0))), (some ((some 209), true)), 77371252455336267181195263⟩,
  ⟨(some 212), .load false 1 (.t 211), (some ((some 209), true)), 154742504910672534362390527⟩,
  ⟨(some 213), .mov (.t 1), (some ((some 209), true)), 38685626227668133590597631⟩,
  ⟨(some 214), .bin .eql (.t 212) (.t 213), (some ((some 209), true)), 618970019642690137449562111⟩,
  ⟨(some 215), .pick (.t 209) (.t 214) (.k (.sc (.bool false))), none, 1237940039285380274899124223⟩,
  ⟨(some 216), .mov (.t 215), none, 2475880078570760549798248447⟩,
  ⟨(some 217), .mov (.t 13), (some ((some 216), true)), 4951760157141521099596496895⟩,
  ⟨(some 218), .mov (.t 13), (some ((some 216), true)), 4951760157141521099596496895⟩,
  ⟨(some 219), .len (.t 218), (some ((some 216), true)), 14855280471424563298789490687⟩,
  ⟨(some 220), .bin .sub (.t 219) (.k (.sc (.int .i64 1))), (some ((some 216), true)), 34662321099990647697175478271⟩,
  ⟨(some 221), .indexAddr none 1 (.t 217) (.t 220), (some ((some 216), true)), 79228162514264337593543950335⟩,
  ⟨(some 222), .load false 1 (.t 221), (some ((some 216), true)), 158456325028528675187087900671⟩,
  ⟨(some 223), .mov (.t 2), (some ((some 216), true)), 4951760157141521099596496895⟩,
  ⟨(some 224), .bin .eql (.t 222) (.t 223), (some ((some 216), true)), 633825300114114700748351602687⟩,
  ⟨(some 225), .pick (.t 216) (.t 224) (.k (.sc (.bool false))), none, 1267650600228229401496703205375⟩,
  ⟨(some 226), .mov (.t 225), none, 2535301200456458802993406410751⟩,
  ⟨(some 227), .call (.k (.fn (.func f_phasorlaw20_alive) [] [])) [], (some ((some 226), true)), 5070602400912917605986812821503⟩,
  ⟨(some 228), .pick (.t 226) (.t 227) (.k (.sc (.bool false))), none, 10141204801825835211973625643007⟩,
  ⟨(some 8), .mov (.t 228), none, 20282409603651670423947251286015⟩]
def c_phasorlaw20_RouteMetric : AFn := { code := .seq (.reg c_phasorlaw20_RouteMetric_r0 false) (.seq (.reg c_phasorlaw20_RouteMetric_r1 false) (.seq (.seq (.reg c_phasorlaw20_RouteMetric_r2 false) (.cond (.t 22) (.seq (.reg c_phasorlaw20_RouteMetric_r3 false) (.ret)) (.skip))) (.seq (.seq (.reg c_phasorlaw20_RouteMetric_r4 false) (.cond (.t 38) (.seq (.reg c_phasorlaw20_RouteMetric_r5 false) (.ret)) (.skip))) (.seq (.reg c_phasorlaw20_RouteMetric_r6 false) (.seq (.reg c_phasorlaw20_RouteMetric_r7 false) (.seq (.reg c_phasorlaw20_RouteMetric_r8 false) (.seq (.seq (.reg c_phasorlaw20_RouteMetric_r9 true) (.cond (.t 87) (.seq (.reg c_phasorlaw20_RouteMetric_r10 false) (.ret)) (.skip))) (.seq (.reg c_phasorlaw20_RouteMetric_r11 false) (.seq (.seq (.reg c_phasorlaw20_RouteMetric_r12 false) (.blk 0 (.loop c_phasorlaw20_RouteMetric_l0))) (.seq (.reg c_phasorlaw20_RouteMetric_r16 false) (.seq (.reg c_phasorlaw20_RouteMetric_r17 true) (.ret)))))))))))), ntmps := 229, results := [.tmp 8] }
/-- 6 phasor/phasorlaw20.RouteLays -/
def c_phasorlaw20_RouteLays_r0 : List AO := [⟨(some 2), .box (.t 0), none, 0⟩,
  ⟨(some 3), .box (.t 1), none, 0⟩,
  ⟨(some 4), .mov (.k (.sc (.bool false))), none, 0⟩]
def c_phasorlaw20_RouteLays_r1 : List AO := [⟨(some 16), .load true 3 (.t 2), none, 0⟩,
  ⟨(some 17), .call (.k (.fn (.func f_phasorref08_Copy) [] [])) [(.t 16)], none, 0⟩,
  ⟨(some 5), .alloc [(.sc (.int .i64 0)), (.sc (.int .i64 0)), (.sc (.slice none 0 0))], none, 0⟩,
  ⟨none, .store 3 (.t 5) (.t 17), none, 0⟩]
def c_phasorlaw20_RouteLays_r2 : List AO := [⟨(some 19), .load true 3 (.t 2), none, 0⟩,
  ⟨(some 20), .load true 2 (.t 3), none, 0⟩,
  ⟨(some 21), .call (.k (.fn (.func f_route_Fits) [] [])) [(.t 19), (.t 20)], none, 0⟩,
  ⟨(some 18), .mov (.t 21), none, 0⟩,
  ⟨(some 22), .extract (.t 18) 0, none, 0⟩,
  ⟨(some 23), .extract (.t 18) 1, none, 0⟩,
  ⟨(some 6), .mov (.t 22), none, 0⟩,
  ⟨(some 7), .mov (.t 23), none, 0⟩]
def c_phasorlaw20_RouteLays_r3 : List AO := [⟨(some 25), .load true 3 (.t 2), none, 0⟩,
  ⟨(some 26), .load true 2 (.t 3), none, 0⟩,
  ⟨(some 27), .call (.k (.fn (.func f_phasorref20_Fits) [] [])) [(.t 25), (.t 26)], none, 0⟩,
  ⟨(some 24), .mov (.t 27), none, 0⟩,
  ⟨(some 28), .extract (.t 24) 0, none, 0⟩,
  ⟨(some 29), .extract (.t 24) 1, none, 0⟩,
  ⟨(some 8), .mov (.t 28), none, 0⟩,
  ⟨(some 9), .mov (.t 29), none, 0⟩]
def c_phasorlaw20_RouteLays_r4 : List AO := [⟨(some 31), .load true 3 (.t 2), none, 0⟩,
  ⟨(some 32), .load true 2 (.t 3), none, 0⟩,
  ⟨(some 33), .call (.k (.fn (.func f_route_Route) [] [])) [(.t 31), (.t 32)], none, 0⟩,
  ⟨(some 30), .mov (.t 33), none, 0⟩,
  ⟨(some 34), .extract (.t 30) 0, none, 0⟩,
  ⟨(some 35), .extract (.t 30) 1, none, 0⟩,
  ⟨(some 10), .alloc [(.sc (.int .i64 0)), (.sc (.int .i64 0)), (.sc (.slice none 0 0)), (.sc (.slice none 0 0)), (.sc (.int .i64 0))], none, 0⟩,
  ⟨none, .store 5 (.t 10) (.t 34), none, 0⟩,
  ⟨(some 11), .mov (.t 35), none, 0⟩]
def c_phasorlaw20_RouteLays_r5 : List AO := [⟨(some 37), .load true 3 (.t 2), none, 0⟩,
  ⟨(some 38), .load true 2 (.t 3), none, 0⟩,
  ⟨(some 39), .call (.k (.fn (.func f_phasorref20_Route) [] [])) [(.t 37), (.t 38)], none, 0⟩,
  ⟨(some 36), .mov (.t 39), none, 0⟩,
  ⟨(some 40), .extract (.t 36) 0, none, 0⟩,
  ⟨(some 41), .extract (.t 36) 1, none, 0⟩,
  ⟨(some 12), .alloc [(.sc (.int .i64 0)), (.sc (.int .i64 0)), (.sc (.slice none 0 0)), (.sc (.slice none 0 0)), (.sc (.int .i64 0))], none, 0⟩,
  ⟨none, .store 5 (.t 12) (.t 40), none, 0⟩,
  ⟨(some 13), .mov (.t 41), none, 0⟩]
def c_phasorlaw20_RouteLays_r6 : List AO := [⟨(some 42), .mov (.t 6), none, 0⟩,
  ⟨(some 43), .mov (.t 8), none, 0⟩,
  ⟨(some 44), .eqBool true (.t 42) (.t 43), none, 0⟩,
  ⟨(some 45), .mov (.t 44), none, 0⟩,
  ⟨(some 46), .mov (.t 7), (some ((some 45), false)), 0⟩,
  ⟨(some 47), .call (.k (.fn (.func f_phasorlaw20_num) [] [])) [(.t 46)], (some ((some 45), false)), 0⟩,
  ⟨(some 48), .mov (.t 9), (some ((some 45), false)), 0⟩,
  ⟨(some 49), .bin .neq (.t 47) (.t 48), (some ((some 45), false)), 0⟩,
  ⟨(some 50), .pick (.t 45) (.k (.sc (.bool true))) (.t 49), none, 0⟩,
  ⟨(some 51), .mov (.t 50), none, 0⟩,
  ⟨(some 52), .mov (.t 11), (some ((some 51), false)), 0⟩,
  ⟨(some 53), .call (.k (.fn (.func f_phasorlaw20_num) [] [])) [(.t 52)], (some ((some 51), false)), 0⟩,
  ⟨(some 54), .mov (.t 13), (some ((some 51), false)), 0⟩,
  ⟨(some 55), .bin .neq (.t 53) (.t 54), (some ((some 51), false)), 0⟩,
  ⟨(some 56), .pick (.t 51) (.k (.sc (.bool true))) (.t 55), none, 0⟩,
  ⟨(some 57), .mov (.t 56), none, 0⟩,
  ⟨(some 58), .load true 5 (.t 10), (some ((some 57), false)), 0⟩,
  ⟨(some 59), .load true 5 (.t 12), (some ((some 57), false)), 0⟩,
  ⟨(some 60), .call (.k (.fn (.func f_phasorlaw20_routed) [] [])) [(.t 58), (.t 59)], (some ((some 57), false)), 0⟩,
  ⟨(some 61), .un .not (.t 60), (some ((some 57), false)), 0⟩,
  ⟨(some 62), .pick (.t 57) (.k (.sc (.bool true))) (.t 61), none, 0⟩]
def c_phasorlaw20_RouteLays_r7 : List AO := [⟨(some 4), .mov (.k (.sc (.bool false))), none, 0⟩]
def c_phasorlaw20_RouteLays_r8 : List AO := [⟨(some 14), .mov (.k (.sc (.int .i64 0))), none, 0⟩]
def c_phasorlaw20_RouteLays_r9 : List AO := [⟨(some 63), .mov (.t 14), none, 0⟩,
  ⟨(some 64), .fieldAddr 0 (.t 10), none, 0⟩,
  ⟨(some 65), .fieldAddr 2 (.t 64), none, 0⟩,
  ⟨(some 66), .load false 1 (.t 65), none, 0⟩,
  ⟨(some 67), .len (.t 66), none, 0⟩,
  ⟨(some 68), .bin .lss (.t 63) (.t 67), none, 0⟩]
def c_phasorlaw20_RouteLays_r10 : List AO := [⟨(some 15), .mov (.k (.sc (.int .i64 0))), none, 0⟩]
def c_phasorlaw20_RouteLays_r11 : List AO := [⟨(some 71), .mov (.t 15), none, 0⟩,
  ⟨(some 72), .fieldAddr 0 (.t 10), none, 0⟩,
  ⟨(some 73), .fieldAddr 2 (.t 72), none, 0⟩,
  ⟨(some 74), .load false 1 (.t 73), none, 0⟩,
  ⟨(some 75), .mov (.t 14), none, 0⟩,
  ⟨(some 76), .indexAddr none 6 (.t 74) (.t 75), none, 0⟩,
  ⟨(some 77), .fieldAddr 2 (.t 76), none, 0⟩,
  ⟨(some 78), .load false 1 (.t 77), none, 0⟩,
  ⟨(some 79), .len (.t 78), none, 0⟩,
  ⟨(some 80), .bin .lss (.t 71) (.t 79), none, 0⟩]
def c_phasorlaw20_RouteLays_r12 : List AO := [⟨(some 83), .fieldAddr 0 (.t 10), none, 0⟩,
  ⟨(some 84), .fieldAddr 2 (.t 83), none, 0⟩,
  ⟨(some 85), .load false 1 (.t 84), none, 0⟩,
  ⟨(some 86), .mov (.t 14), none, 0⟩,
  ⟨(some 87), .indexAddr none 6 (.t 85) (.t 86), none, 0⟩,
  ⟨(some 88), .fieldAddr 2 (.t 87), none, 0⟩,
  ⟨(some 89), .load false 1 (.t 88), none, 0⟩,
  ⟨(some 90), .mov (.t 15), none, 0⟩,
  ⟨(some 91), .indexAddr none 1 (.t 89) (.t 90), none, 0⟩,
  ⟨none, .store 1 (.t 91) (.k (.sc (.int .i64 (-9)))), none, 0⟩]
def c_phasorlaw20_RouteLays_r13 : List AO := [⟨(some 81), .mov (.t 15), none, 0⟩,
  ⟨(some 82), .bin .add (.t 81) (.k (.sc (.int .i64 1))), none, 0⟩,
  ⟨(some 15), .mov (.t 82), none, 0⟩]
def c_phasorlaw20_RouteLays_l0 : AC := .seq (.seq (.reg c_phasorlaw20_RouteLays_r11 false) (.cond (.t 80) (.skip) (.exit 2))) (.seq (.blk 3 (.reg c_phasorlaw20_RouteLays_r12 false)) (.reg c_phasorlaw20_RouteLays_r13 false))
def c_phasorlaw20_RouteLays_r14 : List AO := [⟨(some 69), .mov (.t 14), none, 0⟩,
  ⟨(some 70), .bin .add (.t 69) (.k (.sc (.int .i64 1))), none, 0⟩,
  ⟨(some 14), .mov (.t 70), none, 0⟩]
def c_phasorlaw20_RouteLays_l1 : AC := .seq (.seq (.reg c_phasorlaw20_RouteLays_r9 false) (.cond (.t 68) (.skip) (.exit 0))) (.seq (.blk 1 (.seq (.reg c_phasorlaw20_RouteLays_r10 false) (.blk 2 (.loop c_phasorlaw20_RouteLays_l0)))) (.reg c_phasorlaw20_RouteLays_r14 false))
def c_phasorlaw20_RouteLays_r15 : List AO := [⟨(some 92), .load true 3 (.t 2), none, 0⟩,
  ⟨(some 93), .load true 3 (.t 5), none, 0⟩,
  ⟨(some 94), .call (.k (.fn (.func f_phasorref08_Same) [] [])) [(.t 92), (.t 93)], none, 0⟩,
  ⟨(some 95), .mov (.t 94), none, 0⟩,
  ⟨(some 96), .call (.k (.fn (.func f_phasorlaw20_alive) [] [])) [], (some ((some 95), true)), 0⟩,
  ⟨(some 97), .pick (.t 95) (.t 96) (.k (.sc (.bool false))), none, 0⟩,
  ⟨(some 4), .mov (.t 97), none, 0⟩]
def c_phasorlaw20_RouteLays : AFn := { code := .seq (.reg c_phasorlaw20_RouteLays_r0 false) (.seq (.reg c_phasorlaw20_RouteLays_r1 false) (.seq (.reg c_phasorlaw20_RouteLays_r2 false) (.seq (.reg c_phasorlaw20_RouteLays_r3 false) (.seq (.reg c_phasorlaw20_RouteLays_r4 false) (.seq (.reg c_phasorlaw20_RouteLays_r5 false) (.seq (.seq (.reg c_phasorlaw20_RouteLays_r6 false) (.cond (.t 62) (.seq (.reg c_phasorlaw20_RouteLays_r7 false) (.ret)) (.skip))) (.seq (.seq (.reg c_phasorlaw20_RouteLays_r8 false) (.blk 0 (.loop c_phasorlaw20_RouteLays_l1))) (.seq (.reg c_phasorlaw20_RouteLays_r15 false) (.ret))))))))), ntmps := 98, results := [.tmp 4] }
/-- 7 phasor/phasorlaw20.RouteHomes -/
def c_phasorlaw20_RouteHomes_r0 : List AO := [⟨(some 2), .box (.t 0), none, 0⟩,
  ⟨(some 3), .box (.t 1), none, 0⟩,
  ⟨(some 4), .mov (.k (.sc (.bool false))), none, 0⟩]
def c_phasorlaw20_RouteHomes_r1 : List AO := [⟨(some 13), .fieldAddr 0 (.t 2), none, 0⟩,
  ⟨(some 14), .load true 3 (.t 13), none, 0⟩,
  ⟨(some 15), .call (.k (.fn (.func f_phasorref08_Copy) [] [])) [(.t 14)], none, 0⟩,
  ⟨(some 5), .alloc [(.sc (.int .i64 0)), (.sc (.int .i64 0)), (.sc (.slice none 0 0))], none, 0⟩,
  ⟨none, .store 3 (.t 5) (.t 15), none, 0⟩]
def c_phasorlaw20_RouteHomes_r2 : List AO := [⟨(some 17), .load true 5 (.t 2), none, 0⟩,
  ⟨(some 18), .load true 2 (.t 3), none, 0⟩,
  ⟨(some 19), .call (.k (.fn (.func f_route_Home) [] [])) [(.t 17), (.t 18)], none, 0⟩,
  ⟨(some 16), .mov (.t 19), none, 0⟩,
  ⟨(some 20), .extract (.t 16) 0, none, 0⟩,
  ⟨(some 21), .extract (.t 16) 1, none, 0⟩,
  ⟨(some 6), .alloc [(.sc (.int .i64 0)), (.sc (.int .i64 0)), (.sc (.slice none 0 0)), (.sc (.slice none 0 0)), (.sc (.int .i64 0))], none, 0⟩,
  ⟨none, .store 5 (.t 6) (.t 20), none, 0⟩,
  ⟨(some 7), .mov (.t 21), none, 0⟩]
def c_phasorlaw20_RouteHomes_r3 : List AO := [⟨(some 23), .load true 5 (.t 2), none, 0⟩,
  ⟨(some 24), .load true 2 (.t 3), none, 0⟩,
  ⟨(some 25), .call (.k (.fn (.func f_phasorref20_Home) [] [])) [(.t 23), (.t 24)], none, 0⟩,
  ⟨(some 22), .mov (.t 25), none, 0⟩,
  ⟨(some 26), .extract (.t 22) 0, none, 0⟩,
  ⟨(some 27), .extract (.t 22) 1, none, 0⟩,
  ⟨(some 8), .alloc [(.sc (.int .i64 0)), (.sc (.int .i64 0)), (.sc (.slice none 0 0)), (.sc (.slice none 0 0)), (.sc (.int .i64 0))], none, 0⟩,
  ⟨none, .store 5 (.t 8) (.t 26), none, 0⟩,
  ⟨(some 9), .mov (.t 27), none, 0⟩]
def c_phasorlaw20_RouteHomes_r4 : List AO := [⟨(some 28), .mov (.t 7), none, 0⟩,
  ⟨(some 29), .call (.k (.fn (.func f_phasorlaw20_num) [] [])) [(.t 28)], none, 0⟩,
  ⟨(some 30), .mov (.t 9), none, 0⟩,
  ⟨(some 31), .bin .neq (.t 29) (.t 30), none, 0⟩,
  ⟨(some 32), .mov (.t 31), none, 0⟩,
  ⟨(some 33), .load true 5 (.t 6), (some ((some 32), false)), 0⟩,
  ⟨(some 34), .load true 5 (.t 8), (some ((some 32), false)), 0⟩,
  ⟨(some 35), .call (.k (.fn (.func f_phasorlaw20_routed) [] [])) [(.t 33), (.t 34)], (some ((some 32), false)), 0⟩,
  ⟨(some 36), .un .not (.t 35), (some ((some 32), false)), 0⟩,
  ⟨(some 37), .pick (.t 32) (.k (.sc (.bool true))) (.t 36), none, 0⟩]
def c_phasorlaw20_RouteHomes_r5 : List AO := [⟨(some 4), .mov (.k (.sc (.bool false))), none, 0⟩]
def c_phasorlaw20_RouteHomes_r6 : List AO := [⟨(some 10), .mov (.k (.sc (.int .i64 0))), none, 0⟩]
def c_phasorlaw20_RouteHomes_r7 : List AO := [⟨(some 38), .mov (.t 10), none, 0⟩,
  ⟨(some 39), .fieldAddr 3 (.t 6), none, 0⟩,
  ⟨(some 40), .load false 1 (.t 39), none, 0⟩,
  ⟨(some 41), .len (.t 40), none, 0⟩,
  ⟨(some 42), .bin .lss (.t 38) (.t 41), none, 0⟩]
def c_phasorlaw20_RouteHomes_r8 : List AO := [⟨(some 45), .fieldAddr 3 (.t 6), none, 0⟩,
  ⟨(some 46), .load false 1 (.t 45), none, 0⟩,
  ⟨(some 47), .mov (.t 10), none, 0⟩,
  ⟨(some 48), .indexAddr none 1 (.t 46) (.t 47), none, 0⟩,
  ⟨none, .store 1 (.t 48) (.k (.sc (.int .i64 (-9)))), none, 0⟩]
def c_phasorlaw20_RouteHomes_r9 : List AO := [⟨(some 43), .mov (.t 10), none, 0⟩,
  ⟨(some 44), .bin .add (.t 43) (.k (.sc (.int .i64 1))), none, 0⟩,
  ⟨(some 10), .mov (.t 44), none, 0⟩]
def c_phasorlaw20_RouteHomes_l0 : AC := .seq (.seq (.reg c_phasorlaw20_RouteHomes_r7 false) (.cond (.t 42) (.skip) (.exit 0))) (.seq (.blk 1 (.reg c_phasorlaw20_RouteHomes_r8 false)) (.reg c_phasorlaw20_RouteHomes_r9 false))
def c_phasorlaw20_RouteHomes_r10 : List AO := [⟨(some 50), .load true 5 (.t 2), none, 0⟩,
  ⟨(some 51), .load true 2 (.t 3), none, 0⟩,
  ⟨(some 52), .call (.k (.fn (.func f_route_Home) [] [])) [(.t 50), (.t 51)], none, 0⟩,
  ⟨(some 49), .mov (.t 52), none, 0⟩,
  ⟨(some 53), .extract (.t 49) 0, none, 0⟩,
  ⟨(some 54), .extract (.t 49) 1, none, 0⟩,
  ⟨(some 11), .alloc [(.sc (.int .i64 0)), (.sc (.int .i64 0)), (.sc (.slice none 0 0)), (.sc (.slice none 0 0)), (.sc (.int .i64 0))], none, 0⟩,
  ⟨none, .store 5 (.t 11) (.t 53), none, 0⟩,
  ⟨(some 12), .mov (.t 54), none, 0⟩]
def c_phasorlaw20_RouteHomes_r11 : List AO := [⟨(some 55), .load true 5 (.t 11), none, 0⟩,
  ⟨(some 56), .load true 5 (.t 8), none, 0⟩,
  ⟨(some 57), .call (.k (.fn (.func f_phasorlaw20_routed) [] [])) [(.t 55), (.t 56)], none, 0⟩,
  ⟨(some 58), .mov (.t 57), none, 0⟩,
  ⟨(some 59), .fieldAddr 0 (.t 2), (some ((some 58), true)), 0⟩,
  ⟨(some 60), .load true 3 (.t 59), (some ((some 58), true)), 0⟩,
  ⟨(some 61), .load true 3 (.t 5), (some ((some 58), true)), 0⟩,
  ⟨(some 62), .call (.k (.fn (.func f_phasorref08_Same) [] [])) [(.t 60), (.t 61)], (some ((some 58), true)), 0⟩,
  ⟨(some 63), .pick (.t 58) (.t 62) (.k (.sc (.bool false))), none, 0⟩,
  ⟨(some 64), .mov (.t 63), none, 0⟩,
  ⟨(some 65), .call (.k (.fn (.func f_phasorlaw20_alive) [] [])) [], (some ((some 64), true)), 0⟩,
  ⟨(some 66), .pick (.t 64) (.t 65) (.k (.sc (.bool false))), none, 0⟩,
  ⟨(some 4), .mov (.t 66), none, 0⟩]
def c_phasorlaw20_RouteHomes : AFn := { code := .seq (.reg c_phasorlaw20_RouteHomes_r0 false) (.seq (.reg c_phasorlaw20_RouteHomes_r1 false) (.seq (.reg c_phasorlaw20_RouteHomes_r2 false) (.seq (.reg c_phasorlaw20_RouteHomes_r3 false) (.seq (.seq (.reg c_phasorlaw20_RouteHomes_r4 false) (.cond (.t 37) (.seq (.reg c_phasorlaw20_RouteHomes_r5 false) (.ret)) (.skip))) (.seq (.seq (.reg c_phasorlaw20_RouteHomes_r6 false) (.blk 0 (.loop c_phasorlaw20_RouteHomes_l0))) (.seq (.reg c_phasorlaw20_RouteHomes_r10 false) (.seq (.reg c_phasorlaw20_RouteHomes_r11 false) (.ret)))))))), ntmps := 67, results := [.tmp 4] }
/-- 8 phasor/route.Line -/
def c_route_Line_r0 : List AO := [⟨(some 2), .alloc [(.sc (.int .i64 0)), (.sc (.slice none 0 0))], none, 0⟩,
  ⟨(some 3), .mov (.k (.sc (.int .i64 0))), none, 0⟩]
def c_route_Line_r1 : List AO := [⟨(some 4), .mov (.t 0), none, 0⟩,
  ⟨(some 5), .bin .lss (.t 4) (.k (.sc (.int .i64 1))), none, 0⟩,
  ⟨(some 6), .mov (.t 5), none, 0⟩,
  ⟨(some 7), .mov (.t 0), (some ((some 6), false)), 0⟩,
  ⟨(some 8), .bin .gtr (.t 7) (.k (.sc (.int .i64 64))), (some ((some 6), false)), 0⟩,
  ⟨(some 9), .pick (.t 6) (.k (.sc (.bool true))) (.t 8), none, 0⟩]
def c_route_Line_r2 : List AO := [⟨(some 10), .build [(.sc (.int .i64 0)), (.sc (.slice none 0 0))] [], none, 0⟩,
  ⟨none, .store 2 (.t 2) (.t 10), none, 0⟩,
  ⟨(some 3), .mov (.k (.sc (.int .i64 2))), none, 0⟩]
def c_route_Line_r3 : List AO := [⟨(some 11), .mov (.t 0), none, 0⟩,
  ⟨(some 12), .mov (.t 0), none, 0⟩,
  ⟨(some 13), .call (.k (.fn (.func f_route_line) [] [])) [(.t 12)], none, 0⟩,
  ⟨(some 14), .build [(.sc (.int .i64 0)), (.sc (.slice none 0 0))] [(0, 1, (.t 11)), (1, 1, (.t 13))], none, 0⟩,
  ⟨none, .store 2 (.t 2) (.t 14), none, 0⟩,
  ⟨(some 3), .mov (.k (.sc (.int .i64 0))), none, 0⟩]
def c_route_Line : AFn := { code := .seq (.reg c_route_Line_r0 false) (.seq (.seq (.reg c_route_Line_r1 false) (.cond (.t 9) (.seq (.reg c_route_Line_r2 false) (.ret)) (.skip))) (.seq (.reg c_route_Line_r3 false) (.ret))), ntmps := 15, results := [.cell true 2 2, .tmp 3] }
/-- 9 phasor/phasorref20.Line -/
def c_phasorref20_Line_r0 : List AO := [⟨(some 2), .alloc [(.sc (.int .i64 0)), (.sc (.slice none 0 0))], none, 0⟩,
  ⟨(some 3), .mov (.k (.sc (.int .i64 0))), none, 0⟩]
def c_phasorref20_Line_r1 : List AO := [⟨(some 6), .mov (.t 0), none, 0⟩,
  ⟨(some 7), .bin .lss (.t 6) (.k (.sc (.int .i64 1))), none, 0⟩,
  ⟨(some 8), .mov (.t 7), none, 0⟩,
  ⟨(some 9), .mov (.t 0), (some ((some 8), false)), 0⟩,
  ⟨(some 10), .bin .gtr (.t 9) (.k (.sc (.int .i64 64))), (some ((some 8), false)), 0⟩,
  ⟨(some 11), .pick (.t 8) (.k (.sc (.bool true))) (.t 10), none, 0⟩]
def c_phasorref20_Line_r2 : List AO := [⟨(some 12), .build [(.sc (.int .i64 0)), (.sc (.slice none 0 0))] [], none, 0⟩,
  ⟨none, .store 2 (.t 2) (.t 12), none, 0⟩,
  ⟨(some 3), .mov (.k (.sc (.int .i64 2))), none, 0⟩]
def c_phasorref20_Line_r3 : List AO := [⟨(some 13), .mov (.t 0), none, 0⟩,
  ⟨(some 14), .build [(.sc (.int .i64 0)), (.sc (.slice none 0 0))] [(0, 1, (.t 13))], none, 0⟩,
  ⟨(some 4), .alloc [(.sc (.int .i64 0)), (.sc (.slice none 0 0))], none, 0⟩,
  ⟨none, .store 2 (.t 4) (.t 14), none, 0⟩]
def c_phasorref20_Line_r4 : List AO := [⟨(some 5), .mov (.k (.sc (.int .i64 0))), none, 0⟩]
def c_phasorref20_Line_r5 : List AO := [⟨(some 15), .mov (.t 5), none, 0⟩,
  ⟨(some 16), .bin .add (.t 15) (.k (.sc (.int .i64 1))), none, 0⟩,
  ⟨(some 17), .mov (.t 0), none, 0⟩,
  ⟨(some 18), .bin .lss (.t 16) (.t 17), none, 0⟩]
def c_phasorref20_Line_r6 : List AO := [⟨(some 21), .fieldAddr 1 (.t 4), none, 0⟩,
  ⟨(some 22), .load false 1 (.t 21), none, 0⟩,
  ⟨(some 23), .mov (.t 5), none, 0⟩,
  ⟨(some 24), .mov (.t 5), none, 0⟩,
  ⟨(some 25), .bin .add (.t 24) (.k (.sc (.int .i64 1))), none, 0⟩,
  ⟨(some 26), .build [(.sc (.int .i64 0)), (.sc (.int .i64 0))] [(0, 1, (.t 23)), (1, 1, (.t 25))], none, 0⟩,
  ⟨(some 27), .buildSlice 2 1 [(.sc (.int .i64 0)), (.sc (.int .i64 0))] [(0, 2, (.t 26))], none, 0⟩,
  ⟨(some 28), .append 2 16 (.t 22) (.t 27), none, 0⟩,
  ⟨(some 29), .fieldAddr 1 (.t 4), none, 0⟩,
  ⟨none, .store 1 (.t 29) (.t 28), none, 0⟩]
def c_phasorref20_Line_r7 : List AO := [⟨(some 19), .mov (.t 5), none, 0⟩,
  ⟨(some 20), .bin .add (.t 19) (.k (.sc (.int .i64 1))), none, 0⟩,
  ⟨(some 5), .mov (.t 20), none, 0⟩]
def c_phasorref20_Line_l0 : AC := .seq (.seq (.reg c_phasorref20_Line_r5 false) (.cond (.t 18) (.skip) (.exit 0))) (.seq (.blk 1 (.reg c_phasorref20_Line_r6 false)) (.reg c_phasorref20_Line_r7 false))
def c_phasorref20_Line_r8 : List AO := [⟨(some 30), .load true 2 (.t 4), none, 0⟩,
  ⟨none, .store 2 (.t 2) (.t 30), none, 0⟩,
  ⟨(some 3), .mov (.k (.sc (.int .i64 0))), none, 0⟩]
def c_phasorref20_Line : AFn := { code := .seq (.reg c_phasorref20_Line_r0 false) (.seq (.seq (.reg c_phasorref20_Line_r1 false) (.cond (.t 11) (.seq (.reg c_phasorref20_Line_r2 false) (.ret)) (.skip))) (.seq (.reg c_phasorref20_Line_r3 false) (.seq (.seq (.reg c_phasorref20_Line_r4 false) (.blk 0 (.loop c_phasorref20_Line_l0))) (.seq (.reg c_phasorref20_Line_r8 false) (.ret))))), ntmps := 31, results := [.cell true 2 2, .tmp 3] }
/-- 10 phasor/route.Ring -/
def c_route_Ring_r0 : List AO := [⟨(some 2), .alloc [(.sc (.int .i64 0)), (.sc (.slice none 0 0))], none, 0⟩,
  ⟨(some 3), .mov (.k (.sc (.int .i64 0))), none, 0⟩]
def c_route_Ring_r1 : List AO := [⟨(some 4), .mov (.t 0), none, 0⟩,
  ⟨(some 5), .bin .lss (.t 4) (.k (.sc (.int .i64 3))), none, 0⟩,
  ⟨(some 6), .mov (.t 5), none, 0⟩,
  ⟨(some 7), .mov (.t 0), (some ((some 6), false)), 0⟩,
  ⟨(some 8), .bin .gtr (.t 7) (.k (.sc (.int .i64 64))), (some ((some 6), false)), 0⟩,
  ⟨(some 9), .pick (.t 6) (.k (.sc (.bool true))) (.t 8), none, 0⟩]
def c_route_Ring_r2 : List AO := [⟨(some 10), .build [(.sc (.int .i64 0)), (.sc (.slice none 0 0))] [], none, 0⟩,
  ⟨none, .store 2 (.t 2) (.t 10), none, 0⟩,
  ⟨(some 3), .mov (.k (.sc (.int .i64 2))), none, 0⟩]
def c_route_Ring_r3 : List AO := [⟨(some 11), .mov (.t 0), none, 0⟩,
  ⟨(some 12), .mov (.t 0), none, 0⟩,
  ⟨(some 13), .call (.k (.fn (.func f_route_line) [] [])) [(.t 12)], none, 0⟩,
  ⟨(some 14), .mov (.t 0), none, 0⟩,
  ⟨(some 15), .bin .sub (.t 14) (.k (.sc (.int .i64 1))), none, 0⟩,
  ⟨(some 16), .build [(.sc (.int .i64 0)), (.sc (.int .i64 0))] [(0, 1, (.t 15)), (1, 1, (.k (.sc (.int .i64 0))))], none, 0⟩,
  ⟨(some 17), .buildSlice 2 1 [(.sc (.int .i64 0)), (.sc (.int .i64 0))] [(0, 2, (.t 16))], none, 0⟩,
  ⟨(some 18), .append 2 16 (.t 13) (.t 17), none, 0⟩,
  ⟨(some 19), .build [(.sc (.int .i64 0)), (.sc (.slice none 0 0))] [(0, 1, (.t 11)), (1, 1, (.t 18))], none, 0⟩,
  ⟨none, .store 2 (.t 2) (.t 19), none, 0⟩,
  ⟨(some 3), .mov (.k (.sc (.int .i64 0))), none, 0⟩]
def c_route_Ring : AFn := { code := .seq (.reg c_route_Ring_r0 false) (.seq (.seq (.reg c_route_Ring_r1 false) (.cond (.t 9) (.seq (.reg c_route_Ring_r2 false) (.ret)) (.skip))) (.seq (.reg c_route_Ring_r3 false) (.ret))), ntmps := 20, results := [.cell true 2 2, .tmp 3] }
/-- 11 phasor/phasorref20.Ring -/
def c_phasorref20_Ring_r0 : List AO := [⟨(some 2), .alloc [(.sc (.int .i64 0)), (.sc (.slice none 0 0))], none, 0⟩,
  ⟨(some 3), .mov (.k (.sc (.int .i64 0))), none, 0⟩]
def c_phasorref20_Ring_r1 : List AO := [⟨(some 7), .mov (.t 0), none, 0⟩,
  ⟨(some 8), .call (.k (.fn (.func f_phasorref20_Line) [] [])) [(.t 7)], none, 0⟩,
  ⟨(some 6), .mov (.t 8), none, 0⟩,
  ⟨(some 9), .extract (.t 6) 0, none, 0⟩,
  ⟨(some 10), .extract (.t 6) 1, none, 0⟩,
  ⟨(some 4), .alloc [(.sc (.int .i64 0)), (.sc (.slice none 0 0))], none, 0⟩,
  ⟨none, .store 2 (.t 4) (.t 9), none, 0⟩,
  ⟨(some 5), .mov (.t 10), none, 0⟩]
def c_phasorref20_Ring_r2 : List AO := [⟨(some 11), .mov (.t 5), none, 0⟩,
  ⟨(some 12), .bin .neq (.t 11) (.k (.sc (.int .i64 0))), none, 0⟩,
  ⟨(some 13), .mov (.t 12), none, 0⟩,
  ⟨(some 14), .mov (.t 0), (some ((some 13), false)), 0⟩,
  ⟨(some 15), .bin .lss (.t 14) (.k (.sc (.int .i64 3))), (some ((some 13), false)), 0⟩,
  ⟨(some 16), .pick (.t 13) (.k (.sc (.bool true))) (.t 15), none, 0⟩]
def c_phasorref20_Ring_r3 : List AO := [⟨(some 17), .build [(.sc (.int .i64 0)), (.sc (.slice none 0 0))] [], none, 0⟩,
  ⟨none, .store 2 (.t 2) (.t 17), none, 0⟩,
  ⟨(some 3), .mov (.k (.sc (.int .i64 2))), none, 0⟩]
def c_phasorref20_Ring_r4 : List AO := [⟨(some 18), .fieldAddr 1 (.t 4), none, 0⟩,
  ⟨(some 19), .load false 1 (.t 18), none, 0⟩,
  ⟨(some 20), .mov (.t 0), none, 0⟩,
  ⟨(some 21), .bin .sub (.t 20) (.k (.sc (.int .i64 1))), none, 0⟩,
  ⟨(some 22), .build [(.sc (.int .i64 0)), (.sc (.int .i64 0))] [(0, 1, (.t 21)), (1, 1, (.k (.sc (.int .i64 0))))], none, 0⟩,
  ⟨(some 23), .buildSlice 2 1 [(.sc (.int .i64 0)), (.sc (.int .i64 0))] [(0, 2, (.t 22))], none, 0⟩,
  ⟨(some 24), .append 2 16 (.t 19) (.t 23), none, 0⟩,
  ⟨(some 25), .fieldAddr 1 (.t 4), none, 0⟩,
  ⟨none, .store 1 (.t 25) (.t 24), none, 0⟩]
def c_phasorref20_Ring_r5 : List AO := [⟨(some 26), .load true 2 (.t 4), none, 0⟩,
  ⟨none, .store 2 (.t 2) (.t 26), none, 0⟩,
  ⟨(some 3), .mov (.k (.sc (.int .i64 0))), none, 0⟩]
def c_phasorref20_Ring : AFn := { code := .seq (.reg c_phasorref20_Ring_r0 false) (.seq (.reg c_phasorref20_Ring_r1 false) (.seq (.seq (.reg c_phasorref20_Ring_r2 false) (.cond (.t 16) (.seq (.reg c_phasorref20_Ring_r3 false) (.ret)) (.skip))) (.seq (.reg c_phasorref20_Ring_r4 false) (.seq (.reg c_phasorref20_Ring_r5 false) (.ret))))), ntmps := 27, results := [.cell true 2 2, .tmp 3] }
/-- 12 phasor/route.Grid -/
def c_route_Grid_r0 : List AO := [⟨(some 4), .alloc [(.sc (.int .i64 0)), (.sc (.slice none 0 0))], none, 0⟩,
  ⟨(some 5), .mov (.k (.sc (.int .i64 0))), none, 0⟩]
def c_route_Grid_r1 : List AO := [⟨(some 8), .mov (.t 0), none, 0⟩,
  ⟨(some 9), .bin .lss (.t 8) (.k (.sc (.int .i64 1))), none, 0⟩,
  ⟨(some 10), .mov (.t 9), none, 0⟩,
  ⟨(some 11), .mov (.t 0), (some ((some 10), false)), 0⟩,
  ⟨(some 12), .bin .gtr (.t 11) (.k (.sc (.int .i64 64))), (some ((some 10), false)), 0⟩,
  ⟨(some 13), .pick (.t 10) (.k (.sc (.bool true))) (.t 12), none, 0⟩,
  ⟨(some 14), .mov (.t 13), none, 0⟩,
  ⟨(some 15), .mov (.t 1), (some ((some 14), false)), 0⟩,
  ⟨(some 16), .bin .lss (.t 15) (.k (.sc (.int .i64 1))), (some ((some 14), false)), 0⟩,
  ⟨(some 17), .pick (.t 14) (.k (.sc (.bool true))) (.t 16), none, 0⟩,
  ⟨(some 18), .mov (.t 17), none, 0⟩,
  ⟨(some 19), .mov (.t 1), (some ((some 18), false)), 0⟩,
  ⟨(some 20), .bin .gtr (.t 19) (.k (.sc (.int .i64 64))), (some ((some 18), false)), 0⟩,
  ⟨(some 21), .pick (.t 18) (.k (.sc (.bool true))) (.t 20), none, 0⟩,
  ⟨(some 22), .mov (.t 21), none, 0⟩,
  ⟨(some 23), .mov (.t 0), (some ((some 22), false)), 0⟩,
  ⟨(some 24), .mov (.t 1), (some ((some 22), false)), 0⟩,
  ⟨(some 25), .bin .mul (.t 23) (.t 24), (some ((some 22), false)), 0⟩,
  ⟨(some 26), .bin .gtr (.t 25) (.k (.sc (.int .i64 64))), (some ((some 22), false)), 0⟩,
  ⟨(some 27), .pick (.t 22) (.k (.sc (.bool true))) (.t 26), none, 0⟩]
def c_route_Grid_r2 : List AO := [⟨(some 28), .build [(.sc (.int .i64 0)), (.sc (.slice none 0 0))] [], none, 0⟩,
  ⟨none, .store 2 (.t 4) (.t 28), none, 0⟩,
  ⟨(some 5), .mov (.k (.sc (.int .i64 2))), none, 0⟩]
def c_route_Grid_r3 : List AO := [⟨(some 29), .mov (.t 0), none, 0⟩,
  ⟨(some 30), .mov (.t 1), none, 0⟩,
  ⟨(some 31), .bin .mul (.t 29) (.t 30), none, 0⟩,
  ⟨(some 32), .build [(.sc (.int .i64 0)), (.sc (.slice none 0 0))] [(0, 1, (.t 31))], none, 0⟩,
  ⟨(some 6), .alloc [(.sc (.int .i64 0)), (.sc (.slice none 0 0))], none, 0⟩,
  ⟨none, .store 2 (.t 6) (.t 32), none, 0⟩]
def c_route_Grid_r4 : List AO := [⟨(some 33), .fieldAddr 0 (.t 6), none, 0⟩,
  ⟨(some 34), .load false 1 (.t 33), none, 0⟩,
  ⟨(some 35), .mov (.k (.sc (.int .i64 0))), none, 0⟩]
def c_route_Grid_r5 : List AO := [⟨(some 36), .bin .lss (.t 35) (.t 34), none, 0⟩]
def c_route_Grid_r6 : List AO := [⟨(some 37), .mov (.t 35), none, 0⟩,
  ⟨(some 7), .mov (.t 37), none, 0⟩]
def c_route_Grid_r7 : List AO := [⟨(some 38), .mov (.t 7), none, 0⟩,
  ⟨(some 39), .mov (.t 0), none, 0⟩,
  ⟨(some 40), .bin .rem (.t 38) (.t 39), none, 0⟩,
  ⟨(some 41), .bin .add (.t 40) (.k (.sc (.int .i64 1))), none, 0⟩,
  ⟨(some 42), .mov (.t 0), none, 0⟩,
  ⟨(some 43), .bin .lss (.t 41) (.t 42), none, 0⟩]
def c_route_Grid_r8 : List AO := [⟨(some 44), .fieldAddr 1 (.t 6), none, 0⟩,
  ⟨(some 45), .load false 1 (.t 44), none, 0⟩,
  ⟨(some 46), .mov (.t 7), none, 0⟩,
  ⟨(some 47), .mov (.t 7), none, 0⟩,
  ⟨(some 48), .bin .add (.t 47) (.k (.sc (.int .i64 1))), none, 0⟩,
  ⟨(some 49), .build [(.sc (.int .i64 0)), (.sc (.int .i64 0))] [(0, 1, (.t 46)), (1, 1, (.t 48))], none, 0⟩,
  ⟨(some 50), .buildSlice 2 1 [(.sc (.int .i64 0)), (.sc (.int .i64 0))] [(0, 2, (.t 49))], none, 0⟩,
  ⟨(some 51), .append 2 16 (.t 45) (.t 50), none, 0⟩,
  ⟨(some 52), .fieldAddr 1 (.t 6), none, 0⟩,
  ⟨none, .store 1 (.t 52) (.t 51), none, 0⟩]
def c_route_Grid_r9 : List AO := [⟨(some 53), .mov (.t 7), none, 0⟩,
  ⟨(some 54), .mov (.t 0), none, 0⟩,
  ⟨(some 55), .bin .quo (.t 53) (.t 54), none, 0⟩,
  ⟨(some 56), .bin .add (.t 55) (.k (.sc (.int .i64 1))), none, 0⟩,
  ⟨(some 57), .mov (.t 1), none, 0⟩,
  ⟨(some 58), .bin .lss (.t 56) (.t 57), none, 0⟩]
def c_route_Grid_r10 : List AO := [⟨(some 59), .fieldAddr 1 (.t 6), none, 0⟩,
  ⟨(some 60), .load false 1 (.t 59), none, 0⟩,
  ⟨(some 61), .mov (.t 7), none, 0⟩,
  ⟨(some 62), .mov (.t 7), none, 0⟩,
  ⟨(some 63), .mov (.t 0), none, 0⟩,
  ⟨(some 64), .bin .add (.t 62) (.t 63), none, 0⟩,
  ⟨(some 65), .build [(.sc (.int .i64 0)), (.sc (.int .i64 0))] [(0, 1, (.t 61)), (1, 1, (.t 64))], none, 0⟩,
  ⟨(some 66), .buildSlice 2 1 [(.sc (.int .i64 0)), (.sc (.int .i64 0))] [(0, 2, (.t 65))], none, 0⟩,
  ⟨(some 67), .append 2 16 (.t 60) (.t 66), none, 0⟩,
  ⟨(some 68), .fieldAddr 1 (.t 6), none, 0⟩,
  ⟨none, .store 1 (.t 68) (.t 67), none, 0⟩]
def c_route_Grid_r11 : List AO := [⟨(some 69), .bin .add (.t 35) (.k (.sc (.int .i64 1))), none, 0⟩,
  ⟨(some 35), .mov (.t 69), none, 0⟩]
def c_route_Grid_l0 : AC := .seq (.reg c_route_Grid_r5 false) (.seq (.cond (.t 36) (.skip) (.exit 0)) (.seq (.blk 1 (.seq (.reg c_route_Grid_r6 false) (.seq (.seq (.reg c_route_Grid_r7 false) (.cond (.t 43) (.reg c_route_Grid_r8 false) (.skip))) (.seq (.reg c_route_Grid_r9 false) (.cond (.t 58) (.reg c_route_Grid_r10 false) (.skip)))))) (.reg c_route_Grid_r11 false)))
def c_route_Grid_r12 : List AO := [⟨(some 70), .load true 2 (.t 6), none, 0⟩,
  ⟨none, .store 2 (.t 4) (.t 70), none, 0⟩,
  ⟨(some 5), .mov (.k (.sc (.int .i64 0))), none, 0⟩]
def c_route_Grid : AFn := { code := .seq (.reg c_route_Grid_r0 false) (.seq (.seq (.reg c_route_Grid_r1 false) (.cond (.t 27) (.seq (.reg c_route_Grid_r2 false) (.ret)) (.skip))) (.seq (.reg c_route_Grid_r3 false) (.seq (.seq (.reg c_route_Grid_r4 false) (.blk 0 (.loop c_route_Grid_l0))) (.seq (.reg c_route_Grid_r12 false) (.ret))))), ntmps := 71, results := [.cell true 2 4, .tmp 5] }
/-- 13 phasor/phasorref20.Grid -/
def c_phasorref20_Grid_r0 : List AO := [⟨(some 4), .alloc [(.sc (.int .i64 0)), (.sc (.slice none 0 0))], none, 0⟩,
  ⟨(some 5), .mov (.k (.sc (.int .i64 0))), none, 0⟩]
def c_phasorref20_Grid_r1 : List AO := [⟨(some 8), .mov (.t 0), none, 0⟩,
  ⟨(some 9), .bin .lss (.t 8) (.k (.sc (.int .i64 1))), none, 0⟩,
  ⟨(some 10), .mov (.t 9), none, 0⟩,
  ⟨(some 11), .mov (.t 0), (some ((some 10), false)), 0⟩,
  ⟨(some 12), .bin .gtr (.t 11) (.k (.sc (.int .i64 64))), (some ((some 10), false)), 0⟩,
  ⟨(some 13), .pick (.t 10) (.k (.sc (.bool true))) (.t 12), none, 0⟩,
  ⟨(some 14), .mov (.t 13), none, 0⟩,
  ⟨(some 15), .mov (.t 1), (some ((some 14), false)), 0⟩,
  ⟨(some 16), .bin .lss (.t 15) (.k (.sc (.int .i64 1))), (some ((some 14), false)), 0⟩,
  ⟨(some 17), .pick (.t 14) (.k (.sc (.bool true))) (.t 16), none, 0⟩,
  ⟨(some 18), .mov (.t 17), none, 0⟩,
  ⟨(some 19), .mov (.t 1), (some ((some 18), false)), 0⟩,
  ⟨(some 20), .bin .gtr (.t 19) (.k (.sc (.int .i64 64))), (some ((some 18), false)), 0⟩,
  ⟨(some 21), .pick (.t 18) (.k (.sc (.bool true))) (.t 20), none, 0⟩,
  ⟨(some 22), .mov (.t 21), none, 0⟩,
  ⟨(some 23), .mov (.t 0), (some ((some 22), false)), 0⟩,
  ⟨(some 24), .mov (.t 1), (some ((some 22), false)), 0⟩,
  ⟨(some 25), .bin .mul (.t 23) (.t 24), (some ((some 22), false)), 0⟩,
  ⟨(some 26), .bin .gtr (.t 25) (.k (.sc (.int .i64 64))), (some ((some 22), false)), 0⟩,
  ⟨(some 27), .pick (.t 22) (.k (.sc (.bool true))) (.t 26), none, 0⟩]
def c_phasorref20_Grid_r2 : List AO := [⟨(some 28), .build [(.sc (.int .i64 0)), (.sc (.slice none 0 0))] [], none, 0⟩,
  ⟨none, .store 2 (.t 4) (.t 28), none, 0⟩,
  ⟨(some 5), .mov (.k (.sc (.int .i64 2))), none, 0⟩]
def c_phasorref20_Grid_r3 : List AO := [⟨(some 29), .mov (.t 0), none, 0⟩,
  ⟨(some 30), .mov (.t 1), none, 0⟩,
  ⟨(some 31), .bin .mul (.t 29) (.t 30), none, 0⟩,
  ⟨(some 32), .build [(.sc (.int .i64 0)), (.sc (.slice none 0 0))] [(0, 1, (.t 31))], none, 0⟩,
  ⟨(some 6), .alloc [(.sc (.int .i64 0)), (.sc (.slice none 0 0))], none, 0⟩,
  ⟨none, .store 2 (.t 6) (.t 32), none, 0⟩]
def c_phasorref20_Grid_r4 : List AO := [⟨(some 7), .mov (.k (.sc (.int .i64 0))), none, 0⟩]
def c_phasorref20_Grid_r5 : List AO := [⟨(some 33), .mov (.t 7), none, 0⟩,
  ⟨(some 34), .mov (.t 0), none, 0⟩,
  ⟨(some 35), .mov (.t 1), none, 0⟩,
  ⟨(some 36), .bin .mul (.t 34) (.t 35), none, 0⟩,
  ⟨(some 37), .bin .lss (.t 33) (.t 36), none, 0⟩]
def c_phasorref20_Grid_r6 : List AO := [⟨(some 40), .mov (.t 7), none, 0⟩,
  ⟨(some 41), .mov (.t 0), none, 0⟩,
  ⟨(some 42), .bin .rem (.t 40) (.t 41), none, 0⟩,
  ⟨(some 43), .bin .add (.t 42) (.k (.sc (.int .i64 1))), none, 0⟩,
  ⟨(some 44), .mov (.t 0), none, 0⟩,
  ⟨(some 45), .bin .lss (.t 43) (.t 44), none, 0⟩]
def c_phasorref20_Grid_r7 : List AO := [⟨(some 46), .fieldAddr 1 (.t 6), none, 0⟩,
  ⟨(some 47), .load false 1 (.t 46), none, 0⟩,
  ⟨(some 48), .mov (.t 7), none, 0⟩,
  ⟨(some 49), .mov (.t 7), none, 0⟩,
  ⟨(some 50), .bin .add (.t 49) (.k (.sc (.int .i64 1))), none, 0⟩,
  ⟨(some 51), .build [(.sc (.int .i64 0)), (.sc (.int .i64 0))] [(0, 1, (.t 48)), (1, 1, (.t 50))], none, 0⟩,
  ⟨(some 52), .buildSlice 2 1 [(.sc (.int .i64 0)), (.sc (.int .i64 0))] [(0, 2, (.t 51))], none, 0⟩,
  ⟨(some 53), .append 2 16 (.t 47) (.t 52), none, 0⟩,
  ⟨(some 54), .fieldAddr 1 (.t 6), none, 0⟩,
  ⟨none, .store 1 (.t 54) (.t 53), none, 0⟩]
def c_phasorref20_Grid_r8 : List AO := [⟨(some 55), .mov (.t 7), none, 0⟩,
  ⟨(some 56), .mov (.t 0), none, 0⟩,
  ⟨(some 57), .bin .add (.t 55) (.t 56), none, 0⟩,
  ⟨(some 58), .mov (.t 0), none, 0⟩,
  ⟨(some 59), .mov (.t 1), none, 0⟩,
  ⟨(some 60), .bin .mul (.t 58) (.t 59), none, 0⟩,
  ⟨(some 61), .bin .lss (.t 57) (.t 60), none, 0⟩]
def c_phasorref20_Grid_r9 : List AO := [⟨(some 62), .fieldAddr 1 (.t 6), none, 0⟩,
  ⟨(some 63), .load false 1 (.t 62), none, 0⟩,
  ⟨(some 64), .mov (.t 7), none, 0⟩,
  ⟨(some 65), .mov (.t 7), none, 0⟩,
  ⟨(some 66), .mov (.t 0), none, 0⟩,
  ⟨(some 67), .bin .add (.t 65) (.t 66), none, 0⟩,
  ⟨(some 68), .build [(.sc (.int .i64 0)), (.sc (.int .i64 0))] [(0, 1, (.t 64)), (1, 1, (.t 67))], none, 0⟩,
  ⟨(some 69), .buildSlice 2 1 [(.sc (.int .i64 0)), (.sc (.int .i64 0))] [(0, 2, (.t 68))], none, 0⟩,
  ⟨(some 70), .append 2 16 (.t 63) (.t 69), none, 0⟩,
  ⟨(some 71), .fieldAddr 1 (.t 6), none, 0⟩,
  ⟨none, .store 1 (.t 71) (.t 70), none, 0⟩]
def c_phasorref20_Grid_r10 : List AO := [⟨(some 38), .mov (.t 7), none, 0⟩,
  ⟨(some 39), .bin .add (.t 38) (.k (.sc (.int .i64 1))), none, 0⟩,
  ⟨(some 7), .mov (.t 39), none, 0⟩]
def c_phasorref20_Grid_l0 : AC := .seq (.seq (.reg c_phasorref20_Grid_r5 false) (.cond (.t 37) (.skip) (.exit 0))) (.seq (.blk 1 (.seq (.seq (.reg c_phasorref20_Grid_r6 false) (.cond (.t 45) (.reg c_phasorref20_Grid_r7 false) (.skip))) (.seq (.reg c_phasorref20_Grid_r8 false) (.cond (.t 61) (.reg c_phasorref20_Grid_r9 false) (.skip))))) (.reg c_phasorref20_Grid_r10 false))
def c_phasorref20_Grid_r11 : List AO := [⟨(some 72), .load true 2 (.t 6), none, 0⟩,
  ⟨none, .store 2 (.t 4) (.t 72), none, 0⟩,
  ⟨(some 5), .mov (.k (.sc (.int .i64 0))), none, 0⟩]
def c_phasorref20_Grid : AFn := { code := .seq (.reg c_phasorref20_Grid_r0 false) (.seq (.seq (.reg c_phasorref20_Grid_r1 false) (.cond (.t 27) (.seq (.reg c_phasorref20_Grid_r2 false) (.ret)) (.skip))) (.seq (.reg c_phasorref20_Grid_r3 false) (.seq (.seq (.reg c_phasorref20_Grid_r4 false) (.blk 0 (.loop c_phasorref20_Grid_l0))) (.seq (.reg c_phasorref20_Grid_r11 false) (.ret))))), ntmps := 73, results := [.cell true 2 4, .tmp 5] }
/-- 14 phasor/phasorref20.Right -/
def c_phasorref20_Right_r0 : List AO := [⟨(some 1), .box (.t 0), none, 0⟩,
  ⟨(some 2), .mov (.k (.sc (.bool false))), none, 0⟩]
def c_phasorref20_Right_r1 : List AO := [⟨(some 8), .fieldAddr 0 (.t 1), none, 0⟩,
  ⟨(some 9), .load false 1 (.t 8), none, 0⟩,
  ⟨(some 10), .bin .lss (.t 9) (.k (.sc (.int .i64 1))), none, 0⟩,
  ⟨(some 11), .mov (.t 10), none, 0⟩,
  ⟨(some 12), .fieldAddr 0 (.t 1), (some ((some 11), false)), 0⟩,
  ⟨(some 13), .load false 1 (.t 12), (some ((some 11), false)), 0⟩,
  ⟨(some 14), .bin .gtr (.t 13) (.k (.sc (.int .i64 64))), (some ((some 11), false)), 0⟩,
  ⟨(some 15), .pick (.t 11) (.k (.sc (.bool true))) (.t 14), none, 0⟩]
def c_phasorref20_Right_r2 : List AO := [⟨(some 2), .mov (.k (.sc (.bool false))), none, 0⟩]
def c_phasorref20_Right_r3 : List AO := [⟨(some 3), .mov (.k (.sc (.int .i64 0))), none, 0⟩]
def c_phasorref20_Right_r4 : List AO := [⟨(some 16), .mov (.t 3), none, 0⟩,
  ⟨(some 17), .fieldAddr 1 (.t 1), none, 0⟩,
  ⟨(some 18), .load false 1 (.t 17), none, 0⟩,
  ⟨(some 19), .len (.t 18), none, 0⟩,
  ⟨(some 20), .bin .lss (.t 16) (.t 19), none, 0⟩]
def c_phasorref20_Right_r5 : List AO := [⟨(some 23), .fieldAddr 1 (.t 1), none, 0⟩,
  ⟨(some 24), .load false 1 (.t 23), none, 1⟩,
  ⟨(some 25), .mov (.t 3), none, 0⟩,
  ⟨(some 26), .indexAddr none 2 (.t 24) (.t 25), none, 7⟩,
  ⟨(some 27), .indexAddr (some 2) 1 (.t 26) (.k (.sc (.int .i64 0))), none, 15⟩,
  ⟨(some 28), .load false 1 (.t 27), none, 31⟩,
  ⟨(some 29), .fieldAddr 1 (.t 1), none, 0⟩,
  ⟨(some 30), .load false 1 (.t 29), none, 64⟩,
  ⟨(some 31), .mov (.t 3), none, 0⟩,
  ⟨(some 32), .indexAddr none 2 (.t 30) (.t 31), none, 448⟩,
  ⟨(some 33), .indexAddr (some 2) 1 (.t 32) (.k (.sc (.int .i64 1))), none, 960⟩,
  ⟨(some 34), .load false 1 (.t 33), none, 1984⟩,
  ⟨(some 4), .mov (.t 28), none, 63⟩,
  ⟨(some 5), .mov (.t 34), none, 8191⟩]
def c_phasorref20_Right_r6 : List AO := [⟨(some 35), .mov (.t 4), none, 0⟩,
  ⟨(some 36), .bin .lss (.t 35) (.k (.sc (.int .i64 0))), none, 0⟩,
  ⟨(some 37), .mov (.t 36), none, 0⟩,
  ⟨(some 38), .mov (.t 4), (some ((some 37), false)), 0⟩,
  ⟨(some 39), .fieldAddr 0 (.t 1), (some ((some 37), false)), 0⟩,
  ⟨(some 40), .load false 1 (.t 39), (some ((some 37), false)), 0⟩,
  ⟨(some 41), .bin .geq (.t 38) (.t 40), (some ((some 37), false)), 0⟩,
  ⟨(some 42), .pick (.t 37) (.k (.sc (.bool true))) (.t 41), none, 0⟩,
  ⟨(some 43), .mov (.t 42), none, 0⟩,
  ⟨(some 44), .mov (.t 5), (some ((some 43), false)), 0⟩,
  ⟨(some 45), .bin .lss (.t 44) (.k (.sc (.int .i64 0))), (some ((some 43), false)), 0⟩,
  ⟨(some 46), .pick (.t 43) (.k (.sc (.bool true))) (.t 45), none, 0⟩,
  ⟨(some 47), .mov (.t 46), none, 0⟩,
  ⟨(some 48), .mov (.t 5), (some ((some 47), false)), 0⟩,
  ⟨(some 49), .fieldAddr 0 (.t 1), (some ((some 47), false)), 0⟩,
  ⟨(some 50), .load false 1 (.t 49), (some ((some 47), false)), 0⟩,
  ⟨(some 51), .bin .geq (.t 48) (.t 50), (some ((some 47), false)), 0⟩,
  ⟨(some 52), .pick (.t 47) (.k (.sc (.bool true))) (.t 51), none, 0⟩,
  ⟨(some 53), .mov (.t 52), none, 0⟩,
  ⟨(some 54), .mov (.t 4), (some ((some 53), false)), 0⟩,
  ⟨(some 55), .mov (.t 5), (some ((some 53), false)), 0⟩,
  ⟨(some 56), .bin .eql (.t 54) (.t 55), (some ((some 53), false)), 0⟩,
  ⟨(some 57), .pick (.t 53) (.k (.sc (.bool true))) (.t 56), none, 0⟩]
def c_phasorref20_Right_r7 : List AO := [⟨(some 2), .mov (.k (.sc (.bool false))), none, 0⟩]
def c_phasorref20_Right_r8 : List AO := [⟨(some 21), .mov (.t 3), none, 0⟩,
  ⟨(some 22), .bin .add (.t 21) (.k (.sc (.int .i64 1))), none, 0⟩,
  ⟨(some 3), .mov (.t 22), none, 0⟩]
def c_phasorref20_Right_l0 : AC := .seq (.seq (.reg c_phasorref20_Right_r4 false) (.cond (.t 20) (.skip) (.exit 0))) (.seq (.blk 1 (.seq (.reg c_phasorref20_Right_r5 true) (.seq (.reg c_phasorref20_Right_r6 false) (.cond (.t 57) (.seq (.reg c_phasorref20_Right_r7 false) (.ret)) (.skip))))) (.reg c_phasorref20_Right_r8 false))
def c_phasorref20_Right_r9 : List AO := [⟨(some 58), .load true 2 (.t 1), none, 0⟩,
  ⟨(some 59), .call (.k (.fn (.func f_phasorref20_far) [] [])) [(.t 58)], none, 0⟩,
  ⟨(some 6), .mov (.t 59), none, 0⟩]
def c_phasorref20_Right_r10 : List AO := [⟨(some 7), .mov (.k (.sc (.int .i64 0))), none, 0⟩]
def c_phasorref20_Right_r11 : List AO := [⟨(some 60), .mov (.t 7), none, 0⟩,
  ⟨(some 61), .fieldAddr 0 (.t 1), none, 0⟩,
  ⟨(some 62), .load false 1 (.t 61), none, 0⟩,
  ⟨(some 63), .bin .lss (.t 60) (.t 62), none, 0⟩]
def c_phasorref20_Right_r12 : List AO := [⟨(some 66), .mov (.t 6), none, 0⟩,
  ⟨(some 67), .indexAddr none 1 (.t 66) (.k (.sc (.int .i64 0))), none, 0⟩,
  ⟨(some 68), .load false 1 (.t 67), none, 0⟩,
  ⟨(some 69), .mov (.t 7), none, 0⟩,
  ⟨(some 70), .indexAddr none 1 (.t 68) (.t 69), none, 0⟩,
  ⟨(some 71), .load false 1 (.t 70), none, 0⟩,
  ⟨(some 72), .bin .lss (.t 71) (.k (.sc (.int .i64 0))), none, 0⟩]
def c_phasorref20_Right_r13 : List AO := [⟨(some 2), .mov (.k (.sc (.bool false))), none, 0⟩]
def c_phasorref20_Right_r14 : List AO := [⟨(some 64), .mov (.t 7), none, 0⟩,
  ⟨(some 65), .bin .add (.t 64) (.k (.sc (.int .i64 1))), none, 0⟩,
  ⟨(some 7), .mov (.t 65), none, 0⟩]
def c_phasorref20_Right_l1 : AC := .seq (.seq (.reg c_phasorref20_Right_r11 false) (.cond (.t 63) (.skip) (.exit 2))) (.seq (.blk 3 (.seq (.reg c_phasorref20_Right_r12 false) (.cond (.t 72) (.seq (.reg c_phasorref20_Right_r13 false) (.ret)) (.skip)))) (.reg c_phasorref20_Right_r14 false))
def c_phasorref20_Right_r15 : List AO := [⟨(some 2), .mov (.k (.sc (.bool true))), none, 0⟩]
def c_phasorref20_Right : AFn := { code := .seq (.reg c_phasorref20_Right_r0 false) (.seq (.seq (.reg c_phasorref20_Right_r1 false) (.cond (.t 15) (.seq (.reg c_phasorref20_Right_r2 false) (.ret)) (.skip))) (.seq (.seq (.reg c_phasorref20_Right_r3 false) (.blk 0 (.loop c_phasorref20_Right_l0))) (.seq (.reg c_phasorref20_Right_r9 false) (.seq (.seq (.reg c_phasorref20_Right_r10 false) (.blk 2 (.loop c_phasorref20_Right_l1))) (.seq (.reg c_phasorref20_Right_r15 false) (.ret)))))), ntmps := 73, results := [.tmp 2] }
/-- 15 phasor/phasorlaw20.num -/
def c_phasorlaw20_num_r0 : List AO := [⟨(some 2), .mov (.k (.sc (.int .i64 0))), none, 0⟩]
def c_phasorlaw20_num_r1 : List AO := [⟨(some 3), .mov (.t 0), none, 0⟩,
  ⟨(some 2), .mov (.t 3), none, 0⟩]
def c_phasorlaw20_num : AFn := { code := .seq (.reg c_phasorlaw20_num_r0 false) (.seq (.reg c_phasorlaw20_num_r1 false) (.ret)), ntmps := 4, results := [.tmp 2] }
/-- 16 phasor/route.Check -/
def c_route_Check_r0 : List AO := [⟨(some 1), .box (.t 0), none, 0⟩,
  ⟨(some 2), .mov (.k (.sc (.int .i64 0))), none, 0⟩]
def c_route_Check_r1 : List AO := [⟨(some 5), .fieldAddr 0 (.t 1), none, 0⟩,
  ⟨(some 6), .load false 1 (.t 5), none, 0⟩,
  ⟨(some 7), .bin .lss (.t 6) (.k (.sc (.int .i64 1))), none, 0⟩,
  ⟨(some 8), .mov (.t 7), none, 0⟩,
  ⟨(some 9), .fieldAddr 0 (.t 1), (some ((some 8), false)), 0⟩,
  ⟨(some 10), .load false 1 (.t 9), (some ((some 8), false)), 0⟩,
  ⟨(some 11), .bin .gtr (.t 10) (.k (.sc (.int .i64 64))), (some ((some 8), false)), 0⟩,
  ⟨(some 12), .pick (.t 8) (.k (.sc (.bool true))) (.t 11), none, 0⟩]
def c_route_Check_r2 : List AO := [⟨(some 2), .mov (.k (.sc (.int .i64 200))), none, 0⟩]
def c_route_Check_r3 : List AO := [⟨(some 13), .fieldAddr 1 (.t 1), none, 0⟩,
  ⟨(some 14), .load false 1 (.t 13), none, 0⟩,
  ⟨(some 15), .len (.t 14), none, 0⟩,
  ⟨(some 16), .mov (.k (.sc (.int .i64 0))), none, 0⟩]
def c_route_Check_r4 : List AO := [⟨(some 17), .bin .lss (.t 16) (.t 15), none, 0⟩]
def c_route_Check_r5 : List AO := [⟨(some 18), .indexAddr none 2 (.t 14) (.t 16), none, 0⟩,
  ⟨(some 19), .load true 2 (.t 18), none, 0⟩,
  ⟨(some 4), .alloc [(.sc (.int .i64 0)), (.sc (.int .i64 0))], none, 0⟩,
  ⟨none, .store 2 (.t 4) (.t 19), none, 0⟩]
def c_route_Check_r6 : List AO := [⟨(some 20), .indexAddr (some 2) 1 (.t 4) (.k (.sc (.int .i64 0))), none, 0⟩,
  ⟨(some 21), .load false 1 (.t 20), none, 0⟩,
  ⟨(some 22), .bin .lss (.t 21) (.k (.sc (.int .i64 0))), none, 0⟩,
  ⟨(some 23), .mov (.t 22), none, 0⟩,
  ⟨(some 24), .indexAddr (some 2) 1 (.t 4) (.k (.sc (.int .i64 0))), (some ((some 23), false)), 0⟩,
  ⟨(some 25), .load false 1 (.t 24), (some ((some 23), false)), 0⟩,
  ⟨(some 26), .fieldAddr 0 (.t 1), (some ((some 23), false)), 0⟩,
  ⟨(some 27), .load false 1 (.t 26), (some ((some 23), false)), 0⟩,
  ⟨(some 28), .bin .geq (.t 25) (.t 27), (some ((some 23), false)), 0⟩,
  ⟨(some 29), .pick (.t 23) (.k (.sc (.bool true))) (.t 28), none, 0⟩,
  ⟨(some 30), .mov (.t 29), none, 0⟩,
  ⟨(some 31), .indexAddr (some 2) 1 (.t 4) (.k (.sc (.int .i64 1))), (some ((some 30), false)), 0⟩,
  ⟨(some 32), .load false 1 (.t 31), (some ((some 30), false)), 0⟩,
  ⟨(some 33), .bin .lss (.t 32) (.k (.sc (.int .i64 0))), (some ((some 30), false)), 0⟩,
  ⟨(some 34), .pick (.t 30) (.k (.sc (.bool true))) (.t 33), none, 0⟩,
  ⟨(some 35), .mov (.t 34), none, 0⟩,
  ⟨(some 36), .indexAddr (some 2) 1 (.t 4) (.k (.sc (.int .i64 1))), (some ((some 35), false)), 0⟩,
  ⟨(some 37), .load false 1 (.t 36), (some ((some 35), false)), 0⟩,
  ⟨(some 38), .fieldAddr 0 (.t 1), (some ((some 35), false)), 0⟩,
  ⟨(some 39), .load false 1 (.t 38), (some ((some 35), false)), 0⟩,
  ⟨(some 40), .bin .geq (.t 37) (.t 39), (some ((some 35), false)), 0⟩,
  ⟨(some 41), .pick (.t 35) (.k (.sc (.bool true))) (.t 40), none, 0⟩,
  ⟨(some 42), .mov (.t 41), none, 0⟩,
  ⟨(some 43), .indexAddr (some 2) 1 (.t 4) (.k (.sc (.int .i64 0))), (some ((some 42), false)), 0⟩,
  ⟨(some 44), .load false 1 (.t 43), (some ((some 42), false)), 0⟩,
  ⟨(some 45), .indexAddr (some 2) 1 (.t 4) (.k (.sc (.int .i64 1))), (some ((some 42), false)), 0⟩,
  ⟨(some 46), .load false 1 (.t 45), (some ((some 42), false)), 0⟩,
  ⟨(some 47), .bin .eql (.t 44) (.t 46), (some ((some 42), false)), 0⟩,
  ⟨(some 48), .pick (.t 42) (.k (.sc (.bool true))) (.t 47), none, 0⟩]
def c_route_Check_r7 : List AO := [⟨(some 2), .mov (.k (.sc (.int .i64 200))), none, 0⟩]
def c_route_Check_r8 : List AO := [⟨(some 49), .bin .add (.t 16) (.k (.sc (.int .i64 1))), none, 0⟩,
  ⟨(some 16), .mov (.t 49), none, 0⟩]
def c_route_Check_l0 : AC := .seq (.reg c_route_Check_r4 false) (.seq (.cond (.t 17) (.skip) (.exit 0)) (.seq (.blk 1 (.seq (.reg c_route_Check_r5 false) (.seq (.reg c_route_Check_r6 false) (.cond (.t 48) (.seq (.reg c_route_Check_r7 false) (.ret)) (.skip))))) (.reg c_route_Check_r8 false)))
def c_route_Check_r9 : List AO := [⟨(some 50), .load true 2 (.t 1), none, 0⟩,
  ⟨(some 51), .call (.k (.fn (.func f_route_near) [] [])) [(.t 50)], none, 0⟩,
  ⟨(some 52), .call (.k (.fn (.func f_route_steps) [] [])) [(.t 51), (.k (.sc (.int .i64 0)))], none, 0⟩,
  ⟨(some 53), .call (.k (.fn (.func f_slices_Contains_int_int) [] [])) [(.t 52), (.k (.sc (.int .i64 (-1))))], none, 0⟩]
def c_route_Check_r10 : List AO := [⟨(some 2), .mov (.k (.sc (.int .i64 200))), none, 0⟩]
def c_route_Check_r11 : List AO := [⟨(some 2), .mov (.k (.sc (.int .i64 0))), none, 0⟩]
def c_route_Check : AFn := { code := .seq (.reg c_route_Check_r0 false) (.seq (.seq (.reg c_route_Check_r1 false) (.cond (.t 12) (.seq (.reg c_route_Check_r2 false) (.ret)) (.skip))) (.seq (.seq (.reg c_route_Check_r3 false) (.blk 0 (.loop c_route_Check_l0))) (.seq (.seq (.reg c_route_Check_r9 false) (.cond (.t 53) (.seq (.reg c_route_Check_r10 false) (.ret)) (.skip))) (.seq (.reg c_route_Check_r11 false) (.ret))))), ntmps := 54, results := [.tmp 2] }
/-- 17 phasor/phasorlaw20.same -/
def c_phasorlaw20_same_r0 : List AO := [⟨(some 2), .box (.t 0), none, 0⟩,
  ⟨(some 3), .box (.t 1), none, 0⟩,
  ⟨(some 4), .mov (.k (.sc (.bool false))), none, 0⟩]
def c_phasorlaw20_same_r1 : List AO := [⟨(some 6), .fieldAddr 0 (.t 2), none, 0⟩,
  ⟨(some 7), .load false 1 (.t 6), none, 0⟩,
  ⟨(some 8), .fieldAddr 0 (.t 3), none, 0⟩,
  ⟨(some 9), .load false 1 (.t 8), none, 0⟩,
  ⟨(some 10), .bin .neq (.t 7) (.t 9), none, 0⟩,
  ⟨(some 11), .mov (.t 10), none, 0⟩,
  ⟨(some 12), .fieldAddr 1 (.t 2), (some ((some 11), false)), 0⟩,
  ⟨(some 13), .load false 1 (.t 12), (some ((some 11), false)), 0⟩,
  ⟨(some 14), .len (.t 13), (some ((some 11), false)), 0⟩,
  ⟨(some 15), .fieldAddr 1 (.t 3), (some ((some 11), false)), 0⟩,
  ⟨(some 16), .load false 1 (.t 15), (some ((some 11), false)), 0⟩,
  ⟨(some 17), .len (.t 16), (some ((some 11), false)), 0⟩,
  ⟨(some 18), .bin .neq (.t 14) (.t 17), (some ((some 11), false)), 0⟩,
  ⟨(some 19), .pick (.t 11) (.k (.sc (.bool true))) (.t 18), none, 0⟩]
def c_phasorlaw20_same_r2 : List AO := [⟨(some 4), .mov (.k (.sc (.bool false))), none, 0⟩]
def c_phasorlaw20_same_r3 : List AO := [⟨(some 5), .mov (.k (.sc (.int .i64 0))), none, 0⟩]
def c_phasorlaw20_same_r4 : List AO := [⟨(some 20), .mov (.t 5), none, 0⟩,
  ⟨(some 21), .fieldAddr 1 (.t 2), none, 0⟩,
  ⟨(some 22), .load false 1 (.t 21), none, 0⟩,
  ⟨(some 23), .len (.t 22), none, 0⟩,
  ⟨(some 24), .bin .lss (.t 20) (.t 23), none, 0⟩]
def c_phasorlaw20_same_r5 : List AO := [⟨(some 27), .fieldAddr 1 (.t 2), none, 0⟩,
  ⟨(some 28), .load false 1 (.t 27), none, 1⟩,
  ⟨(some 29), .mov (.t 5), none, 0⟩,
  ⟨(some 30), .indexAddr none 2 (.t 28) (.t 29), none, 7⟩,
  ⟨(some 31), .load true 2 (.t 30), none, 15⟩,
  ⟨(some 32), .fieldAddr 1 (.t 3), none, 0⟩,
  ⟨(some 33), .load false 1 (.t 32), none, 32⟩,
  ⟨(some 34), .mov (.t 5), none, 0⟩,
  ⟨(some 35), .indexAddr none 2 (.t 33) (.t 34), none, 224⟩,
  ⟨(some 36), .load true 2 (.t 35), none, 480⟩,
  ⟨(some 37), .eqAgg true [.int, .int] (.t 31) (.t 36), none, 1023⟩]
def c_phasorlaw20_same_r6 : List AO := [⟨(some 4), .mov (.k (.sc (.bool false))), none, 0⟩]
def c_phasorlaw20_same_r7 : List AO := [⟨(some 25), .mov (.t 5), none, 0⟩,
  ⟨(some 26), .bin .add (.t 25) (.k (.sc (.int .i64 1))), none, 0⟩,
  ⟨(some 5), .mov (.t 26), none, 0⟩]
def c_phasorlaw20_same_l0 : AC := .seq (.seq (.reg c_phasorlaw20_same_r4 false) (.cond (.t 24) (.skip) (.exit 0))) (.seq (.blk 1 (.seq (.reg c_phasorlaw20_same_r5 true) (.cond (.t 37) (.seq (.reg c_phasorlaw20_same_r6 false) (.ret)) (.skip)))) (.reg c_phasorlaw20_same_r7 false))
def c_phasorlaw20_same_r8 : List AO := [⟨(some 4), .mov (.k (.sc (.bool true))), none, 0⟩]
def c_phasorlaw20_same : AFn := { code := .seq (.reg c_phasorlaw20_same_r0 false) (.seq (.seq (.reg c_phasorlaw20_same_r1 false) (.cond (.t 19) (.seq (.reg c_phasorlaw20_same_r2 false) (.ret)) (.skip))) (.seq (.seq (.reg c_phasorlaw20_same_r3 false) (.blk 0 (.loop c_phasorlaw20_same_l0))) (.seq (.reg c_phasorlaw20_same_r8 false) (.ret)))), ntmps := 38, results := [.tmp 4] }
/-- 18 phasor/phasorlaw20.alive -/
def c_phasorlaw20_alive_r0 : List AO := [⟨(some 0), .mov (.k (.sc (.bool false))), none, 0⟩]
def c_phasorlaw20_alive_r1 : List AO := [⟨(some 19), .call (.k (.fn (.func f_route_Line) [] [])) [(.k (.sc (.int .i64 4)))], none, 0⟩,
  ⟨(some 18), .mov (.t 19), none, 0⟩,
  ⟨(some 20), .extract (.t 18) 0, none, 0⟩,
  ⟨(some 21), .extract (.t 18) 1, none, 0⟩,
  ⟨(some 1), .alloc [(.sc (.int .i64 0)), (.sc (.slice none 0 0))], none, 0⟩,
  ⟨none, .store 2 (.t 1) (.t 20), none, 0⟩,
  ⟨(some 2), .mov (.t 21), none, 0⟩]
def c_phasorlaw20_alive_r2 : List AO := [⟨(some 22), .buildSlice 1 2 [(.sc (.int .i64 0)), (.sc (.int .i64 0))] [(0, 1, (.k (.sc (.int .i64 0)))), (1, 1, (.k (.sc (.int .i64 3))))], none, 0⟩,
  ⟨(some 23), .build [(.sc (.int .i64 0)), (.sc (.int .i64 0)), (.sc (.slice none 0 0)), (.sc (.int .i64 0)), (.sc (.int .i64 0)), (.sc (.int .i64 0))] [(0, 1, (.k (.sc (.int .i64 1)))), (1, 1, (.k (.sc (.int .i64 11)))), (2, 1, (.t 22)), (4, 1, (.k (.sc (.int .i64 (-1)))))], none, 0⟩,
  ⟨(some 24), .buildSlice 6 1 [(.sc (.int .i64 0)), (.sc (.int .i64 0)), (.sc (.slice none 0 0)), (.sc (.int .i64 0)), (.sc (.int .i64 0)), (.sc (.int .i64 0))] [(0, 6, (.t 23))], none, 0⟩,
  ⟨(some 25), .build [(.sc (.int .i64 0)), (.sc (.int .i64 0)), (.sc (.slice none 0 0))] [(0, 1, (.k (.sc (.int .i64 4)))), (2, 1, (.t 24))], none, 0⟩,
  ⟨(some 3), .alloc [(.sc (.int .i64 0)), (.sc (.int .i64 0)), (.sc (.slice none 0 0))], none, 0⟩,
  ⟨none, .store 3 (.t 3) (.t 25), none, 0⟩]
def c_phasorlaw20_alive_r3 : List AO := [⟨(some 27), .load true 3 (.t 3), none, 0⟩,
  ⟨(some 28), .load true 2 (.t 1), none, 0⟩,
  ⟨(some 29), .call (.k (.fn (.func f_route_Route) [] [])) [(.t 27), (.t 28)], none, 0⟩,
  ⟨(some 26), .mov (.t 29), none, 0⟩,
  ⟨(some 30), .extract (.t 26) 0, none, 0⟩,
  ⟨(some 31), .extract (.t 26) 1, none, 0⟩,
  ⟨(some 4), .alloc [(.sc (.int .i64 0)), (.sc (.int .i64 0)), (.sc (.slice none 0 0)), (.sc (.slice none 0 0)), (.sc (.int .i64 0))], none, 0⟩,
  ⟨none, .store 5 (.t 4) (.t 30), none, 0⟩,
  ⟨(some 5), .mov (.t 31), none, 0⟩]
def c_phasorlaw20_alive_r4 : List AO := [⟨(some 33), .load true 5 (.t 4), none, 0⟩,
  ⟨(some 34), .load true 2 (.t 1), none, 0⟩,
  ⟨(some 35), .call (.k (.fn (.func f_route_Home) [] [])) [(.t 33), (.t 34)], none, 0⟩,
  ⟨(some 32), .mov (.t 35), none, 0⟩,
  ⟨(some 36), .extract (.t 32) 0, none, 0⟩,
  ⟨(some 37), .extract (.t 32) 1, none, 0⟩,
  ⟨(some 6), .alloc [(.sc (.int .i64 0)), (.sc (.int .i64 0)), (.sc (.slice none 0 0)), (.sc (.slice none 0 0)), (.sc (.int .i64 0))], none, 0⟩,
  ⟨none, .store 5 (.t 6) (.t 36), none, 0⟩,
  ⟨(some 7), .mov (.t 37), none, 0⟩]
def c_phasorlaw20_alive_r5 : List AO := [⟨(some 39), .load true 2 (.t 1), none, 0⟩,
  ⟨(some 40), .call (.k (.fn (.func f_route_Path) [] [])) [(.t 39), (.k (.sc (.int .i64 0))), (.k (.sc (.int .i64 3)))], none, 0⟩,
  ⟨(some 38), .mov (.t 40), none, 0⟩,
  ⟨(some 41), .extract (.t 38) 0, none, 0⟩,
  ⟨(some 42), .extract (.t 38) 1, none, 0⟩,
  ⟨(some 8), .mov (.t 41), none, 0⟩,
  ⟨(some 9), .mov (.t 42), none, 0⟩]
def c_phasorlaw20_alive_r6 : List AO := [⟨(some 44), .load true 2 (.t 1), none, 0⟩,
  ⟨(some 45), .call (.k (.fn (.func f_route_Far) [] [])) [(.t 44)], none, 0⟩,
  ⟨(some 43), .mov (.t 45), none, 0⟩,
  ⟨(some 46), .extract (.t 43) 0, none, 0⟩,
  ⟨(some 47), .extract (.t 43) 1, none, 0⟩,
  ⟨(some 10), .mov (.t 46), none, 0⟩,
  ⟨(some 11), .mov (.t 47), none, 0⟩]
def c_phasorlaw20_alive_r7 : List AO := [⟨(some 49), .fieldAddr 0 (.t 4), none, 0⟩,
  ⟨(some 50), .load true 3 (.t 49), none, 0⟩,
  ⟨(some 51), .load true 2 (.t 1), none, 0⟩,
  ⟨(some 52), .call (.k (.fn (.func f_route_Fits) [] [])) [(.t 50), (.t 51)], none, 0⟩,
  ⟨(some 48), .mov (.t 52), none, 0⟩,
  ⟨(some 53), .extract (.t 48) 0, none, 0⟩,
  ⟨(some 54), .extract (.t 48) 1, none, 0⟩,
  ⟨(some 12), .mov (.t 53), none, 0⟩,
  ⟨(some 13), .mov (.t 54), none, 0⟩]
def c_phasorlaw20_alive_r8 : List AO := [⟨(some 56), .call (.k (.fn (.func f_route_Grid) [] [])) [(.k (.sc (.int .i64 2))), (.k (.sc (.int .i64 2)))], none, 0⟩,
  ⟨(some 55), .mov (.t 56), none, 0⟩,
  ⟨(some 57), .extract (.t 55) 0, none, 0⟩,
  ⟨(some 58), .extract (.t 55) 1, none, 0⟩,
  ⟨(some 14), .alloc [(.sc (.int .i64 0)), (.sc (.slice none 0 0))], none, 0⟩,
  ⟨none, .store 2 (.t 14) (.t 57), none, 0⟩,
  ⟨(some 15), .mov (.t 58), none, 0⟩]
def c_phasorlaw20_alive_r9 : List AO := [⟨(some 60), .call (.k (.fn (.func f_route_Ring) [] [])) [(.k (.sc (.int .i64 2)))], none, 0⟩,
  ⟨(some 59), .mov (.t 60), none, 0⟩,
  ⟨(some 61), .extract (.t 59) 0, none, 0⟩,
  ⟨(some 62), .extract (.t 59) 1, none, 0⟩,
  ⟨(some 16), .alloc [(.sc (.int .i64 0)), (.sc (.slice none 0 0))], none, 0⟩,
  ⟨none, .store 2 (.t 16) (.t 61), none, 0⟩,
  ⟨(some 17), .mov (.t 62), none, 0⟩]
def c_phasorlaw20_alive_r10 : List AO := [⟨(some 63), .mov (.t 2), none, 0⟩,
  ⟨(some 64), .call (.k (.fn (.func f_phasorlaw20_num) [] [])) [(.t 63)], none, 0⟩,
  ⟨(some 65), .bin .eql (.t 64) (.k (.sc (.int .i64 0))), none, 0⟩,
  ⟨(some 66), .mov (.t 65), none, 0⟩,
  ⟨(some 67), .fieldAddr 1 (.t 1), (some ((some 66), true)), 0⟩,
  ⟨(some 68), .load false 1 (.t 67), (some ((some 66), true)), 0⟩,
  ⟨(some 69), .len (.t 68), (some ((some 66), true)), 0⟩,
  ⟨(some 70), .bin .eql (.t 69) (.k (.sc (.int .i64 3))), (some ((some 66), true)), 0⟩,
  ⟨(some 71), .pick (.t 66) (.t 70) (.k (.sc (.bool false))), none, 0⟩,
  ⟨(some 72), .mov (.t 71), none, 0⟩,
  ⟨(some 73), .mov (.t 5), (some ((some 72), true)), 0⟩,
  ⟨(some 74), .call (.k (.fn (.func f_phasorlaw20_num) [] [])) [(.t 73)], (some ((some 72), true)), 0⟩,
  ⟨(some 75), .bin .eql (.t 74) (.k (.sc (.int .i64 0))), (some ((some 72), true)), 0⟩,
  ⟨(some 76), .pick (.t 72) (.t 75) (.k (.sc (.bool false))), none, 0⟩,
  ⟨(some 77), .mov (.t 76), none, 0⟩,
  ⟨(some 78), .fieldAddr 4 (.t 4), (some ((some 77), true)), 0⟩,
  ⟨(some 79), .load false 1 (.t 78), (some ((some 77), true)), 0⟩,
  ⟨(some 80), .bin .eql (.t 79) (.k (.sc (.int .i64 2))), (some ((some 77), true)), 0⟩,
  ⟨(some 81), .pick (.t 77) (.t 80) (.k (.sc (.bool false))), none, 0⟩,
  ⟨(some 82), .mov (.t 81), none, 0⟩,
  ⟨(some 83), .fieldAddr 3 (.t 4), (some ((some 82), true)), 0⟩,
  ⟨(some 84), .load false 1 (.t 83), (some ((some 82), true)), 0⟩,
  ⟨(some 85), .len (.t 84), (some ((some 82), true)), 0⟩,
  ⟨(some 86), .bin .eql (.t 85) (.k (.sc (.int .i64 4))), (some ((some 82), true)), 0⟩,
  ⟨(some 87), .pick (.t 82) (.t 86) (.k (.sc (.bool false))), none, 0⟩,
  ⟨(some 88), .mov (.t 87), none, 0⟩,
  ⟨(some 89), .fieldAddr 3 (.t 4), (some ((some 88), true)), 0⟩,
  ⟨(some 90), .load false 1 (.t 89), (some ((some 88), true)), 0⟩,
  ⟨(some 91), .indexAddr none 1 (.t 90) (.k (.sc (.int .i64 0))), (some ((some 88), true)), 0⟩,
  ⟨(some 92), .load false 1 (.t 91), (some ((some 88), true)), 0⟩,
  ⟨(some 93), .bin .eql (.t 92) (.k (.sc (.int .i64 2))), (some ((some 88), true)), 0⟩,
  ⟨(some 94), .pick (.t 88) (.t 93) (.k (.sc (.bool false))), none, 0⟩,
  ⟨(some 95), .mov (.t 94), none, 0⟩,
  ⟨(some 96), .fieldAddr 3 (.t 4), (some ((some 95), true)), 0⟩,
  ⟨(some 97), .load false 1 (.t 96), (some ((some 95), true)), 0⟩,
  ⟨(some 98), .indexAddr none 1 (.t 97) (.k (.sc (.int .i64 1))), (some ((some 95), true)), 0⟩,
  ⟨(some 99), .load false 1 (.t 98), (some ((some 95), true)), 0⟩,
  ⟨(some 100), .bin .eql (.t 99) (.k (.sc (.int .i64 0))), (some ((some 95), true)), 0⟩,
  ⟨(some 101), .pick (.t 95) (.t 100) (.k (.sc (.bool false))), none, 0⟩,
  ⟨(some 102), .mov (.t 101), none, 0⟩,
  ⟨(some 103), .fieldAddr 0 (.t 4), (some ((some 102), true)), 0⟩,
  ⟨(some 104), .fieldAddr 2 (.t 103), (some ((some 102), true)), 0⟩,
  ⟨(some 105), .load false 1 (.t 104), (some ((some 102), true)), 0⟩,
  ⟨(some 106), .len (.t 105), (some ((some 102), true)), 0⟩,
  ⟨(some 107), .bin .eql (.t 106) (.k (.sc (.int .i64 3))), (some ((some 102), true)), 0⟩,
  ⟨(some 108), .pick (.t 102) (.t 107) (.k (.sc (.bool false))), none, 0⟩,
  ⟨(some 109), .mov (.t 108), none, 0⟩,
  ⟨(some 110), .mov (.t 7), (some ((some 109), true)), 0⟩,
  ⟨(some 111), .call (.k (.fn (.func f_phasorlaw20_num) [] [])) [(.t 110)], (some ((some 109), true)), 0⟩,
  ⟨(some 112), .bin .eql (.t 111) (.k (.sc (.int .i64 0))), (some ((some 109), true)), 0⟩,
  ⟨(some 113), .pick (.t 109) (.t 112) (.k (.sc (.bool false))), none, 0⟩,
  ⟨(some 114), .mov (.t 113), none, 0⟩,
  ⟨(some 115), .fieldAddr 3 (.t 6), (some ((some 114), true)), 0⟩,
  ⟨(some 116), .load false 1 (.t 115), (some ((some 114), true)), 0⟩,
  ⟨(some 117), .len (.t 116), (some ((some 114), true)), 0⟩,
  ⟨(some 118), .bin .eql (.t 117) (.k (.sc (.int .i64 4))), (some ((some 114), true)), 0⟩,
  ⟨(some 119), .pick (.t 114) (.t 118) (.k (.sc (.bool false))), none, 0⟩,
  ⟨(some 120), .mov (.t 119), none, 0⟩,
  ⟨(some 121), .fieldAddr 3 (.t 6), (some ((some 120), true)), 0⟩,
  ⟨(some 122), .load false 1 (.t 121), (some ((some 120), true)), 0⟩,
  ⟨(some 123), .indexAddr none 1 (.t 122) (.k (.sc (.int .i64 0))), (some ((some 120), true)), 0⟩,
  ⟨(some 124), .load false 1 (.t 123), (some ((some 120), true)), 0⟩,
  ⟨(some 125), .bin .eql (.t 124) (.k (.sc (.int .i64 0))), (some ((some 120), true)), 0⟩,
  ⟨(some 126), .pick (.t 120) (.t 125) (.k (.sc (.bool false))), none, 0⟩,
  ⟨(some 127), .mov (.t 126), none, 0⟩,
  ⟨(some 128), .fieldAddr 3 (.t 6), (some ((some 127), true)), 0⟩,
  ⟨(some 129), .load false 1 (.t 128), (some ((some 127), true)), 0⟩,
  ⟨(some 130), .indexAddr none 1 (.t 129) (.k (.sc (.int .i64 2))), (some ((some 127), true)), 0⟩,
  ⟨(some 131), .load false 1 (.t 130), (some ((some 127), true)), 0⟩,
  ⟨(some 132), .bin .eql (.t 131) (.k (.sc (.int .i64 2))), (some ((some 127), true)), 0⟩,
  ⟨(some 133), .pick (.t 127) (.t 132) (.k (.sc (.bool false))), none, 0⟩,
  ⟨(some 134), .mov (.t 133), none, 0⟩,
  ⟨(some 135), .mov (.t 9), (some ((some 134), true)), 0⟩,
  ⟨(some 136), .call (.k (.fn (.func f_phasorlaw20_num) [] [])) [(.t 135)], (some ((some 134), true)), 0⟩,
  ⟨(some 137), .bin .eql (.t 136) (.k (.sc (.int .i64 0))), (some ((some 134), true)), 0⟩,
  ⟨(some 138), .pick (.t 134) (.t 137) (.k (.sc (.bool false))), none, 0⟩,
  ⟨(some 139), .mov (.t 138), none, 0⟩,
  ⟨(some 140), .mov (.t 8), (some ((some 139), true)), 0⟩,
  ⟨(some 141), .len (.t 140), (some ((some 139), true)), 0⟩,
  ⟨(some 142), .bin .eql (.t 141) (.k (.sc (.int .i64 4))), (some ((some 139), true)), 0⟩,
  ⟨(some 143), .pick (.t 139) (.t 142) (.k (.sc (.bool false))), none, 0⟩,
  ⟨(some 144), .mov (.t 143), none, 0⟩,
  ⟨(some 145), .mov (.t 11), (some ((some 144), true)), 0⟩,
  ⟨(some 146), .call (.k (.fn (.func f_phasorlaw20_num) [] [])) [(.t 145)], (some ((some 144), true)), 0⟩,
  ⟨(some 147), .bin .eql (.t 146) (.k (.sc (.int .i64 0))), (some ((some 144), true)), 0⟩,
  ⟨(some 148), .pick (.t 144) (.t 147) (.k (.sc (.bool false))), none, 0⟩,
  ⟨(some 149), .mov (.t 148), none, 0⟩,
  ⟨(some 150), .mov (.t 10), (some ((some 149), true)), 0⟩,
  ⟨(some 151), .len (.t 150), (some ((some 149), true)), 0⟩,
  ⟨(some 152), .bin .eql (.t 151) (.k (.sc (.int .i64 4))), (some ((some 149), true)), 0⟩,
  ⟨(some 153), .pick (.t 149) (.t 152) (.k (.sc (.bool false))), none, 0⟩,
  ⟨(some 154), .mov (.t 153), none, 0⟩,
  ⟨(some 155), .mov (.t 10), (some ((some 154), true)), 0⟩,
  ⟨(some 156), .indexAddr none 1 (.t 155) (.k (.sc (.int .i64 0))), (some ((some 154), true)), 0⟩,
  ⟨(some 157), .load false 1 (.t 156), (some ((some 154), true)), 0⟩,
  ⟨(some 158), .len (.t 157), (some ((some 154), true)), 0⟩,
  ⟨(some 159), .bin .eql (.t 158) (.k (.sc (.int .i64 4))), (some ((some 154), true)), 0⟩,
  ⟨(some 160), .pick (.t 154) (.t 159) (.k (.sc (.bool false))), none, 0⟩,
  ⟨(some 161), .mov (.t 160), none, 0⟩,
  ⟨(some 162), .mov (.t 10), (some ((some 161), true)), 0⟩,
  ⟨(some 163), .indexAddr none 1 (.t 162) (.k (.sc (.int .i64 0))), (some ((some 161), true)), 0⟩,
  ⟨(some 164), .load false 1 (.t 163), (some ((some 161), true)), 0⟩,
  ⟨(some 165), .indexAddr none 1 (.t 164) (.k (.sc (.int .i64 3))), (some ((some 161), true)), 0⟩,
  ⟨(some 166), .load false 1 (.t 165), (some ((some 161), true)), 0⟩,
  ⟨(some 167), .bin .eql (.t 166) (.k (.sc (.int .i64 3))), (some ((some 161), true)), 0⟩,
  ⟨(some 168), .pick (.t 161) (.t 167) (.k (.sc (.bool false))), none, 0⟩,
  ⟨(some 169), .mov (.t 168), none, 0⟩,
  ⟨(some 170), .mov (.t 12), (some ((some 169), true)), 0⟩,
  ⟨(some 171), .pick (.t 169) (.t 170) (.k (.sc (.bool false))), none, 0⟩,
  ⟨(some 172), .mov (.t 171), none, 0⟩,
  ⟨(some 173), .mov (.t 13), (some ((some 172), true)), 0⟩,
  ⟨(some 174), .call (.k (.fn (.func f_phasorlaw20_num) [] [])) [(.t 173)], (some ((some 172), true)), 0⟩,
  ⟨(some 175), .bin .eql (.t 174) (.k (.sc (.int .i64 0))), (some ((some 172), true)), 0⟩,
  ⟨(some 176), .pick (.t 172) (.t 175) (.k (.sc (.bool false))), none, 0⟩,
  ⟨(some 177), .mov (.t 176), none, 0⟩,
  ⟨(some 178), .mov (.t 15), (some ((some 177), true)), 0⟩,
  ⟨(some 179), .call (.k (.fn (.func f_phasorlaw20_num) [] [])) [(.t 178)], (some ((some 177), true)), 0⟩,
  ⟨(some 180), .bin .eql (.t 179) (.k (.sc (.int .i64 0))), (some ((some 177), true)), 0⟩,
  ⟨(some 181), .pick (.t 177) (.t 180) (.k (.sc (.bool false))), none, 0⟩,
  ⟨(some 182), .mov (.t 181), none, 0⟩,
  ⟨(some 183), .fieldAddr 1 (.t 14), (some ((some 182), true)), 0⟩,
  ⟨(some 184), .load false 1 (.t 183), (some ((some 182), true)), 0⟩,
  ⟨(some 185), .len (.t 184), (some ((some 182), true)), 0⟩,
  ⟨(some 186), .bin .eql (.t 185) (.k (.sc (.int .i64 4))), (some ((some 182), true)), 0⟩,
  ⟨(some 187), .pick (.t 182) (.t 186) (.k (.sc (.bool false))), none, 0⟩,
  ⟨(some 188), .mov (.t 187), none, 0⟩,
  ⟨(some 189), .fieldAddr 1 (.t 14), (some ((some 188), true)), 0⟩,
  ⟨(some 190), .load false 1 (.t 189), (some ((some 188), true)), 0⟩,
  ⟨(some 191), .indexAddr none 2 (.t 190) (.k (.sc (.int .i64 2))), (some ((some 188), true)), 0⟩,
  ⟨(some 192), .load true 2 (.t 191), (some ((some 188), true)), 0⟩,
  ⟨(some 193), .build [(.sc (.int .i64 0)), (.sc (.int .i64 0))] [(0, 1, (.k (.sc (.int .i64 1)))), (1, 1, (.k (.sc (.int .i64 3))))], (some ((some 188), true)), 0⟩,
  ⟨(some 194), .eqAgg false [.int, .int] (.t 192) (.t 193), (some ((some 188), true)), 0⟩,
  ⟨(some 195), .pick (.t 188) (.t 194) (.k (.sc (.bool false))), none, 0⟩,
  ⟨(some 196), .mov (.t 195), none, 0⟩,
  ⟨(some 197), .mov (.t 17), (some ((some 196), true)), 0⟩,
  ⟨(some 198), .call (.k (.fn (.func f_phasorlaw20_num) [] [])) [(.t 197)], (some ((some 196), true)), 0⟩,
  ⟨(some 199), .bin .eql (.t 198) (.k (.sc (.int .i64 2))), (some ((some 196), true)), 0⟩,
  ⟨(some 200), .pick (.t 196) (.t 199) (.k (.sc (.bool false))), none, 0⟩,
  ⟨(some 201), .mov (.t 200), none, 0⟩,
  ⟨(some 202), .build [(.sc (.int .i64 0)), (.sc (.int .i64 0))] [(0, 1, (.k (.sc (.int .i64 0)))), (1, 1, (.k (.sc (.int .i64 1))))], (some ((some 201), true)), 0⟩,
  ⟨(some 203), .buildSlice 2 1 [(.sc (.int .i64 0)), (.sc (.int .i64 0))] [(0, 2, (.t 202))], (some ((some 201), true)), 0⟩,
  ⟨(some 204), .build [(.sc (.int .i64 0)), (.sc (.slice none 0 0))] [(0, 1, (.k (.sc (.int .i64 3)))), (1, 1, (.t 203))], (some ((some 201), true)), 0⟩,
  ⟨(some 205), .call (.k (.fn (.func f_route_Check) [] [])) [(.t 204)], (some ((some 201), true)), 0⟩,
  ⟨(some 206), .call (.k (.fn (.func f_phasorlaw20_num) [] [])) [(.t 205)], (some ((some 201), true)), 0⟩,
  ⟨(some 207), .bin .eql (.t 206) (.k (.sc (.int .i64 200))), (some ((some 201), true)), 0⟩,
  ⟨(some 208), .pick (.t 201) (.t 207) (.k (.sc (.bool false))), none, 0⟩,
  ⟨(some 0), .mov (.t 208), none, 0⟩]
def c_phasorlaw20_alive : AFn := { code := .seq (.reg c_phasorlaw20_alive_r0 false) (.seq (.reg c_phasorlaw20_alive_r1 false) (.seq (.reg c_phasorlaw20_alive_r2 false) (.seq (.reg c_phasorlaw20_alive_r3 false) (.seq (.reg c_phasorlaw20_alive_r4 false) (.seq (.reg c_phasorlaw20_alive_r5 false) (.seq (.reg c_phasorlaw20_alive_r6 false) (.seq (.reg c_phasorlaw20_alive_r7 false) (.seq (.reg c_phasorlaw20_alive_r8 false) (.seq (.reg c_phasorlaw20_alive_r9 false) (.seq (.reg c_phasorlaw20_alive_r10 false) (.ret))))))))))), ntmps := 209, results := [.tmp 0] }
/-- 19 phasor/route.Far -/
def c_route_Far_r0 : List AO := [⟨(some 1), .box (.t 0), none, 0⟩,
  ⟨(some 2), .mov (.k (.sc (.slice none 0 0))), none, 0⟩,
  ⟨(some 3), .mov (.k (.sc (.int .i64 0))), none, 0⟩]
def c_route_Far_r1 : List AO := [⟨(some 5), .load true 2 (.t 1), none, 0⟩,
  ⟨(some 6), .call (.k (.fn (.func f_route_Check) [] [])) [(.t 5)], none, 0⟩,
  ⟨(some 4), .mov (.t 6), none, 0⟩]
def c_route_Far_r2 : List AO := [⟨(some 7), .mov (.t 4), none, 0⟩,
  ⟨(some 8), .bin .neq (.t 7) (.k (.sc (.int .i64 0))), none, 0⟩]
def c_route_Far_r3 : List AO := [⟨(some 9), .mov (.t 4), none, 0⟩,
  ⟨(some 2), .mov (.k (.sc (.slice none 0 0))), none, 0⟩,
  ⟨(some 3), .mov (.t 9), none, 0⟩]
def c_route_Far_r4 : List AO := [⟨(some 10), .load true 2 (.t 1), none, 0⟩,
  ⟨(some 11), .call (.k (.fn (.func f_route_near) [] [])) [(.t 10)], none, 0⟩,
  ⟨(some 12), .call (.k (.fn (.func f_route_far) [] [])) [(.t 11)], none, 0⟩,
  ⟨(some 2), .mov (.t 12), none, 0⟩,
  ⟨(some 3), .mov (.k (.sc (.int .i64 0))), none, 0⟩]
def c_route_Far : AFn := { code := .seq (.reg c_route_Far_r0 false) (.seq (.seq (.reg c_route_Far_r1 false) (.seq (.reg c_route_Far_r2 false) (.cond (.t 8) (.seq (.reg c_route_Far_r3 false) (.ret)) (.skip)))) (.seq (.reg c_route_Far_r4 false) (.ret))), ntmps := 13, results := [.tmp 2, .tmp 3] }
/-- 20 phasor/phasorref20.Far -/
def c_phasorref20_Far_r0 : List AO := [⟨(some 1), .box (.t 0), none, 0⟩,
  ⟨(some 2), .mov (.k (.sc (.slice none 0 0))), none, 0⟩,
  ⟨(some 3), .mov (.k (.sc (.int .i64 0))), none, 0⟩]
def c_phasorref20_Far_r1 : List AO := [⟨(some 4), .load true 2 (.t 1), none, 0⟩,
  ⟨(some 5), .call (.k (.fn (.func f_phasorref20_Right) [] [])) [(.t 4)], none, 0⟩,
  ⟨(some 6), .un .not (.t 5), none, 0⟩]
def c_phasorref20_Far_r2 : List AO := [⟨(some 2), .mov (.k (.sc (.slice none 0 0))), none, 0⟩,
  ⟨(some 3), .mov (.k (.sc (.int .i64 200))), none, 0⟩]
def c_phasorref20_Far_r3 : List AO := [⟨(some 7), .load true 2 (.t 1), none, 0⟩,
  ⟨(some 8), .call (.k (.fn (.func f_phasorref20_far) [] [])) [(.t 7)], none, 0⟩,
  ⟨(some 2), .mov (.t 8), none, 0⟩,
  ⟨(some 3), .mov (.k (.sc (.int .i64 0))), none, 0⟩]
def c_phasorref20_Far : AFn := { code := .seq (.reg c_phasorref20_Far_r0 false) (.seq (.seq (.reg c_phasorref20_Far_r1 false) (.cond (.t 6) (.seq (.reg c_phasorref20_Far_r2 false) (.ret)) (.skip))) (.seq (.reg c_phasorref20_Far_r3 false) (.ret))), ntmps := 9, results := [.tmp 2, .tmp 3] }
/-- 21 phasor/phasorlaw20.ints -/
def c_phasorlaw20_ints_r0 : List AO := [⟨(some 4), .mov (.k (.sc (.bool false))), none, 0⟩]
def c_phasorlaw20_ints_r1 : List AO := [⟨(some 6), .mov (.t 0), none, 0⟩,
  ⟨(some 7), .len (.t 6), none, 0⟩,
  ⟨(some 8), .mov (.t 1), none, 0⟩,
  ⟨(some 9), .len (.t 8), none, 0⟩,
  ⟨(some 10), .bin .neq (.t 7) (.t 9), none, 0⟩]
def c_phasorlaw20_ints_r2 : List AO := [⟨(some 4), .mov (.k (.sc (.bool false))), none, 0⟩]
def c_phasorlaw20_ints_r3 : List AO := [⟨(some 5), .mov (.k (.sc (.int .i64 0))), none, 0⟩]
def c_phasorlaw20_ints_r4 : List AO := [⟨(some 11), .mov (.t 5), none, 0⟩,
  ⟨(some 12), .mov (.t 0), none, 0⟩,
  ⟨(some 13), .len (.t 12), none, 0⟩,
  ⟨(some 14), .bin .lss (.t 11) (.t 13), none, 0⟩]
def c_phasorlaw20_ints_r5 : List AO := [⟨(some 17), .mov (.t 0), none, 0⟩,
  ⟨(some 18), .mov (.t 5), none, 0⟩,
  ⟨(some 19), .indexAddr none 1 (.t 17) (.t 18), none, 3⟩,
  ⟨(some 20), .load false 1 (.t 19), none, 7⟩,
  ⟨(some 21), .mov (.t 1), none, 0⟩,
  ⟨(some 22), .mov (.t 5), none, 0⟩,
  ⟨(some 23), .indexAddr none 1 (.t 21) (.t 22), none, 48⟩,
  ⟨(some 24), .load false 1 (.t 23), none, 112⟩,
  ⟨(some 25), .bin .neq (.t 20) (.t 24), none, 255⟩]
def c_phasorlaw20_ints_r6 : List AO := [⟨(some 4), .mov (.k (.sc (.bool false))), none, 0⟩]
def c_phasorlaw20_ints_r7 : List AO := [⟨(some 15), .mov (.t 5), none, 0⟩,
  ⟨(some 16), .bin .add (.t 15) (.k (.sc (.int .i64 1))), none, 0⟩,
  ⟨(some 5), .mov (.t 16), none, 0⟩]
def c_phasorlaw20_ints_l0 : AC := .seq (.seq (.reg c_phasorlaw20_ints_r4 false) (.cond (.t 14) (.skip) (.exit 0))) (.seq (.blk 1 (.seq (.reg c_phasorlaw20_ints_r5 true) (.cond (.t 25) (.seq (.reg c_phasorlaw20_ints_r6 false) (.ret)) (.skip)))) (.reg c_phasorlaw20_ints_r7 false))
def c_phasorlaw20_ints_r8 : List AO := [⟨(some 4), .mov (.k (.sc (.bool true))), none, 0⟩]
def c_phasorlaw20_ints : AFn := { code := .seq (.reg c_phasorlaw20_ints_r0 false) (.seq (.seq (.reg c_phasorlaw20_ints_r1 false) (.cond (.t 10) (.seq (.reg c_phasorlaw20_ints_r2 false) (.ret)) (.skip))) (.seq (.seq (.reg c_phasorlaw20_ints_r3 false) (.blk 0 (.loop c_phasorlaw20_ints_l0))) (.seq (.reg c_phasorlaw20_ints_r8 false) (.ret)))), ntmps := 26, results := [.tmp 4] }
/-- 22 phasor/route.Path -/
def c_route_Path_r0 : List AO := [⟨(some 3), .box (.t 0), none, 0⟩,
  ⟨(some 6), .mov (.k (.sc (.slice none 0 0))), none, 0⟩,
  ⟨(some 7), .mov (.k (.sc (.int .i64 0))), none, 0⟩]
def c_route_Path_r1 : List AO := [⟨(some 10), .load true 2 (.t 3), none, 0⟩,
  ⟨(some 11), .call (.k (.fn (.func f_route_Check) [] [])) [(.t 10)], none, 0⟩,
  ⟨(some 8), .mov (.t 11), none, 0⟩]
def c_route_Path_r2 : List AO := [⟨(some 12), .mov (.t 8), none, 0⟩,
  ⟨(some 13), .bin .neq (.t 12) (.k (.sc (.int .i64 0))), none, 0⟩]
def c_route_Path_r3 : List AO := [⟨(some 14), .mov (.t 8), none, 0⟩,
  ⟨(some 6), .mov (.k (.sc (.slice none 0 0))), none, 0⟩,
  ⟨(some 7), .mov (.t 14), none, 0⟩]
def c_route_Path_r4 : List AO := [⟨(some 15), .mov (.t 1), none, 0⟩,
  ⟨(some 16), .bin .lss (.t 15) (.k (.sc (.int .i64 0))), none, 0⟩,
  ⟨(some 17), .mov (.t 16), none, 0⟩,
  ⟨(some 18), .mov (.t 1), (some ((some 17), false)), 0⟩,
  ⟨(some 19), .fieldAddr 0 (.t 3), (some ((some 17), false)), 0⟩,
  ⟨(some 20), .load false 1 (.t 19), (some ((some 17), false)), 0⟩,
  ⟨(some 21), .bin .geq (.t 18) (.t 20), (some ((some 17), false)), 0⟩,
  ⟨(some 22), .pick (.t 17) (.k (.sc (.bool true))) (.t 21), none, 0⟩,
  ⟨(some 23), .mov (.t 22), none, 0⟩,
  ⟨(some 24), .mov (.t 2), (some ((some 23), false)), 0⟩,
  ⟨(some 25), .bin .lss (.t 24) (.k (.sc (.int .i64 0))), (some ((some 23), false)), 0⟩,
  ⟨(some 26), .pick (.t 23) (.k (.sc (.bool true))) (.t 25), none, 0⟩,
  ⟨(some 27), .mov (.t 26), none, 0⟩,
  ⟨(some 28), .mov (.t 2), (some ((some 27), false)), 0⟩,
  ⟨(some 29), .fieldAddr 0 (.t 3), (some ((some 27), false)), 0⟩,
  ⟨(some 30), .load false 1 (.t 29), (some ((some 27), false)), 0⟩,
  ⟨(some 31), .bin .geq (.t 28) (.t 30), (some ((some 27), false)), 0⟩,
  ⟨(some 32), .pick (.t 27) (.k (.sc (.bool true))) (.t 31), none, 0⟩]
def c_route_Path_r5 : List AO := [⟨(some 6), .mov (.k (.sc (.slice none 0 0))), none, 0⟩,
  ⟨(some 7), .mov (.k (.sc (.int .i64 2))), none, 0⟩]
def c_route_Path_r6 : List AO := [⟨(some 33), .load true 2 (.t 3), none, 0⟩,
  ⟨(some 34), .call (.k (.fn (.func f_route_near) [] [])) [(.t 33)], none, 0⟩,
  ⟨(some 9), .mov (.t 34), none, 0⟩]
def c_route_Path_r7 : List AO := [⟨(some 35), .mov (.t 9), none, 0⟩,
  ⟨(some 36), .mov (.t 9), none, 0⟩,
  ⟨(some 37), .call (.k (.fn (.func f_route_far) [] [])) [(.t 36)], none, 0⟩,
  ⟨(some 38), .mov (.t 1), none, 0⟩,
  ⟨(some 39), .mov (.t 2), none, 0⟩,
  ⟨(some 40), .call (.k (.fn (.func f_route_path) [] [])) [(.t 35), (.t 37), (.t 38), (.t 39)], none, 0⟩,
  ⟨(some 6), .mov (.t 40), none, 0⟩,
  ⟨(some 7), .mov (.k (.sc (.int .i64 0))), none, 0⟩]
def c_route_Path : AFn := { code := .seq (.reg c_route_Path_r0 false) (.seq (.seq (.reg c_route_Path_r1 false) (.seq (.reg c_route_Path_r2 false) (.cond (.t 13) (.seq (.reg c_route_Path_r3 false) (.ret)) (.skip)))) (.seq (.seq (.reg c_route_Path_r4 false) (.cond (.t 32) (.seq (.reg c_route_Path_r5 false) (.ret)) (.skip))) (.seq (.reg c_route_Path_r6 false) (.seq (.reg c_route_Path_r7 false) (.ret))))), ntmps := 41, results := [.tmp 6, .tmp 7] }
/-- 23 phasor/phasorref20.Path -/
def c_phasorref20_Path_r0 : List AO := [⟨(some 3), .box (.t 0), none, 0⟩,
  ⟨(some 6), .mov (.k (.sc (.slice none 0 0))), none, 0⟩,
  ⟨(some 7), .mov (.k (.sc (.int .i64 0))), none, 0⟩]
def c_phasorref20_Path_r1 : List AO := [⟨(some 10), .load true 2 (.t 3), none, 0⟩,
  ⟨(some 11), .call (.k (.fn (.func f_phasorref20_Right) [] [])) [(.t 10)], none, 0⟩,
  ⟨(some 12), .un .not (.t 11), none, 0⟩]
def c_phasorref20_Path_r2 : List AO := [⟨(some 6), .mov (.k (.sc (.slice none 0 0))), none, 0⟩,
  ⟨(some 7), .mov (.k (.sc (.int .i64 200))), none, 0⟩]
def c_phasorref20_Path_r3 : List AO := [⟨(some 13), .mov (.t 1), none, 0⟩,
  ⟨(some 14), .bin .lss (.t 13) (.k (.sc (.int .i64 0))), none, 0⟩,
  ⟨(some 15), .mov (.t 14), none, 0⟩,
  ⟨(some 16), .mov (.t 1), (some ((some 15), false)), 0⟩,
  ⟨(some 17), .fieldAddr 0 (.t 3), (some ((some 15), false)), 0⟩,
  ⟨(some 18), .load false 1 (.t 17), (some ((some 15), false)), 0⟩,
  ⟨(some 19), .bin .geq (.t 16) (.t 18), (some ((some 15), false)), 0⟩,
  ⟨(some 20), .pick (.t 15) (.k (.sc (.bool true))) (.t 19), none, 0⟩,
  ⟨(some 21), .mov (.t 20), none, 0⟩,
  ⟨(some 22), .mov (.t 2), (some ((some 21), false)), 0⟩,
  ⟨(some 23), .bin .lss (.t 22) (.k (.sc (.int .i64 0))), (some ((some 21), false)), 0⟩,
  ⟨(some 24), .pick (.t 21) (.k (.sc (.bool true))) (.t 23), none, 0⟩,
  ⟨(some 25), .mov (.t 24), none, 0⟩,
  ⟨(some 26), .mov (.t 2), (some ((some 25), false)), 0⟩,
  ⟨(some 27), .fieldAddr 0 (.t 3), (some ((some 25), false)), 0⟩,
  ⟨(some 28), .load false 1 (.t 27), (some ((some 25), false)), 0⟩,
  ⟨(some 29), .bin .geq (.t 26) (.t 28), (some ((some 25), false)), 0⟩,
  ⟨(some 30), .pick (.t 25) (.k (.sc (.bool true))) (.t 29), none, 0⟩]
def c_phasorref20_Path_r4 : List AO := [⟨(some 6), .mov (.k (.sc (.slice none 0 0))), none, 0⟩,
  ⟨(some 7), .mov (.k (.sc (.int .i64 2))), none, 0⟩]
def c_phasorref20_Path_r5 : List AO := [⟨(some 31), .load true 2 (.t 3), none, 0⟩,
  ⟨(some 32), .call (.k (.fn (.func f_phasorref20_far) [] [])) [(.t 31)], none, 0⟩,
  ⟨(some 8), .mov (.t 32), none, 0⟩]
def c_phasorref20_Path_r6 : List AO := [⟨(some 33), .mov (.t 1), none, 0⟩,
  ⟨(some 34), .buildSlice 1 1 [(.sc (.int .i64 0))] [(0, 1, (.t 33))], none, 0⟩,
  ⟨(some 9), .mov (.t 34), none, 0⟩]
def c_phasorref20_Path_r7 : List AO := [⟨(some 35), .mov (.t 1), none, 0⟩,
  ⟨(some 36), .mov (.t 2), none, 0⟩,
  ⟨(some 37), .bin .neq (.t 35) (.t 36), none, 0⟩]
def c_phasorref20_Path_r8 : List AO := [⟨(some 38), .mov (.t 8), none, 0⟩,
  ⟨(some 39), .mov (.t 1), none, 0⟩,
  ⟨(some 40), .mov (.t 2), none, 0⟩,
  ⟨(some 41), .call (.k (.fn (.func f_phasorref20_step) [] [])) [(.t 38), (.t 39), (.t 40)], none, 0⟩,
  ⟨(some 1), .mov (.t 41), none, 0⟩]
def c_phasorref20_Path_r9 : List AO := [⟨(some 42), .mov (.t 9), none, 0⟩,
  ⟨(some 43), .mov (.t 1), none, 0⟩,
  ⟨(some 44), .buildSlice 1 1 [(.sc (.int .i64 0))] [(0, 1, (.t 43))], none, 0⟩,
  ⟨(some 45), .append 1 8 (.t 42) (.t 44), none, 0⟩,
  ⟨(some 9), .mov (.t 45), none, 0⟩]
def c_phasorref20_Path_l0 : AC := .seq (.seq (.reg c_phasorref20_Path_r7 false) (.cond (.t 37) (.skip) (.exit 0))) (.blk 1 (.seq (.reg c_phasorref20_Path_r8 false) (.reg c_phasorref20_Path_r9 false)))
def c_phasorref20_Path_r10 : List AO := [⟨(some 46), .mov (.t 9), none, 0⟩,
  ⟨(some 6), .mov (.t 46), none, 0⟩,
  ⟨(some 7), .mov (.k (.sc (.int .i64 0))), none, 0⟩]
def c_phasorref20_Path : AFn := { code := .seq (.reg c_phasorref20_Path_r0 false) (.seq (.seq (.reg c_phasorref20_Path_r1 false) (.cond (.t 12) (.seq (.reg c_phasorref20_Path_r2 false) (.ret)) (.skip))) (.seq (.seq (.reg c_phasorref20_Path_r3 false) (.cond (.t 30) (.seq (.reg c_phasorref20_Path_r4 false) (.ret)) (.skip))) (.seq (.reg c_phasorref20_Path_r5 false) (.seq (.reg c_phasorref20_Path_r6 false) (.seq (.blk 0 (.loop c_phasorref20_Path_l0)) (.seq (.reg c_phasorref20_Path_r10 false) (.ret))))))), ntmps := 47, results := [.tmp 6, .tmp 7] }
/-- 24 phasor/phasorref08.Copy -/
def c_phasorref08_Copy_r0 : List AO := [⟨(some 1), .box (.t 0), none, 0⟩,
  ⟨(some 2), .alloc [(.sc (.int .i64 0)), (.sc (.int .i64 0)), (.sc (.slice none 0 0))], none, 0⟩]
def c_phasorref08_Copy_r1 : List AO := [⟨(some 7), .fieldAddr 0 (.t 1), none, 0⟩,
  ⟨(some 8), .load false 1 (.t 7), none, 0⟩,
  ⟨(some 9), .fieldAddr 1 (.t 1), none, 0⟩,
  ⟨(some 10), .load false 1 (.t 9), none, 0⟩,
  ⟨(some 11), .build [(.sc (.int .i64 0)), (.sc (.int .i64 0)), (.sc (.slice none 0 0))] [(0, 1, (.t 8)), (1, 1, (.t 10))], none, 0⟩,
  ⟨(some 3), .alloc [(.sc (.int .i64 0)), (.sc (.int .i64 0)), (.sc (.slice none 0 0))], none, 0⟩,
  ⟨none, .store 3 (.t 3) (.t 11), none, 0⟩]
def c_phasorref08_Copy_r2 : List AO := [⟨(some 4), .mov (.k (.sc (.int .i64 0))), none, 0⟩]
def c_phasorref08_Copy_r3 : List AO := [⟨(some 12), .mov (.t 4), none, 0⟩,
  ⟨(some 13), .fieldAddr 2 (.t 1), none, 0⟩,
  ⟨(some 14), .load false 1 (.t 13), none, 0⟩,
  ⟨(some 15), .len (.t 14), none, 0⟩,
  ⟨(some 16), .bin .lss (.t 12) (.t 15), none, 0⟩]
def c_phasorref08_Copy_r4 : List AO := [⟨(some 19), .fieldAddr 2 (.t 1), none, 0⟩,
  ⟨(some 20), .load false 1 (.t 19), none, 0⟩,
  ⟨(some 21), .mov (.t 4), none, 0⟩,
  ⟨(some 22), .indexAddr none 6 (.t 20) (.t 21), none, 0⟩,
  ⟨(some 23), .load true 6 (.t 22), none, 0⟩,
  ⟨(some 5), .alloc [(.sc (.int .i64 0)), (.sc (.int .i64 0)), (.sc (.slice none 0 0)), (.sc (.int .i64 0)), (.sc (.int .i64 0)), (.sc (.int .i64 0))], none, 0⟩,
  ⟨none, .store 6 (.t 5) (.t 23), none, 0⟩]
def c_phasorref08_Copy_r5 : List AO := [⟨(some 6), .mov (.k (.sc (.slice none 0 0))), none, 0⟩]
def c_phasorref08_Copy_r6 : List AO := [⟨(some 24), .mov (.t 6), none, 0⟩,
  ⟨(some 25), .fieldAddr 2 (.t 5), none, 0⟩,
  ⟨(some 26), .load false 1 (.t 25), none, 0⟩,
  ⟨(some 27), .append 1 8 (.t 24) (.t 26), none, 0⟩,
  ⟨(some 28), .fieldAddr 2 (.t 5), none, 0⟩,
  ⟨none, .store 1 (.t 28) (.t 27), none, 0⟩]
def c_phasorref08_Copy_r7 : List AO := [⟨(some 29), .fieldAddr 2 (.t 3), none, 0⟩,
  ⟨(some 30), .load false 1 (.t 29), none, 0⟩,
  ⟨(some 31), .load true 6 (.t 5), none, 0⟩,
  ⟨(some 32), .buildSlice 6 1 [(.sc (.int .i64 0)), (.sc (.int .i64 0)), (.sc (.slice none 0 0)), (.sc (.int .i64 0)), (.sc (.int .i64 0)), (.sc (.int .i64 0))] [(0, 6, (.t 31))], none, 0⟩,
  ⟨(some 33), .append 6 64 (.t 30) (.t 32), none, 0⟩,
  ⟨(some 34), .fieldAddr 2 (.t 3), none, 0⟩,
  ⟨none, .store 1 (.t 34) (.t 33), none, 0⟩]
def c_phasorref08_Copy_r8 : List AO := [⟨(some 17), .mov (.t 4), none, 0⟩,
  ⟨(some 18), .bin .add (.t 17) (.k (.sc (.int .i64 1))), none, 0⟩,
  ⟨(some 4), .mov (.t 18), none, 0⟩]
def c_phasorref08_Copy_l0 : AC := .seq (.seq (.reg c_phasorref08_Copy_r3 false) (.cond (.t 16) (.skip) (.exit 0))) (.seq (.blk 1 (.seq (.reg c_phasorref08_Copy_r4 false) (.seq (.reg c_phasorref08_Copy_r5 false) (.seq (.reg c_phasorref08_Copy_r6 false) (.reg c_phasorref08_Copy_r7 false))))) (.reg c_phasorref08_Copy_r8 false))
def c_phasorref08_Copy_r9 : List AO := [⟨(some 35), .load true 3 (.t 3), none, 0⟩,
  ⟨none, .store 3 (.t 2) (.t 35), none, 0⟩]
def c_phasorref08_Copy : AFn := { code := .seq (.reg c_phasorref08_Copy_r0 false) (.seq (.reg c_phasorref08_Copy_r1 false) (.seq (.seq (.reg c_phasorref08_Copy_r2 false) (.blk 0 (.loop c_phasorref08_Copy_l0))) (.seq (.reg c_phasorref08_Copy_r9 false) (.ret)))), ntmps := 36, results := [.cell true 3 2] }
/-- 25 phasor/route.Fits -/
def c_route_Fits_r0 : List AO := [⟨(some 2), .box (.t 0), none, 0⟩,
  ⟨(some 3), .box (.t 1), none, 0⟩,
  ⟨(some 4), .mov (.k (.sc (.bool false))), none, 0⟩,
  ⟨(some 5), .mov (.k (.sc (.int .i64 0))), none, 0⟩]
def c_route_Fits_r1 : List AO := [⟨(some 11), .load true 2 (.t 3), none, 0⟩,
  ⟨(some 12), .call (.k (.fn (.func f_route_Check) [] [])) [(.t 11)], none, 0⟩,
  ⟨(some 6), .mov (.t 12), none, 0⟩]
def c_route_Fits_r2 : List AO := [⟨(some 13), .mov (.t 6), none, 0⟩,
  ⟨(some 14), .bin .neq (.t 13) (.k (.sc (.int .i64 0))), none, 0⟩]
def c_route_Fits_r3 : List AO := [⟨(some 15), .mov (.t 6), none, 0⟩,
  ⟨(some 4), .mov (.k (.sc (.bool false))), none, 0⟩,
  ⟨(some 5), .mov (.t 15), none, 0⟩]
def c_route_Fits_r4 : List AO := [⟨(some 17), .load true 3 (.t 2), none, 0⟩,
  ⟨(some 18), .call (.k (.fn (.func f_circuit_Check) [] [])) [(.t 17)], none, 0⟩,
  ⟨(some 16), .mov (.t 18), none, 0⟩,
  ⟨(some 19), .extract (.t 16) 0, none, 0⟩,
  ⟨(some 20), .extract (.t 16) 1, none, 0⟩,
  ⟨(some 7), .mov (.t 19), none, 0⟩,
  ⟨(some 8), .mov (.t 20), none, 0⟩]
def c_route_Fits_r5 : List AO := [⟨(some 21), .mov (.t 8), none, 0⟩,
  ⟨(some 22), .bin .neq (.t 21) (.k (.sc (.int .i64 0))), none, 0⟩]
def c_route_Fits_r6 : List AO := [⟨(some 23), .mov (.t 8), none, 0⟩,
  ⟨(some 4), .mov (.k (.sc (.bool false))), none, 0⟩,
  ⟨(some 5), .mov (.t 23), none, 0⟩]
def c_route_Fits_r7 : List AO := [⟨(some 24), .load true 2 (.t 3), none, 0⟩,
  ⟨(some 25), .call (.k (.fn (.func f_route_near) [] [])) [(.t 24)], none, 0⟩,
  ⟨(some 9), .alloc [(.sc (.slice none 0 0))], none, 0⟩,
  ⟨none, .store 1 (.t 9) (.t 25), none, 0⟩]
def c_route_Fits_r8 : List AO := [⟨(some 26), .makeFunc (.func f_route_Fits_1) [] [(.t 9)], none, 0⟩,
  ⟨(some 10), .mov (.t 26), none, 0⟩]
def c_route_Fits_r9 : List AO := [⟨(some 27), .fieldAddr 0 (.t 2), none, 0⟩,
  ⟨(some 28), .load false 1 (.t 27), none, 0⟩,
  ⟨(some 29), .fieldAddr 0 (.t 3), none, 0⟩,
  ⟨(some 30), .load false 1 (.t 29), none, 0⟩,
  ⟨(some 31), .bin .leq (.t 28) (.t 30), none, 0⟩,
  ⟨(some 32), .mov (.t 31), none, 0⟩,
  ⟨(some 33), .fieldAddr 2 (.t 2), (some ((some 32), true)), 0⟩,
  ⟨(some 34), .load false 1 (.t 33), (some ((some 32), true)), 0⟩,
  ⟨(some 35), .mov (.t 10), (some ((some 32), true)), 0⟩,
  ⟨(some 36), .call (.k (.fn (.func f_slices_ContainsFunc_api_Op_api_Op) [] [])) [(.t 34), (.t 35)], (some ((some 32), true)), 0⟩,
  ⟨(some 37), .un .not (.t 36), (some ((some 32), true)), 0⟩,
  ⟨(some 38), .pick (.t 32) (.t 37) (.k (.sc (.bool false))), none, 0⟩,
  ⟨(some 4), .mov (.t 38), none, 0⟩,
  ⟨(some 5), .mov (.k (.sc (.int .i64 0))), none, 0⟩]
def c_route_Fits : AFn := { code := .seq (.reg c_route_Fits_r0 false) (.seq (.seq (.reg c_route_Fits_r1 false) (.seq (.reg c_route_Fits_r2 false) (.cond (.t 14) (.seq (.reg c_route_Fits_r3 false) (.ret)) (.skip)))) (.seq (.seq (.reg c_route_Fits_r4 false) (.seq (.reg c_route_Fits_r5 false) (.cond (.t 22) (.seq (.reg c_route_Fits_r6 false) (.ret)) (.skip)))) (.seq (.reg c_route_Fits_r7 false) (.seq (.reg c_route_Fits_r8 false) (.seq (.reg c_route_Fits_r9 false) (.ret)))))), ntmps := 39, results := [.tmp 4, .tmp 5] }
/-- 26 phasor/phasorref20.Fits -/
def c_phasorref20_Fits_r0 : List AO := [⟨(some 2), .box (.t 0), none, 0⟩,
  ⟨(some 3), .box (.t 1), none, 0⟩,
  ⟨(some 4), .mov (.k (.sc (.bool false))), none, 0⟩,
  ⟨(some 5), .mov (.k (.sc (.int .i64 0))), none, 0⟩]
def c_phasorref20_Fits_r1 : List AO := [⟨(some 9), .load true 2 (.t 3), none, 0⟩,
  ⟨(some 10), .call (.k (.fn (.func f_phasorref20_Right) [] [])) [(.t 9)], none, 0⟩,
  ⟨(some 11), .un .not (.t 10), none, 0⟩]
def c_phasorref20_Fits_r2 : List AO := [⟨(some 4), .mov (.k (.sc (.bool false))), none, 0⟩,
  ⟨(some 5), .mov (.k (.sc (.int .i64 200))), none, 0⟩]
def c_phasorref20_Fits_r3 : List AO := [⟨(some 12), .load true 3 (.t 2), none, 0⟩,
  ⟨(some 13), .call (.k (.fn (.func f_phasorref08_May) [] [])) [(.t 12)], none, 0⟩,
  ⟨(some 14), .un .not (.t 13), none, 0⟩]
def c_phasorref20_Fits_r4 : List AO := [⟨(some 4), .mov (.k (.sc (.bool false))), none, 0⟩,
  ⟨(some 5), .mov (.k (.sc (.int .i64 80))), none, 0⟩]
def c_phasorref20_Fits_r5 : List AO := [⟨(some 15), .load true 2 (.t 3), none, 0⟩,
  ⟨(some 16), .call (.k (.fn (.func f_phasorref20_far) [] [])) [(.t 15)], none, 0⟩,
  ⟨(some 6), .mov (.t 16), none, 0⟩]
def c_phasorref20_Fits_r6 : List AO := [⟨(some 17), .fieldAddr 0 (.t 2), none, 0⟩,
  ⟨(some 18), .load false 1 (.t 17), none, 0⟩,
  ⟨(some 19), .fieldAddr 0 (.t 3), none, 0⟩,
  ⟨(some 20), .load false 1 (.t 19), none, 0⟩,
  ⟨(some 21), .bin .gtr (.t 18) (.t 20), none, 0⟩]
def c_phasorref20_Fits_r7 : List AO := [⟨(some 4), .mov (.k (.sc (.bool false))), none, 0⟩,
  ⟨(some 5), .mov (.k (.sc (.int .i64 0))), none, 0⟩]
def c_phasorref20_Fits_r8 : List AO := [⟨(some 7), .mov (.k (.sc (.int .i64 0))), none, 0⟩]
def c_phasorref20_Fits_r9 : List AO := [⟨(some 22), .mov (.t 7), none, 0⟩,
  ⟨(some 23), .fieldAddr 2 (.t 2), none, 0⟩,
  ⟨(some 24), .load false 1 (.t 23), none, 0⟩,
  ⟨(some 25), .len (.t 24), none, 0⟩,
  ⟨(some 26), .bin .lss (.t 22) (.t 25), none, 0⟩]
def c_phasorref20_Fits_r10 : List AO := [⟨(some 29), .fieldAddr 2 (.t 2), none, 0⟩,
  ⟨(some 30), .load false 1 (.t 29), none, 0⟩,
  ⟨(some 31), .mov (.t 7), none, 0⟩,
  ⟨(some 32), .indexAddr none 6 (.t 30) (.t 31), none, 0⟩,
  ⟨(some 33), .load true 6 (.t 32), none, 0⟩,
  ⟨(some 8), .alloc [(.sc (.int .i64 0)), (.sc (.int .i64 0)), (.sc (.slice none 0 0)), (.sc (.int .i64 0)), (.sc (.int .i64 0)), (.sc (.int .i64 0))], none, 0⟩,
  ⟨none, .store 6 (.t 8) (.t 33), none, 0⟩]
def c_phasorref20_Fits_r11 : List AO := [⟨(some 34), .fieldAddr 0 (.t 8), none, 0⟩,
  ⟨(some 35), .load false 1 (.t 34), none, 1⟩,
  ⟨(some 36), .bin .eql (.t 35) (.k (.sc (.int .i64 1))), none, 3⟩,
  ⟨(some 37), .mov (.t 36), none, 7⟩,
  ⟨(some 38), .fieldAddr 2 (.t 8), (some ((some 37), true)), 15⟩,
  ⟨(some 39), .load false 1 (.t 38), (some ((some 37), true)), 31⟩,
  ⟨(some 40), .len (.t 39), (some ((some 37), true)), 63⟩,
  ⟨(some 41), .bin .gtr (.t 40) (.k (.sc (.int .i64 2))), (some ((some 37), true)), 127⟩,
  ⟨(some 42), .mov (.t 41), (some ((some 37), true)), 255⟩,
  ⟨(some 43), .fieldAddr 2 (.t 8), (some ((some 42), false)), 511⟩,
  ⟨(some 44), .load false 1 (.t 43), (some ((some 42), false)), 1023⟩,
  ⟨(some 45), .len (.t 44), (some ((some 42), false)), 2047⟩,
  ⟨(some 46), .bin .eql (.t 45) (.k (.sc (.int .i64 2))), (some ((some 42), false)), 4095⟩,
  ⟨(some 47), .mov (.t 46), (some ((some 42), false)), 8191⟩,
  ⟨(some 48), .mov (.t 6), (some ((some 47), true)), 16383⟩,
  ⟨(some 49), .fieldAddr 2 (.t 8), (some ((some 47), true)), 16383⟩,
  ⟨(some 50), .load false 1 (.t 49), (some ((some 47), true)), 49151⟩,
  ⟨(some 51), .indexAddr none 1 (.t 50) (.k (.sc (.int .i64 0))), (some ((some 47), true)), 114687⟩,
  ⟨(some 52), .load false 1 (.t 51), (some ((some 47), true)), 245759⟩,
  ⟨(some 53), .indexAddr none 1 (.t 48) (.t 52), (some ((some 47), true)), 524287⟩,
  ⟨(some 54), .load false 1 (.t 53), (some ((some 47), true)), 1048575⟩,
  ⟨(some 55), .fieldAddr 2 (.t 8), (some ((some 47), true)), 16383⟩,
  ⟨(some 56), .load false 1 (.t 55), (some ((some 47), true)), 2113535⟩,
  ⟨(some 57), .indexAddr none 1 (.t 56) (.k (.sc (.int .i64 1))), (some ((some 47), true)), 6307839⟩,
  ⟨(some 58), .load false 1 (.t 57), (some ((some 47), true)), 14696447⟩,
  ⟨(some 59), .indexAddr none 1 (.t 54) (.t 58), (some ((some 47), true)), 33554431⟩,
  ⟨(some 60), .load false 1 (.t 59), (some ((some 47), true)), 67108863⟩,
  ⟨(some 61), .bin .neq (.t 60) (.k (.sc (.int .i64 1))), (some ((some 47), true)), 134217727⟩,
  ⟨(some 62), .pick (.t 47) (.t 61) (.k (.sc (.bool false))), (some ((some 42), false)), 268435455⟩,
  ⟨(some 63), .pick (.t 42) (.k (.sc (.bool true))) (.t 62), (some ((some 37), true)), 536870911⟩,
  ⟨(some 64), .pick (.t 37) (.t 63) (.k (.sc (.bool false))), none, 1073741823⟩]
def c_phasorref20_Fits_r12 : List AO := [⟨(some 4), .mov (.k (.sc (.bool false))), none, 0⟩,
  ⟨(some 5), .mov (.k (.sc (.int .i64 0))), none, 0⟩]
def c_phasorref20_Fits_r13 : List AO := [⟨(some 27), .mov (.t 7), none, 0⟩,
  ⟨(some 28), .bin .add (.t 27) (.k (.sc (.int .i64 1))), none, 0⟩,
  ⟨(some 7), .mov (.t 28), none, 0⟩]
def c_phasorref20_Fits_l0 : AC := .seq (.seq (.reg c_phasorref20_Fits_r9 false) (.cond (.t 26) (.skip) (.exit 0))) (.seq (.blk 1 (.seq (.reg c_phasorref20_Fits_r10 false) (.seq (.reg c_phasorref20_Fits_r11 true) (.cond (.t 64) (.seq (.reg c_phasorref20_Fits_r12 false) (.ret)) (.skip))))) (.reg c_phasorref20_Fits_r13 false))
def c_phasorref20_Fits_r14 : List AO := [⟨(some 4), .mov (.k (.sc (.bool true))), none, 0⟩,
  ⟨(some 5), .mov (.k (.sc (.int .i64 0))), none, 0⟩]
def c_phasorref20_Fits : AFn := { code := .seq (.reg c_phasorref20_Fits_r0 false) (.seq (.seq (.reg c_phasorref20_Fits_r1 false) (.cond (.t 11) (.seq (.reg c_phasorref20_Fits_r2 false) (.ret)) (.skip))) (.seq (.seq (.reg c_phasorref20_Fits_r3 false) (.cond (.t 14) (.seq (.reg c_phasorref20_Fits_r4 false) (.ret)) (.skip))) (.seq (.reg c_phasorref20_Fits_r5 false) (.seq (.seq (.reg c_phasorref20_Fits_r6 false) (.cond (.t 21) (.seq (.reg c_phasorref20_Fits_r7 false) (.ret)) (.skip))) (.seq (.seq (.reg c_phasorref20_Fits_r8 false) (.blk 0 (.loop c_phasorref20_Fits_l0))) (.seq (.reg c_phasorref20_Fits_r14 false) (.ret))))))), ntmps := 65, results := [.tmp 4, .tmp 5] }
/-- 27 phasor/route.Route -/
def c_route_Route_r0 : List AO := [⟨(some 2), .box (.t 0), none, 0⟩,
  ⟨(some 3), .box (.t 1), none, 0⟩,
  ⟨(some 4), .alloc [(.sc (.int .i64 0)), (.sc (.int .i64 0)), (.sc (.slice none 0 0)), (.sc (.slice none 0 0)), (.sc (.int .i64 0))], none, 0⟩,
  ⟨(some 5), .mov (.k (.sc (.int .i64 0))), none, 0⟩]
def c_route_Route_r1 : List AO := [⟨(some 20), .load true 2 (.t 3), none, 0⟩,
  ⟨(some 21), .call (.k (.fn (.func f_route_Check) [] [])) [(.t 20)], none, 0⟩,
  ⟨(some 6), .mov (.t 21), none, 0⟩]
def c_route_Route_r2 : List AO := [⟨(some 22), .mov (.t 6), none, 0⟩,
  ⟨(some 23), .bin .neq (.t 22) (.k (.sc (.int .i64 0))), none, 0⟩]
def c_route_Route_r3 : List AO := [⟨(some 24), .build [(.sc (.int .i64 0)), (.sc (.int .i64 0)), (.sc (.slice none 0 0)), (.sc (.slice none 0 0)), (.sc (.int .i64 0))] [], none, 0⟩,
  ⟨(some 25), .mov (.t 6), none, 0⟩,
  ⟨none, .store 5 (.t 4) (.t 24), none, 0⟩,
  ⟨(some 5), .mov (.t 25), none, 0⟩]
def c_route_Route_r4 : List AO := [⟨(some 27), .load true 3 (.t 2), none, 0⟩,
  ⟨(some 28), .call (.k (.fn (.func f_circuit_Check) [] [])) [(.t 27)], none, 0⟩,
  ⟨(some 26), .mov (.t 28), none, 0⟩,
  ⟨(some 29), .extract (.t 26) 0, none, 0⟩,
  ⟨(some 30), .extract (.t 26) 1, none, 0⟩,
  ⟨(some 7), .mov (.t 29), none, 0⟩,
  ⟨(some 8), .mov (.t 30), none, 0⟩]
def c_route_Route_r5 : List AO := [⟨(some 31), .mov (.t 8), none, 0⟩,
  ⟨(some 32), .bin .neq (.t 31) (.k (.sc (.int .i64 0))), none, 0⟩]
def c_route_Route_r6 : List AO := [⟨(some 33), .build [(.sc (.int .i64 0)), (.sc (.int .i64 0)), (.sc (.slice none 0 0)), (.sc (.slice none 0 0)), (.sc (.int .i64 0))] [], none, 0⟩,
  ⟨(some 34), .mov (.t 8), none, 0⟩,
  ⟨none, .store 5 (.t 4) (.t 33), none, 0⟩,
  ⟨(some 5), .mov (.t 34), none, 0⟩]
def c_route_Route_r7 : List AO := [⟨(some 35), .fieldAddr 0 (.t 2), none, 0⟩,
  ⟨(some 36), .load false 1 (.t 35), none, 0⟩,
  ⟨(some 37), .fieldAddr 0 (.t 3), none, 0⟩,
  ⟨(some 38), .load false 1 (.t 37), none, 0⟩,
  ⟨(some 39), .bin .gtr (.t 36) (.t 38), none, 0⟩,
  ⟨(some 40), .mov (.t 39), none, 0⟩,
  ⟨(some 41), .fieldAddr 2 (.t 2), (some ((some 40), false)), 0⟩,
  ⟨(some 42), .load false 1 (.t 41), (some ((some 40), false)), 0⟩,
  ⟨(some 43), .call (.k (.fn (.func f_slices_ContainsFunc_api_Op_api_Op) [] [])) [(.t 42), (.k (.fn (.func f_route_Route_1) [] []))], (some ((some 40), false)), 0⟩,
  ⟨(some 44), .pick (.t 40) (.k (.sc (.bool true))) (.t 43), none, 0⟩]
def c_route_Route_r8 : List AO := [⟨(some 45), .build [(.sc (.int .i64 0)), (.sc (.int .i64 0)), (.sc (.slice none 0 0)), (.sc (.slice none 0 0)), (.sc (.int .i64 0))] [], none, 0⟩,
  ⟨none, .store 5 (.t 4) (.t 45), none, 0⟩,
  ⟨(some 5), .mov (.k (.sc (.int .i64 201))), none, 0⟩]
def c_route_Route_r9 : List AO := [⟨(some 46), .load true 2 (.t 3), none, 0⟩,
  ⟨(some 47), .call (.k (.fn (.func f_route_near) [] [])) [(.t 46)], none, 0⟩,
  ⟨(some 9), .mov (.t 47), none, 0⟩]
def c_route_Route_r10 : List AO := [⟨(some 48), .mov (.t 9), none, 0⟩,
  ⟨(some 49), .call (.k (.fn (.func f_route_far) [] [])) [(.t 48)], none, 0⟩,
  ⟨(some 10), .mov (.t 49), none, 0⟩]
def c_route_Route_r11 : List AO := [⟨(some 50), .build [(.sc (.slice none 0 0)), (.sc (.slice none 0 0)), (.sc (.int .i64 0))] [], none, 0⟩,
  ⟨(some 51), .box (.t 50), none, 0⟩,
  ⟨(some 11), .mov (.t 51), none, 0⟩]
def c_route_Route_r12 : List AO := [⟨(some 52), .fieldAddr 0 (.t 2), none, 0⟩,
  ⟨(some 53), .load false 1 (.t 52), none, 0⟩,
  ⟨(some 54), .mov (.k (.sc (.int .i64 0))), none, 0⟩]
def c_route_Route_r13 : List AO := [⟨(some 55), .bin .lss (.t 54) (.t 53), none, 0⟩]
def c_route_Route_r14 : List AO := [⟨(some 56), .mov (.t 54), none, 0⟩,
  ⟨(some 12), .mov (.t 56), none, 0⟩]
def c_route_Route_r15 : List AO := [⟨(some 57), .mov (.t 11), none, 0⟩,
  ⟨(some 58), .mov (.t 11), none, 0⟩,
  ⟨(some 59), .nilCheck (.t 58), none, 0⟩,
  ⟨(some 60), .fieldAddr 1 (.t 59), none, 0⟩,
  ⟨(some 61), .load false 1 (.t 60), none, 0⟩,
  ⟨(some 62), .mov (.t 12), none, 0⟩,
  ⟨(some 63), .buildSlice 1 1 [(.sc (.int .i64 0))] [(0, 1, (.t 62))], none, 0⟩,
  ⟨(some 64), .append 1 8 (.t 61) (.t 63), none, 0⟩,
  ⟨(some 65), .nilCheck (.t 57), none, 0⟩,
  ⟨(some 66), .fieldAddr 1 (.t 65), none, 0⟩,
  ⟨none, .store 1 (.t 66) (.t 64), none, 0⟩]
def c_route_Route_r16 : List AO := [⟨(some 67), .bin .add (.t 54) (.k (.sc (.int .i64 1))), none, 0⟩,
  ⟨(some 54), .mov (.t 67), none, 0⟩]
def c_route_Route_l0 : AC := .seq (.reg c_route_Route_r13 false) (.seq (.cond (.t 55) (.skip) (.exit 0)) (.seq (.blk 1 (.seq (.reg c_route_Route_r14 false) (.reg c_route_Route_r15 false))) (.reg c_route_Route_r16 false)))
def c_route_Route_r17 : List AO := [⟨(some 68), .load true 3 (.t 2), none, 0⟩,
  ⟨(some 69), .call (.k (.fn (.func f_circuit_Copy) [] [])) [(.t 68)], none, 0⟩,
  ⟨(some 70), .field false 2 1 (.t 69), none, 0⟩,
  ⟨(some 71), .len (.t 70), none, 0⟩,
  ⟨(some 72), .mov (.k (.sc (.int .i64 0))), none, 0⟩]
def c_route_Route_r18 : List AO := [⟨(some 73), .bin .lss (.t 72) (.t 71), none, 0⟩]
def c_route_Route_r19 : List AO := [⟨(some 74), .indexAddr none 6 (.t 70) (.t 72), none, 0⟩,
  ⟨(some 75), .load true 6 (.t 74), none, 0⟩,
  ⟨(some 14), .alloc [(.sc (.int .i64 0)), (.sc (.int .i64 0)), (.sc (.slice none 0 0)), (.sc (.int .i64 0)), (.sc (.int .i64 0)), (.sc (.int .i64 0))], none, 0⟩,
  ⟨none, .store 6 (.t 14) (.t 75), none, 0⟩]
def c_route_Route_r20 : List AO := [⟨(some 76), .fieldAddr 0 (.t 14), none, 0⟩,
  ⟨(some 77), .load false 1 (.t 76), none, 0⟩,
  ⟨(some 78), .bin .eql (.t 77) (.k (.sc (.int .i64 1))), none, 0⟩,
  ⟨(some 79), .mov (.t 78), none, 0⟩,
  ⟨(some 80), .fieldAddr 2 (.t 14), (some ((some 79), true)), 0⟩,
  ⟨(some 81), .load false 1 (.t 80), (some ((some 79), true)), 0⟩,
  ⟨(some 82), .len (.t 81), (some ((some 79), true)), 0⟩,
  ⟨(some 83), .bin .eql (.t 82) (.k (.sc (.int .i64 2))), (some ((some 79), true)), 0⟩,
  ⟨(some 84), .pick (.t 79) (.t 83) (.k (.sc (.bool false))), none, 0⟩]
def c_route_Route_r21 : List AO := [⟨(some 85), .fieldAddr 2 (.t 14), none, 0⟩,
  ⟨(some 86), .load false 1 (.t 85), none, 1⟩,
  ⟨(some 87), .indexAddr none 1 (.t 86) (.k (.sc (.int .i64 0))), none, 3⟩,
  ⟨(some 88), .load false 1 (.t 87), none, 7⟩,
  ⟨(some 89), .fieldAddr 2 (.t 14), none, 0⟩,
  ⟨(some 90), .load false 1 (.t 89), none, 16⟩,
  ⟨(some 91), .indexAddr none 1 (.t 90) (.k (.sc (.int .i64 1))), none, 48⟩,
  ⟨(some 92), .load false 1 (.t 91), none, 112⟩,
  ⟨(some 15), .mov (.t 88), none, 15⟩,
  ⟨(some 16), .mov (.t 92), none, 511⟩]
def c_route_Route_r22 : List AO := [⟨(some 93), .mov (.t 10), none, 0⟩,
  ⟨(some 94), .mov (.t 11), none, 0⟩,
  ⟨(some 95), .nilCheck (.t 94), none, 2⟩,
  ⟨(some 96), .fieldAddr 1 (.t 95), none, 6⟩,
  ⟨(some 97), .load false 1 (.t 96), none, 14⟩,
  ⟨(some 98), .mov (.t 15), none, 0⟩,
  ⟨(some 99), .indexAddr none 1 (.t 97) (.t 98), none, 62⟩,
  ⟨(some 100), .load false 1 (.t 99), none, 126⟩,
  ⟨(some 101), .indexAddr none 1 (.t 93) (.t 100), none, 255⟩,
  ⟨(some 102), .load false 1 (.t 101), none, 511⟩,
  ⟨(some 103), .mov (.t 11), none, 0⟩,
  ⟨(some 104), .nilCheck (.t 103), none, 1024⟩,
  ⟨(some 105), .fieldAddr 1 (.t 104), none, 3072⟩,
  ⟨(some 106), .load false 1 (.t 105), none, 7168⟩,
  ⟨(some 107), .mov (.t 16), none, 0⟩,
  ⟨(some 108), .indexAddr none 1 (.t 106) (.t 107), none, 31744⟩,
  ⟨(some 109), .load false 1 (.t 108), none, 64512⟩,
  ⟨(some 110), .indexAddr none 1 (.t 102) (.t 109), none, 131071⟩,
  ⟨(some 111), .load false 1 (.t 110), none, 262143⟩,
  ⟨(some 112), .bin .gtr (.t 111) (.k (.sc (.int .i64 1))), none, 524287⟩]
def c_route_Route_r23 : List AO := [⟨(some 113), .mov (.t 9), none, 0⟩,
  ⟨(some 114), .mov (.t 10), none, 0⟩,
  ⟨(some 115), .mov (.t 11), none, 0⟩,
  ⟨(some 116), .nilCheck (.t 115), none, 4⟩,
  ⟨(some 117), .fieldAddr 1 (.t 116), none, 12⟩,
  ⟨(some 118), .load false 1 (.t 117), none, 28⟩,
  ⟨(some 119), .mov (.t 15), none, 0⟩,
  ⟨(some 120), .indexAddr none 1 (.t 118) (.t 119), none, 124⟩,
  ⟨(some 121), .load false 1 (.t 120), none, 252⟩,
  ⟨(some 122), .mov (.t 11), none, 0⟩,
  ⟨(some 123), .nilCheck (.t 122), none, 512⟩,
  ⟨(some 124), .fieldAddr 1 (.t 123), none, 1536⟩,
  ⟨(some 125), .load false 1 (.t 124), none, 3584⟩,
  ⟨(some 126), .mov (.t 16), none, 0⟩,
  ⟨(some 127), .indexAddr none 1 (.t 125) (.t 126), none, 15872⟩,
  ⟨(some 128), .load false 1 (.t 127), none, 32256⟩,
  ⟨(some 129), .call (.k (.fn (.func f_route_path) [] [])) [(.t 113), (.t 114), (.t 121), (.t 128)], none, 65535⟩,
  ⟨(some 17), .mov (.t 129), none, 131071⟩]
def c_route_Route_r24 : List AO := [⟨(some 130), .mov (.t 11), none, 0⟩,
  ⟨(some 131), .mov (.t 17), none, 0⟩,
  ⟨(some 132), .indexAddr none 1 (.t 131) (.k (.sc (.int .i64 0))), none, 2⟩,
  ⟨(some 133), .load false 1 (.t 132), none, 6⟩,
  ⟨(some 134), .mov (.t 17), none, 0⟩,
  ⟨(some 135), .indexAddr none 1 (.t 134) (.k (.sc (.int .i64 1))), none, 16⟩,
  ⟨(some 136), .load false 1 (.t 135), none, 48⟩,
  ⟨(some 137), .call (.k (.fn (.func f_route_laid_swap) [] [])) [(.t 130), (.t 133), (.t 136)], none, 127⟩]
def c_route_Route_l1 : AC := .seq (.seq (.reg c_route_Route_r22 true) (.cond (.t 112) (.skip) (.exit 4))) (.blk 5 (.seq (.reg c_route_Route_r23 true) (.reg c_route_Route_r24 true)))
def c_route_Route_r25 : List AO := [⟨(some 138), .fieldAddr 2 (.t 14), none, 0⟩,
  ⟨(some 139), .load false 1 (.t 138), none, 0⟩,
  ⟨(some 140), .len (.t 139), none, 0⟩,
  ⟨(some 141), .mov (.k (.sc (.int .i64 0))), none, 0⟩]
def c_route_Route_r26 : List AO := [⟨(some 142), .bin .lss (.t 141) (.t 140), none, 0⟩]
def c_route_Route_r27 : List AO := [⟨(some 143), .mov (.t 141), none, 0⟩,
  ⟨(some 144), .indexAddr none 1 (.t 139) (.t 141), none, 0⟩,
  ⟨(some 145), .load false 1 (.t 144), none, 0⟩,
  ⟨(some 18), .mov (.t 143), none, 0⟩,
  ⟨(some 19), .mov (.t 145), none, 0⟩]
def c_route_Route_r28 : List AO := [⟨(some 146), .fieldAddr 2 (.t 14), none, 0⟩,
  ⟨(some 147), .load false 1 (.t 146), none, 1⟩,
  ⟨(some 148), .mov (.t 18), none, 0⟩,
  ⟨(some 149), .mov (.t 11), none, 0⟩,
  ⟨(some 150), .nilCheck (.t 149), none, 8⟩,
  ⟨(some 151), .fieldAddr 1 (.t 150), none, 24⟩,
  ⟨(some 152), .load false 1 (.t 151), none, 56⟩,
  ⟨(some 153), .mov (.t 19), none, 0⟩,
  ⟨(some 154), .indexAddr none 1 (.t 152) (.t 153), none, 248⟩,
  ⟨(some 155), .load false 1 (.t 154), none, 504⟩,
  ⟨(some 156), .indexAddr none 1 (.t 147) (.t 148), none, 1023⟩,
  ⟨none, .store 1 (.t 156) (.t 155), none, 2047⟩]
def c_route_Route_r29 : List AO := [⟨(some 157), .bin .add (.t 141) (.k (.sc (.int .i64 1))), none, 0⟩,
  ⟨(some 141), .mov (.t 157), none, 0⟩]
def c_route_Route_l2 : AC := .seq (.reg c_route_Route_r26 false) (.seq (.cond (.t 142) (.skip) (.exit 6)) (.seq (.blk 7 (.seq (.reg c_route_Route_r27 false) (.reg c_route_Route_r28 true))) (.reg c_route_Route_r29 false)))
def c_route_Route_r30 : List AO := [⟨(some 158), .mov (.t 11), none, 0⟩,
  ⟨(some 159), .mov (.t 11), none, 0⟩,
  ⟨(some 160), .nilCheck (.t 159), none, 2⟩,
  ⟨(some 161), .fieldAddr 0 (.t 160), none, 6⟩,
  ⟨(some 162), .load false 1 (.t 161), none, 14⟩,
  ⟨(some 163), .load true 6 (.t 14), none, 0⟩,
  ⟨(some 164), .buildSlice 6 1 [(.sc (.int .i64 0)), (.sc (.int .i64 0)), (.sc (.slice none 0 0)), (.sc (.int .i64 0)), (.sc (.int .i64 0)), (.sc (.int .i64 0))] [(0, 6, (.t 163))], none, 32⟩,
  ⟨(some 165), .append 6 64 (.t 162) (.t 164), none, 126⟩,
  ⟨(some 166), .nilCheck (.t 158), none, 255⟩,
  ⟨(some 167), .fieldAddr 0 (.t 166), none, 511⟩,
  ⟨none, .store 1 (.t 167) (.t 165), none, 1023⟩]
def c_route_Route_r31 : List AO := [⟨(some 168), .mov (.t 11), none, 0⟩,
  ⟨(some 169), .nilCheck (.t 168), none, 0⟩,
  ⟨(some 170), .fieldAddr 0 (.t 169), none, 0⟩,
  ⟨(some 171), .load false 1 (.t 170), none, 0⟩,
  ⟨(some 172), .len (.t 171), none, 0⟩,
  ⟨(some 173), .bin .gtr (.t 172) (.k (.sc (.int .i64 4096))), none, 0⟩]
def c_route_Route_r32 : List AO := [⟨(some 174), .build [(.sc (.int .i64 0)), (.sc (.int .i64 0)), (.sc (.slice none 0 0)), (.sc (.slice none 0 0)), (.sc (.int .i64 0))] [], none, 0⟩,
  ⟨none, .store 5 (.t 4) (.t 174), none, 0⟩,
  ⟨(some 5), .mov (.k (.sc (.int .i64 201))), none, 0⟩]
def c_route_Route_r33 : List AO := [⟨(some 175), .bin .add (.t 72) (.k (.sc (.int .i64 1))), none, 0⟩,
  ⟨(some 72), .mov (.t 175), none, 0⟩]
def c_route_Route_l3 : AC := .seq (.reg c_route_Route_r18 false) (.seq (.cond (.t 73) (.skip) (.exit 2)) (.seq (.blk 3 (.seq (.reg c_route_Route_r19 false) (.seq (.seq (.reg c_route_Route_r20 false) (.cond (.t 84) (.seq (.reg c_route_Route_r21 true) (.blk 4 (.loop c_route_Route_l1))) (.skip))) (.seq (.seq (.reg c_route_Route_r25 false) (.blk 6 (.loop c_route_Route_l2))) (.seq (.reg c_route_Route_r30 true) (.seq (.reg c_route_Route_r31 false) (.cond (.t 173) (.seq (.reg c_route_Route_r32 false) (.ret)) (.skip)))))))) (.reg c_route_Route_r33 false)))
def c_route_Route_r34 : List AO := [⟨(some 176), .fieldAddr 0 (.t 3), none, 0⟩,
  ⟨(some 177), .load false 1 (.t 176), none, 1⟩,
  ⟨(some 178), .fieldAddr 1 (.t 2), none, 0⟩,
  ⟨(some 179), .load false 1 (.t 178), none, 4⟩,
  ⟨(some 180), .mov (.t 11), none, 0⟩,
  ⟨(some 181), .nilCheck (.t 180), none, 16⟩,
  ⟨(some 182), .fieldAddr 0 (.t 181), none, 48⟩,
  ⟨(some 183), .load false 1 (.t 182), none, 112⟩,
  ⟨(some 184), .build [(.sc (.int .i64 0)), (.sc (.int .i64 0)), (.sc (.slice none 0 0))] [(0, 1, (.t 177)), (1, 1, (.t 179)), (2, 1, (.t 183))], none, 255⟩,
  ⟨(some 185), .mov (.t 11), none, 0⟩,
  ⟨(some 186), .nilCheck (.t 185), none, 512⟩,
  ⟨(some 187), .fieldAddr 1 (.t 186), none, 1536⟩,
  ⟨(some 188), .load false 1 (.t 187), none, 3584⟩,
  ⟨(some 189), .mov (.t 11), none, 0⟩,
  ⟨(some 190), .nilCheck (.t 189), none, 8192⟩,
  ⟨(some 191), .fieldAddr 2 (.t 190), none, 24576⟩,
  ⟨(some 192), .load false 1 (.t 191), none, 57344⟩,
  ⟨(some 193), .build [(.sc (.int .i64 0)), (.sc (.int .i64 0)), (.sc (.slice none 0 0)), (.sc (.slice none 0 0)), (.sc (.int .i64 0))] [(0, 3, (.t 184)), (3, 1, (.t 188)), (4, 1, (.t 192))], none, 131071⟩,
  ⟨none, .store 5 (.t 4) (.t 193), none, 262143⟩,
  ⟨(some 5), .mov (.k (.sc (.int .i64 0))), none, 524287⟩]
def c_route_Route : AFn := { code := .seq (.reg c_route_Route_r0 false) (.seq (.seq (.reg c_route_Route_r1 false) (.seq (.reg c_route_Route_r2 false) (.cond (.t 23) (.seq (.reg c_route_Route_r3 false) (.ret)) (.skip)))) (.seq (.seq (.reg c_route_Route_r4 false) (.seq (.reg c_route_Route_r5 false) (.cond (.t 32) (.seq (.reg c_route_Route_r6 false) (.ret)) (.skip)))) (.seq (.seq (.reg c_route_Route_r7 false) (.cond (.t 44) (.seq (.reg c_route_Route_r8 false) (.ret)) (.skip))) (.seq (.reg c_route_Route_r9 false) (.seq (.reg c_route_Route_r10 false) (.seq (.reg c_route_Route_r11 false) (.seq (.seq (.reg c_route_Route_r12 false) (.blk 0 (.loop c_route_Route_l0))) (.seq (.seq (.reg c_route_Route_r17 false) (.blk 2 (.loop c_route_Route_l3))) (.seq (.reg c_route_Route_r34 true) (.ret)))))))))), ntmps := 194, results := [.cell true 5 4, .tmp 5] }
/-- 28 phasor/phasorref20.Route -/
def c_phasorref20_Route_r0 : List AO := [⟨(some 2), .box (.t 0), none, 0⟩,
  ⟨(some 3), .box (.t 1), none, 0⟩,
  ⟨(some 4), .alloc [(.sc (.int .i64 0)), (.sc (.int .i64 0)), (.sc (.slice none 0 0)), (.sc (.slice none 0 0)), (.sc (.int .i64 0))], none, 0⟩,
  ⟨(some 5), .mov (.k (.sc (.int .i64 0))), none, 0⟩]
def c_phasorref20_Route_r1 : List AO := [⟨(some 15), .load true 2 (.t 3), none, 0⟩,
  ⟨(some 16), .call (.k (.fn (.func f_phasorref20_Right) [] [])) [(.t 15)], none, 0⟩,
  ⟨(some 17), .un .not (.t 16), none, 0⟩]
def c_phasorref20_Route_r2 : List AO := [⟨(some 18), .build [(.sc (.int .i64 0)), (.sc (.int .i64 0)), (.sc (.slice none 0 0)), (.sc (.slice none 0 0)), (.sc (.int .i64 0))] [], none, 0⟩,
  ⟨none, .store 5 (.t 4) (.t 18), none, 0⟩,
  ⟨(some 5), .mov (.k (.sc (.int .i64 200))), none, 0⟩]
def c_phasorref20_Route_r3 : List AO := [⟨(some 19), .load true 3 (.t 2), none, 0⟩,
  ⟨(some 20), .call (.k (.fn (.func f_phasorref08_May) [] [])) [(.t 19)], none, 0⟩,
  ⟨(some 21), .un .not (.t 20), none, 0⟩]
def c_phasorref20_Route_r4 : List AO := [⟨(some 22), .build [(.sc (.int .i64 0)), (.sc (.int .i64 0)), (.sc (.slice none 0 0)), (.sc (.slice none 0 0)), (.sc (.int .i64 0))] [], none, 0⟩,
  ⟨none, .store 5 (.t 4) (.t 22), none, 0⟩,
  ⟨(some 5), .mov (.k (.sc (.int .i64 80))), none, 0⟩]
def c_phasorref20_Route_r5 : List AO := [⟨(some 23), .fieldAddr 0 (.t 2), none, 0⟩,
  ⟨(some 24), .load false 1 (.t 23), none, 0⟩,
  ⟨(some 25), .fieldAddr 0 (.t 3), none, 0⟩,
  ⟨(some 26), .load false 1 (.t 25), none, 0⟩,
  ⟨(some 27), .bin .gtr (.t 24) (.t 26), none, 0⟩]
def c_phasorref20_Route_r6 : List AO := [⟨(some 28), .build [(.sc (.int .i64 0)), (.sc (.int .i64 0)), (.sc (.slice none 0 0)), (.sc (.slice none 0 0)), (.sc (.int .i64 0))] [], none, 0⟩,
  ⟨none, .store 5 (.t 4) (.t 28), none, 0⟩,
  ⟨(some 5), .mov (.k (.sc (.int .i64 201))), none, 0⟩]
def c_phasorref20_Route_r7 : List AO := [⟨(some 29), .load true 2 (.t 3), none, 0⟩,
  ⟨(some 30), .call (.k (.fn (.func f_phasorref20_far) [] [])) [(.t 29)], none, 0⟩,
  ⟨(some 6), .mov (.t 30), none, 0⟩]
def c_phasorref20_Route_r8 : List AO := [⟨(some 31), .fieldAddr 0 (.t 3), none, 0⟩,
  ⟨(some 32), .load false 1 (.t 31), none, 0⟩,
  ⟨(some 33), .fieldAddr 1 (.t 2), none, 0⟩,
  ⟨(some 34), .load false 1 (.t 33), none, 0⟩,
  ⟨(some 35), .build [(.sc (.int .i64 0)), (.sc (.int .i64 0)), (.sc (.slice none 0 0))] [(0, 1, (.t 32)), (1, 1, (.t 34))], none, 0⟩,
  ⟨(some 36), .build [(.sc (.int .i64 0)), (.sc (.int .i64 0)), (.sc (.slice none 0 0)), (.sc (.slice none 0 0)), (.sc (.int .i64 0))] [(0, 3, (.t 35))], none, 0⟩,
  ⟨(some 37), .box (.t 36), none, 0⟩,
  ⟨(some 7), .mov (.t 37), none, 0⟩]
def c_phasorref20_Route_r9 : List AO := [⟨(some 8), .mov (.k (.sc (.int .i64 0))), none, 0⟩]
def c_phasorref20_Route_r10 : List AO := [⟨(some 38), .mov (.t 8), none, 0⟩,
  ⟨(some 39), .fieldAddr 0 (.t 2), none, 0⟩,
  ⟨(some 40), .load false 1 (.t 39), none, 0⟩,
  ⟨(some 41), .bin .lss (.t 38) (.t 40), none, 0⟩]
def c_phasorref20_Route_r11 : List AO := [⟨(some 44), .mov (.t 7), none, 0⟩,
  ⟨(some 45), .mov (.t 7), none, 0⟩,
  ⟨(some 46), .nilCheck (.t 45), none, 0⟩,
  ⟨(some 47), .fieldAddr 3 (.t 46), none, 0⟩,
  ⟨(some 48), .load false 1 (.t 47), none, 0⟩,
  ⟨(some 49), .mov (.t 8), none, 0⟩,
  ⟨(some 50), .buildSlice 1 1 [(.sc (.int .i64 0))] [(0, 1, (.t 49))], none, 0⟩,
  ⟨(some 51), .append 1 8 (.t 48) (.t 50), none, 0⟩,
  ⟨(some 52), .nilCheck (.t 44), none, 0⟩,
  ⟨(some 53), .fieldAddr 3 (.t 52), none, 0⟩,
  ⟨none, .store 1 (.t 53) (.t 51), none, 0⟩]
def c_phasorref20_Route_r12 : List AO := [⟨(some 42), .mov (.t 8), none, 0⟩,
  ⟨(some 43), .bin .add (.t 42) (.k (.sc (.int .i64 1))), none, 0⟩,
  ⟨(some 8), .mov (.t 43), none, 0⟩]
def c_phasorref20_Route_l0 : AC := .seq (.seq (.reg c_phasorref20_Route_r10 false) (.cond (.t 41) (.skip) (.exit 0))) (.seq (.blk 1 (.reg c_phasorref20_Route_r11 false)) (.reg c_phasorref20_Route_r12 false))
def c_phasorref20_Route_r13 : List AO := [⟨(some 9), .mov (.k (.sc (.int .i64 0))), none, 0⟩]
def c_phasorref20_Route_r14 : List AO := [⟨(some 54), .mov (.t 9), none, 0⟩,
  ⟨(some 55), .fieldAddr 2 (.t 2), none, 0⟩,
  ⟨(some 56), .load false 1 (.t 55), none, 0⟩,
  ⟨(some 57), .len (.t 56), none, 0⟩,
  ⟨(some 58), .bin .lss (.t 54) (.t 57), none, 0⟩]
def c_phasorref20_Route_r15 : List AO := [⟨(some 61), .fieldAddr 2 (.t 2), none, 0⟩,
  ⟨(some 62), .load false 1 (.t 61), none, 0⟩,
  ⟨(some 63), .mov (.t 9), none, 0⟩,
  ⟨(some 64), .indexAddr none 6 (.t 62) (.t 63), none, 0⟩,
  ⟨(some 65), .load true 6 (.t 64), none, 0⟩,
  ⟨(some 10), .alloc [(.sc (.int .i64 0)), (.sc (.int .i64 0)), (.sc (.slice none 0 0)), (.sc (.int .i64 0)), (.sc (.int .i64 0)), (.sc (.int .i64 0))], none, 0⟩,
  ⟨none, .store 6 (.t 10) (.t 65), none, 0⟩]
def c_phasorref20_Route_r16 : List AO := [⟨(some 66), .fieldAddr 0 (.t 10), none, 0⟩,
  ⟨(some 67), .load false 1 (.t 66), none, 0⟩,
  ⟨(some 68), .bin .eql (.t 67) (.k (.sc (.int .i64 1))), none, 0⟩,
  ⟨(some 69), .mov (.t 68), none, 0⟩,
  ⟨(some 70), .fieldAddr 2 (.t 10), (some ((some 69), true)), 0⟩,
  ⟨(some 71), .load false 1 (.t 70), (some ((some 69), true)), 0⟩,
  ⟨(some 72), .len (.t 71), (some ((some 69), true)), 0⟩,
  ⟨(some 73), .bin .gtr (.t 72) (.k (.sc (.int .i64 2))), (some ((some 69), true)), 0⟩,
  ⟨(some 74), .pick (.t 69) (.t 73) (.k (.sc (.bool false))), none, 0⟩]
def c_phasorref20_Route_r17 : List AO := [⟨(some 75), .build [(.sc (.int .i64 0)), (.sc (.int .i64 0)), (.sc (.slice none 0 0)), (.sc (.slice none 0 0)), (.sc (.int .i64 0))] [], none, 0⟩,
  ⟨none, .store 5 (.t 4) (.t 75), none, 0⟩,
  ⟨(some 5), .mov (.k (.sc (.int .i64 201))), none, 0⟩]
def c_phasorref20_Route_r18 : List AO := [⟨(some 76), .fieldAddr 0 (.t 10), none, 0⟩,
  ⟨(some 77), .load false 1 (.t 76), none, 1⟩,
  ⟨(some 78), .bin .eql (.t 77) (.k (.sc (.int .i64 1))), none, 3⟩,
  ⟨(some 79), .mov (.t 78), none, 7⟩,
  ⟨(some 80), .fieldAddr 2 (.t 10), (some ((some 79), true)), 15⟩,
  ⟨(some 81), .load false 1 (.t 80), (some ((some 79), true)), 31⟩,
  ⟨(some 82), .len (.t 81), (some ((some 79), true)), 63⟩,
  ⟨(some 83), .bin .eql (.t 82) (.k (.sc (.int .i64 2))), (some ((some 79), true)), 127⟩,
  ⟨(some 84), .pick (.t 79) (.t 83) (.k (.sc (.bool false))), none, 255⟩,
  ⟨(some 85), .mov (.t 84), none, 511⟩,
  ⟨(some 86), .mov (.t 6), (some ((some 85), true)), 1023⟩,
  ⟨(some 87), .mov (.t 7), (some ((some 85), true)), 1023⟩,
  ⟨(some 88), .nilCheck (.t 87), (some ((some 85), true)), 3071⟩,
  ⟨(some 89), .fieldAddr 3 (.t 88), (some ((some 85), true)), 7167⟩,
  ⟨(some 90), .load false 1 (.t 89), (some ((some 85), true)), 15359⟩,
  ⟨(some 91), .fieldAddr 2 (.t 10), (some ((some 85), true)), 1023⟩,
  ⟨(some 92), .load false 1 (.t 91), (some ((some 85), true)), 33791⟩,
  ⟨(some 93), .indexAddr none 1 (.t 92) (.k (.sc (.int .i64 0))), (some ((some 85), true)), 99327⟩,
  ⟨(some 94), .load false 1 (.t 93), (some ((some 85), true)), 230399⟩,
  ⟨(some 95), .indexAddr none 1 (.t 90) (.t 94), (some ((some 85), true)), 523263⟩,
  ⟨(some 96), .load false 1 (.t 95), (some ((some 85), true)), 1047551⟩,
  ⟨(some 97), .indexAddr none 1 (.t 86) (.t 96), (some ((some 85), true)), 2097151⟩,
  ⟨(some 98), .load false 1 (.t 97), (some ((some 85), true)), 4194303⟩,
  ⟨(some 99), .mov (.t 7), (some ((some 85), true)), 1023⟩,
  ⟨(some 100), .nilCheck (.t 99), (some ((some 85), true)), 8389631⟩,
  ⟨(some 101), .fieldAddr 3 (.t 100), (some ((some 85), true)), 25166847⟩,
  ⟨(some 102), .load false 1 (.t 101), (some ((some 85), true)), 58721279⟩,
  ⟨(some 103), .fieldAddr 2 (.t 10), (some ((some 85), true)), 1023⟩,
  ⟨(some 104), .load false 1 (.t 103), (some ((some 85), true)), 134218751⟩,
  ⟨(some 105), .indexAddr none 1 (.t 104) (.k (.sc (.int .i64 1))), (some ((some 85), true)), 402654207⟩,
  ⟨(some 106), .load false 1 (.t 105), (some ((some 85), true)), 939525119⟩,
  ⟨(some 107), .indexAddr none 1 (.t 102) (.t 106), (some ((some 85), true)), 2139096063⟩,
  ⟨(some 108), .load false 1 (.t 107), (some ((some 85), true)), 4286579711⟩,
  ⟨(some 109), .indexAddr none 1 (.t 98) (.t 108), (some ((some 85), true)), 8589934591⟩,
  ⟨(some 110), .load false 1 (.t 109), (some ((some 85), true)), 17179869183⟩,
  ⟨(some 111), .bin .gtr (.t 110) (.k (.sc (.int .i64 1))), (some ((some 85), true)), 34359738367⟩,
  ⟨(some 112), .pick (.t 85) (.t 111) (.k (.sc (.bool false))), none, 68719476735⟩]
def c_phasorref20_Route_r19 : List AO := [⟨(some 113), .mov (.t 7), none, 0⟩,
  ⟨(some 114), .nilCheck (.t 113), none, 1⟩,
  ⟨(some 115), .fieldAddr 3 (.t 114), none, 3⟩,
  ⟨(some 116), .load false 1 (.t 115), none, 7⟩,
  ⟨(some 117), .fieldAddr 2 (.t 10), none, 0⟩,
  ⟨(some 118), .load false 1 (.t 117), none, 16⟩,
  ⟨(some 119), .indexAddr none 1 (.t 118) (.k (.sc (.int .i64 0))), none, 48⟩,
  ⟨(some 120), .load false 1 (.t 119), none, 112⟩,
  ⟨(some 121), .indexAddr none 1 (.t 116) (.t 120), none, 255⟩,
  ⟨(some 122), .load false 1 (.t 121), none, 511⟩,
  ⟨(some 123), .mov (.t 7), none, 0⟩,
  ⟨(some 124), .nilCheck (.t 123), none, 1024⟩,
  ⟨(some 125), .fieldAddr 3 (.t 124), none, 3072⟩,
  ⟨(some 126), .load false 1 (.t 125), none, 7168⟩,
  ⟨(some 127), .fieldAddr 2 (.t 10), none, 0⟩,
  ⟨(some 128), .load false 1 (.t 127), none, 16384⟩,
  ⟨(some 129), .indexAddr none 1 (.t 128) (.k (.sc (.int .i64 1))), none, 49152⟩,
  ⟨(some 130), .load false 1 (.t 129), none, 114688⟩,
  ⟨(some 131), .indexAddr none 1 (.t 126) (.t 130), none, 261120⟩,
  ⟨(some 132), .load false 1 (.t 131), none, 523264⟩,
  ⟨(some 11), .mov (.t 122), none, 1023⟩,
  ⟨(some 12), .mov (.t 132), none, 2097151⟩]
def c_phasorref20_Route_r20 : List AO := [⟨(some 133), .mov (.t 7), none, 0⟩,
  ⟨(some 134), .mov (.t 11), none, 0⟩,
  ⟨(some 135), .mov (.t 6), none, 0⟩,
  ⟨(some 136), .mov (.t 11), none, 0⟩,
  ⟨(some 137), .mov (.t 12), none, 0⟩,
  ⟨(some 138), .call (.k (.fn (.func f_phasorref20_step) [] [])) [(.t 135), (.t 136), (.t 137)], none, 0⟩,
  ⟨(some 139), .call (.k (.fn (.func f_phasorref20_laid_swap) [] [])) [(.t 133), (.t 134), (.t 138)], none, 0⟩]
def c_phasorref20_Route_l1 : AC := .seq (.seq (.reg c_phasorref20_Route_r18 true) (.cond (.t 112) (.skip) (.exit 4))) (.blk 5 (.seq (.reg c_phasorref20_Route_r19 true) (.reg c_phasorref20_Route_r20 false)))
def c_phasorref20_Route_r21 : List AO := [⟨(some 13), .mov (.k (.sc (.slice none 0 0))), none, 0⟩]
def c_phasorref20_Route_r22 : List AO := [⟨(some 14), .mov (.k (.sc (.int .i64 0))), none, 0⟩]
def c_phasorref20_Route_r23 : List AO := [⟨(some 140), .mov (.t 14), none, 0⟩,
  ⟨(some 141), .fieldAddr 2 (.t 10), none, 0⟩,
  ⟨(some 142), .load false 1 (.t 141), none, 0⟩,
  ⟨(some 143), .len (.t 142), none, 0⟩,
  ⟨(some 144), .bin .lss (.t 140) (.t 143), none, 0⟩]
def c_phasorref20_Route_r24 : List AO := [⟨(some 147), .mov (.t 13), none, 0⟩,
  ⟨(some 148), .mov (.t 7), none, 0⟩,
  ⟨(some 149), .nilCheck (.t 148), none, 2⟩,
  ⟨(some 150), .fieldAddr 3 (.t 149), none, 6⟩,
  ⟨(some 151), .load false 1 (.t 150), none, 14⟩,
  ⟨(some 152), .fieldAddr 2 (.t 10), none, 0⟩,
  ⟨(some 153), .load false 1 (.t 152), none, 32⟩,
  ⟨(some 154), .mov (.t 14), none, 0⟩,
  ⟨(some 155), .indexAddr none 1 (.t 153) (.t 154), none, 224⟩,
  ⟨(some 156), .load false 1 (.t 155), none, 480⟩,
  ⟨(some 157), .indexAddr none 1 (.t 151) (.t 156), none, 1022⟩,
  ⟨(some 158), .load false 1 (.t 157), none, 2046⟩,
  ⟨(some 159), .buildSlice 1 1 [(.sc (.int .i64 0))] [(0, 1, (.t 158))], none, 4094⟩,
  ⟨(some 160), .append 1 8 (.t 147) (.t 159), none, 8191⟩,
  ⟨(some 13), .mov (.t 160), none, 16383⟩]
def c_phasorref20_Route_r25 : List AO := [⟨(some 145), .mov (.t 14), none, 0⟩,
  ⟨(some 146), .bin .add (.t 145) (.k (.sc (.int .i64 1))), none, 0⟩,
  ⟨(some 14), .mov (.t 146), none, 0⟩]
def c_phasorref20_Route_l2 : AC := .seq (.seq (.reg c_phasorref20_Route_r23 false) (.cond (.t 144) (.skip) (.exit 6))) (.seq (.blk 7 (.reg c_phasorref20_Route_r24 true)) (.reg c_phasorref20_Route_r25 false))
def c_phasorref20_Route_r26 : List AO := [⟨(some 161), .mov (.t 13), none, 0⟩,
  ⟨(some 162), .fieldAddr 2 (.t 10), none, 0⟩,
  ⟨none, .store 1 (.t 162) (.t 161), none, 0⟩]
def c_phasorref20_Route_r27 : List AO := [⟨(some 163), .mov (.t 7), none, 0⟩,
  ⟨(some 164), .mov (.t 7), none, 0⟩,
  ⟨(some 165), .nilCheck (.t 164), none, 2⟩,
  ⟨(some 166), .fieldAddr 0 (.t 165), none, 6⟩,
  ⟨(some 167), .fieldAddr 2 (.t 166), none, 14⟩,
  ⟨(some 168), .load false 1 (.t 167), none, 30⟩,
  ⟨(some 169), .load true 6 (.t 10), none, 0⟩,
  ⟨(some 170), .buildSlice 6 1 [(.sc (.int .i64 0)), (.sc (.int .i64 0)), (.sc (.slice none 0 0)), (.sc (.int .i64 0)), (.sc (.int .i64 0)), (.sc (.int .i64 0))] [(0, 6, (.t 169))], none, 64⟩,
  ⟨(some 171), .append 6 64 (.t 168) (.t 170), none, 254⟩,
  ⟨(some 172), .nilCheck (.t 163), none, 511⟩,
  ⟨(some 173), .fieldAddr 0 (.t 172), none, 1023⟩,
  ⟨(some 174), .fieldAddr 2 (.t 173), none, 2047⟩,
  ⟨none, .store 1 (.t 174) (.t 171), none, 4095⟩]
def c_phasorref20_Route_r28 : List AO := [⟨(some 59), .mov (.t 9), none, 0⟩,
  ⟨(some 60), .bin .add (.t 59) (.k (.sc (.int .i64 1))), none, 0⟩,
  ⟨(some 9), .mov (.t 60), none, 0⟩]
def c_phasorref20_Route_l3 : AC := .seq (.seq (.reg c_phasorref20_Route_r14 false) (.cond (.t 58) (.skip) (.exit 2))) (.seq (.blk 3 (.seq (.reg c_phasorref20_Route_r15 false) (.seq (.seq (.reg c_phasorref20_Route_r16 false) (.cond (.t 74) (.seq (.reg c_phasorref20_Route_r17 false) (.ret)) (.skip))) (.seq (.blk 4 (.loop c_phasorref20_Route_l1)) (.seq (.reg c_phasorref20_Route_r21 false) (.seq (.seq (.reg c_phasorref20_Route_r22 false) (.blk 6 (.loop c_phasorref20_Route_l2))) (.seq (.reg c_phasorref20_Route_r26 false) (.reg c_phasorref20_Route_r27 true)))))))) (.reg c_phasorref20_Route_r28 false))
def c_phasorref20_Route_r29 : List AO := [⟨(some 175), .mov (.t 7), none, 0⟩,
  ⟨(some 176), .call (.k (.fn (.func f_phasorref20_laid_routed) [] [])) [(.t 175)], none, 0⟩,
  ⟨(some 177), .extract (.t 176) 0, none, 0⟩,
  ⟨(some 178), .extract (.t 176) 1, none, 0⟩,
  ⟨none, .store 5 (.t 4) (.t 177), none, 0⟩,
  ⟨(some 5), .mov (.t 178), none, 0⟩]
def c_phasorref20_Route : AFn := { code := .seq (.reg c_phasorref20_Route_r0 false) (.seq (.seq (.reg c_phasorref20_Route_r1 false) (.cond (.t 17) (.seq (.reg c_phasorref20_Route_r2 false) (.ret)) (.skip))) (.seq (.seq (.reg c_phasorref20_Route_r3 false) (.cond (.t 21) (.seq (.reg c_phasorref20_Route_r4 false) (.ret)) (.skip))) (.seq (.seq (.reg c_phasorref20_Route_r5 false) (.cond (.t 27) (.seq (.reg c_phasorref20_Route_r6 false) (.ret)) (.skip))) (.seq (.reg c_phasorref20_Route_r7 false) (.seq (.reg c_phasorref20_Route_r8 false) (.seq (.seq (.reg c_phasorref20_Route_r9 false) (.blk 0 (.loop c_phasorref20_Route_l0))) (.seq (.seq (.reg c_phasorref20_Route_r13 false) (.blk 2 (.loop c_phasorref20_Route_l3))) (.seq (.reg c_phasorref20_Route_r29 false) (.ret))))))))), ntmps := 179, results := [.cell true 5 4, .tmp 5] }
/-- 29 phasor/phasorlaw20.routed -/
def c_phasorlaw20_routed_r0 : List AO := [⟨(some 2), .box (.t 0), none, 0⟩,
  ⟨(some 3), .box (.t 1), none, 0⟩,
  ⟨(some 4), .mov (.k (.sc (.bool false))), none, 0⟩]
def c_phasorlaw20_routed_r1 : List AO := [⟨(some 5), .fieldAddr 0 (.t 2), none, 0⟩,
  ⟨(some 6), .load true 3 (.t 5), none, 0⟩,
  ⟨(some 7), .fieldAddr 0 (.t 3), none, 0⟩,
  ⟨(some 8), .load true 3 (.t 7), none, 0⟩,
  ⟨(some 9), .call (.k (.fn (.func f_phasorref08_Same) [] [])) [(.t 6), (.t 8)], none, 0⟩,
  ⟨(some 10), .mov (.t 9), none, 0⟩,
  ⟨(some 11), .fieldAddr 3 (.t 2), (some ((some 10), true)), 0⟩,
  ⟨(some 12), .load false 1 (.t 11), (some ((some 10), true)), 0⟩,
  ⟨(some 13), .fieldAddr 3 (.t 3), (some ((some 10), true)), 0⟩,
  ⟨(some 14), .load false 1 (.t 13), (some ((some 10), true)), 0⟩,
  ⟨(some 15), .call (.k (.fn (.func f_phasorlaw20_ints) [] [])) [(.t 12), (.t 14)], (some ((some 10), true)), 0⟩,
  ⟨(some 16), .pick (.t 10) (.t 15) (.k (.sc (.bool false))), none, 0⟩,
  ⟨(some 17), .mov (.t 16), none, 0⟩,
  ⟨(some 18), .fieldAddr 4 (.t 2), (some ((some 17), true)), 0⟩,
  ⟨(some 19), .load false 1 (.t 18), (some ((some 17), true)), 0⟩,
  ⟨(some 20), .fieldAddr 4 (.t 3), (some ((some 17), true)), 0⟩,
  ⟨(some 21), .load false 1 (.t 20), (some ((some 17), true)), 0⟩,
  ⟨(some 22), .bin .eql (.t 19) (.t 21), (some ((some 17), true)), 0⟩,
  ⟨(some 23), .pick (.t 17) (.t 22) (.k (.sc (.bool false))), none, 0⟩,
  ⟨(some 4), .mov (.t 23), none, 0⟩]
def c_phasorlaw20_routed : AFn := { code := .seq (.reg c_phasorlaw20_routed_r0 false) (.seq (.reg c_phasorlaw20_routed_r1 false) (.ret)), ntmps := 24, results := [.tmp 4] }
/-- 30 phasor/phasorref08.Same -/
def c_phasorref08_Same_r0 : List AO := [⟨(some 2), .box (.t 0), none, 0⟩,
  ⟨(some 3), .box (.t 1), none, 0⟩,
  ⟨(some 4), .mov (.k (.sc (.bool false))), none, 0⟩]
def c_phasorref08_Same_r1 : List AO := [⟨(some 6), .fieldAddr 0 (.t 2), none, 0⟩,
  ⟨(some 7), .load false 1 (.t 6), none, 0⟩,
  ⟨(some 8), .fieldAddr 0 (.t 3), none, 0⟩,
  ⟨(some 9), .load false 1 (.t 8), none, 0⟩,
  ⟨(some 10), .bin .neq (.t 7) (.t 9), none, 0⟩,
  ⟨(some 11), .mov (.t 10), none, 0⟩,
  ⟨(some 12), .fieldAddr 1 (.t 2), (some ((some 11), false)), 0⟩,
  ⟨(some 13), .load false 1 (.t 12), (some ((some 11), false)), 0⟩,
  ⟨(some 14), .fieldAddr 1 (.t 3), (some ((some 11), false)), 0⟩,
  ⟨(some 15), .load false 1 (.t 14), (some ((some 11), false)), 0⟩,
  ⟨(some 16), .bin .neq (.t 13) (.t 15), (some ((some 11), false)), 0⟩,
  ⟨(some 17), .pick (.t 11) (.k (.sc (.bool true))) (.t 16), none, 0⟩,
  ⟨(some 18), .mov (.t 17), none, 0⟩,
  ⟨(some 19), .fieldAddr 2 (.t 2), (some ((some 18), false)), 0⟩,
  ⟨(some 20), .load false 1 (.t 19), (some ((some 18), false)), 0⟩,
  ⟨(some 21), .len (.t 20), (some ((some 18), false)), 0⟩,
  ⟨(some 22), .fieldAddr 2 (.t 3), (some ((some 18), false)), 0⟩,
  ⟨(some 23), .load false 1 (.t 22), (some ((some 18), false)), 0⟩,
  ⟨(some 24), .len (.t 23), (some ((some 18), false)), 0⟩,
  ⟨(some 25), .bin .neq (.t 21) (.t 24), (some ((some 18), false)), 0⟩,
  ⟨(some 26), .pick (.t 18) (.k (.sc (.bool true))) (.t 25), none, 0⟩]
def c_phasorref08_Same_r2 : List AO := [⟨(some 4), .mov (.k (.sc (.bool false))), none, 0⟩]
def c_phasorref08_Same_r3 : List AO := [⟨(some 5), .mov (.k (.sc (.int .i64 0))), none, 0⟩]
def c_phasorref08_Same_r4 : List AO := [⟨(some 27), .mov (.t 5), none, 0⟩,
  ⟨(some 28), .fieldAddr 2 (.t 2), none, 0⟩,
  ⟨(some 29), .load false 1 (.t 28), none, 0⟩,
  ⟨(some 30), .len (.t 29), none, 0⟩,
  ⟨(some 31), .bin .lss (.t 27) (.t 30), none, 0⟩]
def c_phasorref08_Same_r5 : List AO := [⟨(some 34), .fieldAddr 2 (.t 2), none, 0⟩,
  ⟨(some 35), .load false 1 (.t 34), none, 1⟩,
  ⟨(some 36), .mov (.t 5), none, 0⟩,
  ⟨(some 37), .indexAddr none 6 (.t 35) (.t 36), none, 7⟩,
  ⟨(some 38), .load true 6 (.t 37), none, 15⟩,
  ⟨(some 39), .fieldAddr 2 (.t 3), none, 0⟩,
  ⟨(some 40), .load false 1 (.t 39), none, 32⟩,
  ⟨(some 41), .mov (.t 5), none, 0⟩,
  ⟨(some 42), .indexAddr none 6 (.t 40) (.t 41), none, 224⟩,
  ⟨(some 43), .load true 6 (.t 42), none, 480⟩,
  ⟨(some 44), .call (.k (.fn (.func f_phasorref08_SameOp) [] [])) [(.t 38), (.t 43)], none, 1023⟩,
  ⟨(some 45), .un .not (.t 44), none, 2047⟩]
def c_phasorref08_Same_r6 : List AO := [⟨(some 4), .mov (.k (.sc (.bool false))), none, 0⟩]
def c_phasorref08_Same_r7 : List AO := [⟨(some 32), .mov (.t 5), none, 0⟩,
  ⟨(some 33), .bin .add (.t 32) (.k (.sc (.int .i64 1))), none, 0⟩,
  ⟨(some 5), .mov (.t 33), none, 0⟩]
def c_phasorref08_Same_l0 : AC := .seq (.seq (.reg c_phasorref08_Same_r4 false) (.cond (.t 31) (.skip) (.exit 0))) (.seq (.blk 1 (.seq (.reg c_phasorref08_Same_r5 true) (.cond (.t 45) (.seq (.reg c_phasorref08_Same_r6 false) (.ret)) (.skip)))) (.reg c_phasorref08_Same_r7 false))
def c_phasorref08_Same_r8 : List AO := [⟨(some 4), .mov (.k (.sc (.bool true))), none, 0⟩]
def c_phasorref08_Same : AFn := { code := .seq (.reg c_phasorref08_Same_r0 false) (.seq (.seq (.reg c_phasorref08_Same_r1 false) (.cond (.t 26) (.seq (.reg c_phasorref08_Same_r2 false) (.ret)) (.skip))) (.seq (.seq (.reg c_phasorref08_Same_r3 false) (.blk 0 (.loop c_phasorref08_Same_l0))) (.seq (.reg c_phasorref08_Same_r8 false) (.ret)))), ntmps := 46, results := [.tmp 4] }
/-- 31 phasor/route.Home -/
def c_route_Home_r0 : List AO := [⟨(some 2), .box (.t 0), none, 0⟩,
  ⟨(some 3), .box (.t 1), none, 0⟩,
  ⟨(some 4), .alloc [(.sc (.int .i64 0)), (.sc (.int .i64 0)), (.sc (.slice none 0 0)), (.sc (.slice none 0 0)), (.sc (.int .i64 0))], none, 0⟩,
  ⟨(some 5), .mov (.k (.sc (.int .i64 0))), none, 0⟩]
def c_route_Home_r1 : List AO := [⟨(some 24), .load true 2 (.t 3), none, 0⟩,
  ⟨(some 25), .call (.k (.fn (.func f_route_Check) [] [])) [(.t 24)], none, 0⟩,
  ⟨(some 6), .mov (.t 25), none, 0⟩]
def c_route_Home_r2 : List AO := [⟨(some 26), .mov (.t 6), none, 0⟩,
  ⟨(some 27), .bin .neq (.t 26) (.k (.sc (.int .i64 0))), none, 0⟩]
def c_route_Home_r3 : List AO := [⟨(some 28), .build [(.sc (.int .i64 0)), (.sc (.int .i64 0)), (.sc (.slice none 0 0)), (.sc (.slice none 0 0)), (.sc (.int .i64 0))] [], none, 0⟩,
  ⟨(some 29), .mov (.t 6), none, 0⟩,
  ⟨none, .store 5 (.t 4) (.t 28), none, 0⟩,
  ⟨(some 5), .mov (.t 29), none, 0⟩]
def c_route_Home_r4 : List AO := [⟨(some 31), .fieldAddr 0 (.t 2), none, 0⟩,
  ⟨(some 32), .load true 3 (.t 31), none, 0⟩,
  ⟨(some 33), .call (.k (.fn (.func f_circuit_Check) [] [])) [(.t 32)], none, 0⟩,
  ⟨(some 30), .mov (.t 33), none, 0⟩,
  ⟨(some 34), .extract (.t 30) 0, none, 0⟩,
  ⟨(some 35), .extract (.t 30) 1, none, 0⟩,
  ⟨(some 7), .mov (.t 34), none, 0⟩,
  ⟨(some 8), .mov (.t 35), none, 0⟩]
def c_route_Home_r5 : List AO := [⟨(some 36), .mov (.t 8), none, 0⟩,
  ⟨(some 37), .bin .neq (.t 36) (.k (.sc (.int .i64 0))), none, 0⟩,
  ⟨(some 38), .mov (.t 37), none, 0⟩,
  ⟨(some 39), .fieldAddr 0 (.t 2), (some ((some 38), false)), 0⟩,
  ⟨(some 40), .fieldAddr 0 (.t 39), (some ((some 38), false)), 0⟩,
  ⟨(some 41), .load false 1 (.t 40), (some ((some 38), false)), 0⟩,
  ⟨(some 42), .fieldAddr 0 (.t 3), (some ((some 38), false)), 0⟩,
  ⟨(some 43), .load false 1 (.t 42), (some ((some 38), false)), 0⟩,
  ⟨(some 44), .bin .neq (.t 41) (.t 43), (some ((some 38), false)), 0⟩,
  ⟨(some 45), .pick (.t 38) (.k (.sc (.bool true))) (.t 44), none, 0⟩,
  ⟨(some 46), .mov (.t 45), none, 0⟩,
  ⟨(some 47), .fieldAddr 3 (.t 2), (some ((some 46), false)), 0⟩,
  ⟨(some 48), .load false 1 (.t 47), (some ((some 46), false)), 0⟩,
  ⟨(some 49), .len (.t 48), (some ((some 46), false)), 0⟩,
  ⟨(some 50), .fieldAddr 0 (.t 3), (some ((some 46), false)), 0⟩,
  ⟨(some 51), .load false 1 (.t 50), (some ((some 46), false)), 0⟩,
  ⟨(some 52), .bin .gtr (.t 49) (.t 51), (some ((some 46), false)), 0⟩,
  ⟨(some 53), .pick (.t 46) (.k (.sc (.bool true))) (.t 52), none, 0⟩]
def c_route_Home_r6 : List AO := [⟨(some 54), .build [(.sc (.int .i64 0)), (.sc (.int .i64 0)), (.sc (.slice none 0 0)), (.sc (.slice none 0 0)), (.sc (.int .i64 0))] [], none, 0⟩,
  ⟨none, .store 5 (.t 4) (.t 54), none, 0⟩,
  ⟨(some 5), .mov (.k (.sc (.int .i64 201))), none, 0⟩]
def c_route_Home_r7 : List AO := [⟨(some 55), .fieldAddr 3 (.t 2), none, 0⟩,
  ⟨(some 56), .load false 1 (.t 55), none, 0⟩,
  ⟨(some 57), .len (.t 56), none, 0⟩,
  ⟨(some 58), .mov (.k (.sc (.int .i64 0))), none, 0⟩]
def c_route_Home_r8 : List AO := [⟨(some 59), .bin .lss (.t 58) (.t 57), none, 0⟩]
def c_route_Home_r9 : List AO := [⟨(some 60), .mov (.t 58), none, 0⟩,
  ⟨(some 61), .indexAddr none 1 (.t 56) (.t 58), none, 0⟩,
  ⟨(some 62), .load false 1 (.t 61), none, 0⟩,
  ⟨(some 9), .mov (.t 60), none, 0⟩,
  ⟨(some 10), .mov (.t 62), none, 0⟩]
def c_route_Home_r10 : List AO := [⟨(some 63), .mov (.t 10), none, 0⟩,
  ⟨(some 64), .bin .lss (.t 63) (.k (.sc (.int .i64 0))), none, 0⟩,
  ⟨(some 65), .mov (.t 64), none, 0⟩,
  ⟨(some 66), .mov (.t 10), (some ((some 65), false)), 0⟩,
  ⟨(some 67), .fieldAddr 0 (.t 3), (some ((some 65), false)), 0⟩,
  ⟨(some 68), .load false 1 (.t 67), (some ((some 65), false)), 0⟩,
  ⟨(some 69), .bin .geq (.t 66) (.t 68), (some ((some 65), false)), 0⟩,
  ⟨(some 70), .pick (.t 65) (.k (.sc (.bool true))) (.t 69), none, 0⟩,
  ⟨(some 71), .mov (.t 70), none, 0⟩,
  ⟨(some 72), .fieldAddr 3 (.t 2), (some ((some 71), false)), 0⟩,
  ⟨(some 73), .load false 1 (.t 72), (some ((some 71), false)), 0⟩,
  ⟨(some 74), .mov (.t 9), (some ((some 71), false)), 0⟩,
  ⟨(some 75), .slice 1 (.t 73) none (some (.t 74)) none, (some ((some 71), false)), 0⟩,
  ⟨(some 76), .mov (.t 10), (some ((some 71), false)), 0⟩,
  ⟨(some 77), .call (.k (.fn (.func f_slices_Contains_int_int) [] [])) [(.t 75), (.t 76)], (some ((some 71), false)), 0⟩,
  ⟨(some 78), .pick (.t 71) (.k (.sc (.bool true))) (.t 77), none, 0⟩]
def c_route_Home_r11 : List AO := [⟨(some 79), .build [(.sc (.int .i64 0)), (.sc (.int .i64 0)), (.sc (.slice none 0 0)), (.sc (.slice none 0 0)), (.sc (.int .i64 0))] [], none, 0⟩,
  ⟨none, .store 5 (.t 4) (.t 79), none, 0⟩,
  ⟨(some 5), .mov (.k (.sc (.int .i64 201))), none, 0⟩]
def c_route_Home_r12 : List AO := [⟨(some 80), .bin .add (.t 58) (.k (.sc (.int .i64 1))), none, 0⟩,
  ⟨(some 58), .mov (.t 80), none, 0⟩]
def c_route_Home_l0 : AC := .seq (.reg c_route_Home_r8 false) (.seq (.cond (.t 59) (.skip) (.exit 0)) (.seq (.blk 1 (.seq (.reg c_route_Home_r9 false) (.seq (.reg c_route_Home_r10 false) (.cond (.t 78) (.seq (.reg c_route_Home_r11 false) (.ret)) (.skip))))) (.reg c_route_Home_r12 false)))
def c_route_Home_r13 : List AO := [⟨(some 81), .load true 2 (.t 3), none, 0⟩,
  ⟨(some 82), .call (.k (.fn (.func f_route_near) [] [])) [(.t 81)], none, 0⟩,
  ⟨(some 11), .mov (.t 82), none, 0⟩]
def c_route_Home_r14 : List AO := [⟨(some 83), .mov (.t 11), none, 0⟩,
  ⟨(some 84), .call (.k (.fn (.func f_route_steps) [] [])) [(.t 83), (.k (.sc (.int .i64 0)))], none, 0⟩,
  ⟨(some 12), .alloc [(.sc (.slice none 0 0))], none, 0⟩,
  ⟨none, .store 1 (.t 12) (.t 84), none, 0⟩]
def c_route_Home_r15 : List AO := [⟨(some 85), .fieldAddr 0 (.t 2), none, 0⟩,
  ⟨(some 86), .load true 3 (.t 85), none, 0⟩,
  ⟨(some 87), .call (.k (.fn (.func f_circuit_Copy) [] [])) [(.t 86)], none, 0⟩,
  ⟨(some 13), .alloc [(.sc (.int .i64 0)), (.sc (.int .i64 0)), (.sc (.slice none 0 0))], none, 0⟩,
  ⟨none, .store 3 (.t 13) (.t 87), none, 0⟩]
def c_route_Home_r16 : List AO := [⟨(some 88), .fieldAddr 2 (.t 13), none, 0⟩,
  ⟨(some 89), .load false 1 (.t 88), none, 1⟩,
  ⟨(some 90), .fieldAddr 3 (.t 2), none, 0⟩,
  ⟨(some 91), .load false 1 (.t 90), none, 4⟩,
  ⟨(some 92), .call (.k (.fn (.func f_slices_Clone_int_int) [] [])) [(.t 91)], none, 12⟩,
  ⟨(some 93), .fieldAddr 4 (.t 2), none, 0⟩,
  ⟨(some 94), .load false 1 (.t 93), none, 32⟩,
  ⟨(some 95), .build [(.sc (.slice none 0 0)), (.sc (.slice none 0 0)), (.sc (.int .i64 0))] [(0, 1, (.t 89)), (1, 1, (.t 92)), (2, 1, (.t 94))], none, 127⟩,
  ⟨(some 96), .box (.t 95), none, 255⟩,
  ⟨(some 14), .mov (.t 96), none, 511⟩]
def c_route_Home_r17 : List AO := [⟨(some 97), .fieldAddr 0 (.t 3), none, 0⟩,
  ⟨(some 98), .load false 1 (.t 97), none, 0⟩,
  ⟨(some 99), .mov (.k (.sc (.int .i64 0))), none, 0⟩]
def c_route_Home_r18 : List AO := [⟨(some 100), .bin .lss (.t 99) (.t 98), none, 0⟩]
def c_route_Home_r19 : List AO := [⟨(some 101), .mov (.t 99), none, 0⟩,
  ⟨(some 15), .mov (.t 101), none, 0⟩]
def c_route_Home_r20 : List AO := [⟨(some 102), .fieldAddr 3 (.t 2), none, 0⟩,
  ⟨(some 103), .load false 1 (.t 102), none, 0⟩,
  ⟨(some 104), .mov (.t 15), none, 0⟩,
  ⟨(some 105), .call (.k (.fn (.func f_slices_Contains_int_int) [] [])) [(.t 103), (.t 104)], none, 0⟩,
  ⟨(some 106), .un .not (.t 105), none, 0⟩]
def c_route_Home_r21 : List AO := [⟨(some 107), .mov (.t 14), none, 0⟩,
  ⟨(some 108), .mov (.t 14), none, 0⟩,
  ⟨(some 109), .nilCheck (.t 108), none, 0⟩,
  ⟨(some 110), .fieldAddr 1 (.t 109), none, 0⟩,
  ⟨(some 111), .load false 1 (.t 110), none, 0⟩,
  ⟨(some 112), .mov (.t 15), none, 0⟩,
  ⟨(some 113), .buildSlice 1 1 [(.sc (.int .i64 0))] [(0, 1, (.t 112))], none, 0⟩,
  ⟨(some 114), .append 1 8 (.t 111) (.t 113), none, 0⟩,
  ⟨(some 115), .nilCheck (.t 107), none, 0⟩,
  ⟨(some 116), .fieldAddr 1 (.t 115), none, 0⟩,
  ⟨none, .store 1 (.t 116) (.t 114), none, 0⟩]
def c_route_Home_r22 : List AO := [⟨(some 117), .bin .add (.t 99) (.k (.sc (.int .i64 1))), none, 0⟩,
  ⟨(some 99), .mov (.t 117), none, 0⟩]
def c_route_Home_l1 : AC := .seq (.reg c_route_Home_r18 false) (.seq (.cond (.t 100) (.skip) (.exit 2)) (.seq (.blk 3 (.seq (.reg c_route_Home_r19 false) (.seq (.reg c_route_Home_r20 false) (.cond (.t 106) (.reg c_route_Home_r21 false) (.skip))))) (.reg c_route_Home_r22 false)))
def c_route_Home_r23 : List AO := [⟨(some 118), .mov (.t 14), none, 0⟩,
  ⟨(some 119), .nilCheck (.t 118), none, 0⟩,
  ⟨(some 120), .fieldAddr 1 (.t 119), none, 0⟩,
  ⟨(some 121), .load false 1 (.t 120), none, 0⟩,
  ⟨(some 122), .call (.k (.fn (.func f_slices_Clone_int_int) [] [])) [(.t 121)], none, 0⟩,
  ⟨(some 16), .mov (.t 122), none, 0⟩]
def c_route_Home_r24 : List AO := [⟨(some 123), .mov (.t 16), none, 0⟩,
  ⟨(some 124), .len (.t 123), none, 0⟩,
  ⟨(some 125), .mov (.k (.sc (.int .i64 0))), none, 0⟩]
def c_route_Home_r25 : List AO := [⟨(some 126), .bin .lss (.t 125) (.t 124), none, 0⟩]
def c_route_Home_r26 : List AO := [⟨(some 127), .mov (.t 125), none, 0⟩,
  ⟨(some 17), .mov (.t 127), none, 0⟩]
def c_route_Home_r27 : List AO := [⟨(some 128), .mov (.t 16), none, 0⟩,
  ⟨(some 129), .mov (.t 17), none, 0⟩,
  ⟨(some 130), .mov (.t 17), none, 0⟩,
  ⟨(some 131), .indexAddr none 1 (.t 128) (.t 129), none, 0⟩,
  ⟨none, .store 1 (.t 131) (.t 130), none, 0⟩]
def c_route_Home_r28 : List AO := [⟨(some 132), .bin .add (.t 125) (.k (.sc (.int .i64 1))), none, 0⟩,
  ⟨(some 125), .mov (.t 132), none, 0⟩]
def c_route_Home_l2 : AC := .seq (.reg c_route_Home_r25 false) (.seq (.cond (.t 126) (.skip) (.exit 4)) (.seq (.blk 5 (.seq (.reg c_route_Home_r26 false) (.reg c_route_Home_r27 false))) (.reg c_route_Home_r28 false)))
def c_route_Home_r29 : List AO := [⟨(some 133), .mov (.t 16), none, 0⟩,
  ⟨(some 134), .makeFunc (.func f_route_Home_1) [] [(.t 12)], none, 0⟩,
  ⟨(some 135), .call (.k (.fn (.func f_slices_SortFunc_int_int) [] [])) [(.t 133), (.t 134)], none, 0⟩]
def c_route_Home_r30 : List AO := [⟨(some 136), .mov (.t 16), none, 0⟩,
  ⟨(some 137), .len (.t 136), none, 0⟩,
  ⟨(some 138), .mov (.k (.sc (.int .i64 0))), none, 0⟩]
def c_route_Home_r31 : List AO := [⟨(some 139), .bin .lss (.t 138) (.t 137), none, 0⟩]
def c_route_Home_r32 : List AO := [⟨(some 140), .indexAddr none 1 (.t 136) (.t 138), none, 0⟩,
  ⟨(some 141), .load false 1 (.t 140), none, 0⟩,
  ⟨(some 19), .mov (.t 141), none, 0⟩]
def c_route_Home_r33 : List AO := [⟨(some 142), .mov (.t 11), none, 0⟩,
  ⟨(some 143), .load false 1 (.t 12), none, 0⟩,
  ⟨(some 144), .mov (.t 19), none, 0⟩,
  ⟨(some 145), .call (.k (.fn (.func f_route_up) [] [])) [(.t 142), (.t 143), (.t 144)], none, 0⟩,
  ⟨(some 20), .alloc [(.sc (.slice none 0 0))], none, 0⟩,
  ⟨none, .store 1 (.t 20) (.t 145), none, 0⟩]
def c_route_Home_r34 : List AO := [⟨(some 146), .mov (.t 11), none, 0⟩,
  ⟨(some 147), .load false 1 (.t 12), none, 0⟩,
  ⟨(some 148), .mov (.t 14), none, 0⟩,
  ⟨(some 149), .nilCheck (.t 148), none, 4⟩,
  ⟨(some 150), .fieldAddr 1 (.t 149), none, 12⟩,
  ⟨(some 151), .load false 1 (.t 150), none, 28⟩,
  ⟨(some 152), .mov (.t 19), none, 0⟩,
  ⟨(some 153), .indexAddr none 1 (.t 151) (.t 152), none, 124⟩,
  ⟨(some 154), .load false 1 (.t 153), none, 252⟩,
  ⟨(some 155), .call (.k (.fn (.func f_route_up) [] [])) [(.t 146), (.t 147), (.t 154)], none, 511⟩,
  ⟨(some 21), .mov (.t 155), none, 1023⟩]
def c_route_Home_r35 : List AO := [⟨(some 156), .mov (.t 21), none, 0⟩,
  ⟨(some 157), .makeFunc (.func f_route_Home_2) [] [(.t 20)], none, 0⟩,
  ⟨(some 158), .call (.k (.fn (.func f_slices_IndexFunc_int_int) [] [])) [(.t 156), (.t 157)], none, 0⟩,
  ⟨(some 22), .mov (.t 158), none, 0⟩]
def c_route_Home_r36 : List AO := [⟨(some 159), .load false 1 (.t 20), none, 0⟩,
  ⟨(some 160), .load false 1 (.t 20), none, 0⟩,
  ⟨(some 161), .mov (.t 21), none, 0⟩,
  ⟨(some 162), .mov (.t 22), none, 0⟩,
  ⟨(some 163), .indexAddr none 1 (.t 161) (.t 162), none, 12⟩,
  ⟨(some 164), .load false 1 (.t 163), none, 28⟩,
  ⟨(some 165), .call (.k (.fn (.func f_slices_Index_int_int) [] [])) [(.t 160), (.t 164)], none, 62⟩,
  ⟨(some 166), .slice 1 (.t 159) none (some (.t 165)) none, none, 127⟩,
  ⟨none, .store 1 (.t 20) (.t 166), none, 255⟩]
def c_route_Home_r37 : List AO := [⟨(some 167), .load false 1 (.t 20), none, 0⟩,
  ⟨(some 168), .call (.k (.fn (.func f_slices_Reverse_int_int) [] [])) [(.t 167)], none, 0⟩]
def c_route_Home_r38 : List AO := [⟨(some 169), .mov (.t 21), none, 0⟩,
  ⟨(some 170), .mov (.t 22), none, 0⟩,
  ⟨(some 171), .bin .add (.t 170) (.k (.sc (.int .i64 1))), none, 2⟩,
  ⟨(some 172), .mov (.t 22), none, 0⟩,
  ⟨(some 173), .bin .add (.t 172) (.k (.sc (.int .i64 1))), none, 8⟩,
  ⟨(some 174), .slice 1 (.t 169) none (some (.t 171)) (some (.t 173)), none, 31⟩,
  ⟨(some 175), .load false 1 (.t 20), none, 0⟩,
  ⟨(some 176), .append 1 8 (.t 174) (.t 175), none, 127⟩,
  ⟨(some 21), .mov (.t 176), none, 255⟩]
def c_route_Home_r39 : List AO := [⟨(some 177), .mov (.t 21), none, 0⟩,
  ⟨(some 178), .len (.t 177), none, 0⟩,
  ⟨(some 179), .bin .sub (.t 178) (.k (.sc (.int .i64 1))), none, 0⟩,
  ⟨(some 180), .mov (.k (.sc (.int .i64 0))), none, 0⟩]
def c_route_Home_r40 : List AO := [⟨(some 181), .bin .lss (.t 180) (.t 179), none, 0⟩]
def c_route_Home_r41 : List AO := [⟨(some 182), .mov (.t 180), none, 0⟩,
  ⟨(some 23), .mov (.t 182), none, 0⟩]
def c_route_Home_r42 : List AO := [⟨(some 183), .mov (.t 14), none, 0⟩,
  ⟨(some 184), .mov (.t 21), none, 0⟩,
  ⟨(some 185), .mov (.t 23), none, 0⟩,
  ⟨(some 186), .indexAddr none 1 (.t 184) (.t 185), none, 6⟩,
  ⟨(some 187), .load false 1 (.t 186), none, 14⟩,
  ⟨(some 188), .mov (.t 21), none, 0⟩,
  ⟨(some 189), .mov (.t 23), none, 0⟩,
  ⟨(some 190), .bin .add (.t 189) (.k (.sc (.int .i64 1))), none, 64⟩,
  ⟨(some 191), .indexAddr none 1 (.t 188) (.t 190), none, 224⟩,
  ⟨(some 192), .load false 1 (.t 191), none, 480⟩,
  ⟨(some 193), .call (.k (.fn (.func f_route_laid_swap) [] [])) [(.t 183), (.t 187), (.t 192)], none, 1023⟩]
def c_route_Home_r43 : List AO := [⟨(some 194), .bin .add (.t 180) (.k (.sc (.int .i64 1))), none, 0⟩,
  ⟨(some 180), .mov (.t 194), none, 0⟩]
def c_route_Home_l3 : AC := .seq (.reg c_route_Home_r40 false) (.seq (.cond (.t 181) (.skip) (.exit 8)) (.seq (.blk 9 (.seq (.reg c_route_Home_r41 false) (.reg c_route_Home_r42 true))) (.reg c_route_Home_r43 false)))
def c_route_Home_r44 : List AO := [⟨(some 195), .mov (.t 14), none, 0⟩,
  ⟨(some 196), .nilCheck (.t 195), none, 0⟩,
  ⟨(some 197), .fieldAddr 0 (.t 196), none, 0⟩,
  ⟨(some 198), .load false 1 (.t 197), none, 0⟩,
  ⟨(some 199), .len (.t 198), none, 0⟩,
  ⟨(some 200), .bin .gtr (.t 199) (.k (.sc (.int .i64 4096))), none, 0⟩]
def c_route_Home_r45 : List AO := [⟨(some 201), .build [(.sc (.int .i64 0)), (.sc (.int .i64 0)), (.sc (.slice none 0 0)), (.sc (.slice none 0 0)), (.sc (.int .i64 0))] [], none, 0⟩,
  ⟨none, .store 5 (.t 4) (.t 201), none, 0⟩,
  ⟨(some 5), .mov (.k (.sc (.int .i64 201))), none, 0⟩]
def c_route_Home_r46 : List AO := [⟨(some 202), .bin .add (.t 138) (.k (.sc (.int .i64 1))), none, 0⟩,
  ⟨(some 138), .mov (.t 202), none, 0⟩]
def c_route_Home_l4 : AC := .seq (.reg c_route_Home_r31 false) (.seq (.cond (.t 139) (.skip) (.exit 6)) (.seq (.blk 7 (.seq (.reg c_route_Home_r32 false) (.seq (.reg c_route_Home_r33 false) (.seq (.reg c_route_Home_r34 true) (.seq (.reg c_route_Home_r35 false) (.seq (.reg c_route_Home_r36 true) (.seq (.reg c_route_Home_r37 false) (.seq (.reg c_route_Home_r38 true) (.seq (.seq (.reg c_route_Home_r39 false) (.blk 8 (.loop c_route_Home_l3))) (.seq (.reg c_route_Home_r44 false) (.cond (.t 200) (.seq (.reg c_route_Home_r45 false) (.ret)) (.skip)))))))))))) (.reg c_route_Home_r46 false)))
def c_route_Home_r47 : List AO := [⟨(some 203), .mov (.t 14), none, 0⟩,
  ⟨(some 204), .nilCheck (.t 203), none, 0⟩,
  ⟨(some 205), .fieldAddr 0 (.t 204), none, 0⟩,
  ⟨(some 206), .load false 1 (.t 205), none, 0⟩,
  ⟨(some 207), .fieldAddr 2 (.t 13), none, 0⟩,
  ⟨none, .store 1 (.t 207) (.t 206), none, 0⟩]
def c_route_Home_r48 : List AO := [⟨(some 208), .load true 3 (.t 13), none, 0⟩,
  ⟨(some 209), .mov (.t 14), none, 0⟩,
  ⟨(some 210), .nilCheck (.t 209), none, 2⟩,
  ⟨(some 211), .fieldAddr 1 (.t 210), none, 6⟩,
  ⟨(some 212), .load false 1 (.t 211), none, 14⟩,
  ⟨(some 213), .fieldAddr 3 (.t 2), none, 0⟩,
  ⟨(some 214), .load false 1 (.t 213), none, 32⟩,
  ⟨(some 215), .len (.t 214), none, 96⟩,
  ⟨(some 216), .slice 1 (.t 212) none (some (.t 215)) none, none, 254⟩,
  ⟨(some 217), .mov (.t 14), none, 0⟩,
  ⟨(some 218), .nilCheck (.t 217), none, 512⟩,
  ⟨(some 219), .fieldAddr 2 (.t 218), none, 1536⟩,
  ⟨(some 220), .load false 1 (.t 219), none, 3584⟩,
  ⟨(some 221), .build [(.sc (.int .i64 0)), (.sc (.int .i64 0)), (.sc (.slice none 0 0)), (.sc (.slice none 0 0)), (.sc (.int .i64 0))] [(0, 3, (.t 208)), (3, 1, (.t 216)), (4, 1, (.t 220))], none, 8191⟩,
  ⟨none, .store 5 (.t 4) (.t 221), none, 16383⟩,
  ⟨(some 5), .mov (.k (.sc (.int .i64 0))), none, 32767⟩]
def c_route_Home : AFn := { code := .seq (.reg c_route_Home_r0 false) (.seq (.seq (.reg c_route_Home_r1 false) (.seq (.reg c_route_Home_r2 false) (.cond (.t 27) (.seq (.reg c_route_Home_r3 false) (.ret)) (.skip)))) (.seq (.seq (.reg c_route_Home_r4 false) (.seq (.reg c_route_Home_r5 false) (.cond (.t 53) (.seq (.reg c_route_Home_r6 false) (.ret)) (.skip)))) (.seq (.seq (.reg c_route_Home_r7 false) (.blk 0 (.loop c_route_Home_l0))) (.seq (.reg c_route_Home_r13 false) (.seq (.reg c_route_Home_r14 false) (.seq (.reg c_route_Home_r15 false) (.seq (.reg c_route_Home_r16 true) (.seq (.seq (.reg c_route_Home_r17 false) (.blk 2 (.loop c_route_Home_l1))) (.seq (.reg c_route_Home_r23 false) (.seq (.seq (.reg c_route_Home_r24 false) (.blk 4 (.loop c_route_Home_l2))) (.seq (.reg c_route_Home_r29 false) (.seq (.seq (.reg c_route_Home_r30 false) (.blk 6 (.loop c_route_Home_l4))) (.seq (.reg c_route_Home_r47 false) (.seq (.reg c_route_Home_r48 true) (.ret))))))))))))))), ntmps := 222, results := [.cell true 5 4, .tmp 5] }
/-- 32 phasor/phasorref20.Home -/
def c_phasorref20_Home_r0 : List AO := [⟨(some 2), .box (.t 0), none, 0⟩,
  ⟨(some 3), .box (.t 1), none, 0⟩,
  ⟨(some 4), .alloc [(.sc (.int .i64 0)), (.sc (.int .i64 0)), (.sc (.slice none 0 0)), (.sc (.slice none 0 0)), (.sc (.int .i64 0))], none, 0⟩,
  ⟨(some 5), .mov (.k (.sc (.int .i64 0))), none, 0⟩]
def c_phasorref20_Home_r1 : List AO := [⟨(some 11), .load true 2 (.t 3), none, 0⟩,
  ⟨(some 12), .call (.k (.fn (.func f_phasorref20_Right) [] [])) [(.t 11)], none, 0⟩,
  ⟨(some 13), .un .not (.t 12), none, 0⟩]
def c_phasorref20_Home_r2 : List AO := [⟨(some 14), .build [(.sc (.int .i64 0)), (.sc (.int .i64 0)), (.sc (.slice none 0 0)), (.sc (.slice none 0 0)), (.sc (.int .i64 0))] [], none, 0⟩,
  ⟨none, .store 5 (.t 4) (.t 14), none, 0⟩,
  ⟨(some 5), .mov (.k (.sc (.int .i64 200))), none, 0⟩]
def c_phasorref20_Home_r3 : List AO := [⟨(some 15), .fieldAddr 0 (.t 2), none, 0⟩,
  ⟨(some 16), .load true 3 (.t 15), none, 0⟩,
  ⟨(some 17), .call (.k (.fn (.func f_phasorref08_May) [] [])) [(.t 16)], none, 0⟩,
  ⟨(some 18), .un .not (.t 17), none, 0⟩,
  ⟨(some 19), .mov (.t 18), none, 0⟩,
  ⟨(some 20), .fieldAddr 0 (.t 2), (some ((some 19), false)), 0⟩,
  ⟨(some 21), .fieldAddr 0 (.t 20), (some ((some 19), false)), 0⟩,
  ⟨(some 22), .load false 1 (.t 21), (some ((some 19), false)), 0⟩,
  ⟨(some 23), .fieldAddr 0 (.t 3), (some ((some 19), false)), 0⟩,
  ⟨(some 24), .load false 1 (.t 23), (some ((some 19), false)), 0⟩,
  ⟨(some 25), .bin .neq (.t 22) (.t 24), (some ((some 19), false)), 0⟩,
  ⟨(some 26), .pick (.t 19) (.k (.sc (.bool true))) (.t 25), none, 0⟩,
  ⟨(some 27), .mov (.t 26), none, 0⟩,
  ⟨(some 28), .fieldAddr 3 (.t 2), (some ((some 27), false)), 0⟩,
  ⟨(some 29), .load false 1 (.t 28), (some ((some 27), false)), 0⟩,
  ⟨(some 30), .fieldAddr 0 (.t 3), (some ((some 27), false)), 0⟩,
  ⟨(some 31), .load false 1 (.t 30), (some ((some 27), false)), 0⟩,
  ⟨(some 32), .call (.k (.fn (.func f_phasorref20_apart) [] [])) [(.t 29), (.t 31)], (some ((some 27), false)), 0⟩,
  ⟨(some 33), .un .not (.t 32), (some ((some 27), false)), 0⟩,
  ⟨(some 34), .pick (.t 27) (.k (.sc (.bool true))) (.t 33), none, 0⟩]
def c_phasorref20_Home_r4 : List AO := [⟨(some 35), .build [(.sc (.int .i64 0)), (.sc (.int .i64 0)), (.sc (.slice none 0 0)), (.sc (.slice none 0 0)), (.sc (.int .i64 0))] [], none, 0⟩,
  ⟨none, .store 5 (.t 4) (.t 35), none, 0⟩,
  ⟨(some 5), .mov (.k (.sc (.int .i64 201))), none, 0⟩]
def c_phasorref20_Home_r5 : List AO := [⟨(some 36), .load true 2 (.t 3), none, 0⟩,
  ⟨(some 37), .call (.k (.fn (.func f_phasorref20_far) [] [])) [(.t 36)], none, 0⟩,
  ⟨(some 6), .mov (.t 37), none, 0⟩]
def c_phasorref20_Home_r6 : List AO := [⟨(some 38), .fieldAddr 0 (.t 2), none, 0⟩,
  ⟨(some 39), .load true 3 (.t 38), none, 1⟩,
  ⟨(some 40), .call (.k (.fn (.func f_phasorref08_Copy) [] [])) [(.t 39)], none, 3⟩,
  ⟨(some 41), .fieldAddr 4 (.t 2), none, 0⟩,
  ⟨(some 42), .load false 1 (.t 41), none, 8⟩,
  ⟨(some 43), .build [(.sc (.int .i64 0)), (.sc (.int .i64 0)), (.sc (.slice none 0 0)), (.sc (.slice none 0 0)), (.sc (.int .i64 0))] [(0, 3, (.t 40)), (4, 1, (.t 42))], none, 31⟩,
  ⟨(some 44), .box (.t 43), none, 63⟩,
  ⟨(some 7), .mov (.t 44), none, 127⟩]
def c_phasorref20_Home_r7 : List AO := [⟨(some 45), .mov (.t 7), none, 0⟩,
  ⟨(some 46), .mov (.t 7), none, 0⟩,
  ⟨(some 47), .nilCheck (.t 46), none, 2⟩,
  ⟨(some 48), .fieldAddr 3 (.t 47), none, 6⟩,
  ⟨(some 49), .load false 1 (.t 48), none, 14⟩,
  ⟨(some 50), .fieldAddr 3 (.t 2), none, 0⟩,
  ⟨(some 51), .load false 1 (.t 50), none, 32⟩,
  ⟨(some 52), .append 1 8 (.t 49) (.t 51), none, 126⟩,
  ⟨(some 53), .nilCheck (.t 45), none, 255⟩,
  ⟨(some 54), .fieldAddr 3 (.t 53), none, 511⟩,
  ⟨none, .store 1 (.t 54) (.t 52), none, 1023⟩]
def c_phasorref20_Home_r8 : List AO := [⟨(some 8), .mov (.k (.sc (.int .i64 0))), none, 0⟩]
def c_phasorref20_Home_r9 : List AO := [⟨(some 55), .mov (.t 8), none, 0⟩,
  ⟨(some 56), .fieldAddr 0 (.t 3), none, 0⟩,
  ⟨(some 57), .load false 1 (.t 56), none, 0⟩,
  ⟨(some 58), .bin .lss (.t 55) (.t 57), none, 0⟩]
def c_phasorref20_Home_r10 : List AO := [⟨(some 61), .fieldAddr 3 (.t 2), none, 0⟩,
  ⟨(some 62), .load false 1 (.t 61), none, 0⟩,
  ⟨(some 63), .mov (.t 8), none, 0⟩,
  ⟨(some 64), .call (.k (.fn (.func f_phasorref20_among) [] [])) [(.t 62), (.t 63)], none, 0⟩,
  ⟨(some 65), .un .not (.t 64), none, 0⟩]
def c_phasorref20_Home_r11 : List AO := [⟨(some 66), .mov (.t 7), none, 0⟩,
  ⟨(some 67), .mov (.t 7), none, 0⟩,
  ⟨(some 68), .nilCheck (.t 67), none, 0⟩,
  ⟨(some 69), .fieldAddr 3 (.t 68), none, 0⟩,
  ⟨(some 70), .load false 1 (.t 69), none, 0⟩,
  ⟨(some 71), .mov (.t 8), none, 0⟩,
  ⟨(some 72), .buildSlice 1 1 [(.sc (.int .i64 0))] [(0, 1, (.t 71))], none, 0⟩,
  ⟨(some 73), .append 1 8 (.t 70) (.t 72), none, 0⟩,
  ⟨(some 74), .nilCheck (.t 66), none, 0⟩,
  ⟨(some 75), .fieldAddr 3 (.t 74), none, 0⟩,
  ⟨none, .store 1 (.t 75) (.t 73), none, 0⟩]
def c_phasorref20_Home_r12 : List AO := [⟨(some 59), .mov (.t 8), none, 0⟩,
  ⟨(some 60), .bin .add (.t 59) (.k (.sc (.int .i64 1))), none, 0⟩,
  ⟨(some 8), .mov (.t 60), none, 0⟩]
def c_phasorref20_Home_l0 : AC := .seq (.seq (.reg c_phasorref20_Home_r9 false) (.cond (.t 58) (.skip) (.exit 0))) (.seq (.blk 1 (.seq (.reg c_phasorref20_Home_r10 false) (.cond (.t 65) (.reg c_phasorref20_Home_r11 false) (.skip)))) (.reg c_phasorref20_Home_r12 false))
def c_phasorref20_Home_r13 : List AO := [⟨(some 76), .fieldAddr 0 (.t 3), none, 0⟩,
  ⟨(some 77), .load false 1 (.t 76), none, 0⟩,
  ⟨(some 9), .mov (.t 77), none, 0⟩]
def c_phasorref20_Home_r14 : List AO := [⟨(some 78), .mov (.t 9), none, 0⟩,
  ⟨(some 79), .bin .geq (.t 78) (.k (.sc (.int .i64 0))), none, 0⟩]
def c_phasorref20_Home_r15 : List AO := [⟨(some 82), .mov (.t 7), none, 0⟩,
  ⟨(some 83), .nilCheck (.t 82), none, 0⟩,
  ⟨(some 84), .fieldAddr 3 (.t 83), none, 0⟩,
  ⟨(some 85), .load false 1 (.t 84), none, 0⟩,
  ⟨(some 86), .len (.t 85), none, 0⟩,
  ⟨(some 87), .bin .sub (.t 86) (.k (.sc (.int .i64 1))), none, 0⟩,
  ⟨(some 10), .mov (.t 87), none, 0⟩]
def c_phasorref20_Home_r16 : List AO := [⟨(some 88), .mov (.t 10), none, 0⟩,
  ⟨(some 89), .bin .geq (.t 88) (.k (.sc (.int .i64 0))), none, 0⟩]
def c_phasorref20_Home_r17 : List AO := [⟨(some 92), .mov (.t 6), none, 0⟩,
  ⟨(some 93), .mov (.t 10), none, 0⟩,
  ⟨(some 94), .indexAddr none 1 (.t 92) (.t 93), none, 0⟩,
  ⟨(some 95), .load false 1 (.t 94), none, 0⟩,
  ⟨(some 96), .indexAddr none 1 (.t 95) (.k (.sc (.int .i64 0))), none, 0⟩,
  ⟨(some 97), .load false 1 (.t 96), none, 0⟩,
  ⟨(some 98), .mov (.t 9), none, 0⟩,
  ⟨(some 99), .bin .eql (.t 97) (.t 98), none, 0⟩,
  ⟨(some 100), .mov (.t 99), none, 0⟩,
  ⟨(some 101), .mov (.t 7), (some ((some 100), true)), 0⟩,
  ⟨(some 102), .nilCheck (.t 101), (some ((some 100), true)), 0⟩,
  ⟨(some 103), .fieldAddr 3 (.t 102), (some ((some 100), true)), 0⟩,
  ⟨(some 104), .load false 1 (.t 103), (some ((some 100), true)), 0⟩,
  ⟨(some 105), .mov (.t 10), (some ((some 100), true)), 0⟩,
  ⟨(some 106), .indexAddr none 1 (.t 104) (.t 105), (some ((some 100), true)), 0⟩,
  ⟨(some 107), .load false 1 (.t 106), (some ((some 100), true)), 0⟩,
  ⟨(some 108), .mov (.t 10), (some ((some 100), true)), 0⟩,
  ⟨(some 109), .bin .neq (.t 107) (.t 108), (some ((some 100), true)), 0⟩,
  ⟨(some 110), .pick (.t 100) (.t 109) (.k (.sc (.bool false))), none, 0⟩]
def c_phasorref20_Home_r18 : List AO := [⟨(some 111), .mov (.t 7), none, 0⟩,
  ⟨(some 112), .mov (.t 7), none, 0⟩,
  ⟨(some 113), .nilCheck (.t 112), none, 2⟩,
  ⟨(some 114), .fieldAddr 3 (.t 113), none, 6⟩,
  ⟨(some 115), .load false 1 (.t 114), none, 14⟩,
  ⟨(some 116), .mov (.t 10), none, 0⟩,
  ⟨(some 117), .indexAddr none 1 (.t 115) (.t 116), none, 62⟩,
  ⟨(some 118), .load false 1 (.t 117), none, 126⟩,
  ⟨(some 119), .mov (.t 6), none, 0⟩,
  ⟨(some 120), .mov (.t 7), none, 0⟩,
  ⟨(some 121), .nilCheck (.t 120), none, 512⟩,
  ⟨(some 122), .fieldAddr 3 (.t 121), none, 1536⟩,
  ⟨(some 123), .load false 1 (.t 122), none, 3584⟩,
  ⟨(some 124), .mov (.t 10), none, 0⟩,
  ⟨(some 125), .indexAddr none 1 (.t 123) (.t 124), none, 15872⟩,
  ⟨(some 126), .load false 1 (.t 125), none, 32256⟩,
  ⟨(some 127), .mov (.t 10), none, 0⟩,
  ⟨(some 128), .call (.k (.fn (.func f_phasorref20_next) [] [])) [(.t 119), (.t 126), (.t 127)], none, 130816⟩,
  ⟨(some 129), .call (.k (.fn (.func f_phasorref20_laid_swap) [] [])) [(.t 111), (.t 118), (.t 128)], none, 262143⟩]
def c_phasorref20_Home_l1 : AC := .seq (.seq (.reg c_phasorref20_Home_r17 false) (.cond (.t 110) (.skip) (.exit 6))) (.blk 7 (.reg c_phasorref20_Home_r18 true))
def c_phasorref20_Home_r19 : List AO := [⟨(some 90), .mov (.t 10), none, 0⟩,
  ⟨(some 91), .bin .sub (.t 90) (.k (.sc (.int .i64 1))), none, 0⟩,
  ⟨(some 10), .mov (.t 91), none, 0⟩]
def c_phasorref20_Home_l2 : AC := .seq (.seq (.reg c_phasorref20_Home_r16 false) (.cond (.t 89) (.skip) (.exit 4))) (.seq (.blk 5 (.blk 6 (.loop c_phasorref20_Home_l1))) (.reg c_phasorref20_Home_r19 false))
def c_phasorref20_Home_r20 : List AO := [⟨(some 80), .mov (.t 9), none, 0⟩,
  ⟨(some 81), .bin .sub (.t 80) (.k (.sc (.int .i64 1))), none, 0⟩,
  ⟨(some 9), .mov (.t 81), none, 0⟩]
def c_phasorref20_Home_l3 : AC := .seq (.seq (.reg c_phasorref20_Home_r14 false) (.cond (.t 79) (.skip) (.exit 2))) (.seq (.blk 3 (.seq (.reg c_phasorref20_Home_r15 false) (.blk 4 (.loop c_phasorref20_Home_l2)))) (.reg c_phasorref20_Home_r20 false))
def c_phasorref20_Home_r21 : List AO := [⟨(some 130), .mov (.t 7), none, 0⟩,
  ⟨(some 131), .mov (.t 7), none, 0⟩,
  ⟨(some 132), .nilCheck (.t 131), none, 2⟩,
  ⟨(some 133), .fieldAddr 3 (.t 132), none, 6⟩,
  ⟨(some 134), .load false 1 (.t 133), none, 14⟩,
  ⟨(some 135), .fieldAddr 3 (.t 2), none, 0⟩,
  ⟨(some 136), .load false 1 (.t 135), none, 32⟩,
  ⟨(some 137), .len (.t 136), none, 96⟩,
  ⟨(some 138), .slice 1 (.t 134) none (some (.t 137)) none, none, 254⟩,
  ⟨(some 139), .nilCheck (.t 130), none, 511⟩,
  ⟨(some 140), .fieldAddr 3 (.t 139), none, 1023⟩,
  ⟨none, .store 1 (.t 140) (.t 138), none, 2047⟩]
def c_phasorref20_Home_r22 : List AO := [⟨(some 141), .mov (.t 7), none, 0⟩,
  ⟨(some 142), .call (.k (.fn (.func f_phasorref20_laid_routed) [] [])) [(.t 141)], none, 0⟩,
  ⟨(some 143), .extract (.t 142) 0, none, 0⟩,
  ⟨(some 144), .extract (.t 142) 1, none, 0⟩,
  ⟨none, .store 5 (.t 4) (.t 143), none, 0⟩,
  ⟨(some 5), .mov (.t 144), none, 0⟩]
def c_phasorref20_Home : AFn := { code := .seq (.reg c_phasorref20_Home_r0 false) (.seq (.seq (.reg c_phasorref20_Home_r1 false) (.cond (.t 13) (.seq (.reg c_phasorref20_Home_r2 false) (.ret)) (.skip))) (.seq (.seq (.reg c_phasorref20_Home_r3 false) (.cond (.t 34) (.seq (.reg c_phasorref20_Home_r4 false) (.ret)) (.skip))) (.seq (.reg c_phasorref20_Home_r5 false) (.seq (.reg c_phasorref20_Home_r6 true) (.seq (.reg c_phasorref20_Home_r7 true) (.seq (.seq (.reg c_phasorref20_Home_r8 false) (.blk 0 (.loop c_phasorref20_Home_l0))) (.seq (.seq (.reg c_phasorref20_Home_r13 false) (.blk 2 (.loop c_phasorref20_Home_l3))) (.seq (.reg c_phasorref20_Home_r21 true) (.seq (.reg c_phasorref20_Home_r22 false) (.ret)))))))))), ntmps := 145, results := [.cell true 5 4, .tmp 5] }
/-- 33 phasor/route.line -/
def c_route_line_r0 : List AO := [⟨(some 2), .mov (.k (.sc (.slice none 0 0))), none, 0⟩]
def c_route_line_r1 : List AO := [⟨(some 3), .mov (.k (.sc (.slice none 0 0))), none, 0⟩]
def c_route_line_r2 : List AO := [⟨(some 5), .mov (.t 0), none, 0⟩,
  ⟨(some 6), .bin .sub (.t 5) (.k (.sc (.int .i64 1))), none, 0⟩,
  ⟨(some 7), .mov (.k (.sc (.int .i64 0))), none, 0⟩]
def c_route_line_r3 : List AO := [⟨(some 8), .bin .lss (.t 7) (.t 6), none, 0⟩]
def c_route_line_r4 : List AO := [⟨(some 9), .mov (.t 7), none, 0⟩,
  ⟨(some 4), .mov (.t 9), none, 0⟩]
def c_route_line_r5 : List AO := [⟨(some 10), .mov (.t 3), none, 0⟩,
  ⟨(some 11), .mov (.t 4), none, 0⟩,
  ⟨(some 12), .mov (.t 4), none, 0⟩,
  ⟨(some 13), .bin .add (.t 12) (.k (.sc (.int .i64 1))), none, 0⟩,
  ⟨(some 14), .build [(.sc (.int .i64 0)), (.sc (.int .i64 0))] [(0, 1, (.t 11)), (1, 1, (.t 13))], none, 0⟩,
  ⟨(some 15), .buildSlice 2 1 [(.sc (.int .i64 0)), (.sc (.int .i64 0))] [(0, 2, (.t 14))], none, 0⟩,
  ⟨(some 16), .append 2 16 (.t 10) (.t 15), none, 0⟩,
  ⟨(some 3), .mov (.t 16), none, 0⟩]
def c_route_line_r6 : List AO := [⟨(some 17), .bin .add (.t 7) (.k (.sc (.int .i64 1))), none, 0⟩,
  ⟨(some 7), .mov (.t 17), none, 0⟩]
def c_route_line_l0 : AC := .seq (.reg c_route_line_r3 false) (.seq (.cond (.t 8) (.skip) (.exit 0)) (.seq (.blk 1 (.seq (.reg c_route_line_r4 false) (.reg c_route_line_r5 false))) (.reg c_route_line_r6 false)))
def c_route_line_r7 : List AO := [⟨(some 18), .mov (.t 3), none, 0⟩,
  ⟨(some 2), .mov (.t 18), none, 0⟩]
def c_route_line : AFn := { code := .seq (.reg c_route_line_r0 false) (.seq (.reg c_route_line_r1 false) (.seq (.seq (.reg c_route_line_r2 false) (.blk 0 (.loop c_route_line_l0))) (.seq (.reg c_route_line_r7 false) (.ret)))), ntmps := 19, results := [.tmp 2] }
/-- 34 phasor/phasorref20.far -/
def c_phasorref20_far_r0 : List AO := [⟨(some 1), .box (.t 0), none, 0⟩,
  ⟨(some 2), .mov (.k (.sc (.slice none 0 0))), none, 0⟩]
def c_phasorref20_far_r1 : List AO := [⟨(some 3), .mov (.k (.sc (.slice none 0 0))), none, 0⟩]
def c_phasorref20_far_r2 : List AO := [⟨(some 4), .mov (.k (.sc (.int .i64 0))), none, 0⟩]
def c_phasorref20_far_r3 : List AO := [⟨(some 11), .mov (.t 4), none, 0⟩,
  ⟨(some 12), .fieldAddr 0 (.t 1), none, 0⟩,
  ⟨(some 13), .load false 1 (.t 12), none, 0⟩,
  ⟨(some 14), .bin .lss (.t 11) (.t 13), none, 0⟩]
def c_phasorref20_far_r4 : List AO := [⟨(some 17), .fieldAddr 0 (.t 1), none, 0⟩,
  ⟨(some 18), .load false 1 (.t 17), none, 0⟩,
  ⟨(some 19), .makeSlice 1 8 [(.sc (.int .i64 0))] (.t 18) (.t 18), none, 0⟩,
  ⟨(some 5), .mov (.t 19), none, 0⟩]
def c_phasorref20_far_r5 : List AO := [⟨(some 6), .mov (.k (.sc (.int .i64 0))), none, 0⟩]
def c_phasorref20_far_r6 : List AO := [⟨(some 20), .mov (.t 6), none, 0⟩,
  ⟨(some 21), .fieldAddr 0 (.t 1), none, 0⟩,
  ⟨(some 22), .load false 1 (.t 21), none, 0⟩,
  ⟨(some 23), .bin .lss (.t 20) (.t 22), none, 0⟩]
def c_phasorref20_far_r7 : List AO := [⟨(some 26), .mov (.t 5), none, 0⟩,
  ⟨(some 27), .mov (.t 6), none, 0⟩,
  ⟨(some 28), .indexAddr none 1 (.t 26) (.t 27), none, 0⟩,
  ⟨none, .store 1 (.t 28) (.k (.sc (.int .i64 (-1)))), none, 0⟩]
def c_phasorref20_far_r8 : List AO := [⟨(some 24), .mov (.t 6), none, 0⟩,
  ⟨(some 25), .bin .add (.t 24) (.k (.sc (.int .i64 1))), none, 0⟩,
  ⟨(some 6), .mov (.t 25), none, 0⟩]
def c_phasorref20_far_l0 : AC := .seq (.seq (.reg c_phasorref20_far_r6 false) (.cond (.t 23) (.skip) (.exit 2))) (.seq (.blk 3 (.reg c_phasorref20_far_r7 false)) (.reg c_phasorref20_far_r8 false))
def c_phasorref20_far_r9 : List AO := [⟨(some 29), .mov (.t 5), none, 0⟩,
  ⟨(some 30), .mov (.t 4), none, 0⟩,
  ⟨(some 31), .indexAddr none 1 (.t 29) (.t 30), none, 0⟩,
  ⟨none, .store 1 (.t 31) (.k (.sc (.int .i64 0))), none, 0⟩]
def c_phasorref20_far_r10 : List AO := [⟨(some 7), .mov (.k (.sc (.int .i64 0))), none, 0⟩]
def c_phasorref20_far_r11 : List AO := [⟨(some 32), .mov (.t 7), none, 0⟩,
  ⟨(some 33), .fieldAddr 0 (.t 1), none, 0⟩,
  ⟨(some 34), .load false 1 (.t 33), none, 0⟩,
  ⟨(some 35), .bin .lss (.t 32) (.t 34), none, 0⟩]
def c_phasorref20_far_r12 : List AO := [⟨(some 8), .mov (.k (.sc (.int .i64 0))), none, 0⟩]
def c_phasorref20_far_r13 : List AO := [⟨(some 38), .mov (.t 8), none, 0⟩,
  ⟨(some 39), .fieldAddr 1 (.t 1), none, 0⟩,
  ⟨(some 40), .load false 1 (.t 39), none, 0⟩,
  ⟨(some 41), .len (.t 40), none, 0⟩,
  ⟨(some 42), .bin .lss (.t 38) (.t 41), none, 0⟩]
def c_phasorref20_far_r14 : List AO := [⟨(some 45), .fieldAddr 1 (.t 1), none, 0⟩,
  ⟨(some 46), .load false 1 (.t 45), none, 1⟩,
  ⟨(some 47), .mov (.t 8), none, 0⟩,
  ⟨(some 48), .indexAddr none 2 (.t 46) (.t 47), none, 7⟩,
  ⟨(some 49), .indexAddr (some 2) 1 (.t 48) (.k (.sc (.int .i64 0))), none, 15⟩,
  ⟨(some 50), .load false 1 (.t 49), none, 31⟩,
  ⟨(some 51), .fieldAddr 1 (.t 1), none, 0⟩,
  ⟨(some 52), .load false 1 (.t 51), none, 64⟩,
  ⟨(some 53), .mov (.t 8), none, 0⟩,
  ⟨(some 54), .indexAddr none 2 (.t 52) (.t 53), none, 448⟩,
  ⟨(some 55), .indexAddr (some 2) 1 (.t 54) (.k (.sc (.int .i64 1))), none, 960⟩,
  ⟨(some 56), .load false 1 (.t 55), none, 1984⟩,
  ⟨(some 9), .mov (.t 50), none, 63⟩,
  ⟨(some 10), .mov (.t 56), none, 8191⟩]
def c_phasorref20_far_r15 : List AO := [⟨(some 57), .mov (.t 5), none, 0⟩,
  ⟨(some 58), .mov (.t 9), none, 0⟩,
  ⟨(some 59), .indexAddr none 1 (.t 57) (.t 58), none, 0⟩,
  ⟨(some 60), .load false 1 (.t 59), none, 0⟩,
  ⟨(some 61), .mov (.t 7), none, 0⟩,
  ⟨(some 62), .bin .eql (.t 60) (.t 61), none, 0⟩,
  ⟨(some 63), .mov (.t 62), none, 0⟩,
  ⟨(some 64), .mov (.t 5), (some ((some 63), true)), 0⟩,
  ⟨(some 65), .mov (.t 10), (some ((some 63), true)), 0⟩,
  ⟨(some 66), .indexAddr none 1 (.t 64) (.t 65), (some ((some 63), true)), 0⟩,
  ⟨(some 67), .load false 1 (.t 66), (some ((some 63), true)), 0⟩,
  ⟨(some 68), .bin .lss (.t 67) (.k (.sc (.int .i64 0))), (some ((some 63), true)), 0⟩,
  ⟨(some 69), .pick (.t 63) (.t 68) (.k (.sc (.bool false))), none, 0⟩]
def c_phasorref20_far_r16 : List AO := [⟨(some 70), .mov (.t 5), none, 0⟩,
  ⟨(some 71), .mov (.t 10), none, 0⟩,
  ⟨(some 72), .mov (.t 7), none, 0⟩,
  ⟨(some 73), .bin .add (.t 72) (.k (.sc (.int .i64 1))), none, 0⟩,
  ⟨(some 74), .indexAddr none 1 (.t 70) (.t 71), none, 0⟩,
  ⟨none, .store 1 (.t 74) (.t 73), none, 0⟩]
def c_phasorref20_far_r17 : List AO := [⟨(some 75), .mov (.t 5), none, 0⟩,
  ⟨(some 76), .mov (.t 10), none, 0⟩,
  ⟨(some 77), .indexAddr none 1 (.t 75) (.t 76), none, 0⟩,
  ⟨(some 78), .load false 1 (.t 77), none, 0⟩,
  ⟨(some 79), .mov (.t 7), none, 0⟩,
  ⟨(some 80), .bin .eql (.t 78) (.t 79), none, 0⟩,
  ⟨(some 81), .mov (.t 80), none, 0⟩,
  ⟨(some 82), .mov (.t 5), (some ((some 81), true)), 0⟩,
  ⟨(some 83), .mov (.t 9), (some ((some 81), true)), 0⟩,
  ⟨(some 84), .indexAddr none 1 (.t 82) (.t 83), (some ((some 81), true)), 0⟩,
  ⟨(some 85), .load false 1 (.t 84), (some ((some 81), true)), 0⟩,
  ⟨(some 86), .bin .lss (.t 85) (.k (.sc (.int .i64 0))), (some ((some 81), true)), 0⟩,
  ⟨(some 87), .pick (.t 81) (.t 86) (.k (.sc (.bool false))), none, 0⟩]
def c_phasorref20_far_r18 : List AO := [⟨(some 88), .mov (.t 5), none, 0⟩,
  ⟨(some 89), .mov (.t 9), none, 0⟩,
  ⟨(some 90), .mov (.t 7), none, 0⟩,
  ⟨(some 91), .bin .add (.t 90) (.k (.sc (.int .i64 1))), none, 0⟩,
  ⟨(some 92), .indexAddr none 1 (.t 88) (.t 89), none, 0⟩,
  ⟨none, .store 1 (.t 92) (.t 91), none, 0⟩]
def c_phasorref20_far_r19 : List AO := [⟨(some 43), .mov (.t 8), none, 0⟩,
  ⟨(some 44), .bin .add (.t 43) (.k (.sc (.int .i64 1))), none, 0⟩,
  ⟨(some 8), .mov (.t 44), none, 0⟩]
def c_phasorref20_far_l1 : AC := .seq (.seq (.reg c_phasorref20_far_r13 false) (.cond (.t 42) (.skip) (.exit 6))) (.seq (.blk 7 (.seq (.reg c_phasorref20_far_r14 true) (.seq (.seq (.reg c_phasorref20_far_r15 false) (.cond (.t 69) (.reg c_phasorref20_far_r16 false) (.skip))) (.seq (.reg c_phasorref20_far_r17 false) (.cond (.t 87) (.reg c_phasorref20_far_r18 false) (.skip)))))) (.reg c_phasorref20_far_r19 false))
def c_phasorref20_far_r20 : List AO := [⟨(some 36), .mov (.t 7), none, 0⟩,
  ⟨(some 37), .bin .add (.t 36) (.k (.sc (.int .i64 1))), none, 0⟩,
  ⟨(some 7), .mov (.t 37), none, 0⟩]
def c_phasorref20_far_l2 : AC := .seq (.seq (.reg c_phasorref20_far_r11 false) (.cond (.t 35) (.skip) (.exit 4))) (.seq (.blk 5 (.seq (.reg c_phasorref20_far_r12 false) (.blk 6 (.loop c_phasorref20_far_l1)))) (.reg c_phasorref20_far_r20 false))
def c_phasorref20_far_r21 : List AO := [⟨(some 93), .mov (.t 3), none, 0⟩,
  ⟨(some 94), .mov (.t 5), none, 0⟩,
  ⟨(some 95), .buildSlice 1 1 [(.sc (.slice none 0 0))] [(0, 1, (.t 94))], none, 0⟩,
  ⟨(some 96), .append 1 24 (.t 93) (.t 95), none, 0⟩,
  ⟨(some 3), .mov (.t 96), none, 0⟩]
def c_phasorref20_far_r22 : List AO := [⟨(some 15), .mov (.t 4), none, 0⟩,
  ⟨(some 16), .bin .add (.t 15) (.k (.sc (.int .i64 1))), none, 0⟩,
  ⟨(some 4), .mov (.t 16), none, 0⟩]
def c_phasorref20_far_l3 : AC := .seq (.seq (.reg c_phasorref20_far_r3 false) (.cond (.t 14) (.skip) (.exit 0))) (.seq (.blk 1 (.seq (.reg c_phasorref20_far_r4 false) (.seq (.seq (.reg c_phasorref20_far_r5 false) (.blk 2 (.loop c_phasorref20_far_l0))) (.seq (.reg c_phasorref20_far_r9 false) (.seq (.seq (.reg c_phasorref20_far_r10 false) (.blk 4 (.loop c_phasorref20_far_l2))) (.reg c_phasorref20_far_r21 false)))))) (.reg c_phasorref20_far_r22 false))
def c_phasorref20_far_r23 : List AO := [⟨(some 97), .mov (.t 3), none, 0⟩,
  ⟨(some 2), .mov (.t 97), none, 0⟩]
def c_phasorref20_far : AFn := { code := .seq (.reg c_phasorref20_far_r0 false) (.seq (.reg c_phasorref20_far_r1 false) (.seq (.seq (.reg c_phasorref20_far_r2 false) (.blk 0 (.loop c_phasorref20_far_l3))) (.seq (.reg c_phasorref20_far_r23 false) (.ret)))), ntmps := 98, results := [.tmp 2] }
/-- 35 slices.Contains[[]int,int] -/
def c_slices_Contains_int_int_r0 : List AO := [⟨(some 4), .mov (.k (.sc (.bool false))), none, 0⟩]
def c_slices_Contains_int_int_r1 : List AO := [⟨(some 5), .mov (.t 0), none, 0⟩,
  ⟨(some 6), .mov (.t 1), none, 0⟩,
  ⟨(some 7), .call (.k (.fn (.func f_slices_Index_int_int) [] [])) [(.t 5), (.t 6)], none, 0⟩,
  ⟨(some 8), .bin .geq (.t 7) (.k (.sc (.int .i64 0))), none, 0⟩,
  ⟨(some 4), .mov (.t 8), none, 0⟩]
def c_slices_Contains_int_int : AFn := { code := .seq (.reg c_slices_Contains_int_int_r0 false) (.seq (.reg c_slices_Contains_int_int_r1 false) (.ret)), ntmps := 9, results := [.tmp 4] }
/-- 36 phasor/route.steps -/
def c_route_steps_r0 : List AO := [⟨(some 4), .mov (.k (.sc (.slice none 0 0))), none, 0⟩]
def c_route_steps_r1 : List AO := [⟨(some 10), .mov (.t 0), none, 0⟩,
  ⟨(some 11), .len (.t 10), none, 0⟩,
  ⟨(some 12), .makeSlice 1 8 [(.sc (.int .i64 0))] (.t 11) (.t 11), none, 0⟩,
  ⟨(some 5), .mov (.t 12), none, 0⟩]
def c_route_steps_r2 : List AO := [⟨(some 13), .mov (.t 5), none, 0⟩,
  ⟨(some 14), .len (.t 13), none, 0⟩,
  ⟨(some 15), .mov (.k (.sc (.int .i64 0))), none, 0⟩]
def c_route_steps_r3 : List AO := [⟨(some 16), .bin .lss (.t 15) (.t 14), none, 0⟩]
def c_route_steps_r4 : List AO := [⟨(some 17), .mov (.t 15), none, 0⟩,
  ⟨(some 6), .mov (.t 17), none, 0⟩]
def c_route_steps_r5 : List AO := [⟨(some 18), .mov (.t 5), none, 0⟩,
  ⟨(some 19), .mov (.t 6), none, 0⟩,
  ⟨(some 20), .indexAddr none 1 (.t 18) (.t 19), none, 0⟩,
  ⟨none, .store 1 (.t 20) (.k (.sc (.int .i64 (-1)))), none, 0⟩]
def c_route_steps_r6 : List AO := [⟨(some 21), .bin .add (.t 15) (.k (.sc (.int .i64 1))), none, 0⟩,
  ⟨(some 15), .mov (.t 21), none, 0⟩]
def c_route_steps_l0 : AC := .seq (.reg c_route_steps_r3 false) (.seq (.cond (.t 16) (.skip) (.exit 0)) (.seq (.blk 1 (.seq (.reg c_route_steps_r4 false) (.reg c_route_steps_r5 false))) (.reg c_route_steps_r6 false)))
def c_route_steps_r7 : List AO := [⟨(some 22), .mov (.t 5), none, 0⟩,
  ⟨(some 23), .mov (.t 1), none, 0⟩,
  ⟨(some 24), .indexAddr none 1 (.t 22) (.t 23), none, 0⟩,
  ⟨none, .store 1 (.t 24) (.k (.sc (.int .i64 0))), none, 0⟩]
def c_route_steps_r8 : List AO := [⟨(some 25), .mov (.t 1), none, 0⟩,
  ⟨(some 26), .buildSlice 1 1 [(.sc (.int .i64 0))] [(0, 1, (.t 25))], none, 0⟩,
  ⟨(some 7), .mov (.t 26), none, 0⟩]
def c_route_steps_r9 : List AO := [⟨(some 27), .mov (.t 7), none, 0⟩,
  ⟨(some 28), .len (.t 27), none, 0⟩,
  ⟨(some 29), .bin .gtr (.t 28) (.k (.sc (.int .i64 0))), none, 0⟩]
def c_route_steps_r10 : List AO := [⟨(some 32), .mov (.t 0), none, 0⟩,
  ⟨(some 33), .mov (.t 7), none, 0⟩,
  ⟨(some 34), .indexAddr none 1 (.t 33) (.k (.sc (.int .i64 0))), none, 0⟩,
  ⟨(some 35), .load false 1 (.t 34), none, 0⟩,
  ⟨(some 36), .indexAddr none 1 (.t 32) (.t 35), none, 0⟩,
  ⟨(some 37), .load false 1 (.t 36), none, 0⟩,
  ⟨(some 38), .len (.t 37), none, 0⟩,
  ⟨(some 39), .mov (.k (.sc (.int .i64 0))), none, 0⟩]
def c_route_steps_r11 : List AO := [⟨(some 40), .bin .lss (.t 39) (.t 38), none, 0⟩]
def c_route_steps_r12 : List AO := [⟨(some 41), .indexAddr none 1 (.t 37) (.t 39), none, 0⟩,
  ⟨(some 42), .load false 1 (.t 41), none, 0⟩,
  ⟨(some 9), .mov (.t 42), none, 0⟩]
def c_route_steps_r13 : List AO := [⟨(some 43), .mov (.t 5), none, 0⟩,
  ⟨(some 44), .mov (.t 9), none, 0⟩,
  ⟨(some 45), .indexAddr none 1 (.t 43) (.t 44), none, 0⟩,
  ⟨(some 46), .load false 1 (.t 45), none, 0⟩,
  ⟨(some 47), .bin .lss (.t 46) (.k (.sc (.int .i64 0))), none, 0⟩]
def c_route_steps_r14 : List AO := [⟨(some 48), .mov (.t 5), none, 0⟩,
  ⟨(some 49), .mov (.t 9), none, 0⟩,
  ⟨(some 50), .mov (.t 5), none, 0⟩,
  ⟨(some 51), .mov (.t 7), none, 0⟩,
  ⟨(some 52), .indexAddr none 1 (.t 51) (.k (.sc (.int .i64 0))), none, 0⟩,
  ⟨(some 53), .load false 1 (.t 52), none, 0⟩,
  ⟨(some 54), .indexAddr none 1 (.t 50) (.t 53), none, 0⟩,
  ⟨(some 55), .load false 1 (.t 54), none, 0⟩,
  ⟨(some 56), .bin .add (.t 55) (.k (.sc (.int .i64 1))), none, 0⟩,
  ⟨(some 57), .indexAddr none 1 (.t 48) (.t 49), none, 0⟩,
  ⟨none, .store 1 (.t 57) (.t 56), none, 0⟩]
def c_route_steps_r15 : List AO := [⟨(some 58), .mov (.t 7), none, 0⟩,
  ⟨(some 59), .mov (.t 9), none, 0⟩,
  ⟨(some 60), .buildSlice 1 1 [(.sc (.int .i64 0))] [(0, 1, (.t 59))], none, 0⟩,
  ⟨(some 61), .append 1 8 (.t 58) (.t 60), none, 0⟩,
  ⟨(some 7), .mov (.t 61), none, 0⟩]
def c_route_steps_r16 : List AO := [⟨(some 62), .bin .add (.t 39) (.k (.sc (.int .i64 1))), none, 0⟩,
  ⟨(some 39), .mov (.t 62), none, 0⟩]
def c_route_steps_l1 : AC := .seq (.reg c_route_steps_r11 false) (.seq (.cond (.t 40) (.skip) (.exit 4)) (.seq (.blk 5 (.seq (.reg c_route_steps_r12 false) (.seq (.reg c_route_steps_r13 false) (.cond (.t 47) (.seq (.reg c_route_steps_r14 false) (.reg c_route_steps_r15 false)) (.skip))))) (.reg c_route_steps_r16 false)))
def c_route_steps_r17 : List AO := [⟨(some 30), .mov (.t 7), none, 0⟩,
  ⟨(some 31), .slice 1 (.t 30) (some (.k (.sc (.int .i64 1)))) none none, none, 0⟩,
  ⟨(some 7), .mov (.t 31), none, 0⟩]
def c_route_steps_l2 : AC := .seq (.seq (.reg c_route_steps_r9 false) (.cond (.t 29) (.skip) (.exit 2))) (.seq (.blk 3 (.seq (.reg c_route_steps_r10 false) (.blk 4 (.loop c_route_steps_l1)))) (.reg c_route_steps_r17 false))
def c_route_steps_r18 : List AO := [⟨(some 63), .mov (.t 5), none, 0⟩,
  ⟨(some 4), .mov (.t 63), none, 0⟩]
def c_route_steps : AFn := { code := .seq (.reg c_route_steps_r0 false) (.seq (.reg c_route_steps_r1 false) (.seq (.seq (.reg c_route_steps_r2 false) (.blk 0 (.loop c_route_steps_l0))) (.seq (.reg c_route_steps_r7 false) (.seq (.seq (.reg c_route_steps_r8 false) (.blk 2 (.loop c_route_steps_l2))) (.seq (.reg c_route_steps_r18 false) (.ret)))))), ntmps := 64, results := [.tmp 4] }
/-- 37 phasor/route.near -/
def c_route_near_r0 : List AO := [⟨(some 1), .box (.t 0), none, 0⟩,
  ⟨(some 2), .mov (.k (.sc (.slice none 0 0))), none, 0⟩]
def c_route_near_r1 : List AO := [⟨(some 8), .fieldAddr 0 (.t 1), none, 0⟩,
  ⟨(some 9), .load false 1 (.t 8), none, 0⟩,
  ⟨(some 10), .makeSlice 1 24 [(.sc (.slice none 0 0))] (.t 9) (.t 9), none, 0⟩,
  ⟨(some 3), .mov (.t 10), none, 0⟩]
def c_route_near_r2 : List AO := [⟨(some 11), .fieldAddr 1 (.t 1), none, 0⟩,
  ⟨(some 12), .load false 1 (.t 11), none, 0⟩,
  ⟨(some 13), .len (.t 12), none, 0⟩,
  ⟨(some 14), .mov (.k (.sc (.int .i64 0))), none, 0⟩]
def c_route_near_r3 : List AO := [⟨(some 15), .bin .lss (.t 14) (.t 13), none, 0⟩]
def c_route_near_r4 : List AO := [⟨(some 16), .indexAddr none 2 (.t 12) (.t 14), none, 0⟩,
  ⟨(some 17), .load true 2 (.t 16), none, 0⟩,
  ⟨(some 5), .alloc [(.sc (.int .i64 0)), (.sc (.int .i64 0))], none, 0⟩,
  ⟨none, .store 2 (.t 5) (.t 17), none, 0⟩]
def c_route_near_r5 : List AO := [⟨(some 18), .mov (.t 3), none, 0⟩,
  ⟨(some 19), .indexAddr (some 2) 1 (.t 5) (.k (.sc (.int .i64 0))), none, 0⟩,
  ⟨(some 20), .load false 1 (.t 19), none, 2⟩,
  ⟨(some 21), .mov (.t 3), none, 0⟩,
  ⟨(some 22), .indexAddr (some 2) 1 (.t 5) (.k (.sc (.int .i64 0))), none, 0⟩,
  ⟨(some 23), .load false 1 (.t 22), none, 16⟩,
  ⟨(some 24), .indexAddr none 1 (.t 21) (.t 23), none, 56⟩,
  ⟨(some 25), .load false 1 (.t 24), none, 120⟩,
  ⟨(some 26), .indexAddr (some 2) 1 (.t 5) (.k (.sc (.int .i64 1))), none, 0⟩,
  ⟨(some 27), .load false 1 (.t 26), none, 256⟩,
  ⟨(some 28), .buildSlice 1 1 [(.sc (.int .i64 0))] [(0, 1, (.t 27))], none, 768⟩,
  ⟨(some 29), .append 1 8 (.t 25) (.t 28), none, 2040⟩,
  ⟨(some 30), .indexAddr none 1 (.t 18) (.t 20), none, 4095⟩,
  ⟨none, .store 1 (.t 30) (.t 29), none, 8191⟩]
def c_route_near_r6 : List AO := [⟨(some 31), .mov (.t 3), none, 0⟩,
  ⟨(some 32), .indexAddr (some 2) 1 (.t 5) (.k (.sc (.int .i64 1))), none, 0⟩,
  ⟨(some 33), .load false 1 (.t 32), none, 2⟩,
  ⟨(some 34), .mov (.t 3), none, 0⟩,
  ⟨(some 35), .indexAddr (some 2) 1 (.t 5) (.k (.sc (.int .i64 1))), none, 0⟩,
  ⟨(some 36), .load false 1 (.t 35), none, 16⟩,
  ⟨(some 37), .indexAddr none 1 (.t 34) (.t 36), none, 56⟩,
  ⟨(some 38), .load false 1 (.t 37), none, 120⟩,
  ⟨(some 39), .indexAddr (some 2) 1 (.t 5) (.k (.sc (.int .i64 0))), none, 0⟩,
  ⟨(some 40), .load false 1 (.t 39), none, 256⟩,
  ⟨(some 41), .buildSlice 1 1 [(.sc (.int .i64 0))] [(0, 1, (.t 40))], none, 768⟩,
  ⟨(some 42), .append 1 8 (.t 38) (.t 41), none, 2040⟩,
  ⟨(some 43), .indexAddr none 1 (.t 31) (.t 33), none, 4095⟩,
  ⟨none, .store 1 (.t 43) (.t 42), none, 8191⟩]
def c_route_near_r7 : List AO := [⟨(some 44), .bin .add (.t 14) (.k (.sc (.int .i64 1))), none, 0⟩,
  ⟨(some 14), .mov (.t 44), none, 0⟩]
def c_route_near_l0 : AC := .seq (.reg c_route_near_r3 false) (.seq (.cond (.t 15) (.skip) (.exit 0)) (.seq (.blk 1 (.seq (.reg c_route_near_r4 false) (.seq (.reg c_route_near_r5 true) (.reg c_route_near_r6 true)))) (.reg c_route_near_r7 false)))
def c_route_near_r8 : List AO := [⟨(some 45), .mov (.t 3), none, 0⟩,
  ⟨(some 46), .len (.t 45), none, 0⟩,
  ⟨(some 47), .mov (.k (.sc (.int .i64 0))), none, 0⟩]
def c_route_near_r9 : List AO := [⟨(some 48), .bin .lss (.t 47) (.t 46), none, 0⟩]
def c_route_near_r10 : List AO := [⟨(some 49), .mov (.t 47), none, 0⟩,
  ⟨(some 50), .indexAddr none 1 (.t 45) (.t 47), none, 0⟩,
  ⟨(some 51), .load false 1 (.t 50), none, 0⟩,
  ⟨(some 6), .mov (.t 49), none, 0⟩,
  ⟨(some 7), .mov (.t 51), none, 0⟩]
def c_route_near_r11 : List AO := [⟨(some 52), .mov (.t 7), none, 0⟩,
  ⟨(some 53), .call (.k (.fn (.func f_slices_Sort_int_int) [] [])) [(.t 52)], none, 0⟩]
def c_route_near_r12 : List AO := [⟨(some 54), .mov (.t 3), none, 0⟩,
  ⟨(some 55), .mov (.t 6), none, 0⟩,
  ⟨(some 56), .mov (.t 7), none, 0⟩,
  ⟨(some 57), .call (.k (.fn (.func f_slices_Compact_int_int) [] [])) [(.t 56)], none, 0⟩,
  ⟨(some 58), .indexAddr none 1 (.t 54) (.t 55), none, 0⟩,
  ⟨none, .store 1 (.t 58) (.t 57), none, 0⟩]
def c_route_near_r13 : List AO := [⟨(some 59), .bin .add (.t 47) (.k (.sc (.int .i64 1))), none, 0⟩,
  ⟨(some 47), .mov (.t 59), none, 0⟩]
def c_route_near_l1 : AC := .seq (.reg c_route_near_r9 false) (.seq (.cond (.t 48) (.skip) (.exit 2)) (.seq (.blk 3 (.seq (.reg c_route_near_r10 false) (.seq (.reg c_route_near_r11 false) (.reg c_route_near_r12 false)))) (.reg c_route_near_r13 false)))
def c_route_near_r14 : List AO := [⟨(some 60), .mov (.t 3), none, 0⟩,
  ⟨(some 2), .mov (.t 60), none, 0⟩]
def c_route_near : AFn := { code := .seq (.reg c_route_near_r0 false) (.seq (.reg c_route_near_r1 false) (.seq (.seq (.reg c_route_near_r2 false) (.blk 0 (.loop c_route_near_l0))) (.seq (.seq (.reg c_route_near_r8 false) (.blk 2 (.loop c_route_near_l1))) (.seq (.reg c_route_near_r14 false) (.ret))))), ntmps := 61, results := [.tmp 2] }
/-- 38 phasor/route.far -/
def c_route_far_r0 : List AO := [⟨(some 2), .mov (.k (.sc (.slice none 0 0))), none, 0⟩]
def c_route_far_r1 : List AO := [⟨(some 3), .mov (.k (.sc (.slice none 0 0))), none, 0⟩]
def c_route_far_r2 : List AO := [⟨(some 5), .mov (.t 0), none, 0⟩,
  ⟨(some 6), .len (.t 5), none, 0⟩,
  ⟨(some 7), .mov (.k (.sc (.int .i64 0))), none, 0⟩]
def c_route_far_r3 : List AO := [⟨(some 8), .bin .lss (.t 7) (.t 6), none, 0⟩]
def c_route_far_r4 : List AO := [⟨(some 9), .mov (.t 7), none, 0⟩,
  ⟨(some 4), .mov (.t 9), none, 0⟩]
def c_route_far_r5 : List AO := [⟨(some 10), .mov (.t 3), none, 0⟩,
  ⟨(some 11), .mov (.t 0), none, 0⟩,
  ⟨(some 12), .mov (.t 4), none, 0⟩,
  ⟨(some 13), .call (.k (.fn (.func f_route_steps) [] [])) [(.t 11), (.t 12)], none, 0⟩,
  ⟨(some 14), .buildSlice 1 1 [(.sc (.slice none 0 0))] [(0, 1, (.t 13))], none, 0⟩,
  ⟨(some 15), .append 1 24 (.t 10) (.t 14), none, 0⟩,
  ⟨(some 3), .mov (.t 15), none, 0⟩]
def c_route_far_r6 : List AO := [⟨(some 16), .bin .add (.t 7) (.k (.sc (.int .i64 1))), none, 0⟩,
  ⟨(some 7), .mov (.t 16), none, 0⟩]
def c_route_far_l0 : AC := .seq (.reg c_route_far_r3 false) (.seq (.cond (.t 8) (.skip) (.exit 0)) (.seq (.blk 1 (.seq (.reg c_route_far_r4 false) (.reg c_route_far_r5 false))) (.reg c_route_far_r6 false)))
def c_route_far_r7 : List AO := [⟨(some 17), .mov (.t 3), none, 0⟩,
  ⟨(some 2), .mov (.t 17), none, 0⟩]
def c_route_far : AFn := { code := .seq (.reg c_route_far_r0 false) (.seq (.reg c_route_far_r1 false) (.seq (.seq (.reg c_route_far_r2 false) (.blk 0 (.loop c_route_far_l0))) (.seq (.reg c_route_far_r7 false) (.ret)))), ntmps := 18, results := [.tmp 2] }
/-- 39 phasor/route.path -/
def c_route_path_r0 : List AO := [⟨(some 5), .box (.t 1), none, 0⟩,
  ⟨(some 6), .box (.t 2), none, 0⟩,
  ⟨(some 7), .box (.t 3), none, 0⟩,
  ⟨(some 8), .mov (.k (.sc (.slice none 0 0))), none, 0⟩]
def c_route_path_r1 : List AO := [⟨(some 10), .load false 1 (.t 6), none, 0⟩,
  ⟨(some 11), .buildSlice 1 1 [(.sc (.int .i64 0))] [(0, 1, (.t 10))], none, 0⟩,
  ⟨(some 9), .mov (.t 11), none, 0⟩]
def c_route_path_r2 : List AO := [⟨(some 12), .load false 1 (.t 6), none, 0⟩,
  ⟨(some 13), .load false 1 (.t 7), none, 0⟩,
  ⟨(some 14), .bin .neq (.t 12) (.t 13), none, 0⟩]
def c_route_path_r3 : List AO := [⟨(some 15), .mov (.t 0), none, 0⟩,
  ⟨(some 16), .load false 1 (.t 6), none, 0⟩,
  ⟨(some 17), .indexAddr none 1 (.t 15) (.t 16), none, 3⟩,
  ⟨(some 18), .load false 1 (.t 17), none, 7⟩,
  ⟨(some 19), .mov (.t 0), none, 0⟩,
  ⟨(some 20), .load false 1 (.t 6), none, 0⟩,
  ⟨(some 21), .indexAddr none 1 (.t 19) (.t 20), none, 48⟩,
  ⟨(some 22), .load false 1 (.t 21), none, 112⟩,
  ⟨(some 23), .makeFunc (.func f_route_path_1) [] [(.t 5), (.t 7), (.t 6)], none, 0⟩,
  ⟨(some 24), .call (.k (.fn (.func f_slices_IndexFunc_int_int) [] [])) [(.t 22), (.t 23)], none, 496⟩,
  ⟨(some 25), .indexAddr none 1 (.t 18) (.t 24), none, 1023⟩,
  ⟨(some 26), .load false 1 (.t 25), none, 2047⟩,
  ⟨none, .store 1 (.t 6) (.t 26), none, 4095⟩]
def c_route_path_r4 : List AO := [⟨(some 27), .mov (.t 9), none, 0⟩,
  ⟨(some 28), .load false 1 (.t 6), none, 0⟩,
  ⟨(some 29), .buildSlice 1 1 [(.sc (.int .i64 0))] [(0, 1, (.t 28))], none, 0⟩,
  ⟨(some 30), .append 1 8 (.t 27) (.t 29), none, 0⟩,
  ⟨(some 9), .mov (.t 30), none, 0⟩]
def c_route_path_l0 : AC := .seq (.seq (.reg c_route_path_r2 false) (.cond (.t 14) (.skip) (.exit 0))) (.blk 1 (.seq (.reg c_route_path_r3 true) (.reg c_route_path_r4 false)))
def c_route_path_r5 : List AO := [⟨(some 31), .mov (.t 9), none, 0⟩,
  ⟨(some 8), .mov (.t 31), none, 0⟩]
def c_route_path : AFn := { code := .seq (.reg c_route_path_r0 false) (.seq (.reg c_route_path_r1 false) (.seq (.blk 0 (.loop c_route_path_l0)) (.seq (.reg c_route_path_r5 false) (.ret)))), ntmps := 32, results := [.tmp 8] }
/-- 40 phasor/phasorref20.step -/
def c_phasorref20_step_r0 : List AO := [⟨(some 6), .mov (.k (.sc (.int .i64 0))), none, 0⟩]
def c_phasorref20_step_r1 : List AO := [⟨(some 7), .mov (.k (.sc (.int .i64 0))), none, 0⟩]
def c_phasorref20_step_r2 : List AO := [⟨(some 8), .mov (.t 7), none, 0⟩,
  ⟨(some 9), .mov (.t 0), none, 0⟩,
  ⟨(some 10), .len (.t 9), none, 0⟩,
  ⟨(some 11), .bin .lss (.t 8) (.t 10), none, 0⟩]
def c_phasorref20_step_r3 : List AO := [⟨(some 14), .mov (.t 0), none, 0⟩,
  ⟨(some 15), .mov (.t 1), none, 0⟩,
  ⟨(some 16), .indexAddr none 1 (.t 14) (.t 15), none, 3⟩,
  ⟨(some 17), .load false 1 (.t 16), none, 7⟩,
  ⟨(some 18), .mov (.t 7), none, 0⟩,
  ⟨(some 19), .indexAddr none 1 (.t 17) (.t 18), none, 31⟩,
  ⟨(some 20), .load false 1 (.t 19), none, 63⟩,
  ⟨(some 21), .bin .eql (.t 20) (.k (.sc (.int .i64 1))), none, 127⟩,
  ⟨(some 22), .mov (.t 21), none, 255⟩,
  ⟨(some 23), .mov (.t 0), (some ((some 22), true)), 511⟩,
  ⟨(some 24), .mov (.t 7), (some ((some 22), true)), 511⟩,
  ⟨(some 25), .indexAddr none 1 (.t 23) (.t 24), (some ((some 22), true)), 2047⟩,
  ⟨(some 26), .load false 1 (.t 25), (some ((some 22), true)), 4095⟩,
  ⟨(some 27), .mov (.t 2), (some ((some 22), true)), 511⟩,
  ⟨(some 28), .indexAddr none 1 (.t 26) (.t 27), (some ((some 22), true)), 16383⟩,
  ⟨(some 29), .load false 1 (.t 28), (some ((some 22), true)), 32767⟩,
  ⟨(some 30), .mov (.t 0), (some ((some 22), true)), 511⟩,
  ⟨(some 31), .mov (.t 1), (some ((some 22), true)), 511⟩,
  ⟨(some 32), .indexAddr none 1 (.t 30) (.t 31), (some ((some 22), true)), 197119⟩,
  ⟨(some 33), .load false 1 (.t 32), (some ((some 22), true)), 459263⟩,
  ⟨(some 34), .mov (.t 2), (some ((some 22), true)), 511⟩,
  ⟨(some 35), .indexAddr none 1 (.t 33) (.t 34), (some ((some 22), true)), 2032127⟩,
  ⟨(some 36), .load false 1 (.t 35), (some ((some 22), true)), 4129279⟩,
  ⟨(some 37), .bin .sub (.t 36) (.k (.sc (.int .i64 1))), (some ((some 22), true)), 8323583⟩,
  ⟨(some 38), .bin .eql (.t 29) (.t 37), (some ((some 22), true)), 16777215⟩,
  ⟨(some 39), .pick (.t 22) (.t 38) (.k (.sc (.bool false))), none, 33554431⟩]
def c_phasorref20_step_r4 : List AO := [⟨(some 40), .mov (.t 7), none, 0⟩,
  ⟨(some 6), .mov (.t 40), none, 0⟩]
def c_phasorref20_step_r5 : List AO := [⟨(some 12), .mov (.t 7), none, 0⟩,
  ⟨(some 13), .bin .add (.t 12) (.k (.sc (.int .i64 1))), none, 0⟩,
  ⟨(some 7), .mov (.t 13), none, 0⟩]
def c_phasorref20_step_l0 : AC := .seq (.seq (.reg c_phasorref20_step_r2 false) (.cond (.t 11) (.skip) (.exit 0))) (.seq (.blk 1 (.seq (.reg c_phasorref20_step_r3 true) (.cond (.t 39) (.seq (.reg c_phasorref20_step_r4 false) (.ret)) (.skip)))) (.reg c_phasorref20_step_r5 false))
def c_phasorref20_step_r6 : List AO := [⟨(some 41), .mov (.t 1), none, 0⟩,
  ⟨(some 6), .mov (.t 41), none, 0⟩]
def c_phasorref20_step : AFn := { code := .seq (.reg c_phasorref20_step_r0 false) (.seq (.seq (.reg c_phasorref20_step_r1 false) (.blk 0 (.loop c_phasorref20_step_l0))) (.seq (.reg c_phasorref20_step_r6 false) (.ret))), ntmps := 42, results := [.tmp 6] }
/-- 41 phasor/circuit.Check -/
def c_circuit_Check_r0 : List AO := [⟨(some 1), .box (.t 0), none, 0⟩,
  ⟨(some 2), .mov (.k (.sc (.int .i64 0))), none, 0⟩,
  ⟨(some 3), .mov (.k (.sc (.int .i64 0))), none, 0⟩]
def c_circuit_Check_r1 : List AO := [⟨(some 6), .fieldAddr 0 (.t 1), none, 0⟩,
  ⟨(some 7), .load false 1 (.t 6), none, 0⟩,
  ⟨(some 8), .bin .lss (.t 7) (.k (.sc (.int .i64 0))), none, 0⟩,
  ⟨(some 9), .mov (.t 8), none, 0⟩,
  ⟨(some 10), .fieldAddr 0 (.t 1), (some ((some 9), false)), 0⟩,
  ⟨(some 11), .load false 1 (.t 10), (some ((some 9), false)), 0⟩,
  ⟨(some 12), .bin .gtr (.t 11) (.k (.sc (.int .i64 64))), (some ((some 9), false)), 0⟩,
  ⟨(some 13), .pick (.t 9) (.k (.sc (.bool true))) (.t 12), none, 0⟩,
  ⟨(some 14), .mov (.t 13), none, 0⟩,
  ⟨(some 15), .fieldAddr 1 (.t 1), (some ((some 14), false)), 0⟩,
  ⟨(some 16), .load false 1 (.t 15), (some ((some 14), false)), 0⟩,
  ⟨(some 17), .bin .lss (.t 16) (.k (.sc (.int .i64 0))), (some ((some 14), false)), 0⟩,
  ⟨(some 18), .pick (.t 14) (.k (.sc (.bool true))) (.t 17), none, 0⟩,
  ⟨(some 19), .mov (.t 18), none, 0⟩,
  ⟨(some 20), .fieldAddr 1 (.t 1), (some ((some 19), false)), 0⟩,
  ⟨(some 21), .load false 1 (.t 20), (some ((some 19), false)), 0⟩,
  ⟨(some 22), .bin .gtr (.t 21) (.k (.sc (.int .i64 64))), (some ((some 19), false)), 0⟩,
  ⟨(some 23), .pick (.t 19) (.k (.sc (.bool true))) (.t 22), none, 0⟩,
  ⟨(some 24), .mov (.t 23), none, 0⟩,
  ⟨(some 25), .fieldAddr 2 (.t 1), (some ((some 24), false)), 0⟩,
  ⟨(some 26), .load false 1 (.t 25), (some ((some 24), false)), 0⟩,
  ⟨(some 27), .len (.t 26), (some ((some 24), false)), 0⟩,
  ⟨(some 28), .bin .gtr (.t 27) (.k (.sc (.int .i64 4096))), (some ((some 24), false)), 0⟩,
  ⟨(some 29), .pick (.t 24) (.k (.sc (.bool true))) (.t 28), none, 0⟩]
def c_circuit_Check_r2 : List AO := [⟨(some 2), .mov (.k (.sc (.int .i64 (-1)))), none, 0⟩,
  ⟨(some 3), .mov (.k (.sc (.int .i64 80))), none, 0⟩]
def c_circuit_Check_r3 : List AO := [⟨(some 30), .fieldAddr 2 (.t 1), none, 0⟩,
  ⟨(some 31), .load false 1 (.t 30), none, 0⟩,
  ⟨(some 32), .len (.t 31), none, 0⟩,
  ⟨(some 33), .mov (.k (.sc (.int .i64 0))), none, 0⟩]
def c_circuit_Check_r4 : List AO := [⟨(some 34), .bin .lss (.t 33) (.t 32), none, 0⟩]
def c_circuit_Check_r5 : List AO := [⟨(some 35), .mov (.t 33), none, 0⟩,
  ⟨(some 36), .indexAddr none 6 (.t 31) (.t 33), none, 0⟩,
  ⟨(some 37), .load true 6 (.t 36), none, 0⟩,
  ⟨(some 5), .alloc [(.sc (.int .i64 0)), (.sc (.int .i64 0)), (.sc (.slice none 0 0)), (.sc (.int .i64 0)), (.sc (.int .i64 0)), (.sc (.int .i64 0))], none, 0⟩,
  ⟨(some 4), .mov (.t 35), none, 0⟩,
  ⟨none, .store 6 (.t 5) (.t 37), none, 0⟩]
def c_circuit_Check_r6 : List AO := [⟨(some 38), .load true 6 (.t 5), none, 0⟩,
  ⟨(some 39), .fieldAddr 0 (.t 1), none, 0⟩,
  ⟨(some 40), .load false 1 (.t 39), none, 0⟩,
  ⟨(some 41), .fieldAddr 1 (.t 1), none, 0⟩,
  ⟨(some 42), .load false 1 (.t 41), none, 0⟩,
  ⟨(some 43), .call (.k (.fn (.func f_circuit_may) [] [])) [(.t 38), (.t 40), (.t 42)], none, 0⟩,
  ⟨(some 44), .un .not (.t 43), none, 0⟩]
def c_circuit_Check_r7 : List AO := [⟨(some 45), .mov (.t 4), none, 0⟩,
  ⟨(some 2), .mov (.t 45), none, 0⟩,
  ⟨(some 3), .mov (.k (.sc (.int .i64 80))), none, 0⟩]
def c_circuit_Check_r8 : List AO := [⟨(some 46), .bin .add (.t 33) (.k (.sc (.int .i64 1))), none, 0⟩,
  ⟨(some 33), .mov (.t 46), none, 0⟩]
def c_circuit_Check_l0 : AC := .seq (.reg c_circuit_Check_r4 false) (.seq (.cond (.t 34) (.skip) (.exit 0)) (.seq (.blk 1 (.seq (.reg c_circuit_Check_r5 false) (.seq (.reg c_circuit_Check_r6 false) (.cond (.t 44) (.seq (.reg c_circuit_Check_r7 false) (.ret)) (.skip))))) (.reg c_circuit_Check_r8 false)))
def c_circuit_Check_r9 : List AO := [⟨(some 2), .mov (.k (.sc (.int .i64 0))), none, 0⟩,
  ⟨(some 3), .mov (.k (.sc (.int .i64 0))), none, 0⟩]
def c_circuit_Check : AFn := { code := .seq (.reg c_circuit_Check_r0 false) (.seq (.seq (.reg c_circuit_Check_r1 false) (.cond (.t 29) (.seq (.reg c_circuit_Check_r2 false) (.ret)) (.skip))) (.seq (.seq (.reg c_circuit_Check_r3 false) (.blk 0 (.loop c_circuit_Check_l0))) (.seq (.reg c_circuit_Check_r9 false) (.ret)))), ntmps := 47, results := [.tmp 2, .tmp 3] }
/-- 42 phasor/route.Fits$1 -/
def c_route_Fits_1_r0 : List AO := [⟨(some 2), .box (.t 0), none, 0⟩,
  ⟨(some 3), .mov (.k (.sc (.bool false))), none, 0⟩]
def c_route_Fits_1_r1 : List AO := [⟨(some 4), .fieldAddr 0 (.t 2), none, 0⟩,
  ⟨(some 5), .load false 1 (.t 4), none, 0⟩,
  ⟨(some 6), .bin .neq (.t 5) (.k (.sc (.int .i64 1))), none, 0⟩,
  ⟨(some 7), .mov (.t 6), none, 0⟩,
  ⟨(some 8), .fieldAddr 2 (.t 2), (some ((some 7), false)), 0⟩,
  ⟨(some 9), .load false 1 (.t 8), (some ((some 7), false)), 0⟩,
  ⟨(some 10), .len (.t 9), (some ((some 7), false)), 0⟩,
  ⟨(some 11), .bin .eql (.t 10) (.k (.sc (.int .i64 1))), (some ((some 7), false)), 0⟩,
  ⟨(some 12), .pick (.t 7) (.k (.sc (.bool true))) (.t 11), none, 0⟩]
def c_route_Fits_1_r2 : List AO := [⟨(some 3), .mov (.k (.sc (.bool false))), none, 0⟩]
def c_route_Fits_1_r3 : List AO := [⟨(some 13), .fieldAddr 2 (.t 2), none, 0⟩,
  ⟨(some 14), .load false 1 (.t 13), none, 1⟩,
  ⟨(some 15), .len (.t 14), none, 3⟩,
  ⟨(some 16), .bin .gtr (.t 15) (.k (.sc (.int .i64 2))), none, 7⟩,
  ⟨(some 17), .mov (.t 16), none, 15⟩,
  ⟨(some 18), .load false 1 (.t 1), (some ((some 17), false)), 31⟩,
  ⟨(some 19), .fieldAddr 2 (.t 2), (some ((some 17), false)), 31⟩,
  ⟨(some 20), .load false 1 (.t 19), (some ((some 17), false)), 95⟩,
  ⟨(some 21), .indexAddr none 1 (.t 20) (.k (.sc (.int .i64 0))), (some ((some 17), false)), 223⟩,
  ⟨(some 22), .load false 1 (.t 21), (some ((some 17), false)), 479⟩,
  ⟨(some 23), .indexAddr none 1 (.t 18) (.t 22), (some ((some 17), false)), 1023⟩,
  ⟨(some 24), .load false 1 (.t 23), (some ((some 17), false)), 2047⟩,
  ⟨(some 25), .fieldAddr 2 (.t 2), (some ((some 17), false)), 31⟩,
  ⟨(some 26), .load false 1 (.t 25), (some ((some 17), false)), 4127⟩,
  ⟨(some 27), .indexAddr none 1 (.t 26) (.k (.sc (.int .i64 1))), (some ((some 17), false)), 12319⟩,
  ⟨(some 28), .load false 1 (.t 27), (some ((some 17), false)), 28703⟩,
  ⟨(some 29), .call (.k (.fn (.func f_slices_Contains_int_int) [] [])) [(.t 24), (.t 28)], (some ((some 17), false)), 65535⟩,
  ⟨(some 30), .un .not (.t 29), (some ((some 17), false)), 131071⟩,
  ⟨(some 31), .pick (.t 17) (.k (.sc (.bool true))) (.t 30), none, 262143⟩,
  ⟨(some 3), .mov (.t 31), none, 524287⟩]
def c_route_Fits_1 : AFn := { code := .seq (.reg c_route_Fits_1_r0 false) (.seq (.seq (.reg c_route_Fits_1_r1 false) (.cond (.t 12) (.seq (.reg c_route_Fits_1_r2 false) (.ret)) (.skip))) (.seq (.reg c_route_Fits_1_r3 true) (.ret))), ntmps := 32, results := [.tmp 3] }
/-- 43 slices.ContainsFunc[[]phasor/api.Op,phasor/api.Op] -/
def c_slices_ContainsFunc_api_Op_api_Op_r0 : List AO := [⟨(some 4), .mov (.k (.sc (.bool false))), none, 0⟩]
def c_slices_ContainsFunc_api_Op_api_Op_r1 : List AO := [⟨(some 5), .mov (.t 0), none, 0⟩,
  ⟨(some 6), .mov (.t 1), none, 0⟩,
  ⟨(some 7), .call (.k (.fn (.func f_slices_IndexFunc_api_Op_api_Op) [] [])) [(.t 5), (.t 6)], none, 0⟩,
  ⟨(some 8), .bin .geq (.t 7) (.k (.sc (.int .i64 0))), none, 0⟩,
  ⟨(some 4), .mov (.t 8), none, 0⟩]
def c_slices_ContainsFunc_api_Op_api_Op : AFn := { code := .seq (.reg c_slices_ContainsFunc_api_Op_api_Op_r0 false) (.seq (.reg c_slices_ContainsFunc_api_Op_api_Op_r1 false) (.ret)), ntmps := 9, results := [.tmp 4] }
/-- 44 phasor/phasorref08.May -/
def c_phasorref08_May_r0 : List AO := [⟨(some 1), .box (.t 0), none, 0⟩,
  ⟨(some 2), .mov (.k (.sc (.bool false))), none, 0⟩]
def c_phasorref08_May_r1 : List AO := [⟨(some 6), .load true 3 (.t 1), none, 0⟩,
  ⟨(some 7), .call (.k (.fn (.func f_phasorref08_Check) [] [])) [(.t 6)], none, 0⟩,
  ⟨(some 5), .mov (.t 7), none, 0⟩,
  ⟨(some 8), .extract (.t 5) 0, none, 0⟩,
  ⟨(some 9), .extract (.t 5) 1, none, 0⟩,
  ⟨(some 3), .mov (.t 8), none, 0⟩,
  ⟨(some 4), .mov (.t 9), none, 0⟩]
def c_phasorref08_May_r2 : List AO := [⟨(some 10), .mov (.t 4), none, 0⟩,
  ⟨(some 11), .bin .eql (.t 10) (.k (.sc (.int .i64 0))), none, 0⟩,
  ⟨(some 2), .mov (.t 11), none, 0⟩]
def c_phasorref08_May : AFn := { code := .seq (.reg c_phasorref08_May_r0 false) (.seq (.reg c_phasorref08_May_r1 false) (.seq (.reg c_phasorref08_May_r2 false) (.ret))), ntmps := 12, results := [.tmp 2] }
/-- 45 phasor/route.Route$1 -/
def c_route_Route_1_r0 : List AO := [⟨(some 1), .box (.t 0), none, 0⟩,
  ⟨(some 2), .mov (.k (.sc (.bool false))), none, 0⟩]
def c_route_Route_1_r1 : List AO := [⟨(some 3), .fieldAddr 0 (.t 1), none, 0⟩,
  ⟨(some 4), .load false 1 (.t 3), none, 0⟩,
  ⟨(some 5), .bin .eql (.t 4) (.k (.sc (.int .i64 1))), none, 0⟩,
  ⟨(some 6), .mov (.t 5), none, 0⟩,
  ⟨(some 7), .fieldAddr 2 (.t 1), (some ((some 6), true)), 0⟩,
  ⟨(some 8), .load false 1 (.t 7), (some ((some 6), true)), 0⟩,
  ⟨(some 9), .len (.t 8), (some ((some 6), true)), 0⟩,
  ⟨(some 10), .bin .gtr (.t 9) (.k (.sc (.int .i64 2))), (some ((some 6), true)), 0⟩,
  ⟨(some 11), .pick (.t 6) (.t 10) (.k (.sc (.bool false))), none, 0⟩,
  ⟨(some 2), .mov (.t 11), none, 0⟩]
def c_route_Route_1 : AFn := { code := .seq (.reg c_route_Route_1_r0 false) (.seq (.reg c_route_Route_1_r1 false) (.ret)), ntmps := 12, results := [.tmp 2] }
/-- 46 phasor/circuit.Copy -/
def c_circuit_Copy_r0 : List AO := [⟨(some 1), .box (.t 0), none, 0⟩,
  ⟨(some 2), .alloc [(.sc (.int .i64 0)), (.sc (.int .i64 0)), (.sc (.slice none 0 0))], none, 0⟩]
def c_circuit_Copy_r1 : List AO := [⟨(some 6), .fieldAddr 0 (.t 1), none, 0⟩,
  ⟨(some 7), .load false 1 (.t 6), none, 0⟩,
  ⟨(some 8), .fieldAddr 1 (.t 1), none, 0⟩,
  ⟨(some 9), .load false 1 (.t 8), none, 0⟩,
  ⟨(some 10), .build [(.sc (.int .i64 0)), (.sc (.int .i64 0)), (.sc (.slice none 0 0))] [(0, 1, (.t 7)), (1, 1, (.t 9))], none, 0⟩,
  ⟨(some 3), .alloc [(.sc (.int .i64 0)), (.sc (.int .i64 0)), (.sc (.slice none 0 0))], none, 0⟩,
  ⟨none, .store 3 (.t 3) (.t 10), none, 0⟩]
def c_circuit_Copy_r2 : List AO := [⟨(some 11), .fieldAddr 2 (.t 1), none, 0⟩,
  ⟨(some 12), .load false 1 (.t 11), none, 0⟩,
  ⟨(some 13), .len (.t 12), none, 0⟩,
  ⟨(some 14), .mov (.k (.sc (.int .i64 0))), none, 0⟩]
def c_circuit_Copy_r3 : List AO := [⟨(some 15), .bin .lss (.t 14) (.t 13), none, 0⟩]
def c_circuit_Copy_r4 : List AO := [⟨(some 16), .indexAddr none 6 (.t 12) (.t 14), none, 0⟩,
  ⟨(some 17), .load true 6 (.t 16), none, 0⟩,
  ⟨(some 5), .alloc [(.sc (.int .i64 0)), (.sc (.int .i64 0)), (.sc (.slice none 0 0)), (.sc (.int .i64 0)), (.sc (.int .i64 0)), (.sc (.int .i64 0))], none, 0⟩,
  ⟨none, .store 6 (.t 5) (.t 17), none, 0⟩]
def c_circuit_Copy_r5 : List AO := [⟨(some 18), .fieldAddr 2 (.t 5), none, 0⟩,
  ⟨(some 19), .load false 1 (.t 18), none, 0⟩,
  ⟨(some 20), .call (.k (.fn (.func f_slices_Clone_int_int) [] [])) [(.t 19)], none, 0⟩,
  ⟨(some 21), .fieldAddr 2 (.t 5), none, 0⟩,
  ⟨none, .store 1 (.t 21) (.t 20), none, 0⟩]
def c_circuit_Copy_r6 : List AO := [⟨(some 22), .fieldAddr 2 (.t 3), none, 0⟩,
  ⟨(some 23), .load false 1 (.t 22), none, 0⟩,
  ⟨(some 24), .load true 6 (.t 5), none, 0⟩,
  ⟨(some 25), .buildSlice 6 1 [(.sc (.int .i64 0)), (.sc (.int .i64 0)), (.sc (.slice none 0 0)), (.sc (.int .i64 0)), (.sc (.int .i64 0)), (.sc (.int .i64 0))] [(0, 6, (.t 24))], none, 0⟩,
  ⟨(some 26), .append 6 64 (.t 23) (.t 25), none, 0⟩,
  ⟨(some 27), .fieldAddr 2 (.t 3), none, 0⟩,
  ⟨none, .store 1 (.t 27) (.t 26), none, 0⟩]
def c_circuit_Copy_r7 : List AO := [⟨(some 28), .bin .add (.t 14) (.k (.sc (.int .i64 1))), none, 0⟩,
  ⟨(some 14), .mov (.t 28), none, 0⟩]
def c_circuit_Copy_l0 : AC := .seq (.reg c_circuit_Copy_r3 false) (.seq (.cond (.t 15) (.skip) (.exit 0)) (.seq (.blk 1 (.seq (.reg c_circuit_Copy_r4 false) (.seq (.reg c_circuit_Copy_r5 false) (.reg c_circuit_Copy_r6 false)))) (.reg c_circuit_Copy_r7 false)))
def c_circuit_Copy_r8 : List AO := [⟨(some 29), .load true 3 (.t 3), none, 0⟩,
  ⟨none, .store 3 (.t 2) (.t 29), none, 0⟩]
def c_circuit_Copy : AFn := { code := .seq (.reg c_circuit_Copy_r0 false) (.seq (.reg c_circuit_Copy_r1 false) (.seq (.seq (.reg c_circuit_Copy_r2 false) (.blk 0 (.loop c_circuit_Copy_l0))) (.seq (.reg c_circuit_Copy_r8 false) (.ret)))), ntmps := 30, results := [.cell true 3 2] }
/-- 47 (*phasor/route.laid).swap -/
def c_route_laid_swap_r0 : List AO := [⟨(some 8), .mov (.t 0), none, 0⟩,
  ⟨(some 9), .mov (.t 0), none, 0⟩,
  ⟨(some 10), .nilCheck (.t 9), none, 2⟩,
  ⟨(some 11), .fieldAddr 0 (.t 10), none, 6⟩,
  ⟨(some 12), .load false 1 (.t 11), none, 14⟩,
  ⟨(some 13), .mov (.t 1), none, 0⟩,
  ⟨(some 14), .mov (.t 2), none, 0⟩,
  ⟨(some 15), .call (.k (.fn (.func f_route_swap) [] [])) [(.t 13), (.t 14)], none, 96⟩,
  ⟨(some 16), .buildSlice 6 1 [(.sc (.int .i64 0)), (.sc (.int .i64 0)), (.sc (.slice none 0 0)), (.sc (.int .i64 0)), (.sc (.int .i64 0)), (.sc (.int .i64 0))] [(0, 6, (.t 15))], none, 224⟩,
  ⟨(some 17), .append 6 64 (.t 12) (.t 16), none, 510⟩,
  ⟨(some 18), .nilCheck (.t 8), none, 1023⟩,
  ⟨(some 19), .fieldAddr 0 (.t 18), none, 2047⟩,
  ⟨none, .store 1 (.t 19) (.t 17), none, 4095⟩]
def c_route_laid_swap_r1 : List AO := [⟨(some 20), .mov (.t 0), none, 0⟩,
  ⟨(some 21), .nilCheck (.t 20), none, 0⟩,
  ⟨(some 22), .fieldAddr 2 (.t 21), none, 0⟩,
  ⟨(some 23), .load false 1 (.t 22), none, 0⟩,
  ⟨(some 24), .bin .add (.t 23) (.k (.sc (.int .i64 1))), none, 0⟩,
  ⟨(some 25), .nilCheck (.t 20), none, 0⟩,
  ⟨(some 26), .fieldAddr 2 (.t 25), none, 0⟩,
  ⟨none, .store 1 (.t 26) (.t 24), none, 0⟩]
def c_route_laid_swap_r2 : List AO := [⟨(some 27), .mov (.t 0), none, 0⟩,
  ⟨(some 28), .nilCheck (.t 27), none, 0⟩,
  ⟨(some 29), .fieldAddr 1 (.t 28), none, 0⟩,
  ⟨(some 30), .load false 1 (.t 29), none, 0⟩,
  ⟨(some 31), .len (.t 30), none, 0⟩,
  ⟨(some 32), .mov (.k (.sc (.int .i64 0))), none, 0⟩]
def c_route_laid_swap_r3 : List AO := [⟨(some 33), .bin .lss (.t 32) (.t 31), none, 0⟩]
def c_route_laid_swap_r4 : List AO := [⟨(some 34), .mov (.t 32), none, 0⟩,
  ⟨(some 35), .indexAddr none 1 (.t 30) (.t 32), none, 0⟩,
  ⟨(some 36), .load false 1 (.t 35), none, 0⟩,
  ⟨(some 6), .mov (.t 34), none, 0⟩,
  ⟨(some 7), .mov (.t 36), none, 0⟩]
def c_route_laid_swap_r5 : List AO := [⟨(some 37), .mov (.t 7), none, 0⟩]
def c_route_laid_swap_r6 : List AO := [⟨(some 39), .mov (.t 1), none, 0⟩,
  ⟨(some 40), .bin .eql (.t 37) (.t 39), none, 0⟩,
  ⟨(some 38), .mov (.t 40), none, 0⟩]
def c_route_laid_swap_r7 : List AO := [⟨(some 41), .mov (.t 0), none, 0⟩,
  ⟨(some 42), .nilCheck (.t 41), none, 0⟩,
  ⟨(some 43), .fieldAddr 1 (.t 42), none, 0⟩,
  ⟨(some 44), .load false 1 (.t 43), none, 0⟩,
  ⟨(some 45), .mov (.t 6), none, 0⟩,
  ⟨(some 46), .mov (.t 2), none, 0⟩,
  ⟨(some 47), .indexAddr none 1 (.t 44) (.t 45), none, 0⟩,
  ⟨none, .store 1 (.t 47) (.t 46), none, 0⟩]
def c_route_laid_swap_r8 : List AO := [⟨(some 49), .mov (.t 2), none, 0⟩,
  ⟨(some 50), .bin .eql (.t 37) (.t 49), none, 0⟩,
  ⟨(some 48), .mov (.t 50), none, 0⟩]
def c_route_laid_swap_r9 : List AO := [⟨(some 51), .mov (.t 0), none, 0⟩,
  ⟨(some 52), .nilCheck (.t 51), none, 0⟩,
  ⟨(some 53), .fieldAddr 1 (.t 52), none, 0⟩,
  ⟨(some 54), .load false 1 (.t 53), none, 0⟩,
  ⟨(some 55), .mov (.t 6), none, 0⟩,
  ⟨(some 56), .mov (.t 1), none, 0⟩,
  ⟨(some 57), .indexAddr none 1 (.t 54) (.t 55), none, 0⟩,
  ⟨none, .store 1 (.t 57) (.t 56), none, 0⟩]
def c_route_laid_swap_r10 : List AO := [⟨(some 58), .bin .add (.t 32) (.k (.sc (.int .i64 1))), none, 0⟩,
  ⟨(some 32), .mov (.t 58), none, 0⟩]
def c_route_laid_swap_l0 : AC := .seq (.reg c_route_laid_swap_r3 false) (.seq (.cond (.t 33) (.skip) (.exit 0)) (.seq (.blk 1 (.seq (.reg c_route_laid_swap_r4 false) (.seq (.reg c_route_laid_swap_r5 false) (.blk 2 (.seq (.reg c_route_laid_swap_r6 false) (.cond (.t 38) (.reg c_route_laid_swap_r7 false) (.seq (.reg c_route_laid_swap_r8 false) (.cond (.t 48) (.reg c_route_laid_swap_r9 false) (.skip))))))))) (.reg c_route_laid_swap_r10 false)))
def c_route_laid_swap : AFn := { code := .seq (.reg c_route_laid_swap_r0 true) (.seq (.reg c_route_laid_swap_r1 false) (.seq (.reg c_route_laid_swap_r2 false) (.blk 0 (.loop c_route_laid_swap_l0)))), ntmps := 59, results := [] }
/-- 48 (*phasor/phasorref20.laid).swap -/
def c_phasorref20_laid_swap_r0 : List AO := [⟨(some 7), .mov (.t 0), none, 0⟩,
  ⟨(some 8), .mov (.t 0), none, 0⟩,
  ⟨(some 9), .nilCheck (.t 8), none, 0⟩,
  ⟨(some 10), .fieldAddr 0 (.t 9), none, 0⟩,
  ⟨(some 11), .fieldAddr 2 (.t 10), none, 0⟩,
  ⟨(some 12), .load false 1 (.t 11), none, 0⟩,
  ⟨(some 13), .mov (.t 1), none, 0⟩,
  ⟨(some 14), .mov (.t 2), none, 0⟩,
  ⟨(some 15), .buildSlice 1 2 [(.sc (.int .i64 0)), (.sc (.int .i64 0))] [(0, 1, (.t 13)), (1, 1, (.t 14))], none, 0⟩,
  ⟨(some 16), .build [(.sc (.int .i64 0)), (.sc (.int .i64 0)), (.sc (.slice none 0 0)), (.sc (.int .i64 0)), (.sc (.int .i64 0)), (.sc (.int .i64 0))] [(0, 1, (.k (.sc (.int .i64 1)))), (1, 1, (.k (.sc (.int .i64 14)))), (2, 1, (.t 15)), (4, 1, (.k (.sc (.int .i64 (-1)))))], none, 0⟩,
  ⟨(some 17), .buildSlice 6 1 [(.sc (.int .i64 0)), (.sc (.int .i64 0)), (.sc (.slice none 0 0)), (.sc (.int .i64 0)), (.sc (.int .i64 0)), (.sc (.int .i64 0))] [(0, 6, (.t 16))], none, 0⟩,
  ⟨(some 18), .append 6 64 (.t 12) (.t 17), none, 0⟩,
  ⟨(some 19), .nilCheck (.t 7), none, 0⟩,
  ⟨(some 20), .fieldAddr 0 (.t 19), none, 0⟩,
  ⟨(some 21), .fieldAddr 2 (.t 20), none, 0⟩,
  ⟨none, .store 1 (.t 21) (.t 18), none, 0⟩]
def c_phasorref20_laid_swap_r1 : List AO := [⟨(some 22), .mov (.t 0), none, 0⟩,
  ⟨(some 23), .nilCheck (.t 22), none, 0⟩,
  ⟨(some 24), .fieldAddr 4 (.t 23), none, 0⟩,
  ⟨(some 25), .load false 1 (.t 24), none, 0⟩,
  ⟨(some 26), .bin .add (.t 25) (.k (.sc (.int .i64 1))), none, 0⟩,
  ⟨(some 27), .nilCheck (.t 22), none, 0⟩,
  ⟨(some 28), .fieldAddr 4 (.t 27), none, 0⟩,
  ⟨none, .store 1 (.t 28) (.t 26), none, 0⟩]
def c_phasorref20_laid_swap_r2 : List AO := [⟨(some 6), .mov (.k (.sc (.int .i64 0))), none, 0⟩]
def c_phasorref20_laid_swap_r3 : List AO := [⟨(some 29), .mov (.t 6), none, 0⟩,
  ⟨(some 30), .mov (.t 0), none, 0⟩,
  ⟨(some 31), .nilCheck (.t 30), none, 0⟩,
  ⟨(some 32), .fieldAddr 3 (.t 31), none, 0⟩,
  ⟨(some 33), .load false 1 (.t 32), none, 0⟩,
  ⟨(some 34), .len (.t 33), none, 0⟩,
  ⟨(some 35), .bin .lss (.t 29) (.t 34), none, 0⟩]
def c_phasorref20_laid_swap_r4 : List AO := [⟨(some 38), .mov (.t 0), none, 0⟩,
  ⟨(some 39), .nilCheck (.t 38), none, 0⟩,
  ⟨(some 40), .fieldAddr 3 (.t 39), none, 0⟩,
  ⟨(some 41), .load false 1 (.t 40), none, 0⟩,
  ⟨(some 42), .mov (.t 6), none, 0⟩,
  ⟨(some 43), .indexAddr none 1 (.t 41) (.t 42), none, 0⟩,
  ⟨(some 44), .load false 1 (.t 43), none, 0⟩]
def c_phasorref20_laid_swap_r5 : List AO := [⟨(some 46), .mov (.t 1), none, 0⟩,
  ⟨(some 47), .bin .eql (.t 44) (.t 46), none, 0⟩,
  ⟨(some 45), .mov (.t 47), none, 0⟩]
def c_phasorref20_laid_swap_r6 : List AO := [⟨(some 48), .mov (.t 0), none, 0⟩,
  ⟨(some 49), .nilCheck (.t 48), none, 0⟩,
  ⟨(some 50), .fieldAddr 3 (.t 49), none, 0⟩,
  ⟨(some 51), .load false 1 (.t 50), none, 0⟩,
  ⟨(some 52), .mov (.t 6), none, 0⟩,
  ⟨(some 53), .mov (.t 2), none, 0⟩,
  ⟨(some 54), .indexAddr none 1 (.t 51) (.t 52), none, 0⟩,
  ⟨none, .store 1 (.t 54) (.t 53), none, 0⟩]
def c_phasorref20_laid_swap_r7 : List AO := [⟨(some 56), .mov (.t 2), none, 0⟩,
  ⟨(some 57), .bin .eql (.t 44) (.t 56), none, 0⟩,
  ⟨(some 55), .mov (.t 57), none, 0⟩]
def c_phasorref20_laid_swap_r8 : List AO := [⟨(some 58), .mov (.t 0), none, 0⟩,
  ⟨(some 59), .nilCheck (.t 58), none, 0⟩,
  ⟨(some 60), .fieldAddr 3 (.t 59), none, 0⟩,
  ⟨(some 61), .load false 1 (.t 60), none, 0⟩,
  ⟨(some 62), .mov (.t 6), none, 0⟩,
  ⟨(some 63), .mov (.t 1), none, 0⟩,
  ⟨(some 64), .indexAddr none 1 (.t 61) (.t 62), none, 0⟩,
  ⟨none, .store 1 (.t 64) (.t 63), none, 0⟩]
def c_phasorref20_laid_swap_r9 : List AO := [⟨(some 36), .mov (.t 6), none, 0⟩,
  ⟨(some 37), .bin .add (.t 36) (.k (.sc (.int .i64 1))), none, 0⟩,
  ⟨(some 6), .mov (.t 37), none, 0⟩]
def c_phasorref20_laid_swap_l0 : AC := .seq (.seq (.reg c_phasorref20_laid_swap_r3 false) (.cond (.t 35) (.skip) (.exit 0))) (.seq (.blk 1 (.seq (.reg c_phasorref20_laid_swap_r4 false) (.blk 2 (.seq (.reg c_phasorref20_laid_swap_r5 false) (.cond (.t 45) (.reg c_phasorref20_laid_swap_r6 false) (.seq (.reg c_phasorref20_laid_swap_r7 false) (.cond (.t 55) (.reg c_phasorref20_laid_swap_r8 false) (.skip)))))))) (.reg c_phasorref20_laid_swap_r9 false))
def c_phasorref20_laid_swap : AFn := { code := .seq (.reg c_phasorref20_laid_swap_r0 false) (.seq (.reg c_phasorref20_laid_swap_r1 false) (.seq (.reg c_phasorref20_laid_swap_r2 false) (.blk 0 (.loop c_phasorref20_laid_swap_l0)))), ntmps := 65, results := [] }
/-- 49 (*phasor/phasorref20.laid).routed -/
def c_phasorref20_laid_routed_r0 : List AO := [⟨(some 2), .alloc [(.sc (.int .i64 0)), (.sc (.int .i64 0)), (.sc (.slice none 0 0)), (.sc (.slice none 0 0)), (.sc (.int .i64 0))], none, 0⟩,
  ⟨(some 3), .mov (.k (.sc (.int .i64 0))), none, 0⟩]
def c_phasorref20_laid_routed_r1 : List AO := [⟨(some 4), .mov (.t 0), none, 0⟩,
  ⟨(some 5), .nilCheck (.t 4), none, 0⟩,
  ⟨(some 6), .fieldAddr 0 (.t 5), none, 0⟩,
  ⟨(some 7), .fieldAddr 2 (.t 6), none, 0⟩,
  ⟨(some 8), .load false 1 (.t 7), none, 0⟩,
  ⟨(some 9), .len (.t 8), none, 0⟩,
  ⟨(some 10), .bin .gtr (.t 9) (.k (.sc (.int .i64 4096))), none, 0⟩]
def c_phasorref20_laid_routed_r2 : List AO := [⟨(some 11), .build [(.sc (.int .i64 0)), (.sc (.int .i64 0)), (.sc (.slice none 0 0)), (.sc (.slice none 0 0)), (.sc (.int .i64 0))] [], none, 0⟩,
  ⟨none, .store 5 (.t 2) (.t 11), none, 0⟩,
  ⟨(some 3), .mov (.k (.sc (.int .i64 201))), none, 0⟩]
def c_phasorref20_laid_routed_r3 : List AO := [⟨(some 12), .mov (.t 0), none, 0⟩,
  ⟨(some 13), .nilCheck (.t 12), none, 1⟩,
  ⟨(some 14), .fieldAddr 0 (.t 13), none, 3⟩,
  ⟨(some 15), .load true 3 (.t 14), none, 7⟩,
  ⟨(some 16), .mov (.t 0), none, 0⟩,
  ⟨(some 17), .nilCheck (.t 16), none, 16⟩,
  ⟨(some 18), .fieldAddr 3 (.t 17), none, 48⟩,
  ⟨(some 19), .load false 1 (.t 18), none, 112⟩,
  ⟨(some 20), .mov (.t 0), none, 0⟩,
  ⟨(some 21), .nilCheck (.t 20), none, 256⟩,
  ⟨(some 22), .fieldAddr 4 (.t 21), none, 768⟩,
  ⟨(some 23), .load false 1 (.t 22), none, 1792⟩,
  ⟨(some 24), .build [(.sc (.int .i64 0)), (.sc (.int .i64 0)), (.sc (.slice none 0 0)), (.sc (.slice none 0 0)), (.sc (.int .i64 0))] [(0, 3, (.t 15)), (3, 1, (.t 19)), (4, 1, (.t 23))], none, 4095⟩,
  ⟨none, .store 5 (.t 2) (.t 24), none, 8191⟩,
  ⟨(some 3), .mov (.k (.sc (.int .i64 0))), none, 16383⟩]
def c_phasorref20_laid_routed : AFn := { code := .seq (.reg c_phasorref20_laid_routed_r0 false) (.seq (.seq (.reg c_phasorref20_laid_routed_r1 false) (.cond (.t 10) (.seq (.reg c_phasorref20_laid_routed_r2 false) (.ret)) (.skip))) (.seq (.reg c_phasorref20_laid_routed_r3 true) (.ret))), ntmps := 25, results := [.cell true 5 2, .tmp 3] }
/-- 50 phasor/phasorref08.SameOp -/
def c_phasorref08_SameOp_r0 : List AO := [⟨(some 2), .box (.t 0), none, 0⟩,
  ⟨(some 3), .box (.t 1), none, 0⟩,
  ⟨(some 4), .mov (.k (.sc (.bool false))), none, 0⟩]
def c_phasorref08_SameOp_r1 : List AO := [⟨(some 5), .fieldAddr 0 (.t 2), none, 0⟩,
  ⟨(some 6), .load false 1 (.t 5), none, 0⟩,
  ⟨(some 7), .fieldAddr 0 (.t 3), none, 0⟩,
  ⟨(some 8), .load false 1 (.t 7), none, 0⟩,
  ⟨(some 9), .bin .eql (.t 6) (.t 8), none, 0⟩,
  ⟨(some 10), .mov (.t 9), none, 0⟩,
  ⟨(some 11), .fieldAddr 1 (.t 2), (some ((some 10), true)), 0⟩,
  ⟨(some 12), .load false 1 (.t 11), (some ((some 10), true)), 0⟩,
  ⟨(some 13), .fieldAddr 1 (.t 3), (some ((some 10), true)), 0⟩,
  ⟨(some 14), .load false 1 (.t 13), (some ((some 10), true)), 0⟩,
  ⟨(some 15), .bin .eql (.t 12) (.t 14), (some ((some 10), true)), 0⟩,
  ⟨(some 16), .pick (.t 10) (.t 15) (.k (.sc (.bool false))), none, 0⟩,
  ⟨(some 17), .mov (.t 16), none, 0⟩,
  ⟨(some 18), .fieldAddr 3 (.t 2), (some ((some 17), true)), 0⟩,
  ⟨(some 19), .load false 1 (.t 18), (some ((some 17), true)), 0⟩,
  ⟨(some 20), .fieldAddr 3 (.t 3), (some ((some 17), true)), 0⟩,
  ⟨(some 21), .load false 1 (.t 20), (some ((some 17), true)), 0⟩,
  ⟨(some 22), .bin .eql (.t 19) (.t 21), (some ((some 17), true)), 0⟩,
  ⟨(some 23), .pick (.t 17) (.t 22) (.k (.sc (.bool false))), none, 0⟩,
  ⟨(some 24), .mov (.t 23), none, 0⟩,
  ⟨(some 25), .fieldAddr 4 (.t 2), (some ((some 24), true)), 0⟩,
  ⟨(some 26), .load false 1 (.t 25), (some ((some 24), true)), 0⟩,
  ⟨(some 27), .fieldAddr 4 (.t 3), (some ((some 24), true)), 0⟩,
  ⟨(some 28), .load false 1 (.t 27), (some ((some 24), true)), 0⟩,
  ⟨(some 29), .bin .eql (.t 26) (.t 28), (some ((some 24), true)), 0⟩,
  ⟨(some 30), .pick (.t 24) (.t 29) (.k (.sc (.bool false))), none, 0⟩,
  ⟨(some 31), .mov (.t 30), none, 0⟩,
  ⟨(some 32), .fieldAddr 5 (.t 2), (some ((some 31), true)), 0⟩,
  ⟨(some 33), .load false 1 (.t 32), (some ((some 31), true)), 0⟩,
  ⟨(some 34), .fieldAddr 5 (.t 3), (some ((some 31), true)), 0⟩,
  ⟨(some 35), .load false 1 (.t 34), (some ((some 31), true)), 0⟩,
  ⟨(some 36), .bin .eql (.t 33) (.t 35), (some ((some 31), true)), 0⟩,
  ⟨(some 37), .pick (.t 31) (.t 36) (.k (.sc (.bool false))), none, 0⟩,
  ⟨(some 38), .mov (.t 37), none, 0⟩,
  ⟨(some 39), .fieldAddr 2 (.t 2), (some ((some 38), true)), 0⟩,
  ⟨(some 40), .load false 1 (.t 39), (some ((some 38), true)), 0⟩,
  ⟨(some 41), .fieldAddr 2 (.t 3), (some ((some 38), true)), 0⟩,
  ⟨(some 42), .load false 1 (.t 41), (some ((some 38), true)), 0⟩,
  ⟨(some 43), .call (.k (.fn (.func f_phasorref08_ints) [] [])) [(.t 40), (.t 42)], (some ((some 38), true)), 0⟩,
  ⟨(some 44), .pick (.t 38) (.t 43) (.k (.sc (.bool false))), none, 0⟩,
  ⟨(some 4), .mov (.t 44), none, 0⟩]
def c_phasorref08_SameOp : AFn := { code := .seq (.reg c_phasorref08_SameOp_r0 false) (.seq (.reg c_phasorref08_SameOp_r1 false) (.ret)), ntmps := 45, results := [.tmp 4] }
/-- 51 slices.Clone[[]int,int] -/
def c_slices_Clone_int_int_r0 : List AO := [⟨(some 2), .mov (.k (.sc (.slice none 0 0))), none, 0⟩]
def c_slices_Clone_int_int_r1 : List AO := [⟨(some 3), .mov (.t 0), none, 0⟩,
  ⟨(some 4), .eqNil .slice false (.t 3) (.k (.sc (.slice none 0 0))), none, 0⟩]
def c_slices_Clone_int_int_r2 : List AO := [⟨(some 2), .mov (.k (.sc (.slice none 0 0))), none, 0⟩]
def c_slices_Clone_int_int_r3 : List AO := [⟨(some 5), .buildSlice 1 0 [] [], none, 0⟩,
  ⟨(some 6), .mov (.t 0), none, 0⟩,
  ⟨(some 7), .append 1 8 (.t 5) (.t 6), none, 0⟩,
  ⟨(some 2), .mov (.t 7), none, 0⟩]
def c_slices_Clone_int_int : AFn := { code := .seq (.reg c_slices_Clone_int_int_r0 false) (.seq (.seq (.reg c_slices_Clone_int_int_r1 false) (.cond (.t 4) (.seq (.reg c_slices_Clone_int_int_r2 false) (.ret)) (.skip))) (.seq (.reg c_slices_Clone_int_int_r3 false) (.ret))), ntmps := 8, results := [.tmp 2] }
/-- 52 slices.SortFunc[[]int,int] -/
def c_slices_SortFunc_int_int_r0 : List AO := [⟨(some 5), .mov (.t 0), none, 0⟩,
  ⟨(some 6), .len (.t 5), none, 0⟩,
  ⟨(some 4), .mov (.t 6), none, 0⟩]
def c_slices_SortFunc_int_int_r1 : List AO := [⟨(some 7), .mov (.t 0), none, 0⟩,
  ⟨(some 8), .mov (.t 4), none, 0⟩,
  ⟨(some 9), .mov (.t 4), none, 0⟩,
  ⟨(some 10), .conv (.int .u64) (.t 9), none, 0⟩,
  ⟨(some 11), .call (.k (.fn (.func f_bits_Len) [] [])) [(.t 10)], none, 0⟩,
  ⟨(some 12), .mov (.t 1), none, 0⟩,
  ⟨(some 13), .call (.k (.fn (.func f_slices_pdqsortCmpFunc_int) [] [])) [(.t 7), (.k (.sc (.int .i64 0))), (.t 8), (.t 11), (.t 12)], none, 0⟩]
def c_slices_SortFunc_int_int : AFn := { code := .seq (.reg c_slices_SortFunc_int_int_r0 false) (.reg c_slices_SortFunc_int_int_r1 false), ntmps := 14, results := [] }
/-- 53 phasor/route.Home$1 -/
def c_route_Home_1_r0 : List AO := [⟨(some 5), .mov (.k (.sc (.int .i64 0))), none, 0⟩]
def c_route_Home_1_r1 : List AO := [⟨(some 6), .load false 1 (.t 2), none, 0⟩,
  ⟨(some 7), .mov (.t 0), none, 0⟩,
  ⟨(some 8), .indexAddr none 1 (.t 6) (.t 7), none, 3⟩,
  ⟨(some 9), .load false 1 (.t 8), none, 7⟩,
  ⟨(some 10), .load false 1 (.t 2), none, 0⟩,
  ⟨(some 11), .mov (.t 1), none, 0⟩,
  ⟨(some 12), .indexAddr none 1 (.t 10) (.t 11), none, 48⟩,
  ⟨(some 13), .load false 1 (.t 12), none, 112⟩,
  ⟨(some 14), .bin .neq (.t 9) (.t 13), none, 255⟩]
def c_route_Home_1_r2 : List AO := [⟨(some 15), .load false 1 (.t 2), none, 0⟩,
  ⟨(some 16), .mov (.t 1), none, 0⟩,
  ⟨(some 17), .indexAddr none 1 (.t 15) (.t 16), none, 3⟩,
  ⟨(some 18), .load false 1 (.t 17), none, 7⟩,
  ⟨(some 19), .load false 1 (.t 2), none, 0⟩,
  ⟨(some 20), .mov (.t 0), none, 0⟩,
  ⟨(some 21), .indexAddr none 1 (.t 19) (.t 20), none, 48⟩,
  ⟨(some 22), .load false 1 (.t 21), none, 112⟩,
  ⟨(some 23), .bin .sub (.t 18) (.t 22), none, 255⟩,
  ⟨(some 5), .mov (.t 23), none, 511⟩]
def c_route_Home_1_r3 : List AO := [⟨(some 24), .mov (.t 1), none, 0⟩,
  ⟨(some 25), .mov (.t 0), none, 0⟩,
  ⟨(some 26), .bin .sub (.t 24) (.t 25), none, 0⟩,
  ⟨(some 5), .mov (.t 26), none, 0⟩]
def c_route_Home_1 : AFn := { code := .seq (.reg c_route_Home_1_r0 false) (.seq (.seq (.reg c_route_Home_1_r1 true) (.cond (.t 14) (.seq (.reg c_route_Home_1_r2 true) (.ret)) (.skip))) (.seq (.reg c_route_Home_1_r3 false) (.ret))), ntmps := 27, results := [.tmp 5] }
/-- 54 phasor/route.up -/
def c_route_up_r0 : List AO := [⟨(some 4), .box (.t 1), none, 0⟩,
  ⟨(some 5), .box (.t 2), none, 0⟩,
  ⟨(some 6), .mov (.k (.sc (.slice none 0 0))), none, 0⟩]
def c_route_up_r1 : List AO := [⟨(some 8), .load false 1 (.t 5), none, 0⟩,
  ⟨(some 9), .buildSlice 1 1 [(.sc (.int .i64 0))] [(0, 1, (.t 8))], none, 0⟩,
  ⟨(some 7), .mov (.t 9), none, 0⟩]
def c_route_up_r2 : List AO := [⟨(some 10), .load false 1 (.t 5), none, 0⟩,
  ⟨(some 11), .bin .neq (.t 10) (.k (.sc (.int .i64 0))), none, 0⟩]
def c_route_up_r3 : List AO := [⟨(some 12), .mov (.t 0), none, 0⟩,
  ⟨(some 13), .load false 1 (.t 5), none, 0⟩,
  ⟨(some 14), .indexAddr none 1 (.t 12) (.t 13), none, 3⟩,
  ⟨(some 15), .load false 1 (.t 14), none, 7⟩,
  ⟨(some 16), .mov (.t 0), none, 0⟩,
  ⟨(some 17), .load false 1 (.t 5), none, 0⟩,
  ⟨(some 18), .indexAddr none 1 (.t 16) (.t 17), none, 48⟩,
  ⟨(some 19), .load false 1 (.t 18), none, 112⟩,
  ⟨(some 20), .makeFunc (.func f_route_up_1) [] [(.t 4), (.t 5)], none, 0⟩,
  ⟨(some 21), .call (.k (.fn (.func f_slices_IndexFunc_int_int) [] [])) [(.t 19), (.t 20)], none, 496⟩,
  ⟨(some 22), .indexAddr none 1 (.t 15) (.t 21), none, 1023⟩,
  ⟨(some 23), .load false 1 (.t 22), none, 2047⟩,
  ⟨none, .store 1 (.t 5) (.t 23), none, 4095⟩]
def c_route_up_r4 : List AO := [⟨(some 24), .mov (.t 7), none, 0⟩,
  ⟨(some 25), .load false 1 (.t 5), none, 0⟩,
  ⟨(some 26), .buildSlice 1 1 [(.sc (.int .i64 0))] [(0, 1, (.t 25))], none, 0⟩,
  ⟨(some 27), .append 1 8 (.t 24) (.t 26), none, 0⟩,
  ⟨(some 7), .mov (.t 27), none, 0⟩]
def c_route_up_l0 : AC := .seq (.seq (.reg c_route_up_r2 false) (.cond (.t 11) (.skip) (.exit 0))) (.blk 1 (.seq (.reg c_route_up_r3 true) (.reg c_route_up_r4 false)))
def c_route_up_r5 : List AO := [⟨(some 28), .mov (.t 7), none, 0⟩,
  ⟨(some 6), .mov (.t 28), none, 0⟩]
def c_route_up : AFn := { code := .seq (.reg c_route_up_r0 false) (.seq (.reg c_route_up_r1 false) (.seq (.blk 0 (.loop c_route_up_l0)) (.seq (.reg c_route_up_r5 false) (.ret)))), ntmps := 29, results := [.tmp 6] }
/-- 55 slices.IndexFunc[[]int,int] -/
def c_slices_IndexFunc_int_int_r0 : List AO := [⟨(some 4), .mov (.k (.sc (.int .i64 0))), none, 0⟩]
def c_slices_IndexFunc_int_int_r1 : List AO := [⟨(some 6), .mov (.t 0), none, 0⟩,
  ⟨(some 7), .len (.t 6), none, 0⟩,
  ⟨(some 8), .mov (.k (.sc (.int .i64 0))), none, 0⟩]
def c_slices_IndexFunc_int_int_r2 : List AO := [⟨(some 9), .bin .lss (.t 8) (.t 7), none, 0⟩]
def c_slices_IndexFunc_int_int_r3 : List AO := [⟨(some 10), .mov (.t 8), none, 0⟩,
  ⟨(some 5), .mov (.t 10), none, 0⟩]
def c_slices_IndexFunc_int_int_r4 : List AO := [⟨(some 11), .mov (.t 1), none, 0⟩,
  ⟨(some 12), .mov (.t 0), none, 0⟩,
  ⟨(some 13), .mov (.t 5), none, 0⟩,
  ⟨(some 14), .indexAddr none 1 (.t 12) (.t 13), none, 0⟩,
  ⟨(some 15), .load false 1 (.t 14), none, 0⟩,
  ⟨(some 16), .call (.t 11) [(.t 15)], none, 0⟩]
def c_slices_IndexFunc_int_int_r5 : List AO := [⟨(some 17), .mov (.t 5), none, 0⟩,
  ⟨(some 4), .mov (.t 17), none, 0⟩]
def c_slices_IndexFunc_int_int_r6 : List AO := [⟨(some 18), .bin .add (.t 8) (.k (.sc (.int .i64 1))), none, 0⟩,
  ⟨(some 8), .mov (.t 18), none, 0⟩]
def c_slices_IndexFunc_int_int_l0 : AC := .seq (.reg c_slices_IndexFunc_int_int_r2 false) (.seq (.cond (.t 9) (.skip) (.exit 0)) (.seq (.blk 1 (.seq (.reg c_slices_IndexFunc_int_int_r3 false) (.seq (.reg c_slices_IndexFunc_int_int_r4 false) (.cond (.t 16) (.seq (.reg c_slices_IndexFunc_int_int_r5 false) (.ret)) (.skip))))) (.reg c_slices_IndexFunc_int_int_r6 false)))
def c_slices_IndexFunc_int_int_r7 : List AO := [⟨(some 4), .mov (.k (.sc (.int .i64 (-1)))), none, 0⟩]
def c_slices_IndexFunc_int_int : AFn := { code := .seq (.reg c_slices_IndexFunc_int_int_r0 false) (.seq (.seq (.reg c_slices_IndexFunc_int_int_r1 false) (.blk 0 (.loop c_slices_IndexFunc_int_int_l0))) (.seq (.reg c_slices_IndexFunc_int_int_r7 false) (.ret))), ntmps := 19, results := [.tmp 4] }
/-- 56 phasor/route.Home$2 -/
def c_route_Home_2_r0 : List AO := [⟨(some 3), .mov (.k (.sc (.bool false))), none, 0⟩]
def c_route_Home_2_r1 : List AO := [⟨(some 4), .load false 1 (.t 1), none, 0⟩,
  ⟨(some 5), .mov (.t 0), none, 0⟩,
  ⟨(some 6), .call (.k (.fn (.func f_slices_Contains_int_int) [] [])) [(.t 4), (.t 5)], none, 0⟩,
  ⟨(some 3), .mov (.t 6), none, 0⟩]
def c_route_Home_2 : AFn := { code := .seq (.reg c_route_Home_2_r0 false) (.seq (.reg c_route_Home_2_r1 false) (.ret)), ntmps := 7, results := [.tmp 3] }
/-- 57 slices.Index[[]int,int] -/
def c_slices_Index_int_int_r0 : List AO := [⟨(some 4), .mov (.k (.sc (.int .i64 0))), none, 0⟩]
def c_slices_Index_int_int_r1 : List AO := [⟨(some 6), .mov (.t 0), none, 0⟩,
  ⟨(some 7), .len (.t 6), none, 0⟩,
  ⟨(some 8), .mov (.k (.sc (.int .i64 0))), none, 0⟩]
def c_slices_Index_int_int_r2 : List AO := [⟨(some 9), .bin .lss (.t 8) (.t 7), none, 0⟩]
def c_slices_Index_int_int_r3 : List AO := [⟨(some 10), .mov (.t 8), none, 0⟩,
  ⟨(some 5), .mov (.t 10), none, 0⟩]
def c_slices_Index_int_int_r4 : List AO := [⟨(some 11), .mov (.t 1), none, 0⟩,
  ⟨(some 12), .mov (.t 0), none, 0⟩,
  ⟨(some 13), .mov (.t 5), none, 0⟩,
  ⟨(some 14), .indexAddr none 1 (.t 12) (.t 13), none, 0⟩,
  ⟨(some 15), .load false 1 (.t 14), none, 0⟩,
  ⟨(some 16), .bin .eql (.t 11) (.t 15), none, 0⟩]
def c_slices_Index_int_int_r5 : List AO := [⟨(some 17), .mov (.t 5), none, 0⟩,
  ⟨(some 4), .mov (.t 17), none, 0⟩]
def c_slices_Index_int_int_r6 : List AO := [⟨(some 18), .bin .add (.t 8) (.k (.sc (.int .i64 1))), none, 0⟩,
  ⟨(some 8), .mov (.t 18), none, 0⟩]
def c_slices_Index_int_int_l0 : AC := .seq (.reg c_slices_Index_int_int_r2 false) (.seq (.cond (.t 9) (.skip) (.exit 0)) (.seq (.blk 1 (.seq (.reg c_slices_Index_int_int_r3 false) (.seq (.reg c_slices_Index_int_int_r4 false) (.cond (.t 16) (.seq (.reg c_slices_Index_int_int_r5 false) (.ret)) (.skip))))) (.reg c_slices_Index_int_int_r6 false)))
def c_slices_Index_int_int_r7 : List AO := [⟨(some 4), .mov (.k (.sc (.int .i64 (-1)))), none, 0⟩]
def c_slices_Index_int_int : AFn := { code := .seq (.reg c_slices_Index_int_int_r0 false) (.seq (.seq (.reg c_slices_Index_int_int_r1 false) (.blk 0 (.loop c_slices_Index_int_int_l0))) (.seq (.reg c_slices_Index_int_int_r7 false) (.ret))), ntmps := 19, results := [.tmp 4] }
/-- 58 slices.Reverse[[]int,int] -/
def c_slices_Reverse_int_int_r0 : List AO := [⟨(some 4), .mov (.t 0), none, 0⟩,
  ⟨(some 5), .len (.t 4), none, 0⟩,
  ⟨(some 6), .bin .sub (.t 5) (.k (.sc (.int .i64 1))), none, 0⟩,
  ⟨(some 2), .mov (.k (.sc (.int .i64 0))), none, 0⟩,
  ⟨(some 3), .mov (.t 6), none, 0⟩]
def c_slices_Reverse_int_int_r1 : List AO := [⟨(some 7), .mov (.t 2), none, 0⟩,
  ⟨(some 8), .mov (.t 3), none, 0⟩,
  ⟨(some 9), .bin .lss (.t 7) (.t 8), none, 0⟩]
def c_slices_Reverse_int_int_r2 : List AO := [⟨(some 14), .mov (.t 0), none, 0⟩,
  ⟨(some 15), .mov (.t 2), none, 0⟩,
  ⟨(some 16), .mov (.t 0), none, 0⟩,
  ⟨(some 17), .mov (.t 3), none, 0⟩,
  ⟨(some 18), .mov (.t 0), none, 0⟩,
  ⟨(some 19), .mov (.t 3), none, 0⟩,
  ⟨(some 20), .indexAddr none 1 (.t 18) (.t 19), none, 48⟩,
  ⟨(some 21), .load false 1 (.t 20), none, 112⟩,
  ⟨(some 22), .mov (.t 0), none, 0⟩,
  ⟨(some 23), .mov (.t 2), none, 0⟩,
  ⟨(some 24), .indexAddr none 1 (.t 22) (.t 23), none, 768⟩,
  ⟨(some 25), .load false 1 (.t 24), none, 1792⟩,
  ⟨(some 26), .indexAddr none 1 (.t 14) (.t 15), none, 4083⟩,
  ⟨none, .store 1 (.t 26) (.t 21), none, 8179⟩,
  ⟨(some 27), .indexAddr none 1 (.t 16) (.t 17), none, 16383⟩,
  ⟨none, .store 1 (.t 27) (.t 25), none, 32767⟩]
def c_slices_Reverse_int_int_r3 : List AO := [⟨(some 10), .mov (.t 2), none, 0⟩,
  ⟨(some 11), .bin .add (.t 10) (.k (.sc (.int .i64 1))), none, 0⟩,
  ⟨(some 12), .mov (.t 3), none, 0⟩,
  ⟨(some 13), .bin .sub (.t 12) (.k (.sc (.int .i64 1))), none, 0⟩,
  ⟨(some 2), .mov (.t 11), none, 0⟩,
  ⟨(some 3), .mov (.t 13), none, 0⟩]
def c_slices_Reverse_int_int_l0 : AC := .seq (.seq (.reg c_slices_Reverse_int_int_r1 false) (.cond (.t 9) (.skip) (.exit 0))) (.seq (.blk 1 (.reg c_slices_Reverse_int_int_r2 true)) (.reg c_slices_Reverse_int_int_r3 false))
def c_slices_Reverse_int_int : AFn := { code := .seq (.reg c_slices_Reverse_int_int_r0 false) (.blk 0 (.loop c_slices_Reverse_int_int_l0)), ntmps := 28, results := [] }
/-- 59 phasor/phasorref20.apart -/
def c_phasorref20_apart_r0 : List AO := [⟨(some 4), .mov (.k (.sc (.bool false))), none, 0⟩]
def c_phasorref20_apart_r1 : List AO := [⟨(some 5), .mov (.k (.sc (.int .i64 0))), none, 0⟩]
def c_phasorref20_apart_r2 : List AO := [⟨(some 7), .mov (.t 5), none, 0⟩,
  ⟨(some 8), .mov (.t 0), none, 0⟩,
  ⟨(some 9), .len (.t 8), none, 0⟩,
  ⟨(some 10), .bin .lss (.t 7) (.t 9), none, 0⟩]
def c_phasorref20_apart_r3 : List AO := [⟨(some 13), .mov (.t 0), none, 0⟩,
  ⟨(some 14), .mov (.t 5), none, 0⟩,
  ⟨(some 15), .indexAddr none 1 (.t 13) (.t 14), none, 0⟩,
  ⟨(some 16), .load false 1 (.t 15), none, 0⟩,
  ⟨(some 17), .bin .lss (.t 16) (.k (.sc (.int .i64 0))), none, 0⟩,
  ⟨(some 18), .mov (.t 17), none, 0⟩,
  ⟨(some 19), .mov (.t 0), (some ((some 18), false)), 0⟩,
  ⟨(some 20), .mov (.t 5), (some ((some 18), false)), 0⟩,
  ⟨(some 21), .indexAddr none 1 (.t 19) (.t 20), (some ((some 18), false)), 0⟩,
  ⟨(some 22), .load false 1 (.t 21), (some ((some 18), false)), 0⟩,
  ⟨(some 23), .mov (.t 1), (some ((some 18), false)), 0⟩,
  ⟨(some 24), .bin .geq (.t 22) (.t 23), (some ((some 18), false)), 0⟩,
  ⟨(some 25), .pick (.t 18) (.k (.sc (.bool true))) (.t 24), none, 0⟩]
def c_phasorref20_apart_r4 : List AO := [⟨(some 4), .mov (.k (.sc (.bool false))), none, 0⟩]
def c_phasorref20_apart_r5 : List AO := [⟨(some 6), .mov (.k (.sc (.int .i64 0))), none, 0⟩]
def c_phasorref20_apart_r6 : List AO := [⟨(some 26), .mov (.t 6), none, 0⟩,
  ⟨(some 27), .mov (.t 5), none, 0⟩,
  ⟨(some 28), .bin .lss (.t 26) (.t 27), none, 0⟩]
def c_phasorref20_apart_r7 : List AO := [⟨(some 31), .mov (.t 0), none, 0⟩,
  ⟨(some 32), .mov (.t 6), none, 0⟩,
  ⟨(some 33), .indexAddr none 1 (.t 31) (.t 32), none, 3⟩,
  ⟨(some 34), .load false 1 (.t 33), none, 7⟩,
  ⟨(some 35), .mov (.t 0), none, 0⟩,
  ⟨(some 36), .mov (.t 5), none, 0⟩,
  ⟨(some 37), .indexAddr none 1 (.t 35) (.t 36), none, 48⟩,
  ⟨(some 38), .load false 1 (.t 37), none, 112⟩,
  ⟨(some 39), .bin .eql (.t 34) (.t 38), none, 255⟩]
def c_phasorref20_apart_r8 : List AO := [⟨(some 4), .mov (.k (.sc (.bool false))), none, 0⟩]
def c_phasorref20_apart_r9 : List AO := [⟨(some 29), .mov (.t 6), none, 0⟩,
  ⟨(some 30), .bin .add (.t 29) (.k (.sc (.int .i64 1))), none, 0⟩,
  ⟨(some 6), .mov (.t 30), none, 0⟩]
def c_phasorref20_apart_l0 : AC := .seq (.seq (.reg c_phasorref20_apart_r6 false) (.cond (.t 28) (.skip) (.exit 2))) (.seq (.blk 3 (.seq (.reg c_phasorref20_apart_r7 true) (.cond (.t 39) (.seq (.reg c_phasorref20_apart_r8 false) (.ret)) (.skip)))) (.reg c_phasorref20_apart_r9 false))
def c_phasorref20_apart_r10 : List AO := [⟨(some 11), .mov (.t 5), none, 0⟩,
  ⟨(some 12), .bin .add (.t 11) (.k (.sc (.int .i64 1))), none, 0⟩,
  ⟨(some 5), .mov (.t 12), none, 0⟩]
def c_phasorref20_apart_l1 : AC := .seq (.seq (.reg c_phasorref20_apart_r2 false) (.cond (.t 10) (.skip) (.exit 0))) (.seq (.blk 1 (.seq (.seq (.reg c_phasorref20_apart_r3 false) (.cond (.t 25) (.seq (.reg c_phasorref20_apart_r4 false) (.ret)) (.skip))) (.seq (.reg c_phasorref20_apart_r5 false) (.blk 2 (.loop c_phasorref20_apart_l0))))) (.reg c_phasorref20_apart_r10 false))
def c_phasorref20_apart_r11 : List AO := [⟨(some 4), .mov (.k (.sc (.bool true))), none, 0⟩]
def c_phasorref20_apart : AFn := { code := .seq (.reg c_phasorref20_apart_r0 false) (.seq (.seq (.reg c_phasorref20_apart_r1 false) (.blk 0 (.loop c_phasorref20_apart_l1))) (.seq (.reg c_phasorref20_apart_r11 false) (.ret))), ntmps := 40, results := [.tmp 4] }
/-- 60 phasor/phasorref20.among -/
def c_phasorref20_among_r0 : List AO := [⟨(some 4), .mov (.k (.sc (.bool false))), none, 0⟩]
def c_phasorref20_among_r1 : List AO := [⟨(some 5), .mov (.k (.sc (.int .i64 0))), none, 0⟩]
def c_phasorref20_among_r2 : List AO := [⟨(some 6), .mov (.t 5), none, 0⟩,
  ⟨(some 7), .mov (.t 0), none, 0⟩,
  ⟨(some 8), .len (.t 7), none, 0⟩,
  ⟨(some 9), .bin .lss (.t 6) (.t 8), none, 0⟩]
def c_phasorref20_among_r3 : List AO := [⟨(some 12), .mov (.t 0), none, 0⟩,
  ⟨(some 13), .mov (.t 5), none, 0⟩,
  ⟨(some 14), .indexAddr none 1 (.t 12) (.t 13), none, 0⟩,
  ⟨(some 15), .load false 1 (.t 14), none, 0⟩,
  ⟨(some 16), .mov (.t 1), none, 0⟩,
  ⟨(some 17), .bin .eql (.t 15) (.t 16), none, 0⟩]
def c_phasorref20_among_r4 : List AO := [⟨(some 4), .mov (.k (.sc (.bool true))), none, 0⟩]
def c_phasorref20_among_r5 : List AO := [⟨(some 10), .mov (.t 5), none, 0⟩,
  ⟨(some 11), .bin .add (.t 10) (.k (.sc (.int .i64 1))), none, 0⟩,
  ⟨(some 5), .mov (.t 11), none, 0⟩]
def c_phasorref20_among_l0 : AC := .seq (.seq (.reg c_phasorref20_among_r2 false) (.cond (.t 9) (.skip) (.exit 0))) (.seq (.blk 1 (.seq (.reg c_phasorref20_among_r3 false) (.cond (.t 17) (.seq (.reg c_phasorref20_among_r4 false) (.ret)) (.skip)))) (.reg c_phasorref20_among_r5 false))
def c_phasorref20_among_r6 : List AO := [⟨(some 4), .mov (.k (.sc (.bool false))), none, 0⟩]
def c_phasorref20_among : AFn := { code := .seq (.reg c_phasorref20_among_r0 false) (.seq (.seq (.reg c_phasorref20_among_r1 false) (.blk 0 (.loop c_phasorref20_among_l0))) (.seq (.reg c_phasorref20_among_r6 false) (.ret))), ntmps := 18, results := [.tmp 4] }
/-- 61 phasor/phasorref20.next -/
def c_phasorref20_next_r0 : List AO := [⟨(some 6), .mov (.k (.sc (.int .i64 0))), none, 0⟩]
def c_phasorref20_next_r1 : List AO := [⟨(some 9), .mov (.t 2), none, 0⟩,
  ⟨(some 7), .mov (.t 9), none, 0⟩]
def c_phasorref20_next_r2 : List AO := [⟨(some 10), .mov (.t 2), none, 0⟩,
  ⟨(some 8), .mov (.t 10), none, 0⟩]
def c_phasorref20_next_r3 : List AO := [⟨(some 14), .mov (.t 8), none, 0⟩,
  ⟨(some 15), .mov (.t 1), none, 0⟩,
  ⟨(some 16), .bin .eql (.t 14) (.t 15), none, 0⟩]
def c_phasorref20_next_r4 : List AO := [⟨(some 17), .mov (.t 7), none, 0⟩,
  ⟨(some 6), .mov (.t 17), none, 0⟩]
def c_phasorref20_next_r5 : List AO := [⟨(some 18), .mov (.t 8), none, 0⟩,
  ⟨(some 19), .bin .eql (.t 18) (.k (.sc (.int .i64 0))), none, 0⟩]
def c_phasorref20_next_r6 : List AO := [⟨(some 20), .mov (.t 0), none, 0⟩,
  ⟨(some 21), .mov (.t 1), none, 0⟩,
  ⟨(some 22), .call (.k (.fn (.func f_phasorref20_parent) [] [])) [(.t 20), (.t 21)], none, 0⟩,
  ⟨(some 6), .mov (.t 22), none, 0⟩]
def c_phasorref20_next_r7 : List AO := [⟨(some 23), .mov (.t 8), none, 0⟩,
  ⟨(some 7), .mov (.t 23), none, 0⟩]
def c_phasorref20_next_r8 : List AO := [⟨(some 11), .mov (.t 0), none, 0⟩,
  ⟨(some 12), .mov (.t 8), none, 0⟩,
  ⟨(some 13), .call (.k (.fn (.func f_phasorref20_parent) [] [])) [(.t 11), (.t 12)], none, 0⟩,
  ⟨(some 8), .mov (.t 13), none, 0⟩]
def c_phasorref20_next_l0 : AC := .seq (.blk 1 (.seq (.seq (.reg c_phasorref20_next_r3 false) (.cond (.t 16) (.seq (.reg c_phasorref20_next_r4 false) (.ret)) (.skip))) (.seq (.seq (.reg c_phasorref20_next_r5 false) (.cond (.t 19) (.seq (.reg c_phasorref20_next_r6 false) (.ret)) (.skip))) (.reg c_phasorref20_next_r7 false)))) (.reg c_phasorref20_next_r8 false)
def c_phasorref20_next : AFn := { code := .seq (.reg c_phasorref20_next_r0 false) (.seq (.reg c_phasorref20_next_r1 false) (.seq (.reg c_phasorref20_next_r2 false) (.blk 0 (.loop c_phasorref20_next_l0)))), ntmps := 24, results := [.tmp 6] }
/-- 62 slices.Sort[[]int,int] -/
def c_slices_Sort_int_int_r0 : List AO := [⟨(some 3), .mov (.t 0), none, 0⟩,
  ⟨(some 4), .len (.t 3), none, 0⟩,
  ⟨(some 2), .mov (.t 4), none, 0⟩]
def c_slices_Sort_int_int_r1 : List AO := [⟨(some 5), .mov (.t 0), none, 0⟩,
  ⟨(some 6), .mov (.t 2), none, 0⟩,
  ⟨(some 7), .mov (.t 2), none, 0⟩,
  ⟨(some 8), .conv (.int .u64) (.t 7), none, 0⟩,
  ⟨(some 9), .call (.k (.fn (.func f_bits_Len) [] [])) [(.t 8)], none, 0⟩,
  ⟨(some 10), .call (.k (.fn (.func f_slices_pdqsortOrdered_int) [] [])) [(.t 5), (.k (.sc (.int .i64 0))), (.t 6), (.t 9)], none, 0⟩]
def c_slices_Sort_int_int : AFn := { code := .seq (.reg c_slices_Sort_int_int_r0 false) (.reg c_slices_Sort_int_int_r1 false), ntmps := 11, results := [] }
end Go.Proofs.Ytfaphhcloanhnaa
