/- The small code of the functions that the statements reach: printed by program (gen.sh). -/
import Derived.Test.YtfaphhcloanhnaaAmCode0
import Derived.KernelRfl
set_option linter.unusedSimpArgs false
set_option linter.unusedVariables false
namespace Go.Proofs.Ytfaphhcloanhnaa
open Go.Am
/-- 63 slices.Compact[[]int,int] -/
def c_slices_Compact_int_int_r0 : List AO := [⟨(some 2), .mov (.k (.sc (.slice none 0 0))), none, 0⟩]
def c_slices_Compact_int_int_r1 : List AO := [⟨(some 6), .mov (.t 0), none, 0⟩,
  ⟨(some 7), .len (.t 6), none, 0⟩,
  ⟨(some 8), .bin .lss (.t 7) (.k (.sc (.int .i64 2))), none, 0⟩]
def c_slices_Compact_int_int_r2 : List AO := [⟨(some 9), .mov (.t 0), none, 0⟩,
  ⟨(some 2), .mov (.t 9), none, 0⟩]
def c_slices_Compact_int_int_r3 : List AO := [⟨(some 3), .mov (.k (.sc (.int .i64 1))), none, 0⟩]
def c_slices_Compact_int_int_r4 : List AO := [⟨(some 10), .mov (.t 3), none, 0⟩,
  ⟨(some 11), .mov (.t 0), none, 0⟩,
  ⟨(some 12), .len (.t 11), none, 0⟩,
  ⟨(some 13), .bin .lss (.t 10) (.t 12), none, 0⟩]
def c_slices_Compact_int_int_r5 : List AO := [⟨(some 16), .mov (.t 0), none, 0⟩,
  ⟨(some 17), .mov (.t 3), none, 0⟩,
  ⟨(some 18), .indexAddr none 1 (.t 16) (.t 17), none, 3⟩,
  ⟨(some 19), .load false 1 (.t 18), none, 7⟩,
  ⟨(some 20), .mov (.t 0), none, 0⟩,
  ⟨(some 21), .mov (.t 3), none, 0⟩,
  ⟨(some 22), .bin .sub (.t 21) (.k (.sc (.int .i64 1))), none, 32⟩,
  ⟨(some 23), .indexAddr none 1 (.t 20) (.t 22), none, 112⟩,
  ⟨(some 24), .load false 1 (.t 23), none, 240⟩,
  ⟨(some 25), .bin .eql (.t 19) (.t 24), none, 511⟩]
def c_slices_Compact_int_int_r6 : List AO := [⟨(some 26), .mov (.t 0), none, 0⟩,
  ⟨(some 27), .mov (.t 3), none, 0⟩,
  ⟨(some 28), .slice 1 (.t 26) (some (.t 27)) none none, none, 0⟩,
  ⟨(some 4), .mov (.t 28), none, 0⟩]
def c_slices_Compact_int_int_r7 : List AO := [⟨(some 5), .mov (.k (.sc (.int .i64 1))), none, 0⟩]
def c_slices_Compact_int_int_r8 : List AO := [⟨(some 29), .mov (.t 5), none, 0⟩,
  ⟨(some 30), .mov (.t 4), none, 0⟩,
  ⟨(some 31), .len (.t 30), none, 0⟩,
  ⟨(some 32), .bin .lss (.t 29) (.t 31), none, 0⟩]
def c_slices_Compact_int_int_r9 : List AO := [⟨(some 35), .mov (.t 4), none, 0⟩,
  ⟨(some 36), .mov (.t 5), none, 0⟩,
  ⟨(some 37), .indexAddr none 1 (.t 35) (.t 36), none, 3⟩,
  ⟨(some 38), .load false 1 (.t 37), none, 7⟩,
  ⟨(some 39), .mov (.t 4), none, 0⟩,
  ⟨(some 40), .mov (.t 5), none, 0⟩,
  ⟨(some 41), .bin .sub (.t 40) (.k (.sc (.int .i64 1))), none, 32⟩,
  ⟨(some 42), .indexAddr none 1 (.t 39) (.t 41), none, 112⟩,
  ⟨(some 43), .load false 1 (.t 42), none, 240⟩,
  ⟨(some 44), .bin .neq (.t 38) (.t 43), none, 511⟩]
def c_slices_Compact_int_int_r10 : List AO := [⟨(some 45), .mov (.t 0), none, 0⟩,
  ⟨(some 46), .mov (.t 3), none, 0⟩,
  ⟨(some 47), .mov (.t 4), none, 0⟩,
  ⟨(some 48), .mov (.t 5), none, 0⟩,
  ⟨(some 49), .indexAddr none 1 (.t 47) (.t 48), none, 0⟩,
  ⟨(some 50), .load false 1 (.t 49), none, 0⟩,
  ⟨(some 51), .indexAddr none 1 (.t 45) (.t 46), none, 0⟩,
  ⟨none, .store 1 (.t 51) (.t 50), none, 0⟩]
def c_slices_Compact_int_int_r11 : List AO := [⟨(some 52), .mov (.t 3), none, 0⟩,
  ⟨(some 53), .bin .add (.t 52) (.k (.sc (.int .i64 1))), none, 0⟩,
  ⟨(some 3), .mov (.t 53), none, 0⟩]
def c_slices_Compact_int_int_r12 : List AO := [⟨(some 33), .mov (.t 5), none, 0⟩,
  ⟨(some 34), .bin .add (.t 33) (.k (.sc (.int .i64 1))), none, 0⟩,
  ⟨(some 5), .mov (.t 34), none, 0⟩]
def c_slices_Compact_int_int_l0 : AC := .seq (.seq (.reg c_slices_Compact_int_int_r8 false) (.cond (.t 32) (.skip) (.exit 2))) (.seq (.blk 3 (.seq (.reg c_slices_Compact_int_int_r9 true) (.cond (.t 44) (.seq (.reg c_slices_Compact_int_int_r10 false) (.reg c_slices_Compact_int_int_r11 false)) (.skip)))) (.reg c_slices_Compact_int_int_r12 false))
def c_slices_Compact_int_int_r13 : List AO := [⟨(some 54), .mov (.t 0), none, 0⟩,
  ⟨(some 55), .mov (.t 3), none, 0⟩,
  ⟨(some 56), .slice 1 (.t 54) (some (.t 55)) none none, none, 0⟩,
  ⟨none, .clear 1 [(.sc (.int .i64 0))] (.t 56), none, 0⟩]
def c_slices_Compact_int_int_r14 : List AO := [⟨(some 57), .mov (.t 0), none, 0⟩,
  ⟨(some 58), .mov (.t 3), none, 0⟩,
  ⟨(some 59), .slice 1 (.t 57) none (some (.t 58)) none, none, 0⟩,
  ⟨(some 2), .mov (.t 59), none, 0⟩]
def c_slices_Compact_int_int_r15 : List AO := [⟨(some 14), .mov (.t 3), none, 0⟩,
  ⟨(some 15), .bin .add (.t 14) (.k (.sc (.int .i64 1))), none, 0⟩,
  ⟨(some 3), .mov (.t 15), none, 0⟩]
def c_slices_Compact_int_int_l1 : AC := .seq (.seq (.reg c_slices_Compact_int_int_r4 false) (.cond (.t 13) (.skip) (.exit 0))) (.seq (.blk 1 (.seq (.reg c_slices_Compact_int_int_r5 true) (.cond (.t 25) (.seq (.reg c_slices_Compact_int_int_r6 false) (.seq (.seq (.reg c_slices_Compact_int_int_r7 false) (.blk 2 (.loop c_slices_Compact_int_int_l0))) (.seq (.reg c_slices_Compact_int_int_r13 false) (.seq (.reg c_slices_Compact_int_int_r14 false) (.ret))))) (.skip)))) (.reg c_slices_Compact_int_int_r15 false))
def c_slices_Compact_int_int_r16 : List AO := [⟨(some 60), .mov (.t 0), none, 0⟩,
  ⟨(some 2), .mov (.t 60), none, 0⟩]
def c_slices_Compact_int_int : AFn := { code := .seq (.reg c_slices_Compact_int_int_r0 false) (.seq (.seq (.reg c_slices_Compact_int_int_r1 false) (.cond (.t 8) (.seq (.reg c_slices_Compact_int_int_r2 false) (.ret)) (.skip))) (.seq (.seq (.reg c_slices_Compact_int_int_r3 false) (.blk 0 (.loop c_slices_Compact_int_int_l1))) (.seq (.reg c_slices_Compact_int_int_r16 false) (.ret)))), ntmps := 61, results := [.tmp 2] }
/-- 64 phasor/route.path$1 -/
def c_route_path_1_r0 : List AO := [⟨(some 5), .mov (.k (.sc (.bool false))), none, 0⟩]
def c_route_path_1_r1 : List AO := [⟨(some 6), .load false 1 (.t 1), none, 0⟩,
  ⟨(some 7), .mov (.t 0), none, 0⟩,
  ⟨(some 8), .indexAddr none 1 (.t 6) (.t 7), none, 3⟩,
  ⟨(some 9), .load false 1 (.t 8), none, 7⟩,
  ⟨(some 10), .load false 1 (.t 2), none, 0⟩,
  ⟨(some 11), .indexAddr none 1 (.t 9) (.t 10), none, 31⟩,
  ⟨(some 12), .load false 1 (.t 11), none, 63⟩,
  ⟨(some 13), .load false 1 (.t 1), none, 0⟩,
  ⟨(some 14), .load false 1 (.t 3), none, 0⟩,
  ⟨(some 15), .indexAddr none 1 (.t 13) (.t 14), none, 384⟩,
  ⟨(some 16), .load false 1 (.t 15), none, 896⟩,
  ⟨(some 17), .load false 1 (.t 2), none, 0⟩,
  ⟨(some 18), .indexAddr none 1 (.t 16) (.t 17), none, 3968⟩,
  ⟨(some 19), .load false 1 (.t 18), none, 8064⟩,
  ⟨(some 20), .bin .sub (.t 19) (.k (.sc (.int .i64 1))), none, 16256⟩,
  ⟨(some 21), .bin .eql (.t 12) (.t 20), none, 32767⟩,
  ⟨(some 5), .mov (.t 21), none, 65535⟩]
def c_route_path_1 : AFn := { code := .seq (.reg c_route_path_1_r0 false) (.seq (.reg c_route_path_1_r1 true) (.ret)), ntmps := 22, results := [.tmp 5] }
/-- 65 phasor/circuit.may -/
def c_circuit_may_r0 : List AO := [⟨(some 3), .box (.t 0), none, 0⟩,
  ⟨(some 6), .mov (.k (.sc (.bool false))), none, 0⟩]
def c_circuit_may_r1 : List AO := [⟨(some 11), .fieldAddr 0 (.t 3), none, 0⟩,
  ⟨(some 12), .load false 1 (.t 11), none, 0⟩,
  ⟨(some 13), .bin .eql (.t 12) (.k (.sc (.int .i64 1))), none, 0⟩]
def c_circuit_may_r2 : List AO := [⟨(some 14), .fieldAddr 4 (.t 3), none, 0⟩,
  ⟨(some 15), .load false 1 (.t 14), none, 0⟩,
  ⟨(some 16), .bin .eql (.t 15) (.k (.sc (.int .i64 (-1)))), none, 0⟩,
  ⟨(some 17), .mov (.t 16), none, 0⟩,
  ⟨(some 18), .fieldAddr 5 (.t 3), (some ((some 17), true)), 0⟩,
  ⟨(some 19), .load false 1 (.t 18), (some ((some 17), true)), 0⟩,
  ⟨(some 20), .bin .eql (.t 19) (.k (.sc (.int .i64 0))), (some ((some 17), true)), 0⟩,
  ⟨(some 21), .pick (.t 17) (.t 20) (.k (.sc (.bool false))), none, 0⟩,
  ⟨(some 7), .mov (.t 21), none, 0⟩]
def c_circuit_may_r3 : List AO := [⟨(some 22), .fieldAddr 4 (.t 3), none, 0⟩,
  ⟨(some 23), .load false 1 (.t 22), none, 0⟩,
  ⟨(some 24), .bin .geq (.t 23) (.k (.sc (.int .i64 0))), none, 0⟩,
  ⟨(some 25), .mov (.t 24), none, 0⟩,
  ⟨(some 26), .fieldAddr 4 (.t 3), (some ((some 25), true)), 0⟩,
  ⟨(some 27), .load false 1 (.t 26), (some ((some 25), true)), 0⟩,
  ⟨(some 28), .mov (.t 2), (some ((some 25), true)), 0⟩,
  ⟨(some 29), .bin .lss (.t 27) (.t 28), (some ((some 25), true)), 0⟩,
  ⟨(some 30), .pick (.t 25) (.t 29) (.k (.sc (.bool false))), none, 0⟩,
  ⟨(some 31), .mov (.t 30), none, 0⟩,
  ⟨(some 32), .fieldAddr 5 (.t 3), (some ((some 31), true)), 0⟩,
  ⟨(some 33), .load false 1 (.t 32), (some ((some 31), true)), 0⟩,
  ⟨(some 34), .bin .eql (.t 33) (.k (.sc (.int .i64 0))), (some ((some 31), true)), 0⟩,
  ⟨(some 35), .mov (.t 34), (some ((some 31), true)), 0⟩,
  ⟨(some 36), .fieldAddr 5 (.t 3), (some ((some 35), false)), 0⟩,
  ⟨(some 37), .load false 1 (.t 36), (some ((some 35), false)), 0⟩,
  ⟨(some 38), .bin .eql (.t 37) (.k (.sc (.int .i64 1))), (some ((some 35), false)), 0⟩,
  ⟨(some 39), .pick (.t 35) (.k (.sc (.bool true))) (.t 38), (some ((some 31), true)), 0⟩,
  ⟨(some 40), .pick (.t 31) (.t 39) (.k (.sc (.bool false))), none, 0⟩,
  ⟨(some 8), .mov (.t 40), none, 0⟩]
def c_circuit_may_r4 : List AO := [⟨(some 41), .fieldAddr 1 (.t 3), none, 0⟩,
  ⟨(some 42), .load false 1 (.t 41), none, 0⟩,
  ⟨(some 43), .fieldAddr 2 (.t 3), none, 0⟩,
  ⟨(some 44), .load false 1 (.t 43), none, 0⟩,
  ⟨(some 45), .mov (.t 1), none, 0⟩,
  ⟨(some 46), .call (.k (.fn (.func f_gate_Check) [] [])) [(.t 42), (.t 44), (.t 45)], none, 0⟩,
  ⟨(some 47), .bin .eql (.t 46) (.k (.sc (.int .i64 0))), none, 0⟩,
  ⟨(some 48), .mov (.t 47), none, 0⟩,
  ⟨(some 49), .fieldAddr 3 (.t 3), (some ((some 48), true)), 0⟩,
  ⟨(some 50), .load false 1 (.t 49), (some ((some 48), true)), 0⟩,
  ⟨(some 51), .bin .eql (.t 50) (.k (.sc (.int .i64 0))), (some ((some 48), true)), 0⟩,
  ⟨(some 52), .pick (.t 48) (.t 51) (.k (.sc (.bool false))), none, 0⟩,
  ⟨(some 53), .mov (.t 52), none, 0⟩,
  ⟨(some 54), .mov (.t 7), (some ((some 53), true)), 0⟩,
  ⟨(some 55), .mov (.t 54), (some ((some 53), true)), 0⟩,
  ⟨(some 56), .mov (.t 8), (some ((some 55), false)), 0⟩,
  ⟨(some 57), .pick (.t 55) (.k (.sc (.bool true))) (.t 56), (some ((some 53), true)), 0⟩,
  ⟨(some 58), .pick (.t 53) (.t 57) (.k (.sc (.bool false))), none, 0⟩,
  ⟨(some 6), .mov (.t 58), none, 0⟩]
def c_circuit_may_r5 : List AO := [⟨(some 59), .fieldAddr 1 (.t 3), none, 0⟩,
  ⟨(some 60), .load false 1 (.t 59), none, 0⟩,
  ⟨(some 61), .bin .neq (.t 60) (.k (.sc (.int .i64 0))), none, 0⟩,
  ⟨(some 62), .mov (.t 61), none, 0⟩,
  ⟨(some 63), .fieldAddr 4 (.t 3), (some ((some 62), false)), 0⟩,
  ⟨(some 64), .load false 1 (.t 63), (some ((some 62), false)), 0⟩,
  ⟨(some 65), .bin .neq (.t 64) (.k (.sc (.int .i64 (-1)))), (some ((some 62), false)), 0⟩,
  ⟨(some 66), .pick (.t 62) (.k (.sc (.bool true))) (.t 65), none, 0⟩,
  ⟨(some 67), .mov (.t 66), none, 0⟩,
  ⟨(some 68), .fieldAddr 5 (.t 3), (some ((some 67), false)), 0⟩,
  ⟨(some 69), .load false 1 (.t 68), (some ((some 67), false)), 0⟩,
  ⟨(some 70), .bin .neq (.t 69) (.k (.sc (.int .i64 0))), (some ((some 67), false)), 0⟩,
  ⟨(some 71), .pick (.t 67) (.k (.sc (.bool true))) (.t 70), none, 0⟩,
  ⟨(some 72), .mov (.t 71), none, 0⟩,
  ⟨(some 73), .fieldAddr 2 (.t 3), (some ((some 72), false)), 0⟩,
  ⟨(some 74), .load false 1 (.t 73), (some ((some 72), false)), 0⟩,
  ⟨(some 75), .len (.t 74), (some ((some 72), false)), 0⟩,
  ⟨(some 76), .bin .eql (.t 75) (.k (.sc (.int .i64 0))), (some ((some 72), false)), 0⟩,
  ⟨(some 77), .pick (.t 72) (.k (.sc (.bool true))) (.t 76), none, 0⟩]
def c_circuit_may_r6 : List AO := [⟨(some 6), .mov (.k (.sc (.bool false))), none, 0⟩]
def c_circuit_may_r7 : List AO := [⟨(some 78), .fieldAddr 2 (.t 3), none, 0⟩,
  ⟨(some 79), .load false 1 (.t 78), none, 0⟩,
  ⟨(some 80), .len (.t 79), none, 0⟩,
  ⟨(some 81), .mov (.k (.sc (.int .i64 0))), none, 0⟩]
def c_circuit_may_r8 : List AO := [⟨(some 82), .bin .lss (.t 81) (.t 80), none, 0⟩]
def c_circuit_may_r9 : List AO := [⟨(some 83), .mov (.t 81), none, 0⟩,
  ⟨(some 84), .indexAddr none 1 (.t 79) (.t 81), none, 0⟩,
  ⟨(some 85), .load false 1 (.t 84), none, 0⟩,
  ⟨(some 9), .mov (.t 83), none, 0⟩,
  ⟨(some 10), .mov (.t 85), none, 0⟩]
def c_circuit_may_r10 : List AO := [⟨(some 86), .mov (.t 10), none, 0⟩,
  ⟨(some 87), .bin .lss (.t 86) (.k (.sc (.int .i64 0))), none, 0⟩,
  ⟨(some 88), .mov (.t 87), none, 0⟩,
  ⟨(some 89), .mov (.t 10), (some ((some 88), false)), 0⟩,
  ⟨(some 90), .mov (.t 1), (some ((some 88), false)), 0⟩,
  ⟨(some 91), .bin .geq (.t 89) (.t 90), (some ((some 88), false)), 0⟩,
  ⟨(some 92), .pick (.t 88) (.k (.sc (.bool true))) (.t 91), none, 0⟩,
  ⟨(some 93), .mov (.t 92), none, 0⟩,
  ⟨(some 94), .fieldAddr 2 (.t 3), (some ((some 93), false)), 0⟩,
  ⟨(some 95), .load false 1 (.t 94), (some ((some 93), false)), 0⟩,
  ⟨(some 96), .mov (.t 9), (some ((some 93), false)), 0⟩,
  ⟨(some 97), .slice 1 (.t 95) none (some (.t 96)) none, (some ((some 93), false)), 0⟩,
  ⟨(some 98), .mov (.t 10), (some ((some 93), false)), 0⟩,
  ⟨(some 99), .call (.k (.fn (.func f_slices_Contains_int_int) [] [])) [(.t 97), (.t 98)], (some ((some 93), false)), 0⟩,
  ⟨(some 100), .pick (.t 93) (.k (.sc (.bool true))) (.t 99), none, 0⟩]
def c_circuit_may_r11 : List AO := [⟨(some 6), .mov (.k (.sc (.bool false))), none, 0⟩]
def c_circuit_may_r12 : List AO := [⟨(some 101), .bin .add (.t 81) (.k (.sc (.int .i64 1))), none, 0⟩,
  ⟨(some 81), .mov (.t 101), none, 0⟩]
def c_circuit_may_l0 : AC := .seq (.reg c_circuit_may_r8 false) (.seq (.cond (.t 82) (.skip) (.exit 0)) (.seq (.blk 1 (.seq (.reg c_circuit_may_r9 false) (.seq (.reg c_circuit_may_r10 false) (.cond (.t 100) (.seq (.reg c_circuit_may_r11 false) (.ret)) (.skip))))) (.reg c_circuit_may_r12 false)))
def c_circuit_may_r13 : List AO := [⟨(some 102), .fieldAddr 0 (.t 3), none, 0⟩,
  ⟨(some 103), .load false 1 (.t 102), none, 0⟩]
def c_circuit_may_r14 : List AO := [⟨(some 105), .bin .eql (.t 103) (.k (.sc (.int .i64 2))), none, 0⟩,
  ⟨(some 104), .mov (.t 105), none, 0⟩]
def c_circuit_may_r15 : List AO := [⟨(some 106), .fieldAddr 2 (.t 3), none, 0⟩,
  ⟨(some 107), .load false 1 (.t 106), none, 0⟩,
  ⟨(some 108), .len (.t 107), none, 0⟩,
  ⟨(some 109), .bin .eql (.t 108) (.k (.sc (.int .i64 1))), none, 0⟩,
  ⟨(some 110), .mov (.t 109), none, 0⟩,
  ⟨(some 111), .fieldAddr 3 (.t 3), (some ((some 110), true)), 0⟩,
  ⟨(some 112), .load false 1 (.t 111), (some ((some 110), true)), 0⟩,
  ⟨(some 113), .bin .geq (.t 112) (.k (.sc (.int .i64 0))), (some ((some 110), true)), 0⟩,
  ⟨(some 114), .pick (.t 110) (.t 113) (.k (.sc (.bool false))), none, 0⟩,
  ⟨(some 115), .mov (.t 114), none, 0⟩,
  ⟨(some 116), .fieldAddr 3 (.t 3), (some ((some 115), true)), 0⟩,
  ⟨(some 117), .load false 1 (.t 116), (some ((some 115), true)), 0⟩,
  ⟨(some 118), .mov (.t 2), (some ((some 115), true)), 0⟩,
  ⟨(some 119), .bin .lss (.t 117) (.t 118), (some ((some 115), true)), 0⟩,
  ⟨(some 120), .pick (.t 115) (.t 119) (.k (.sc (.bool false))), none, 0⟩,
  ⟨(some 6), .mov (.t 120), none, 0⟩]
def c_circuit_may_r16 : List AO := [⟨(some 122), .bin .eql (.t 103) (.k (.sc (.int .i64 3))), none, 0⟩,
  ⟨(some 121), .mov (.t 122), none, 0⟩]
def c_circuit_may_r17 : List AO := [⟨(some 123), .fieldAddr 2 (.t 3), none, 0⟩,
  ⟨(some 124), .load false 1 (.t 123), none, 0⟩,
  ⟨(some 125), .len (.t 124), none, 0⟩,
  ⟨(some 126), .bin .eql (.t 125) (.k (.sc (.int .i64 1))), none, 0⟩,
  ⟨(some 127), .mov (.t 126), none, 0⟩,
  ⟨(some 128), .fieldAddr 3 (.t 3), (some ((some 127), true)), 0⟩,
  ⟨(some 129), .load false 1 (.t 128), (some ((some 127), true)), 0⟩,
  ⟨(some 130), .bin .eql (.t 129) (.k (.sc (.int .i64 0))), (some ((some 127), true)), 0⟩,
  ⟨(some 131), .pick (.t 127) (.t 130) (.k (.sc (.bool false))), none, 0⟩,
  ⟨(some 6), .mov (.t 131), none, 0⟩]
def c_circuit_may_r18 : List AO := [⟨(some 133), .bin .eql (.t 103) (.k (.sc (.int .i64 4))), none, 0⟩,
  ⟨(some 132), .mov (.t 133), none, 0⟩]
def c_circuit_may_r19 : List AO := [⟨(some 134), .fieldAddr 3 (.t 3), none, 0⟩,
  ⟨(some 135), .load false 1 (.t 134), none, 0⟩,
  ⟨(some 136), .bin .eql (.t 135) (.k (.sc (.int .i64 0))), none, 0⟩,
  ⟨(some 6), .mov (.t 136), none, 0⟩]
def c_circuit_may_r20 : List AO := [⟨(some 6), .mov (.k (.sc (.bool false))), none, 0⟩]
def c_circuit_may : AFn := { code := .seq (.reg c_circuit_may_r0 false) (.seq (.seq (.reg c_circuit_may_r1 false) (.cond (.t 13) (.seq (.reg c_circuit_may_r2 false) (.seq (.reg c_circuit_may_r3 false) (.seq (.reg c_circuit_may_r4 false) (.ret)))) (.skip))) (.seq (.seq (.reg c_circuit_may_r5 false) (.cond (.t 77) (.seq (.reg c_circuit_may_r6 false) (.ret)) (.skip))) (.seq (.seq (.reg c_circuit_may_r7 false) (.blk 0 (.loop c_circuit_may_l0))) (.seq (.seq (.reg c_circuit_may_r13 false) (.blk 2 (.seq (.reg c_circuit_may_r14 false) (.cond (.t 104) (.seq (.reg c_circuit_may_r15 false) (.ret)) (.seq (.reg c_circuit_may_r16 false) (.cond (.t 121) (.seq (.reg c_circuit_may_r17 false) (.ret)) (.seq (.reg c_circuit_may_r18 false) (.cond (.t 132) (.seq (.reg c_circuit_may_r19 false) (.ret)) (.skip))))))))) (.seq (.reg c_circuit_may_r20 false) (.ret)))))), ntmps := 137, results := [.tmp 6] }
/-- 66 slices.IndexFunc[[]phasor/api.Op,phasor/api.Op] -/
def c_slices_IndexFunc_api_Op_api_Op_r0 : List AO := [⟨(some 4), .mov (.k (.sc (.int .i64 0))), none, 0⟩]
def c_slices_IndexFunc_api_Op_api_Op_r1 : List AO := [⟨(some 6), .mov (.t 0), none, 0⟩,
  ⟨(some 7), .len (.t 6), none, 0⟩,
  ⟨(some 8), .mov (.k (.sc (.int .i64 0))), none, 0⟩]
def c_slices_IndexFunc_api_Op_api_Op_r2 : List AO := [⟨(some 9), .bin .lss (.t 8) (.t 7), none, 0⟩]
def c_slices_IndexFunc_api_Op_api_Op_r3 : List AO := [⟨(some 10), .mov (.t 8), none, 0⟩,
  ⟨(some 5), .mov (.t 10), none, 0⟩]
def c_slices_IndexFunc_api_Op_api_Op_r4 : List AO := [⟨(some 11), .mov (.t 1), none, 0⟩,
  ⟨(some 12), .mov (.t 0), none, 0⟩,
  ⟨(some 13), .mov (.t 5), none, 0⟩,
  ⟨(some 14), .indexAddr none 6 (.t 12) (.t 13), none, 0⟩,
  ⟨(some 15), .load true 6 (.t 14), none, 0⟩,
  ⟨(some 16), .call (.t 11) [(.t 15)], none, 0⟩]
def c_slices_IndexFunc_api_Op_api_Op_r5 : List AO := [⟨(some 17), .mov (.t 5), none, 0⟩,
  ⟨(some 4), .mov (.t 17), none, 0⟩]
def c_slices_IndexFunc_api_Op_api_Op_r6 : List AO := [⟨(some 18), .bin .add (.t 8) (.k (.sc (.int .i64 1))), none, 0⟩,
  ⟨(some 8), .mov (.t 18), none, 0⟩]
def c_slices_IndexFunc_api_Op_api_Op_l0 : AC := .seq (.reg c_slices_IndexFunc_api_Op_api_Op_r2 false) (.seq (.cond (.t 9) (.skip) (.exit 0)) (.seq (.blk 1 (.seq (.reg c_slices_IndexFunc_api_Op_api_Op_r3 false) (.seq (.reg c_slices_IndexFunc_api_Op_api_Op_r4 false) (.cond (.t 16) (.seq (.reg c_slices_IndexFunc_api_Op_api_Op_r5 false) (.ret)) (.skip))))) (.reg c_slices_IndexFunc_api_Op_api_Op_r6 false)))
def c_slices_IndexFunc_api_Op_api_Op_r7 : List AO := [⟨(some 4), .mov (.k (.sc (.int .i64 (-1)))), none, 0⟩]
def c_slices_IndexFunc_api_Op_api_Op : AFn := { code := .seq (.reg c_slices_IndexFunc_api_Op_api_Op_r0 false) (.seq (.seq (.reg c_slices_IndexFunc_api_Op_api_Op_r1 false) (.blk 0 (.loop c_slices_IndexFunc_api_Op_api_Op_l0))) (.seq (.reg c_slices_IndexFunc_api_Op_api_Op_r7 false) (.ret))), ntmps := 19, results := [.tmp 4] }
/-- 67 phasor/phasorref08.Check -/
def c_phasorref08_Check_r0 : List AO := [⟨(some 1), .box (.t 0), none, 0⟩,
  ⟨(some 2), .mov (.k (.sc (.int .i64 0))), none, 0⟩,
  ⟨(some 3), .mov (.k (.sc (.int .i64 0))), none, 0⟩]
def c_phasorref08_Check_r1 : List AO := [⟨(some 5), .fieldAddr 0 (.t 1), none, 0⟩,
  ⟨(some 6), .load false 1 (.t 5), none, 0⟩,
  ⟨(some 7), .bin .lss (.t 6) (.k (.sc (.int .i64 0))), none, 0⟩,
  ⟨(some 8), .mov (.t 7), none, 0⟩,
  ⟨(some 9), .fieldAddr 0 (.t 1), (some ((some 8), false)), 0⟩,
  ⟨(some 10), .load false 1 (.t 9), (some ((some 8), false)), 0⟩,
  ⟨(some 11), .bin .gtr (.t 10) (.k (.sc (.int .i64 64))), (some ((some 8), false)), 0⟩,
  ⟨(some 12), .pick (.t 8) (.k (.sc (.bool true))) (.t 11), none, 0⟩,
  ⟨(some 13), .mov (.t 12), none, 0⟩,
  ⟨(some 14), .fieldAddr 1 (.t 1), (some ((some 13), false)), 0⟩,
  ⟨(some 15), .load false 1 (.t 14), (some ((some 13), false)), 0⟩,
  ⟨(some 16), .bin .lss (.t 15) (.k (.sc (.int .i64 0))), (some ((some 13), false)), 0⟩,
  ⟨(some 17), .pick (.t 13) (.k (.sc (.bool true))) (.t 16), none, 0⟩,
  ⟨(some 18), .mov (.t 17), none, 0⟩,
  ⟨(some 19), .fieldAddr 1 (.t 1), (some ((some 18), false)), 0⟩,
  ⟨(some 20), .load false 1 (.t 19), (some ((some 18), false)), 0⟩,
  ⟨(some 21), .bin .gtr (.t 20) (.k (.sc (.int .i64 64))), (some ((some 18), false)), 0⟩,
  ⟨(some 22), .pick (.t 18) (.k (.sc (.bool true))) (.t 21), none, 0⟩,
  ⟨(some 23), .mov (.t 22), none, 0⟩,
  ⟨(some 24), .fieldAddr 2 (.t 1), (some ((some 23), false)), 0⟩,
  ⟨(some 25), .load false 1 (.t 24), (some ((some 23), false)), 0⟩,
  ⟨(some 26), .len (.t 25), (some ((some 23), false)), 0⟩,
  ⟨(some 27), .bin .gtr (.t 26) (.k (.sc (.int .i64 4096))), (some ((some 23), false)), 0⟩,
  ⟨(some 28), .pick (.t 23) (.k (.sc (.bool true))) (.t 27), none, 0⟩]
def c_phasorref08_Check_r2 : List AO := [⟨(some 2), .mov (.k (.sc (.int .i64 (-1)))), none, 0⟩,
  ⟨(some 3), .mov (.k (.sc (.int .i64 80))), none, 0⟩]
def c_phasorref08_Check_r3 : List AO := [⟨(some 4), .mov (.k (.sc (.int .i64 0))), none, 0⟩]
def c_phasorref08_Check_r4 : List AO := [⟨(some 29), .mov (.t 4), none, 0⟩,
  ⟨(some 30), .fieldAddr 2 (.t 1), none, 0⟩,
  ⟨(some 31), .load false 1 (.t 30), none, 0⟩,
  ⟨(some 32), .len (.t 31), none, 0⟩,
  ⟨(some 33), .bin .lss (.t 29) (.t 32), none, 0⟩]
def c_phasorref08_Check_r5 : List AO := [⟨(some 36), .fieldAddr 2 (.t 1), none, 0⟩,
  ⟨(some 37), .load false 1 (.t 36), none, 1⟩,
  ⟨(some 38), .mov (.t 4), none, 0⟩,
  ⟨(some 39), .indexAddr none 6 (.t 37) (.t 38), none, 7⟩,
  ⟨(some 40), .load true 6 (.t 39), none, 15⟩,
  ⟨(some 41), .fieldAddr 0 (.t 1), none, 0⟩,
  ⟨(some 42), .load false 1 (.t 41), none, 32⟩,
  ⟨(some 43), .fieldAddr 1 (.t 1), none, 0⟩,
  ⟨(some 44), .load false 1 (.t 43), none, 128⟩,
  ⟨(some 45), .call (.k (.fn (.func f_phasorref08_Op) [] [])) [(.t 40), (.t 42), (.t 44)], none, 511⟩,
  ⟨(some 46), .un .not (.t 45), none, 1023⟩]
def c_phasorref08_Check_r6 : List AO := [⟨(some 47), .mov (.t 4), none, 0⟩,
  ⟨(some 2), .mov (.t 47), none, 0⟩,
  ⟨(some 3), .mov (.k (.sc (.int .i64 80))), none, 0⟩]
def c_phasorref08_Check_r7 : List AO := [⟨(some 34), .mov (.t 4), none, 0⟩,
  ⟨(some 35), .bin .add (.t 34) (.k (.sc (.int .i64 1))), none, 0⟩,
  ⟨(some 4), .mov (.t 35), none, 0⟩]
def c_phasorref08_Check_l0 : AC := .seq (.seq (.reg c_phasorref08_Check_r4 false) (.cond (.t 33) (.skip) (.exit 0))) (.seq (.blk 1 (.seq (.reg c_phasorref08_Check_r5 true) (.cond (.t 46) (.seq (.reg c_phasorref08_Check_r6 false) (.ret)) (.skip)))) (.reg c_phasorref08_Check_r7 false))
def c_phasorref08_Check_r8 : List AO := [⟨(some 2), .mov (.k (.sc (.int .i64 0))), none, 0⟩,
  ⟨(some 3), .mov (.k (.sc (.int .i64 0))), none, 0⟩]
def c_phasorref08_Check : AFn := { code := .seq (.reg c_phasorref08_Check_r0 false) (.seq (.seq (.reg c_phasorref08_Check_r1 false) (.cond (.t 28) (.seq (.reg c_phasorref08_Check_r2 false) (.ret)) (.skip))) (.seq (.seq (.reg c_phasorref08_Check_r3 false) (.blk 0 (.loop c_phasorref08_Check_l0))) (.seq (.reg c_phasorref08_Check_r8 false) (.ret)))), ntmps := 48, results := [.tmp 2, .tmp 3] }
/-- 68 phasor/route.swap -/
def c_route_swap_r0 : List AO := [⟨(some 4), .alloc [(.sc (.int .i64 0)), (.sc (.int .i64 0)), (.sc (.slice none 0 0)), (.sc (.int .i64 0)), (.sc (.int .i64 0)), (.sc (.int .i64 0))], none, 0⟩]
def c_route_swap_r1 : List AO := [⟨(some 5), .mov (.t 0), none, 0⟩,
  ⟨(some 6), .mov (.t 1), none, 0⟩,
  ⟨(some 7), .buildSlice 1 2 [(.sc (.int .i64 0)), (.sc (.int .i64 0))] [(0, 1, (.t 5)), (1, 1, (.t 6))], none, 0⟩,
  ⟨(some 8), .build [(.sc (.int .i64 0)), (.sc (.int .i64 0)), (.sc (.slice none 0 0)), (.sc (.int .i64 0)), (.sc (.int .i64 0)), (.sc (.int .i64 0))] [(0, 1, (.k (.sc (.int .i64 1)))), (1, 1, (.k (.sc (.int .i64 14)))), (2, 1, (.t 7)), (4, 1, (.k (.sc (.int .i64 (-1)))))], none, 0⟩,
  ⟨none, .store 6 (.t 4) (.t 8), none, 0⟩]
def c_route_swap : AFn := { code := .seq (.reg c_route_swap_r0 false) (.seq (.reg c_route_swap_r1 false) (.ret)), ntmps := 9, results := [.cell true 6 4] }
/-- 69 phasor/phasorref08.ints -/
def c_phasorref08_ints_r0 : List AO := [⟨(some 4), .mov (.k (.sc (.bool false))), none, 0⟩]
def c_phasorref08_ints_r1 : List AO := [⟨(some 6), .mov (.t 0), none, 0⟩,
  ⟨(some 7), .len (.t 6), none, 0⟩,
  ⟨(some 8), .mov (.t 1), none, 0⟩,
  ⟨(some 9), .len (.t 8), none, 0⟩,
  ⟨(some 10), .bin .neq (.t 7) (.t 9), none, 0⟩]
def c_phasorref08_ints_r2 : List AO := [⟨(some 4), .mov (.k (.sc (.bool false))), none, 0⟩]
def c_phasorref08_ints_r3 : List AO := [⟨(some 5), .mov (.k (.sc (.int .i64 0))), none, 0⟩]
def c_phasorref08_ints_r4 : List AO := [⟨(some 11), .mov (.t 5), none, 0⟩,
  ⟨(some 12), .mov (.t 0), none, 0⟩,
  ⟨(some 13), .len (.t 12), none, 0⟩,
  ⟨(some 14), .bin .lss (.t 11) (.t 13), none, 0⟩]
def c_phasorref08_ints_r5 : List AO := [⟨(some 17), .mov (.t 0), none, 0⟩,
  ⟨(some 18), .mov (.t 5), none, 0⟩,
  ⟨(some 19), .indexAddr none 1 (.t 17) (.t 18), none, 3⟩,
  ⟨(some 20), .load false 1 (.t 19), none, 7⟩,
  ⟨(some 21), .mov (.t 1), none, 0⟩,
  ⟨(some 22), .mov (.t 5), none, 0⟩,
  ⟨(some 23), .indexAddr none 1 (.t 21) (.t 22), none, 48⟩,
  ⟨(some 24), .load false 1 (.t 23), none, 112⟩,
  ⟨(some 25), .bin .neq (.t 20) (.t 24), none, 255⟩]
def c_phasorref08_ints_r6 : List AO := [⟨(some 4), .mov (.k (.sc (.bool false))), none, 0⟩]
def c_phasorref08_ints_r7 : List AO := [⟨(some 15), .mov (.t 5), none, 0⟩,
  ⟨(some 16), .bin .add (.t 15) (.k (.sc (.int .i64 1))), none, 0⟩,
  ⟨(some 5), .mov (.t 16), none, 0⟩]
def c_phasorref08_ints_l0 : AC := .seq (.seq (.reg c_phasorref08_ints_r4 false) (.cond (.t 14) (.skip) (.exit 0))) (.seq (.blk 1 (.seq (.reg c_phasorref08_ints_r5 true) (.cond (.t 25) (.seq (.reg c_phasorref08_ints_r6 false) (.ret)) (.skip)))) (.reg c_phasorref08_ints_r7 false))
def c_phasorref08_ints_r8 : List AO := [⟨(some 4), .mov (.k (.sc (.bool true))), none, 0⟩]
def c_phasorref08_ints : AFn := { code := .seq (.reg c_phasorref08_ints_r0 false) (.seq (.seq (.reg c_phasorref08_ints_r1 false) (.cond (.t 10) (.seq (.reg c_phasorref08_ints_r2 false) (.ret)) (.skip))) (.seq (.seq (.reg c_phasorref08_ints_r3 false) (.blk 0 (.loop c_phasorref08_ints_l0))) (.seq (.reg c_phasorref08_ints_r8 false) (.ret)))), ntmps := 26, results := [.tmp 4] }
/-- 70 slices.pdqsortCmpFunc[int] -/
def c_slices_pdqsortCmpFunc_int_r0 : List AO := [⟨(some 10), .mov (.k (.sc (.bool true))), none, 0⟩]
def c_slices_pdqsortCmpFunc_int_r1 : List AO := [⟨(some 11), .mov (.k (.sc (.bool true))), none, 0⟩]
def c_slices_pdqsortCmpFunc_int_r2 : List AO := [⟨(some 21), .mov (.t 2), none, 0⟩,
  ⟨(some 22), .mov (.t 1), none, 0⟩,
  ⟨(some 23), .bin .sub (.t 21) (.t 22), none, 0⟩,
  ⟨(some 12), .mov (.t 23), none, 0⟩]
def c_slices_pdqsortCmpFunc_int_r3 : List AO := [⟨(some 24), .mov (.t 12), none, 0⟩,
  ⟨(some 25), .bin .leq (.t 24) (.k (.sc (.int .i64 12))), none, 0⟩]
def c_slices_pdqsortCmpFunc_int_r4 : List AO := [⟨(some 26), .mov (.t 0), none, 0⟩,
  ⟨(some 27), .mov (.t 1), none, 0⟩,
  ⟨(some 28), .mov (.t 2), none, 0⟩,
  ⟨(some 29), .mov (.t 4), none, 0⟩,
  ⟨(some 30), .call (.k (.fn (.func f_slices_insertionSortCmpFunc_int) [] [])) [(.t 26), (.t 27), (.t 28), (.t 29)], none, 0⟩]
def c_slices_pdqsortCmpFunc_int_r5 : List AO := [⟨(some 31), .mov (.t 3), none, 0⟩,
  ⟨(some 32), .bin .eql (.t 31) (.k (.sc (.int .i64 0))), none, 0⟩]
def c_slices_pdqsortCmpFunc_int_r6 : List AO := [⟨(some 33), .mov (.t 0), none, 0⟩,
  ⟨(some 34), .mov (.t 1), none, 0⟩,
  ⟨(some 35), .mov (.t 2), none, 0⟩,
  ⟨(some 36), .mov (.t 4), none, 0⟩,
  ⟨(some 37), .call (.k (.fn (.func f_slices_heapSortCmpFunc_int) [] [])) [(.t 33), (.t 34), (.t 35), (.t 36)], none, 0⟩]
def c_slices_pdqsortCmpFunc_int_r7 : List AO := [⟨(some 38), .mov (.t 10), none, 0⟩,
  ⟨(some 39), .un .not (.t 38), none, 0⟩]
def c_slices_pdqsortCmpFunc_int_r8 : List AO := [⟨(some 40), .mov (.t 0), none, 0⟩,
  ⟨(some 41), .mov (.t 1), none, 0⟩,
  ⟨(some 42), .mov (.t 2), none, 0⟩,
  ⟨(some 43), .mov (.t 4), none, 0⟩,
  ⟨(some 44), .call (.k (.fn (.func f_slices_breakPatternsCmpFunc_int) [] [])) [(.t 40), (.t 41), (.t 42), (.t 43)], none, 0⟩]
def c_slices_pdqsortCmpFunc_int_r9 : List AO := [⟨(some 45), .mov (.t 3), none, 0⟩,
  ⟨(some 46), .bin .sub (.t 45) (.k (.sc (.int .i64 1))), none, 0⟩,
  ⟨(some 3), .mov (.t 46), none, 0⟩]
def c_slices_pdqsortCmpFunc_int_r10 : List AO := [⟨(some 48), .mov (.t 0), none, 0⟩,
  ⟨(some 49), .mov (.t 1), none, 0⟩,
  ⟨(some 50), .mov (.t 2), none, 0⟩,
  ⟨(some 51), .mov (.t 4), none, 0⟩,
  ⟨(some 52), .call (.k (.fn (.func f_slices_choosePivotCmpFunc_int) [] [])) [(.t 48), (.t 49), (.t 50), (.t 51)], none, 0⟩,
  ⟨(some 47), .mov (.t 52), none, 0⟩,
  ⟨(some 53), .extract (.t 47) 0, none, 0⟩,
  ⟨(some 54), .extract (.t 47) 1, none, 0⟩,
  ⟨(some 13), .mov (.t 53), none, 0⟩,
  ⟨(some 14), .mov (.t 54), none, 0⟩]
def c_slices_pdqsortCmpFunc_int_r11 : List AO := [⟨(some 55), .mov (.t 14), none, 0⟩,
  ⟨(some 56), .bin .eql (.t 55) (.k (.sc (.int .i64 2))), none, 0⟩]
def c_slices_pdqsortCmpFunc_int_r12 : List AO := [⟨(some 57), .mov (.t 0), none, 0⟩,
  ⟨(some 58), .mov (.t 1), none, 0⟩,
  ⟨(some 59), .mov (.t 2), none, 0⟩,
  ⟨(some 60), .mov (.t 4), none, 0⟩,
  ⟨(some 61), .call (.k (.fn (.func f_slices_reverseRangeCmpFunc_int) [] [])) [(.t 57), (.t 58), (.t 59), (.t 60)], none, 0⟩]
def c_slices_pdqsortCmpFunc_int_r13 : List AO := [⟨(some 62), .mov (.t 2), none, 0⟩,
  ⟨(some 63), .bin .sub (.t 62) (.k (.sc (.int .i64 1))), none, 0⟩,
  ⟨(some 64), .mov (.t 13), none, 0⟩,
  ⟨(some 65), .mov (.t 1), none, 0⟩,
  ⟨(some 66), .bin .sub (.t 64) (.t 65), none, 0⟩,
  ⟨(some 67), .bin .sub (.t 63) (.t 66), none, 0⟩,
  ⟨(some 13), .mov (.t 67), none, 0⟩]
def c_slices_pdqsortCmpFunc_int_r14 : List AO := [⟨(some 14), .mov (.k (.sc (.int .i64 1))), none, 0⟩]
def c_slices_pdqsortCmpFunc_int_r15 : List AO := [⟨(some 68), .mov (.t 10), none, 0⟩,
  ⟨(some 69), .mov (.t 68), none, 0⟩,
  ⟨(some 70), .mov (.t 11), (some ((some 69), true)), 0⟩,
  ⟨(some 71), .pick (.t 69) (.t 70) (.k (.sc (.bool false))), none, 0⟩,
  ⟨(some 72), .mov (.t 71), none, 0⟩,
  ⟨(some 73), .mov (.t 14), (some ((some 72), true)), 0⟩,
  ⟨(some 74), .bin .eql (.t 73) (.k (.sc (.int .i64 1))), (some ((some 72), true)), 0⟩,
  ⟨(some 75), .pick (.t 72) (.t 74) (.k (.sc (.bool false))), none, 0⟩]
def c_slices_pdqsortCmpFunc_int_r16 : List AO := [⟨(some 76), .mov (.t 0), none, 0⟩,
  ⟨(some 77), .mov (.t 1), none, 0⟩,
  ⟨(some 78), .mov (.t 2), none, 0⟩,
  ⟨(some 79), .mov (.t 4), none, 0⟩,
  ⟨(some 80), .call (.k (.fn (.func f_slices_partialInsertionSortCmpFunc_int) [] [])) [(.t 76), (.t 77), (.t 78), (.t 79)], none, 0⟩]
def c_slices_pdqsortCmpFunc_int_r17 : List AO := [⟨(some 81), .mov (.t 1), none, 0⟩,
  ⟨(some 82), .bin .gtr (.t 81) (.k (.sc (.int .i64 0))), none, 1⟩,
  ⟨(some 83), .mov (.t 82), none, 3⟩,
  ⟨(some 84), .mov (.t 4), (some ((some 83), true)), 7⟩,
  ⟨(some 85), .mov (.t 0), (some ((some 83), true)), 7⟩,
  ⟨(some 86), .mov (.t 1), (some ((some 83), true)), 7⟩,
  ⟨(some 87), .bin .sub (.t 86) (.k (.sc (.int .i64 1))), (some ((some 83), true)), 39⟩,
  ⟨(some 88), .indexAddr none 1 (.t 85) (.t 87), (some ((some 83), true)), 119⟩,
  ⟨(some 89), .load false 1 (.t 88), (some ((some 83), true)), 247⟩,
  ⟨(some 90), .mov (.t 0), (some ((some 83), true)), 7⟩,
  ⟨(some 91), .mov (.t 13), (some ((some 83), true)), 7⟩,
  ⟨(some 92), .indexAddr none 1 (.t 90) (.t 91), (some ((some 83), true)), 1543⟩,
  ⟨(some 93), .load false 1 (.t 92), (some ((some 83), true)), 3591⟩,
  ⟨(some 94), .call (.t 84) [(.t 89), (.t 93)], (some ((some 83), true)), 8191⟩,
  ⟨(some 95), .bin .lss (.t 94) (.k (.sc (.int .i64 0))), (some ((some 83), true)), 16383⟩,
  ⟨(some 96), .un .not (.t 95), (some ((some 83), true)), 32767⟩,
  ⟨(some 97), .pick (.t 83) (.t 96) (.k (.sc (.bool false))), none, 65535⟩]
def c_slices_pdqsortCmpFunc_int_r18 : List AO := [⟨(some 98), .mov (.t 0), none, 0⟩,
  ⟨(some 99), .mov (.t 1), none, 0⟩,
  ⟨(some 100), .mov (.t 2), none, 0⟩,
  ⟨(some 101), .mov (.t 13), none, 0⟩,
  ⟨(some 102), .mov (.t 4), none, 0⟩,
  ⟨(some 103), .call (.k (.fn (.func f_slices_partitionEqualCmpFunc_int) [] [])) [(.t 98), (.t 99), (.t 100), (.t 101), (.t 102)], none, 0⟩,
  ⟨(some 15), .mov (.t 103), none, 0⟩]
def c_slices_pdqsortCmpFunc_int_r19 : List AO := [⟨(some 104), .mov (.t 15), none, 0⟩,
  ⟨(some 1), .mov (.t 104), none, 0⟩]
def c_slices_pdqsortCmpFunc_int_r20 : List AO := [⟨(some 106), .mov (.t 0), none, 0⟩,
  ⟨(some 107), .mov (.t 1), none, 0⟩,
  ⟨(some 108), .mov (.t 2), none, 0⟩,
  ⟨(some 109), .mov (.t 13), none, 0⟩,
  ⟨(some 110), .mov (.t 4), none, 0⟩,
  ⟨(some 111), .call (.k (.fn (.func f_slices_partitionCmpFunc_int) [] [])) [(.t 106), (.t 107), (.t 108), (.t 109), (.t 110)], none, 0⟩,
  ⟨(some 105), .mov (.t 111), none, 0⟩,
  ⟨(some 112), .extract (.t 105) 0, none, 0⟩,
  ⟨(some 113), .extract (.t 105) 1, none, 0⟩,
  ⟨(some 16), .mov (.t 112), none, 0⟩,
  ⟨(some 17), .mov (.t 113), none, 0⟩]
def c_slices_pdqsortCmpFunc_int_r21 : List AO := [⟨(some 114), .mov (.t 17), none, 0⟩,
  ⟨(some 11), .mov (.t 114), none, 0⟩]
def c_slices_pdqsortCmpFunc_int_r22 : List AO := [⟨(some 115), .mov (.t 16), none, 0⟩,
  ⟨(some 116), .mov (.t 1), none, 0⟩,
  ⟨(some 117), .bin .sub (.t 115) (.t 116), none, 0⟩,
  ⟨(some 118), .mov (.t 2), none, 0⟩,
  ⟨(some 119), .mov (.t 16), none, 0⟩,
  ⟨(some 120), .bin .sub (.t 118) (.t 119), none, 0⟩,
  ⟨(some 18), .mov (.t 117), none, 0⟩,
  ⟨(some 19), .mov (.t 120), none, 0⟩]
def c_slices_pdqsortCmpFunc_int_r23 : List AO := [⟨(some 121), .mov (.t 12), none, 0⟩,
  ⟨(some 122), .bin .quo (.t 121) (.k (.sc (.int .i64 8))), none, 0⟩,
  ⟨(some 20), .mov (.t 122), none, 0⟩]
def c_slices_pdqsortCmpFunc_int_r24 : List AO := [⟨(some 123), .mov (.t 18), none, 0⟩,
  ⟨(some 124), .mov (.t 19), none, 0⟩,
  ⟨(some 125), .bin .lss (.t 123) (.t 124), none, 0⟩]
def c_slices_pdqsortCmpFunc_int_r25 : List AO := [⟨(some 126), .mov (.t 18), none, 0⟩,
  ⟨(some 127), .mov (.t 20), none, 0⟩,
  ⟨(some 128), .bin .geq (.t 126) (.t 127), none, 0⟩,
  ⟨(some 10), .mov (.t 128), none, 0⟩]
def c_slices_pdqsortCmpFunc_int_r26 : List AO := [⟨(some 129), .mov (.t 0), none, 0⟩,
  ⟨(some 130), .mov (.t 1), none, 0⟩,
  ⟨(some 131), .mov (.t 16), none, 0⟩,
  ⟨(some 132), .mov (.t 3), none, 0⟩,
  ⟨(some 133), .mov (.t 4), none, 0⟩,
  ⟨(some 134), .call (.k (.fn (.func f_slices_pdqsortCmpFunc_int) [] [])) [(.t 129), (.t 130), (.t 131), (.t 132), (.t 133)], none, 0⟩]
def c_slices_pdqsortCmpFunc_int_r27 : List AO := [⟨(some 135), .mov (.t 16), none, 0⟩,
  ⟨(some 136), .bin .add (.t 135) (.k (.sc (.int .i64 1))), none, 0⟩,
  ⟨(some 1), .mov (.t 136), none, 0⟩]
def c_slices_pdqsortCmpFunc_int_r28 : List AO := [⟨(some 137), .mov (.t 19), none, 0⟩,
  ⟨(some 138), .mov (.t 20), none, 0⟩,
  ⟨(some 139), .bin .geq (.t 137) (.t 138), none, 0⟩,
  ⟨(some 10), .mov (.t 139), none, 0⟩]
def c_slices_pdqsortCmpFunc_int_r29 : List AO := [⟨(some 140), .mov (.t 0), none, 0⟩,
  ⟨(some 141), .mov (.t 16), none, 0⟩,
  ⟨(some 142), .bin .add (.t 141) (.k (.sc (.int .i64 1))), none, 0⟩,
  ⟨(some 143), .mov (.t 2), none, 0⟩,
  ⟨(some 144), .mov (.t 3), none, 0⟩,
  ⟨(some 145), .mov (.t 4), none, 0⟩,
  ⟨(some 146), .call (.k (.fn (.func f_slices_pdqsortCmpFunc_int) [] [])) [(.t 140), (.t 142), (.t 143), (.t 144), (.t 145)], none, 0⟩]
def c_slices_pdqsortCmpFunc_int_r30 : List AO := [⟨(some 147), .mov (.t 16), none, 0⟩,
  ⟨(some 2), .mov (.t 147), none, 0⟩]
def c_slices_pdqsortCmpFunc_int_l0 : AC := .blk 1 (.seq (.reg c_slices_pdqsortCmpFunc_int_r2 false) (.seq (.seq (.reg c_slices_pdqsortCmpFunc_int_r3 false) (.cond (.t 25) (.seq (.reg c_slices_pdqsortCmpFunc_int_r4 false) (.ret)) (.skip))) (.seq (.seq (.reg c_slices_pdqsortCmpFunc_int_r5 false) (.cond (.t 32) (.seq (.reg c_slices_pdqsortCmpFunc_int_r6 false) (.ret)) (.skip))) (.seq (.seq (.reg c_slices_pdqsortCmpFunc_int_r7 false) (.cond (.t 39) (.seq (.reg c_slices_pdqsortCmpFunc_int_r8 false) (.reg c_slices_pdqsortCmpFunc_int_r9 false)) (.skip))) (.seq (.reg c_slices_pdqsortCmpFunc_int_r10 false) (.seq (.seq (.reg c_slices_pdqsortCmpFunc_int_r11 false) (.cond (.t 56) (.seq (.reg c_slices_pdqsortCmpFunc_int_r12 false) (.seq (.reg c_slices_pdqsortCmpFunc_int_r13 false) (.reg c_slices_pdqsortCmpFunc_int_r14 false))) (.skip))) (.seq (.seq (.reg c_slices_pdqsortCmpFunc_int_r15 false) (.cond (.t 75) (.seq (.reg c_slices_pdqsortCmpFunc_int_r16 false) (.cond (.t 80) (.ret) (.skip))) (.skip))) (.seq (.seq (.reg c_slices_pdqsortCmpFunc_int_r17 true) (.cond (.t 97) (.seq (.reg c_slices_pdqsortCmpFunc_int_r18 false) (.seq (.reg c_slices_pdqsortCmpFunc_int_r19 false) (.exit 1))) (.skip))) (.seq (.reg c_slices_pdqsortCmpFunc_int_r20 false) (.seq (.reg c_slices_pdqsortCmpFunc_int_r21 false) (.seq (.reg c_slices_pdqsortCmpFunc_int_r22 false) (.seq (.reg c_slices_pdqsortCmpFunc_int_r23 false) (.seq (.reg c_slices_pdqsortCmpFunc_int_r24 false) (.cond (.t 125) (.seq (.reg c_slices_pdqsortCmpFunc_int_r25 false) (.seq (.reg c_slices_pdqsortCmpFunc_int_r26 false) (.reg c_slices_pdqsortCmpFunc_int_r27 false))) (.seq (.reg c_slices_pdqsortCmpFunc_int_r28 false) (.seq (.reg c_slices_pdqsortCmpFunc_int_r29 false) (.reg c_slices_pdqsortCmpFunc_int_r30 false)))))))))))))))))
def c_slices_pdqsortCmpFunc_int : AFn := { code := .seq (.reg c_slices_pdqsortCmpFunc_int_r0 false) (.seq (.reg c_slices_pdqsortCmpFunc_int_r1 false) (.blk 0 (.loop c_slices_pdqsortCmpFunc_int_l0))), ntmps := 148, results := [] }
/-- 71 math/bits.Len -/
def c_bits_Len_r0 : List AO := [⟨(some 2), .mov (.k (.sc (.int .i64 0))), none, 0⟩]
def c_bits_Len_r1 : List AO := [⟨(some 3), .mov (.t 0), none, 0⟩,
  ⟨(some 4), .conv (.int .u32) (.t 3), none, 0⟩,
  ⟨(some 5), .call (.k (.fn (.func f_bits_Len32) [] [])) [(.t 4)], none, 0⟩,
  ⟨(some 2), .mov (.t 5), none, 0⟩]
def c_bits_Len_r2 : List AO := [⟨(some 6), .mov (.t 0), none, 0⟩,
  ⟨(some 7), .call (.k (.fn (.func f_bits_Len64) [] [])) [(.t 6)], none, 0⟩,
  ⟨(some 2), .mov (.t 7), none, 0⟩]
def c_bits_Len : AFn := { code := .seq (.reg c_bits_Len_r0 false) (.seq (.cond (.k (.sc (.bool false))) (.seq (.reg c_bits_Len_r1 false) (.ret)) (.skip)) (.seq (.reg c_bits_Len_r2 false) (.ret))), ntmps := 8, results := [.tmp 2] }
/-- 72 phasor/route.up$1 -/
def c_route_up_1_r0 : List AO := [⟨(some 4), .mov (.k (.sc (.bool false))), none, 0⟩]
def c_route_up_1_r1 : List AO := [⟨(some 5), .load false 1 (.t 1), none, 0⟩,
  ⟨(some 6), .mov (.t 0), none, 0⟩,
  ⟨(some 7), .indexAddr none 1 (.t 5) (.t 6), none, 3⟩,
  ⟨(some 8), .load false 1 (.t 7), none, 7⟩,
  ⟨(some 9), .load false 1 (.t 1), none, 0⟩,
  ⟨(some 10), .load false 1 (.t 2), none, 0⟩,
  ⟨(some 11), .indexAddr none 1 (.t 9) (.t 10), none, 48⟩,
  ⟨(some 12), .load false 1 (.t 11), none, 112⟩,
  ⟨(some 13), .bin .sub (.t 12) (.k (.sc (.int .i64 1))), none, 240⟩,
  ⟨(some 14), .bin .eql (.t 8) (.t 13), none, 511⟩,
  ⟨(some 4), .mov (.t 14), none, 1023⟩]
def c_route_up_1 : AFn := { code := .seq (.reg c_route_up_1_r0 false) (.seq (.reg c_route_up_1_r1 true) (.ret)), ntmps := 15, results := [.tmp 4] }
/-- 73 phasor/phasorref20.parent -/
def c_phasorref20_parent_r0 : List AO := [⟨(some 4), .mov (.k (.sc (.int .i64 0))), none, 0⟩]
def c_phasorref20_parent_r1 : List AO := [⟨(some 5), .mov (.t 0), none, 0⟩,
  ⟨(some 6), .mov (.t 1), none, 0⟩,
  ⟨(some 7), .call (.k (.fn (.func f_phasorref20_step) [] [])) [(.t 5), (.t 6), (.k (.sc (.int .i64 0)))], none, 0⟩,
  ⟨(some 4), .mov (.t 7), none, 0⟩]
def c_phasorref20_parent : AFn := { code := .seq (.reg c_phasorref20_parent_r0 false) (.seq (.reg c_phasorref20_parent_r1 false) (.ret)), ntmps := 8, results := [.tmp 4] }
/-- 74 slices.pdqsortOrdered[int] -/
def c_slices_pdqsortOrdered_int_r0 : List AO := [⟨(some 8), .mov (.k (.sc (.bool true))), none, 0⟩]
def c_slices_pdqsortOrdered_int_r1 : List AO := [⟨(some 9), .mov (.k (.sc (.bool true))), none, 0⟩]
def c_slices_pdqsortOrdered_int_r2 : List AO := [⟨(some 19), .mov (.t 2), none, 0⟩,
  ⟨(some 20), .mov (.t 1), none, 0⟩,
  ⟨(some 21), .bin .sub (.t 19) (.t 20), none, 0⟩,
  ⟨(some 10), .mov (.t 21), none, 0⟩]
def c_slices_pdqsortOrdered_int_r3 : List AO := [⟨(some 22), .mov (.t 10), none, 0⟩,
  ⟨(some 23), .bin .leq (.t 22) (.k (.sc (.int .i64 12))), none, 0⟩]
def c_slices_pdqsortOrdered_int_r4 : List AO := [⟨(some 24), .mov (.t 0), none, 0⟩,
  ⟨(some 25), .mov (.t 1), none, 0⟩,
  ⟨(some 26), .mov (.t 2), none, 0⟩,
  ⟨(some 27), .call (.k (.fn (.func f_slices_insertionSortOrdered_int) [] [])) [(.t 24), (.t 25), (.t 26)], none, 0⟩]
def c_slices_pdqsortOrdered_int_r5 : List AO := [⟨(some 28), .mov (.t 3), none, 0⟩,
  ⟨(some 29), .bin .eql (.t 28) (.k (.sc (.int .i64 0))), none, 0⟩]
def c_slices_pdqsortOrdered_int_r6 : List AO := [⟨(some 30), .mov (.t 0), none, 0⟩,
  ⟨(some 31), .mov (.t 1), none, 0⟩,
  ⟨(some 32), .mov (.t 2), none, 0⟩,
  ⟨(some 33), .call (.k (.fn (.func f_slices_heapSortOrdered_int) [] [])) [(.t 30), (.t 31), (.t 32)], none, 0⟩]
def c_slices_pdqsortOrdered_int_r7 : List AO := [⟨(some 34), .mov (.t 8), none, 0⟩,
  ⟨(some 35), .un .not (.t 34), none, 0⟩]
def c_slices_pdqsortOrdered_int_r8 : List AO := [⟨(some 36), .mov (.t 0), none, 0⟩,
  ⟨(some 37), .mov (.t 1), none, 0⟩,
  ⟨(some 38), .mov (.t 2), none, 0⟩,
  ⟨(some 39), .call (.k (.fn (.func f_slices_breakPatternsOrdered_int) [] [])) [(.t 36), (.t 37), (.t 38)], none, 0⟩]
def c_slices_pdqsortOrdered_int_r9 : List AO := [⟨(some 40), .mov (.t 3), none, 0⟩,
  ⟨(some 41), .bin .sub (.t 40) (.k (.sc (.int .i64 1))), none, 0⟩,
  ⟨(some 3), .mov (.t 41), none, 0⟩]
def c_slices_pdqsortOrdered_int_r10 : List AO := [⟨(some 43), .mov (.t 0), none, 0⟩,
  ⟨(some 44), .mov (.t 1), none, 0⟩,
  ⟨(some 45), .mov (.t 2), none, 0⟩,
  ⟨(some 46), .call (.k (.fn (.func f_slices_choosePivotOrdered_int) [] [])) [(.t 43), (.t 44), (.t 45)], none, 0⟩,
  ⟨(some 42), .mov (.t 46), none, 0⟩,
  ⟨(some 47), .extract (.t 42) 0, none, 0⟩,
  ⟨(some 48), .extract (.t 42) 1, none, 0⟩,
  ⟨(some 11), .mov (.t 47), none, 0⟩,
  ⟨(some 12), .mov (.t 48), none, 0⟩]
def c_slices_pdqsortOrdered_int_r11 : List AO := [⟨(some 49), .mov (.t 12), none, 0⟩,
  ⟨(some 50), .bin .eql (.t 49) (.k (.sc (.int .i64 2))), none, 0⟩]
def c_slices_pdqsortOrdered_int_r12 : List AO := [⟨(some 51), .mov (.t 0), none, 0⟩,
  ⟨(some 52), .mov (.t 1), none, 0⟩,
  ⟨(some 53), .mov (.t 2), none, 0⟩,
  ⟨(some 54), .call (.k (.fn (.func f_slices_reverseRangeOrdered_int) [] [])) [(.t 51), (.t 52), (.t 53)], none, 0⟩]
def c_slices_pdqsortOrdered_int_r13 : List AO := [⟨(some 55), .mov (.t 2), none, 0⟩,
  ⟨(some 56), .bin .sub (.t 55) (.k (.sc (.int .i64 1))), none, 0⟩,
  ⟨(some 57), .mov (.t 11), none, 0⟩,
  ⟨(some 58), .mov (.t 1), none, 0⟩,
  ⟨(some 59), .bin .sub (.t 57) (.t 58), none, 0⟩,
  ⟨(some 60), .bin .sub (.t 56) (.t 59), none, 0⟩,
  ⟨(some 11), .mov (.t 60), none, 0⟩]
def c_slices_pdqsortOrdered_int_r14 : List AO := [⟨(some 12), .mov (.k (.sc (.int .i64 1))), none, 0⟩]
def c_slices_pdqsortOrdered_int_r15 : List AO := [⟨(some 61), .mov (.t 8), none, 0⟩,
  ⟨(some 62), .mov (.t 61), none, 0⟩,
  ⟨(some 63), .mov (.t 9), (some ((some 62), true)), 0⟩,
  ⟨(some 64), .pick (.t 62) (.t 63) (.k (.sc (.bool false))), none, 0⟩,
  ⟨(some 65), .mov (.t 64), none, 0⟩,
  ⟨(some 66), .mov (.t 12), (some ((some 65), true)), 0⟩,
  ⟨(some 67), .bin .eql (.t 66) (.k (.sc (.int .i64 1))), (some ((some 65), true)), 0⟩,
  ⟨(some 68), .pick (.t 65) (.t 67) (.k (.sc (.bool false))), none, 0⟩]
def c_slices_pdqsortOrdered_int_r16 : List AO := [⟨(some 69), .mov (.t 0), none, 0⟩,
  ⟨(some 70), .mov (.t 1), none, 0⟩,
  ⟨(some 71), .mov (.t 2), none, 0⟩,
  ⟨(some 72), .call (.k (.fn (.func f_slices_partialInsertionSortOrdered_int) [] [])) [(.t 69), (.t 70), (.t 71)], none, 0⟩]
def c_slices_pdqsortOrdered_int_r17 : List AO := [⟨(some 73), .mov (.t 1), none, 0⟩,
  ⟨(some 74), .bin .gtr (.t 73) (.k (.sc (.int .i64 0))), none, 1⟩,
  ⟨(some 75), .mov (.t 74), none, 3⟩,
  ⟨(some 76), .mov (.t 0), (some ((some 75), true)), 7⟩,
  ⟨(some 77), .mov (.t 1), (some ((some 75), true)), 7⟩,
  ⟨(some 78), .bin .sub (.t 77) (.k (.sc (.int .i64 1))), (some ((some 75), true)), 23⟩,
  ⟨(some 79), .indexAddr none 1 (.t 76) (.t 78), (some ((some 75), true)), 63⟩,
  ⟨(some 80), .load false 1 (.t 79), (some ((some 75), true)), 127⟩,
  ⟨(some 81), .mov (.t 0), (some ((some 75), true)), 7⟩,
  ⟨(some 82), .mov (.t 11), (some ((some 75), true)), 7⟩,
  ⟨(some 83), .indexAddr none 1 (.t 81) (.t 82), (some ((some 75), true)), 775⟩,
  ⟨(some 84), .load false 1 (.t 83), (some ((some 75), true)), 1799⟩,
  ⟨(some 85), .call (.k (.fn (.func f_cmp_Less_int) [] [])) [(.t 80), (.t 84)], (some ((some 75), true)), 4095⟩,
  ⟨(some 86), .un .not (.t 85), (some ((some 75), true)), 8191⟩,
  ⟨(some 87), .pick (.t 75) (.t 86) (.k (.sc (.bool false))), none, 16383⟩]
def c_slices_pdqsortOrdered_int_r18 : List AO := [⟨(some 88), .mov (.t 0), none, 0⟩,
  ⟨(some 89), .mov (.t 1), none, 0⟩,
  ⟨(some 90), .mov (.t 2), none, 0⟩,
  ⟨(some 91), .mov (.t 11), none, 0⟩,
  ⟨(some 92), .call (.k (.fn (.func f_slices_partitionEqualOrdered_int) [] [])) [(.t 88), (.t 89), (.t 90), (.t 91)], none, 0⟩,
  ⟨(some 13), .mov (.t 92), none, 0⟩]
def c_slices_pdqsortOrdered_int_r19 : List AO := [⟨(some 93), .mov (.t 13), none, 0⟩,
  ⟨(some 1), .mov (.t 93), none, 0⟩]
def c_slices_pdqsortOrdered_int_r20 : List AO := [⟨(some 95), .mov (.t 0), none, 0⟩,
  ⟨(some 96), .mov (.t 1), none, 0⟩,
  ⟨(some 97), .mov (.t 2), none, 0⟩,
  ⟨(some 98), .mov (.t 11), none, 0⟩,
  ⟨(some 99), .call (.k (.fn (.func f_slices_partitionOrdered_int) [] [])) [(.t 95), (.t 96), (.t 97), (.t 98)], none, 0⟩,
  ⟨(some 94), .mov (.t 99), none, 0⟩,
  ⟨(some 100), .extract (.t 94) 0, none, 0⟩,
  ⟨(some 101), .extract (.t 94) 1, none, 0⟩,
  ⟨(some 14), .mov (.t 100), none, 0⟩,
  ⟨(some 15), .mov (.t 101), none, 0⟩]
def c_slices_pdqsortOrdered_int_r21 : List AO := [⟨(some 102), .mov (.t 15), none, 0⟩,
  ⟨(some 9), .mov (.t 102), none, 0⟩]
def c_slices_pdqsortOrdered_int_r22 : List AO := [⟨(some 103), .mov (.t 14), none, 0⟩,
  ⟨(some 104), .mov (.t 1), none, 0⟩,
  ⟨(some 105), .bin .sub (.t 103) (.t 104), none, 0⟩,
  ⟨(some 106), .mov (.t 2), none, 0⟩,
  ⟨(some 107), .mov (.t 14), none, 0⟩,
  ⟨(some 108), .bin .sub (.t 106) (.t 107), none, 0⟩,
  ⟨(some 16), .mov (.t 105), none, 0⟩,
  ⟨(some 17), .mov (.t 108), none, 0⟩]
def c_slices_pdqsortOrdered_int_r23 : List AO := [⟨(some 109), .mov (.t 10), none, 0⟩,
  ⟨(some 110), .bin .quo (.t 109) (.k (.sc (.int .i64 8))), none, 0⟩,
  ⟨(some 18), .mov (.t 110), none, 0⟩]
def c_slices_pdqsortOrdered_int_r24 : List AO := [⟨(some 111), .mov (.t 16), none, 0⟩,
  ⟨(some 112), .mov (.t 17), none, 0⟩,
  ⟨(some 113), .bin .lss (.t 111) (.t 112), none, 0⟩]
def c_slices_pdqsortOrdered_int_r25 : List AO := [⟨(some 114), .mov (.t 16), none, 0⟩,
  ⟨(some 115), .mov (.t 18), none, 0⟩,
  ⟨(some 116), .bin .geq (.t 114) (.t 115), none, 0⟩,
  ⟨(some 8), .mov (.t 116), none, 0⟩]
def c_slices_pdqsortOrdered_int_r26 : List AO := [⟨(some 117), .mov (.t 0), none, 0⟩,
  ⟨(some 118), .mov (.t 1), none, 0⟩,
  ⟨(some 119), .mov (.t 14), none, 0⟩,
  ⟨(some 120), .mov (.t 3), none, 0⟩,
  ⟨(some 121), .call (.k (.fn (.func f_slices_pdqsortOrdered_int) [] [])) [(.t 117), (.t 118), (.t 119), (.t 120)], none, 0⟩]
def c_slices_pdqsortOrdered_int_r27 : List AO := [⟨(some 122), .mov (.t 14), none, 0⟩,
  ⟨(some 123), .bin .add (.t 122) (.k (.sc (.int .i64 1))), none, 0⟩,
  ⟨(some 1), .mov (.t 123), none, 0⟩]
def c_slices_pdqsortOrdered_int_r28 : List AO := [⟨(some 124), .mov (.t 17), none, 0⟩,
  ⟨(some 125), .mov (.t 18), none, 0⟩,
  ⟨(some 126), .bin .geq (.t 124) (.t 125), none, 0⟩,
  ⟨(some 8), .mov (.t 126), none, 0⟩]
def c_slices_pdqsortOrdered_int_r29 : List AO := [⟨(some 127), .mov (.t 0), none, 0⟩,
  ⟨(some 128), .mov (.t 14), none, 0⟩,
  ⟨(some 129), .bin .add (.t 128) (.k (.sc (.int .i64 1))), none, 0⟩,
  ⟨(some 130), .mov (.t 2), none, 0⟩,
  ⟨(some 131), .mov (.t 3), none, 0⟩,
  ⟨(some 132), .call (.k (.fn (.func f_slices_pdqsortOrdered_int) [] [])) [(.t 127), (.t 129), (.t 130), (.t 131)], none, 0⟩]
def c_slices_pdqsortOrdered_int_r30 : List AO := [⟨(some 133), .mov (.t 14), none, 0⟩,
  ⟨(some 2), .mov (.t 133), none, 0⟩]
def c_slices_pdqsortOrdered_int_l0 : AC := .blk 1 (.seq (.reg c_slices_pdqsortOrdered_int_r2 false) (.seq (.seq (.reg c_slices_pdqsortOrdered_int_r3 false) (.cond (.t 23) (.seq (.reg c_slices_pdqsortOrdered_int_r4 false) (.ret)) (.skip))) (.seq (.seq (.reg c_slices_pdqsortOrdered_int_r5 false) (.cond (.t 29) (.seq (.reg c_slices_pdqsortOrdered_int_r6 false) (.ret)) (.skip))) (.seq (.seq (.reg c_slices_pdqsortOrdered_int_r7 false) (.cond (.t 35) (.seq (.reg c_slices_pdqsortOrdered_int_r8 false) (.reg c_slices_pdqsortOrdered_int_r9 false)) (.skip))) (.seq (.reg c_slices_pdqsortOrdered_int_r10 false) (.seq (.seq (.reg c_slices_pdqsortOrdered_int_r11 false) (.cond (.t 50) (.seq (.reg c_slices_pdqsortOrdered_int_r12 false) (.seq (.reg c_slices_pdqsortOrdered_int_r13 false) (.reg c_slices_pdqsortOrdered_int_r14 false))) (.skip))) (.seq (.seq (.reg c_slices_pdqsortOrdered_int_r15 false) (.cond (.t 68) (.seq (.reg c_slices_pdqsortOrdered_int_r16 false) (.cond (.t 72) (.ret) (.skip))) (.skip))) (.seq (.seq (.reg c_slices_pdqsortOrdered_int_r17 true) (.cond (.t 87) (.seq (.reg c_slices_pdqsortOrdered_int_r18 false) (.seq (.reg c_slices_pdqsortOrdered_int_r19 false) (.exit 1))) (.skip))) (.seq (.reg c_slices_pdqsortOrdered_int_r20 false) (.seq (.reg c_slices_pdqsortOrdered_int_r21 false) (.seq (.reg c_slices_pdqsortOrdered_int_r22 false) (.seq (.reg c_slices_pdqsortOrdered_int_r23 false) (.seq (.reg c_slices_pdqsortOrdered_int_r24 false) (.cond (.t 113) (.seq (.reg c_slices_pdqsortOrdered_int_r25 false) (.seq (.reg c_slices_pdqsortOrdered_int_r26 false) (.reg c_slices_pdqsortOrdered_int_r27 false))) (.seq (.reg c_slices_pdqsortOrdered_int_r28 false) (.seq (.reg c_slices_pdqsortOrdered_int_r29 false) (.reg c_slices_pdqsortOrdered_int_r30 false)))))))))))))))))
def c_slices_pdqsortOrdered_int : AFn := { code := .seq (.reg c_slices_pdqsortOrdered_int_r0 false) (.seq (.reg c_slices_pdqsortOrdered_int_r1 false) (.blk 0 (.loop c_slices_pdqsortOrdered_int_l0))), ntmps := 134, results := [] }
/-- 75 phasor/gate.Check -/
def c_gate_Check_r0 : List AO := [⟨(some 6), .mov (.k (.sc (.int .i64 0))), none, 0⟩]
def c_gate_Check_r1 : List AO := [⟨(some 9), .mov (.t 0), none, 0⟩,
  ⟨(some 10), .call (.k (.fn (.func f_gate_Arity) [] [])) [(.t 9)], none, 0⟩,
  ⟨(some 11), .bin .eql (.t 10) (.k (.sc (.int .i64 0))), none, 0⟩]
def c_gate_Check_r2 : List AO := [⟨(some 6), .mov (.k (.sc (.int .i64 60))), none, 0⟩]
def c_gate_Check_r3 : List AO := [⟨(some 12), .mov (.t 1), none, 0⟩,
  ⟨(some 13), .len (.t 12), none, 0⟩,
  ⟨(some 14), .mov (.t 0), none, 0⟩,
  ⟨(some 15), .call (.k (.fn (.func f_gate_Arity) [] [])) [(.t 14)], none, 0⟩,
  ⟨(some 16), .bin .neq (.t 13) (.t 15), none, 0⟩]
def c_gate_Check_r4 : List AO := [⟨(some 6), .mov (.k (.sc (.int .i64 61))), none, 0⟩]
def c_gate_Check_r5 : List AO := [⟨(some 17), .mov (.t 1), none, 0⟩,
  ⟨(some 18), .len (.t 17), none, 0⟩,
  ⟨(some 19), .mov (.k (.sc (.int .i64 0))), none, 0⟩]
def c_gate_Check_r6 : List AO := [⟨(some 20), .bin .lss (.t 19) (.t 18), none, 0⟩]
def c_gate_Check_r7 : List AO := [⟨(some 21), .mov (.t 19), none, 0⟩,
  ⟨(some 22), .indexAddr none 1 (.t 17) (.t 19), none, 0⟩,
  ⟨(some 23), .load false 1 (.t 22), none, 0⟩,
  ⟨(some 7), .mov (.t 21), none, 0⟩,
  ⟨(some 8), .mov (.t 23), none, 0⟩]
def c_gate_Check_r8 : List AO := [⟨(some 24), .mov (.t 8), none, 0⟩,
  ⟨(some 25), .bin .lss (.t 24) (.k (.sc (.int .i64 0))), none, 0⟩,
  ⟨(some 26), .mov (.t 25), none, 0⟩,
  ⟨(some 27), .mov (.t 8), (some ((some 26), false)), 0⟩,
  ⟨(some 28), .mov (.t 2), (some ((some 26), false)), 0⟩,
  ⟨(some 29), .bin .geq (.t 27) (.t 28), (some ((some 26), false)), 0⟩,
  ⟨(some 30), .pick (.t 26) (.k (.sc (.bool true))) (.t 29), none, 0⟩,
  ⟨(some 31), .mov (.t 30), none, 0⟩,
  ⟨(some 32), .mov (.t 1), (some ((some 31), false)), 0⟩,
  ⟨(some 33), .mov (.t 7), (some ((some 31), false)), 0⟩,
  ⟨(some 34), .slice 1 (.t 32) none (some (.t 33)) none, (some ((some 31), false)), 0⟩,
  ⟨(some 35), .mov (.t 8), (some ((some 31), false)), 0⟩,
  ⟨(some 36), .call (.k (.fn (.func f_slices_Contains_int_int) [] [])) [(.t 34), (.t 35)], (some ((some 31), false)), 0⟩,
  ⟨(some 37), .pick (.t 31) (.k (.sc (.bool true))) (.t 36), none, 0⟩]
def c_gate_Check_r9 : List AO := [⟨(some 6), .mov (.k (.sc (.int .i64 61))), none, 0⟩]
def c_gate_Check_r10 : List AO := [⟨(some 38), .bin .add (.t 19) (.k (.sc (.int .i64 1))), none, 0⟩,
  ⟨(some 19), .mov (.t 38), none, 0⟩]
def c_gate_Check_l0 : AC := .seq (.reg c_gate_Check_r6 false) (.seq (.cond (.t 20) (.skip) (.exit 0)) (.seq (.blk 1 (.seq (.reg c_gate_Check_r7 false) (.seq (.reg c_gate_Check_r8 false) (.cond (.t 37) (.seq (.reg c_gate_Check_r9 false) (.ret)) (.skip))))) (.reg c_gate_Check_r10 false)))
def c_gate_Check_r11 : List AO := [⟨(some 6), .mov (.k (.sc (.int .i64 0))), none, 0⟩]
def c_gate_Check : AFn := { code := .seq (.reg c_gate_Check_r0 false) (.seq (.seq (.reg c_gate_Check_r1 false) (.cond (.t 11) (.seq (.reg c_gate_Check_r2 false) (.ret)) (.skip))) (.seq (.seq (.reg c_gate_Check_r3 false) (.cond (.t 16) (.seq (.reg c_gate_Check_r4 false) (.ret)) (.skip))) (.seq (.seq (.reg c_gate_Check_r5 false) (.blk 0 (.loop c_gate_Check_l0))) (.seq (.reg c_gate_Check_r11 false) (.ret))))), ntmps := 39, results := [.tmp 6] }
/-- 76 phasor/phasorref08.Op -/
def c_phasorref08_Op_r0 : List AO := [⟨(some 3), .box (.t 0), none, 0⟩,
  ⟨(some 6), .mov (.k (.sc (.bool false))), none, 0⟩]
def c_phasorref08_Op_r1 : List AO := [⟨(some 8), .fieldAddr 4 (.t 3), none, 0⟩,
  ⟨(some 9), .load false 1 (.t 8), none, 0⟩,
  ⟨(some 10), .bin .eql (.t 9) (.k (.sc (.int .i64 (-1)))), none, 0⟩,
  ⟨(some 11), .mov (.t 10), none, 0⟩,
  ⟨(some 12), .fieldAddr 5 (.t 3), (some ((some 11), true)), 0⟩,
  ⟨(some 13), .load false 1 (.t 12), (some ((some 11), true)), 0⟩,
  ⟨(some 14), .bin .eql (.t 13) (.k (.sc (.int .i64 0))), (some ((some 11), true)), 0⟩,
  ⟨(some 15), .pick (.t 11) (.t 14) (.k (.sc (.bool false))), none, 0⟩,
  ⟨(some 7), .mov (.t 15), none, 0⟩]
def c_phasorref08_Op_r2 : List AO := [⟨(some 16), .fieldAddr 0 (.t 3), none, 0⟩,
  ⟨(some 17), .load false 1 (.t 16), none, 0⟩]
def c_phasorref08_Op_r3 : List AO := [⟨(some 19), .bin .eql (.t 17) (.k (.sc (.int .i64 1))), none, 0⟩,
  ⟨(some 18), .mov (.t 19), none, 0⟩]
def c_phasorref08_Op_r4 : List AO := [⟨(some 20), .fieldAddr 1 (.t 3), none, 0⟩,
  ⟨(some 21), .load false 1 (.t 20), none, 0⟩,
  ⟨(some 22), .fieldAddr 2 (.t 3), none, 0⟩,
  ⟨(some 23), .load false 1 (.t 22), none, 0⟩,
  ⟨(some 24), .mov (.t 1), none, 0⟩,
  ⟨(some 25), .call (.k (.fn (.func f_phasorref06_Check) [] [])) [(.t 21), (.t 23), (.t 24)], none, 0⟩,
  ⟨(some 26), .bin .eql (.t 25) (.k (.sc (.int .i64 0))), none, 0⟩,
  ⟨(some 27), .mov (.t 26), none, 0⟩,
  ⟨(some 28), .fieldAddr 3 (.t 3), (some ((some 27), true)), 0⟩,
  ⟨(some 29), .load false 1 (.t 28), (some ((some 27), true)), 0⟩,
  ⟨(some 30), .bin .eql (.t 29) (.k (.sc (.int .i64 0))), (some ((some 27), true)), 0⟩,
  ⟨(some 31), .pick (.t 27) (.t 30) (.k (.sc (.bool false))), none, 0⟩,
  ⟨(some 32), .mov (.t 31), none, 0⟩,
  ⟨(some 33), .mov (.t 7), (some ((some 32), true)), 0⟩,
  ⟨(some 34), .mov (.t 33), (some ((some 32), true)), 0⟩,
  ⟨(some 35), .fieldAddr 4 (.t 3), (some ((some 34), false)), 0⟩,
  ⟨(some 36), .load false 1 (.t 35), (some ((some 34), false)), 0⟩,
  ⟨(some 37), .bin .geq (.t 36) (.k (.sc (.int .i64 0))), (some ((some 34), false)), 0⟩,
  ⟨(some 38), .mov (.t 37), (some ((some 34), false)), 0⟩,
  ⟨(some 39), .fieldAddr 4 (.t 3), (some ((some 38), true)), 0⟩,
  ⟨(some 40), .load false 1 (.t 39), (some ((some 38), true)), 0⟩,
  ⟨(some 41), .mov (.t 2), (some ((some 38), true)), 0⟩,
  ⟨(some 42), .bin .lss (.t 40) (.t 41), (some ((some 38), true)), 0⟩,
  ⟨(some 43), .pick (.t 38) (.t 42) (.k (.sc (.bool false))), (some ((some 34), false)), 0⟩,
  ⟨(some 44), .mov (.t 43), (some ((some 34), false)), 0⟩,
  ⟨(some 45), .fieldAddr 5 (.t 3), (some ((some 44), true)), 0⟩,
  ⟨(some 46), .load false 1 (.t 45), (some ((some 44), true)), 0⟩,
  ⟨(some 47), .bin .eql (.t 46) (.k (.sc (.int .i64 0))), (some ((some 44), true)), 0⟩,
  ⟨(some 48), .mov (.t 47), (some ((some 44), true)), 0⟩,
  ⟨(some 49), .fieldAddr 5 (.t 3), (some ((some 48), false)), 0⟩,
  ⟨(some 50), .load false 1 (.t 49), (some ((some 48), false)), 0⟩,
  ⟨(some 51), .bin .eql (.t 50) (.k (.sc (.int .i64 1))), (some ((some 48), false)), 0⟩,
  ⟨(some 52), .pick (.t 48) (.k (.sc (.bool true))) (.t 51), (some ((some 44), true)), 0⟩,
  ⟨(some 53), .pick (.t 44) (.t 52) (.k (.sc (.bool false))), (some ((some 34), false)), 0⟩,
  ⟨(some 54), .pick (.t 34) (.k (.sc (.bool true))) (.t 53), (some ((some 32), true)), 0⟩,
  ⟨(some 55), .pick (.t 32) (.t 54) (.k (.sc (.bool false))), none, 0⟩,
  ⟨(some 6), .mov (.t 55), none, 0⟩]
def c_phasorref08_Op_r5 : List AO := [⟨(some 57), .bin .eql (.t 17) (.k (.sc (.int .i64 2))), none, 0⟩,
  ⟨(some 56), .mov (.t 57), none, 0⟩]
def c_phasorref08_Op_r6 : List AO := [⟨(some 58), .fieldAddr 1 (.t 3), none, 0⟩,
  ⟨(some 59), .load false 1 (.t 58), none, 0⟩,
  ⟨(some 60), .bin .eql (.t 59) (.k (.sc (.int .i64 0))), none, 0⟩,
  ⟨(some 61), .mov (.t 60), none, 0⟩,
  ⟨(some 62), .fieldAddr 2 (.t 3), (some ((some 61), true)), 0⟩,
  ⟨(some 63), .load false 1 (.t 62), (some ((some 61), true)), 0⟩,
  ⟨(some 64), .len (.t 63), (some ((some 61), true)), 0⟩,
  ⟨(some 65), .bin .eql (.t 64) (.k (.sc (.int .i64 1))), (some ((some 61), true)), 0⟩,
  ⟨(some 66), .pick (.t 61) (.t 65) (.k (.sc (.bool false))), none, 0⟩,
  ⟨(some 67), .mov (.t 66), none, 0⟩,
  ⟨(some 68), .fieldAddr 2 (.t 3), (some ((some 67), true)), 0⟩,
  ⟨(some 69), .load false 1 (.t 68), (some ((some 67), true)), 0⟩,
  ⟨(some 70), .mov (.t 1), (some ((some 67), true)), 0⟩,
  ⟨(some 71), .call (.k (.fn (.func f_phasorref08_unlike) [] [])) [(.t 69), (.t 70)], (some ((some 67), true)), 0⟩,
  ⟨(some 72), .pick (.t 67) (.t 71) (.k (.sc (.bool false))), none, 0⟩,
  ⟨(some 73), .mov (.t 72), none, 0⟩,
  ⟨(some 74), .fieldAddr 3 (.t 3), (some ((some 73), true)), 0⟩,
  ⟨(some 75), .load false 1 (.t 74), (some ((some 73), true)), 0⟩,
  ⟨(some 76), .bin .geq (.t 75) (.k (.sc (.int .i64 0))), (some ((some 73), true)), 0⟩,
  ⟨(some 77), .pick (.t 73) (.t 76) (.k (.sc (.bool false))), none, 0⟩,
  ⟨(some 78), .mov (.t 77), none, 0⟩,
  ⟨(some 79), .fieldAddr 3 (.t 3), (some ((some 78), true)), 0⟩,
  ⟨(some 80), .load false 1 (.t 79), (some ((some 78), true)), 0⟩,
  ⟨(some 81), .mov (.t 2), (some ((some 78), true)), 0⟩,
  ⟨(some 82), .bin .lss (.t 80) (.t 81), (some ((some 78), true)), 0⟩,
  ⟨(some 83), .pick (.t 78) (.t 82) (.k (.sc (.bool false))), none, 0⟩,
  ⟨(some 84), .mov (.t 83), none, 0⟩,
  ⟨(some 85), .mov (.t 7), (some ((some 84), true)), 0⟩,
  ⟨(some 86), .pick (.t 84) (.t 85) (.k (.sc (.bool false))), none, 0⟩,
  ⟨(some 6), .mov (.t 86), none, 0⟩]
def c_phasorref08_Op_r7 : List AO := [⟨(some 88), .bin .eql (.t 17) (.k (.sc (.int .i64 3))), none, 0⟩,
  ⟨(some 87), .mov (.t 88), none, 0⟩]
def c_phasorref08_Op_r8 : List AO := [⟨(some 89), .fieldAddr 1 (.t 3), none, 0⟩,
  ⟨(some 90), .load false 1 (.t 89), none, 0⟩,
  ⟨(some 91), .bin .eql (.t 90) (.k (.sc (.int .i64 0))), none, 0⟩,
  ⟨(some 92), .mov (.t 91), none, 0⟩,
  ⟨(some 93), .fieldAddr 2 (.t 3), (some ((some 92), true)), 0⟩,
  ⟨(some 94), .load false 1 (.t 93), (some ((some 92), true)), 0⟩,
  ⟨(some 95), .len (.t 94), (some ((some 92), true)), 0⟩,
  ⟨(some 96), .bin .eql (.t 95) (.k (.sc (.int .i64 1))), (some ((some 92), true)), 0⟩,
  ⟨(some 97), .pick (.t 92) (.t 96) (.k (.sc (.bool false))), none, 0⟩,
  ⟨(some 98), .mov (.t 97), none, 0⟩,
  ⟨(some 99), .fieldAddr 2 (.t 3), (some ((some 98), true)), 0⟩,
  ⟨(some 100), .load false 1 (.t 99), (some ((some 98), true)), 0⟩,
  ⟨(some 101), .mov (.t 1), (some ((some 98), true)), 0⟩,
  ⟨(some 102), .call (.k (.fn (.func f_phasorref08_unlike) [] [])) [(.t 100), (.t 101)], (some ((some 98), true)), 0⟩,
  ⟨(some 103), .pick (.t 98) (.t 102) (.k (.sc (.bool false))), none, 0⟩,
  ⟨(some 104), .mov (.t 103), none, 0⟩,
  ⟨(some 105), .fieldAddr 3 (.t 3), (some ((some 104), true)), 0⟩,
  ⟨(some 106), .load false 1 (.t 105), (some ((some 104), true)), 0⟩,
  ⟨(some 107), .bin .eql (.t 106) (.k (.sc (.int .i64 0))), (some ((some 104), true)), 0⟩,
  ⟨(some 108), .pick (.t 104) (.t 107) (.k (.sc (.bool false))), none, 0⟩,
  ⟨(some 109), .mov (.t 108), none, 0⟩,
  ⟨(some 110), .mov (.t 7), (some ((some 109), true)), 0⟩,
  ⟨(some 111), .pick (.t 109) (.t 110) (.k (.sc (.bool false))), none, 0⟩,
  ⟨(some 6), .mov (.t 111), none, 0⟩]
def c_phasorref08_Op_r9 : List AO := [⟨(some 113), .bin .eql (.t 17) (.k (.sc (.int .i64 4))), none, 0⟩,
  ⟨(some 112), .mov (.t 113), none, 0⟩]
def c_phasorref08_Op_r10 : List AO := [⟨(some 114), .fieldAddr 1 (.t 3), none, 0⟩,
  ⟨(some 115), .load false 1 (.t 114), none, 0⟩,
  ⟨(some 116), .bin .eql (.t 115) (.k (.sc (.int .i64 0))), none, 0⟩,
  ⟨(some 117), .mov (.t 116), none, 0⟩,
  ⟨(some 118), .fieldAddr 2 (.t 3), (some ((some 117), true)), 0⟩,
  ⟨(some 119), .load false 1 (.t 118), (some ((some 117), true)), 0⟩,
  ⟨(some 120), .len (.t 119), (some ((some 117), true)), 0⟩,
  ⟨(some 121), .bin .gtr (.t 120) (.k (.sc (.int .i64 0))), (some ((some 117), true)), 0⟩,
  ⟨(some 122), .pick (.t 117) (.t 121) (.k (.sc (.bool false))), none, 0⟩,
  ⟨(some 123), .mov (.t 122), none, 0⟩,
  ⟨(some 124), .fieldAddr 2 (.t 3), (some ((some 123), true)), 0⟩,
  ⟨(some 125), .load false 1 (.t 124), (some ((some 123), true)), 0⟩,
  ⟨(some 126), .mov (.t 1), (some ((some 123), true)), 0⟩,
  ⟨(some 127), .call (.k (.fn (.func f_phasorref08_unlike) [] [])) [(.t 125), (.t 126)], (some ((some 123), true)), 0⟩,
  ⟨(some 128), .pick (.t 123) (.t 127) (.k (.sc (.bool false))), none, 0⟩,
  ⟨(some 129), .mov (.t 128), none, 0⟩,
  ⟨(some 130), .fieldAddr 3 (.t 3), (some ((some 129), true)), 0⟩,
  ⟨(some 131), .load false 1 (.t 130), (some ((some 129), true)), 0⟩,
  ⟨(some 132), .bin .eql (.t 131) (.k (.sc (.int .i64 0))), (some ((some 129), true)), 0⟩,
  ⟨(some 133), .pick (.t 129) (.t 132) (.k (.sc (.bool false))), none, 0⟩,
  ⟨(some 134), .mov (.t 133), none, 0⟩,
  ⟨(some 135), .mov (.t 7), (some ((some 134), true)), 0⟩,
  ⟨(some 136), .pick (.t 134) (.t 135) (.k (.sc (.bool false))), none, 0⟩,
  ⟨(some 6), .mov (.t 136), none, 0⟩]
def c_phasorref08_Op_r11 : List AO := [⟨(some 6), .mov (.k (.sc (.bool false))), none, 0⟩]
def c_phasorref08_Op : AFn := { code := .seq (.reg c_phasorref08_Op_r0 false) (.seq (.reg c_phasorref08_Op_r1 false) (.seq (.seq (.reg c_phasorref08_Op_r2 false) (.blk 0 (.seq (.reg c_phasorref08_Op_r3 false) (.cond (.t 18) (.seq (.reg c_phasorref08_Op_r4 false) (.ret)) (.seq (.reg c_phasorref08_Op_r5 false) (.cond (.t 56) (.seq (.reg c_phasorref08_Op_r6 false) (.ret)) (.seq (.reg c_phasorref08_Op_r7 false) (.cond (.t 87) (.seq (.reg c_phasorref08_Op_r8 false) (.ret)) (.seq (.reg c_phasorref08_Op_r9 false) (.cond (.t 112) (.seq (.reg c_phasorref08_Op_r10 false) (.ret)) (.skip))))))))))) (.seq (.reg c_phasorref08_Op_r11 false) (.ret)))), ntmps := 137, results := [.tmp 6] }
/-- 77 slices.insertionSortCmpFunc[int] -/
def c_slices_insertionSortCmpFunc_int_r0 : List AO := [⟨(some 10), .mov (.t 1), none, 0⟩,
  ⟨(some 11), .bin .add (.t 10) (.k (.sc (.int .i64 1))), none, 0⟩,
  ⟨(some 8), .mov (.t 11), none, 0⟩]
def c_slices_insertionSortCmpFunc_int_r1 : List AO := [⟨(some 12), .mov (.t 8), none, 0⟩,
  ⟨(some 13), .mov (.t 2), none, 0⟩,
  ⟨(some 14), .bin .lss (.t 12) (.t 13), none, 0⟩]
def c_slices_insertionSortCmpFunc_int_r2 : List AO := [⟨(some 17), .mov (.t 8), none, 0⟩,
  ⟨(some 9), .mov (.t 17), none, 0⟩]
def c_slices_insertionSortCmpFunc_int_r3 : List AO := [⟨(some 18), .mov (.t 9), none, 0⟩,
  ⟨(some 19), .mov (.t 1), none, 0⟩,
  ⟨(some 20), .bin .gtr (.t 18) (.t 19), none, 3⟩,
  ⟨(some 21), .mov (.t 20), none, 7⟩,
  ⟨(some 22), .mov (.t 3), (some ((some 21), true)), 15⟩,
  ⟨(some 23), .mov (.t 0), (some ((some 21), true)), 15⟩,
  ⟨(some 24), .mov (.t 9), (some ((some 21), true)), 15⟩,
  ⟨(some 25), .indexAddr none 1 (.t 23) (.t 24), (some ((some 21), true)), 111⟩,
  ⟨(some 26), .load false 1 (.t 25), (some ((some 21), true)), 239⟩,
  ⟨(some 27), .mov (.t 0), (some ((some 21), true)), 15⟩,
  ⟨(some 28), .mov (.t 9), (some ((some 21), true)), 15⟩,
  ⟨(some 29), .bin .sub (.t 28) (.k (.sc (.int .i64 1))), (some ((some 21), true)), 1039⟩,
  ⟨(some 30), .indexAddr none 1 (.t 27) (.t 29), (some ((some 21), true)), 3599⟩,
  ⟨(some 31), .load false 1 (.t 30), (some ((some 21), true)), 7695⟩,
  ⟨(some 32), .call (.t 22) [(.t 26), (.t 31)], (some ((some 21), true)), 16383⟩,
  ⟨(some 33), .bin .lss (.t 32) (.k (.sc (.int .i64 0))), (some ((some 21), true)), 32767⟩,
  ⟨(some 34), .pick (.t 21) (.t 33) (.k (.sc (.bool false))), none, 65535⟩]
def c_slices_insertionSortCmpFunc_int_r4 : List AO := [⟨(some 37), .mov (.t 0), none, 0⟩,
  ⟨(some 38), .mov (.t 9), none, 0⟩,
  ⟨(some 39), .mov (.t 0), none, 0⟩,
  ⟨(some 40), .mov (.t 9), none, 0⟩,
  ⟨(some 41), .bin .sub (.t 40) (.k (.sc (.int .i64 1))), none, 8⟩,
  ⟨(some 42), .mov (.t 0), none, 0⟩,
  ⟨(some 43), .mov (.t 9), none, 0⟩,
  ⟨(some 44), .bin .sub (.t 43) (.k (.sc (.int .i64 1))), none, 64⟩,
  ⟨(some 45), .indexAddr none 1 (.t 42) (.t 44), none, 224⟩,
  ⟨(some 46), .load false 1 (.t 45), none, 480⟩,
  ⟨(some 47), .mov (.t 0), none, 0⟩,
  ⟨(some 48), .mov (.t 9), none, 0⟩,
  ⟨(some 49), .indexAddr none 1 (.t 47) (.t 48), none, 3072⟩,
  ⟨(some 50), .load false 1 (.t 49), none, 7168⟩,
  ⟨(some 51), .indexAddr none 1 (.t 37) (.t 38), none, 16355⟩,
  ⟨none, .store 1 (.t 51) (.t 46), none, 32739⟩,
  ⟨(some 52), .indexAddr none 1 (.t 39) (.t 41), none, 65535⟩,
  ⟨none, .store 1 (.t 52) (.t 50), none, 131071⟩]
def c_slices_insertionSortCmpFunc_int_r5 : List AO := [⟨(some 35), .mov (.t 9), none, 0⟩,
  ⟨(some 36), .bin .sub (.t 35) (.k (.sc (.int .i64 1))), none, 0⟩,
  ⟨(some 9), .mov (.t 36), none, 0⟩]
def c_slices_insertionSortCmpFunc_int_l0 : AC := .seq (.seq (.reg c_slices_insertionSortCmpFunc_int_r3 true) (.cond (.t 34) (.skip) (.exit 2))) (.seq (.blk 3 (.reg c_slices_insertionSortCmpFunc_int_r4 true)) (.reg c_slices_insertionSortCmpFunc_int_r5 false))
def c_slices_insertionSortCmpFunc_int_r6 : List AO := [⟨(some 15), .mov (.t 8), none, 0⟩,
  ⟨(some 16), .bin .add (.t 15) (.k (.sc (.int .i64 1))), none, 0⟩,
  ⟨(some 8), .mov (.t 16), none, 0⟩]
def c_slices_insertionSortCmpFunc_int_l1 : AC := .seq (.seq (.reg c_slices_insertionSortCmpFunc_int_r1 false) (.cond (.t 14) (.skip) (.exit 0))) (.seq (.blk 1 (.seq (.reg c_slices_insertionSortCmpFunc_int_r2 false) (.blk 2 (.loop c_slices_insertionSortCmpFunc_int_l0)))) (.reg c_slices_insertionSortCmpFunc_int_r6 false))
def c_slices_insertionSortCmpFunc_int : AFn := { code := .seq (.reg c_slices_insertionSortCmpFunc_int_r0 false) (.blk 0 (.loop c_slices_insertionSortCmpFunc_int_l1)), ntmps := 53, results := [] }
/-- 78 slices.heapSortCmpFunc[int] -/
def c_slices_heapSortCmpFunc_int_r0 : List AO := [⟨(some 13), .mov (.t 1), none, 0⟩,
  ⟨(some 8), .mov (.t 13), none, 0⟩]
def c_slices_heapSortCmpFunc_int_r1 : List AO := [⟨(some 9), .mov (.k (.sc (.int .i64 0))), none, 0⟩]
def c_slices_heapSortCmpFunc_int_r2 : List AO := [⟨(some 14), .mov (.t 2), none, 0⟩,
  ⟨(some 15), .mov (.t 1), none, 0⟩,
  ⟨(some 16), .bin .sub (.t 14) (.t 15), none, 0⟩,
  ⟨(some 10), .mov (.t 16), none, 0⟩]
def c_slices_heapSortCmpFunc_int_r3 : List AO := [⟨(some 17), .mov (.t 10), none, 0⟩,
  ⟨(some 18), .bin .sub (.t 17) (.k (.sc (.int .i64 1))), none, 0⟩,
  ⟨(some 19), .bin .quo (.t 18) (.k (.sc (.int .i64 2))), none, 0⟩,
  ⟨(some 11), .mov (.t 19), none, 0⟩]
def c_slices_heapSortCmpFunc_int_r4 : List AO := [⟨(some 20), .mov (.t 11), none, 0⟩,
  ⟨(some 21), .bin .geq (.t 20) (.k (.sc (.int .i64 0))), none, 0⟩]
def c_slices_heapSortCmpFunc_int_r5 : List AO := [⟨(some 24), .mov (.t 0), none, 0⟩,
  ⟨(some 25), .mov (.t 11), none, 0⟩,
  ⟨(some 26), .mov (.t 10), none, 0⟩,
  ⟨(some 27), .mov (.t 8), none, 0⟩,
  ⟨(some 28), .mov (.t 3), none, 0⟩,
  ⟨(some 29), .call (.k (.fn (.func f_slices_siftDownCmpFunc_int) [] [])) [(.t 24), (.t 25), (.t 26), (.t 27), (.t 28)], none, 0⟩]
def c_slices_heapSortCmpFunc_int_r6 : List AO := [⟨(some 22), .mov (.t 11), none, 0⟩,
  ⟨(some 23), .bin .sub (.t 22) (.k (.sc (.int .i64 1))), none, 0⟩,
  ⟨(some 11), .mov (.t 23), none, 0⟩]
def c_slices_heapSortCmpFunc_int_l0 : AC := .seq (.seq (.reg c_slices_heapSortCmpFunc_int_r4 false) (.cond (.t 21) (.skip) (.exit 0))) (.seq (.blk 1 (.reg c_slices_heapSortCmpFunc_int_r5 false)) (.reg c_slices_heapSortCmpFunc_int_r6 false))
def c_slices_heapSortCmpFunc_int_r7 : List AO := [⟨(some 30), .mov (.t 10), none, 0⟩,
  ⟨(some 31), .bin .sub (.t 30) (.k (.sc (.int .i64 1))), none, 0⟩,
  ⟨(some 12), .mov (.t 31), none, 0⟩]
def c_slices_heapSortCmpFunc_int_r8 : List AO := [⟨(some 32), .mov (.t 12), none, 0⟩,
  ⟨(some 33), .bin .geq (.t 32) (.k (.sc (.int .i64 0))), none, 0⟩]
def c_slices_heapSortCmpFunc_int_r9 : List AO := [⟨(some 36), .mov (.t 0), none, 0⟩,
  ⟨(some 37), .mov (.t 8), none, 0⟩,
  ⟨(some 38), .mov (.t 0), none, 0⟩,
  ⟨(some 39), .mov (.t 8), none, 0⟩,
  ⟨(some 40), .mov (.t 12), none, 0⟩,
  ⟨(some 41), .bin .add (.t 39) (.t 40), none, 24⟩,
  ⟨(some 42), .mov (.t 0), none, 0⟩,
  ⟨(some 43), .mov (.t 8), none, 0⟩,
  ⟨(some 44), .mov (.t 12), none, 0⟩,
  ⟨(some 45), .bin .add (.t 43) (.t 44), none, 384⟩,
  ⟨(some 46), .indexAddr none 1 (.t 42) (.t 45), none, 960⟩,
  ⟨(some 47), .load false 1 (.t 46), none, 1984⟩,
  ⟨(some 48), .mov (.t 0), none, 0⟩,
  ⟨(some 49), .mov (.t 8), none, 0⟩,
  ⟨(some 50), .indexAddr none 1 (.t 48) (.t 49), none, 12288⟩,
  ⟨(some 51), .load false 1 (.t 50), none, 28672⟩,
  ⟨(some 52), .indexAddr none 1 (.t 36) (.t 37), none, 65475⟩,
  ⟨none, .store 1 (.t 52) (.t 47), none, 131011⟩,
  ⟨(some 53), .indexAddr none 1 (.t 38) (.t 41), none, 262143⟩,
  ⟨none, .store 1 (.t 53) (.t 51), none, 524287⟩]
def c_slices_heapSortCmpFunc_int_r10 : List AO := [⟨(some 54), .mov (.t 0), none, 0⟩,
  ⟨(some 55), .mov (.t 9), none, 0⟩,
  ⟨(some 56), .mov (.t 12), none, 0⟩,
  ⟨(some 57), .mov (.t 8), none, 0⟩,
  ⟨(some 58), .mov (.t 3), none, 0⟩,
  ⟨(some 59), .call (.k (.fn (.func f_slices_siftDownCmpFunc_int) [] [])) [(.t 54), (.t 55), (.t 56), (.t 57), (.t 58)], none, 0⟩]
def c_slices_heapSortCmpFunc_int_r11 : List AO := [⟨(some 34), .mov (.t 12), none, 0⟩,
  ⟨(some 35), .bin .sub (.t 34) (.k (.sc (.int .i64 1))), none, 0⟩,
  ⟨(some 12), .mov (.t 35), none, 0⟩]
def c_slices_heapSortCmpFunc_int_l1 : AC := .seq (.seq (.reg c_slices_heapSortCmpFunc_int_r8 false) (.cond (.t 33) (.skip) (.exit 2))) (.seq (.blk 3 (.seq (.reg c_slices_heapSortCmpFunc_int_r9 true) (.reg c_slices_heapSortCmpFunc_int_r10 false))) (.reg c_slices_heapSortCmpFunc_int_r11 false))
def c_slices_heapSortCmpFunc_int : AFn := { code := .seq (.reg c_slices_heapSortCmpFunc_int_r0 false) (.seq (.reg c_slices_heapSortCmpFunc_int_r1 false) (.seq (.reg c_slices_heapSortCmpFunc_int_r2 false) (.seq (.seq (.reg c_slices_heapSortCmpFunc_int_r3 false) (.blk 0 (.loop c_slices_heapSortCmpFunc_int_l0))) (.seq (.reg c_slices_heapSortCmpFunc_int_r7 false) (.blk 2 (.loop c_slices_heapSortCmpFunc_int_l1)))))), ntmps := 60, results := [] }
/-- 79 slices.breakPatternsCmpFunc[int] -/
def c_slices_breakPatternsCmpFunc_int_r0 : List AO := [⟨(some 13), .mov (.t 2), none, 0⟩,
  ⟨(some 14), .mov (.t 1), none, 0⟩,
  ⟨(some 15), .bin .sub (.t 13) (.t 14), none, 0⟩,
  ⟨(some 8), .mov (.t 15), none, 0⟩]
def c_slices_breakPatternsCmpFunc_int_r1 : List AO := [⟨(some 16), .mov (.t 8), none, 0⟩,
  ⟨(some 17), .bin .geq (.t 16) (.k (.sc (.int .i64 8))), none, 0⟩]
def c_slices_breakPatternsCmpFunc_int_r2 : List AO := [⟨(some 18), .mov (.t 8), none, 0⟩,
  ⟨(some 19), .conv (.int .u64) (.t 18), none, 0⟩,
  ⟨(some 9), .alloc [(.sc (.int .u64 0))], none, 0⟩,
  ⟨none, .store 1 (.t 9) (.t 19), none, 0⟩]
def c_slices_breakPatternsCmpFunc_int_r3 : List AO := [⟨(some 20), .mov (.t 8), none, 0⟩,
  ⟨(some 21), .call (.k (.fn (.func f_slices_nextPowerOfTwo) [] [])) [(.t 20)], none, 0⟩,
  ⟨(some 10), .mov (.t 21), none, 0⟩]
def c_slices_breakPatternsCmpFunc_int_r4 : List AO := [⟨(some 22), .mov (.t 1), none, 0⟩,
  ⟨(some 23), .mov (.t 8), none, 0⟩,
  ⟨(some 24), .bin .quo (.t 23) (.k (.sc (.int .i64 4))), none, 0⟩,
  ⟨(some 25), .bin .mul (.t 24) (.k (.sc (.int .i64 2))), none, 0⟩,
  ⟨(some 26), .bin .add (.t 22) (.t 25), none, 0⟩,
  ⟨(some 27), .bin .sub (.t 26) (.k (.sc (.int .i64 1))), none, 0⟩,
  ⟨(some 11), .mov (.t 27), none, 0⟩]
def c_slices_breakPatternsCmpFunc_int_r5 : List AO := [⟨(some 28), .mov (.t 11), none, 0⟩,
  ⟨(some 29), .mov (.t 1), none, 0⟩,
  ⟨(some 30), .mov (.t 8), none, 0⟩,
  ⟨(some 31), .bin .quo (.t 30) (.k (.sc (.int .i64 4))), none, 0⟩,
  ⟨(some 32), .bin .mul (.t 31) (.k (.sc (.int .i64 2))), none, 0⟩,
  ⟨(some 33), .bin .add (.t 29) (.t 32), none, 0⟩,
  ⟨(some 34), .bin .add (.t 33) (.k (.sc (.int .i64 1))), none, 0⟩,
  ⟨(some 35), .bin .leq (.t 28) (.t 34), none, 0⟩]
def c_slices_breakPatternsCmpFunc_int_r6 : List AO := [⟨(some 38), .call (.k (.fn (.func f_slices_xorshift_Next) [] [])) [(.t 9)], none, 0⟩,
  ⟨(some 39), .mov (.t 10), none, 0⟩,
  ⟨(some 40), .bin .sub (.t 39) (.k (.sc (.int .u64 1))), none, 0⟩,
  ⟨(some 41), .bin .and (.t 38) (.t 40), none, 0⟩,
  ⟨(some 42), .conv (.int .i64) (.t 41), none, 0⟩,
  ⟨(some 12), .mov (.t 42), none, 0⟩]
def c_slices_breakPatternsCmpFunc_int_r7 : List AO := [⟨(some 43), .mov (.t 12), none, 0⟩,
  ⟨(some 44), .mov (.t 8), none, 0⟩,
  ⟨(some 45), .bin .geq (.t 43) (.t 44), none, 0⟩]
def c_slices_breakPatternsCmpFunc_int_r8 : List AO := [⟨(some 46), .mov (.t 12), none, 0⟩,
  ⟨(some 47), .mov (.t 8), none, 0⟩,
  ⟨(some 48), .bin .sub (.t 46) (.t 47), none, 0⟩,
  ⟨(some 12), .mov (.t 48), none, 0⟩]
def c_slices_breakPatternsCmpFunc_int_r9 : List AO := [⟨(some 49), .mov (.t 0), none, 0⟩,
  ⟨(some 50), .mov (.t 11), none, 0⟩,
  ⟨(some 51), .mov (.t 0), none, 0⟩,
  ⟨(some 52), .mov (.t 1), none, 0⟩,
  ⟨(some 53), .mov (.t 12), none, 0⟩,
  ⟨(some 54), .bin .add (.t 52) (.t 53), none, 24⟩,
  ⟨(some 55), .mov (.t 0), none, 0⟩,
  ⟨(some 56), .mov (.t 1), none, 0⟩,
  ⟨(some 57), .mov (.t 12), none, 0⟩,
  ⟨(some 58), .bin .add (.t 56) (.t 57), none, 384⟩,
  ⟨(some 59), .indexAddr none 1 (.t 55) (.t 58), none, 960⟩,
  ⟨(some 60), .load false 1 (.t 59), none, 1984⟩,
  ⟨(some 61), .mov (.t 0), none, 0⟩,
  ⟨(some 62), .mov (.t 11), none, 0⟩,
  ⟨(some 63), .indexAddr none 1 (.t 61) (.t 62), none, 12288⟩,
  ⟨(some 64), .load false 1 (.t 63), none, 28672⟩,
  ⟨(some 65), .indexAddr none 1 (.t 49) (.t 50), none, 65475⟩,
  ⟨none, .store 1 (.t 65) (.t 60), none, 131011⟩,
  ⟨(some 66), .indexAddr none 1 (.t 51) (.t 54), none, 262143⟩,
  ⟨none, .store 1 (.t 66) (.t 64), none, 524287⟩]
def c_slices_breakPatternsCmpFunc_int_r10 : List AO := [⟨(some 36), .mov (.t 11), none, 0⟩,
  ⟨(some 37), .bin .add (.t 36) (.k (.sc (.int .i64 1))), none, 0⟩,
  ⟨(some 11), .mov (.t 37), none, 0⟩]
def c_slices_breakPatternsCmpFunc_int_l0 : AC := .seq (.seq (.reg c_slices_breakPatternsCmpFunc_int_r5 false) (.cond (.t 35) (.skip) (.exit 0))) (.seq (.blk 1 (.seq (.reg c_slices_breakPatternsCmpFunc_int_r6 false) (.seq (.seq (.reg c_slices_breakPatternsCmpFunc_int_r7 false) (.cond (.t 45) (.reg c_slices_breakPatternsCmpFunc_int_r8 false) (.skip))) (.reg c_slices_breakPatternsCmpFunc_int_r9 true)))) (.reg c_slices_breakPatternsCmpFunc_int_r10 false))
def c_slices_breakPatternsCmpFunc_int : AFn := { code := .seq (.reg c_slices_breakPatternsCmpFunc_int_r0 false) (.seq (.reg c_slices_breakPatternsCmpFunc_int_r1 false) (.cond (.t 17) (.seq (.reg c_slices_breakPatternsCmpFunc_int_r2 false) (.seq (.reg c_slices_breakPatternsCmpFunc_int_r3 false) (.seq (.reg c_slices_breakPatternsCmpFunc_int_r4 false) (.blk 0 (.loop c_slices_breakPatternsCmpFunc_int_l0))))) (.skip))), ntmps := 67, results := [] }
/-- 80 slices.choosePivotCmpFunc[int] -/
def c_slices_choosePivotCmpFunc_int_r0 : List AO := [⟨(some 8), .mov (.k (.sc (.int .i64 0))), none, 0⟩,
  ⟨(some 9), .mov (.k (.sc (.int .i64 0))), none, 0⟩]
def c_slices_choosePivotCmpFunc_int_r1 : List AO := [⟨(some 15), .mov (.t 2), none, 0⟩,
  ⟨(some 16), .mov (.t 1), none, 0⟩,
  ⟨(some 17), .bin .sub (.t 15) (.t 16), none, 0⟩,
  ⟨(some 10), .mov (.t 17), none, 0⟩]
def c_slices_choosePivotCmpFunc_int_r2 : List AO := [⟨(some 11), .alloc [(.sc (.int .i64 0))], none, 0⟩]
def c_slices_choosePivotCmpFunc_int_r3 : List AO := [⟨(some 18), .mov (.t 1), none, 0⟩,
  ⟨(some 19), .mov (.t 10), none, 0⟩,
  ⟨(some 20), .bin .quo (.t 19) (.k (.sc (.int .i64 4))), none, 0⟩,
  ⟨(some 21), .bin .mul (.t 20) (.k (.sc (.int .i64 1))), none, 0⟩,
  ⟨(some 22), .bin .add (.t 18) (.t 21), none, 0⟩,
  ⟨(some 12), .mov (.t 22), none, 0⟩]
def c_slices_choosePivotCmpFunc_int_r4 : List AO := [⟨(some 23), .mov (.t 1), none, 0⟩,
  ⟨(some 24), .mov (.t 10), none, 0⟩,
  ⟨(some 25), .bin .quo (.t 24) (.k (.sc (.int .i64 4))), none, 0⟩,
  ⟨(some 26), .bin .mul (.t 25) (.k (.sc (.int .i64 2))), none, 0⟩,
  ⟨(some 27), .bin .add (.t 23) (.t 26), none, 0⟩,
  ⟨(some 13), .mov (.t 27), none, 0⟩]
def c_slices_choosePivotCmpFunc_int_r5 : List AO := [⟨(some 28), .mov (.t 1), none, 0⟩,
  ⟨(some 29), .mov (.t 10), none, 0⟩,
  ⟨(some 30), .bin .quo (.t 29) (.k (.sc (.int .i64 4))), none, 0⟩,
  ⟨(some 31), .bin .mul (.t 30) (.k (.sc (.int .i64 3))), none, 0⟩,
  ⟨(some 32), .bin .add (.t 28) (.t 31), none, 0⟩,
  ⟨(some 14), .mov (.t 32), none, 0⟩]
def c_slices_choosePivotCmpFunc_int_r6 : List AO := [⟨(some 33), .mov (.t 10), none, 0⟩,
  ⟨(some 34), .bin .geq (.t 33) (.k (.sc (.int .i64 8))), none, 0⟩]
def c_slices_choosePivotCmpFunc_int_r7 : List AO := [⟨(some 35), .mov (.t 10), none, 0⟩,
  ⟨(some 36), .bin .geq (.t 35) (.k (.sc (.int .i64 50))), none, 0⟩]
def c_slices_choosePivotCmpFunc_int_r8 : List AO := [⟨(some 37), .mov (.t 0), none, 0⟩,
  ⟨(some 38), .mov (.t 12), none, 0⟩,
  ⟨(some 39), .mov (.t 3), none, 0⟩,
  ⟨(some 40), .call (.k (.fn (.func f_slices_medianAdjacentCmpFunc_int) [] [])) [(.t 37), (.t 38), (.t 11), (.t 39)], none, 0⟩,
  ⟨(some 12), .mov (.t 40), none, 0⟩]
def c_slices_choosePivotCmpFunc_int_r9 : List AO := [⟨(some 41), .mov (.t 0), none, 0⟩,
  ⟨(some 42), .mov (.t 13), none, 0⟩,
  ⟨(some 43), .mov (.t 3), none, 0⟩,
  ⟨(some 44), .call (.k (.fn (.func f_slices_medianAdjacentCmpFunc_int) [] [])) [(.t 41), (.t 42), (.t 11), (.t 43)], none, 0⟩,
  ⟨(some 13), .mov (.t 44), none, 0⟩]
def c_slices_choosePivotCmpFunc_int_r10 : List AO := [⟨(some 45), .mov (.t 0), none, 0⟩,
  ⟨(some 46), .mov (.t 14), none, 0⟩,
  ⟨(some 47), .mov (.t 3), none, 0⟩,
  ⟨(some 48), .call (.k (.fn (.func f_slices_medianAdjacentCmpFunc_int) [] [])) [(.t 45), (.t 46), (.t 11), (.t 47)], none, 0⟩,
  ⟨(some 14), .mov (.t 48), none, 0⟩]
def c_slices_choosePivotCmpFunc_int_r11 : List AO := [⟨(some 49), .mov (.t 0), none, 0⟩,
  ⟨(some 50), .mov (.t 12), none, 0⟩,
  ⟨(some 51), .mov (.t 13), none, 0⟩,
  ⟨(some 52), .mov (.t 14), none, 0⟩,
  ⟨(some 53), .mov (.t 3), none, 0⟩,
  ⟨(some 54), .call (.k (.fn (.func f_slices_medianCmpFunc_int) [] [])) [(.t 49), (.t 50), (.t 51), (.t 52), (.t 11), (.t 53)], none, 0⟩,
  ⟨(some 13), .mov (.t 54), none, 0⟩]
def c_slices_choosePivotCmpFunc_int_r12 : List AO := [⟨(some 55), .load false 1 (.t 11), none, 0⟩]
def c_slices_choosePivotCmpFunc_int_r13 : List AO := [⟨(some 58), .bin .eql (.t 55) (.k (.sc (.int .i64 0))), none, 0⟩,
  ⟨(some 57), .mov (.t 58), none, 0⟩]
def c_slices_choosePivotCmpFunc_int_r14 : List AO := [⟨(some 59), .mov (.t 13), none, 0⟩,
  ⟨(some 8), .mov (.t 59), none, 0⟩,
  ⟨(some 9), .mov (.k (.sc (.int .i64 1))), none, 0⟩]
def c_slices_choosePivotCmpFunc_int_r15 : List AO := [⟨(some 61), .bin .eql (.t 55) (.k (.sc (.int .i64 12))), none, 0⟩,
  ⟨(some 60), .mov (.t 61), none, 0⟩]
def c_slices_choosePivotCmpFunc_int_r16 : List AO := [⟨(some 62), .mov (.t 13), none, 0⟩,
  ⟨(some 8), .mov (.t 62), none, 0⟩,
  ⟨(some 9), .mov (.k (.sc (.int .i64 2))), none, 0⟩]
def c_slices_choosePivotCmpFunc_int_r17 : List AO := [⟨(some 56), .mov (.t 13), none, 0⟩,
  ⟨(some 8), .mov (.t 56), none, 0⟩,
  ⟨(some 9), .mov (.k (.sc (.int .i64 0))), none, 0⟩]
def c_slices_choosePivotCmpFunc_int : AFn := { code := .seq (.reg c_slices_choosePivotCmpFunc_int_r0 false) (.seq (.reg c_slices_choosePivotCmpFunc_int_r1 false) (.seq (.reg c_slices_choosePivotCmpFunc_int_r2 false) (.seq (.reg c_slices_choosePivotCmpFunc_int_r3 false) (.seq (.reg c_slices_choosePivotCmpFunc_int_r4 false) (.seq (.reg c_slices_choosePivotCmpFunc_int_r5 false) (.seq (.seq (.reg c_slices_choosePivotCmpFunc_int_r6 false) (.cond (.t 34) (.seq (.seq (.reg c_slices_choosePivotCmpFunc_int_r7 false) (.cond (.t 36) (.seq (.reg c_slices_choosePivotCmpFunc_int_r8 false) (.seq (.reg c_slices_choosePivotCmpFunc_int_r9 false) (.reg c_slices_choosePivotCmpFunc_int_r10 false))) (.skip))) (.reg c_slices_choosePivotCmpFunc_int_r11 false)) (.skip))) (.seq (.reg c_slices_choosePivotCmpFunc_int_r12 false) (.blk 0 (.seq (.reg c_slices_choosePivotCmpFunc_int_r13 false) (.cond (.t 57) (.seq (.reg c_slices_choosePivotCmpFunc_int_r14 false) (.ret)) (.seq (.reg c_slices_choosePivotCmpFunc_int_r15 false) (.cond (.t 60) (.seq (.reg c_slices_choosePivotCmpFunc_int_r16 false) (.ret)) (.seq (.reg c_slices_choosePivotCmpFunc_int_r17 false) (.ret)))))))))))))), ntmps := 63, results := [.tmp 8, .tmp 9] }
/-- 81 slices.reverseRangeCmpFunc[int] -/
def c_slices_reverseRangeCmpFunc_int_r0 : List AO := [⟨(some 10), .mov (.t 1), none, 0⟩,
  ⟨(some 8), .mov (.t 10), none, 0⟩]
def c_slices_reverseRangeCmpFunc_int_r1 : List AO := [⟨(some 11), .mov (.t 2), none, 0⟩,
  ⟨(some 12), .bin .sub (.t 11) (.k (.sc (.int .i64 1))), none, 0⟩,
  ⟨(some 9), .mov (.t 12), none, 0⟩]
def c_slices_reverseRangeCmpFunc_int_r2 : List AO := [⟨(some 13), .mov (.t 8), none, 0⟩,
  ⟨(some 14), .mov (.t 9), none, 0⟩,
  ⟨(some 15), .bin .lss (.t 13) (.t 14), none, 0⟩]
def c_slices_reverseRangeCmpFunc_int_r3 : List AO := [⟨(some 16), .mov (.t 0), none, 0⟩,
  ⟨(some 17), .mov (.t 8), none, 0⟩,
  ⟨(some 18), .mov (.t 0), none, 0⟩,
  ⟨(some 19), .mov (.t 9), none, 0⟩,
  ⟨(some 20), .mov (.t 0), none, 0⟩,
  ⟨(some 21), .mov (.t 9), none, 0⟩,
  ⟨(some 22), .indexAddr none 1 (.t 20) (.t 21), none, 48⟩,
  ⟨(some 23), .load false 1 (.t 22), none, 112⟩,
  ⟨(some 24), .mov (.t 0), none, 0⟩,
  ⟨(some 25), .mov (.t 8), none, 0⟩,
  ⟨(some 26), .indexAddr none 1 (.t 24) (.t 25), none, 768⟩,
  ⟨(some 27), .load false 1 (.t 26), none, 1792⟩,
  ⟨(some 28), .indexAddr none 1 (.t 16) (.t 17), none, 4083⟩,
  ⟨none, .store 1 (.t 28) (.t 23), none, 8179⟩,
  ⟨(some 29), .indexAddr none 1 (.t 18) (.t 19), none, 16383⟩,
  ⟨none, .store 1 (.t 29) (.t 27), none, 32767⟩]
def c_slices_reverseRangeCmpFunc_int_r4 : List AO := [⟨(some 30), .mov (.t 8), none, 0⟩,
  ⟨(some 31), .bin .add (.t 30) (.k (.sc (.int .i64 1))), none, 0⟩,
  ⟨(some 8), .mov (.t 31), none, 0⟩]
def c_slices_reverseRangeCmpFunc_int_r5 : List AO := [⟨(some 32), .mov (.t 9), none, 0⟩,
  ⟨(some 33), .bin .sub (.t 32) (.k (.sc (.int .i64 1))), none, 0⟩,
  ⟨(some 9), .mov (.t 33), none, 0⟩]
def c_slices_reverseRangeCmpFunc_int_l0 : AC := .seq (.seq (.reg c_slices_reverseRangeCmpFunc_int_r2 false) (.cond (.t 15) (.skip) (.exit 0))) (.blk 1 (.seq (.reg c_slices_reverseRangeCmpFunc_int_r3 true) (.seq (.reg c_slices_reverseRangeCmpFunc_int_r4 false) (.reg c_slices_reverseRangeCmpFunc_int_r5 false))))
def c_slices_reverseRangeCmpFunc_int : AFn := { code := .seq (.reg c_slices_reverseRangeCmpFunc_int_r0 false) (.seq (.reg c_slices_reverseRangeCmpFunc_int_r1 false) (.blk 0 (.loop c_slices_reverseRangeCmpFunc_int_l0))), ntmps := 34, results := [] }
/-- 82 slices.partialInsertionSortCmpFunc[int] -/
def c_slices_partialInsertionSortCmpFunc_int_r0 : List AO := [⟨(some 8), .mov (.k (.sc (.bool false))), none, 0⟩]
def c_slices_partialInsertionSortCmpFunc_int_r1 : List AO := [⟨(some 13), .mov (.t 1), none, 0⟩,
  ⟨(some 14), .bin .add (.t 13) (.k (.sc (.int .i64 1))), none, 0⟩,
  ⟨(some 9), .mov (.t 14), none, 0⟩]
def c_slices_partialInsertionSortCmpFunc_int_r2 : List AO := [⟨(some 10), .mov (.k (.sc (.int .i64 0))), none, 0⟩]
def c_slices_partialInsertionSortCmpFunc_int_r3 : List AO := [⟨(some 15), .mov (.t 10), none, 0⟩,
  ⟨(some 16), .bin .lss (.t 15) (.k (.sc (.int .i64 5))), none, 0⟩]
def c_slices_partialInsertionSortCmpFunc_int_r4 : List AO := [⟨(some 19), .mov (.t 9), none, 0⟩,
  ⟨(some 20), .mov (.t 2), none, 0⟩,
  ⟨(some 21), .bin .lss (.t 19) (.t 20), none, 3⟩,
  ⟨(some 22), .mov (.t 21), none, 7⟩,
  ⟨(some 23), .mov (.t 3), (some ((some 22), true)), 15⟩,
  ⟨(some 24), .mov (.t 0), (some ((some 22), true)), 15⟩,
  ⟨(some 25), .mov (.t 9), (some ((some 22), true)), 15⟩,
  ⟨(some 26), .indexAddr none 1 (.t 24) (.t 25), (some ((some 22), true)), 111⟩,
  ⟨(some 27), .load false 1 (.t 26), (some ((some 22), true)), 239⟩,
  ⟨(some 28), .mov (.t 0), (some ((some 22), true)), 15⟩,
  ⟨(some 29), .mov (.t 9), (some ((some 22), true)), 15⟩,
  ⟨(some 30), .bin .sub (.t 29) (.k (.sc (.int .i64 1))), (some ((some 22), true)), 1039⟩,
  ⟨(some 31), .indexAddr none 1 (.t 28) (.t 30), (some ((some 22), true)), 3599⟩,
  ⟨(some 32), .load false 1 (.t 31), (some ((some 22), true)), 7695⟩,
  ⟨(some 33), .call (.t 23) [(.t 27), (.t 32)], (some ((some 22), true)), 16383⟩,
  ⟨(some 34), .bin .lss (.t 33) (.k (.sc (.int .i64 0))), (some ((some 22), true)), 32767⟩,
  ⟨(some 35), .un .not (.t 34), (some ((some 22), true)), 65535⟩,
  ⟨(some 36), .pick (.t 22) (.t 35) (.k (.sc (.bool false))), none, 131071⟩]
def c_slices_partialInsertionSortCmpFunc_int_r5 : List AO := [⟨(some 37), .mov (.t 9), none, 0⟩,
  ⟨(some 38), .bin .add (.t 37) (.k (.sc (.int .i64 1))), none, 0⟩,
  ⟨(some 9), .mov (.t 38), none, 0⟩]
def c_slices_partialInsertionSortCmpFunc_int_l0 : AC := .seq (.seq (.reg c_slices_partialInsertionSortCmpFunc_int_r4 true) (.cond (.t 36) (.skip) (.exit 2))) (.blk 3 (.reg c_slices_partialInsertionSortCmpFunc_int_r5 false))
def c_slices_partialInsertionSortCmpFunc_int_r6 : List AO := [⟨(some 39), .mov (.t 9), none, 0⟩,
  ⟨(some 40), .mov (.t 2), none, 0⟩,
  ⟨(some 41), .bin .eql (.t 39) (.t 40), none, 0⟩]
def c_slices_partialInsertionSortCmpFunc_int_r7 : List AO := [⟨(some 8), .mov (.k (.sc (.bool true))), none, 0⟩]
def c_slices_partialInsertionSortCmpFunc_int_r8 : List AO := [⟨(some 42), .mov (.t 2), none, 0⟩,
  ⟨(some 43), .mov (.t 1), none, 0⟩,
  ⟨(some 44), .bin .sub (.t 42) (.t 43), none, 0⟩,
  ⟨(some 45), .bin .lss (.t 44) (.k (.sc (.int .i64 50))), none, 0⟩]
def c_slices_partialInsertionSortCmpFunc_int_r9 : List AO := [⟨(some 8), .mov (.k (.sc (.bool false))), none, 0⟩]
def c_slices_partialInsertionSortCmpFunc_int_r10 : List AO := [⟨(some 46), .mov (.t 0), none, 0⟩,
  ⟨(some 47), .mov (.t 9), none, 0⟩,
  ⟨(some 48), .mov (.t 0), none, 0⟩,
  ⟨(some 49), .mov (.t 9), none, 0⟩,
  ⟨(some 50), .bin .sub (.t 49) (.k (.sc (.int .i64 1))), none, 8⟩,
  ⟨(some 51), .mov (.t 0), none, 0⟩,
  ⟨(some 52), .mov (.t 9), none, 0⟩,
  ⟨(some 53), .bin .sub (.t 52) (.k (.sc (.int .i64 1))), none, 64⟩,
  ⟨(some 54), .indexAddr none 1 (.t 51) (.t 53), none, 224⟩,
  ⟨(some 55), .load false 1 (.t 54), none, 480⟩,
  ⟨(some 56), .mov (.t 0), none, 0⟩,
  ⟨(some 57), .mov (.t 9), none, 0⟩,
  ⟨(some 58), .indexAddr none 1 (.t 56) (.t 57), none, 3072⟩,
  ⟨(some 59), .load false 1 (.t 58), none, 7168⟩,
  ⟨(some 60), .indexAddr none 1 (.t 46) (.t 47), none, 16355⟩,
  ⟨none, .store 1 (.t 60) (.t 55), none, 32739⟩,
  ⟨(some 61), .indexAddr none 1 (.t 48) (.t 50), none, 65535⟩,
  ⟨none, .store 1 (.t 61) (.t 59), none, 131071⟩]
def c_slices_partialInsertionSortCmpFunc_int_r11 : List AO := [⟨(some 62), .mov (.t 9), none, 0⟩,
  ⟨(some 63), .mov (.t 1), none, 0⟩,
  ⟨(some 64), .bin .sub (.t 62) (.t 63), none, 0⟩,
  ⟨(some 65), .bin .geq (.t 64) (.k (.sc (.int .i64 2))), none, 0⟩]
def c_slices_partialInsertionSortCmpFunc_int_r12 : List AO := [⟨(some 66), .mov (.t 9), none, 0⟩,
  ⟨(some 67), .bin .sub (.t 66) (.k (.sc (.int .i64 1))), none, 0⟩,
  ⟨(some 11), .mov (.t 67), none, 0⟩]
def c_slices_partialInsertionSortCmpFunc_int_r13 : List AO := [⟨(some 68), .mov (.t 11), none, 0⟩,
  ⟨(some 69), .bin .geq (.t 68) (.k (.sc (.int .i64 1))), none, 0⟩]
def c_slices_partialInsertionSortCmpFunc_int_r14 : List AO := [⟨(some 72), .mov (.t 3), none, 0⟩,
  ⟨(some 73), .mov (.t 0), none, 0⟩,
  ⟨(some 74), .mov (.t 11), none, 0⟩,
  ⟨(some 75), .indexAddr none 1 (.t 73) (.t 74), none, 6⟩,
  ⟨(some 76), .load false 1 (.t 75), none, 14⟩,
  ⟨(some 77), .mov (.t 0), none, 0⟩,
  ⟨(some 78), .mov (.t 11), none, 0⟩,
  ⟨(some 79), .bin .sub (.t 78) (.k (.sc (.int .i64 1))), none, 64⟩,
  ⟨(some 80), .indexAddr none 1 (.t 77) (.t 79), none, 224⟩,
  ⟨(some 81), .load false 1 (.t 80), none, 480⟩,
  ⟨(some 82), .call (.t 72) [(.t 76), (.t 81)], none, 1023⟩,
  ⟨(some 83), .bin .lss (.t 82) (.k (.sc (.int .i64 0))), none, 2047⟩,
  ⟨(some 84), .un .not (.t 83), none, 4095⟩]
def c_slices_partialInsertionSortCmpFunc_int_r15 : List AO := [⟨(some 85), .mov (.t 0), none, 0⟩,
  ⟨(some 86), .mov (.t 11), none, 0⟩,
  ⟨(some 87), .mov (.t 0), none, 0⟩,
  ⟨(some 88), .mov (.t 11), none, 0⟩,
  ⟨(some 89), .bin .sub (.t 88) (.k (.sc (.int .i64 1))), none, 8⟩,
  ⟨(some 90), .mov (.t 0), none, 0⟩,
  ⟨(some 91), .mov (.t 11), none, 0⟩,
  ⟨(some 92), .bin .sub (.t 91) (.k (.sc (.int .i64 1))), none, 64⟩,
  ⟨(some 93), .indexAddr none 1 (.t 90) (.t 92), none, 224⟩,
  ⟨(some 94), .load false 1 (.t 93), none, 480⟩,
  ⟨(some 95), .mov (.t 0), none, 0⟩,
  ⟨(some 96), .mov (.t 11), none, 0⟩,
  ⟨(some 97), .indexAddr none 1 (.t 95) (.t 96), none, 3072⟩,
  ⟨(some 98), .load false 1 (.t 97), none, 7168⟩,
  ⟨(some 99), .indexAddr none 1 (.t 85) (.t 86), none, 16355⟩,
  ⟨none, .store 1 (.t 99) (.t 94), none, 32739⟩,
  ⟨(some 100), .indexAddr none 1 (.t 87) (.t 89), none, 65535⟩,
  ⟨none, .store 1 (.t 100) (.t 98), none, 131071⟩]
def c_slices_partialInsertionSortCmpFunc_int_r16 : List AO := [⟨(some 70), .mov (.t 11), none, 0⟩,
  ⟨(some 71), .bin .sub (.t 70) (.k (.sc (.int .i64 1))), none, 0⟩,
  ⟨(some 11), .mov (.t 71), none, 0⟩]
def c_slices_partialInsertionSortCmpFunc_int_l1 : AC := .seq (.seq (.reg c_slices_partialInsertionSortCmpFunc_int_r13 false) (.cond (.t 69) (.skip) (.exit 4))) (.seq (.blk 5 (.seq (.seq (.reg c_slices_partialInsertionSortCmpFunc_int_r14 true) (.cond (.t 84) (.exit 4) (.skip))) (.reg c_slices_partialInsertionSortCmpFunc_int_r15 true))) (.reg c_slices_partialInsertionSortCmpFunc_int_r16 false))
def c_slices_partialInsertionSortCmpFunc_int_r17 : List AO := [⟨(some 101), .mov (.t 2), none, 0⟩,
  ⟨(some 102), .mov (.t 9), none, 0⟩,
  ⟨(some 103), .bin .sub (.t 101) (.t 102), none, 0⟩,
  ⟨(some 104), .bin .geq (.t 103) (.k (.sc (.int .i64 2))), none, 0⟩]
def c_slices_partialInsertionSortCmpFunc_int_r18 : List AO := [⟨(some 105), .mov (.t 9), none, 0⟩,
  ⟨(some 106), .bin .add (.t 105) (.k (.sc (.int .i64 1))), none, 0⟩,
  ⟨(some 12), .mov (.t 106), none, 0⟩]
def c_slices_partialInsertionSortCmpFunc_int_r19 : List AO := [⟨(some 107), .mov (.t 12), none, 0⟩,
  ⟨(some 108), .mov (.t 2), none, 0⟩,
  ⟨(some 109), .bin .lss (.t 107) (.t 108), none, 0⟩]
def c_slices_partialInsertionSortCmpFunc_int_r20 : List AO := [⟨(some 112), .mov (.t 3), none, 0⟩,
  ⟨(some 113), .mov (.t 0), none, 0⟩,
  ⟨(some 114), .mov (.t 12), none, 0⟩,
  ⟨(some 115), .indexAddr none 1 (.t 113) (.t 114), none, 6⟩,
  ⟨(some 116), .load false 1 (.t 115), none, 14⟩,
  ⟨(some 117), .mov (.t 0), none, 0⟩,
  ⟨(some 118), .mov (.t 12), none, 0⟩,
  ⟨(some 119), .bin .sub (.t 118) (.k (.sc (.int .i64 1))), none, 64⟩,
  ⟨(some 120), .indexAddr none 1 (.t 117) (.t 119), none, 224⟩,
  ⟨(some 121), .load false 1 (.t 120), none, 480⟩,
  ⟨(some 122), .call (.t 112) [(.t 116), (.t 121)], none, 1023⟩,
  ⟨(some 123), .bin .lss (.t 122) (.k (.sc (.int .i64 0))), none, 2047⟩,
  ⟨(some 124), .un .not (.t 123), none, 4095⟩]
def c_slices_partialInsertionSortCmpFunc_int_r21 : List AO := [⟨(some 125), .mov (.t 0), none, 0⟩,
  ⟨(some 126), .mov (.t 12), none, 0⟩,
  ⟨(some 127), .mov (.t 0), none, 0⟩,
  ⟨(some 128), .mov (.t 12), none, 0⟩,
  ⟨(some 129), .bin .sub (.t 128) (.k (.sc (.int .i64 1))), none, 8⟩,
  ⟨(some 130), .mov (.t 0), none, 0⟩,
  ⟨(some 131), .mov (.t 12), none, 0⟩,
  ⟨(some 132), .bin .sub (.t 131) (.k (.sc (.int .i64 1))), none, 64⟩,
  ⟨(some 133), .indexAddr none 1 (.t 130) (.t 132), none, 224⟩,
  ⟨(some 134), .load false 1 (.t 133), none, 480⟩,
  ⟨(some 135), .mov (.t 0), none, 0⟩,
  ⟨(some 136), .mov (.t 12), none, 0⟩,
  ⟨(some 137), .indexAddr none 1 (.t 135) (.t 136), none, 3072⟩,
  ⟨(some 138), .load false 1 (.t 137), none, 7168⟩,
  ⟨(some 139), .indexAddr none 1 (.t 125) (.t 126), none, 16355⟩,
  ⟨none, .store 1 (.t 139) (.t 134), none, 32739⟩,
  ⟨(some 140), .indexAddr none 1 (.t 127) (.t 129), none, 65535⟩,
  ⟨none, .store 1 (.t 140) (.t 138), none, 131071⟩]
def c_slices_partialInsertionSortCmpFunc_int_r22 : List AO := [⟨(some 110), .mov (.t 12), none, 0⟩,
  ⟨(some 111), .bin .add (.t 110) (.k (.sc (.int .i64 1))), none, 0⟩,
  ⟨(some 12), .mov (.t 111), none, 0⟩]
def c_slices_partialInsertionSortCmpFunc_int_l2 : AC := .seq (.seq (.reg c_slices_partialInsertionSortCmpFunc_int_r19 false) (.cond (.t 109) (.skip) (.exit 6))) (.seq (.blk 7 (.seq (.seq (.reg c_slices_partialInsertionSortCmpFunc_int_r20 true) (.cond (.t 124) (.exit 6) (.skip))) (.reg c_slices_partialInsertionSortCmpFunc_int_r21 true))) (.reg c_slices_partialInsertionSortCmpFunc_int_r22 false))
def c_slices_partialInsertionSortCmpFunc_int_r23 : List AO := [⟨(some 17), .mov (.t 10), none, 0⟩,
  ⟨(some 18), .bin .add (.t 17) (.k (.sc (.int .i64 1))), none, 0⟩,
  ⟨(some 10), .mov (.t 18), none, 0⟩]
def c_slices_partialInsertionSortCmpFunc_int_l3 : AC := .seq (.seq (.reg c_slices_partialInsertionSortCmpFunc_int_r3 false) (.cond (.t 16) (.skip) (.exit 0))) (.seq (.blk 1 (.seq (.blk 2 (.loop c_slices_partialInsertionSortCmpFunc_int_l0)) (.seq (.seq (.reg c_slices_partialInsertionSortCmpFunc_int_r6 false) (.cond (.t 41) (.seq (.reg c_slices_partialInsertionSortCmpFunc_int_r7 false) (.ret)) (.skip))) (.seq (.seq (.reg c_slices_partialInsertionSortCmpFunc_int_r8 false) (.cond (.t 45) (.seq (.reg c_slices_partialInsertionSortCmpFunc_int_r9 false) (.ret)) (.skip))) (.seq (.reg c_slices_partialInsertionSortCmpFunc_int_r10 true) (.seq (.seq (.reg c_slices_partialInsertionSortCmpFunc_int_r11 false) (.cond (.t 65) (.seq (.reg c_slices_partialInsertionSortCmpFunc_int_r12 false) (.blk 4 (.loop c_slices_partialInsertionSortCmpFunc_int_l1))) (.skip))) (.seq (.reg c_slices_partialInsertionSortCmpFunc_int_r17 false) (.cond (.t 104) (.seq (.reg c_slices_partialInsertionSortCmpFunc_int_r18 false) (.blk 6 (.loop c_slices_partialInsertionSortCmpFunc_int_l2))) (.skip))))))))) (.reg c_slices_partialInsertionSortCmpFunc_int_r23 false))
def c_slices_partialInsertionSortCmpFunc_int_r24 : List AO := [⟨(some 8), .mov (.k (.sc (.bool false))), none, 0⟩]
def c_slices_partialInsertionSortCmpFunc_int : AFn := { code := .seq (.reg c_slices_partialInsertionSortCmpFunc_int_r0 false) (.seq (.reg c_slices_partialInsertionSortCmpFunc_int_r1 false) (.seq (.seq (.reg c_slices_partialInsertionSortCmpFunc_int_r2 false) (.blk 0 (.loop c_slices_partialInsertionSortCmpFunc_int_l3))) (.seq (.reg c_slices_partialInsertionSortCmpFunc_int_r24 false) (.ret)))), ntmps := 141, results := [.tmp 8] }
/-- 83 slices.partitionEqualCmpFunc[int] -/
def c_slices_partitionEqualCmpFunc_int_r0 : List AO := [⟨(some 10), .mov (.k (.sc (.int .i64 0))), none, 0⟩]
def c_slices_partitionEqualCmpFunc_int_r1 : List AO := [⟨(some 13), .mov (.t 0), none, 0⟩,
  ⟨(some 14), .mov (.t 1), none, 0⟩,
  ⟨(some 15), .mov (.t 0), none, 0⟩,
  ⟨(some 16), .mov (.t 3), none, 0⟩,
  ⟨(some 17), .mov (.t 0), none, 0⟩,
  ⟨(some 18), .mov (.t 3), none, 0⟩,
  ⟨(some 19), .indexAddr none 1 (.t 17) (.t 18), none, 48⟩,
  ⟨(some 20), .load false 1 (.t 19), none, 112⟩,
  ⟨(some 21), .mov (.t 0), none, 0⟩,
  ⟨(some 22), .mov (.t 1), none, 0⟩,
  ⟨(some 23), .indexAddr none 1 (.t 21) (.t 22), none, 768⟩,
  ⟨(some 24), .load false 1 (.t 23), none, 1792⟩,
  ⟨(some 25), .indexAddr none 1 (.t 13) (.t 14), none, 4083⟩,
  ⟨none, .store 1 (.t 25) (.t 20), none, 8179⟩,
  ⟨(some 26), .indexAddr none 1 (.t 15) (.t 16), none, 16383⟩,
  ⟨none, .store 1 (.t 26) (.t 24), none, 32767⟩]
def c_slices_partitionEqualCmpFunc_int_r2 : List AO := [⟨(some 27), .mov (.t 1), none, 0⟩,
  ⟨(some 28), .bin .add (.t 27) (.k (.sc (.int .i64 1))), none, 0⟩,
  ⟨(some 29), .mov (.t 2), none, 0⟩,
  ⟨(some 30), .bin .sub (.t 29) (.k (.sc (.int .i64 1))), none, 0⟩,
  ⟨(some 11), .mov (.t 28), none, 0⟩,
  ⟨(some 12), .mov (.t 30), none, 0⟩]
def c_slices_partitionEqualCmpFunc_int_r3 : List AO := [⟨(some 31), .mov (.t 11), none, 0⟩,
  ⟨(some 32), .mov (.t 12), none, 0⟩,
  ⟨(some 33), .bin .leq (.t 31) (.t 32), none, 3⟩,
  ⟨(some 34), .mov (.t 33), none, 7⟩,
  ⟨(some 35), .mov (.t 4), (some ((some 34), true)), 15⟩,
  ⟨(some 36), .mov (.t 0), (some ((some 34), true)), 15⟩,
  ⟨(some 37), .mov (.t 1), (some ((some 34), true)), 15⟩,
  ⟨(some 38), .indexAddr none 1 (.t 36) (.t 37), (some ((some 34), true)), 111⟩,
  ⟨(some 39), .load false 1 (.t 38), (some ((some 34), true)), 239⟩,
  ⟨(some 40), .mov (.t 0), (some ((some 34), true)), 15⟩,
  ⟨(some 41), .mov (.t 11), (some ((some 34), true)), 15⟩,
  ⟨(some 42), .indexAddr none 1 (.t 40) (.t 41), (some ((some 34), true)), 1551⟩,
  ⟨(some 43), .load false 1 (.t 42), (some ((some 34), true)), 3599⟩,
  ⟨(some 44), .call (.t 35) [(.t 39), (.t 43)], (some ((some 34), true)), 8191⟩,
  ⟨(some 45), .bin .lss (.t 44) (.k (.sc (.int .i64 0))), (some ((some 34), true)), 16383⟩,
  ⟨(some 46), .un .not (.t 45), (some ((some 34), true)), 32767⟩,
  ⟨(some 47), .pick (.t 34) (.t 46) (.k (.sc (.bool false))), none, 65535⟩]
def c_slices_partitionEqualCmpFunc_int_r4 : List AO := [⟨(some 48), .mov (.t 11), none, 0⟩,
  ⟨(some 49), .bin .add (.t 48) (.k (.sc (.int .i64 1))), none, 0⟩,
  ⟨(some 11), .mov (.t 49), none, 0⟩]
def c_slices_partitionEqualCmpFunc_int_l0 : AC := .seq (.seq (.reg c_slices_partitionEqualCmpFunc_int_r3 true) (.cond (.t 47) (.skip) (.exit 2))) (.blk 3 (.reg c_slices_partitionEqualCmpFunc_int_r4 false))
def c_slices_partitionEqualCmpFunc_int_r5 : List AO := [⟨(some 50), .mov (.t 11), none, 0⟩,
  ⟨(some 51), .mov (.t 12), none, 0⟩,
  ⟨(some 52), .bin .leq (.t 50) (.t 51), none, 3⟩,
  ⟨(some 53), .mov (.t 52), none, 7⟩,
  ⟨(some 54), .mov (.t 4), (some ((some 53), true)), 15⟩,
  ⟨(some 55), .mov (.t 0), (some ((some 53), true)), 15⟩,
  ⟨(some 56), .mov (.t 1), (some ((some 53), true)), 15⟩,
  ⟨(some 57), .indexAddr none 1 (.t 55) (.t 56), (some ((some 53), true)), 111⟩,
  ⟨(some 58), .load false 1 (.t 57), (some ((some 53), true)), 239⟩,
  ⟨(some 59), .mov (.t 0), (some ((some 53), true)), 15⟩,
  ⟨(some 60), .mov (.t 12), (some ((some 53), true)), 15⟩,
  ⟨(some 61), .indexAddr none 1 (.t 59) (.t 60), (some ((some 53), true)), 1551⟩,
  ⟨(some 62), .load false 1 (.t 61), (some ((some 53), true)), 3599⟩,
  ⟨(some 63), .call (.t 54) [(.t 58), (.t 62)], (some ((some 53), true)), 8191⟩,
  ⟨(some 64), .bin .lss (.t 63) (.k (.sc (.int .i64 0))), (some ((some 53), true)), 16383⟩,
  ⟨(some 65), .pick (.t 53) (.t 64) (.k (.sc (.bool false))), none, 32767⟩]
def c_slices_partitionEqualCmpFunc_int_r6 : List AO := [⟨(some 66), .mov (.t 12), none, 0⟩,
  ⟨(some 67), .bin .sub (.t 66) (.k (.sc (.int .i64 1))), none, 0⟩,
  ⟨(some 12), .mov (.t 67), none, 0⟩]
def c_slices_partitionEqualCmpFunc_int_l1 : AC := .seq (.seq (.reg c_slices_partitionEqualCmpFunc_int_r5 true) (.cond (.t 65) (.skip) (.exit 4))) (.blk 5 (.reg c_slices_partitionEqualCmpFunc_int_r6 false))
def c_slices_partitionEqualCmpFunc_int_r7 : List AO := [⟨(some 68), .mov (.t 11), none, 0⟩,
  ⟨(some 69), .mov (.t 12), none, 0⟩,
  ⟨(some 70), .bin .gtr (.t 68) (.t 69), none, 0⟩]
def c_slices_partitionEqualCmpFunc_int_r8 : List AO := [⟨(some 71), .mov (.t 0), none, 0⟩,
  ⟨(some 72), .mov (.t 11), none, 0⟩,
  ⟨(some 73), .mov (.t 0), none, 0⟩,
  ⟨(some 74), .mov (.t 12), none, 0⟩,
  ⟨(some 75), .mov (.t 0), none, 0⟩,
  ⟨(some 76), .mov (.t 12), none, 0⟩,
  ⟨(some 77), .indexAddr none 1 (.t 75) (.t 76), none, 48⟩,
  ⟨(some 78), .load false 1 (.t 77), none, 112⟩,
  ⟨(some 79), .mov (.t 0), none, 0⟩,
  ⟨(some 80), .mov (.t 11), none, 0⟩,
  ⟨(some 81), .indexAddr none 1 (.t 79) (.t 80), none, 768⟩,
  ⟨(some 82), .load false 1 (.t 81), none, 1792⟩,
  ⟨(some 83), .indexAddr none 1 (.t 71) (.t 72), none, 4083⟩,
  ⟨none, .store 1 (.t 83) (.t 78), none, 8179⟩,
  ⟨(some 84), .indexAddr none 1 (.t 73) (.t 74), none, 16383⟩,
  ⟨none, .store 1 (.t 84) (.t 82), none, 32767⟩]
def c_slices_partitionEqualCmpFunc_int_r9 : List AO := [⟨(some 85), .mov (.t 11), none, 0⟩,
  ⟨(some 86), .bin .add (.t 85) (.k (.sc (.int .i64 1))), none, 0⟩,
  ⟨(some 11), .mov (.t 86), none, 0⟩]
def c_slices_partitionEqualCmpFunc_int_r10 : List AO := [⟨(some 87), .mov (.t 12), none, 0⟩,
  ⟨(some 88), .bin .sub (.t 87) (.k (.sc (.int .i64 1))), none, 0⟩,
  ⟨(some 12), .mov (.t 88), none, 0⟩]
def c_slices_partitionEqualCmpFunc_int_l2 : AC := .blk 1 (.seq (.blk 2 (.loop c_slices_partitionEqualCmpFunc_int_l0)) (.seq (.blk 4 (.loop c_slices_partitionEqualCmpFunc_int_l1)) (.seq (.seq (.reg c_slices_partitionEqualCmpFunc_int_r7 false) (.cond (.t 70) (.exit 0) (.skip))) (.seq (.reg c_slices_partitionEqualCmpFunc_int_r8 true) (.seq (.reg c_slices_partitionEqualCmpFunc_int_r9 false) (.reg c_slices_partitionEqualCmpFunc_int_r10 false))))))
def c_slices_partitionEqualCmpFunc_int_r11 : List AO := [⟨(some 89), .mov (.t 11), none, 0⟩,
  ⟨(some 10), .mov (.t 89), none, 0⟩]
def c_slices_partitionEqualCmpFunc_int : AFn := { code := .seq (.reg c_slices_partitionEqualCmpFunc_int_r0 false) (.seq (.reg c_slices_partitionEqualCmpFunc_int_r1 true) (.seq (.reg c_slices_partitionEqualCmpFunc_int_r2 false) (.seq (.blk 0 (.loop c_slices_partitionEqualCmpFunc_int_l2)) (.seq (.reg c_slices_partitionEqualCmpFunc_int_r11 false) (.ret))))), ntmps := 90, results := [.tmp 10] }
/-- 84 slices.partitionCmpFunc[int] -/
def c_slices_partitionCmpFunc_int_r0 : List AO := [⟨(some 10), .mov (.k (.sc (.int .i64 0))), none, 0⟩,
  ⟨(some 11), .mov (.k (.sc (.bool false))), none, 0⟩]
def c_slices_partitionCmpFunc_int_r1 : List AO := [⟨(some 14), .mov (.t 0), none, 0⟩,
  ⟨(some 15), .mov (.t 1), none, 0⟩,
  ⟨(some 16), .mov (.t 0), none, 0⟩,
  ⟨(some 17), .mov (.t 3), none, 0⟩,
  ⟨(some 18), .mov (.t 0), none, 0⟩,
  ⟨(some 19), .mov (.t 3), none, 0⟩,
  ⟨(some 20), .indexAddr none 1 (.t 18) (.t 19), none, 48⟩,
  ⟨(some 21), .load false 1 (.t 20), none, 112⟩,
  ⟨(some 22), .mov (.t 0), none, 0⟩,
  ⟨(some 23), .mov (.t 1), none, 0⟩,
  ⟨(some 24), .indexAddr none 1 (.t 22) (.t 23), none, 768⟩,
  ⟨(some 25), .load false 1 (.t 24), none, 1792⟩,
  ⟨(some 26), .indexAddr none 1 (.t 14) (.t 15), none, 4083⟩,
  ⟨none, .store 1 (.t 26) (.t 21), none, 8179⟩,
  ⟨(some 27), .indexAddr none 1 (.t 16) (.t 17), none, 16383⟩,
  ⟨none, .store 1 (.t 27) (.t 25), none, 32767⟩]
def c_slices_partitionCmpFunc_int_r2 : List AO := [⟨(some 28), .mov (.t 1), none, 0⟩,
  ⟨(some 29), .bin .add (.t 28) (.k (.sc (.int .i64 1))), none, 0⟩,
  ⟨(some 30), .mov (.t 2), none, 0⟩,
  ⟨(some 31), .bin .sub (.t 30) (.k (.sc (.int .i64 1))), none, 0⟩,
  ⟨(some 12), .mov (.t 29), none, 0⟩,
  ⟨(some 13), .mov (.t 31), none, 0⟩]
def c_slices_partitionCmpFunc_int_r3 : List AO := [⟨(some 32), .mov (.t 12), none, 0⟩,
  ⟨(some 33), .mov (.t 13), none, 0⟩,
  ⟨(some 34), .bin .leq (.t 32) (.t 33), none, 3⟩,
  ⟨(some 35), .mov (.t 34), none, 7⟩,
  ⟨(some 36), .mov (.t 4), (some ((some 35), true)), 15⟩,
  ⟨(some 37), .mov (.t 0), (some ((some 35), true)), 15⟩,
  ⟨(some 38), .mov (.t 12), (some ((some 35), true)), 15⟩,
  ⟨(some 39), .indexAddr none 1 (.t 37) (.t 38), (some ((some 35), true)), 111⟩,
  ⟨(some 40), .load false 1 (.t 39), (some ((some 35), true)), 239⟩,
  ⟨(some 41), .mov (.t 0), (some ((some 35), true)), 15⟩,
  ⟨(some 42), .mov (.t 1), (some ((some 35), true)), 15⟩,
  ⟨(some 43), .indexAddr none 1 (.t 41) (.t 42), (some ((some 35), true)), 1551⟩,
  ⟨(some 44), .load false 1 (.t 43), (some ((some 35), true)), 3599⟩,
  ⟨(some 45), .call (.t 36) [(.t 40), (.t 44)], (some ((some 35), true)), 8191⟩,
  ⟨(some 46), .bin .lss (.t 45) (.k (.sc (.int .i64 0))), (some ((some 35), true)), 16383⟩,
  ⟨(some 47), .pick (.t 35) (.t 46) (.k (.sc (.bool false))), none, 32767⟩]
def c_slices_partitionCmpFunc_int_r4 : List AO := [⟨(some 48), .mov (.t 12), none, 0⟩,
  ⟨(some 49), .bin .add (.t 48) (.k (.sc (.int .i64 1))), none, 0⟩,
  ⟨(some 12), .mov (.t 49), none, 0⟩]
def c_slices_partitionCmpFunc_int_l0 : AC := .seq (.seq (.reg c_slices_partitionCmpFunc_int_r3 true) (.cond (.t 47) (.skip) (.exit 0))) (.blk 1 (.reg c_slices_partitionCmpFunc_int_r4 false))
def c_slices_partitionCmpFunc_int_r5 : List AO := [⟨(some 50), .mov (.t 12), none, 0⟩,
  ⟨(some 51), .mov (.t 13), none, 0⟩,
  ⟨(some 52), .bin .leq (.t 50) (.t 51), none, 3⟩,
  ⟨(some 53), .mov (.t 52), none, 7⟩,
  ⟨(some 54), .mov (.t 4), (some ((some 53), true)), 15⟩,
  ⟨(some 55), .mov (.t 0), (some ((some 53), true)), 15⟩,
  ⟨(some 56), .mov (.t 13), (some ((some 53), true)), 15⟩,
  ⟨(some 57), .indexAddr none 1 (.t 55) (.t 56), (some ((some 53), true)), 111⟩,
  ⟨(some 58), .load false 1 (.t 57), (some ((some 53), true)), 239⟩,
  ⟨(some 59), .mov (.t 0), (some ((some 53), true)), 15⟩,
  ⟨(some 60), .mov (.t 1), (some ((some 53), true)), 15⟩,
  ⟨(some 61), .indexAddr none 1 (.t 59) (.t 60), (some ((some 53), true)), 1551⟩,
  ⟨(some 62), .load false 1 (.t 61), (some ((some 53), true)), 3599⟩,
  ⟨(some 63), .call (.t 54) [(.t 58), (.t 62)], (some ((some 53), true)), 8191⟩,
  ⟨(some 64), .bin .lss (.t 63) (.k (.sc (.int .i64 0))), (some ((some 53), true)), 16383⟩,
  ⟨(some 65), .un .not (.t 64), (some ((some 53), true)), 32767⟩,
  ⟨(some 66), .pick (.t 53) (.t 65) (.k (.sc (.bool false))), none, 65535⟩]
def c_slices_partitionCmpFunc_int_r6 : List AO := [⟨(some 67), .mov (.t 13), none, 0⟩,
  ⟨(some 68), .bin .sub (.t 67) (.k (.sc (.int .i64 1))), none, 0⟩,
  ⟨(some 13), .mov (.t 68), none, 0⟩]
def c_slices_partitionCmpFunc_int_l1 : AC := .seq (.seq (.reg c_slices_partitionCmpFunc_int_r5 true) (.cond (.t 66) (.skip) (.exit 2))) (.blk 3 (.reg c_slices_partitionCmpFunc_int_r6 false))
def c_slices_partitionCmpFunc_int_r7 : List AO := [⟨(some 69), .mov (.t 12), none, 0⟩,
  ⟨(some 70), .mov (.t 13), none, 0⟩,
  ⟨(some 71), .bin .gtr (.t 69) (.t 70), none, 0⟩]
def c_slices_partitionCmpFunc_int_r8 : List AO := [⟨(some 72), .mov (.t 0), none, 0⟩,
  ⟨(some 73), .mov (.t 13), none, 0⟩,
  ⟨(some 74), .mov (.t 0), none, 0⟩,
  ⟨(some 75), .mov (.t 1), none, 0⟩,
  ⟨(some 76), .mov (.t 0), none, 0⟩,
  ⟨(some 77), .mov (.t 1), none, 0⟩,
  ⟨(some 78), .indexAddr none 1 (.t 76) (.t 77), none, 48⟩,
  ⟨(some 79), .load false 1 (.t 78), none, 112⟩,
  ⟨(some 80), .mov (.t 0), none, 0⟩,
  ⟨(some 81), .mov (.t 13), none, 0⟩,
  ⟨(some 82), .indexAddr none 1 (.t 80) (.t 81), none, 768⟩,
  ⟨(some 83), .load false 1 (.t 82), none, 1792⟩,
  ⟨(some 84), .indexAddr none 1 (.t 72) (.t 73), none, 4083⟩,
  ⟨none, .store 1 (.t 84) (.t 79), none, 8179⟩,
  ⟨(some 85), .indexAddr none 1 (.t 74) (.t 75), none, 16383⟩,
  ⟨none, .store 1 (.t 85) (.t 83), none, 32767⟩]
def c_slices_partitionCmpFunc_int_r9 : List AO := [⟨(some 86), .mov (.t 13), none, 0⟩,
  ⟨(some 10), .mov (.t 86), none, 0⟩,
  ⟨(some 11), .mov (.k (.sc (.bool true))), none, 0⟩]
def c_slices_partitionCmpFunc_int_r10 : List AO := [⟨(some 87), .mov (.t 0), none, 0⟩,
  ⟨(some 88), .mov (.t 12), none, 0⟩,
  ⟨(some 89), .mov (.t 0), none, 0⟩,
  ⟨(some 90), .mov (.t 13), none, 0⟩,
  ⟨(some 91), .mov (.t 0), none, 0⟩,
  ⟨(some 92), .mov (.t 13), none, 0⟩,
  ⟨(some 93), .indexAddr none 1 (.t 91) (.t 92), none, 48⟩,
  ⟨(some 94), .load false 1 (.t 93), none, 112⟩,
  ⟨(some 95), .mov (.t 0), none, 0⟩,
  ⟨(some 96), .mov (.t 12), none, 0⟩,
  ⟨(some 97), .indexAddr none 1 (.t 95) (.t 96), none, 768⟩,
  ⟨(some 98), .load false 1 (.t 97), none, 1792⟩,
  ⟨(some 99), .indexAddr none 1 (.t 87) (.t 88), none, 4083⟩,
  ⟨none, .store 1 (.t 99) (.t 94), none, 8179⟩,
  ⟨(some 100), .indexAddr none 1 (.t 89) (.t 90), none, 16383⟩,
  ⟨none, .store 1 (.t 100) (.t 98), none, 32767⟩]
def c_slices_partitionCmpFunc_int_r11 : List AO := [⟨(some 101), .mov (.t 12), none, 0⟩,
  ⟨(some 102), .bin .add (.t 101) (.k (.sc (.int .i64 1))), none, 0⟩,
  ⟨(some 12), .mov (.t 102), none, 0⟩]
def c_slices_partitionCmpFunc_int_r12 : List AO := [⟨(some 103), .mov (.t 13), none, 0⟩,
  ⟨(some 104), .bin .sub (.t 103) (.k (.sc (.int .i64 1))), none, 0⟩,
  ⟨(some 13), .mov (.t 104), none, 0⟩]
def c_slices_partitionCmpFunc_int_r13 : List AO := [⟨(some 105), .mov (.t 12), none, 0⟩,
  ⟨(some 106), .mov (.t 13), none, 0⟩,
  ⟨(some 107), .bin .leq (.t 105) (.t 106), none, 3⟩,
  ⟨(some 108), .mov (.t 107), none, 7⟩,
  ⟨(some 109), .mov (.t 4), (some ((some 108), true)), 15⟩,
  ⟨(some 110), .mov (.t 0), (some ((some 108), true)), 15⟩,
  ⟨(some 111), .mov (.t 12), (some ((some 108), true)), 15⟩,
  ⟨(some 112), .indexAddr none 1 (.t 110) (.t 111), (some ((some 108), true)), 111⟩,
  ⟨(some 113), .load false 1 (.t 112), (some ((some 108), true)), 239⟩,
  ⟨(some 114), .mov (.t 0), (some ((some 108), true)), 15⟩,
  ⟨(some 115), .mov (.t 1), (some ((some 108), true)), 15⟩,
  ⟨(some 116), .indexAddr none 1 (.t 114) (.t 115), (some ((some 108), true)), 1551⟩,
  ⟨(some 117), .load false 1 (.t 116), (some ((some 108), true)), 3599⟩,
  ⟨(some 118), .call (.t 109) [(.t 113), (.t 117)], (some ((some 108), true)), 8191⟩,
  ⟨(some 119), .bin .lss (.t 118) (.k (.sc (.int .i64 0))), (some ((some 108), true)), 16383⟩,
  ⟨(some 120), .pick (.t 108) (.t 119) (.k (.sc (.bool false))), none, 32767⟩]
def c_slices_partitionCmpFunc_int_r14 : List AO := [⟨(some 121), .mov (.t 12), none, 0⟩,
  ⟨(some 122), .bin .add (.t 121) (.k (.sc (.int .i64 1))), none, 0⟩,
  ⟨(some 12), .mov (.t 122), none, 0⟩]
def c_slices_partitionCmpFunc_int_l2 : AC := .seq (.seq (.reg c_slices_partitionCmpFunc_int_r13 true) (.cond (.t 120) (.skip) (.exit 6))) (.blk 7 (.reg c_slices_partitionCmpFunc_int_r14 false))
def c_slices_partitionCmpFunc_int_r15 : List AO := [⟨(some 123), .mov (.t 12), none, 0⟩,
  ⟨(some 124), .mov (.t 13), none, 0⟩,
  ⟨(some 125), .bin .leq (.t 123) (.t 124), none, 3⟩,
  ⟨(some 126), .mov (.t 125), none, 7⟩,
  ⟨(some 127), .mov (.t 4), (some ((some 126), true)), 15⟩,
  ⟨(some 128), .mov (.t 0), (some ((some 126), true)), 15⟩,
  ⟨(some 129), .mov (.t 13), (some ((some 126), true)), 15⟩,
  ⟨(some 130), .indexAddr none 1 (.t 128) (.t 129), (some ((some 126), true)), 111⟩,
  ⟨(some 131), .load false 1 (.t 130), (some ((some 126), true)), 239⟩,
  ⟨(some 132), .mov (.t 0), (some ((some 126), true)), 15⟩,
  ⟨(some 133), .mov (.t 1), (some ((some 126), true)), 15⟩,
  ⟨(some 134), .indexAddr none 1 (.t 132) (.t 133), (some ((some 126), true)), 1551⟩,
  ⟨(some 135), .load false 1 (.t 134), (some ((some 126), true)), 3599⟩,
  ⟨(some 136), .call (.t 127) [(.t 131), (.t 135)], (some ((some 126), true)), 8191⟩,
  ⟨(some 137), .bin .lss (.t 136) (.k (.sc (.int .i64 0))), (some ((some 126), true)), 16383⟩,
  ⟨(some 138), .un .not (.t 137), (some ((some 126), true)), 32767⟩,
  ⟨(some 139), .pick (.t 126) (.t 138) (.k (.sc (.bool false))), none, 65535⟩]
def c_slices_partitionCmpFunc_int_r16 : List AO := [⟨(some 140), .mov (.t 13), none, 0⟩,
  ⟨(some 141), .bin .sub (.t 140) (.k (.sc (.int .i64 1))), none, 0⟩,
  ⟨(some 13), .mov (.t 141), none, 0⟩]
def c_slices_partitionCmpFunc_int_l3 : AC := .seq (.seq (.reg c_slices_partitionCmpFunc_int_r15 true) (.cond (.t 139) (.skip) (.exit 8))) (.blk 9 (.reg c_slices_partitionCmpFunc_int_r16 false))
def c_slices_partitionCmpFunc_int_r17 : List AO := [⟨(some 142), .mov (.t 12), none, 0⟩,
  ⟨(some 143), .mov (.t 13), none, 0⟩,
  ⟨(some 144), .bin .gtr (.t 142) (.t 143), none, 0⟩]
def c_slices_partitionCmpFunc_int_r18 : List AO := [⟨(some 145), .mov (.t 0), none, 0⟩,
  ⟨(some 146), .mov (.t 12), none, 0⟩,
  ⟨(some 147), .mov (.t 0), none, 0⟩,
  ⟨(some 148), .mov (.t 13), none, 0⟩,
  ⟨(some 149), .mov (.t 0), none, 0⟩,
  ⟨(some 150), .mov (.t 13), none, 0⟩,
  ⟨(some 151), .indexAddr none 1 (.t 149) (.t 150), none, 48⟩,
  ⟨(some 152), .load false 1 (.t 151), none, 112⟩,
  ⟨(some 153), .mov (.t 0), none, 0⟩,
  ⟨(some 154), .mov (.t 12), none, 0⟩,
  ⟨(some 155), .indexAddr none 1 (.t 153) (.t 154), none, 768⟩,
  ⟨(some 156), .load false 1 (.t 155), none, 1792⟩,
  ⟨(some 157), .indexAddr none 1 (.t 145) (.t 146), none, 4083⟩,
  ⟨none, .store 1 (.t 157) (.t 152), none, 8179⟩,
  ⟨(some 158), .indexAddr none 1 (.t 147) (.t 148), none, 16383⟩,
  ⟨none, .store 1 (.t 158) (.t 156), none, 32767⟩]
def c_slices_partitionCmpFunc_int_r19 : List AO := [⟨(some 159), .mov (.t 12), none, 0⟩,
  ⟨(some 160), .bin .add (.t 159) (.k (.sc (.int .i64 1))), none, 0⟩,
  ⟨(some 12), .mov (.t 160), none, 0⟩]
def c_slices_partitionCmpFunc_int_r20 : List AO := [⟨(some 161), .mov (.t 13), none, 0⟩,
  ⟨(some 162), .bin .sub (.t 161) (.k (.sc (.int .i64 1))), none, 0⟩,
  ⟨(some 13), .mov (.t 162), none, 0⟩]
def c_slices_partitionCmpFunc_int_l4 : AC := .blk 5 (.seq (.blk 6 (.loop c_slices_partitionCmpFunc_int_l2)) (.seq (.blk 8 (.loop c_slices_partitionCmpFunc_int_l3)) (.seq (.seq (.reg c_slices_partitionCmpFunc_int_r17 false) (.cond (.t 144) (.exit 4) (.skip))) (.seq (.reg c_slices_partitionCmpFunc_int_r18 true) (.seq (.reg c_slices_partitionCmpFunc_int_r19 false) (.reg c_slices_partitionCmpFunc_int_r20 false))))))
def c_slices_partitionCmpFunc_int_r21 : List AO := [⟨(some 163), .mov (.t 0), none, 0⟩,
  ⟨(some 164), .mov (.t 13), none, 0⟩,
  ⟨(some 165), .mov (.t 0), none, 0⟩,
  ⟨(some 166), .mov (.t 1), none, 0⟩,
  ⟨(some 167), .mov (.t 0), none, 0⟩,
  ⟨(some 168), .mov (.t 1), none, 0⟩,
  ⟨(some 169), .indexAddr none 1 (.t 167) (.t 168), none, 48⟩,
  ⟨(some 170), .load false 1 (.t 169), none, 112⟩,
  ⟨(some 171), .mov (.t 0), none, 0⟩,
  ⟨(some 172), .mov (.t 13), none, 0⟩,
  ⟨(some 173), .indexAddr none 1 (.t 171) (.t 172), none, 768⟩,
  ⟨(some 174), .load false 1 (.t 173), none, 1792⟩,
  ⟨(some 175), .indexAddr none 1 (.t 163) (.t 164), none, 4083⟩,
  ⟨none, .store 1 (.t 175) (.t 170), none, 8179⟩,
  ⟨(some 176), .indexAddr none 1 (.t 165) (.t 166), none, 16383⟩,
  ⟨none, .store 1 (.t 176) (.t 174), none, 32767⟩]
def c_slices_partitionCmpFunc_int_r22 : List AO := [⟨(some 177), .mov (.t 13), none, 0⟩,
  ⟨(some 10), .mov (.t 177), none, 0⟩,
  ⟨(some 11), .mov (.k (.sc (.bool false))), none, 0⟩]
def c_slices_partitionCmpFunc_int : AFn := { code := .seq (.reg c_slices_partitionCmpFunc_int_r0 false) (.seq (.reg c_slices_partitionCmpFunc_int_r1 true) (.seq (.reg c_slices_partitionCmpFunc_int_r2 false) (.seq (.blk 0 (.loop c_slices_partitionCmpFunc_int_l0)) (.seq (.blk 2 (.loop c_slices_partitionCmpFunc_int_l1)) (.seq (.seq (.reg c_slices_partitionCmpFunc_int_r7 false) (.cond (.t 71) (.seq (.reg c_slices_partitionCmpFunc_int_r8 true) (.seq (.reg c_slices_partitionCmpFunc_int_r9 false) (.ret))) (.skip))) (.seq (.reg c_slices_partitionCmpFunc_int_r10 true) (.seq (.reg c_slices_partitionCmpFunc_int_r11 false) (.seq (.reg c_slices_partitionCmpFunc_int_r12 false) (.seq (.blk 4 (.loop c_slices_partitionCmpFunc_int_l4)) (.seq (.reg c_slices_partitionCmpFunc_int_r21 true) (.seq (.reg c_slices_partitionCmpFunc_int_r22 false) (.ret)))))))))))), ntmps := 178, results := [.tmp 10, .tmp 11] }
/-- 85 math/bits.Len32 -/
def c_bits_Len32_r0 : List AO := [⟨(some 2), .mov (.k (.sc (.int .i64 0))), none, 0⟩]
def c_bits_Len32_r1 : List AO := [⟨(some 3), .mov (.t 0), none, 0⟩,
  ⟨(some 4), .bin .geq (.t 3) (.k (.sc (.int .u32 65536))), none, 0⟩]
def c_bits_Len32_r2 : List AO := [⟨(some 5), .mov (.t 0), none, 0⟩,
  ⟨(some 6), .bin .shr (.t 5) (.k (.sc (.int .u64 16))), none, 0⟩,
  ⟨(some 0), .mov (.t 6), none, 0⟩]
def c_bits_Len32_r3 : List AO := [⟨(some 2), .mov (.k (.sc (.int .i64 16))), none, 0⟩]
def c_bits_Len32_r4 : List AO := [⟨(some 7), .mov (.t 0), none, 0⟩,
  ⟨(some 8), .bin .geq (.t 7) (.k (.sc (.int .u32 256))), none, 0⟩]
def c_bits_Len32_r5 : List AO := [⟨(some 9), .mov (.t 0), none, 0⟩,
  ⟨(some 10), .bin .shr (.t 9) (.k (.sc (.int .u64 8))), none, 0⟩,
  ⟨(some 0), .mov (.t 10), none, 0⟩]
def c_bits_Len32_r6 : List AO := [⟨(some 11), .mov (.t 2), none, 0⟩,
  ⟨(some 12), .bin .add (.t 11) (.k (.sc (.int .i64 8))), none, 0⟩,
  ⟨(some 2), .mov (.t 12), none, 0⟩]
def c_bits_Len32_r7 : List AO := [⟨(some 13), .mov (.t 2), none, 0⟩,
  ⟨(some 14), .mov (.t 0), none, 0⟩,
  ⟨(some 15), .conv (.int .u8) (.t 14), none, 0⟩,
  ⟨(some 16), .indexStr (.k (.sc (.string ⟨#[0, 1, 2, 2, 3, 3, 3, 3, 4, 4, 4, 4, 4, 4, 4, 4, 5, 5, 5, 5, 5, 5, 5, 5, 5, 5, 5, 5, 5, 5, 5, 5, 6, 6, 6, 6, 6, 6, 6, 6, 6, 6, 6, 6, 6, 6, 6, 6, 6, 6, 6, 6, 6, 6, 6, 6, 6, 6, 6, 6, 6, 6, 6, 6, 7, 7, 7, 7, 7, 7, 7, 7, 7, 7, 7, 7, 7, 7, 7, 7, 7, 7, 7, 7, 7, 7, 7, 7, 7, 7, 7, 7, 7, 7, 7, 7, 7, 7, 7, 7, 7, 7, 7, 7, 7, 7, 7, 7, 7, 7, 7, 7, 7, 7, 7, 7, 7, 7, 7, 7, 7, 7, 7, 7, 7, 7, 7, 7, 8, 8, 8, 8, 8, 8, 8, 8, 8, 8, 8, 8, 8, 8, 8, 8, 8, 8, 8, 8, 8, 8, 8, 8, 8, 8, 8, 8, 8, 8, 8, 8, 8, 8, 8, 8, 8, 8, 8, 8, 8, 8, 8, 8, 8, 8, 8, 8, 8, 8, 8, 8, 8, 8, 8, 8, 8, 8, 8, 8, 8, 8, 8, 8, 8, 8, 8, 8, 8, 8, 8, 8, 8, 8, 8, 8, 8, 8, 8, 8, 8, 8, 8, 8, 8, 8, 8, 8, 8, 8, 8, 8, 8, 8, 8, 8, 8, 8, 8, 8, 8, 8, 8, 8, 8, 8, 8, 8, 8, 8, 8, 8, 8, 8, 8, 8, 8, 8, 8, 8, 8, 8, 8, 8, 8, 8, 8, 8]⟩))) (.t 15), none, 0⟩,
  ⟨(some 17), .conv (.int .i64) (.t 16), none, 0⟩,
  ⟨(some 18), .bin .add (.t 13) (.t 17), none, 0⟩,
  ⟨(some 2), .mov (.t 18), none, 0⟩]
def c_bits_Len32 : AFn := { code := .seq (.reg c_bits_Len32_r0 false) (.seq (.seq (.reg c_bits_Len32_r1 false) (.cond (.t 4) (.seq (.reg c_bits_Len32_r2 false) (.reg c_bits_Len32_r3 false)) (.skip))) (.seq (.seq (.reg c_bits_Len32_r4 false) (.cond (.t 8) (.seq (.reg c_bits_Len32_r5 false) (.reg c_bits_Len32_r6 false)) (.skip))) (.seq (.reg c_bits_Len32_r7 false) (.ret)))), ntmps := 19, results := [.tmp 2] }
/-- 86 math/bits.Len64 -/
def c_bits_Len64_r0 : List AO := [⟨(some 2), .mov (.k (.sc (.int .i64 0))), none, 0⟩]
def c_bits_Len64_r1 : List AO := [⟨(some 3), .mov (.t 0), none, 0⟩,
  ⟨(some 4), .bin .geq (.t 3) (.k (.sc (.int .u64 4294967296))), none, 0⟩]
def c_bits_Len64_r2 : List AO := [⟨(some 5), .mov (.t 0), none, 0⟩,
  ⟨(some 6), .bin .shr (.t 5) (.k (.sc (.int .u64 32))), none, 0⟩,
  ⟨(some 0), .mov (.t 6), none, 0⟩]
def c_bits_Len64_r3 : List AO := [⟨(some 2), .mov (.k (.sc (.int .i64 32))), none, 0⟩]
def c_bits_Len64_r4 : List AO := [⟨(some 7), .mov (.t 0), none, 0⟩,
  ⟨(some 8), .bin .geq (.t 7) (.k (.sc (.int .u64 65536))), none, 0⟩]
def c_bits_Len64_r5 : List AO := [⟨(some 9), .mov (.t 0), none, 0⟩,
  ⟨(some 10), .bin .shr (.t 9) (.k (.sc (.int .u64 16))), none, 0⟩,
  ⟨(some 0), .mov (.t 10), none, 0⟩]
def c_bits_Len64_r6 : List AO := [⟨(some 11), .mov (.t 2), none, 0⟩,
  ⟨(some 12), .bin .add (.t 11) (.k (.sc (.int .i64 16))), none, 0⟩,
  ⟨(some 2), .mov (.t 12), none, 0⟩]
def c_bits_Len64_r7 : List AO := [⟨(some 13), .mov (.t 0), none, 0⟩,
  ⟨(some 14), .bin .geq (.t 13) (.k (.sc (.int .u64 256))), none, 0⟩]
def c_bits_Len64_r8 : List AO := [⟨(some 15), .mov (.t 0), none, 0⟩,
  ⟨(some 16), .bin .shr (.t 15) (.k (.sc (.int .u64 8))), none, 0⟩,
  ⟨(some 0), .mov (.t 16), none, 0⟩]
def c_bits_Len64_r9 : List AO := [⟨(some 17), .mov (.t 2), none, 0⟩,
  ⟨(some 18), .bin .add (.t 17) (.k (.sc (.int .i64 8))), none, 0⟩,
  ⟨(some 2), .mov (.t 18), none, 0⟩]
def c_bits_Len64_r10 : List AO := [⟨(some 19), .mov (.t 2), none, 0⟩,
  ⟨(some 20), .mov (.t 0), none, 0⟩,
  ⟨(some 21), .conv (.int .u8) (.t 20), none, 0⟩,
  ⟨(some 22), .indexStr (.k (.sc (.string ⟨#[0, 1, 2, 2, 3, 3, 3, 3, 4, 4, 4, 4, 4, 4, 4, 4, 5, 5, 5, 5, 5, 5, 5, 5, 5, 5, 5, 5, 5, 5, 5, 5, 6, 6, 6, 6, 6, 6, 6, 6, 6, 6, 6, 6, 6, 6, 6, 6, 6, 6, 6, 6, 6, 6, 6, 6, 6, 6, 6, 6, 6, 6, 6, 6, 7, 7, 7, 7, 7, 7, 7, 7, 7, 7, 7, 7, 7, 7, 7, 7, 7, 7, 7, 7, 7, 7, 7, 7, 7, 7, 7, 7, 7, 7, 7, 7, 7, 7, 7, 7, 7, 7, 7, 7, 7, 7, 7, 7, 7, 7, 7, 7, 7, 7, 7, 7, 7, 7, 7, 7, 7, 7, 7, 7, 7, 7, 7, 7, 8, 8, 8, 8, 8, 8, 8, 8, 8, 8, 8, 8, 8, 8, 8, 8, 8, 8, 8, 8, 8, 8, 8, 8, 8, 8, 8, 8, 8, 8, 8, 8, 8, 8, 8, 8, 8, 8, 8, 8, 8, 8, 8, 8, 8, 8, 8, 8, 8, 8, 8, 8, 8, 8, 8, 8, 8, 8, 8, 8, 8, 8, 8, 8, 8, 8, 8, 8, 8, 8, 8, 8, 8, 8, 8, 8, 8, 8, 8, 8, 8, 8, 8, 8, 8, 8, 8, 8, 8, 8, 8, 8, 8, 8, 8, 8, 8, 8, 8, 8, 8, 8, 8, 8, 8, 8, 8, 8, 8, 8, 8, 8, 8, 8, 8, 8, 8, 8, 8, 8, 8, 8, 8, 8, 8, 8, 8, 8]⟩))) (.t 21), none, 0⟩,
  ⟨(some 23), .conv (.int .i64) (.t 22), none, 0⟩,
  ⟨(some 24), .bin .add (.t 19) (.t 23), none, 0⟩,
  ⟨(some 2), .mov (.t 24), none, 0⟩]
def c_bits_Len64 : AFn := { code := .seq (.reg c_bits_Len64_r0 false) (.seq (.seq (.reg c_bits_Len64_r1 false) (.cond (.t 4) (.seq (.reg c_bits_Len64_r2 false) (.reg c_bits_Len64_r3 false)) (.skip))) (.seq (.seq (.reg c_bits_Len64_r4 false) (.cond (.t 8) (.seq (.reg c_bits_Len64_r5 false) (.reg c_bits_Len64_r6 false)) (.skip))) (.seq (.seq (.reg c_bits_Len64_r7 false) (.cond (.t 14) (.seq (.reg c_bits_Len64_r8 false) (.reg c_bits_Len64_r9 false)) (.skip))) (.seq (.reg c_bits_Len64_r10 false) (.ret))))), ntmps := 25, results := [.tmp 2] }
/-- 87 slices.insertionSortOrdered[int] -/
def c_slices_insertionSortOrdered_int_r0 : List AO := [⟨(some 8), .mov (.t 1), none, 0⟩,
  ⟨(some 9), .bin .add (.t 8) (.k (.sc (.int .i64 1))), none, 0⟩,
  ⟨(some 6), .mov (.t 9), none, 0⟩]
def c_slices_insertionSortOrdered_int_r1 : List AO := [⟨(some 10), .mov (.t 6), none, 0⟩,
  ⟨(some 11), .mov (.t 2), none, 0⟩,
  ⟨(some 12), .bin .lss (.t 10) (.t 11), none, 0⟩]
def c_slices_insertionSortOrdered_int_r2 : List AO := [⟨(some 15), .mov (.t 6), none, 0⟩,
  ⟨(some 7), .mov (.t 15), none, 0⟩]
def c_slices_insertionSortOrdered_int_r3 : List AO := [⟨(some 16), .mov (.t 7), none, 0⟩,
  ⟨(some 17), .mov (.t 1), none, 0⟩,
  ⟨(some 18), .bin .gtr (.t 16) (.t 17), none, 3⟩,
  ⟨(some 19), .mov (.t 18), none, 7⟩,
  ⟨(some 20), .mov (.t 0), (some ((some 19), true)), 15⟩,
  ⟨(some 21), .mov (.t 7), (some ((some 19), true)), 15⟩,
  ⟨(some 22), .indexAddr none 1 (.t 20) (.t 21), (some ((some 19), true)), 63⟩,
  ⟨(some 23), .load false 1 (.t 22), (some ((some 19), true)), 127⟩,
  ⟨(some 24), .mov (.t 0), (some ((some 19), true)), 15⟩,
  ⟨(some 25), .mov (.t 7), (some ((some 19), true)), 15⟩,
  ⟨(some 26), .bin .sub (.t 25) (.k (.sc (.int .i64 1))), (some ((some 19), true)), 527⟩,
  ⟨(some 27), .indexAddr none 1 (.t 24) (.t 26), (some ((some 19), true)), 1807⟩,
  ⟨(some 28), .load false 1 (.t 27), (some ((some 19), true)), 3855⟩,
  ⟨(some 29), .call (.k (.fn (.func f_cmp_Less_int) [] [])) [(.t 23), (.t 28)], (some ((some 19), true)), 8191⟩,
  ⟨(some 30), .pick (.t 19) (.t 29) (.k (.sc (.bool false))), none, 16383⟩]
def c_slices_insertionSortOrdered_int_r4 : List AO := [⟨(some 33), .mov (.t 0), none, 0⟩,
  ⟨(some 34), .mov (.t 7), none, 0⟩,
  ⟨(some 35), .mov (.t 0), none, 0⟩,
  ⟨(some 36), .mov (.t 7), none, 0⟩,
  ⟨(some 37), .bin .sub (.t 36) (.k (.sc (.int .i64 1))), none, 8⟩,
  ⟨(some 38), .mov (.t 0), none, 0⟩,
  ⟨(some 39), .mov (.t 7), none, 0⟩,
  ⟨(some 40), .bin .sub (.t 39) (.k (.sc (.int .i64 1))), none, 64⟩,
  ⟨(some 41), .indexAddr none 1 (.t 38) (.t 40), none, 224⟩,
  ⟨(some 42), .load false 1 (.t 41), none, 480⟩,
  ⟨(some 43), .mov (.t 0), none, 0⟩,
  ⟨(some 44), .mov (.t 7), none, 0⟩,
  ⟨(some 45), .indexAddr none 1 (.t 43) (.t 44), none, 3072⟩,
  ⟨(some 46), .load false 1 (.t 45), none, 7168⟩,
  ⟨(some 47), .indexAddr none 1 (.t 33) (.t 34), none, 16355⟩,
  ⟨none, .store 1 (.t 47) (.t 42), none, 32739⟩,
  ⟨(some 48), .indexAddr none 1 (.t 35) (.t 37), none, 65535⟩,
  ⟨none, .store 1 (.t 48) (.t 46), none, 131071⟩]
def c_slices_insertionSortOrdered_int_r5 : List AO := [⟨(some 31), .mov (.t 7), none, 0⟩,
  ⟨(some 32), .bin .sub (.t 31) (.k (.sc (.int .i64 1))), none, 0⟩,
  ⟨(some 7), .mov (.t 32), none, 0⟩]
def c_slices_insertionSortOrdered_int_l0 : AC := .seq (.seq (.reg c_slices_insertionSortOrdered_int_r3 true) (.cond (.t 30) (.skip) (.exit 2))) (.seq (.blk 3 (.reg c_slices_insertionSortOrdered_int_r4 true)) (.reg c_slices_insertionSortOrdered_int_r5 false))
def c_slices_insertionSortOrdered_int_r6 : List AO := [⟨(some 13), .mov (.t 6), none, 0⟩,
  ⟨(some 14), .bin .add (.t 13) (.k (.sc (.int .i64 1))), none, 0⟩,
  ⟨(some 6), .mov (.t 14), none, 0⟩]
def c_slices_insertionSortOrdered_int_l1 : AC := .seq (.seq (.reg c_slices_insertionSortOrdered_int_r1 false) (.cond (.t 12) (.skip) (.exit 0))) (.seq (.blk 1 (.seq (.reg c_slices_insertionSortOrdered_int_r2 false) (.blk 2 (.loop c_slices_insertionSortOrdered_int_l0)))) (.reg c_slices_insertionSortOrdered_int_r6 false))
def c_slices_insertionSortOrdered_int : AFn := { code := .seq (.reg c_slices_insertionSortOrdered_int_r0 false) (.blk 0 (.loop c_slices_insertionSortOrdered_int_l1)), ntmps := 49, results := [] }
/-- 88 slices.heapSortOrdered[int] -/
def c_slices_heapSortOrdered_int_r0 : List AO := [⟨(some 11), .mov (.t 1), none, 0⟩,
  ⟨(some 6), .mov (.t 11), none, 0⟩]
def c_slices_heapSortOrdered_int_r1 : List AO := [⟨(some 7), .mov (.k (.sc (.int .i64 0))), none, 0⟩]
def c_slices_heapSortOrdered_int_r2 : List AO := [⟨(some 12), .mov (.t 2), none, 0⟩,
  ⟨(some 13), .mov (.t 1), none, 0⟩,
  ⟨(some 14), .bin .sub (.t 12) (.t 13), none, 0⟩,
  ⟨(some 8), .mov (.t 14), none, 0⟩]
def c_slices_heapSortOrdered_int_r3 : List AO := [⟨(some 15), .mov (.t 8), none, 0⟩,
  ⟨(some 16), .bin .sub (.t 15) (.k (.sc (.int .i64 1))), none, 0⟩,
  ⟨(some 17), .bin .quo (.t 16) (.k (.sc (.int .i64 2))), none, 0⟩,
  ⟨(some 9), .mov (.t 17), none, 0⟩]
def c_slices_heapSortOrdered_int_r4 : List AO := [⟨(some 18), .mov (.t 9), none, 0⟩,
  ⟨(some 19), .bin .geq (.t 18) (.k (.sc (.int .i64 0))), none, 0⟩]
def c_slices_heapSortOrdered_int_r5 : List AO := [⟨(some 22), .mov (.t 0), none, 0⟩,
  ⟨(some 23), .mov (.t 9), none, 0⟩,
  ⟨(some 24), .mov (.t 8), none, 0⟩,
  ⟨(some 25), .mov (.t 6), none, 0⟩,
  ⟨(some 26), .call (.k (.fn (.func f_slices_siftDownOrdered_int) [] [])) [(.t 22), (.t 23), (.t 24), (.t 25)], none, 0⟩]
def c_slices_heapSortOrdered_int_r6 : List AO := [⟨(some 20), .mov (.t 9), none, 0⟩,
  ⟨(some 21), .bin .sub (.t 20) (.k (.sc (.int .i64 1))), none, 0⟩,
  ⟨(some 9), .mov (.t 21), none, 0⟩]
def c_slices_heapSortOrdered_int_l0 : AC := .seq (.seq (.reg c_slices_heapSortOrdered_int_r4 false) (.cond (.t 19) (.skip) (.exit 0))) (.seq (.blk 1 (.reg c_slices_heapSortOrdered_int_r5 false)) (.reg c_slices_heapSortOrdered_int_r6 false))
def c_slices_heapSortOrdered_int_r7 : List AO := [⟨(some 27), .mov (.t 8), none, 0⟩,
  ⟨(some 28), .bin .sub (.t 27) (.k (.sc (.int .i64 1))), none, 0⟩,
  ⟨(some 10), .mov (.t 28), none, 0⟩]
def c_slices_heapSortOrdered_int_r8 : List AO := [⟨(some 29), .mov (.t 10), none, 0⟩,
  ⟨(some 30), .bin .geq (.t 29) (.k (.sc (.int .i64 0))), none, 0⟩]
def c_slices_heapSortOrdered_int_r9 : List AO := [⟨(some 33), .mov (.t 0), none, 0⟩,
  ⟨(some 34), .mov (.t 6), none, 0⟩,
  ⟨(some 35), .mov (.t 0), none, 0⟩,
  ⟨(some 36), .mov (.t 6), none, 0⟩,
  ⟨(some 37), .mov (.t 10), none, 0⟩,
  ⟨(some 38), .bin .add (.t 36) (.t 37), none, 24⟩,
  ⟨(some 39), .mov (.t 0), none, 0⟩,
  ⟨(some 40), .mov (.t 6), none, 0⟩,
  ⟨(some 41), .mov (.t 10), none, 0⟩,
  ⟨(some 42), .bin .add (.t 40) (.t 41), none, 384⟩,
  ⟨(some 43), .indexAddr none 1 (.t 39) (.t 42), none, 960⟩,
  ⟨(some 44), .load false 1 (.t 43), none, 1984⟩,
  ⟨(some 45), .mov (.t 0), none, 0⟩,
  ⟨(some 46), .mov (.t 6), none, 0⟩,
  ⟨(some 47), .indexAddr none 1 (.t 45) (.t 46), none, 12288⟩,
  ⟨(some 48), .load false 1 (.t 47), none, 28672⟩,
  ⟨(some 49), .indexAddr none 1 (.t 33) (.t 34), none, 65475⟩,
  ⟨none, .store 1 (.t 49) (.t 44), none, 131011⟩,
  ⟨(some 50), .indexAddr none 1 (.t 35) (.t 38), none, 262143⟩,
  ⟨none, .store 1 (.t 50) (.t 48), none, 524287⟩]
def c_slices_heapSortOrdered_int_r10 : List AO := [⟨(some 51), .mov (.t 0), none, 0⟩,
  ⟨(some 52), .mov (.t 7), none, 0⟩,
  ⟨(some 53), .mov (.t 10), none, 0⟩,
  ⟨(some 54), .mov (.t 6), none, 0⟩,
  ⟨(some 55), .call (.k (.fn (.func f_slices_siftDownOrdered_int) [] [])) [(.t 51), (.t 52), (.t 53), (.t 54)], none, 0⟩]
def c_slices_heapSortOrdered_int_r11 : List AO := [⟨(some 31), .mov (.t 10), none, 0⟩,
  ⟨(some 32), .bin .sub (.t 31) (.k (.sc (.int .i64 1))), none, 0⟩,
  ⟨(some 10), .mov (.t 32), none, 0⟩]
def c_slices_heapSortOrdered_int_l1 : AC := .seq (.seq (.reg c_slices_heapSortOrdered_int_r8 false) (.cond (.t 30) (.skip) (.exit 2))) (.seq (.blk 3 (.seq (.reg c_slices_heapSortOrdered_int_r9 true) (.reg c_slices_heapSortOrdered_int_r10 false))) (.reg c_slices_heapSortOrdered_int_r11 false))
def c_slices_heapSortOrdered_int : AFn := { code := .seq (.reg c_slices_heapSortOrdered_int_r0 false) (.seq (.reg c_slices_heapSortOrdered_int_r1 false) (.seq (.reg c_slices_heapSortOrdered_int_r2 false) (.seq (.seq (.reg c_slices_heapSortOrdered_int_r3 false) (.blk 0 (.loop c_slices_heapSortOrdered_int_l0))) (.seq (.reg c_slices_heapSortOrdered_int_r7 false) (.blk 2 (.loop c_slices_heapSortOrdered_int_l1)))))), ntmps := 56, results := [] }
/-- 89 slices.breakPatternsOrdered[int] -/
def c_slices_breakPatternsOrdered_int_r0 : List AO := [⟨(some 11), .mov (.t 2), none, 0⟩,
  ⟨(some 12), .mov (.t 1), none, 0⟩,
  ⟨(some 13), .bin .sub (.t 11) (.t 12), none, 0⟩,
  ⟨(some 6), .mov (.t 13), none, 0⟩]
def c_slices_breakPatternsOrdered_int_r1 : List AO := [⟨(some 14), .mov (.t 6), none, 0⟩,
  ⟨(some 15), .bin .geq (.t 14) (.k (.sc (.int .i64 8))), none, 0⟩]
def c_slices_breakPatternsOrdered_int_r2 : List AO := [⟨(some 16), .mov (.t 6), none, 0⟩,
  ⟨(some 17), .conv (.int .u64) (.t 16), none, 0⟩,
  ⟨(some 7), .alloc [(.sc (.int .u64 0))], none, 0⟩,
  ⟨none, .store 1 (.t 7) (.t 17), none, 0⟩]
def c_slices_breakPatternsOrdered_int_r3 : List AO := [⟨(some 18), .mov (.t 6), none, 0⟩,
  ⟨(some 19), .call (.k (.fn (.func f_slices_nextPowerOfTwo) [] [])) [(.t 18)], none, 0⟩,
  ⟨(some 8), .mov (.t 19), none, 0⟩]
def c_slices_breakPatternsOrdered_int_r4 : List AO := [⟨(some 20), .mov (.t 1), none, 0⟩,
  ⟨(some 21), .mov (.t 6), none, 0⟩,
  ⟨(some 22), .bin .quo (.t 21) (.k (.sc (.int .i64 4))), none, 0⟩,
  ⟨(some 23), .bin .mul (.t 22) (.k (.sc (.int .i64 2))), none, 0⟩,
  ⟨(some 24), .bin .add (.t 20) (.t 23), none, 0⟩,
  ⟨(some 25), .bin .sub (.t 24) (.k (.sc (.int .i64 1))), none, 0⟩,
  ⟨(some 9), .mov (.t 25), none, 0⟩]
def c_slices_breakPatternsOrdered_int_r5 : List AO := [⟨(some 26), .mov (.t 9), none, 0⟩,
  ⟨(some 27), .mov (.t 1), none, 0⟩,
  ⟨(some 28), .mov (.t 6), none, 0⟩,
  ⟨(some 29), .bin .quo (.t 28) (.k (.sc (.int .i64 4))), none, 0⟩,
  ⟨(some 30), .bin .mul (.t 29) (.k (.sc (.int .i64 2))), none, 0⟩,
  ⟨(some 31), .bin .add (.t 27) (.t 30), none, 0⟩,
  ⟨(some 32), .bin .add (.t 31) (.k (.sc (.int .i64 1))), none, 0⟩,
  ⟨(some 33), .bin .leq (.t 26) (.t 32), none, 0⟩]
def c_slices_breakPatternsOrdered_int_r6 : List AO := [⟨(some 36), .call (.k (.fn (.func f_slices_xorshift_Next) [] [])) [(.t 7)], none, 0⟩,
  ⟨(some 37), .mov (.t 8), none, 0⟩,
  ⟨(some 38), .bin .sub (.t 37) (.k (.sc (.int .u64 1))), none, 0⟩,
  ⟨(some 39), .bin .and (.t 36) (.t 38), none, 0⟩,
  ⟨(some 40), .conv (.int .i64) (.t 39), none, 0⟩,
  ⟨(some 10), .mov (.t 40), none, 0⟩]
def c_slices_breakPatternsOrdered_int_r7 : List AO := [⟨(some 41), .mov (.t 10), none, 0⟩,
  ⟨(some 42), .mov (.t 6), none, 0⟩,
  ⟨(some 43), .bin .geq (.t 41) (.t 42), none, 0⟩]
def c_slices_breakPatternsOrdered_int_r8 : List AO := [⟨(some 44), .mov (.t 10), none, 0⟩,
  ⟨(some 45), .mov (.t 6), none, 0⟩,
  ⟨(some 46), .bin .sub (.t 44) (.t 45), none, 0⟩,
  ⟨(some 10), .mov (.t 46), none, 0⟩]
def c_slices_breakPatternsOrdered_int_r9 : List AO := [⟨(some 47), .mov (.t 0), none, 0⟩,
  ⟨(some 48), .mov (.t 9), none, 0⟩,
  ⟨(some 49), .mov (.t 0), none, 0⟩,
  ⟨(some 50), .mov (.t 1), none, 0⟩,
  ⟨(some 51), .mov (.t 10), none, 0⟩,
  ⟨(some 52), .bin .add (.t 50) (.t 51), none, 24⟩,
  ⟨(some 53), .mov (.t 0), none, 0⟩,
  ⟨(some 54), .mov (.t 1), none, 0⟩,
  ⟨(some 55), .mov (.t 10), none, 0⟩,
  ⟨(some 56), .bin .add (.t 54) (.t 55), none, 384⟩,
  ⟨(some 57), .indexAddr none 1 (.t 53) (.t 56), none, 960⟩,
  ⟨(some 58), .load false 1 (.t 57), none, 1984⟩,
  ⟨(some 59), .mov (.t 0), none, 0⟩,
  ⟨(some 60), .mov (.t 9), none, 0⟩,
  ⟨(some 61), .indexAddr none 1 (.t 59) (.t 60), none, 12288⟩,
  ⟨(some 62), .load false 1 (.t 61), none, 28672⟩,
  ⟨(some 63), .indexAddr none 1 (.t 47) (.t 48), none, 65475⟩,
  ⟨none, .store 1 (.t 63) (.t 58), none, 131011⟩,
  ⟨(some 64), .indexAddr none 1 (.t 49) (.t 52), none, 262143⟩,
  ⟨none, .store 1 (.t 64) (.t 62), none, 524287⟩]
def c_slices_breakPatternsOrdered_int_r10 : List AO := [⟨(some 34), .mov (.t 9), none, 0⟩,
  ⟨(some 35), .bin .add (.t 34) (.k (.sc (.int .i64 1))), none, 0⟩,
  ⟨(some 9), .mov (.t 35), none, 0⟩]
def c_slices_breakPatternsOrdered_int_l0 : AC := .seq (.seq (.reg c_slices_breakPatternsOrdered_int_r5 false) (.cond (.t 33) (.skip) (.exit 0))) (.seq (.blk 1 (.seq (.reg c_slices_breakPatternsOrdered_int_r6 false) (.seq (.seq (.reg c_slices_breakPatternsOrdered_int_r7 false) (.cond (.t 43) (.reg c_slices_breakPatternsOrdered_int_r8 false) (.skip))) (.reg c_slices_breakPatternsOrdered_int_r9 true)))) (.reg c_slices_breakPatternsOrdered_int_r10 false))
def c_slices_breakPatternsOrdered_int : AFn := { code := .seq (.reg c_slices_breakPatternsOrdered_int_r0 false) (.seq (.reg c_slices_breakPatternsOrdered_int_r1 false) (.cond (.t 15) (.seq (.reg c_slices_breakPatternsOrdered_int_r2 false) (.seq (.reg c_slices_breakPatternsOrdered_int_r3 false) (.seq (.reg c_slices_breakPatternsOrdered_int_r4 false) (.blk 0 (.loop c_slices_breakPatternsOrdered_int_l0))))) (.skip))), ntmps := 65, results := [] }
/-- 90 slices.choosePivotOrdered[int] -/
def c_slices_choosePivotOrdered_int_r0 : List AO := [⟨(some 6), .mov (.k (.sc (.int .i64 0))), none, 0⟩,
  ⟨(some 7), .mov (.k (.sc (.int .i64 0))), none, 0⟩]
def c_slices_choosePivotOrdered_int_r1 : List AO := [⟨(some 13), .mov (.t 2), none, 0⟩,
  ⟨(some 14), .mov (.t 1), none, 0⟩,
  ⟨(some 15), .bin .sub (.t 13) (.t 14), none, 0⟩,
  ⟨(some 8), .mov (.t 15), none, 0⟩]
def c_slices_choosePivotOrdered_int_r2 : List AO := [⟨(some 9), .alloc [(.sc (.int .i64 0))], none, 0⟩]
def c_slices_choosePivotOrdered_int_r3 : List AO := [⟨(some 16), .mov (.t 1), none, 0⟩,
  ⟨(some 17), .mov (.t 8), none, 0⟩,
  ⟨(some 18), .bin .quo (.t 17) (.k (.sc (.int .i64 4))), none, 0⟩,
  ⟨(some 19), .bin .mul (.t 18) (.k (.sc (.int .i64 1))), none, 0⟩,
  ⟨(some 20), .bin .add (.t 16) (.t 19), none, 0⟩,
  ⟨(some 10), .mov (.t 20), none, 0⟩]
def c_slices_choosePivotOrdered_int_r4 : List AO := [⟨(some 21), .mov (.t 1), none, 0⟩,
  ⟨(some 22), .mov (.t 8), none, 0⟩,
  ⟨(some 23), .bin .quo (.t 22) (.k (.sc (.int .i64 4))), none, 0⟩,
  ⟨(some 24), .bin .mul (.t 23) (.k (.sc (.int .i64 2))), none, 0⟩,
  ⟨(some 25), .bin .add (.t 21) (.t 24), none, 0⟩,
  ⟨(some 11), .mov (.t 25), none, 0⟩]
def c_slices_choosePivotOrdered_int_r5 : List AO := [⟨(some 26), .mov (.t 1), none, 0⟩,
  ⟨(some 27), .mov (.t 8), none, 0⟩,
  ⟨(some 28), .bin .quo (.t 27) (.k (.sc (.int .i64 4))), none, 0⟩,
  ⟨(some 29), .bin .mul (.t 28) (.k (.sc (.int .i64 3))), none, 0⟩,
  ⟨(some 30), .bin .add (.t 26) (.t 29), none, 0⟩,
  ⟨(some 12), .mov (.t 30), none, 0⟩]
def c_slices_choosePivotOrdered_int_r6 : List AO := [⟨(some 31), .mov (.t 8), none, 0⟩,
  ⟨(some 32), .bin .geq (.t 31) (.k (.sc (.int .i64 8))), none, 0⟩]
def c_slices_choosePivotOrdered_int_r7 : List AO := [⟨(some 33), .mov (.t 8), none, 0⟩,
  ⟨(some 34), .bin .geq (.t 33) (.k (.sc (.int .i64 50))), none, 0⟩]
def c_slices_choosePivotOrdered_int_r8 : List AO := [⟨(some 35), .mov (.t 0), none, 0⟩,
  ⟨(some 36), .mov (.t 10), none, 0⟩,
  ⟨(some 37), .call (.k (.fn (.func f_slices_medianAdjacentOrdered_int) [] [])) [(.t 35), (.t 36), (.t 9)], none, 0⟩,
  ⟨(some 10), .mov (.t 37), none, 0⟩]
def c_slices_choosePivotOrdered_int_r9 : List AO := [⟨(some 38), .mov (.t 0), none, 0⟩,
  ⟨(some 39), .mov (.t 11), none, 0⟩,
  ⟨(some 40), .call (.k (.fn (.func f_slices_medianAdjacentOrdered_int) [] [])) [(.t 38), (.t 39), (.t 9)], none, 0⟩,
  ⟨(some 11), .mov (.t 40), none, 0⟩]
def c_slices_choosePivotOrdered_int_r10 : List AO := [⟨(some 41), .mov (.t 0), none, 0⟩,
  ⟨(some 42), .mov (.t 12), none, 0⟩,
  ⟨(some 43), .call (.k (.fn (.func f_slices_medianAdjacentOrdered_int) [] [])) [(.t 41), (.t 42), (.t 9)], none, 0⟩,
  ⟨(some 12), .mov (.t 43), none, 0⟩]
def c_slices_choosePivotOrdered_int_r11 : List AO := [⟨(some 44), .mov (.t 0), none, 0⟩,
  ⟨(some 45), .mov (.t 10), none, 0⟩,
  ⟨(some 46), .mov (.t 11), none, 0⟩,
  ⟨(some 47), .mov (.t 12), none, 0⟩,
  ⟨(some 48), .call (.k (.fn (.func f_slices_medianOrdered_int) [] [])) [(.t 44), (.t 45), (.t 46), (.t 47), (.t 9)], none, 0⟩,
  ⟨(some 11), .mov (.t 48), none, 0⟩]
def c_slices_choosePivotOrdered_int_r12 : List AO := [⟨(some 49), .load false 1 (.t 9), none, 0⟩]
def c_slices_choosePivotOrdered_int_r13 : List AO := [⟨(some 52), .bin .eql (.t 49) (.k (.sc (.int .i64 0))), none, 0⟩,
  ⟨(some 51), .mov (.t 52), none, 0⟩]
def c_slices_choosePivotOrdered_int_r14 : List AO := [⟨(some 53), .mov (.t 11), none, 0⟩,
  ⟨(some 6), .mov (.t 53), none, 0⟩,
  ⟨(some 7), .mov (.k (.sc (.int .i64 1))), none, 0⟩]
def c_slices_choosePivotOrdered_int_r15 : List AO := [⟨(some 55), .bin .eql (.t 49) (.k (.sc (.int .i64 12))), none, 0⟩,
  ⟨(some 54), .mov (.t 55), none, 0⟩]
def c_slices_choosePivotOrdered_int_r16 : List AO := [⟨(some 56), .mov (.t 11), none, 0⟩,
  ⟨(some 6), .mov (.t 56), none, 0⟩,
  ⟨(some 7), .mov (.k (.sc (.int .i64 2))), none, 0⟩]
def c_slices_choosePivotOrdered_int_r17 : List AO := [⟨(some 50), .mov (.t 11), none, 0⟩,
  ⟨(some 6), .mov (.t 50), none, 0⟩,
  ⟨(some 7), .mov (.k (.sc (.int .i64 0))), none, 0⟩]
def c_slices_choosePivotOrdered_int : AFn := { code := .seq (.reg c_slices_choosePivotOrdered_int_r0 false) (.seq (.reg c_slices_choosePivotOrdered_int_r1 false) (.seq (.reg c_slices_choosePivotOrdered_int_r2 false) (.seq (.reg c_slices_choosePivotOrdered_int_r3 false) (.seq (.reg c_slices_choosePivotOrdered_int_r4 false) (.seq (.reg c_slices_choosePivotOrdered_int_r5 false) (.seq (.seq (.reg c_slices_choosePivotOrdered_int_r6 false) (.cond (.t 32) (.seq (.seq (.reg c_slices_choosePivotOrdered_int_r7 false) (.cond (.t 34) (.seq (.reg c_slices_choosePivotOrdered_int_r8 false) (.seq (.reg c_slices_choosePivotOrdered_int_r9 false) (.reg c_slices_choosePivotOrdered_int_r10 false))) (.skip))) (.reg c_slices_choosePivotOrdered_int_r11 false)) (.skip))) (.seq (.reg c_slices_choosePivotOrdered_int_r12 false) (.blk 0 (.seq (.reg c_slices_choosePivotOrdered_int_r13 false) (.cond (.t 51) (.seq (.reg c_slices_choosePivotOrdered_int_r14 false) (.ret)) (.seq (.reg c_slices_choosePivotOrdered_int_r15 false) (.cond (.t 54) (.seq (.reg c_slices_choosePivotOrdered_int_r16 false) (.ret)) (.seq (.reg c_slices_choosePivotOrdered_int_r17 false) (.ret)))))))))))))), ntmps := 57, results := [.tmp 6, .tmp 7] }
/-- 91 slices.reverseRangeOrdered[int] -/
def c_slices_reverseRangeOrdered_int_r0 : List AO := [⟨(some 8), .mov (.t 1), none, 0⟩,
  ⟨(some 6), .mov (.t 8), none, 0⟩]
def c_slices_reverseRangeOrdered_int_r1 : List AO := [⟨(some 9), .mov (.t 2), none, 0⟩,
  ⟨(some 10), .bin .sub (.t 9) (.k (.sc (.int .i64 1))), none, 0⟩,
  ⟨(some 7), .mov (.t 10), none, 0⟩]
def c_slices_reverseRangeOrdered_int_r2 : List AO := [⟨(some 11), .mov (.t 6), none, 0⟩,
  ⟨(some 12), .mov (.t 7), none, 0⟩,
  ⟨(some 13), .bin .lss (.t 11) (.t 12), none, 0⟩]
def c_slices_reverseRangeOrdered_int_r3 : List AO := [⟨(some 14), .mov (.t 0), none, 0⟩,
  ⟨(some 15), .mov (.t 6), none, 0⟩,
  ⟨(some 16), .mov (.t 0), none, 0⟩,
  ⟨(some 17), .mov (.t 7), none, 0⟩,
  ⟨(some 18), .mov (.t 0), none, 0⟩,
  ⟨(some 19), .mov (.t 7), none, 0⟩,
  ⟨(some 20), .indexAddr none 1 (.t 18) (.t 19), none, 48⟩,
  ⟨(some 21), .load false 1 (.t 20), none, 112⟩,
  ⟨(some 22), .mov (.t 0), none, 0⟩,
  ⟨(some 23), .mov (.t 6), none, 0⟩,
  ⟨(some 24), .indexAddr none 1 (.t 22) (.t 23), none, 768⟩,
  ⟨(some 25), .load false 1 (.t 24), none, 1792⟩,
  ⟨(some 26), .indexAddr none 1 (.t 14) (.t 15), none, 4083⟩,
  ⟨none, .store 1 (.t 26) (.t 21), none, 8179⟩,
  ⟨(some 27), .indexAddr none 1 (.t 16) (.t 17), none, 16383⟩,
  ⟨none, .store 1 (.t 27) (.t 25), none, 32767⟩]
def c_slices_reverseRangeOrdered_int_r4 : List AO := [⟨(some 28), .mov (.t 6), none, 0⟩,
  ⟨(some 29), .bin .add (.t 28) (.k (.sc (.int .i64 1))), none, 0⟩,
  ⟨(some 6), .mov (.t 29), none, 0⟩]
def c_slices_reverseRangeOrdered_int_r5 : List AO := [⟨(some 30), .mov (.t 7), none, 0⟩,
  ⟨(some 31), .bin .sub (.t 30) (.k (.sc (.int .i64 1))), none, 0⟩,
  ⟨(some 7), .mov (.t 31), none, 0⟩]
def c_slices_reverseRangeOrdered_int_l0 : AC := .seq (.seq (.reg c_slices_reverseRangeOrdered_int_r2 false) (.cond (.t 13) (.skip) (.exit 0))) (.blk 1 (.seq (.reg c_slices_reverseRangeOrdered_int_r3 true) (.seq (.reg c_slices_reverseRangeOrdered_int_r4 false) (.reg c_slices_reverseRangeOrdered_int_r5 false))))
def c_slices_reverseRangeOrdered_int : AFn := { code := .seq (.reg c_slices_reverseRangeOrdered_int_r0 false) (.seq (.reg c_slices_reverseRangeOrdered_int_r1 false) (.blk 0 (.loop c_slices_reverseRangeOrdered_int_l0))), ntmps := 32, results := [] }
/-- 92 slices.partialInsertionSortOrdered[int] -/
def c_slices_partialInsertionSortOrdered_int_r0 : List AO := [⟨(some 6), .mov (.k (.sc (.bool false))), none, 0⟩]
def c_slices_partialInsertionSortOrdered_int_r1 : List AO := [⟨(some 11), .mov (.t 1), none, 0⟩,
  ⟨(some 12), .bin .add (.t 11) (.k (.sc (.int .i64 1))), none, 0⟩,
  ⟨(some 7), .mov (.t 12), none, 0⟩]
def c_slices_partialInsertionSortOrdered_int_r2 : List AO := [⟨(some 8), .mov (.k (.sc (.int .i64 0))), none, 0⟩]
def c_slices_partialInsertionSortOrdered_int_r3 : List AO := [⟨(some 13), .mov (.t 8), none, 0⟩,
  ⟨(some 14), .bin .lss (.t 13) (.k (.sc (.int .i64 5))), none, 0⟩]
def c_slices_partialInsertionSortOrdered_int_r4 : List AO := [⟨(some 17), .mov (.t 7), none, 0⟩,
  ⟨(some 18), .mov (.t 2), none, 0⟩,
  ⟨(some 19), .bin .lss (.t 17) (.t 18), none, 3⟩,
  ⟨(some 20), .mov (.t 19), none, 7⟩,
  ⟨(some 21), .mov (.t 0), (some ((some 20), true)), 15⟩,
  ⟨(some 22), .mov (.t 7), (some ((some 20), true)), 15⟩,
  ⟨(some 23), .indexAddr none 1 (.t 21) (.t 22), (some ((some 20), true)), 63⟩,
  ⟨(some 24), .load false 1 (.t 23), (some ((some 20), true)), 127⟩,
  ⟨(some 25), .mov (.t 0), (some ((some 20), true)), 15⟩,
  ⟨(some 26), .mov (.t 7), (some ((some 20), true)), 15⟩,
  ⟨(some 27), .bin .sub (.t 26) (.k (.sc (.int .i64 1))), (some ((some 20), true)), 527⟩,
  ⟨(some 28), .indexAddr none 1 (.t 25) (.t 27), (some ((some 20), true)), 1807⟩,
  ⟨(some 29), .load false 1 (.t 28), (some ((some 20), true)), 3855⟩,
  ⟨(some 30), .call (.k (.fn (.func f_cmp_Less_int) [] [])) [(.t 24), (.t 29)], (some ((some 20), true)), 8191⟩,
  ⟨(some 31), .un .not (.t 30), (some ((some 20), true)), 16383⟩,
  ⟨(some 32), .pick (.t 20) (.t 31) (.k (.sc (.bool false))), none, 32767⟩]
def c_slices_partialInsertionSortOrdered_int_r5 : List AO := [⟨(some 33), .mov (.t 7), none, 0⟩,
  ⟨(some 34), .bin .add (.t 33) (.k (.sc (.int .i64 1))), none, 0⟩,
  ⟨(some 7), .mov (.t 34), none, 0⟩]
def c_slices_partialInsertionSortOrdered_int_l0 : AC := .seq (.seq (.reg c_slices_partialInsertionSortOrdered_int_r4 true) (.cond (.t 32) (.skip) (.exit 2))) (.blk 3 (.reg c_slices_partialInsertionSortOrdered_int_r5 false))
def c_slices_partialInsertionSortOrdered_int_r6 : List AO := [⟨(some 35), .mov (.t 7), none, 0⟩,
  ⟨(some 36), .mov (.t 2), none, 0⟩,
  ⟨(some 37), .bin .eql (.t 35) (.t 36), none, 0⟩]
def c_slices_partialInsertionSortOrdered_int_r7 : List AO := [⟨(some 6), .mov (.k (.sc (.bool true))), none, 0⟩]
def c_slices_partialInsertionSortOrdered_int_r8 : List AO := [⟨(some 38), .mov (.t 2), none, 0⟩,
  ⟨(some 39), .mov (.t 1), none, 0⟩,
  ⟨(some 40), .bin .sub (.t 38) (.t 39), none, 0⟩,
  ⟨(some 41), .bin .lss (.t 40) (.k (.sc (.int .i64 50))), none, 0⟩]
def c_slices_partialInsertionSortOrdered_int_r9 : List AO := [⟨(some 6), .mov (.k (.sc (.bool false))), none, 0⟩]
def c_slices_partialInsertionSortOrdered_int_r10 : List AO := [⟨(some 42), .mov (.t 0), none, 0⟩,
  ⟨(some 43), .mov (.t 7), none, 0⟩,
  ⟨(some 44), .mov (.t 0), none, 0⟩,
  ⟨(some 45), .mov (.t 7), none, 0⟩,
  ⟨(some 46), .bin .sub (.t 45) (.k (.sc (.int .i64 1))), none, 8⟩,
  ⟨(some 47), .mov (.t 0), none, 0⟩,
  ⟨(some 48), .mov (.t 7), none, 0⟩,
  ⟨(some 49), .bin .sub (.t 48) (.k (.sc (.int .i64 1))), none, 64⟩,
  ⟨(some 50), .indexAddr none 1 (.t 47) (.t 49), none, 224⟩,
  ⟨(some 51), .load false 1 (.t 50), none, 480⟩,
  ⟨(some 52), .mov (.t 0), none, 0⟩,
  ⟨(some 53), .mov (.t 7), none, 0⟩,
  ⟨(some 54), .indexAddr none 1 (.t 52) (.t 53), none, 3072⟩,
  ⟨(some 55), .load false 1 (.t 54), none, 7168⟩,
  ⟨(some 56), .indexAddr none 1 (.t 42) (.t 43), none, 16355⟩,
  ⟨none, .store 1 (.t 56) (.t 51), none, 32739⟩,
  ⟨(some 57), .indexAddr none 1 (.t 44) (.t 46), none, 65535⟩,
  ⟨none, .store 1 (.t 57) (.t 55), none, 131071⟩]
def c_slices_partialInsertionSortOrdered_int_r11 : List AO := [⟨(some 58), .mov (.t 7), none, 0⟩,
  ⟨(some 59), .mov (.t 1), none, 0⟩,
  ⟨(some 60), .bin .sub (.t 58) (.t 59), none, 0⟩,
  ⟨(some 61), .bin .geq (.t 60) (.k (.sc (.int .i64 2))), none, 0⟩]
def c_slices_partialInsertionSortOrdered_int_r12 : List AO := [⟨(some 62), .mov (.t 7), none, 0⟩,
  ⟨(some 63), .bin .sub (.t 62) (.k (.sc (.int .i64 1))), none, 0⟩,
  ⟨(some 9), .mov (.t 63), none, 0⟩]
def c_slices_partialInsertionSortOrdered_int_r13 : List AO := [⟨(some 64), .mov (.t 9), none, 0⟩,
  ⟨(some 65), .bin .geq (.t 64) (.k (.sc (.int .i64 1))), none, 0⟩]
def c_slices_partialInsertionSortOrdered_int_r14 : List AO := [⟨(some 68), .mov (.t 0), none, 0⟩,
  ⟨(some 69), .mov (.t 9), none, 0⟩,
  ⟨(some 70), .indexAddr none 1 (.t 68) (.t 69), none, 3⟩,
  ⟨(some 71), .load false 1 (.t 70), none, 7⟩,
  ⟨(some 72), .mov (.t 0), none, 0⟩,
  ⟨(some 73), .mov (.t 9), none, 0⟩,
  ⟨(some 74), .bin .sub (.t 73) (.k (.sc (.int .i64 1))), none, 32⟩,
  ⟨(some 75), .indexAddr none 1 (.t 72) (.t 74), none, 112⟩,
  ⟨(some 76), .load false 1 (.t 75), none, 240⟩,
  ⟨(some 77), .call (.k (.fn (.func f_cmp_Less_int) [] [])) [(.t 71), (.t 76)], none, 511⟩,
  ⟨(some 78), .un .not (.t 77), none, 1023⟩]
def c_slices_partialInsertionSortOrdered_int_r15 : List AO := [⟨(some 79), .mov (.t 0), none, 0⟩,
  ⟨(some 80), .mov (.t 9), none, 0⟩,
  ⟨(some 81), .mov (.t 0), none, 0⟩,
  ⟨(some 82), .mov (.t 9), none, 0⟩,
  ⟨(some 83), .bin .sub (.t 82) (.k (.sc (.int .i64 1))), none, 8⟩,
  ⟨(some 84), .mov (.t 0), none, 0⟩,
  ⟨(some 85), .mov (.t 9), none, 0⟩,
  ⟨(some 86), .bin .sub (.t 85) (.k (.sc (.int .i64 1))), none, 64⟩,
  ⟨(some 87), .indexAddr none 1 (.t 84) (.t 86), none, 224⟩,
  ⟨(some 88), .load false 1 (.t 87), none, 480⟩,
  ⟨(some 89), .mov (.t 0), none, 0⟩,
  ⟨(some 90), .mov (.t 9), none, 0⟩,
  ⟨(some 91), .indexAddr none 1 (.t 89) (.t 90), none, 3072⟩,
  ⟨(some 92), .load false 1 (.t 91), none, 7168⟩,
  ⟨(some 93), .indexAddr none 1 (.t 79) (.t 80), none, 16355⟩,
  ⟨none, .store 1 (.t 93) (.t 88), none, 32739⟩,
  ⟨(some 94), .indexAddr none 1 (.t 81) (.t 83), none, 65535⟩,
  ⟨none, .store 1 (.t 94) (.t 92), none, 131071⟩]
def c_slices_partialInsertionSortOrdered_int_r16 : List AO := [⟨(some 66), .mov (.t 9), none, 0⟩,
  ⟨(some 67), .bin .sub (.t 66) (.k (.sc (.int .i64 1))), none, 0⟩,
  ⟨(some 9), .mov (.t 67), none, 0⟩]
def c_slices_partialInsertionSortOrdered_int_l1 : AC := .seq (.seq (.reg c_slices_partialInsertionSortOrdered_int_r13 false) (.cond (.t 65) (.skip) (.exit 4))) (.seq (.blk 5 (.seq (.seq (.reg c_slices_partialInsertionSortOrdered_int_r14 true) (.cond (.t 78) (.exit 4) (.skip))) (.reg c_slices_partialInsertionSortOrdered_int_r15 true))) (.reg c_slices_partialInsertionSortOrdered_int_r16 false))
def c_slices_partialInsertionSortOrdered_int_r17 : List AO := [⟨(some 95), .mov (.t 2), none, 0⟩,
  ⟨(some 96), .mov (.t 7), none, 0⟩,
  ⟨(some 97), .bin .sub (.t 95) (.t 96), none, 0⟩,
  ⟨(some 98), .bin .geq (.t 97) (.k (.sc (.int .i64 2))), none, 0⟩]
def c_slices_partialInsertionSortOrdered_int_r18 : List AO := [⟨(some 99), .mov (.t 7), none, 0⟩,
  ⟨(some 100), .bin .add (.t 99) (.k (.sc (.int .i64 1))), none, 0⟩,
  ⟨(some 10), .mov (.t 100), none, 0⟩]
def c_slices_partialInsertionSortOrdered_int_r19 : List AO := [⟨(some 101), .mov (.t 10), none, 0⟩,
  ⟨(some 102), .mov (.t 2), none, 0⟩,
  ⟨(some 103), .bin .lss (.t 101) (.t 102), none, 0⟩]
def c_slices_partialInsertionSortOrdered_int_r20 : List AO := [⟨(some 106), .mov (.t 0), none, 0⟩,
  ⟨(some 107), .mov (.t 10), none, 0⟩,
  ⟨(some 108), .indexAddr none 1 (.t 106) (.t 107), none, 3⟩,
  ⟨(some 109), .load false 1 (.t 108), none, 7⟩,
  ⟨(some 110), .mov (.t 0), none, 0⟩,
  ⟨(some 111), .mov (.t 10), none, 0⟩,
  ⟨(some 112), .bin .sub (.t 111) (.k (.sc (.int .i64 1))), none, 32⟩,
  ⟨(some 113), .indexAddr none 1 (.t 110) (.t 112), none, 112⟩,
  ⟨(some 114), .load false 1 (.t 113), none, 240⟩,
  ⟨(some 115), .call (.k (.fn (.func f_cmp_Less_int) [] [])) [(.t 109), (.t 114)], none, 511⟩,
  ⟨(some 116), .un .not (.t 115), none, 1023⟩]
def c_slices_partialInsertionSortOrdered_int_r21 : List AO := [⟨(some 117), .mov (.t 0), none, 0⟩,
  ⟨(some 118), .mov (.t 10), none, 0⟩,
  ⟨(some 119), .mov (.t 0), none, 0⟩,
  ⟨(some 120), .mov (.t 10), none, 0⟩,
  ⟨(some 121), .bin .sub (.t 120) (.k (.sc (.int .i64 1))), none, 8⟩,
  ⟨(some 122), .mov (.t 0), none, 0⟩,
  ⟨(some 123), .mov (.t 10), none, 0⟩,
  ⟨(some 124), .bin .sub (.t 123) (.k (.sc (.int .i64 1))), none, 64⟩,
  ⟨(some 125), .indexAddr none 1 (.t 122) (.t 124), none, 224⟩,
  ⟨(some 126), .load false 1 (.t 125), none, 480⟩,
  ⟨(some 127), .mov (.t 0), none, 0⟩,
  ⟨(some 128), .mov (.t 10), none, 0⟩,
  ⟨(some 129), .indexAddr none 1 (.t 127) (.t 128), none, 3072⟩,
  ⟨(some 130), .load false 1 (.t 129), none, 7168⟩,
  ⟨(some 131), .indexAddr none 1 (.t 117) (.t 118), none, 16355⟩,
  ⟨none, .store 1 (.t 131) (.t 126), none, 32739⟩,
  ⟨(some 132), .indexAddr none 1 (.t 119) (.t 121), none, 65535⟩,
  ⟨none, .store 1 (.t 132) (.t 130), none, 131071⟩]
def c_slices_partialInsertionSortOrdered_int_r22 : List AO := [⟨(some 104), .mov (.t 10), none, 0⟩,
  ⟨(some 105), .bin .add (.t 104) (.k (.sc (.int .i64 1))), none, 0⟩,
  ⟨(some 10), .mov (.t 105), none, 0⟩]
def c_slices_partialInsertionSortOrdered_int_l2 : AC := .seq (.seq (.reg c_slices_partialInsertionSortOrdered_int_r19 false) (.cond (.t 103) (.skip) (.exit 6))) (.seq (.blk 7 (.seq (.seq (.reg c_slices_partialInsertionSortOrdered_int_r20 true) (.cond (.t 116) (.exit 6) (.skip))) (.reg c_slices_partialInsertionSortOrdered_int_r21 true))) (.reg c_slices_partialInsertionSortOrdered_int_r22 false))
def c_slices_partialInsertionSortOrdered_int_r23 : List AO := [⟨(some 15), .mov (.t 8), none, 0⟩,
  ⟨(some 16), .bin .add (.t 15) (.k (.sc (.int .i64 1))), none, 0⟩,
  ⟨(some 8), .mov (.t 16), none, 0⟩]
def c_slices_partialInsertionSortOrdered_int_l3 : AC := .seq (.seq (.reg c_slices_partialInsertionSortOrdered_int_r3 false) (.cond (.t 14) (.skip) (.exit 0))) (.seq (.blk 1 (.seq (.blk 2 (.loop c_slices_partialInsertionSortOrdered_int_l0)) (.seq (.seq (.reg c_slices_partialInsertionSortOrdered_int_r6 false) (.cond (.t 37) (.seq (.reg c_slices_partialInsertionSortOrdered_int_r7 false) (.ret)) (.skip))) (.seq (.seq (.reg c_slices_partialInsertionSortOrdered_int_r8 false) (.cond (.t 41) (.seq (.reg c_slices_partialInsertionSortOrdered_int_r9 false) (.ret)) (.skip))) (.seq (.reg c_slices_partialInsertionSortOrdered_int_r10 true) (.seq (.seq (.reg c_slices_partialInsertionSortOrdered_int_r11 false) (.cond (.t 61) (.seq (.reg c_slices_partialInsertionSortOrdered_int_r12 false) (.blk 4 (.loop c_slices_partialInsertionSortOrdered_int_l1))) (.skip))) (.seq (.reg c_slices_partialInsertionSortOrdered_int_r17 false) (.cond (.t 98) (.seq (.reg c_slices_partialInsertionSortOrdered_int_r18 false) (.blk 6 (.loop c_slices_partialInsertionSortOrdered_int_l2))) (.skip))))))))) (.reg c_slices_partialInsertionSortOrdered_int_r23 false))
def c_slices_partialInsertionSortOrdered_int_r24 : List AO := [⟨(some 6), .mov (.k (.sc (.bool false))), none, 0⟩]
def c_slices_partialInsertionSortOrdered_int : AFn := { code := .seq (.reg c_slices_partialInsertionSortOrdered_int_r0 false) (.seq (.reg c_slices_partialInsertionSortOrdered_int_r1 false) (.seq (.seq (.reg c_slices_partialInsertionSortOrdered_int_r2 false) (.blk 0 (.loop c_slices_partialInsertionSortOrdered_int_l3))) (.seq (.reg c_slices_partialInsertionSortOrdered_int_r24 false) (.ret)))), ntmps := 133, results := [.tmp 6] }
/-- 93 cmp.Less[int] -/
def c_cmp_Less_int_r0 : List AO := [⟨(some 4), .mov (.k (.sc (.bool false))), none, 0⟩]
def c_cmp_Less_int_r1 : List AO := [⟨(some 5), .mov (.t 0), none, 0⟩,
  ⟨(some 6), .call (.k (.fn (.func f_cmp_isNaN_int) [] [])) [(.t 5)], none, 0⟩,
  ⟨(some 7), .mov (.t 6), none, 0⟩,
  ⟨(some 8), .mov (.t 1), (some ((some 7), true)), 0⟩,
  ⟨(some 9), .call (.k (.fn (.func f_cmp_isNaN_int) [] [])) [(.t 8)], (some ((some 7), true)), 0⟩,
  ⟨(some 10), .un .not (.t 9), (some ((some 7), true)), 0⟩,
  ⟨(some 11), .pick (.t 7) (.t 10) (.k (.sc (.bool false))), none, 0⟩,
  ⟨(some 12), .mov (.t 11), none, 0⟩,
  ⟨(some 13), .mov (.t 0), (some ((some 12), false)), 0⟩,
  ⟨(some 14), .mov (.t 1), (some ((some 12), false)), 0⟩,
  ⟨(some 15), .bin .lss (.t 13) (.t 14), (some ((some 12), false)), 0⟩,
  ⟨(some 16), .pick (.t 12) (.k (.sc (.bool true))) (.t 15), none, 0⟩,
  ⟨(some 4), .mov (.t 16), none, 0⟩]
def c_cmp_Less_int : AFn := { code := .seq (.reg c_cmp_Less_int_r0 false) (.seq (.reg c_cmp_Less_int_r1 false) (.ret)), ntmps := 17, results := [.tmp 4] }
/-- 94 slices.partitionEqualOrdered[int] -/
def c_slices_partitionEqualOrdered_int_r0 : List AO := [⟨(some 8), .mov (.k (.sc (.int .i64 0))), none, 0⟩]
def c_slices_partitionEqualOrdered_int_r1 : List AO := [⟨(some 11), .mov (.t 0), none, 0⟩,
  ⟨(some 12), .mov (.t 1), none, 0⟩,
  ⟨(some 13), .mov (.t 0), none, 0⟩,
  ⟨(some 14), .mov (.t 3), none, 0⟩,
  ⟨(some 15), .mov (.t 0), none, 0⟩,
  ⟨(some 16), .mov (.t 3), none, 0⟩,
  ⟨(some 17), .indexAddr none 1 (.t 15) (.t 16), none, 48⟩,
  ⟨(some 18), .load false 1 (.t 17), none, 112⟩,
  ⟨(some 19), .mov (.t 0), none, 0⟩,
  ⟨(some 20), .mov (.t 1), none, 0⟩,
  ⟨(some 21), .indexAddr none 1 (.t 19) (.t 20), none, 768⟩,
  ⟨(some 22), .load false 1 (.t 21), none, 1792⟩,
  ⟨(some 23), .indexAddr none 1 (.t 11) (.t 12), none, 4083⟩,
  ⟨none, .store 1 (.t 23) (.t 18), none, 8179⟩,
  ⟨(some 24), .indexAddr none 1 (.t 13) (.t 14), none, 16383⟩,
  ⟨none, .store 1 (.t 24) (.t 22), none, 32767⟩]
def c_slices_partitionEqualOrdered_int_r2 : List AO := [⟨(some 25), .mov (.t 1), none, 0⟩,
  ⟨(some 26), .bin .add (.t 25) (.k (.sc (.int .i64 1))), none, 0⟩,
  ⟨(some 27), .mov (.t 2), none, 0⟩,
  ⟨(some 28), .bin .sub (.t 27) (.k (.sc (.int .i64 1))), none, 0⟩,
  ⟨(some 9), .mov (.t 26), none, 0⟩,
  ⟨(some 10), .mov (.t 28), none, 0⟩]
def c_slices_partitionEqualOrdered_int_r3 : List AO := [⟨(some 29), .mov (.t 9), none, 0⟩,
  ⟨(some 30), .mov (.t 10), none, 0⟩,
  ⟨(some 31), .bin .leq (.t 29) (.t 30), none, 3⟩,
  ⟨(some 32), .mov (.t 31), none, 7⟩,
  ⟨(some 33), .mov (.t 0), (some ((some 32), true)), 15⟩,
  ⟨(some 34), .mov (.t 1), (some ((some 32), true)), 15⟩,
  ⟨(some 35), .indexAddr none 1 (.t 33) (.t 34), (some ((some 32), true)), 63⟩,
  ⟨(some 36), .load false 1 (.t 35), (some ((some 32), true)), 127⟩,
  ⟨(some 37), .mov (.t 0), (some ((some 32), true)), 15⟩,
  ⟨(some 38), .mov (.t 9), (some ((some 32), true)), 15⟩,
  ⟨(some 39), .indexAddr none 1 (.t 37) (.t 38), (some ((some 32), true)), 783⟩,
  ⟨(some 40), .load false 1 (.t 39), (some ((some 32), true)), 1807⟩,
  ⟨(some 41), .call (.k (.fn (.func f_cmp_Less_int) [] [])) [(.t 36), (.t 40)], (some ((some 32), true)), 4095⟩,
  ⟨(some 42), .un .not (.t 41), (some ((some 32), true)), 8191⟩,
  ⟨(some 43), .pick (.t 32) (.t 42) (.k (.sc (.bool false))), none, 16383⟩]
def c_slices_partitionEqualOrdered_int_r4 : List AO := [⟨(some 44), .mov (.t 9), none, 0⟩,
  ⟨(some 45), .bin .add (.t 44) (.k (.sc (.int .i64 1))), none, 0⟩,
  ⟨(some 9), .mov (.t 45), none, 0⟩]
def c_slices_partitionEqualOrdered_int_l0 : AC := .seq (.seq (.reg c_slices_partitionEqualOrdered_int_r3 true) (.cond (.t 43) (.skip) (.exit 2))) (.blk 3 (.reg c_slices_partitionEqualOrdered_int_r4 false))
def c_slices_partitionEqualOrdered_int_r5 : List AO := [⟨(some 46), .mov (.t 9), none, 0⟩,
  ⟨(some 47), .mov (.t 10), none, 0⟩,
  ⟨(some 48), .bin .leq (.t 46) (.t 47), none, 3⟩,
  ⟨(some 49), .mov (.t 48), none, 7⟩,
  ⟨(some 50), .mov (.t 0), (some ((some 49), true)), 15⟩,
  ⟨(some 51), .mov (.t 1), (some ((some 49), true)), 15⟩,
  ⟨(some 52), .indexAddr none 1 (.t 50) (.t 51), (some ((some 49), true)), 63⟩,
  ⟨(some 53), .load false 1 (.t 52), (some ((some 49), true)), 127⟩,
  ⟨(some 54), .mov (.t 0), (some ((some 49), true)), 15⟩,
  ⟨(some 55), .mov (.t 10), (some ((some 49), true)), 15⟩,
  ⟨(some 56), .indexAddr none 1 (.t 54) (.t 55), (some ((some 49), true)), 783⟩,
  ⟨(some 57), .load false 1 (.t 56), (some ((some 49), true)), 1807⟩,
  ⟨(some 58), .call (.k (.fn (.func f_cmp_Less_int) [] [])) [(.t 53), (.t 57)], (some ((some 49), true)), 4095⟩,
  ⟨(some 59), .pick (.t 49) (.t 58) (.k (.sc (.bool false))), none, 8191⟩]
def c_slices_partitionEqualOrdered_int_r6 : List AO := [⟨(some 60), .mov (.t 10), none, 0⟩,
  ⟨(some 61), .bin .sub (.t 60) (.k (.sc (.int .i64 1))), none, 0⟩,
  ⟨(some 10), .mov (.t 61), none, 0⟩]
def c_slices_partitionEqualOrdered_int_l1 : AC := .seq (.seq (.reg c_slices_partitionEqualOrdered_int_r5 true) (.cond (.t 59) (.skip) (.exit 4))) (.blk 5 (.reg c_slices_partitionEqualOrdered_int_r6 false))
def c_slices_partitionEqualOrdered_int_r7 : List AO := [⟨(some 62), .mov (.t 9), none, 0⟩,
  ⟨(some 63), .mov (.t 10), none, 0⟩,
  ⟨(some 64), .bin .gtr (.t 62) (.t 63), none, 0⟩]
def c_slices_partitionEqualOrdered_int_r8 : List AO := [⟨(some 65), .mov (.t 0), none, 0⟩,
  ⟨(some 66), .mov (.t 9), none, 0⟩,
  ⟨(some 67), .mov (.t 0), none, 0⟩,
  ⟨(some 68), .mov (.t 10), none, 0⟩,
  ⟨(some 69), .mov (.t 0), none, 0⟩,
  ⟨(some 70), .mov (.t 10), none, 0⟩,
  ⟨(some 71), .indexAddr none 1 (.t 69) (.t 70), none, 48⟩,
  ⟨(some 72), .load false 1 (.t 71), none, 112⟩,
  ⟨(some 73), .mov (.t 0), none, 0⟩,
  ⟨(some 74), .mov (.t 9), none, 0⟩,
  ⟨(some 75), .indexAddr none 1 (.t 73) (.t 74), none, 768⟩,
  ⟨(some 76), .load false 1 (.t 75), none, 1792⟩,
  ⟨(some 77), .indexAddr none 1 (.t 65) (.t 66), none, 4083⟩,
  ⟨none, .store 1 (.t 77) (.t 72), none, 8179⟩,
  ⟨(some 78), .indexAddr none 1 (.t 67) (.t 68), none, 16383⟩,
  ⟨none, .store 1 (.t 78) (.t 76), none, 32767⟩]
def c_slices_partitionEqualOrdered_int_r9 : List AO := [⟨(some 79), .mov (.t 9), none, 0⟩,
  ⟨(some 80), .bin .add (.t 79) (.k (.sc (.int .i64 1))), none, 0⟩,
  ⟨(some 9), .mov (.t 80), none, 0⟩]
def c_slices_partitionEqualOrdered_int_r10 : List AO := [⟨(some 81), .mov (.t 10), none, 0⟩,
  ⟨(some 82), .bin .sub (.t 81) (.k (.sc (.int .i64 1))), none, 0⟩,
  ⟨(some 10), .mov (.t 82), none, 0⟩]
def c_slices_partitionEqualOrdered_int_l2 : AC := .blk 1 (.seq (.blk 2 (.loop c_slices_partitionEqualOrdered_int_l0)) (.seq (.blk 4 (.loop c_slices_partitionEqualOrdered_int_l1)) (.seq (.seq (.reg c_slices_partitionEqualOrdered_int_r7 false) (.cond (.t 64) (.exit 0) (.skip))) (.seq (.reg c_slices_partitionEqualOrdered_int_r8 true) (.seq (.reg c_slices_partitionEqualOrdered_int_r9 false) (.reg c_slices_partitionEqualOrdered_int_r10 false))))))
def c_slices_partitionEqualOrdered_int_r11 : List AO := [⟨(some 83), .mov (.t 9), none, 0⟩,
  ⟨(some 8), .mov (.t 83), none, 0⟩]
def c_slices_partitionEqualOrdered_int : AFn := { code := .seq (.reg c_slices_partitionEqualOrdered_int_r0 false) (.seq (.reg c_slices_partitionEqualOrdered_int_r1 true) (.seq (.reg c_slices_partitionEqualOrdered_int_r2 false) (.seq (.blk 0 (.loop c_slices_partitionEqualOrdered_int_l2)) (.seq (.reg c_slices_partitionEqualOrdered_int_r11 false) (.ret))))), ntmps := 84, results := [.tmp 8] }
/-- 95 slices.partitionOrdered[int] -/
def c_slices_partitionOrdered_int_r0 : List AO := [⟨(some 8), .mov (.k (.sc (.int .i64 0))), none, 0⟩,
  ⟨(some 9), .mov (.k (.sc (.bool false))), none, 0⟩]
def c_slices_partitionOrdered_int_r1 : List AO := [⟨(some 12), .mov (.t 0), none, 0⟩,
  ⟨(some 13), .mov (.t 1), none, 0⟩,
  ⟨(some 14), .mov (.t 0), none, 0⟩,
  ⟨(some 15), .mov (.t 3), none, 0⟩,
  ⟨(some 16), .mov (.t 0), none, 0⟩,
  ⟨(some 17), .mov (.t 3), none, 0⟩,
  ⟨(some 18), .indexAddr none 1 (.t 16) (.t 17), none, 48⟩,
  ⟨(some 19), .load false 1 (.t 18), none, 112⟩,
  ⟨(some 20), .mov (.t 0), none, 0⟩,
  ⟨(some 21), .mov (.t 1), none, 0⟩,
  ⟨(some 22), .indexAddr none 1 (.t 20) (.t 21), none, 768⟩,
  ⟨(some 23), .load false 1 (.t 22), none, 1792⟩,
  ⟨(some 24), .indexAddr none 1 (.t 12) (.t 13), none, 4083⟩,
  ⟨none, .store 1 (.t 24) (.t 19), none, 8179⟩,
  ⟨(some 25), .indexAddr none 1 (.t 14) (.t 15), none, 16383⟩,
  ⟨none, .store 1 (.t 25) (.t 23), none, 32767⟩]
def c_slices_partitionOrdered_int_r2 : List AO := [⟨(some 26), .mov (.t 1), none, 0⟩,
  ⟨(some 27), .bin .add (.t 26) (.k (.sc (.int .i64 1))), none, 0⟩,
  ⟨(some 28), .mov (.t 2), none, 0⟩,
  ⟨(some 29), .bin .sub (.t 28) (.k (.sc (.int .i64 1))), none, 0⟩,
  ⟨(some 10), .mov (.t 27), none, 0⟩,
  ⟨(some 11), .mov (.t 29), none, 0⟩]
def c_slices_partitionOrdered_int_r3 : List AO := [⟨(some 30), .mov (.t 10), none, 0⟩,
  ⟨(some 31), .mov (.t 11), none, 0⟩,
  ⟨(some 32), .bin .leq (.t 30) (.t 31), none, 3⟩,
  ⟨(some 33), .mov (.t 32), none, 7⟩,
  ⟨(some 34), .mov (.t 0), (some ((some 33), true)), 15⟩,
  ⟨(some 35), .mov (.t 10), (some ((some 33), true)), 15⟩,
  ⟨(some 36), .indexAddr none 1 (.t 34) (.t 35), (some ((some 33), true)), 63⟩,
  ⟨(some 37), .load false 1 (.t 36), (some ((some 33), true)), 127⟩,
  ⟨(some 38), .mov (.t 0), (some ((some 33), true)), 15⟩,
  ⟨(some 39), .mov (.t 1), (some ((some 33), true)), 15⟩,
  ⟨(some 40), .indexAddr none 1 (.t 38) (.t 39), (some ((some 33), true)), 783⟩,
  ⟨(some 41), .load false 1 (.t 40), (some ((some 33), true)), 1807⟩,
  ⟨(some 42), .call (.k (.fn (.func f_cmp_Less_int) [] [])) [(.t 37), (.t 41)], (some ((some 33), true)), 4095⟩,
  ⟨(some 43), .pick (.t 33) (.t 42) (.k (.sc (.bool false))), none, 8191⟩]
def c_slices_partitionOrdered_int_r4 : List AO := [⟨(some 44), .mov (.t 10), none, 0⟩,
  ⟨(some 45), .bin .add (.t 44) (.k (.sc (.int .i64 1))), none, 0⟩,
  ⟨(some 10), .mov (.t 45), none, 0⟩]
def c_slices_partitionOrdered_int_l0 : AC := .seq (.seq (.reg c_slices_partitionOrdered_int_r3 true) (.cond (.t 43) (.skip) (.exit 0))) (.blk 1 (.reg c_slices_partitionOrdered_int_r4 false))
def c_slices_partitionOrdered_int_r5 : List AO := [⟨(some 46), .mov (.t 10), none, 0⟩,
  ⟨(some 47), .mov (.t 11), none, 0⟩,
  ⟨(some 48), .bin .leq (.t 46) (.t 47), none, 3⟩,
  ⟨(some 49), .mov (.t 48), none, 7⟩,
  ⟨(some 50), .mov (.t 0), (some ((some 49), true)), 15⟩,
  ⟨(some 51), .mov (.t 11), (some ((some 49), true)), 15⟩,
  ⟨(some 52), .indexAddr none 1 (.t 50) (.t 51), (some ((some 49), true)), 63⟩,
  ⟨(some 53), .load false 1 (.t 52), (some ((some 49), true)), 127⟩,
  ⟨(some 54), .mov (.t 0), (some ((some 49), true)), 15⟩,
  ⟨(some 55), .mov (.t 1), (some ((some 49), true)), 15⟩,
  ⟨(some 56), .indexAddr none 1 (.t 54) (.t 55), (some ((some 49), true)), 783⟩,
  ⟨(some 57), .load false 1 (.t 56), (some ((some 49), true)), 1807⟩,
  ⟨(some 58), .call (.k (.fn (.func f_cmp_Less_int) [] [])) [(.t 53), (.t 57)], (some ((some 49), true)), 4095⟩,
  ⟨(some 59), .un .not (.t 58), (some ((some 49), true)), 8191⟩,
  ⟨(some 60), .pick (.t 49) (.t 59) (.k (.sc (.bool false))), none, 16383⟩]
def c_slices_partitionOrdered_int_r6 : List AO := [⟨(some 61), .mov (.t 11), none, 0⟩,
  ⟨(some 62), .bin .sub (.t 61) (.k (.sc (.int .i64 1))), none, 0⟩,
  ⟨(some 11), .mov (.t 62), none, 0⟩]
def c_slices_partitionOrdered_int_l1 : AC := .seq (.seq (.reg c_slices_partitionOrdered_int_r5 true) (.cond (.t 60) (.skip) (.exit 2))) (.blk 3 (.reg c_slices_partitionOrdered_int_r6 false))
def c_slices_partitionOrdered_int_r7 : List AO := [⟨(some 63), .mov (.t 10), none, 0⟩,
  ⟨(some 64), .mov (.t 11), none, 0⟩,
  ⟨(some 65), .bin .gtr (.t 63) (.t 64), none, 0⟩]
def c_slices_partitionOrdered_int_r8 : List AO := [⟨(some 66), .mov (.t 0), none, 0⟩,
  ⟨(some 67), .mov (.t 11), none, 0⟩,
  ⟨(some 68), .mov (.t 0), none, 0⟩,
  ⟨(some 69), .mov (.t 1), none, 0⟩,
  ⟨(some 70), .mov (.t 0), none, 0⟩,
  ⟨(some 71), .mov (.t 1), none, 0⟩,
  ⟨(some 72), .indexAddr none 1 (.t 70) (.t 71), none, 48⟩,
  ⟨(some 73), .load false 1 (.t 72), none, 112⟩,
  ⟨(some 74), .mov (.t 0), none, 0⟩,
  ⟨(some 75), .mov (.t 11), none, 0⟩,
  ⟨(some 76), .indexAddr none 1 (.t 74) (.t 75), none, 768⟩,
  ⟨(some 77), .load false 1 (.t 76), none, 1792⟩,
  ⟨(some 78), .indexAddr none 1 (.t 66) (.t 67), none, 4083⟩,
  ⟨none, .store 1 (.t 78) (.t 73), none, 8179⟩,
  ⟨(some 79), .indexAddr none 1 (.t 68) (.t 69), none, 16383⟩,
  ⟨none, .store 1 (.t 79) (.t 77), none, 32767⟩]
def c_slices_partitionOrdered_int_r9 : List AO := [⟨(some 80), .mov (.t 11), none, 0⟩,
  ⟨(some 8), .mov (.t 80), none, 0⟩,
  ⟨(some 9), .mov (.k (.sc (.bool true))), none, 0⟩]
def c_slices_partitionOrdered_int_r10 : List AO := [⟨(some 81), .mov (.t 0), none, 0⟩,
  ⟨(some 82), .mov (.t 10), none, 0⟩,
  ⟨(some 83), .mov (.t 0), none, 0⟩,
  ⟨(some 84), .mov (.t 11), none, 0⟩,
  ⟨(some 85), .mov (.t 0), none, 0⟩,
  ⟨(some 86), .mov (.t 11), none, 0⟩,
  ⟨(some 87), .indexAddr none 1 (.t 85) (.t 86), none, 48⟩,
  ⟨(some 88), .load false 1 (.t 87), none, 112⟩,
  ⟨(some 89), .mov (.t 0), none, 0⟩,
  ⟨(some 90), .mov (.t 10), none, 0⟩,
  ⟨(some 91), .indexAddr none 1 (.t 89) (.t 90), none, 768⟩,
  ⟨(some 92), .load false 1 (.t 91), none, 1792⟩,
  ⟨(some 93), .indexAddr none 1 (.t 81) (.t 82), none, 4083⟩,
  ⟨none, .store 1 (.t 93) (.t 88), none, 8179⟩,
  ⟨(some 94), .indexAddr none 1 (.t 83) (.t 84), none, 16383⟩,
  ⟨none, .store 1 (.t 94) (.t 92), none, 32767⟩]
def c_slices_partitionOrdered_int_r11 : List AO := [⟨(some 95), .mov (.t 10), none, 0⟩,
  ⟨(some 96), .bin .add (.t 95) (.k (.sc (.int .i64 1))), none, 0⟩,
  ⟨(some 10), .mov (.t 96), none, 0⟩]
def c_slices_partitionOrdered_int_r12 : List AO := [⟨(some 97), .mov (.t 11), none, 0⟩,
  ⟨(some 98), .bin .sub (.t 97) (.k (.sc (.int .i64 1))), none, 0⟩,
  ⟨(some 11), .mov (.t 98), none, 0⟩]
def c_slices_partitionOrdered_int_r13 : List AO := [⟨(some 99), .mov (.t 10), none, 0⟩,
  ⟨(some 100), .mov (.t 11), none, 0⟩,
  ⟨(some 101), .bin .leq (.t 99) (.t 100), none, 3⟩,
  ⟨(some 102), .mov (.t 101), none, 7⟩,
  ⟨(some 103), .mov (.t 0), (some ((some 102), true)), 15⟩,
  ⟨(some 104), .mov (.t 10), (some ((some 102), true)), 15⟩,
  ⟨(some 105), .indexAddr none 1 (.t 103) (.t 104), (some ((some 102), true)), 63⟩,
  ⟨(some 106), .load false 1 (.t 105), (some ((some 102), true)), 127⟩,
  ⟨(some 107), .mov (.t 0), (some ((some 102), true)), 15⟩,
  ⟨(some 108), .mov (.t 1), (some ((some 102), true)), 15⟩,
  ⟨(some 109), .indexAddr none 1 (.t 107) (.t 108), (some ((some 102), true)), 783⟩,
  ⟨(some 110), .load false 1 (.t 109), (some ((some 102), true)), 1807⟩,
  ⟨(some 111), .call (.k (.fn (.func f_cmp_Less_int) [] [])) [(.t 106), (.t 110)], (some ((some 102), true)), 4095⟩,
  ⟨(some 112), .pick (.t 102) (.t 111) (.k (.sc (.bool false))), none, 8191⟩]
def c_slices_partitionOrdered_int_r14 : List AO := [⟨(some 113), .mov (.t 10), none, 0⟩,
  ⟨(some 114), .bin .add (.t 113) (.k (.sc (.int .i64 1))), none, 0⟩,
  ⟨(some 10), .mov (.t 114), none, 0⟩]
def c_slices_partitionOrdered_int_l2 : AC := .seq (.seq (.reg c_slices_partitionOrdered_int_r13 true) (.cond (.t 112) (.skip) (.exit 6))) (.blk 7 (.reg c_slices_partitionOrdered_int_r14 false))
def c_slices_partitionOrdered_int_r15 : List AO := [⟨(some 115), .mov (.t 10), none, 0⟩,
  ⟨(some 116), .mov (.t 11), none, 0⟩,
  ⟨(some 117), .bin .leq (.t 115) (.t 116), none, 3⟩,
  ⟨(some 118), .mov (.t 117), none, 7⟩,
  ⟨(some 119), .mov (.t 0), (some ((some 118), true)), 15⟩,
  ⟨(some 120), .mov (.t 11), (some ((some 118), true)), 15⟩,
  ⟨(some 121), .indexAddr none 1 (.t 119) (.t 120), (some ((some 118), true)), 63⟩,
  ⟨(some 122), .load false 1 (.t 121), (some ((some 118), true)), 127⟩,
  ⟨(some 123), .mov (.t 0), (some ((some 118), true)), 15⟩,
  ⟨(some 124), .mov (.t 1), (some ((some 118), true)), 15⟩,
  ⟨(some 125), .indexAddr none 1 (.t 123) (.t 124), (some ((some 118), true)), 783⟩,
  ⟨(some 126), .load false 1 (.t 125), (some ((some 118), true)), 1807⟩,
  ⟨(some 127), .call (.k (.fn (.func f_cmp_Less_int) [] [])) [(.t 122), (.t 126)], (some ((some 118), true)), 4095⟩,
  ⟨(some 128), .un .not (.t 127), (some ((some 118), true)), 8191⟩,
  ⟨(some 129), .pick (.t 118) (.t 128) (.k (.sc (.bool false))), none, 16383⟩]
def c_slices_partitionOrdered_int_r16 : List AO := [⟨(some 130), .mov (.t 11), none, 0⟩,
  ⟨(some 131), .bin .sub (.t 130) (.k (.sc (.int .i64 1))), none, 0⟩,
  ⟨(some 11), .mov (.t 131), none, 0⟩]
def c_slices_partitionOrdered_int_l3 : AC := .seq (.seq (.reg c_slices_partitionOrdered_int_r15 true) (.cond (.t 129) (.skip) (.exit 8))) (.blk 9 (.reg c_slices_partitionOrdered_int_r16 false))
def c_slices_partitionOrdered_int_r17 : List AO := [⟨(some 132), .mov (.t 10), none, 0⟩,
  ⟨(some 133), .mov (.t 11), none, 0⟩,
  ⟨(some 134), .bin .gtr (.t 132) (.t 133), none, 0⟩]
def c_slices_partitionOrdered_int_r18 : List AO := [⟨(some 135), .mov (.t 0), none, 0⟩,
  ⟨(some 136), .mov (.t 10), none, 0⟩,
  ⟨(some 137), .mov (.t 0), none, 0⟩,
  ⟨(some 138), .mov (.t 11), none, 0⟩,
  ⟨(some 139), .mov (.t 0), none, 0⟩,
  ⟨(some 140), .mov (.t 11), none, 0⟩,
  ⟨(some 141), .indexAddr none 1 (.t 139) (.t 140), none, 48⟩,
  ⟨(some 142), .load false 1 (.t 141), none, 112⟩,
  ⟨(some 143), .mov (.t 0), none, 0⟩,
  ⟨(some 144), .mov (.t 10), none, 0⟩,
  ⟨(some 145), .indexAddr none 1 (.t 143) (.t 144), none, 768⟩,
  ⟨(some 146), .load false 1 (.t 145), none, 1792⟩,
  ⟨(some 147), .indexAddr none 1 (.t 135) (.t 136), none, 4083⟩,
  ⟨none, .store 1 (.t 147) (.t 142), none, 8179⟩,
  ⟨(some 148), .indexAddr none 1 (.t 137) (.t 138), none, 16383⟩,
  ⟨none, .store 1 (.t 148) (.t 146), none, 32767⟩]
def c_slices_partitionOrdered_int_r19 : List AO := [⟨(some 149), .mov (.t 10), none, 0⟩,
  ⟨(some 150), .bin .add (.t 149) (.k (.sc (.int .i64 1))), none, 0⟩,
  ⟨(some 10), .mov (.t 150), none, 0⟩]
def c_slices_partitionOrdered_int_r20 : List AO := [⟨(some 151), .mov (.t 11), none, 0⟩,
  ⟨(some 152), .bin .sub (.t 151) (.k (.sc (.int .i64 1))), none, 0⟩,
  ⟨(some 11), .mov (.t 152), none, 0⟩]
def c_slices_partitionOrdered_int_l4 : AC := .blk 5 (.seq (.blk 6 (.loop c_slices_partitionOrdered_int_l2)) (.seq (.blk 8 (.loop c_slices_partitionOrdered_int_l3)) (.seq (.seq (.reg c_slices_partitionOrdered_int_r17 false) (.cond (.t 134) (.exit 4) (.skip))) (.seq (.reg c_slices_partitionOrdered_int_r18 true) (.seq (.reg c_slices_partitionOrdered_int_r19 false) (.reg c_slices_partitionOrdered_int_r20 false))))))
def c_slices_partitionOrdered_int_r21 : List AO := [⟨(some 153), .mov (.t 0), none, 0⟩,
  ⟨(some 154), .mov (.t 11), none, 0⟩,
  ⟨(some 155), .mov (.t 0), none, 0⟩,
  ⟨(some 156), .mov (.t 1), none, 0⟩,
  ⟨(some 157), .mov (.t 0), none, 0⟩,
  ⟨(some 158), .mov (.t 1), none, 0⟩,
  ⟨(some 159), .indexAddr none 1 (.t 157) (.t 158), none, 48⟩,
  ⟨(some 160), .load false 1 (.t 159), none, 112⟩,
  ⟨(some 161), .mov (.t 0), none, 0⟩,
  ⟨(some 162), .mov (.t 11), none, 0⟩,
  ⟨(some 163), .indexAddr none 1 (.t 161) (.t 162), none, 768⟩,
  ⟨(some 164), .load false 1 (.t 163), none, 1792⟩,
  ⟨(some 165), .indexAddr none 1 (.t 153) (.t 154), none, 4083⟩,
  ⟨none, .store 1 (.t 165) (.t 160), none, 8179⟩,
  ⟨(some 166), .indexAddr none 1 (.t 155) (.t 156), none, 16383⟩,
  ⟨none, .store 1 (.t 166) (.t 164), none, 32767⟩]
def c_slices_partitionOrdered_int_r22 : List AO := [⟨(some 167), .mov (.t 11), none, 0⟩,
  ⟨(some 8), .mov (.t 167), none, 0⟩,
  ⟨(some 9), .mov (.k (.sc (.bool false))), none, 0⟩]
def c_slices_partitionOrdered_int : AFn := { code := .seq (.reg c_slices_partitionOrdered_int_r0 false) (.seq (.reg c_slices_partitionOrdered_int_r1 true) (.seq (.reg c_slices_partitionOrdered_int_r2 false) (.seq (.blk 0 (.loop c_slices_partitionOrdered_int_l0)) (.seq (.blk 2 (.loop c_slices_partitionOrdered_int_l1)) (.seq (.seq (.reg c_slices_partitionOrdered_int_r7 false) (.cond (.t 65) (.seq (.reg c_slices_partitionOrdered_int_r8 true) (.seq (.reg c_slices_partitionOrdered_int_r9 false) (.ret))) (.skip))) (.seq (.reg c_slices_partitionOrdered_int_r10 true) (.seq (.reg c_slices_partitionOrdered_int_r11 false) (.seq (.reg c_slices_partitionOrdered_int_r12 false) (.seq (.blk 4 (.loop c_slices_partitionOrdered_int_l4)) (.seq (.reg c_slices_partitionOrdered_int_r21 true) (.seq (.reg c_slices_partitionOrdered_int_r22 false) (.ret)))))))))))), ntmps := 168, results := [.tmp 8, .tmp 9] }
/-- 96 phasor/gate.Arity -/
def c_gate_Arity_r0 : List AO := [⟨(some 2), .mov (.k (.sc (.int .i64 0))), none, 0⟩]
def c_gate_Arity_r1 : List AO := [⟨(some 3), .mov (.t 0), none, 0⟩,
  ⟨(some 4), .call (.k (.fn (.func f_gate_of) [] [])) [(.t 3)], none, 0⟩,
  ⟨(some 5), .field false 1 1 (.t 4), none, 0⟩,
  ⟨(some 2), .mov (.t 5), none, 0⟩]
def c_gate_Arity : AFn := { code := .seq (.reg c_gate_Arity_r0 false) (.seq (.reg c_gate_Arity_r1 false) (.ret)), ntmps := 6, results := [.tmp 2] }
/-- 97 phasor/phasorref06.Check -/
def c_phasorref06_Check_r0 : List AO := [⟨(some 6), .mov (.k (.sc (.int .i64 0))), none, 0⟩]
def c_phasorref06_Check_r1 : List AO := [⟨(some 9), .mov (.t 0), none, 0⟩,
  ⟨(some 10), .call (.k (.fn (.func f_phasorref06_Is) [] [])) [(.t 9)], none, 0⟩,
  ⟨(some 11), .un .not (.t 10), none, 0⟩]
def c_phasorref06_Check_r2 : List AO := [⟨(some 6), .mov (.k (.sc (.int .i64 60))), none, 0⟩]
def c_phasorref06_Check_r3 : List AO := [⟨(some 12), .mov (.t 1), none, 0⟩,
  ⟨(some 13), .len (.t 12), none, 0⟩,
  ⟨(some 14), .mov (.t 0), none, 0⟩,
  ⟨(some 15), .call (.k (.fn (.func f_phasorref06_Arity) [] [])) [(.t 14)], none, 0⟩,
  ⟨(some 16), .bin .neq (.t 13) (.t 15), none, 0⟩]
def c_phasorref06_Check_r4 : List AO := [⟨(some 6), .mov (.k (.sc (.int .i64 61))), none, 0⟩]
def c_phasorref06_Check_r5 : List AO := [⟨(some 7), .mov (.k (.sc (.int .i64 0))), none, 0⟩]
def c_phasorref06_Check_r6 : List AO := [⟨(some 17), .mov (.t 7), none, 0⟩,
  ⟨(some 18), .mov (.t 1), none, 0⟩,
  ⟨(some 19), .len (.t 18), none, 0⟩,
  ⟨(some 20), .bin .lss (.t 17) (.t 19), none, 0⟩]
def c_phasorref06_Check_r7 : List AO := [⟨(some 23), .mov (.t 1), none, 0⟩,
  ⟨(some 24), .mov (.t 7), none, 0⟩,
  ⟨(some 25), .indexAddr none 1 (.t 23) (.t 24), none, 0⟩,
  ⟨(some 26), .load false 1 (.t 25), none, 0⟩,
  ⟨(some 27), .bin .lss (.t 26) (.k (.sc (.int .i64 0))), none, 0⟩,
  ⟨(some 28), .mov (.t 27), none, 0⟩,
  ⟨(some 29), .mov (.t 1), (some ((some 28), false)), 0⟩,
  ⟨(some 30), .mov (.t 7), (some ((some 28), false)), 0⟩,
  ⟨(some 31), .indexAddr none 1 (.t 29) (.t 30), (some ((some 28), false)), 0⟩,
  ⟨(some 32), .load false 1 (.t 31), (some ((some 28), false)), 0⟩,
  ⟨(some 33), .mov (.t 2), (some ((some 28), false)), 0⟩,
  ⟨(some 34), .bin .geq (.t 32) (.t 33), (some ((some 28), false)), 0⟩,
  ⟨(some 35), .pick (.t 28) (.k (.sc (.bool true))) (.t 34), none, 0⟩]
def c_phasorref06_Check_r8 : List AO := [⟨(some 6), .mov (.k (.sc (.int .i64 61))), none, 0⟩]
def c_phasorref06_Check_r9 : List AO := [⟨(some 8), .mov (.k (.sc (.int .i64 0))), none, 0⟩]
def c_phasorref06_Check_r10 : List AO := [⟨(some 36), .mov (.t 8), none, 0⟩,
  ⟨(some 37), .mov (.t 7), none, 0⟩,
  ⟨(some 38), .bin .lss (.t 36) (.t 37), none, 0⟩]
def c_phasorref06_Check_r11 : List AO := [⟨(some 41), .mov (.t 1), none, 0⟩,
  ⟨(some 42), .mov (.t 7), none, 0⟩,
  ⟨(some 43), .indexAddr none 1 (.t 41) (.t 42), none, 3⟩,
  ⟨(some 44), .load false 1 (.t 43), none, 7⟩,
  ⟨(some 45), .mov (.t 1), none, 0⟩,
  ⟨(some 46), .mov (.t 8), none, 0⟩,
  ⟨(some 47), .indexAddr none 1 (.t 45) (.t 46), none, 48⟩,
  ⟨(some 48), .load false 1 (.t 47), none, 112⟩,
  ⟨(some 49), .bin .eql (.t 44) (.t 48), none, 255⟩]
def c_phasorref06_Check_r12 : List AO := [⟨(some 6), .mov (.k (.sc (.int .i64 61))), none, 0⟩]
def c_phasorref06_Check_r13 : List AO := [⟨(some 39), .mov (.t 8), none, 0⟩,
  ⟨(some 40), .bin .add (.t 39) (.k (.sc (.int .i64 1))), none, 0⟩,
  ⟨(some 8), .mov (.t 40), none, 0⟩]
def c_phasorref06_Check_l0 : AC := .seq (.seq (.reg c_phasorref06_Check_r10 false) (.cond (.t 38) (.skip) (.exit 2))) (.seq (.blk 3 (.seq (.reg c_phasorref06_Check_r11 true) (.cond (.t 49) (.seq (.reg c_phasorref06_Check_r12 false) (.ret)) (.skip)))) (.reg c_phasorref06_Check_r13 false))
def c_phasorref06_Check_r14 : List AO := [⟨(some 21), .mov (.t 7), none, 0⟩,
  ⟨(some 22), .bin .add (.t 21) (.k (.sc (.int .i64 1))), none, 0⟩,
  ⟨(some 7), .mov (.t 22), none, 0⟩]
def c_phasorref06_Check_l1 : AC := .seq (.seq (.reg c_phasorref06_Check_r6 false) (.cond (.t 20) (.skip) (.exit 0))) (.seq (.blk 1 (.seq (.seq (.reg c_phasorref06_Check_r7 false) (.cond (.t 35) (.seq (.reg c_phasorref06_Check_r8 false) (.ret)) (.skip))) (.seq (.reg c_phasorref06_Check_r9 false) (.blk 2 (.loop c_phasorref06_Check_l0))))) (.reg c_phasorref06_Check_r14 false))
def c_phasorref06_Check_r15 : List AO := [⟨(some 6), .mov (.k (.sc (.int .i64 0))), none, 0⟩]
def c_phasorref06_Check : AFn := { code := .seq (.reg c_phasorref06_Check_r0 false) (.seq (.seq (.reg c_phasorref06_Check_r1 false) (.cond (.t 11) (.seq (.reg c_phasorref06_Check_r2 false) (.ret)) (.skip))) (.seq (.seq (.reg c_phasorref06_Check_r3 false) (.cond (.t 16) (.seq (.reg c_phasorref06_Check_r4 false) (.ret)) (.skip))) (.seq (.seq (.reg c_phasorref06_Check_r5 false) (.blk 0 (.loop c_phasorref06_Check_l1))) (.seq (.reg c_phasorref06_Check_r15 false) (.ret))))), ntmps := 50, results := [.tmp 6] }
/-- 98 phasor/phasorref08.unlike -/
def c_phasorref08_unlike_r0 : List AO := [⟨(some 4), .mov (.k (.sc (.bool false))), none, 0⟩]
def c_phasorref08_unlike_r1 : List AO := [⟨(some 5), .mov (.k (.sc (.int .i64 0))), none, 0⟩]
def c_phasorref08_unlike_r2 : List AO := [⟨(some 7), .mov (.t 5), none, 0⟩,
  ⟨(some 8), .mov (.t 0), none, 0⟩,
  ⟨(some 9), .len (.t 8), none, 0⟩,
  ⟨(some 10), .bin .lss (.t 7) (.t 9), none, 0⟩]
def c_phasorref08_unlike_r3 : List AO := [⟨(some 13), .mov (.t 0), none, 0⟩,
  ⟨(some 14), .mov (.t 5), none, 0⟩,
  ⟨(some 15), .indexAddr none 1 (.t 13) (.t 14), none, 0⟩,
  ⟨(some 16), .load false 1 (.t 15), none, 0⟩,
  ⟨(some 17), .bin .lss (.t 16) (.k (.sc (.int .i64 0))), none, 0⟩,
  ⟨(some 18), .mov (.t 17), none, 0⟩,
  ⟨(some 19), .mov (.t 0), (some ((some 18), false)), 0⟩,
  ⟨(some 20), .mov (.t 5), (some ((some 18), false)), 0⟩,
  ⟨(some 21), .indexAddr none 1 (.t 19) (.t 20), (some ((some 18), false)), 0⟩,
  ⟨(some 22), .load false 1 (.t 21), (some ((some 18), false)), 0⟩,
  ⟨(some 23), .mov (.t 1), (some ((some 18), false)), 0⟩,
  ⟨(some 24), .bin .geq (.t 22) (.t 23), (some ((some 18), false)), 0⟩,
  ⟨(some 25), .pick (.t 18) (.k (.sc (.bool true))) (.t 24), none, 0⟩]
def c_phasorref08_unlike_r4 : List AO := [⟨(some 4), .mov (.k (.sc (.bool false))), none, 0⟩]
def c_phasorref08_unlike_r5 : List AO := [⟨(some 6), .mov (.k (.sc (.int .i64 0))), none, 0⟩]
def c_phasorref08_unlike_r6 : List AO := [⟨(some 26), .mov (.t 6), none, 0⟩,
  ⟨(some 27), .mov (.t 5), none, 0⟩,
  ⟨(some 28), .bin .lss (.t 26) (.t 27), none, 0⟩]
def c_phasorref08_unlike_r7 : List AO := [⟨(some 31), .mov (.t 0), none, 0⟩,
  ⟨(some 32), .mov (.t 6), none, 0⟩,
  ⟨(some 33), .indexAddr none 1 (.t 31) (.t 32), none, 3⟩,
  ⟨(some 34), .load false 1 (.t 33), none, 7⟩,
  ⟨(some 35), .mov (.t 0), none, 0⟩,
  ⟨(some 36), .mov (.t 5), none, 0⟩,
  ⟨(some 37), .indexAddr none 1 (.t 35) (.t 36), none, 48⟩,
  ⟨(some 38), .load false 1 (.t 37), none, 112⟩,
  ⟨(some 39), .bin .eql (.t 34) (.t 38), none, 255⟩]
def c_phasorref08_unlike_r8 : List AO := [⟨(some 4), .mov (.k (.sc (.bool false))), none, 0⟩]
def c_phasorref08_unlike_r9 : List AO := [⟨(some 29), .mov (.t 6), none, 0⟩,
  ⟨(some 30), .bin .add (.t 29) (.k (.sc (.int .i64 1))), none, 0⟩,
  ⟨(some 6), .mov (.t 30), none, 0⟩]
def c_phasorref08_unlike_l0 : AC := .seq (.seq (.reg c_phasorref08_unlike_r6 false) (.cond (.t 28) (.skip) (.exit 2))) (.seq (.blk 3 (.seq (.reg c_phasorref08_unlike_r7 true) (.cond (.t 39) (.seq (.reg c_phasorref08_unlike_r8 false) (.ret)) (.skip)))) (.reg c_phasorref08_unlike_r9 false))
def c_phasorref08_unlike_r10 : List AO := [⟨(some 11), .mov (.t 5), none, 0⟩,
  ⟨(some 12), .bin .add (.t 11) (.k (.sc (.int .i64 1))), none, 0⟩,
  ⟨(some 5), .mov (.t 12), none, 0⟩]
def c_phasorref08_unlike_l1 : AC := .seq (.seq (.reg c_phasorref08_unlike_r2 false) (.cond (.t 10) (.skip) (.exit 0))) (.seq (.blk 1 (.seq (.seq (.reg c_phasorref08_unlike_r3 false) (.cond (.t 25) (.seq (.reg c_phasorref08_unlike_r4 false) (.ret)) (.skip))) (.seq (.reg c_phasorref08_unlike_r5 false) (.blk 2 (.loop c_phasorref08_unlike_l0))))) (.reg c_phasorref08_unlike_r10 false))
def c_phasorref08_unlike_r11 : List AO := [⟨(some 4), .mov (.k (.sc (.bool true))), none, 0⟩]
def c_phasorref08_unlike : AFn := { code := .seq (.reg c_phasorref08_unlike_r0 false) (.seq (.seq (.reg c_phasorref08_unlike_r1 false) (.blk 0 (.loop c_phasorref08_unlike_l1))) (.seq (.reg c_phasorref08_unlike_r11 false) (.ret))), ntmps := 40, results := [.tmp 4] }
/-- 99 slices.siftDownCmpFunc[int] -/
def c_slices_siftDownCmpFunc_int_r0 : List AO := [⟨(some 12), .mov (.t 1), none, 0⟩,
  ⟨(some 10), .mov (.t 12), none, 0⟩]
def c_slices_siftDownCmpFunc_int_r1 : List AO := [⟨(some 13), .mov (.t 10), none, 0⟩,
  ⟨(some 14), .bin .mul (.k (.sc (.int .i64 2))) (.t 13), none, 0⟩,
  ⟨(some 15), .bin .add (.t 14) (.k (.sc (.int .i64 1))), none, 0⟩,
  ⟨(some 11), .mov (.t 15), none, 0⟩]
def c_slices_siftDownCmpFunc_int_r2 : List AO := [⟨(some 16), .mov (.t 11), none, 0⟩,
  ⟨(some 17), .mov (.t 2), none, 0⟩,
  ⟨(some 18), .bin .geq (.t 16) (.t 17), none, 0⟩]
def c_slices_siftDownCmpFunc_int_r3 : List AO := [⟨(some 19), .mov (.t 11), none, 0⟩,
  ⟨(some 20), .bin .add (.t 19) (.k (.sc (.int .i64 1))), none, 1⟩,
  ⟨(some 21), .mov (.t 2), none, 0⟩,
  ⟨(some 22), .bin .lss (.t 20) (.t 21), none, 7⟩,
  ⟨(some 23), .mov (.t 22), none, 15⟩,
  ⟨(some 24), .mov (.t 4), (some ((some 23), true)), 31⟩,
  ⟨(some 25), .mov (.t 0), (some ((some 23), true)), 31⟩,
  ⟨(some 26), .mov (.t 3), (some ((some 23), true)), 31⟩,
  ⟨(some 27), .mov (.t 11), (some ((some 23), true)), 31⟩,
  ⟨(some 28), .bin .add (.t 26) (.t 27), (some ((some 23), true)), 415⟩,
  ⟨(some 29), .indexAddr none 1 (.t 25) (.t 28), (some ((some 23), true)), 991⟩,
  ⟨(some 30), .load false 1 (.t 29), (some ((some 23), true)), 2015⟩,
  ⟨(some 31), .mov (.t 0), (some ((some 23), true)), 31⟩,
  ⟨(some 32), .mov (.t 3), (some ((some 23), true)), 31⟩,
  ⟨(some 33), .mov (.t 11), (some ((some 23), true)), 31⟩,
  ⟨(some 34), .bin .add (.t 32) (.t 33), (some ((some 23), true)), 24607⟩,
  ⟨(some 35), .bin .add (.t 34) (.k (.sc (.int .i64 1))), (some ((some 23), true)), 57375⟩,
  ⟨(some 36), .indexAddr none 1 (.t 31) (.t 35), (some ((some 23), true)), 127007⟩,
  ⟨(some 37), .load false 1 (.t 36), (some ((some 23), true)), 258079⟩,
  ⟨(some 38), .call (.t 24) [(.t 30), (.t 37)], (some ((some 23), true)), 524287⟩,
  ⟨(some 39), .bin .lss (.t 38) (.k (.sc (.int .i64 0))), (some ((some 23), true)), 1048575⟩,
  ⟨(some 40), .pick (.t 23) (.t 39) (.k (.sc (.bool false))), none, 2097151⟩]
def c_slices_siftDownCmpFunc_int_r4 : List AO := [⟨(some 41), .mov (.t 11), none, 0⟩,
  ⟨(some 42), .bin .add (.t 41) (.k (.sc (.int .i64 1))), none, 0⟩,
  ⟨(some 11), .mov (.t 42), none, 0⟩]
def c_slices_siftDownCmpFunc_int_r5 : List AO := [⟨(some 43), .mov (.t 4), none, 0⟩,
  ⟨(some 44), .mov (.t 0), none, 0⟩,
  ⟨(some 45), .mov (.t 3), none, 0⟩,
  ⟨(some 46), .mov (.t 10), none, 0⟩,
  ⟨(some 47), .bin .add (.t 45) (.t 46), none, 12⟩,
  ⟨(some 48), .indexAddr none 1 (.t 44) (.t 47), none, 30⟩,
  ⟨(some 49), .load false 1 (.t 48), none, 62⟩,
  ⟨(some 50), .mov (.t 0), none, 0⟩,
  ⟨(some 51), .mov (.t 3), none, 0⟩,
  ⟨(some 52), .mov (.t 11), none, 0⟩,
  ⟨(some 53), .bin .add (.t 51) (.t 52), none, 768⟩,
  ⟨(some 54), .indexAddr none 1 (.t 50) (.t 53), none, 1920⟩,
  ⟨(some 55), .load false 1 (.t 54), none, 3968⟩,
  ⟨(some 56), .call (.t 43) [(.t 49), (.t 55)], none, 8191⟩,
  ⟨(some 57), .bin .lss (.t 56) (.k (.sc (.int .i64 0))), none, 16383⟩,
  ⟨(some 58), .un .not (.t 57), none, 32767⟩]
def c_slices_siftDownCmpFunc_int_r6 : List AO := [⟨(some 59), .mov (.t 0), none, 0⟩,
  ⟨(some 60), .mov (.t 3), none, 0⟩,
  ⟨(some 61), .mov (.t 10), none, 0⟩,
  ⟨(some 62), .bin .add (.t 60) (.t 61), none, 6⟩,
  ⟨(some 63), .mov (.t 0), none, 0⟩,
  ⟨(some 64), .mov (.t 3), none, 0⟩,
  ⟨(some 65), .mov (.t 11), none, 0⟩,
  ⟨(some 66), .bin .add (.t 64) (.t 65), none, 96⟩,
  ⟨(some 67), .mov (.t 0), none, 0⟩,
  ⟨(some 68), .mov (.t 3), none, 0⟩,
  ⟨(some 69), .mov (.t 11), none, 0⟩,
  ⟨(some 70), .bin .add (.t 68) (.t 69), none, 1536⟩,
  ⟨(some 71), .indexAddr none 1 (.t 67) (.t 70), none, 3840⟩,
  ⟨(some 72), .load false 1 (.t 71), none, 7936⟩,
  ⟨(some 73), .mov (.t 0), none, 0⟩,
  ⟨(some 74), .mov (.t 3), none, 0⟩,
  ⟨(some 75), .mov (.t 10), none, 0⟩,
  ⟨(some 76), .bin .add (.t 74) (.t 75), none, 98304⟩,
  ⟨(some 77), .indexAddr none 1 (.t 73) (.t 76), none, 245760⟩,
  ⟨(some 78), .load false 1 (.t 77), none, 507904⟩,
  ⟨(some 79), .indexAddr none 1 (.t 59) (.t 62), none, 1048335⟩,
  ⟨none, .store 1 (.t 79) (.t 72), none, 2096911⟩,
  ⟨(some 80), .indexAddr none 1 (.t 63) (.t 66), none, 4194303⟩,
  ⟨none, .store 1 (.t 80) (.t 78), none, 8388607⟩]
def c_slices_siftDownCmpFunc_int_r7 : List AO := [⟨(some 81), .mov (.t 11), none, 0⟩,
  ⟨(some 10), .mov (.t 81), none, 0⟩]
def c_slices_siftDownCmpFunc_int_l0 : AC := .blk 1 (.seq (.reg c_slices_siftDownCmpFunc_int_r1 false) (.seq (.seq (.reg c_slices_siftDownCmpFunc_int_r2 false) (.cond (.t 18) (.exit 0) (.skip))) (.seq (.seq (.reg c_slices_siftDownCmpFunc_int_r3 true) (.cond (.t 40) (.reg c_slices_siftDownCmpFunc_int_r4 false) (.skip))) (.seq (.seq (.reg c_slices_siftDownCmpFunc_int_r5 true) (.cond (.t 58) (.ret) (.skip))) (.seq (.reg c_slices_siftDownCmpFunc_int_r6 true) (.reg c_slices_siftDownCmpFunc_int_r7 false))))))
def c_slices_siftDownCmpFunc_int : AFn := { code := .seq (.reg c_slices_siftDownCmpFunc_int_r0 false) (.blk 0 (.loop c_slices_siftDownCmpFunc_int_l0)), ntmps := 82, results := [] }
/-- 100 slices.nextPowerOfTwo -/
def c_slices_nextPowerOfTwo_r0 : List AO := [⟨(some 2), .mov (.k (.sc (.int .u64 0))), none, 0⟩]
def c_slices_nextPowerOfTwo_r1 : List AO := [⟨(some 3), .mov (.t 0), none, 0⟩,
  ⟨(some 4), .conv (.int .u64) (.t 3), none, 0⟩,
  ⟨(some 5), .call (.k (.fn (.func f_bits_Len) [] [])) [(.t 4)], none, 0⟩,
  ⟨(some 6), .bin .shl (.k (.sc (.int .u64 1))) (.t 5), none, 0⟩,
  ⟨(some 2), .mov (.t 6), none, 0⟩]
def c_slices_nextPowerOfTwo : AFn := { code := .seq (.reg c_slices_nextPowerOfTwo_r0 false) (.seq (.reg c_slices_nextPowerOfTwo_r1 false) (.ret)), ntmps := 7, results := [.tmp 2] }
/-- 101 (*slices.xorshift).Next -/
def c_slices_xorshift_Next_r0 : List AO := [⟨(some 2), .mov (.k (.sc (.int .u64 0))), none, 0⟩]
def c_slices_xorshift_Next_r1 : List AO := [⟨(some 3), .mov (.t 0), none, 0⟩,
  ⟨(some 4), .nilCheck (.t 3), none, 1⟩,
  ⟨(some 5), .load false 1 (.t 4), none, 3⟩,
  ⟨(some 6), .mov (.t 0), none, 0⟩,
  ⟨(some 7), .nilCheck (.t 6), none, 8⟩,
  ⟨(some 8), .load false 1 (.t 7), none, 24⟩,
  ⟨(some 9), .bin .shl (.t 8) (.k (.sc (.int .u64 13))), none, 56⟩,
  ⟨(some 10), .bin .xor (.t 5) (.t 9), none, 127⟩,
  ⟨(some 11), .nilCheck (.t 3), none, 255⟩,
  ⟨none, .store 1 (.t 11) (.t 10), none, 511⟩]
def c_slices_xorshift_Next_r2 : List AO := [⟨(some 12), .mov (.t 0), none, 0⟩,
  ⟨(some 13), .nilCheck (.t 12), none, 1⟩,
  ⟨(some 14), .load false 1 (.t 13), none, 3⟩,
  ⟨(some 15), .mov (.t 0), none, 0⟩,
  ⟨(some 16), .nilCheck (.t 15), none, 8⟩,
  ⟨(some 17), .load false 1 (.t 16), none, 24⟩,
  ⟨(some 18), .bin .shr (.t 17) (.k (.sc (.int .u64 7))), none, 56⟩,
  ⟨(some 19), .bin .xor (.t 14) (.t 18), none, 127⟩,
  ⟨(some 20), .nilCheck (.t 12), none, 255⟩,
  ⟨none, .store 1 (.t 20) (.t 19), none, 511⟩]
def c_slices_xorshift_Next_r3 : List AO := [⟨(some 21), .mov (.t 0), none, 0⟩,
  ⟨(some 22), .nilCheck (.t 21), none, 1⟩,
  ⟨(some 23), .load false 1 (.t 22), none, 3⟩,
  ⟨(some 24), .mov (.t 0), none, 0⟩,
  ⟨(some 25), .nilCheck (.t 24), none, 8⟩,
  ⟨(some 26), .load false 1 (.t 25), none, 24⟩,
  ⟨(some 27), .bin .shl (.t 26) (.k (.sc (.int .u64 17))), none, 56⟩,
  ⟨(some 28), .bin .xor (.t 23) (.t 27), none, 127⟩,
  ⟨(some 29), .nilCheck (.t 21), none, 255⟩,
  ⟨none, .store 1 (.t 29) (.t 28), none, 511⟩]
def c_slices_xorshift_Next_r4 : List AO := [⟨(some 30), .mov (.t 0), none, 0⟩,
  ⟨(some 31), .nilCheck (.t 30), none, 0⟩,
  ⟨(some 32), .load false 1 (.t 31), none, 0⟩,
  ⟨(some 2), .mov (.t 32), none, 0⟩]
def c_slices_xorshift_Next : AFn := { code := .seq (.reg c_slices_xorshift_Next_r0 false) (.seq (.reg c_slices_xorshift_Next_r1 true) (.seq (.reg c_slices_xorshift_Next_r2 true) (.seq (.reg c_slices_xorshift_Next_r3 true) (.seq (.reg c_slices_xorshift_Next_r4 false) (.ret))))), ntmps := 33, results := [.tmp 2] }
/-- 102 slices.medianAdjacentCmpFunc[int] -/
def c_slices_medianAdjacentCmpFunc_int_r0 : List AO := [⟨(some 8), .mov (.k (.sc (.int .i64 0))), none, 0⟩]
def c_slices_medianAdjacentCmpFunc_int_r1 : List AO := [⟨(some 9), .mov (.t 0), none, 0⟩,
  ⟨(some 10), .mov (.t 1), none, 0⟩,
  ⟨(some 11), .bin .sub (.t 10) (.k (.sc (.int .i64 1))), none, 0⟩,
  ⟨(some 12), .mov (.t 1), none, 0⟩,
  ⟨(some 13), .mov (.t 1), none, 0⟩,
  ⟨(some 14), .bin .add (.t 13) (.k (.sc (.int .i64 1))), none, 0⟩,
  ⟨(some 15), .mov (.t 2), none, 0⟩,
  ⟨(some 16), .mov (.t 3), none, 0⟩,
  ⟨(some 17), .call (.k (.fn (.func f_slices_medianCmpFunc_int) [] [])) [(.t 9), (.t 11), (.t 12), (.t 14), (.t 15), (.t 16)], none, 0⟩,
  ⟨(some 8), .mov (.t 17), none, 0⟩]
def c_slices_medianAdjacentCmpFunc_int : AFn := { code := .seq (.reg c_slices_medianAdjacentCmpFunc_int_r0 false) (.seq (.reg c_slices_medianAdjacentCmpFunc_int_r1 false) (.ret)), ntmps := 18, results := [.tmp 8] }
/-- 103 slices.medianCmpFunc[int] -/
def c_slices_medianCmpFunc_int_r0 : List AO := [⟨(some 12), .mov (.k (.sc (.int .i64 0))), none, 0⟩]
def c_slices_medianCmpFunc_int_r1 : List AO := [⟨(some 14), .mov (.t 0), none, 0⟩,
  ⟨(some 15), .mov (.t 1), none, 0⟩,
  ⟨(some 16), .mov (.t 2), none, 0⟩,
  ⟨(some 17), .mov (.t 4), none, 0⟩,
  ⟨(some 18), .mov (.t 5), none, 0⟩,
  ⟨(some 19), .call (.k (.fn (.func f_slices_order2CmpFunc_int) [] [])) [(.t 14), (.t 15), (.t 16), (.t 17), (.t 18)], none, 0⟩,
  ⟨(some 13), .mov (.t 19), none, 0⟩,
  ⟨(some 20), .extract (.t 13) 0, none, 0⟩,
  ⟨(some 21), .extract (.t 13) 1, none, 0⟩,
  ⟨(some 1), .mov (.t 20), none, 0⟩,
  ⟨(some 2), .mov (.t 21), none, 0⟩]
def c_slices_medianCmpFunc_int_r2 : List AO := [⟨(some 23), .mov (.t 0), none, 0⟩,
  ⟨(some 24), .mov (.t 2), none, 0⟩,
  ⟨(some 25), .mov (.t 3), none, 0⟩,
  ⟨(some 26), .mov (.t 4), none, 0⟩,
  ⟨(some 27), .mov (.t 5), none, 0⟩,
  ⟨(some 28), .call (.k (.fn (.func f_slices_order2CmpFunc_int) [] [])) [(.t 23), (.t 24), (.t 25), (.t 26), (.t 27)], none, 0⟩,
  ⟨(some 22), .mov (.t 28), none, 0⟩,
  ⟨(some 29), .extract (.t 22) 0, none, 0⟩,
  ⟨(some 30), .extract (.t 22) 1, none, 0⟩,
  ⟨(some 2), .mov (.t 29), none, 0⟩,
  ⟨(some 3), .mov (.t 30), none, 0⟩]
def c_slices_medianCmpFunc_int_r3 : List AO := [⟨(some 32), .mov (.t 0), none, 0⟩,
  ⟨(some 33), .mov (.t 1), none, 0⟩,
  ⟨(some 34), .mov (.t 2), none, 0⟩,
  ⟨(some 35), .mov (.t 4), none, 0⟩,
  ⟨(some 36), .mov (.t 5), none, 0⟩,
  ⟨(some 37), .call (.k (.fn (.func f_slices_order2CmpFunc_int) [] [])) [(.t 32), (.t 33), (.t 34), (.t 35), (.t 36)], none, 0⟩,
  ⟨(some 31), .mov (.t 37), none, 0⟩,
  ⟨(some 38), .extract (.t 31) 0, none, 0⟩,
  ⟨(some 39), .extract (.t 31) 1, none, 0⟩,
  ⟨(some 1), .mov (.t 38), none, 0⟩,
  ⟨(some 2), .mov (.t 39), none, 0⟩]
def c_slices_medianCmpFunc_int_r4 : List AO := [⟨(some 40), .mov (.t 2), none, 0⟩,
  ⟨(some 12), .mov (.t 40), none, 0⟩]
def c_slices_medianCmpFunc_int : AFn := { code := .seq (.reg c_slices_medianCmpFunc_int_r0 false) (.seq (.reg c_slices_medianCmpFunc_int_r1 false) (.seq (.reg c_slices_medianCmpFunc_int_r2 false) (.seq (.reg c_slices_medianCmpFunc_int_r3 false) (.seq (.reg c_slices_medianCmpFunc_int_r4 false) (.ret))))), ntmps := 41, results := [.tmp 12] }
/-- 104 slices.siftDownOrdered[int] -/
def c_slices_siftDownOrdered_int_r0 : List AO := [⟨(some 10), .mov (.t 1), none, 0⟩,
  ⟨(some 8), .mov (.t 10), none, 0⟩]
def c_slices_siftDownOrdered_int_r1 : List AO := [⟨(some 11), .mov (.t 8), none, 0⟩,
  ⟨(some 12), .bin .mul (.k (.sc (.int .i64 2))) (.t 11), none, 0⟩,
  ⟨(some 13), .bin .add (.t 12) (.k (.sc (.int .i64 1))), none, 0⟩,
  ⟨(some 9), .mov (.t 13), none, 0⟩]
def c_slices_siftDownOrdered_int_r2 : List AO := [⟨(some 14), .mov (.t 9), none, 0⟩,
  ⟨(some 15), .mov (.t 2), none, 0⟩,
  ⟨(some 16), .bin .geq (.t 14) (.t 15), none, 0⟩]
def c_slices_siftDownOrdered_int_r3 : List AO := [⟨(some 17), .mov (.t 9), none, 0⟩,
  ⟨(some 18), .bin .add (.t 17) (.k (.sc (.int .i64 1))), none, 1⟩,
  ⟨(some 19), .mov (.t 2), none, 0⟩,
  ⟨(some 20), .bin .lss (.t 18) (.t 19), none, 7⟩,
  ⟨(some 21), .mov (.t 20), none, 15⟩,
  ⟨(some 22), .mov (.t 0), (some ((some 21), true)), 31⟩,
  ⟨(some 23), .mov (.t 3), (some ((some 21), true)), 31⟩,
  ⟨(some 24), .mov (.t 9), (some ((some 21), true)), 31⟩,
  ⟨(some 25), .bin .add (.t 23) (.t 24), (some ((some 21), true)), 223⟩,
  ⟨(some 26), .indexAddr none 1 (.t 22) (.t 25), (some ((some 21), true)), 511⟩,
  ⟨(some 27), .load false 1 (.t 26), (some ((some 21), true)), 1023⟩,
  ⟨(some 28), .mov (.t 0), (some ((some 21), true)), 31⟩,
  ⟨(some 29), .mov (.t 3), (some ((some 21), true)), 31⟩,
  ⟨(some 30), .mov (.t 9), (some ((some 21), true)), 31⟩,
  ⟨(some 31), .bin .add (.t 29) (.t 30), (some ((some 21), true)), 12319⟩,
  ⟨(some 32), .bin .add (.t 31) (.k (.sc (.int .i64 1))), (some ((some 21), true)), 28703⟩,
  ⟨(some 33), .indexAddr none 1 (.t 28) (.t 32), (some ((some 21), true)), 63519⟩,
  ⟨(some 34), .load false 1 (.t 33), (some ((some 21), true)), 129055⟩,
  ⟨(some 35), .call (.k (.fn (.func f_cmp_Less_int) [] [])) [(.t 27), (.t 34)], (some ((some 21), true)), 262143⟩,
  ⟨(some 36), .pick (.t 21) (.t 35) (.k (.sc (.bool false))), none, 524287⟩]
def c_slices_siftDownOrdered_int_r4 : List AO := [⟨(some 37), .mov (.t 9), none, 0⟩,
  ⟨(some 38), .bin .add (.t 37) (.k (.sc (.int .i64 1))), none, 0⟩,
  ⟨(some 9), .mov (.t 38), none, 0⟩]
def c_slices_siftDownOrdered_int_r5 : List AO := [⟨(some 39), .mov (.t 0), none, 0⟩,
  ⟨(some 40), .mov (.t 3), none, 0⟩,
  ⟨(some 41), .mov (.t 8), none, 0⟩,
  ⟨(some 42), .bin .add (.t 40) (.t 41), none, 6⟩,
  ⟨(some 43), .indexAddr none 1 (.t 39) (.t 42), none, 15⟩,
  ⟨(some 44), .load false 1 (.t 43), none, 31⟩,
  ⟨(some 45), .mov (.t 0), none, 0⟩,
  ⟨(some 46), .mov (.t 3), none, 0⟩,
  ⟨(some 47), .mov (.t 9), none, 0⟩,
  ⟨(some 48), .bin .add (.t 46) (.t 47), none, 384⟩,
  ⟨(some 49), .indexAddr none 1 (.t 45) (.t 48), none, 960⟩,
  ⟨(some 50), .load false 1 (.t 49), none, 1984⟩,
  ⟨(some 51), .call (.k (.fn (.func f_cmp_Less_int) [] [])) [(.t 44), (.t 50)], none, 4095⟩,
  ⟨(some 52), .un .not (.t 51), none, 8191⟩]
def c_slices_siftDownOrdered_int_r6 : List AO := [⟨(some 53), .mov (.t 0), none, 0⟩,
  ⟨(some 54), .mov (.t 3), none, 0⟩,
  ⟨(some 55), .mov (.t 8), none, 0⟩,
  ⟨(some 56), .bin .add (.t 54) (.t 55), none, 6⟩,
  ⟨(some 57), .mov (.t 0), none, 0⟩,
  ⟨(some 58), .mov (.t 3), none, 0⟩,
  ⟨(some 59), .mov (.t 9), none, 0⟩,
  ⟨(some 60), .bin .add (.t 58) (.t 59), none, 96⟩,
  ⟨(some 61), .mov (.t 0), none, 0⟩,
  ⟨(some 62), .mov (.t 3), none, 0⟩,
  ⟨(some 63), .mov (.t 9), none, 0⟩,
  ⟨(some 64), .bin .add (.t 62) (.t 63), none, 1536⟩,
  ⟨(some 65), .indexAddr none 1 (.t 61) (.t 64), none, 3840⟩,
  ⟨(some 66), .load false 1 (.t 65), none, 7936⟩,
  ⟨(some 67), .mov (.t 0), none, 0⟩,
  ⟨(some 68), .mov (.t 3), none, 0⟩,
  ⟨(some 69), .mov (.t 8), none, 0⟩,
  ⟨(some 70), .bin .add (.t 68) (.t 69), none, 98304⟩,
  ⟨(some 71), .indexAddr none 1 (.t 67) (.t 70), none, 245760⟩,
  ⟨(some 72), .load false 1 (.t 71), none, 507904⟩,
  ⟨(some 73), .indexAddr none 1 (.t 53) (.t 56), none, 1048335⟩,
  ⟨none, .store 1 (.t 73) (.t 66), none, 2096911⟩,
  ⟨(some 74), .indexAddr none 1 (.t 57) (.t 60), none, 4194303⟩,
  ⟨none, .store 1 (.t 74) (.t 72), none, 8388607⟩]
def c_slices_siftDownOrdered_int_r7 : List AO := [⟨(some 75), .mov (.t 9), none, 0⟩,
  ⟨(some 8), .mov (.t 75), none, 0⟩]
def c_slices_siftDownOrdered_int_l0 : AC := .blk 1 (.seq (.reg c_slices_siftDownOrdered_int_r1 false) (.seq (.seq (.reg c_slices_siftDownOrdered_int_r2 false) (.cond (.t 16) (.exit 0) (.skip))) (.seq (.seq (.reg c_slices_siftDownOrdered_int_r3 true) (.cond (.t 36) (.reg c_slices_siftDownOrdered_int_r4 false) (.skip))) (.seq (.seq (.reg c_slices_siftDownOrdered_int_r5 true) (.cond (.t 52) (.ret) (.skip))) (.seq (.reg c_slices_siftDownOrdered_int_r6 true) (.reg c_slices_siftDownOrdered_int_r7 false))))))
def c_slices_siftDownOrdered_int : AFn := { code := .seq (.reg c_slices_siftDownOrdered_int_r0 false) (.blk 0 (.loop c_slices_siftDownOrdered_int_l0)), ntmps := 76, results := [] }
/-- 105 slices.medianAdjacentOrdered[int] -/
def c_slices_medianAdjacentOrdered_int_r0 : List AO := [⟨(some 6), .mov (.k (.sc (.int .i64 0))), none, 0⟩]
def c_slices_medianAdjacentOrdered_int_r1 : List AO := [⟨(some 7), .mov (.t 0), none, 0⟩,
  ⟨(some 8), .mov (.t 1), none, 0⟩,
  ⟨(some 9), .bin .sub (.t 8) (.k (.sc (.int .i64 1))), none, 0⟩,
  ⟨(some 10), .mov (.t 1), none, 0⟩,
  ⟨(some 11), .mov (.t 1), none, 0⟩,
  ⟨(some 12), .bin .add (.t 11) (.k (.sc (.int .i64 1))), none, 0⟩,
  ⟨(some 13), .mov (.t 2), none, 0⟩,
  ⟨(some 14), .call (.k (.fn (.func f_slices_medianOrdered_int) [] [])) [(.t 7), (.t 9), (.t 10), (.t 12), (.t 13)], none, 0⟩,
  ⟨(some 6), .mov (.t 14), none, 0⟩]
def c_slices_medianAdjacentOrdered_int : AFn := { code := .seq (.reg c_slices_medianAdjacentOrdered_int_r0 false) (.seq (.reg c_slices_medianAdjacentOrdered_int_r1 false) (.ret)), ntmps := 15, results := [.tmp 6] }
/-- 106 slices.medianOrdered[int] -/
def c_slices_medianOrdered_int_r0 : List AO := [⟨(some 10), .mov (.k (.sc (.int .i64 0))), none, 0⟩]
def c_slices_medianOrdered_int_r1 : List AO := [⟨(some 12), .mov (.t 0), none, 0⟩,
  ⟨(some 13), .mov (.t 1), none, 0⟩,
  ⟨(some 14), .mov (.t 2), none, 0⟩,
  ⟨(some 15), .mov (.t 4), none, 0⟩,
  ⟨(some 16), .call (.k (.fn (.func f_slices_order2Ordered_int) [] [])) [(.t 12), (.t 13), (.t 14), (.t 15)], none, 0⟩,
  ⟨(some 11), .mov (.t 16), none, 0⟩,
  ⟨(some 17), .extract (.t 11) 0, none, 0⟩,
  ⟨(some 18), .extract (.t 11) 1, none, 0⟩,
  ⟨(some 1), .mov (.t 17), none, 0⟩,
  ⟨(some 2), .mov (.t 18), none, 0⟩]
def c_slices_medianOrdered_int_r2 : List AO := [⟨(some 20), .mov (.t 0), none, 0⟩,
  ⟨(some 21), .mov (.t 2), none, 0⟩,
  ⟨(some 22), .mov (.t 3), none, 0⟩,
  ⟨(some 23), .mov (.t 4), none, 0⟩,
  ⟨(some 24), .call (.k (.fn (.func f_slices_order2Ordered_int) [] [])) [(.t 20), (.t 21), (.t 22), (.t 23)], none, 0⟩,
  ⟨(some 19), .mov (.t 24), none, 0⟩,
  ⟨(some 25), .extract (.t 19) 0, none, 0⟩,
  ⟨(some 26), .extract (.t 19) 1, none, 0⟩,
  ⟨(some 2), .mov (.t 25), none, 0⟩,
  ⟨(some 3), .mov (.t 26), none, 0⟩]
def c_slices_medianOrdered_int_r3 : List AO := [⟨(some 28), .mov (.t 0), none, 0⟩,
  ⟨(some 29), .mov (.t 1), none, 0⟩,
  ⟨(some 30), .mov (.t 2), none, 0⟩,
  ⟨(some 31), .mov (.t 4), none, 0⟩,
  ⟨(some 32), .call (.k (.fn (.func f_slices_order2Ordered_int) [] [])) [(.t 28), (.t 29), (.t 30), (.t 31)], none, 0⟩,
  ⟨(some 27), .mov (.t 32), none, 0⟩,
  ⟨(some 33), .extract (.t 27) 0, none, 0⟩,
  ⟨(some 34), .extract (.t 27) 1, none, 0⟩,
  ⟨(some 1), .mov (.t 33), none, 0⟩,
  ⟨(some 2), .mov (.t 34), none, 0⟩]
def c_slices_medianOrdered_int_r4 : List AO := [⟨(some 35), .mov (.t 2), none, 0⟩,
  ⟨(some 10), .mov (.t 35), none, 0⟩]
def c_slices_medianOrdered_int : AFn := { code := .seq (.reg c_slices_medianOrdered_int_r0 false) (.seq (.reg c_slices_medianOrdered_int_r1 false) (.seq (.reg c_slices_medianOrdered_int_r2 false) (.seq (.reg c_slices_medianOrdered_int_r3 false) (.seq (.reg c_slices_medianOrdered_int_r4 false) (.ret))))), ntmps := 36, results := [.tmp 10] }
/-- 107 cmp.isNaN[int] -/
def c_cmp_isNaN_int_r0 : List AO := [⟨(some 2), .mov (.k (.sc (.bool false))), none, 0⟩]
def c_cmp_isNaN_int_r1 : List AO := [⟨(some 3), .mov (.t 0), none, 0⟩,
  ⟨(some 4), .mov (.t 0), none, 0⟩,
  ⟨(some 5), .bin .neq (.t 3) (.t 4), none, 0⟩,
  ⟨(some 2), .mov (.t 5), none, 0⟩]
def c_cmp_isNaN_int : AFn := { code := .seq (.reg c_cmp_isNaN_int_r0 false) (.seq (.reg c_cmp_isNaN_int_r1 false) (.ret)), ntmps := 6, results := [.tmp 2] }
/-- 108 phasor/gate.of -/
def c_gate_of_r0 : List AO := [⟨(some 2), .alloc [(.sc (.string ⟨#[]⟩)), (.sc (.int .i64 0)), (.sc (.int .i64 0)), (.sc (.int .i64 0))], none, 0⟩]
def c_gate_of_r1 : List AO := [⟨(some 3), .mov (.t 0), none, 0⟩,
  ⟨(some 4), .bin .lss (.t 3) (.k (.sc (.int .i64 1))), none, 0⟩,
  ⟨(some 5), .mov (.t 4), none, 0⟩,
  ⟨(some 6), .mov (.t 0), (some ((some 5), false)), 0⟩,
  ⟨(some 7), .bin .gtr (.t 6) (.k (.sc (.int .i64 20))), (some ((some 5), false)), 0⟩,
  ⟨(some 8), .pick (.t 5) (.k (.sc (.bool true))) (.t 7), none, 0⟩]
def c_gate_of_r2 : List AO := [⟨(some 9), .build [(.sc (.string ⟨#[]⟩)), (.sc (.int .i64 0)), (.sc (.int .i64 0)), (.sc (.int .i64 0))] [], none, 0⟩,
  ⟨none, .store 4 (.t 2) (.t 9), none, 0⟩]
def c_gate_of_r3 : List AO := [⟨(some 10), .call (.k (.fn (.func f_gate_table) [] [])) [], none, 0⟩,
  ⟨(some 11), .mov (.t 0), none, 0⟩,
  ⟨(some 12), .index true 21 4 (.t 10) (.t 11), none, 0⟩,
  ⟨none, .store 4 (.t 2) (.t 12), none, 0⟩]
def c_gate_of : AFn := { code := .seq (.reg c_gate_of_r0 false) (.seq (.seq (.reg c_gate_of_r1 false) (.cond (.t 8) (.seq (.reg c_gate_of_r2 false) (.ret)) (.skip))) (.seq (.reg c_gate_of_r3 false) (.ret))), ntmps := 13, results := [.cell true 4 2] }
/-- 109 phasor/phasorref06.Is -/
def c_phasorref06_Is_r0 : List AO := [⟨(some 2), .mov (.k (.sc (.bool false))), none, 0⟩]
def c_phasorref06_Is_r1 : List AO := [⟨(some 3), .mov (.t 0), none, 0⟩,
  ⟨(some 4), .bin .geq (.t 3) (.k (.sc (.int .i64 1))), none, 0⟩,
  ⟨(some 5), .mov (.t 4), none, 0⟩,
  ⟨(some 6), .mov (.t 0), (some ((some 5), true)), 0⟩,
  ⟨(some 7), .bin .leq (.t 6) (.k (.sc (.int .i64 20))), (some ((some 5), true)), 0⟩,
  ⟨(some 8), .pick (.t 5) (.t 7) (.k (.sc (.bool false))), none, 0⟩,
  ⟨(some 2), .mov (.t 8), none, 0⟩]
def c_phasorref06_Is : AFn := { code := .seq (.reg c_phasorref06_Is_r0 false) (.seq (.reg c_phasorref06_Is_r1 false) (.ret)), ntmps := 9, results := [.tmp 2] }
/-- 110 phasor/phasorref06.Arity -/
def c_phasorref06_Arity_r0 : List AO := [⟨(some 2), .mov (.k (.sc (.int .i64 0))), none, 0⟩]
def c_phasorref06_Arity_r1 : List AO := [⟨(some 4), .mov (.t 0), none, 0⟩,
  ⟨(some 5), .call (.k (.fn (.func f_phasorref06_Is) [] [])) [(.t 4)], none, 0⟩,
  ⟨(some 6), .un .not (.t 5), none, 0⟩,
  ⟨(some 3), .mov (.t 6), none, 0⟩]
def c_phasorref06_Arity_r2 : List AO := [⟨(some 2), .mov (.k (.sc (.int .i64 0))), none, 0⟩]
def c_phasorref06_Arity_r3 : List AO := [⟨(some 8), .mov (.t 0), none, 0⟩,
  ⟨(some 9), .bin .leq (.t 8) (.k (.sc (.int .i64 10))), none, 0⟩,
  ⟨(some 7), .mov (.t 9), none, 0⟩]
def c_phasorref06_Arity_r4 : List AO := [⟨(some 2), .mov (.k (.sc (.int .i64 1))), none, 0⟩]
def c_phasorref06_Arity_r5 : List AO := [⟨(some 11), .mov (.t 0), none, 0⟩,
  ⟨(some 12), .bin .leq (.t 11) (.k (.sc (.int .i64 17))), none, 0⟩,
  ⟨(some 10), .mov (.t 12), none, 0⟩]
def c_phasorref06_Arity_r6 : List AO := [⟨(some 2), .mov (.k (.sc (.int .i64 2))), none, 0⟩]
def c_phasorref06_Arity_r7 : List AO := [⟨(some 2), .mov (.k (.sc (.int .i64 3))), none, 0⟩]
def c_phasorref06_Arity : AFn := { code := .seq (.reg c_phasorref06_Arity_r0 false) (.seq (.blk 0 (.seq (.reg c_phasorref06_Arity_r1 false) (.cond (.t 3) (.seq (.reg c_phasorref06_Arity_r2 false) (.ret)) (.seq (.reg c_phasorref06_Arity_r3 false) (.cond (.t 7) (.seq (.reg c_phasorref06_Arity_r4 false) (.ret)) (.seq (.reg c_phasorref06_Arity_r5 false) (.cond (.t 10) (.seq (.reg c_phasorref06_Arity_r6 false) (.ret)) (.skip)))))))) (.seq (.reg c_phasorref06_Arity_r7 false) (.ret))), ntmps := 13, results := [.tmp 2] }
/-- 111 slices.order2CmpFunc[int] -/
def c_slices_order2CmpFunc_int_r0 : List AO := [⟨(some 10), .mov (.k (.sc (.int .i64 0))), none, 0⟩,
  ⟨(some 11), .mov (.k (.sc (.int .i64 0))), none, 0⟩]
def c_slices_order2CmpFunc_int_r1 : List AO := [⟨(some 12), .mov (.t 4), none, 0⟩,
  ⟨(some 13), .mov (.t 0), none, 0⟩,
  ⟨(some 14), .mov (.t 2), none, 0⟩,
  ⟨(some 15), .indexAddr none 1 (.t 13) (.t 14), none, 6⟩,
  ⟨(some 16), .load false 1 (.t 15), none, 14⟩,
  ⟨(some 17), .mov (.t 0), none, 0⟩,
  ⟨(some 18), .mov (.t 1), none, 0⟩,
  ⟨(some 19), .indexAddr none 1 (.t 17) (.t 18), none, 96⟩,
  ⟨(some 20), .load false 1 (.t 19), none, 224⟩,
  ⟨(some 21), .call (.t 12) [(.t 16), (.t 20)], none, 511⟩,
  ⟨(some 22), .bin .lss (.t 21) (.k (.sc (.int .i64 0))), none, 1023⟩]
def c_slices_order2CmpFunc_int_r2 : List AO := [⟨(some 23), .mov (.t 3), none, 0⟩,
  ⟨(some 24), .nilCheck (.t 23), none, 0⟩,
  ⟨(some 25), .load false 1 (.t 24), none, 0⟩,
  ⟨(some 26), .bin .add (.t 25) (.k (.sc (.int .i64 1))), none, 0⟩,
  ⟨(some 27), .nilCheck (.t 23), none, 0⟩,
  ⟨none, .store 1 (.t 27) (.t 26), none, 0⟩]
def c_slices_order2CmpFunc_int_r3 : List AO := [⟨(some 28), .mov (.t 2), none, 0⟩,
  ⟨(some 29), .mov (.t 1), none, 0⟩,
  ⟨(some 10), .mov (.t 28), none, 0⟩,
  ⟨(some 11), .mov (.t 29), none, 0⟩]
def c_slices_order2CmpFunc_int_r4 : List AO := [⟨(some 30), .mov (.t 1), none, 0⟩,
  ⟨(some 31), .mov (.t 2), none, 0⟩,
  ⟨(some 10), .mov (.t 30), none, 0⟩,
  ⟨(some 11), .mov (.t 31), none, 0⟩]
def c_slices_order2CmpFunc_int : AFn := { code := .seq (.reg c_slices_order2CmpFunc_int_r0 false) (.seq (.seq (.reg c_slices_order2CmpFunc_int_r1 true) (.cond (.t 22) (.seq (.reg c_slices_order2CmpFunc_int_r2 false) (.seq (.reg c_slices_order2CmpFunc_int_r3 false) (.ret))) (.skip))) (.seq (.reg c_slices_order2CmpFunc_int_r4 false) (.ret))), ntmps := 32, results := [.tmp 10, .tmp 11] }
/-- 112 slices.order2Ordered[int] -/
def c_slices_order2Ordered_int_r0 : List AO := [⟨(some 8), .mov (.k (.sc (.int .i64 0))), none, 0⟩,
  ⟨(some 9), .mov (.k (.sc (.int .i64 0))), none, 0⟩]
def c_slices_order2Ordered_int_r1 : List AO := [⟨(some 10), .mov (.t 0), none, 0⟩,
  ⟨(some 11), .mov (.t 2), none, 0⟩,
  ⟨(some 12), .indexAddr none 1 (.t 10) (.t 11), none, 3⟩,
  ⟨(some 13), .load false 1 (.t 12), none, 7⟩,
  ⟨(some 14), .mov (.t 0), none, 0⟩,
  ⟨(some 15), .mov (.t 1), none, 0⟩,
  ⟨(some 16), .indexAddr none 1 (.t 14) (.t 15), none, 48⟩,
  ⟨(some 17), .load false 1 (.t 16), none, 112⟩,
  ⟨(some 18), .call (.k (.fn (.func f_cmp_Less_int) [] [])) [(.t 13), (.t 17)], none, 255⟩]
def c_slices_order2Ordered_int_r2 : List AO := [⟨(some 19), .mov (.t 3), none, 0⟩,
  ⟨(some 20), .nilCheck (.t 19), none, 0⟩,
  ⟨(some 21), .load false 1 (.t 20), none, 0⟩,
  ⟨(some 22), .bin .add (.t 21) (.k (.sc (.int .i64 1))), none, 0⟩,
  ⟨(some 23), .nilCheck (.t 19), none, 0⟩,
  ⟨none, .store 1 (.t 23) (.t 22), none, 0⟩]
def c_slices_order2Ordered_int_r3 : List AO := [⟨(some 24), .mov (.t 2), none, 0⟩,
  ⟨(some 25), .mov (.t 1), none, 0⟩,
  ⟨(some 8), .mov (.t 24), none, 0⟩,
  ⟨(some 9), .mov (.t 25), none, 0⟩]
def c_slices_order2Ordered_int_r4 : List AO := [⟨(some 26), .mov (.t 1), none, 0⟩,
  ⟨(some 27), .mov (.t 2), none, 0⟩,
  ⟨(some 8), .mov (.t 26), none, 0⟩,
  ⟨(some 9), .mov (.t 27), none, 0⟩]
def c_slices_order2Ordered_int : AFn := { code := .seq (.reg c_slices_order2Ordered_int_r0 false) (.seq (.seq (.reg c_slices_order2Ordered_int_r1 true) (.cond (.t 18) (.seq (.reg c_slices_order2Ordered_int_r2 false) (.seq (.reg c_slices_order2Ordered_int_r3 false) (.ret))) (.skip))) (.seq (.reg c_slices_order2Ordered_int_r4 false) (.ret))), ntmps := 28, results := [.tmp 8, .tmp 9] }
/-- 113 phasor/gate.table -/
def c_gate_table_r0 : List AO := [⟨(some 0), .alloc [(.sc (.string ⟨#[]⟩)), (.sc (.int .i64 0)), (.sc (.int .i64 0)), (.sc (.int .i64 0)), (.sc (.string ⟨#[]⟩)), (.sc (.int .i64 0)), (.sc (.int .i64 0)), (.sc (.int .i64 0)), (.sc (.string ⟨#[]⟩)), (.sc (.int .i64 0)), (.sc (.int .i64 0)), (.sc (.int .i64 0)), (.sc (.string ⟨#[]⟩)), (.sc (.int .i64 0)), (.sc (.int .i64 0)), (.sc (.int .i64 0)), (.sc (.string ⟨#[]⟩)), (.sc (.int .i64 0)), (.sc (.int .i64 0)), (.sc (.int .i64 0)), (.sc (.string ⟨#[]⟩)), (.sc (.int .i64 0)), (.sc (.int .i64 0)), (.sc (.int .i64 0)), (.sc (.string ⟨#[]⟩)), (.sc (.int .i64 0)), (.sc (.int .i64 0)), (.sc (.int .i64 0)), (.sc (.string ⟨#[]⟩)), (.sc (.int .i64 0)), (.sc (.int .i64 0)), (.sc (.int .i64 0)), (.sc (.string ⟨#[]⟩)), (.sc (.int .i64 0)), (.sc (.int .i64 0)), (.sc (.int .i64 0)), (.sc (.string ⟨#[]⟩)), (.sc (.int .i64 0)), (.sc (.int .i64 0)), (.sc (.int .i64 0)), (.sc (.string ⟨#[]⟩)), (.sc (.int .i64 0)), (.sc (.int .i64 0)), (.sc (.int .i64 0)), (.sc (.string ⟨#[]⟩)), (.sc (.int .i64 0)), (.sc (.int .i64 0)), (.sc (.int .i64 0)), (.sc (.string ⟨#[]⟩)), (.sc (.int .i64 0)), (.sc (.int .i64 0)), (.sc (.int .i64 0)), (.sc (.string ⟨#[]⟩)), (.sc (.int .i64 0)), (.sc (.int .i64 0)), (.sc (.int .i64 0)), (.sc (.string ⟨#[]⟩)), (.sc (.int .i64 0)), (.sc (.int .i64 0)), (.sc (.int .i64 0)), (.sc (.string ⟨#[]⟩)), (.sc (.int .i64 0)), (.sc (.int .i64 0)), (.sc (.int .i64 0)), (.sc (.string ⟨#[]⟩)), (.sc (.int .i64 0)), (.sc (.int .i64 0)), (.sc (.int .i64 0)), (.sc (.string ⟨#[]⟩)), (.sc (.int .i64 0)), (.sc (.int .i64 0)), (.sc (.int .i64 0)), (.sc (.string ⟨#[]⟩)), (.sc (.int .i64 0)), (.sc (.int .i64 0)), (.sc (.int .i64 0)), (.sc (.string ⟨#[]⟩)), (.sc (.int .i64 0)), (.sc (.int .i64 0)), (.sc (.int .i64 0)), (.sc (.string ⟨#[]⟩)), (.sc (.int .i64 0)), (.sc (.int .i64 0)), (.sc (.int .i64 0))], none, 0⟩]
def c_gate_table_r1 : List AO := [⟨(some 1), .build [(.sc (.string ⟨#[]⟩)), (.sc (.int .i64 0)), (.sc (.int .i64 0)), (.sc (.int .i64 0))] [(0, 1, (.k (.sc (.string ⟨#[105, 100]⟩)))), (1, 1, (.k (.sc (.int .i64 1)))), (2, 1, (.k (.sc (.int .i64 0)))), (3, 1, (.k (.sc (.int .i64 1))))], none, 0⟩,
  ⟨(some 2), .build [(.sc (.string ⟨#[]⟩)), (.sc (.int .i64 0)), (.sc (.int .i64 0)), (.sc (.int .i64 0))] [(0, 1, (.k (.sc (.string ⟨#[120]⟩)))), (1, 1, (.k (.sc (.int .i64 1)))), (2, 1, (.k (.sc (.int .i64 0)))), (3, 1, (.k (.sc (.int .i64 2))))], none, 0⟩,
  ⟨(some 3), .build [(.sc (.string ⟨#[]⟩)), (.sc (.int .i64 0)), (.sc (.int .i64 0)), (.sc (.int .i64 0))] [(0, 1, (.k (.sc (.string ⟨#[121]⟩)))), (1, 1, (.k (.sc (.int .i64 1)))), (2, 1, (.k (.sc (.int .i64 0)))), (3, 1, (.k (.sc (.int .i64 3))))], none, 0⟩,
  ⟨(some 4), .build [(.sc (.string ⟨#[]⟩)), (.sc (.int .i64 0)), (.sc (.int .i64 0)), (.sc (.int .i64 0))] [(0, 1, (.k (.sc (.string ⟨#[122]⟩)))), (1, 1, (.k (.sc (.int .i64 1)))), (2, 1, (.k (.sc (.int .i64 0)))), (3, 1, (.k (.sc (.int .i64 4))))], none, 0⟩,
  ⟨(some 5), .build [(.sc (.string ⟨#[]⟩)), (.sc (.int .i64 0)), (.sc (.int .i64 0)), (.sc (.int .i64 0))] [(0, 1, (.k (.sc (.string ⟨#[115]⟩)))), (1, 1, (.k (.sc (.int .i64 1)))), (2, 1, (.k (.sc (.int .i64 0)))), (3, 1, (.k (.sc (.int .i64 6))))], none, 0⟩,
  ⟨(some 6), .build [(.sc (.string ⟨#[]⟩)), (.sc (.int .i64 0)), (.sc (.int .i64 0)), (.sc (.int .i64 0))] [(0, 1, (.k (.sc (.string ⟨#[115, 100, 103]⟩)))), (1, 1, (.k (.sc (.int .i64 1)))), (2, 1, (.k (.sc (.int .i64 0)))), (3, 1, (.k (.sc (.int .i64 5))))], none, 0⟩,
  ⟨(some 7), .build [(.sc (.string ⟨#[]⟩)), (.sc (.int .i64 0)), (.sc (.int .i64 0)), (.sc (.int .i64 0))] [(0, 1, (.k (.sc (.string ⟨#[115, 120]⟩)))), (1, 1, (.k (.sc (.int .i64 1)))), (2, 1, (.k (.sc (.int .i64 0)))), (3, 1, (.k (.sc (.int .i64 8))))], none, 0⟩,
  ⟨(some 8), .build [(.sc (.string ⟨#[]⟩)), (.sc (.int .i64 0)), (.sc (.int .i64 0)), (.sc (.int .i64 0))] [(0, 1, (.k (.sc (.string ⟨#[115, 120, 100, 103]⟩)))), (1, 1, (.k (.sc (.int .i64 1)))), (2, 1, (.k (.sc (.int .i64 0)))), (3, 1, (.k (.sc (.int .i64 7))))], none, 0⟩,
  ⟨(some 9), .build [(.sc (.string ⟨#[]⟩)), (.sc (.int .i64 0)), (.sc (.int .i64 0)), (.sc (.int .i64 0))] [(0, 1, (.k (.sc (.string ⟨#[115, 121]⟩)))), (1, 1, (.k (.sc (.int .i64 1)))), (2, 1, (.k (.sc (.int .i64 0)))), (3, 1, (.k (.sc (.int .i64 10))))], none, 0⟩,
  ⟨(some 10), .build [(.sc (.string ⟨#[]⟩)), (.sc (.int .i64 0)), (.sc (.int .i64 0)), (.sc (.int .i64 0))] [(0, 1, (.k (.sc (.string ⟨#[115, 121, 100, 103]⟩)))), (1, 1, (.k (.sc (.int .i64 1)))), (2, 1, (.k (.sc (.int .i64 0)))), (3, 1, (.k (.sc (.int .i64 9))))], none, 0⟩,
  ⟨(some 11), .build [(.sc (.string ⟨#[]⟩)), (.sc (.int .i64 0)), (.sc (.int .i64 0)), (.sc (.int .i64 0))] [(0, 1, (.k (.sc (.string ⟨#[99, 120]⟩)))), (1, 1, (.k (.sc (.int .i64 2)))), (2, 1, (.k (.sc (.int .i64 1)))), (3, 1, (.k (.sc (.int .i64 11))))], none, 0⟩,
  ⟨(some 12), .build [(.sc (.string ⟨#[]⟩)), (.sc (.int .i64 0)), (.sc (.int .i64 0)), (.sc (.int .i64 0))] [(0, 1, (.k (.sc (.string ⟨#[99, 121]⟩)))), (1, 1, (.k (.sc (.int .i64 2)))), (2, 1, (.k (.sc (.int .i64 1)))), (3, 1, (.k (.sc (.int .i64 12))))], none, 0⟩,
  ⟨(some 13), .build [(.sc (.string ⟨#[]⟩)), (.sc (.int .i64 0)), (.sc (.int .i64 0)), (.sc (.int .i64 0))] [(0, 1, (.k (.sc (.string ⟨#[99, 122]⟩)))), (1, 1, (.k (.sc (.int .i64 2)))), (2, 1, (.k (.sc (.int .i64 0)))), (3, 1, (.k (.sc (.int .i64 13))))], none, 0⟩,
  ⟨(some 14), .build [(.sc (.string ⟨#[]⟩)), (.sc (.int .i64 0)), (.sc (.int .i64 0)), (.sc (.int .i64 0))] [(0, 1, (.k (.sc (.string ⟨#[115, 119, 97, 112]⟩)))), (1, 1, (.k (.sc (.int .i64 2)))), (2, 1, (.k (.sc (.int .i64 0)))), (3, 1, (.k (.sc (.int .i64 14))))], none, 0⟩,
  ⟨(some 15), .build [(.sc (.string ⟨#[]⟩)), (.sc (.int .i64 0)), (.sc (.int .i64 0)), (.sc (.int .i64 0))] [(0, 1, (.k (.sc (.string ⟨#[105, 115, 119, 97, 112]⟩)))), (1, 1, (.k (.sc (.int .i64 2)))), (2, 1, (.k (.sc (.int .i64 0)))), (3, 1, (.k (.sc (.int .i64 16))))], none, 0⟩,
  ⟨(some 16), .build [(.sc (.string ⟨#[]⟩)), (.sc (.int .i64 0)), (.sc (.int .i64 0)), (.sc (.int .i64 0))] [(0, 1, (.k (.sc (.string ⟨#[105, 115, 119, 97, 112, 100, 103]⟩)))), (1, 1, (.k (.sc (.int .i64 2)))), (2, 1, (.k (.sc (.int .i64 0)))), (3, 1, (.k (.sc (.int .i64 15))))], none, 0⟩,
  ⟨(some 17), .build [(.sc (.string ⟨#[]⟩)), (.sc (.int .i64 0)), (.sc (.int .i64 0)), (.sc (.int .i64 0))] [(0, 1, (.k (.sc (.string ⟨#[104, 104]⟩)))), (1, 1, (.k (.sc (.int .i64 2)))), (2, 1, (.k (.sc (.int .i64 0)))), (3, 1, (.k (.sc (.int .i64 17))))], none, 0⟩,
  ⟨(some 18), .build [(.sc (.string ⟨#[]⟩)), (.sc (.int .i64 0)), (.sc (.int .i64 0)), (.sc (.int .i64 0))] [(0, 1, (.k (.sc (.string ⟨#[99, 99, 120]⟩)))), (1, 1, (.k (.sc (.int .i64 3)))), (2, 1, (.k (.sc (.int .i64 2)))), (3, 1, (.k (.sc (.int .i64 18))))], none, 0⟩,
  ⟨(some 19), .build [(.sc (.string ⟨#[]⟩)), (.sc (.int .i64 0)), (.sc (.int .i64 0)), (.sc (.int .i64 0))] [(0, 1, (.k (.sc (.string ⟨#[99, 99, 122]⟩)))), (1, 1, (.k (.sc (.int .i64 3)))), (2, 1, (.k (.sc (.int .i64 0)))), (3, 1, (.k (.sc (.int .i64 19))))], none, 0⟩,
  ⟨(some 20), .build [(.sc (.string ⟨#[]⟩)), (.sc (.int .i64 0)), (.sc (.int .i64 0)), (.sc (.int .i64 0))] [(0, 1, (.k (.sc (.string ⟨#[99, 115, 119, 97, 112]⟩)))), (1, 1, (.k (.sc (.int .i64 3)))), (2, 1, (.k (.sc (.int .i64 1)))), (3, 1, (.k (.sc (.int .i64 20))))], none, 0⟩,
  ⟨(some 21), .build [(.sc (.string ⟨#[]⟩)), (.sc (.int .i64 0)), (.sc (.int .i64 0)), (.sc (.int .i64 0)), (.sc (.string ⟨#[]⟩)), (.sc (.int .i64 0)), (.sc (.int .i64 0)), (.sc (.int .i64 0)), (.sc (.string ⟨#[]⟩)), (.sc (.int .i64 0)), (.sc (.int .i64 0)), (.sc (.int .i64 0)), (.sc (.string ⟨#[]⟩)), (.sc (.int .i64 0)), (.sc (.int .i64 0)), (.sc (.int .i64 0)), (.sc (.string ⟨#[]⟩)), (.sc (.int .i64 0)), (.sc (.int .i64 0)), (.sc (.int .i64 0)), (.sc (.string ⟨#[]⟩)), (.sc (.int .i64 0)), (.sc (.int .i64 0)), (.sc (.int .i64 0)), (.sc (.string ⟨#[]⟩)), (.sc (.int .i64 0)), (.sc (.int .i64 0)), (.sc (.int .i64 0)), (.sc (.string ⟨#[]⟩)), (.sc (.int .i64 0)), (.sc (.int .i64 0)), (.sc (.int .i64 0)), (.sc (.string ⟨#[]⟩)), (.sc (.int .i64 0)), (.sc (.int .i64 0)), (.sc (.int .i64 0)), (.sc (.string ⟨#[]⟩)), (.sc (.int .i64 0)), (.sc (.int .i64 0)), (.sc (.int .i64 0)), (.sc (.string ⟨#[]⟩)), (.sc (.int .i64 0)), (.sc (.int .i64 0)), (.sc (.int .i64 0)), (.sc (.string ⟨#[]⟩)), (.sc (.int .i64 0)), (.sc (.int .i64 0)), (.sc (.int .i64 0)), (.sc (.string ⟨#[]⟩)), (.sc (.int .i64 0)), (.sc (.int .i64 0)), (.sc (.int .i64 0)), (.sc (.string ⟨#[]⟩)), (.sc (.int .i64 0)), (.sc (.int .i64 0)), (.sc (.int .i64 0)), (.sc (.string ⟨#[]⟩)), (.sc (.int .i64 0)), (.sc (.int .i64 0)), (.sc (.int .i64 0)), (.sc (.string ⟨#[]⟩)), (.sc (.int .i64 0)), (.sc (.int .i64 0)), (.sc (.int .i64 0)), (.sc (.string ⟨#[]⟩)), (.sc (.int .i64 0)), (.sc (.int .i64 0)), (.sc (.int .i64 0)), (.sc (.string ⟨#[]⟩)), (.sc (.int .i64 0)), (.sc (.int .i64 0)), (.sc (.int .i64 0)), (.sc (.string ⟨#[]⟩)), (.sc (.int .i64 0)), (.sc (.int .i64 0)), (.sc (.int .i64 0)), (.sc (.string ⟨#[]⟩)), (.sc (.int .i64 0)), (.sc (.int .i64 0)), (.sc (.int .i64 0)), (.sc (.string ⟨#[]⟩)), (.sc (.int .i64 0)), (.sc (.int .i64 0)), (.sc (.int .i64 0))] [(4, 4, (.t 1)), (8, 4, (.t 2)), (12, 4, (.t 3)), (16, 4, (.t 4)), (20, 4, (.t 5)), (24, 4, (.t 6)), (28, 4, (.t 7)), (32, 4, (.t 8)), (36, 4, (.t 9)), (40, 4, (.t 10)), (44, 4, (.t 11)), (48, 4, (.t 12)), (52, 4, (.t 13)), (56, 4, (.t 14)), (60, 4, (.t 15)), (64, 4, (.t 16)), (68, 4, (.t 17)), (72, 4, (.t 18)), (76, 4, (.t 19)), (80, 4, (.t 20))], none, 0⟩,
  ⟨none, .store 84 (.t 0) (.t 21), none, 0⟩]
def c_gate_table : AFn := { code := .seq (.reg c_gate_table_r0 false) (.seq (.reg c_gate_table_r1 false) (.ret)), ntmps := 22, results := [.cell true 84 0] }
end Go.Proofs.Ytfaphhcloanhnaa
