/- The code of the functions, as the second evaluator has it. Printed by wip/x/Vrint.lean.txt. -/
import Derived.Test.YtigkmaeaoaejiaaGreatDoorPart11
import Derived.KernelRfl
set_option linter.unusedVariables false
set_option linter.unusedSimpArgs false
namespace Go.RE
def v3_0 : List COper := [
  ⟨(some 8), .s (.mov (.c (.bool false))), none, 0⟩]
def v3_1 : List COper := [
  ⟨(some 21), .call (.c (.func 11 [] [])) [], none, 0⟩,
  ⟨(some 22), .s (.un .not (.t 21)), none, 1⟩,
  ⟨(some 23), .s (.mov (.t 22)), none, 3⟩,
  ⟨(some 24), .s (.mov (.t 0)), some (23, false), 7⟩,
  ⟨(some 25), .call (.c (.func 12 [] [])) [(.t 24)], some (23, false), 15⟩,
  ⟨(some 26), .s (.un .not (.t 25)), some (23, false), 31⟩,
  ⟨(some 27), .s (.pick (.t 23) (.c (.bool true)) (.t 26)), none, 63⟩,
  ⟨(some 28), .s (.mov (.t 27)), none, 127⟩,
  ⟨(some 29), .s (.mov (.t 1)), some (28, false), 255⟩,
  ⟨(some 30), .s (.len 1 (.t 29)), some (28, false), 511⟩,
  ⟨(some 31), .s (.bin .gtr .no (.t 30) (.c (.int .i64 (40)))), some (28, false), 1023⟩,
  ⟨(some 32), .s (.pick (.t 28) (.c (.bool true)) (.t 31)), none, 2047⟩,
  ⟨(some 33), .s (.mov (.t 32)), none, 4095⟩,
  ⟨(some 34), .s (.mov (.t 2)), some (33, false), 8191⟩,
  ⟨(some 35), .s (.len 0 (.t 34)), some (33, false), 16383⟩,
  ⟨(some 36), .s (.bin .gtr .no (.t 35) (.c (.int .i64 (300)))), some (33, false), 32767⟩,
  ⟨(some 37), .s (.pick (.t 33) (.c (.bool true)) (.t 36)), none, 65535⟩,
  ⟨(some 38), .s (.mov (.t 37)), none, 131071⟩,
  ⟨(some 39), .s (.mov (.t 3)), some (38, false), 262143⟩,
  ⟨(some 40), .s (.len 0 (.t 39)), some (38, false), 524287⟩,
  ⟨(some 41), .s (.bin .gtr .no (.t 40) (.c (.int .i64 (300)))), some (38, false), 1048575⟩,
  ⟨(some 42), .s (.pick (.t 38) (.c (.bool true)) (.t 41)), none, 2097151⟩]
def v3_2 : List COper := [
  ⟨(some 43), .call (.c (.func 11 [] [])) [], none, 0⟩,
  ⟨(some 8), .s (.mov (.t 43)), none, 1⟩]
def v3_3 : List COper := [
  ⟨(some 44), .s (.mov (.t 0)), none, 0⟩,
  ⟨(some 45), .call (.c (.func 13 [] [])) [(.t 44)], none, 1⟩,
  ⟨(some 9), .s (.mov (.t 45)), none, 3⟩]
def v3_4 : List COper := [
  ⟨(some 46), .s (.mov (.t 9)), none, 0⟩,
  ⟨(some 47), .s (.bin .eql .nilp (.t 46) (.c .nilp)), none, 1⟩,
  ⟨(some 48), .s (.mov (.t 47)), none, 3⟩,
  ⟨(some 49), .s (.mov (.t 9)), some (48, false), 7⟩,
  ⟨(some 50), .call (.c (.func 15 [] [])) [(.t 49)], some (48, false), 15⟩,
  ⟨(some 51), .s (.mov (.t 0)), some (48, false), 7⟩,
  ⟨(some 52), .call (.c (.func 16 [] [])) [(.t 51)], some (48, false), 63⟩,
  ⟨(some 53), .call (.c (.func 14 [] [])) [(.t 50), (.t 52)], some (48, false), 127⟩,
  ⟨(some 54), .s (.un .not (.t 53)), some (48, false), 255⟩,
  ⟨(some 55), .s (.pick (.t 48) (.c (.bool true)) (.t 54)), none, 511⟩]
def v3_5 : List COper := [
  ⟨(some 8), .s (.mov (.c (.bool false))), none, 0⟩]
def v3_6 : List COper := [
  ⟨(some 56), .s (.mov (.t 9)), none, 0⟩,
  ⟨(some 57), .s (.mov (.t 1)), none, 0⟩,
  ⟨(some 58), .call (.c (.func 17 [] [])) [(.t 56), (.t 57)], none, 3⟩]
def v3_7 : List COper := [
  ⟨(some 59), .s (.mov (.t 0)), none, 0⟩,
  ⟨(some 60), .call (.c (.func 16 [] [])) [(.t 59)], none, 1⟩,
  ⟨(some 61), .s (.mov (.t 1)), none, 0⟩,
  ⟨(some 62), .call (.c (.func 18 [] [])) [(.t 60), (.t 61)], none, 7⟩,
  ⟨(some 63), .s (.build [(.bool false), (.cslice [] 0 0 2), (.cslice [] 3 0 2), (.cslice [] 3 0 2)] [(0, 1, (.c (.bool true))), (1, 1, (.t 62))]), none, 15⟩,
  ⟨(some 64), .m (.box (.t 63)), none, 31⟩,
  ⟨(some 10), .s (.mov (.t 64)), none, 63⟩]
def v3_8 : List COper := [
  ⟨(some 66), .s (.mov (.t 9)), none, 0⟩,
  ⟨(some 67), .s (.mov (.t 2)), none, 0⟩,
  ⟨(some 68), .call (.c (.func 19 [] [])) [(.t 66), (.t 67)], none, 3⟩,
  ⟨(some 65), .s (.mov (.t 68)), none, 7⟩,
  ⟨(some 69), .s (.extract 0 (.t 65)), none, 15⟩,
  ⟨(some 70), .s (.extract 1 (.t 65)), none, 15⟩,
  ⟨(some 71), .s (.extract 2 (.t 65)), none, 15⟩,
  ⟨(some 11), .s (.mov (.t 69)), none, 31⟩,
  ⟨(some 12), .s (.mov (.t 70)), none, 191⟩,
  ⟨(some 13), .s (.mov (.t 71)), none, 511⟩]
def v3_9 : List COper := [
  ⟨(some 73), .s (.mov (.t 10)), none, 0⟩,
  ⟨(some 74), .s (.mov (.t 2)), none, 0⟩,
  ⟨(some 75), .call (.c (.func 20 [] [])) [(.t 73), (.t 74)], none, 3⟩,
  ⟨(some 72), .s (.mov (.t 75)), none, 7⟩,
  ⟨(some 76), .s (.extract 0 (.t 72)), none, 15⟩,
  ⟨(some 77), .s (.extract 1 (.t 72)), none, 15⟩,
  ⟨(some 78), .s (.extract 2 (.t 72)), none, 15⟩,
  ⟨(some 16), .m (.alloc [(.bool false), (.cslice [] 0 0 1), (.int .i64 (0)), (.bool false), (.str []), (.str [])]), none, 0⟩,
  ⟨(some 14), .s (.mov (.t 76)), none, 159⟩,
  ⟨(some 15), .s (.mov (.t 77)), none, 447⟩,
  ⟨none, .h (.store 6 (.t 16) (.t 78)), none, 1023⟩]
def v3_10 : List COper := [
  ⟨(some 80), .s (.mov (.t 9)), none, 0⟩,
  ⟨(some 81), .s (.mov (.t 2)), none, 0⟩,
  ⟨(some 82), .s (.mov (.t 3)), none, 0⟩,
  ⟨(some 83), .call (.c (.func 21 [] [])) [(.t 80), (.t 81), (.t 82)], none, 7⟩,
  ⟨(some 79), .s (.mov (.t 83)), none, 15⟩,
  ⟨(some 84), .s (.extract 0 (.t 79)), none, 31⟩,
  ⟨(some 85), .s (.extract 1 (.t 79)), none, 31⟩,
  ⟨(some 17), .s (.mov (.t 84)), none, 63⟩,
  ⟨(some 18), .s (.mov (.t 85)), none, 255⟩]
def v3_11 : List COper := [
  ⟨(some 87), .s (.mov (.t 10)), none, 0⟩,
  ⟨(some 88), .s (.mov (.t 2)), none, 0⟩,
  ⟨(some 89), .s (.mov (.t 3)), none, 0⟩,
  ⟨(some 90), .call (.c (.func 22 [] [])) [(.t 87), (.t 88), (.t 89)], none, 7⟩,
  ⟨(some 86), .s (.mov (.t 90)), none, 15⟩,
  ⟨(some 91), .s (.extract 0 (.t 86)), none, 31⟩,
  ⟨(some 92), .s (.extract 1 (.t 86)), none, 31⟩,
  ⟨(some 20), .m (.alloc [(.bool false), (.cslice [] 0 0 1), (.int .i64 (0)), (.bool false), (.str []), (.str [])]), none, 0⟩,
  ⟨(some 19), .s (.mov (.t 91)), none, 191⟩,
  ⟨none, .h (.store 6 (.t 20) (.t 92)), none, 511⟩]
def v3_12 : List COper := [
  ⟨(some 93), .s (.mov (.t 13)), none, 0⟩,
  ⟨(some 94), .s (.bin .eql (.iface false) (.t 93) (.c .nili)), none, 1⟩,
  ⟨(some 95), .s (.mov (.t 94)), none, 3⟩,
  ⟨(some 96), .s (.mov (.t 18)), some (95, true), 7⟩,
  ⟨(some 97), .s (.bin .eql (.iface false) (.t 96) (.c .nili)), some (95, true), 15⟩,
  ⟨(some 98), .s (.pick (.t 95) (.t 97) (.c (.bool false))), none, 31⟩,
  ⟨(some 99), .s (.mov (.t 98)), none, 63⟩,
  ⟨(some 100), .s (.mov (.t 11)), some (99, true), 127⟩,
  ⟨(some 101), .s (.mov (.t 14)), some (99, true), 127⟩,
  ⟨(some 102), .call (.c (.func 23 [] [])) [(.t 100), (.t 101)], some (99, true), 511⟩,
  ⟨(some 103), .s (.pick (.t 99) (.t 102) (.c (.bool false))), none, 1023⟩,
  ⟨(some 104), .s (.mov (.t 103)), none, 2047⟩,
  ⟨(some 105), .s (.mov (.t 12)), some (104, true), 4095⟩,
  ⟨(some 106), .s (.mov (.t 15)), some (104, true), 4095⟩,
  ⟨(some 107), .s (.bin .eql .bool (.t 105) (.t 106)), some (104, true), 16383⟩,
  ⟨(some 108), .s (.pick (.t 104) (.t 107) (.c (.bool false))), none, 32767⟩,
  ⟨(some 109), .s (.mov (.t 108)), none, 65535⟩,
  ⟨(some 110), .s (.mov (.t 17)), some (109, true), 131071⟩,
  ⟨(some 111), .s (.mov (.t 19)), some (109, true), 131071⟩,
  ⟨(some 112), .call (.c (.func 14 [] [])) [(.t 110), (.t 111)], some (109, true), 524287⟩,
  ⟨(some 113), .s (.pick (.t 109) (.t 112) (.c (.bool false))), none, 1048575⟩,
  ⟨(some 114), .s (.mov (.t 113)), none, 2097151⟩,
  ⟨(some 115), .s (.mov (.t 9)), some (114, true), 4194303⟩,
  ⟨(some 116), .call (.c (.func 15 [] [])) [(.t 115)], some (114, true), 8388607⟩,
  ⟨(some 117), .s (.mov (.t 10)), some (114, true), 4194303⟩,
  ⟨(some 118), .s (.nilCheck (.t 117)), some (114, true), 20971519⟩,
  ⟨(some 119), .s (.fieldAddr 1 (.t 118)), some (114, true), 54525951⟩,
  ⟨(some 120), .s (.load none (.t 119)), some (114, true), 121634815⟩,
  ⟨(some 121), .call (.c (.func 14 [] [])) [(.t 116), (.t 120)], some (114, true), 268435455⟩,
  ⟨(some 122), .s (.pick (.t 114) (.t 121) (.c (.bool false))), none, 536870911⟩,
  ⟨(some 8), .s (.mov (.t 122)), none, 1073741823⟩]
def v3_12s : List Step := [
  .small 0 ⟨(some 93), .s (.mov (.t 13)), none, 0⟩,
  .small 1 ⟨(some 94), .s (.bin .eql (.iface false) (.t 93) (.c .nili)), none, 1⟩,
  .small 2 ⟨(some 95), .s (.mov (.t 94)), none, 3⟩,
  .small 3 ⟨(some 96), .s (.mov (.t 18)), some (95, true), 7⟩,
  .small 4 ⟨(some 97), .s (.bin .eql (.iface false) (.t 96) (.c .nili)), some (95, true), 15⟩,
  .small 5 ⟨(some 98), .s (.pick (.t 95) (.t 97) (.c (.bool false))), none, 31⟩,
  .small 6 ⟨(some 99), .s (.mov (.t 98)), none, 63⟩,
  .small 7 ⟨(some 100), .s (.mov (.t 11)), some (99, true), 127⟩,
  .small 8 ⟨(some 101), .s (.mov (.t 14)), some (99, true), 127⟩,
  .big 9 ⟨(some 102), .call (.c (.func 23 [] [])) [(.t 100), (.t 101)], some (99, true), 511⟩,
  .small 10 ⟨(some 103), .s (.pick (.t 99) (.t 102) (.c (.bool false))), none, 1023⟩,
  .small 11 ⟨(some 104), .s (.mov (.t 103)), none, 2047⟩,
  .small 12 ⟨(some 105), .s (.mov (.t 12)), some (104, true), 4095⟩,
  .small 13 ⟨(some 106), .s (.mov (.t 15)), some (104, true), 4095⟩,
  .small 14 ⟨(some 107), .s (.bin .eql .bool (.t 105) (.t 106)), some (104, true), 16383⟩,
  .small 15 ⟨(some 108), .s (.pick (.t 104) (.t 107) (.c (.bool false))), none, 32767⟩,
  .small 16 ⟨(some 109), .s (.mov (.t 108)), none, 65535⟩,
  .small 17 ⟨(some 110), .s (.mov (.t 17)), some (109, true), 131071⟩,
  .small 18 ⟨(some 111), .s (.mov (.t 19)), some (109, true), 131071⟩,
  .big 19 ⟨(some 112), .call (.c (.func 14 [] [])) [(.t 110), (.t 111)], some (109, true), 524287⟩,
  .small 20 ⟨(some 113), .s (.pick (.t 109) (.t 112) (.c (.bool false))), none, 1048575⟩,
  .small 21 ⟨(some 114), .s (.mov (.t 113)), none, 2097151⟩,
  .small 22 ⟨(some 115), .s (.mov (.t 9)), some (114, true), 4194303⟩,
  .small 24 ⟨(some 117), .s (.mov (.t 10)), some (114, true), 4194303⟩,
  .small 25 ⟨(some 118), .s (.nilCheck (.t 117)), some (114, true), 20971519⟩,
  .small 26 ⟨(some 119), .s (.fieldAddr 1 (.t 118)), some (114, true), 54525951⟩,
  .small 27 ⟨(some 120), .s (.load none (.t 119)), some (114, true), 121634815⟩,
  .big 23 ⟨(some 116), .call (.c (.func 15 [] [])) [(.t 115)], some (114, true), 8388607⟩,
  .big 28 ⟨(some 121), .call (.c (.func 14 [] [])) [(.t 116), (.t 120)], some (114, true), 268435455⟩,
  .small 29 ⟨(some 122), .s (.pick (.t 114) (.t 121) (.c (.bool false))), none, 536870911⟩,
  .small 30 ⟨(some 8), .s (.mov (.t 122)), none, 1073741823⟩]
theorem v3_12h : sched (v3_12.length + 1) (numbered v3_12 0) 0 = some v3_12s := by kernel_rfl
def v3_body : CCode := (.seq (.region v3_0)
  (.seq (.seq (.region v3_1)
  (.cond (.t 42) (.seq (.region v3_2)
  .ret) .skip))
  (.seq (.region v3_3)
  (.seq (.seq (.region v3_4)
  (.cond (.t 55) (.seq (.region v3_5)
  .ret) .skip))
  (.seq (.region v3_6)
  (.seq (.region v3_7)
  (.seq (.region v3_8)
  (.seq (.region v3_9)
  (.seq (.region v3_10)
  (.seq (.region v3_11)
  (.seq (.draw v3_12)
  .ret)))))))))))
def v3 : VFunc := ⟨123, [.t 8], true, v3_body,
  fun _ => [],
  fun _ => []⟩
@[simp] theorem v3_c : v3.body = v3_body := rfl
@[simp] theorem v3_r : v3.results = [.t 8] := rfl
@[simp] theorem v3_o : v3.own = true := rfl
def v4_0 : List COper := [
  ⟨(some 6), .s (.mov (.c (.bool false))), none, 0⟩]
def v4_1 : List COper := [
  ⟨(some 21), .call (.c (.func 11 [] [])) [], none, 0⟩,
  ⟨(some 22), .s (.un .not (.t 21)), none, 1⟩,
  ⟨(some 23), .s (.mov (.t 22)), none, 3⟩,
  ⟨(some 24), .s (.mov (.t 0)), some (23, false), 7⟩,
  ⟨(some 25), .call (.c (.func 24 [] [])) [(.t 24)], some (23, false), 15⟩,
  ⟨(some 26), .s (.un .not (.t 25)), some (23, false), 31⟩,
  ⟨(some 27), .s (.pick (.t 23) (.c (.bool true)) (.t 26)), none, 63⟩,
  ⟨(some 28), .s (.mov (.t 27)), none, 127⟩,
  ⟨(some 29), .s (.mov (.t 1)), some (28, false), 255⟩,
  ⟨(some 30), .s (.len 0 (.t 29)), some (28, false), 511⟩,
  ⟨(some 31), .s (.bin .gtr .no (.t 30) (.c (.int .i64 (300)))), some (28, false), 1023⟩,
  ⟨(some 32), .s (.pick (.t 28) (.c (.bool true)) (.t 31)), none, 2047⟩,
  ⟨(some 33), .s (.mov (.t 32)), none, 4095⟩,
  ⟨(some 34), .s (.mov (.t 2)), some (33, false), 8191⟩,
  ⟨(some 35), .s (.len 0 (.t 34)), some (33, false), 16383⟩,
  ⟨(some 36), .s (.bin .gtr .no (.t 35) (.c (.int .i64 (300)))), some (33, false), 32767⟩,
  ⟨(some 37), .s (.pick (.t 33) (.c (.bool true)) (.t 36)), none, 65535⟩]
def v4_2 : List COper := [
  ⟨(some 38), .call (.c (.func 11 [] [])) [], none, 0⟩,
  ⟨(some 6), .s (.mov (.t 38)), none, 1⟩]
def v4_3 : List COper := [
  ⟨(some 39), .call (.c (.func 25 [] [])) [], none, 0⟩,
  ⟨(some 40), .s (.build [(.bool false), (.cslice [] 0 0 2), (.cslice [] 3 0 2), (.cslice [] 3 0 2)] []), none, 0⟩,
  ⟨(some 41), .m (.box (.t 40)), none, 2⟩,
  ⟨(some 7), .s (.mov (.t 39)), none, 1⟩,
  ⟨(some 8), .s (.mov (.t 41)), none, 15⟩]
def v4_4 : List COper := [
  ⟨(some 42), .s (.mov (.t 7)), none, 0⟩,
  ⟨(some 43), .s (.bin .eql .nilp (.t 42) (.c .nilp)), none, 1⟩]
def v4_5 : List COper := [
  ⟨(some 6), .s (.mov (.c (.bool false))), none, 0⟩]
def v4_6 : List COper := [
  ⟨(some 44), .s (.mov (.t 0)), none, 0⟩,
  ⟨(some 45), .s (.len 1 (.t 44)), none, 1⟩,
  ⟨(some 46), .s (.mov (.c (.int .i64 (0)))), none, 0⟩]
def v4_7 : List COper := [
  ⟨(some 47), .s (.bin .lss .no (.t 46) (.t 45)), none, 0⟩]
def v4_8 : List COper := [
  ⟨(some 48), .s (.indexAddr 3 (.t 44) (.t 46)), none, 0⟩,
  ⟨(some 49), .s (.load (some 3) (.t 48)), none, 1⟩,
  ⟨(some 10), .m (.alloc [(.str []), (.str []), (.cslice [] 0 0 2)]), none, 0⟩,
  ⟨none, .h (.store 3 (.t 10) (.t 49)), none, 7⟩]
def v4_9 : List COper := [
  ⟨(some 50), .s (.mov (.t 7)), none, 0⟩,
  ⟨(some 51), .s (.fieldAddr 0 (.t 10)), none, 0⟩,
  ⟨(some 52), .s (.load (some 2) (.t 51)), none, 2⟩,
  ⟨(some 53), .s (.fieldAddr 2 (.t 10)), none, 0⟩,
  ⟨(some 54), .s (.load none (.t 53)), none, 8⟩,
  ⟨(some 55), .call (.c (.func 26 [] [])) [(.t 50), (.t 52), (.t 54)], none, 31⟩]
def v4_10 : List COper := [
  ⟨(some 56), .s (.mov (.t 8)), none, 0⟩,
  ⟨(some 57), .s (.fieldAddr 0 (.t 10)), none, 0⟩,
  ⟨(some 58), .s (.load (some 2) (.t 57)), none, 2⟩,
  ⟨(some 59), .s (.fieldAddr 2 (.t 10)), none, 0⟩,
  ⟨(some 60), .s (.load none (.t 59)), none, 8⟩,
  ⟨(some 61), .call (.c (.func 27 [] [])) [(.t 56), (.t 58), (.t 60)], none, 31⟩]
def v4_11 : List COper := [
  ⟨(some 62), .s (.bin .add .no (.t 46) (.c (.int .i64 (1)))), none, 0⟩,
  ⟨(some 46), .s (.mov (.t 62)), none, 1⟩]
def v4_b12 : CCode := (.seq (.region v4_7)
  (.seq (.cond (.t 47) .skip (.exit 0))
  (.seq (.block 1 (.seq (.region v4_8)
  (.seq (.region v4_9)
  (.region v4_10))))
  (.region v4_11))))
def v4_13 : List COper := [
  ⟨(some 64), .s (.mov (.t 7)), none, 0⟩,
  ⟨(some 65), .s (.mov (.t 1)), none, 0⟩,
  ⟨(some 66), .call (.c (.func 28 [] [])) [(.t 64), (.t 65)], none, 3⟩,
  ⟨(some 63), .s (.mov (.t 66)), none, 7⟩,
  ⟨(some 67), .s (.extract 0 (.t 63)), none, 15⟩,
  ⟨(some 68), .s (.extract 1 (.t 63)), none, 15⟩,
  ⟨(some 69), .s (.extract 2 (.t 63)), none, 15⟩,
  ⟨(some 11), .s (.mov (.t 67)), none, 31⟩,
  ⟨(some 12), .s (.mov (.t 68)), none, 191⟩,
  ⟨(some 13), .s (.mov (.t 69)), none, 511⟩]
def v4_14 : List COper := [
  ⟨(some 71), .s (.mov (.t 8)), none, 0⟩,
  ⟨(some 72), .s (.mov (.t 1)), none, 0⟩,
  ⟨(some 73), .call (.c (.func 20 [] [])) [(.t 71), (.t 72)], none, 3⟩,
  ⟨(some 70), .s (.mov (.t 73)), none, 7⟩,
  ⟨(some 74), .s (.extract 0 (.t 70)), none, 15⟩,
  ⟨(some 75), .s (.extract 1 (.t 70)), none, 15⟩,
  ⟨(some 76), .s (.extract 2 (.t 70)), none, 15⟩,
  ⟨(some 16), .m (.alloc [(.bool false), (.cslice [] 0 0 1), (.int .i64 (0)), (.bool false), (.str []), (.str [])]), none, 0⟩,
  ⟨(some 14), .s (.mov (.t 74)), none, 159⟩,
  ⟨(some 15), .s (.mov (.t 75)), none, 447⟩,
  ⟨none, .h (.store 6 (.t 16) (.t 76)), none, 1023⟩]
def v4_15 : List COper := [
  ⟨(some 78), .s (.mov (.t 7)), none, 0⟩,
  ⟨(some 79), .s (.mov (.t 1)), none, 0⟩,
  ⟨(some 80), .s (.mov (.t 2)), none, 0⟩,
  ⟨(some 81), .call (.c (.func 29 [] [])) [(.t 78), (.t 79), (.t 80)], none, 7⟩,
  ⟨(some 77), .s (.mov (.t 81)), none, 15⟩,
  ⟨(some 82), .s (.extract 0 (.t 77)), none, 31⟩,
  ⟨(some 83), .s (.extract 1 (.t 77)), none, 31⟩,
  ⟨(some 17), .s (.mov (.t 82)), none, 63⟩,
  ⟨(some 18), .s (.mov (.t 83)), none, 255⟩]
def v4_16 : List COper := [
  ⟨(some 85), .s (.mov (.t 8)), none, 0⟩,
  ⟨(some 86), .s (.mov (.t 1)), none, 0⟩,
  ⟨(some 87), .s (.mov (.t 2)), none, 0⟩,
  ⟨(some 88), .call (.c (.func 22 [] [])) [(.t 85), (.t 86), (.t 87)], none, 7⟩,
  ⟨(some 84), .s (.mov (.t 88)), none, 15⟩,
  ⟨(some 89), .s (.extract 0 (.t 84)), none, 31⟩,
  ⟨(some 90), .s (.extract 1 (.t 84)), none, 31⟩,
  ⟨(some 20), .m (.alloc [(.bool false), (.cslice [] 0 0 1), (.int .i64 (0)), (.bool false), (.str []), (.str [])]), none, 0⟩,
  ⟨(some 19), .s (.mov (.t 89)), none, 191⟩,
  ⟨none, .h (.store 6 (.t 20) (.t 90)), none, 511⟩]
def v4_17 : List COper := [
  ⟨(some 91), .s (.mov (.t 11)), none, 0⟩,
  ⟨(some 92), .s (.mov (.t 14)), none, 0⟩,
  ⟨(some 93), .call (.c (.func 23 [] [])) [(.t 91), (.t 92)], none, 3⟩,
  ⟨(some 94), .s (.mov (.t 93)), none, 7⟩,
  ⟨(some 95), .s (.mov (.t 12)), some (94, true), 15⟩,
  ⟨(some 96), .s (.mov (.t 15)), some (94, true), 15⟩,
  ⟨(some 97), .s (.bin .eql .bool (.t 95) (.t 96)), some (94, true), 63⟩,
  ⟨(some 98), .s (.pick (.t 94) (.t 97) (.c (.bool false))), none, 127⟩,
  ⟨(some 99), .s (.mov (.t 98)), none, 255⟩,
  ⟨(some 100), .s (.mov (.t 13)), some (99, true), 511⟩,
  ⟨(some 101), .call (.c (.func 31 [] [])) [(.t 100)], some (99, true), 1023⟩,
  ⟨(some 102), .s (.load (some 6) (.t 16)), some (99, true), 511⟩,
  ⟨(some 103), .call (.c (.func 30 [] [])) [(.t 101), (.t 102)], some (99, true), 4095⟩,
  ⟨(some 104), .s (.pick (.t 99) (.t 103) (.c (.bool false))), none, 8191⟩,
  ⟨(some 105), .s (.mov (.t 104)), none, 16383⟩,
  ⟨(some 106), .s (.mov (.t 17)), some (105, true), 32767⟩,
  ⟨(some 107), .s (.mov (.t 19)), some (105, true), 32767⟩,
  ⟨(some 108), .call (.c (.func 14 [] [])) [(.t 106), (.t 107)], some (105, true), 131071⟩,
  ⟨(some 109), .s (.pick (.t 105) (.t 108) (.c (.bool false))), none, 262143⟩,
  ⟨(some 110), .s (.mov (.t 109)), none, 524287⟩,
  ⟨(some 111), .s (.mov (.t 18)), some (110, true), 1048575⟩,
  ⟨(some 112), .call (.c (.func 31 [] [])) [(.t 111)], some (110, true), 2097151⟩,
  ⟨(some 113), .s (.load (some 6) (.t 20)), some (110, true), 1048575⟩,
  ⟨(some 114), .call (.c (.func 30 [] [])) [(.t 112), (.t 113)], some (110, true), 8388607⟩,
  ⟨(some 115), .s (.pick (.t 110) (.t 114) (.c (.bool false))), none, 16777215⟩,
  ⟨(some 6), .s (.mov (.t 115)), none, 33554431⟩]
def v4_body : CCode := (.seq (.region v4_0)
  (.seq (.seq (.region v4_1)
  (.cond (.t 37) (.seq (.region v4_2)
  .ret) .skip))
  (.seq (.region v4_3)
  (.seq (.seq (.region v4_4)
  (.cond (.t 43) (.seq (.region v4_5)
  .ret) .skip))
  (.seq (.seq (.region v4_6)
  (.block 0 (.loop v4_b12)))
  (.seq (.region v4_13)
  (.seq (.region v4_14)
  (.seq (.region v4_15)
  (.seq (.region v4_16)
  (.seq (.draw v4_17)
  .ret))))))))))
def v4 : VFunc := ⟨116, [.t 6], true, v4_body,
  fun i => match i with | 0 => [46, 8, 7, 44, 2, 1, 45] | _ => [],
  fun i => match i with | 0 => [2, 1, 8, 7] | 1 => [8, 7, 44, 2, 1, 45, 46] | _ => []⟩
@[simp] theorem v4_c : v4.body = v4_body := rfl
@[simp] theorem v4_r : v4.results = [.t 6] := rfl
@[simp] theorem v4_o : v4.own = true := rfl
@[simp] theorem v4_h0 : v4.head 0 = [46, 8, 7, 44, 2, 1, 45] := rfl
@[simp] theorem v4_t0 : v4.tail 0 = [2, 1, 8, 7] := rfl
@[simp] theorem v4_t1 : v4.tail 1 = [8, 7, 44, 2, 1, 45, 46] := rfl
def v11_0 : List COper := [
  ⟨(some 0), .s (.mov (.c (.bool false))), none, 0⟩]
def v11_1 : List COper := [
  ⟨(some 8), .call (.c (.func 25 [] [])) [], none, 0⟩,
  ⟨(some 9), .s (.mkIface 58 (.t 8)), none, 1⟩,
  ⟨(some 10), .call (.c (.func 33 [] [])) [(.t 9)], none, 3⟩,
  ⟨(some 1), .s (.mov (.t 10)), none, 7⟩]
def v11_2 : List COper := [
  ⟨(some 11), .s (.mov (.t 1)), none, 0⟩,
  ⟨(some 12), .s (.bin .eql .nilp (.t 11) (.c .nilp)), none, 1⟩]
def v11_3 : List COper := [
  ⟨(some 0), .s (.mov (.c (.bool false))), none, 0⟩]
def v11_4 : List COper := [
  ⟨(some 14), .s (.mov (.t 1)), none, 0⟩,
  ⟨(some 15), .call (.c (.func 42 [] [])) [(.t 14), (.c (.str [97]))], none, 1⟩,
  ⟨(some 13), .s (.mov (.t 15)), none, 3⟩,
  ⟨(some 16), .s (.extract 0 (.t 13)), none, 7⟩,
  ⟨(some 17), .s (.extract 1 (.t 13)), none, 7⟩,
  ⟨(some 18), .s (.extract 2 (.t 13)), none, 7⟩,
  ⟨(some 2), .m (.alloc [(.str []), (.int .u64 (0)), (.int .i64 (0)), (.str []), (.int .u64 (0))]), none, 0⟩,
  ⟨none, .h (.store 5 (.t 2) (.t 16)), none, 79⟩,
  ⟨(some 3), .s (.mov (.t 17)), none, 223⟩,
  ⟨(some 4), .s (.mov (.t 18)), none, 511⟩]
def v11_5 : List COper := [
  ⟨(some 20), .s (.mov (.t 4)), none, 0⟩,
  ⟨(some 21), .call (.c (.func 41 [] [])) [(.t 20)], none, 1⟩,
  ⟨(some 19), .s (.mov (.t 21)), none, 3⟩,
  ⟨(some 22), .s (.extract 0 (.t 19)), none, 7⟩,
  ⟨(some 23), .s (.extract 1 (.t 19)), none, 7⟩,
  ⟨(some 5), .m (.alloc [(.str []), (.str [])]), none, 0⟩,
  ⟨none, .h (.store 2 (.t 5) (.t 22)), none, 47⟩,
  ⟨(some 6), .s (.mov (.t 23)), none, 127⟩]
def v11_6 : List COper := [
  ⟨(some 24), .s (.mov (.t 4)), none, 0⟩,
  ⟨(some 25), .call (.c (.func 43 [] [])) [(.t 24)], none, 1⟩,
  ⟨(some 7), .s (.mov (.t 25)), none, 3⟩]
def v11_7 : List COper := [
  ⟨(some 26), .s (.mov (.t 6)), none, 0⟩,
  ⟨(some 27), .s (.mov (.t 26)), none, 1⟩,
  ⟨(some 28), .s (.load (some 2) (.t 5)), some (27, true), 3⟩,
  ⟨(some 29), .s (.build [(.str []), (.str [])] [(0, 1, (.c (.str [105, 97, 0, 1]))), (1, 1, (.c (.str [105, 97, 0, 1])))]), some (27, true), 3⟩,
  ⟨(some 30), .s (.bin .eql (.flat [(0, .str), (1, .str)]) (.t 28) (.t 29)), some (27, true), 15⟩,
  ⟨(some 31), .s (.pick (.t 27) (.t 30) (.c (.bool false))), none, 31⟩,
  ⟨(some 32), .s (.mov (.t 31)), none, 63⟩,
  ⟨(some 33), .s (.mov (.t 7)), some (32, true), 127⟩,
  ⟨(some 34), .s (.len 1 (.t 33)), some (32, true), 255⟩,
  ⟨(some 35), .s (.bin .eql .int (.t 34) (.c (.int .i64 (1)))), some (32, true), 511⟩,
  ⟨(some 36), .s (.pick (.t 32) (.t 35) (.c (.bool false))), none, 1023⟩,
  ⟨(some 37), .s (.mov (.t 36)), none, 2047⟩,
  ⟨(some 38), .s (.mov (.t 7)), some (37, true), 4095⟩,
  ⟨(some 39), .s (.indexAddr 1 (.t 38) (.c (.int .i64 (0)))), some (37, true), 8191⟩,
  ⟨(some 40), .s (.load none (.t 39)), some (37, true), 16383⟩,
  ⟨(some 41), .s (.bin .eql .str (.t 40) (.c (.str [105]))), some (37, true), 32767⟩,
  ⟨(some 42), .s (.pick (.t 37) (.t 41) (.c (.bool false))), none, 65535⟩,
  ⟨(some 0), .s (.mov (.t 42)), none, 131071⟩]
def v11_body : CCode := (.seq (.region v11_0)
  (.seq (.region v11_1)
  (.seq (.seq (.region v11_2)
  (.cond (.t 12) (.seq (.region v11_3)
  .ret) .skip))
  (.seq (.region v11_4)
  (.seq (.region v11_5)
  (.seq (.region v11_6)
  (.seq (.region v11_7)
  .ret)))))))
def v11 : VFunc := ⟨43, [.t 0], true, v11_body,
  fun _ => [],
  fun _ => []⟩
@[simp] theorem v11_c : v11.body = v11_body := rfl
@[simp] theorem v11_r : v11.results = [.t 0] := rfl
@[simp] theorem v11_o : v11.own = true := rfl
def v12_0 : List COper := [
  ⟨(some 2), .s (.mov (.c (.bool false))), none, 0⟩]
def v12_1 : List COper := [
  ⟨(some 5), .s (.mov (.t 0)), none, 0⟩,
  ⟨(some 6), .s (.len 1 (.t 5)), none, 1⟩,
  ⟨(some 7), .s (.mov (.c (.int .i64 (0)))), none, 0⟩]
def v12_2 : List COper := [
  ⟨(some 8), .s (.bin .lss .no (.t 7) (.t 6)), none, 0⟩]
def v12_3 : List COper := [
  ⟨(some 9), .s (.indexAddr 2 (.t 5) (.t 7)), none, 0⟩,
  ⟨(some 10), .s (.load (some 2) (.t 9)), none, 1⟩,
  ⟨(some 4), .m (.alloc [(.str []), (.cslice [] 0 0 1)]), none, 0⟩,
  ⟨none, .h (.store 2 (.t 4) (.t 10)), none, 7⟩]
def v12_4 : List COper := [
  ⟨(some 11), .s (.fieldAddr 0 (.t 4)), none, 0⟩,
  ⟨(some 12), .s (.load none (.t 11)), none, 1⟩,
  ⟨(some 13), .s (.len 0 (.t 12)), none, 3⟩,
  ⟨(some 14), .s (.bin .gtr .no (.t 13) (.c (.int .i64 (300)))), none, 7⟩,
  ⟨(some 15), .s (.mov (.t 14)), none, 15⟩,
  ⟨(some 16), .s (.fieldAddr 1 (.t 4)), some (15, false), 31⟩,
  ⟨(some 17), .s (.load none (.t 16)), some (15, false), 63⟩,
  ⟨(some 18), .s (.len 1 (.t 17)), some (15, false), 127⟩,
  ⟨(some 19), .s (.bin .gtr .no (.t 18) (.c (.int .i64 (300)))), some (15, false), 255⟩,
  ⟨(some 20), .s (.pick (.t 15) (.c (.bool true)) (.t 19)), none, 511⟩]
def v12_5 : List COper := [
  ⟨(some 2), .s (.mov (.c (.bool false))), none, 0⟩]
def v12_6 : List COper := [
  ⟨(some 21), .s (.bin .add .no (.t 7) (.c (.int .i64 (1)))), none, 0⟩,
  ⟨(some 7), .s (.mov (.t 21)), none, 1⟩]
def v12_b7 : CCode := (.seq (.region v12_2)
  (.seq (.cond (.t 8) .skip (.exit 0))
  (.seq (.block 1 (.seq (.region v12_3)
  (.seq (.region v12_4)
  (.cond (.t 20) (.seq (.region v12_5)
  .ret) .skip))))
  (.region v12_6))))
theorem v12_b7e : v12_b7 = (.seq (.region v12_2)
  (.seq (.cond (.t 8) .skip (.exit 0))
  (.seq (.block 1 (.seq (.region v12_3)
  (.seq (.region v12_4)
  (.cond (.t 20) (.seq (.region v12_5)
  .ret) .skip))))
  (.region v12_6)))) := rfl
def v12_8 : List COper := [
  ⟨(some 22), .s (.mov (.t 0)), none, 0⟩,
  ⟨(some 23), .s (.len 1 (.t 22)), none, 1⟩,
  ⟨(some 24), .s (.bin .leq .no (.t 23) (.c (.int .i64 (100)))), none, 3⟩,
  ⟨(some 2), .s (.mov (.t 24)), none, 7⟩]
def v12_body : CCode := (.seq (.region v12_0)
  (.seq (.seq (.region v12_1)
  (.block 0 (.loop v12_b7)))
  (.seq (.region v12_8)
  .ret)))
def v12 : VFunc := ⟨25, [.t 2], true, v12_body,
  fun i => match i with | 0 => [7, 5, 0, 6] | _ => [],
  fun i => match i with | 0 => [0] | 1 => [5, 0, 6, 7] | _ => []⟩
@[simp] theorem v12_c : v12.body = v12_body := rfl
@[simp] theorem v12_r : v12.results = [.t 2] := rfl
@[simp] theorem v12_o : v12.own = true := rfl
@[simp] theorem v12_h0 : v12.head 0 = [7, 5, 0, 6] := rfl
@[simp] theorem v12_t0 : v12.tail 0 = [0] := rfl
@[simp] theorem v12_t1 : v12.tail 1 = [5, 0, 6, 7] := rfl
def v13_0 : List COper := [
  ⟨(some 2), .s (.mov (.c .nilp)), none, 0⟩]
def v13_1 : List COper := [
  ⟨(some 3), .s (.mov (.t 0)), none, 0⟩,
  ⟨(some 4), .call (.c (.func 44 [] [])) [(.t 3)], none, 1⟩,
  ⟨(some 2), .s (.mov (.t 4)), none, 3⟩]
def v13_body : CCode := (.seq (.region v13_0)
  (.seq (.region v13_1)
  .ret))
def v13 : VFunc := ⟨5, [.t 2], true, v13_body,
  fun _ => [],
  fun _ => []⟩
@[simp] theorem v13_c : v13.body = v13_body := rfl
@[simp] theorem v13_r : v13.results = [.t 2] := rfl
@[simp] theorem v13_o : v13.own = true := rfl
def v14_0 : List COper := [
  ⟨(some 4), .s (.mov (.c (.bool false))), none, 0⟩]
def v14_1 : List COper := [
  ⟨(some 5), .s (.mov (.t 0)), none, 0⟩,
  ⟨(some 6), .s (.mov (.t 1)), none, 0⟩,
  ⟨(some 7), .call (.c (.func 45 [] [])) [(.t 5), (.t 6)], none, 3⟩,
  ⟨(some 4), .s (.mov (.t 7)), none, 7⟩]
def v14_body : CCode := (.seq (.region v14_0)
  (.seq (.region v14_1)
  .ret))
def v14 : VFunc := ⟨8, [.t 4], true, v14_body,
  fun _ => [],
  fun _ => []⟩
@[simp] theorem v14_c : v14.body = v14_body := rfl
@[simp] theorem v14_r : v14.results = [.t 4] := rfl
@[simp] theorem v14_o : v14.own = true := rfl
def v15_0 : List COper := [
  ⟨(some 2), .s (.mov (.c (.cslice [] 1 0 2))), none, 0⟩]
def v15_1 : List COper := [
  ⟨(some 3), .s (.mov (.t 0)), none, 0⟩,
  ⟨(some 4), .s (.build [(.str []), (.str [])] []), none, 0⟩,
  ⟨(some 5), .call (.c (.func 46 [] [])) [(.t 3), (.t 4)], none, 3⟩,
  ⟨(some 2), .s (.mov (.t 5)), none, 7⟩]
def v15_body : CCode := (.seq (.region v15_0)
  (.seq (.region v15_1)
  .ret))
def v15 : VFunc := ⟨6, [.t 2], true, v15_body,
  fun _ => [],
  fun _ => []⟩
@[simp] theorem v15_c : v15.body = v15_body := rfl
@[simp] theorem v15_r : v15.results = [.t 2] := rfl
@[simp] theorem v15_o : v15.own = true := rfl
def v16_0 : List COper := [
  ⟨(some 2), .s (.mov (.c (.cslice [] 1 0 2))), none, 0⟩]
def v16_1 : List COper := [
  ⟨(some 6), .m (.buildSlice 2 0 [(.str []), (.cslice [] 0 0 1)] []), none, 0⟩,
  ⟨(some 3), .s (.mov (.t 6)), none, 1⟩]
def v16_2 : List COper := [
  ⟨(some 7), .s (.mov (.t 0)), none, 0⟩,
  ⟨(some 8), .s (.len 1 (.t 7)), none, 1⟩,
  ⟨(some 9), .s (.mov (.c (.int .i64 (0)))), none, 0⟩]
def v16_3 : List COper := [
  ⟨(some 10), .s (.bin .lss .no (.t 9) (.t 8)), none, 0⟩]
def v16_4 : List COper := [
  ⟨(some 11), .s (.indexAddr 2 (.t 7) (.t 9)), none, 0⟩,
  ⟨(some 12), .s (.load (some 2) (.t 11)), none, 1⟩,
  ⟨(some 5), .m (.alloc [(.str []), (.cslice [] 0 0 1)]), none, 0⟩,
  ⟨none, .h (.store 2 (.t 5) (.t 12)), none, 7⟩]
def v16_5 : List COper := [
  ⟨(some 13), .s (.mov (.t 3)), none, 0⟩,
  ⟨(some 14), .s (.load (some 2) (.t 5)), none, 0⟩,
  ⟨(some 15), .call (.c (.func 47 [] [])) [(.t 13), (.t 14)], none, 3⟩,
  ⟨(some 3), .s (.mov (.t 15)), none, 7⟩]
def v16_6 : List COper := [
  ⟨(some 16), .s (.bin .add .no (.t 9) (.c (.int .i64 (1)))), none, 0⟩,
  ⟨(some 9), .s (.mov (.t 16)), none, 1⟩]
def v16_b7 : CCode := (.seq (.region v16_3)
  (.seq (.cond (.t 10) .skip (.exit 0))
  (.seq (.block 1 (.seq (.region v16_4)
  (.region v16_5)))
  (.region v16_6))))
theorem v16_b7e : v16_b7 = (.seq (.region v16_3)
  (.seq (.cond (.t 10) .skip (.exit 0))
  (.seq (.block 1 (.seq (.region v16_4)
  (.region v16_5)))
  (.region v16_6)))) := rfl
def v16_8 : List COper := [
  ⟨(some 17), .s (.mov (.t 3)), none, 0⟩,
  ⟨(some 2), .s (.mov (.t 17)), none, 1⟩]
def v16_body : CCode := (.seq (.region v16_0)
  (.seq (.region v16_1)
  (.seq (.seq (.region v16_2)
  (.block 0 (.loop v16_b7)))
  (.seq (.region v16_8)
  .ret))))
def v16 : VFunc := ⟨18, [.t 2], true, v16_body,
  fun i => match i with | 0 => [9, 3, 7, 8] | _ => [],
  fun i => match i with | 0 => [3] | 1 => [3, 7, 8, 9] | _ => []⟩
@[simp] theorem v16_c : v16.body = v16_body := rfl
@[simp] theorem v16_r : v16.results = [.t 2] := rfl
@[simp] theorem v16_o : v16.own = true := rfl
@[simp] theorem v16_h0 : v16.head 0 = [9, 3, 7, 8] := rfl
@[simp] theorem v16_t0 : v16.tail 0 = [3] := rfl
@[simp] theorem v16_t1 : v16.tail 1 = [3, 7, 8, 9] := rfl
def v17_0 : List COper := [
  ⟨(some 6), .s (.mov (.t 0)), none, 0⟩,
  ⟨(some 7), .s (.bin .eql .nilp (.t 6) (.c .nilp)), none, 1⟩,
  ⟨(some 8), .s (.mov (.t 7)), none, 3⟩,
  ⟨(some 9), .s (.mov (.t 0)), some (8, false), 7⟩,
  ⟨(some 10), .s (.nilCheck (.t 9)), some (8, false), 15⟩,
  ⟨(some 11), .s (.fieldAddr 0 (.t 10)), some (8, false), 31⟩,
  ⟨(some 12), .s (.load none (.t 11)), some (8, false), 63⟩,
  ⟨(some 13), .s (.bin .eql .nilm (.t 12) (.c .nilm)), some (8, false), 127⟩,
  ⟨(some 14), .s (.pick (.t 8) (.c (.bool true)) (.t 13)), none, 255⟩]
def v17_1 : List COper := [
  ⟨(some 15), .s (.mov (.t 1)), none, 0⟩,
  ⟨(some 16), .s (.len 1 (.t 15)), none, 1⟩,
  ⟨(some 17), .s (.mov (.c (.int .i64 (0)))), none, 0⟩]
def v17_2 : List COper := [
  ⟨(some 18), .s (.bin .lss .no (.t 17) (.t 16)), none, 0⟩]
def v17_3 : List COper := [
  ⟨(some 19), .s (.indexAddr 3 (.t 15) (.t 17)), none, 0⟩,
  ⟨(some 20), .s (.load (some 3) (.t 19)), none, 1⟩,
  ⟨(some 5), .m (.alloc [(.str []), (.bool false), (.cslice [] 0 0 1)]), none, 0⟩,
  ⟨none, .h (.store 3 (.t 5) (.t 20)), none, 7⟩]
def v17_4 : List COper := [
  ⟨(some 21), .s (.mov (.t 0)), none, 0⟩,
  ⟨(some 22), .s (.fieldAddr 0 (.t 5)), none, 0⟩,
  ⟨(some 23), .s (.load none (.t 22)), none, 2⟩,
  ⟨(some 24), .s (.fieldAddr 1 (.t 5)), none, 0⟩,
  ⟨(some 25), .s (.load none (.t 24)), none, 8⟩,
  ⟨(some 26), .s (.fieldAddr 2 (.t 5)), none, 0⟩,
  ⟨(some 27), .s (.load none (.t 26)), none, 32⟩,
  ⟨(some 28), .call (.c (.func 49 [] [])) [(.t 27)], none, 96⟩,
  ⟨(some 29), .s (.build [(.bool false), (.cslice [] 0 0 1)] [(0, 1, (.t 25)), (1, 1, (.t 28))]), none, 248⟩,
  ⟨(some 30), .call (.c (.func 48 [] [])) [(.t 21), (.t 23), (.t 29)], none, 511⟩]
def v17_4s : List Step := [
  .small 0 ⟨(some 21), .s (.mov (.t 0)), none, 0⟩,
  .small 1 ⟨(some 22), .s (.fieldAddr 0 (.t 5)), none, 0⟩,
  .small 2 ⟨(some 23), .s (.load none (.t 22)), none, 2⟩,
  .small 3 ⟨(some 24), .s (.fieldAddr 1 (.t 5)), none, 0⟩,
  .small 4 ⟨(some 25), .s (.load none (.t 24)), none, 8⟩,
  .small 5 ⟨(some 26), .s (.fieldAddr 2 (.t 5)), none, 0⟩,
  .small 6 ⟨(some 27), .s (.load none (.t 26)), none, 32⟩,
  .big 7 ⟨(some 28), .call (.c (.func 49 [] [])) [(.t 27)], none, 96⟩,
  .small 8 ⟨(some 29), .s (.build [(.bool false), (.cslice [] 0 0 1)] [(0, 1, (.t 25)), (1, 1, (.t 28))]), none, 248⟩,
  .big 9 ⟨(some 30), .call (.c (.func 48 [] [])) [(.t 21), (.t 23), (.t 29)], none, 511⟩]
theorem v17_4h : sched (v17_4.length + 1) (numbered v17_4 0) 0 = some v17_4s := by kernel_rfl
def v17_5 : List COper := [
  ⟨(some 31), .s (.bin .add .no (.t 17) (.c (.int .i64 (1)))), none, 0⟩,
  ⟨(some 17), .s (.mov (.t 31)), none, 1⟩]
def v17_b6 : CCode := (.seq (.region v17_2)
  (.seq (.cond (.t 18) .skip (.exit 0))
  (.seq (.block 1 (.seq (.region v17_3)
  (.draw v17_4)))
  (.region v17_5))))
theorem v17_b6e : v17_b6 = (.seq (.region v17_2)
  (.seq (.cond (.t 18) .skip (.exit 0))
  (.seq (.block 1 (.seq (.region v17_3)
  (.draw v17_4)))
  (.region v17_5)))) := rfl
def v17_body : CCode := (.seq (.seq (.region v17_0)
  (.cond (.t 14) .ret .skip))
  (.seq (.region v17_1)
  (.block 0 (.loop v17_b6))))
def v17 : VFunc := ⟨32, [], true, v17_body,
  fun i => match i with | 0 => [17, 0, 15, 16] | _ => [],
  fun i => match i with | 0 => [] | 1 => [0, 15, 16, 17] | _ => []⟩
@[simp] theorem v17_c : v17.body = v17_body := rfl
@[simp] theorem v17_r : v17.results = [] := rfl
@[simp] theorem v17_o : v17.own = true := rfl
@[simp] theorem v17_h0 : v17.head 0 = [17, 0, 15, 16] := rfl
@[simp] theorem v17_t0 : v17.tail 0 = [] := rfl
@[simp] theorem v17_t1 : v17.tail 1 = [0, 15, 16, 17] := rfl
def v18_0 : List COper := [
  ⟨(some 4), .s (.mov (.c (.cslice [] 1 0 2))), none, 0⟩]
def v18_1 : List COper := [
  ⟨(some 7), .s (.mov (.t 1)), none, 0⟩,
  ⟨(some 8), .s (.len 1 (.t 7)), none, 1⟩,
  ⟨(some 9), .s (.mov (.c (.int .i64 (0)))), none, 0⟩]
def v18_2 : List COper := [
  ⟨(some 10), .s (.bin .lss .no (.t 9) (.t 8)), none, 0⟩]
def v18_3 : List COper := [
  ⟨(some 11), .s (.indexAddr 3 (.t 7) (.t 9)), none, 0⟩,
  ⟨(some 12), .s (.load (some 3) (.t 11)), none, 1⟩,
  ⟨(some 6), .m (.alloc [(.str []), (.bool false), (.cslice [] 0 0 1)]), none, 0⟩,
  ⟨none, .h (.store 3 (.t 6) (.t 12)), none, 7⟩]
def v18_4 : List COper := [
  ⟨(some 13), .s (.mov (.t 0)), none, 0⟩,
  ⟨(some 14), .s (.fieldAddr 0 (.t 6)), none, 0⟩,
  ⟨(some 15), .s (.load none (.t 14)), none, 2⟩,
  ⟨(some 16), .call (.c (.func 40 [] [])) [(.t 15)], none, 6⟩,
  ⟨(some 17), .call (.c (.func 50 [] [])) [(.t 13), (.t 16)], none, 15⟩,
  ⟨(some 0), .s (.mov (.t 17)), none, 31⟩]
def v18_5 : List COper := [
  ⟨(some 18), .s (.fieldAddr 1 (.t 6)), none, 0⟩,
  ⟨(some 19), .s (.load none (.t 18)), none, 1⟩,
  ⟨(some 20), .s (.un .not (.t 19)), none, 3⟩]
def v18_6 : List COper := [
  ⟨(some 21), .s (.mov (.t 0)), none, 0⟩,
  ⟨(some 22), .s (.fieldAddr 0 (.t 6)), none, 0⟩,
  ⟨(some 23), .s (.load none (.t 22)), none, 2⟩,
  ⟨(some 24), .s (.fieldAddr 2 (.t 6)), none, 0⟩,
  ⟨(some 25), .s (.load none (.t 24)), none, 8⟩,
  ⟨(some 26), .s (.build [(.str []), (.cslice [] 0 0 1)] [(0, 1, (.t 23)), (1, 1, (.t 25))]), none, 30⟩,
  ⟨(some 27), .call (.c (.func 47 [] [])) [(.t 21), (.t 26)], none, 63⟩,
  ⟨(some 0), .s (.mov (.t 27)), none, 127⟩]
def v18_7 : List COper := [
  ⟨(some 28), .s (.bin .add .no (.t 9) (.c (.int .i64 (1)))), none, 0⟩,
  ⟨(some 9), .s (.mov (.t 28)), none, 1⟩]
def v18_b8 : CCode := (.seq (.region v18_2)
  (.seq (.cond (.t 10) .skip (.exit 0))
  (.seq (.block 1 (.seq (.region v18_3)
  (.seq (.region v18_4)
  (.seq (.region v18_5)
  (.cond (.t 20) (.region v18_6) .skip)))))
  (.region v18_7))))
theorem v18_b8e : v18_b8 = (.seq (.region v18_2)
  (.seq (.cond (.t 10) .skip (.exit 0))
  (.seq (.block 1 (.seq (.region v18_3)
  (.seq (.region v18_4)
  (.seq (.region v18_5)
  (.cond (.t 20) (.region v18_6) .skip)))))
  (.region v18_7)))) := rfl
def v18_9 : List COper := [
  ⟨(some 29), .s (.mov (.t 0)), none, 0⟩,
  ⟨(some 4), .s (.mov (.t 29)), none, 1⟩]
def v18_body : CCode := (.seq (.region v18_0)
  (.seq (.seq (.region v18_1)
  (.block 0 (.loop v18_b8)))
  (.seq (.region v18_9)
  .ret)))
def v18 : VFunc := ⟨30, [.t 4], true, v18_body,
  fun i => match i with | 0 => [9, 0, 7, 8] | _ => [],
  fun i => match i with | 0 => [0] | 1 => [0, 7, 8, 9] | _ => []⟩
@[simp] theorem v18_c : v18.body = v18_body := rfl
@[simp] theorem v18_r : v18.results = [.t 4] := rfl
@[simp] theorem v18_o : v18.own = true := rfl
@[simp] theorem v18_h0 : v18.head 0 = [9, 0, 7, 8] := rfl
@[simp] theorem v18_t0 : v18.tail 0 = [0] := rfl
@[simp] theorem v18_t1 : v18.tail 1 = [0, 7, 8, 9] := rfl
def v19_0 : List COper := [
  ⟨(some 4), .s (.mov (.c (.cslice [] 1 0 1))), none, 0⟩,
  ⟨(some 5), .s (.mov (.c (.bool false))), none, 1⟩,
  ⟨(some 6), .s (.mov (.c .nili)), none, 3⟩]
def v19_1 : List COper := [
  ⟨(some 9), .s (.mov (.t 0)), none, 0⟩,
  ⟨(some 10), .s (.bin .eql .nilp (.t 9) (.c .nilp)), none, 1⟩]
def v19_2 : List COper := [
  ⟨(some 4), .s (.mov (.c (.cslice [] 1 0 1))), none, 0⟩,
  ⟨(some 5), .s (.mov (.c (.bool false))), none, 1⟩,
  ⟨(some 6), .s (.mov (.c .nili)), none, 3⟩]
def v19_3 : List COper := [
  ⟨(some 12), .s (.mov (.t 0)), none, 0⟩,
  ⟨(some 13), .s (.nilCheck (.t 12)), none, 1⟩,
  ⟨(some 14), .s (.fieldAddr 0 (.t 13)), none, 3⟩,
  ⟨(some 15), .s (.load none (.t 14)), none, 7⟩,
  ⟨(some 16), .s (.mov (.t 1)), none, 0⟩,
  ⟨(some 17), .s (.lookup .str (.cslice [] 0 0 1) true (.t 15) (.t 16)), none, 31⟩,
  ⟨(some 11), .s (.mov (.t 17)), none, 63⟩,
  ⟨(some 18), .s (.extract 0 (.t 11)), none, 127⟩,
  ⟨(some 19), .s (.extract 1 (.t 11)), none, 127⟩,
  ⟨(some 7), .s (.mov (.t 18)), none, 255⟩,
  ⟨(some 8), .s (.mov (.t 19)), none, 1023⟩]
def v19_4 : List COper := [
  ⟨(some 20), .s (.mov (.t 7)), none, 0⟩,
  ⟨(some 21), .call (.c (.func 49 [] [])) [(.t 20)], none, 1⟩,
  ⟨(some 22), .s (.mov (.t 8)), none, 0⟩,
  ⟨(some 4), .s (.mov (.t 21)), none, 3⟩,
  ⟨(some 5), .s (.mov (.t 22)), none, 15⟩,
  ⟨(some 6), .s (.mov (.c .nili)), none, 31⟩]
def v19_body : CCode := (.seq (.region v19_0)
  (.seq (.seq (.region v19_1)
  (.cond (.t 10) (.seq (.region v19_2)
  .ret) .skip))
  (.seq (.region v19_3)
  (.seq (.region v19_4)
  .ret))))
def v19 : VFunc := ⟨23, [.t 4, .t 5, .t 6], true, v19_body,
  fun _ => [],
  fun _ => []⟩
@[simp] theorem v19_c : v19.body = v19_body := rfl
@[simp] theorem v19_r : v19.results = [.t 4, .t 5, .t 6] := rfl
@[simp] theorem v19_o : v19.own = true := rfl
def v20_0 : List COper := [
  ⟨(some 4), .s (.mov (.c (.cslice [] 1 0 1))), none, 0⟩,
  ⟨(some 5), .s (.mov (.c (.bool false))), none, 1⟩,
  ⟨(some 6), .m (.alloc [(.bool false), (.cslice [] 0 0 1), (.int .i64 (0)), (.bool false), (.str []), (.str [])]), none, 0⟩]
def v20_1 : List COper := [
  ⟨(some 9), .s (.mov (.t 0)), none, 0⟩,
  ⟨(some 10), .s (.nilCheck (.t 9)), none, 1⟩,
  ⟨(some 11), .s (.fieldAddr 0 (.t 10)), none, 3⟩,
  ⟨(some 12), .s (.load none (.t 11)), none, 7⟩,
  ⟨(some 13), .s (.un .not (.t 12)), none, 15⟩,
  ⟨(some 14), .s (.mov (.t 13)), none, 31⟩,
  ⟨(some 15), .s (.mov (.t 0)), some (14, true), 63⟩,
  ⟨(some 16), .s (.nilCheck (.t 15)), some (14, true), 127⟩,
  ⟨(some 17), .s (.fieldAddr 2 (.t 16)), some (14, true), 255⟩,
  ⟨(some 18), .s (.load none (.t 17)), some (14, true), 511⟩,
  ⟨(some 19), .s (.mov (.t 1)), some (14, true), 63⟩,
  ⟨(some 20), .call (.c (.func 51 [] [])) [(.t 18), (.t 19)], some (14, true), 2047⟩,
  ⟨(some 21), .s (.un .not (.t 20)), some (14, true), 4095⟩,
  ⟨(some 22), .s (.pick (.t 14) (.t 21) (.c (.bool false))), none, 8191⟩,
  ⟨(some 23), .s (.mov (.t 22)), none, 16383⟩,
  ⟨(some 24), .s (.mov (.t 0)), some (23, true), 32767⟩,
  ⟨(some 25), .s (.nilCheck (.t 24)), some (23, true), 65535⟩,
  ⟨(some 26), .s (.fieldAddr 3 (.t 25)), some (23, true), 131071⟩,
  ⟨(some 27), .s (.load none (.t 26)), some (23, true), 262143⟩,
  ⟨(some 28), .s (.mov (.t 1)), some (23, true), 32767⟩,
  ⟨(some 29), .call (.c (.func 51 [] [])) [(.t 27), (.t 28)], some (23, true), 1048575⟩,
  ⟨(some 30), .s (.un .not (.t 29)), some (23, true), 2097151⟩,
  ⟨(some 31), .s (.pick (.t 23) (.t 30) (.c (.bool false))), none, 4194303⟩]
def v20_2 : List COper := [
  ⟨(some 32), .s (.mov (.t 1)), none, 0⟩,
  ⟨(some 33), .s (.mov (.t 1)), none, 0⟩,
  ⟨(some 34), .call (.c (.func 52 [] [])) [(.t 32), (.t 33)], none, 3⟩,
  ⟨(some 4), .s (.mov (.c (.cslice [] 1 0 1))), none, 7⟩,
  ⟨(some 5), .s (.mov (.c (.bool false))), none, 15⟩,
  ⟨none, .h (.store 6 (.t 6) (.t 34)), none, 31⟩]
def v20_3 : List COper := [
  ⟨(some 35), .s (.mov (.t 0)), none, 0⟩,
  ⟨(some 36), .s (.nilCheck (.t 35)), none, 1⟩,
  ⟨(some 37), .s (.fieldAddr 1 (.t 36)), none, 3⟩,
  ⟨(some 38), .s (.load none (.t 37)), none, 7⟩,
  ⟨(some 39), .s (.len 1 (.t 38)), none, 15⟩,
  ⟨(some 40), .s (.mov (.c (.int .i64 (0)))), none, 0⟩]
def v20_4 : List COper := [
  ⟨(some 41), .s (.bin .lss .no (.t 40) (.t 39)), none, 0⟩]
def v20_5 : List COper := [
  ⟨(some 42), .s (.indexAddr 2 (.t 38) (.t 40)), none, 0⟩,
  ⟨(some 43), .s (.load (some 2) (.t 42)), none, 1⟩,
  ⟨(some 8), .m (.alloc [(.str []), (.cslice [] 0 0 1)]), none, 0⟩,
  ⟨none, .h (.store 2 (.t 8) (.t 43)), none, 7⟩]
def v20_6 : List COper := [
  ⟨(some 44), .s (.fieldAddr 0 (.t 8)), none, 0⟩,
  ⟨(some 45), .s (.load none (.t 44)), none, 1⟩,
  ⟨(some 46), .s (.mov (.t 1)), none, 0⟩,
  ⟨(some 47), .s (.bin .eql .str (.t 45) (.t 46)), none, 7⟩]
def v20_7 : List COper := [
  ⟨(some 48), .s (.fieldAddr 1 (.t 8)), none, 0⟩,
  ⟨(some 49), .s (.load none (.t 48)), none, 1⟩,
  ⟨(some 50), .s (.build [(.bool false), (.cslice [] 0 0 1), (.int .i64 (0)), (.bool false), (.str []), (.str [])] []), none, 0⟩,
  ⟨(some 4), .s (.mov (.t 49)), none, 3⟩,
  ⟨(some 5), .s (.mov (.c (.bool true))), none, 11⟩,
  ⟨none, .h (.store 6 (.t 6) (.t 50)), none, 31⟩]
def v20_8 : List COper := [
  ⟨(some 51), .s (.bin .add .no (.t 40) (.c (.int .i64 (1)))), none, 0⟩,
  ⟨(some 40), .s (.mov (.t 51)), none, 1⟩]
def v20_b9 : CCode := (.seq (.region v20_4)
  (.seq (.cond (.t 41) .skip (.exit 0))
  (.seq (.block 1 (.seq (.region v20_5)
  (.seq (.region v20_6)
  (.cond (.t 47) (.seq (.region v20_7)
  .ret) .skip))))
  (.region v20_8))))
theorem v20_b9e : v20_b9 = (.seq (.region v20_4)
  (.seq (.cond (.t 41) .skip (.exit 0))
  (.seq (.block 1 (.seq (.region v20_5)
  (.seq (.region v20_6)
  (.cond (.t 47) (.seq (.region v20_7)
  .ret) .skip))))
  (.region v20_8)))) := rfl
def v20_10 : List COper := [
  ⟨(some 52), .s (.build [(.bool false), (.cslice [] 0 0 1), (.int .i64 (0)), (.bool false), (.str []), (.str [])] []), none, 0⟩,
  ⟨(some 4), .s (.mov (.c (.cslice [] 1 0 1))), none, 0⟩,
  ⟨(some 5), .s (.mov (.c (.bool false))), none, 2⟩,
  ⟨none, .h (.store 6 (.t 6) (.t 52)), none, 7⟩]
def v20_body : CCode := (.seq (.region v20_0)
  (.seq (.seq (.region v20_1)
  (.cond (.t 31) (.seq (.region v20_2)
  .ret) .skip))
  (.seq (.seq (.region v20_3)
  (.block 0 (.loop v20_b9)))
  (.seq (.region v20_10)
  .ret))))
def v20 : VFunc := ⟨53, [.t 4, .t 5, .cell 6 (some 6)], true, v20_body,
  fun i => match i with | 0 => [6, 40, 1, 38, 39] | _ => [],
  fun i => match i with | 0 => [6] | 1 => [6, 1, 38, 39, 40] | _ => []⟩
@[simp] theorem v20_c : v20.body = v20_body := rfl
@[simp] theorem v20_r : v20.results = [.t 4, .t 5, .cell 6 (some 6)] := rfl
@[simp] theorem v20_o : v20.own = true := rfl
@[simp] theorem v20_h0 : v20.head 0 = [6, 40, 1, 38, 39] := rfl
@[simp] theorem v20_t0 : v20.tail 0 = [6] := rfl
@[simp] theorem v20_t1 : v20.tail 1 = [6, 1, 38, 39, 40] := rfl
def v21_0 : List COper := [
  ⟨(some 6), .s (.mov (.c (.cslice [] 1 0 2))), none, 0⟩,
  ⟨(some 7), .s (.mov (.c .nili)), none, 1⟩]
def v21_1 : List COper := [
  ⟨(some 8), .s (.mov (.t 0)), none, 0⟩,
  ⟨(some 9), .s (.mov (.t 1)), none, 0⟩,
  ⟨(some 10), .s (.mov (.t 2)), none, 0⟩,
  ⟨(some 11), .s (.build [(.str []), (.str [])] [(0, 1, (.t 9)), (1, 1, (.t 10))]), none, 6⟩,
  ⟨(some 12), .call (.c (.func 46 [] [])) [(.t 8), (.t 11)], none, 15⟩,
  ⟨(some 6), .s (.mov (.t 12)), none, 31⟩,
  ⟨(some 7), .s (.mov (.c .nili)), none, 63⟩]
def v21_body : CCode := (.seq (.region v21_0)
  (.seq (.region v21_1)
  .ret))
def v21 : VFunc := ⟨13, [.t 6, .t 7], true, v21_body,
  fun _ => [],
  fun _ => []⟩
@[simp] theorem v21_c : v21.body = v21_body := rfl
@[simp] theorem v21_r : v21.results = [.t 6, .t 7] := rfl
@[simp] theorem v21_o : v21.own = true := rfl
def v22_0 : List COper := [
  ⟨(some 6), .s (.mov (.c (.cslice [] 1 0 2))), none, 0⟩,
  ⟨(some 7), .m (.alloc [(.bool false), (.cslice [] 0 0 1), (.int .i64 (0)), (.bool false), (.str []), (.str [])]), none, 0⟩]
def v22_1 : List COper := [
  ⟨(some 12), .s (.mov (.t 1)), none, 0⟩,
  ⟨(some 13), .s (.mov (.t 2)), none, 0⟩,
  ⟨(some 14), .s (.build [(.str []), (.str [])] [(0, 1, (.t 12)), (1, 1, (.t 13))]), none, 3⟩,
  ⟨(some 8), .m (.alloc [(.str []), (.str [])]), none, 0⟩,
  ⟨none, .h (.store 2 (.t 8) (.t 14)), none, 15⟩]
def v22_2 : List COper := [
  ⟨(some 15), .s (.load (some 2) (.t 8)), none, 0⟩,
  ⟨(some 16), .call (.c (.func 53 [] [])) [(.t 15)], none, 1⟩,
  ⟨(some 17), .s (.un .not (.t 16)), none, 3⟩]
def v22_3 : List COper := [
  ⟨(some 18), .s (.build [(.bool false), (.cslice [] 0 0 1), (.int .i64 (0)), (.bool false), (.str []), (.str [])] []), none, 0⟩,
  ⟨(some 6), .s (.mov (.c (.cslice [] 1 0 2))), none, 0⟩,
  ⟨none, .h (.store 6 (.t 7) (.t 18)), none, 3⟩]
def v22_4 : List COper := [
  ⟨(some 19), .s (.mov (.t 0)), none, 0⟩,
  ⟨(some 20), .s (.nilCheck (.t 19)), none, 1⟩,
  ⟨(some 21), .s (.fieldAddr 0 (.t 20)), none, 3⟩,
  ⟨(some 22), .s (.load none (.t 21)), none, 7⟩,
  ⟨(some 9), .s (.mov (.t 22)), none, 15⟩]
def v22_5 : List COper := [
  ⟨(some 23), .s (.mov (.t 0)), none, 0⟩,
  ⟨(some 24), .s (.nilCheck (.t 23)), none, 1⟩,
  ⟨(some 25), .s (.fieldAddr 3 (.t 24)), none, 3⟩,
  ⟨(some 26), .s (.load none (.t 25)), none, 7⟩,
  ⟨(some 27), .s (.len 1 (.t 26)), none, 15⟩,
  ⟨(some 28), .s (.mov (.c (.int .i64 (0)))), none, 0⟩]
def v22_6 : List COper := [
  ⟨(some 29), .s (.bin .lss .no (.t 28) (.t 27)), none, 0⟩]
def v22_7 : List COper := [
  ⟨(some 30), .s (.indexAddr 2 (.t 26) (.t 28)), none, 0⟩,
  ⟨(some 31), .s (.load (some 2) (.t 30)), none, 1⟩,
  ⟨(some 11), .m (.alloc [(.str []), (.str [])]), none, 0⟩,
  ⟨none, .h (.store 2 (.t 11) (.t 31)), none, 7⟩]
def v22_8 : List COper := [
  ⟨(some 32), .s (.mov (.t 9)), none, 0⟩,
  ⟨(some 33), .s (.mov (.t 32)), none, 1⟩,
  ⟨(some 34), .s (.load (some 2) (.t 11)), some (33, false), 3⟩,
  ⟨(some 35), .s (.load (some 2) (.t 8)), some (33, false), 3⟩,
  ⟨(some 36), .call (.c (.func 54 [] [])) [(.t 34), (.t 35)], some (33, false), 15⟩,
  ⟨(some 37), .s (.pick (.t 33) (.c (.bool true)) (.t 36)), none, 31⟩,
  ⟨(some 9), .s (.mov (.t 37)), none, 63⟩]
def v22_9 : List COper := [
  ⟨(some 38), .s (.bin .add .no (.t 28) (.c (.int .i64 (1)))), none, 0⟩,
  ⟨(some 28), .s (.mov (.t 38)), none, 1⟩]
def v22_b10 : CCode := (.seq (.region v22_6)
  (.seq (.cond (.t 29) .skip (.exit 0))
  (.seq (.block 1 (.seq (.region v22_7)
  (.region v22_8)))
  (.region v22_9))))
theorem v22_b10e : v22_b10 = (.seq (.region v22_6)
  (.seq (.cond (.t 29) .skip (.exit 0))
  (.seq (.block 1 (.seq (.region v22_7)
  (.region v22_8)))
  (.region v22_9)))) := rfl
def v22_11 : List COper := [
  ⟨(some 39), .s (.mov (.t 9)), none, 0⟩,
  ⟨(some 40), .s (.un .not (.t 39)), none, 1⟩]
def v22_12 : List COper := [
  ⟨(some 41), .s (.mov (.t 1)), none, 0⟩,
  ⟨(some 42), .s (.mov (.t 2)), none, 0⟩,
  ⟨(some 43), .call (.c (.func 52 [] [])) [(.t 41), (.t 42)], none, 3⟩,
  ⟨(some 6), .s (.mov (.c (.cslice [] 1 0 2))), none, 7⟩,
  ⟨none, .h (.store 6 (.t 7) (.t 43)), none, 15⟩]
def v22_13 : List COper := [
  ⟨(some 44), .s (.mov (.t 0)), none, 0⟩,
  ⟨(some 45), .s (.nilCheck (.t 44)), none, 1⟩,
  ⟨(some 46), .s (.fieldAddr 1 (.t 45)), none, 3⟩,
  ⟨(some 47), .s (.load none (.t 46)), none, 7⟩,
  ⟨(some 48), .s (.load (some 2) (.t 8)), none, 0⟩,
  ⟨(some 49), .call (.c (.func 55 [] [])) [(.t 47), (.t 48)], none, 31⟩,
  ⟨(some 50), .s (.build [(.bool false), (.cslice [] 0 0 1), (.int .i64 (0)), (.bool false), (.str []), (.str [])] []), none, 0⟩,
  ⟨(some 6), .s (.mov (.t 49)), none, 63⟩,
  ⟨none, .h (.store 6 (.t 7) (.t 50)), none, 255⟩]
def v22_13s : List Step := [
  .small 0 ⟨(some 44), .s (.mov (.t 0)), none, 0⟩,
  .small 1 ⟨(some 45), .s (.nilCheck (.t 44)), none, 1⟩,
  .small 2 ⟨(some 46), .s (.fieldAddr 1 (.t 45)), none, 3⟩,
  .small 3 ⟨(some 47), .s (.load none (.t 46)), none, 7⟩,
  .small 4 ⟨(some 48), .s (.load (some 2) (.t 8)), none, 0⟩,
  .small 6 ⟨(some 50), .s (.build [(.bool false), (.cslice [] 0 0 1), (.int .i64 (0)), (.bool false), (.str []), (.str [])] []), none, 0⟩,
  .big 5 ⟨(some 49), .call (.c (.func 55 [] [])) [(.t 47), (.t 48)], none, 31⟩,
  .small 7 ⟨(some 6), .s (.mov (.t 49)), none, 63⟩,
  .big 8 ⟨none, .h (.store 6 (.t 7) (.t 50)), none, 255⟩]
theorem v22_13h : sched (v22_13.length + 1) (numbered v22_13 0) 0 = some v22_13s := by kernel_rfl
def v22_body : CCode := (.seq (.region v22_0)
  (.seq (.region v22_1)
  (.seq (.seq (.region v22_2)
  (.cond (.t 17) (.seq (.region v22_3)
  .ret) .skip))
  (.seq (.region v22_4)
  (.seq (.seq (.region v22_5)
  (.block 0 (.loop v22_b10)))
  (.seq (.seq (.region v22_11)
  (.cond (.t 40) (.seq (.region v22_12)
  .ret) .skip))
  (.seq (.draw v22_13)
  .ret)))))))
def v22 : VFunc := ⟨51, [.t 6, .cell 7 (some 6)], true, v22_body,
  fun i => match i with | 0 => [28, 8, 9, 26, 7, 2, 1, 0, 27] | _ => [],
  fun i => match i with | 0 => [7, 2, 1, 0, 8, 9] | 1 => [8, 9, 26, 7, 2, 1, 0, 27, 28] | _ => []⟩
@[simp] theorem v22_c : v22.body = v22_body := rfl
@[simp] theorem v22_r : v22.results = [.t 6, .cell 7 (some 6)] := rfl
@[simp] theorem v22_o : v22.own = true := rfl
@[simp] theorem v22_h0 : v22.head 0 = [28, 8, 9, 26, 7, 2, 1, 0, 27] := rfl
@[simp] theorem v22_t0 : v22.tail 0 = [7, 2, 1, 0, 8, 9] := rfl
@[simp] theorem v22_t1 : v22.tail 1 = [8, 9, 26, 7, 2, 1, 0, 27, 28] := rfl
def v23_0 : List COper := [
  ⟨(some 4), .s (.mov (.c (.bool false))), none, 0⟩]
def v23_1 : List COper := [
  ⟨(some 5), .s (.mov (.t 0)), none, 0⟩,
  ⟨(some 6), .s (.toStr (.t 5)), none, 1⟩,
  ⟨(some 7), .s (.mov (.t 1)), none, 0⟩,
  ⟨(some 8), .s (.toStr (.t 7)), none, 4⟩,
  ⟨(some 9), .s (.bin .eql .str (.t 6) (.t 8)), none, 15⟩,
  ⟨(some 4), .s (.mov (.t 9)), none, 31⟩]
def v23_body : CCode := (.seq (.region v23_0)
  (.seq (.region v23_1)
  .ret))
def v23 : VFunc := ⟨10, [.t 4], true, v23_body,
  fun _ => [],
  fun _ => []⟩
@[simp] theorem v23_c : v23.body = v23_body := rfl
@[simp] theorem v23_r : v23.results = [.t 4] := rfl
@[simp] theorem v23_o : v23.own = true := rfl
def v25_0 : List COper := [
  ⟨(some 0), .s (.mov (.c .nilp)), none, 0⟩]
def v25_1 : List COper := [
  ⟨(some 1), .call (.c (.func 44 [] [])) [(.c (.cslice [] 0 0 2))], none, 0⟩,
  ⟨(some 2), .m (.makeMap), none, 0⟩,
  ⟨(some 3), .s (.build [.nilp, .nilm, (.cslice [] 3 0 2)] [(0, 1, (.t 1)), (1, 1, (.t 2))]), none, 3⟩,
  ⟨(some 4), .m (.box (.t 3)), none, 7⟩,
  ⟨(some 0), .s (.mov (.t 4)), none, 15⟩]
def v25_body : CCode := (.seq (.region v25_0)
  (.seq (.region v25_1)
  .ret))
def v25 : VFunc := ⟨5, [.t 0], true, v25_body,
  fun _ => [],
  fun _ => []⟩
@[simp] theorem v25_c : v25.body = v25_body := rfl
@[simp] theorem v25_r : v25.results = [.t 0] := rfl
@[simp] theorem v25_o : v25.own = true := rfl
def v28_0 : List COper := [
  ⟨(some 4), .s (.mov (.c (.cslice [] 1 0 1))), none, 0⟩,
  ⟨(some 5), .s (.mov (.c (.bool false))), none, 1⟩,
  ⟨(some 6), .s (.mov (.c .nili)), none, 3⟩]
def v28_1 : List COper := [
  ⟨(some 7), .s (.mov (.t 0)), none, 0⟩,
  ⟨(some 8), .s (.bin .eql .nilp (.t 7) (.c .nilp)), none, 1⟩,
  ⟨(some 9), .s (.mov (.t 8)), none, 3⟩,
  ⟨(some 10), .s (.mov (.t 0)), some (9, false), 7⟩,
  ⟨(some 11), .s (.nilCheck (.t 10)), some (9, false), 15⟩,
  ⟨(some 12), .s (.fieldAddr 1 (.t 11)), some (9, false), 31⟩,
  ⟨(some 13), .s (.load none (.t 12)), some (9, false), 63⟩,
  ⟨(some 14), .s (.mov (.t 1)), some (9, false), 7⟩,
  ⟨(some 15), .s (.lookup .str (.int .i64 (0)) false (.t 13) (.t 14)), some (9, false), 255⟩,
  ⟨(some 16), .s (.bin .eql .int (.t 15) (.c (.int .i64 (0)))), some (9, false), 511⟩,
  ⟨(some 17), .s (.mov (.t 16)), some (9, false), 1023⟩,
  ⟨(some 18), .s (.mov (.t 0)), some (17, true), 2047⟩,
  ⟨(some 19), .s (.nilCheck (.t 18)), some (17, true), 4095⟩,
  ⟨(some 20), .s (.fieldAddr 2 (.t 19)), some (17, true), 8191⟩,
  ⟨(some 21), .s (.load none (.t 20)), some (17, true), 16383⟩,
  ⟨(some 22), .s (.mov (.t 1)), some (17, true), 2047⟩,
  ⟨(some 23), .call (.c (.func 59 [] [])) [(.t 21), (.t 22)], some (17, true), 65535⟩,
  ⟨(some 24), .s (.un .not (.t 23)), some (17, true), 131071⟩,
  ⟨(some 25), .s (.pick (.t 17) (.t 24) (.c (.bool false))), some (9, false), 262143⟩,
  ⟨(some 26), .s (.pick (.t 9) (.c (.bool true)) (.t 25)), none, 524287⟩]
def v28_2 : List COper := [
  ⟨(some 27), .s (.mov (.t 1)), none, 0⟩,
  ⟨(some 28), .s (.mov (.t 1)), none, 0⟩,
  ⟨(some 29), .call (.c (.func 60 [] [])) [(.t 27), (.t 28)], none, 3⟩,
  ⟨(some 4), .s (.mov (.c (.cslice [] 1 0 1))), none, 7⟩,
  ⟨(some 5), .s (.mov (.c (.bool false))), none, 15⟩,
  ⟨(some 6), .s (.mov (.t 29)), none, 31⟩]
def v28_3 : List COper := [
  ⟨(some 30), .s (.mov (.t 0)), none, 0⟩,
  ⟨(some 31), .s (.nilCheck (.t 30)), none, 1⟩,
  ⟨(some 32), .s (.fieldAddr 0 (.t 31)), none, 3⟩,
  ⟨(some 33), .s (.load none (.t 32)), none, 7⟩,
  ⟨(some 34), .s (.mov (.t 1)), none, 0⟩,
  ⟨(some 35), .call (.c (.func 19 [] [])) [(.t 33), (.t 34)], none, 31⟩,
  ⟨(some 36), .s (.extract 0 (.t 35)), none, 63⟩,
  ⟨(some 37), .s (.extract 1 (.t 35)), none, 63⟩,
  ⟨(some 38), .s (.extract 2 (.t 35)), none, 63⟩,
  ⟨(some 4), .s (.mov (.t 36)), none, 511⟩,
  ⟨(some 5), .s (.mov (.t 37)), none, 1023⟩,
  ⟨(some 6), .s (.mov (.t 38)), none, 2047⟩]
def v28_body : CCode := (.seq (.region v28_0)
  (.seq (.seq (.region v28_1)
  (.cond (.t 26) (.seq (.region v28_2)
  .ret) .skip))
  (.seq (.region v28_3)
  .ret)))
def v28 : VFunc := ⟨39, [.t 4, .t 5, .t 6], true, v28_body,
  fun _ => [],
  fun _ => []⟩
@[simp] theorem v28_c : v28.body = v28_body := rfl
@[simp] theorem v28_r : v28.results = [.t 4, .t 5, .t 6] := rfl
@[simp] theorem v28_o : v28.own = true := rfl
def v31_0 : List COper := [
  ⟨(some 2), .m (.alloc [(.bool false), (.cslice [] 0 0 1), (.int .i64 (0)), (.bool false), (.str []), (.str [])]), none, 0⟩]
def v31_1 : List COper := [
  ⟨(some 5), .s (.mov (.t 0)), none, 0⟩,
  ⟨(some 6), .s (.bin .eql (.iface false) (.t 5) (.c .nili)), none, 1⟩]
def v31_2 : List COper := [
  ⟨(some 7), .s (.build [(.bool false), (.cslice [] 0 0 1), (.int .i64 (0)), (.bool false), (.str []), (.str [])] []), none, 0⟩,
  ⟨none, .h (.store 6 (.t 2) (.t 7)), none, 1⟩]
def v31_3 : List COper := [
  ⟨(some 9), .s (.mov (.t 0)), none, 0⟩,
  ⟨(some 10), .call (.c (.func 41 [] [])) [(.t 9)], none, 1⟩,
  ⟨(some 8), .s (.mov (.t 10)), none, 3⟩,
  ⟨(some 11), .s (.extract 0 (.t 8)), none, 7⟩,
  ⟨(some 12), .s (.extract 1 (.t 8)), none, 7⟩,
  ⟨(some 3), .m (.alloc [(.str []), (.str [])]), none, 0⟩,
  ⟨none, .h (.store 2 (.t 3) (.t 11)), none, 47⟩,
  ⟨(some 4), .s (.mov (.t 12)), none, 127⟩]
def v31_4 : List COper := [
  ⟨(some 13), .s (.mov (.t 0)), none, 0⟩,
  ⟨(some 14), .call (.c (.func 43 [] [])) [(.t 13)], none, 1⟩,
  ⟨(some 15), .s (.mov (.t 0)), none, 0⟩,
  ⟨(some 16), .call (.c (.func 62 [] [])) [(.t 15)], none, 7⟩,
  ⟨(some 17), .s (.mov (.t 4)), none, 0⟩,
  ⟨(some 18), .s (.load (some 2) (.t 3)), none, 0⟩,
  ⟨(some 19), .s (.build [(.bool false), (.cslice [] 0 0 1), (.int .i64 (0)), (.bool false), (.str []), (.str [])] [(0, 1, (.c (.bool true))), (1, 1, (.t 14)), (2, 1, (.t 16)), (3, 1, (.t 17)), (4, 2, (.t 18))]), none, 63⟩,
  ⟨none, .h (.store 6 (.t 2) (.t 19)), none, 127⟩]
def v31_body : CCode := (.seq (.region v31_0)
  (.seq (.seq (.region v31_1)
  (.cond (.t 6) (.seq (.region v31_2)
  .ret) .skip))
  (.seq (.region v31_3)
  (.seq (.draw v31_4)
  .ret))))
def v31 : VFunc := ⟨20, [.cell 2 (some 6)], true, v31_body,
  fun _ => [],
  fun _ => []⟩
@[simp] theorem v31_c : v31.body = v31_body := rfl
@[simp] theorem v31_r : v31.results = [.cell 2 (some 6)] := rfl
@[simp] theorem v31_o : v31.own = true := rfl
def v33_0 : List COper := [
  ⟨(some 2), .s (.mov (.c .nilp)), none, 0⟩]
def v33_1 : List COper := [
  ⟨(some 3), .s (.mov (.t 0)), none, 0⟩,
  ⟨(some 4), .s (.bin .eql (.iface false) (.t 3) (.c .nili)), none, 1⟩]
def v33_2 : List COper := [
  ⟨(some 2), .s (.mov (.c .nilp)), none, 0⟩]
def v33_3 : List COper := [
  ⟨(some 5), .s (.mov (.t 0)), none, 0⟩,
  ⟨(some 6), .m (.makeMap), none, 0⟩,
  ⟨(some 7), .s (.build [.nili, .nilm] [(0, 1, (.t 5)), (1, 1, (.t 6))]), none, 3⟩,
  ⟨(some 8), .m (.box (.t 7)), none, 7⟩,
  ⟨(some 2), .s (.mov (.t 8)), none, 15⟩]
def v33_body : CCode := (.seq (.region v33_0)
  (.seq (.seq (.region v33_1)
  (.cond (.t 4) (.seq (.region v33_2)
  .ret) .skip))
  (.seq (.region v33_3)
  .ret)))
def v33 : VFunc := ⟨9, [.t 2], true, v33_body,
  fun _ => [],
  fun _ => []⟩
@[simp] theorem v33_c : v33.body = v33_body := rfl
@[simp] theorem v33_r : v33.results = [.t 2] := rfl
@[simp] theorem v33_o : v33.own = true := rfl
def v40_0 : List COper := [
  ⟨(some 2), .m (.alloc [(.str []), (.str [])]), none, 0⟩]
def v40_1 : List COper := [
  ⟨(some 3), .s (.mov (.t 0)), none, 0⟩,
  ⟨(some 4), .s (.mov (.t 0)), none, 0⟩,
  ⟨(some 5), .s (.bin .add .no (.t 4) (.c (.str [0]))), none, 2⟩,
  ⟨(some 6), .s (.build [(.str []), (.str [])] [(0, 1, (.t 3)), (1, 1, (.t 5))]), none, 7⟩,
  ⟨none, .h (.store 2 (.t 2) (.t 6)), none, 15⟩]
def v40_body : CCode := (.seq (.region v40_0)
  (.seq (.region v40_1)
  .ret))
def v40 : VFunc := ⟨7, [.cell 2 (some 2)], true, v40_body,
  fun _ => [],
  fun _ => []⟩
@[simp] theorem v40_c : v40.body = v40_body := rfl
@[simp] theorem v40_r : v40.results = [.cell 2 (some 2)] := rfl
@[simp] theorem v40_o : v40.own = true := rfl
def v41_0 : List COper := [
  ⟨(some 2), .m (.alloc [(.str []), (.str [])]), none, 0⟩,
  ⟨(some 3), .s (.mov (.c (.bool false))), none, 0⟩]
def v41_1 : List COper := [
  ⟨(some 4), .m (.alloc [(.str []), (.str [])]), none, 0⟩]
def v41_2 : List COper := [
  ⟨(some 5), .s (.mov (.t 0)), none, 0⟩,
  ⟨(some 6), .s (.bin .neq (.iface false) (.t 5) (.c .nili)), none, 1⟩,
  ⟨(some 7), .s (.mov (.t 6)), none, 3⟩,
  ⟨(some 8), .s (.mov (.t 0)), some (7, true), 7⟩,
  ⟨(some 9), .s (.mkIface 187 (.t 4)), some (7, true), 7⟩,
  ⟨(some 10), .call (.c (.func 97 [] [])) [(.t 8), (.t 9)], some (7, true), 31⟩,
  ⟨(some 11), .s (.pick (.t 7) (.t 10) (.c (.bool false))), none, 63⟩]
def v41_3 : List COper := [
  ⟨(some 12), .s (.load (some 2) (.t 4)), none, 0⟩,
  ⟨none, .h (.store 2 (.t 2) (.t 12)), none, 1⟩,
  ⟨(some 3), .s (.mov (.c (.bool true))), none, 3⟩]
def v41_4 : List COper := [
  ⟨(some 13), .s (.build [(.str []), (.str [])] []), none, 0⟩,
  ⟨none, .h (.store 2 (.t 2) (.t 13)), none, 1⟩,
  ⟨(some 3), .s (.mov (.c (.bool false))), none, 3⟩]
def v41_body : CCode := (.seq (.region v41_0)
  (.seq (.region v41_1)
  (.seq (.seq (.region v41_2)
  (.cond (.t 11) (.seq (.region v41_3)
  .ret) .skip))
  (.seq (.region v41_4)
  .ret))))
def v41 : VFunc := ⟨14, [.cell 2 (some 2), .t 3], true, v41_body,
  fun _ => [],
  fun _ => []⟩
@[simp] theorem v41_c : v41.body = v41_body := rfl
@[simp] theorem v41_r : v41.results = [.cell 2 (some 2), .t 3] := rfl
@[simp] theorem v41_o : v41.own = true := rfl
def v42_0 : List COper := [
  ⟨(some 4), .m (.alloc [(.str []), (.int .u64 (0)), (.int .i64 (0)), (.str []), (.int .u64 (0))]), none, 0⟩,
  ⟨(some 5), .s (.mov (.c (.bool false))), none, 0⟩,
  ⟨(some 6), .s (.mov (.c .nili)), none, 2⟩]
def v42_1 : List COper := [
  ⟨(some 7), .s (.mov (.t 0)), none, 0⟩,
  ⟨(some 8), .s (.mov (.t 1)), none, 0⟩,
  ⟨(some 9), .call (.c (.func 99 [] [])) [(.t 8)], none, 2⟩,
  ⟨(some 10), .call (.c (.func 98 [] [])) [(.t 7), (.t 9), (.c (.func 100 [] []))], none, 7⟩,
  ⟨(some 11), .s (.extract 0 (.t 10)), none, 15⟩,
  ⟨(some 12), .s (.extract 1 (.t 10)), none, 15⟩,
  ⟨(some 13), .s (.extract 2 (.t 10)), none, 15⟩,
  ⟨none, .h (.store 5 (.t 4) (.t 11)), none, 127⟩,
  ⟨(some 5), .s (.mov (.t 12)), none, 255⟩,
  ⟨(some 6), .s (.mov (.t 13)), none, 511⟩]
def v42_body : CCode := (.seq (.region v42_0)
  (.seq (.region v42_1)
  .ret))
def v42 : VFunc := ⟨14, [.cell 4 (some 5), .t 5, .t 6], true, v42_body,
  fun _ => [],
  fun _ => []⟩
@[simp] theorem v42_c : v42.body = v42_body := rfl
@[simp] theorem v42_r : v42.results = [.cell 4 (some 5), .t 5, .t 6] := rfl
@[simp] theorem v42_o : v42.own = true := rfl
def v43_0 : List COper := [
  ⟨(some 2), .s (.mov (.c (.cslice [] 1 0 1))), none, 0⟩]
def v43_1 : List COper := [
  ⟨(some 3), .s (.mov (.c (.cslice [] 1 0 1))), none, 0⟩]
def v43_2 : List COper := [
  ⟨(some 4), .m (.alloc [.nilp]), none, 0⟩]
def v43_3 : List COper := [
  ⟨(some 5), .s (.mov (.t 0)), none, 0⟩,
  ⟨(some 6), .s (.bin .neq (.iface false) (.t 5) (.c .nili)), none, 1⟩,
  ⟨(some 7), .s (.mov (.t 6)), none, 3⟩,
  ⟨(some 8), .s (.mov (.t 0)), some (7, true), 7⟩,
  ⟨(some 9), .s (.mkIface 192 (.t 4)), some (7, true), 7⟩,
  ⟨(some 10), .call (.c (.func 97 [] [])) [(.t 8), (.t 9)], some (7, true), 31⟩,
  ⟨(some 11), .s (.pick (.t 7) (.t 10) (.c (.bool false))), none, 63⟩,
  ⟨(some 12), .s (.mov (.t 11)), none, 127⟩,
  ⟨(some 13), .s (.load none (.t 4)), some (12, true), 255⟩,
  ⟨(some 14), .s (.bin .neq .nilp (.t 13) (.c .nilp)), some (12, true), 511⟩,
  ⟨(some 15), .s (.pick (.t 12) (.t 14) (.c (.bool false))), none, 1023⟩]
def v43_4 : List COper := [
  ⟨(some 16), .s (.mov (.t 3)), none, 0⟩,
  ⟨(some 17), .s (.load none (.t 4)), none, 0⟩,
  ⟨(some 18), .s (.nilCheck (.t 17)), none, 2⟩,
  ⟨(some 19), .s (.fieldAddr 0 (.t 18)), none, 6⟩,
  ⟨(some 20), .s (.load none (.t 19)), none, 14⟩,
  ⟨(some 21), .m (.buildSlice 1 1 [(.str [])] [(0, 1, (.t 20))]), none, 30⟩,
  ⟨(some 22), .h (.append 1 16 false (.t 16) (.t 21)), none, 63⟩,
  ⟨(some 3), .s (.mov (.t 22)), none, 127⟩]
def v43_5 : List COper := [
  ⟨(some 23), .s (.load none (.t 4)), none, 0⟩,
  ⟨(some 24), .s (.nilCheck (.t 23)), none, 1⟩,
  ⟨(some 25), .s (.fieldAddr 1 (.t 24)), none, 3⟩,
  ⟨(some 26), .s (.load none (.t 25)), none, 7⟩,
  ⟨(some 0), .s (.mov (.t 26)), none, 15⟩]
def v43_b6 : CCode := (.seq (.seq (.region v43_3)
  (.cond (.t 15) .skip (.exit 0)))
  (.block 1 (.seq (.region v43_4)
  (.region v43_5))))
theorem v43_b6e : v43_b6 = (.seq (.seq (.region v43_3)
  (.cond (.t 15) .skip (.exit 0)))
  (.block 1 (.seq (.region v43_4)
  (.region v43_5)))) := rfl
def v43_7 : List COper := [
  ⟨(some 27), .s (.mov (.t 3)), none, 0⟩,
  ⟨(some 2), .s (.mov (.t 27)), none, 1⟩]
def v43_body : CCode := (.seq (.region v43_0)
  (.seq (.region v43_1)
  (.seq (.region v43_2)
  (.seq (.block 0 (.loop v43_b6))
  (.seq (.region v43_7)
  .ret)))))
def v43 : VFunc := ⟨28, [.t 2], true, v43_body,
  fun i => match i with | 0 => [4, 3, 0] | _ => [],
  fun i => match i with | 0 => [3] | 1 => [4, 3, 0] | _ => []⟩
@[simp] theorem v43_c : v43.body = v43_body := rfl
@[simp] theorem v43_r : v43.results = [.t 2] := rfl
@[simp] theorem v43_o : v43.own = true := rfl
@[simp] theorem v43_h0 : v43.head 0 = [4, 3, 0] := rfl
@[simp] theorem v43_t0 : v43.tail 0 = [3] := rfl
@[simp] theorem v43_t1 : v43.tail 1 = [4, 3, 0] := rfl
def v44_0 : List COper := [
  ⟨(some 2), .s (.mov (.c .nilp)), none, 0⟩]
def v44_1 : List COper := [
  ⟨(some 6), .m (.makeMap), none, 0⟩,
  ⟨(some 7), .s (.build [.nilm] [(0, 1, (.t 6))]), none, 1⟩,
  ⟨(some 8), .m (.box (.t 7)), none, 3⟩,
  ⟨(some 3), .s (.mov (.t 8)), none, 7⟩]
def v44_2 : List COper := [
  ⟨(some 9), .s (.mov (.t 0)), none, 0⟩,
  ⟨(some 10), .s (.len 1 (.t 9)), none, 1⟩,
  ⟨(some 11), .s (.mov (.c (.int .i64 (0)))), none, 0⟩]
def v44_3 : List COper := [
  ⟨(some 12), .s (.bin .lss .no (.t 11) (.t 10)), none, 0⟩]
def v44_4 : List COper := [
  ⟨(some 13), .s (.indexAddr 2 (.t 9) (.t 11)), none, 0⟩,
  ⟨(some 14), .s (.load (some 2) (.t 13)), none, 1⟩,
  ⟨(some 5), .m (.alloc [(.str []), (.cslice [] 0 0 1)]), none, 0⟩,
  ⟨none, .h (.store 2 (.t 5) (.t 14)), none, 7⟩]
def v44_5 : List COper := [
  ⟨(some 15), .s (.mov (.t 3)), none, 0⟩,
  ⟨(some 16), .s (.nilCheck (.t 15)), none, 1⟩,
  ⟨(some 17), .s (.fieldAddr 0 (.t 16)), none, 3⟩,
  ⟨(some 18), .s (.load none (.t 17)), none, 7⟩,
  ⟨(some 19), .s (.fieldAddr 0 (.t 5)), none, 0⟩,
  ⟨(some 20), .s (.load none (.t 19)), none, 16⟩,
  ⟨(some 21), .s (.fieldAddr 1 (.t 5)), none, 0⟩,
  ⟨(some 22), .s (.load none (.t 21)), none, 64⟩,
  ⟨(some 23), .call (.c (.func 49 [] [])) [(.t 22)], none, 192⟩,
  ⟨none, .h (.mapUpdate .str (.t 18) (.t 20) (.t 23)), none, 511⟩]
def v44_5s : List Step := [
  .small 0 ⟨(some 15), .s (.mov (.t 3)), none, 0⟩,
  .small 1 ⟨(some 16), .s (.nilCheck (.t 15)), none, 1⟩,
  .small 2 ⟨(some 17), .s (.fieldAddr 0 (.t 16)), none, 3⟩,
  .small 3 ⟨(some 18), .s (.load none (.t 17)), none, 7⟩,
  .small 4 ⟨(some 19), .s (.fieldAddr 0 (.t 5)), none, 0⟩,
  .small 5 ⟨(some 20), .s (.load none (.t 19)), none, 16⟩,
  .small 6 ⟨(some 21), .s (.fieldAddr 1 (.t 5)), none, 0⟩,
  .small 7 ⟨(some 22), .s (.load none (.t 21)), none, 64⟩,
  .big 8 ⟨(some 23), .call (.c (.func 49 [] [])) [(.t 22)], none, 192⟩,
  .big 9 ⟨none, .h (.mapUpdate .str (.t 18) (.t 20) (.t 23)), none, 511⟩]
theorem v44_5h : sched (v44_5.length + 1) (numbered v44_5 0) 0 = some v44_5s := by kernel_rfl
def v44_6 : List COper := [
  ⟨(some 24), .s (.bin .add .no (.t 11) (.c (.int .i64 (1)))), none, 0⟩,
  ⟨(some 11), .s (.mov (.t 24)), none, 1⟩]
def v44_b7 : CCode := (.seq (.region v44_3)
  (.seq (.cond (.t 12) .skip (.exit 0))
  (.seq (.block 1 (.seq (.region v44_4)
  (.draw v44_5)))
  (.region v44_6))))
theorem v44_b7e : v44_b7 = (.seq (.region v44_3)
  (.seq (.cond (.t 12) .skip (.exit 0))
  (.seq (.block 1 (.seq (.region v44_4)
  (.draw v44_5)))
  (.region v44_6)))) := rfl
def v44_8 : List COper := [
  ⟨(some 25), .s (.mov (.t 3)), none, 0⟩,
  ⟨(some 2), .s (.mov (.t 25)), none, 1⟩]
def v44_body : CCode := (.seq (.region v44_0)
  (.seq (.region v44_1)
  (.seq (.seq (.region v44_2)
  (.block 0 (.loop v44_b7)))
  (.seq (.region v44_8)
  .ret))))
def v44 : VFunc := ⟨26, [.t 2], true, v44_body,
  fun i => match i with | 0 => [11, 3, 9, 10] | _ => [],
  fun i => match i with | 0 => [3] | 1 => [3, 9, 10, 11] | _ => []⟩
@[simp] theorem v44_c : v44.body = v44_body := rfl
@[simp] theorem v44_r : v44.results = [.t 2] := rfl
@[simp] theorem v44_o : v44.own = true := rfl
@[simp] theorem v44_h0 : v44.head 0 = [11, 3, 9, 10] := rfl
@[simp] theorem v44_t0 : v44.tail 0 = [3] := rfl
@[simp] theorem v44_t1 : v44.tail 1 = [3, 9, 10, 11] := rfl
def v45_0 : List COper := [
  ⟨(some 4), .s (.mov (.c (.bool false))), none, 0⟩]
def v45_1 : List COper := [
  ⟨(some 6), .s (.mov (.t 0)), none, 0⟩,
  ⟨(some 7), .s (.len 1 (.t 6)), none, 1⟩,
  ⟨(some 8), .s (.mov (.t 1)), none, 0⟩,
  ⟨(some 9), .s (.len 1 (.t 8)), none, 4⟩,
  ⟨(some 10), .s (.bin .neq .int (.t 7) (.t 9)), none, 15⟩]
def v45_2 : List COper := [
  ⟨(some 4), .s (.mov (.c (.bool false))), none, 0⟩]
def v45_3 : List COper := [
  ⟨(some 11), .s (.mov (.t 0)), none, 0⟩,
  ⟨(some 12), .s (.len 1 (.t 11)), none, 1⟩,
  ⟨(some 13), .s (.mov (.c (.int .i64 (0)))), none, 0⟩]
def v45_4 : List COper := [
  ⟨(some 14), .s (.bin .lss .no (.t 13) (.t 12)), none, 0⟩]
def v45_5 : List COper := [
  ⟨(some 15), .s (.mov (.t 13)), none, 0⟩,
  ⟨(some 5), .s (.mov (.t 15)), none, 1⟩]
def v45_6 : List COper := [
  ⟨(some 16), .s (.mov (.t 0)), none, 0⟩,
  ⟨(some 17), .s (.mov (.t 5)), none, 0⟩,
  ⟨(some 18), .s (.indexAddr 2 (.t 16) (.t 17)), none, 3⟩,
  ⟨(some 19), .s (.fieldAddr 0 (.t 18)), none, 7⟩,
  ⟨(some 20), .s (.load none (.t 19)), none, 15⟩,
  ⟨(some 21), .s (.mov (.t 1)), none, 0⟩,
  ⟨(some 22), .s (.mov (.t 5)), none, 0⟩,
  ⟨(some 23), .s (.indexAddr 2 (.t 21) (.t 22)), none, 96⟩,
  ⟨(some 24), .s (.fieldAddr 0 (.t 23)), none, 224⟩,
  ⟨(some 25), .s (.load none (.t 24)), none, 480⟩,
  ⟨(some 26), .s (.bin .neq .str (.t 20) (.t 25)), none, 1023⟩,
  ⟨(some 27), .s (.mov (.t 26)), none, 2047⟩,
  ⟨(some 28), .s (.mov (.t 0)), some (27, false), 4095⟩,
  ⟨(some 29), .s (.mov (.t 5)), some (27, false), 4095⟩,
  ⟨(some 30), .s (.indexAddr 2 (.t 28) (.t 29)), some (27, false), 16383⟩,
  ⟨(some 31), .s (.fieldAddr 1 (.t 30)), some (27, false), 32767⟩,
  ⟨(some 32), .s (.load none (.t 31)), some (27, false), 65535⟩,
  ⟨(some 33), .s (.toStr (.t 32)), some (27, false), 131071⟩,
  ⟨(some 34), .s (.mov (.t 1)), some (27, false), 4095⟩,
  ⟨(some 35), .s (.mov (.t 5)), some (27, false), 4095⟩,
  ⟨(some 36), .s (.indexAddr 2 (.t 34) (.t 35)), some (27, false), 790527⟩,
  ⟨(some 37), .s (.fieldAddr 1 (.t 36)), some (27, false), 1839103⟩,
  ⟨(some 38), .s (.load none (.t 37)), some (27, false), 3936255⟩,
  ⟨(some 39), .s (.toStr (.t 38)), some (27, false), 8130559⟩,
  ⟨(some 40), .s (.bin .neq .str (.t 33) (.t 39)), some (27, false), 16777215⟩,
  ⟨(some 41), .s (.pick (.t 27) (.c (.bool true)) (.t 40)), none, 33554431⟩]
def v45_6s : List Step := [
  .small 0 ⟨(some 16), .s (.mov (.t 0)), none, 0⟩,
  .small 1 ⟨(some 17), .s (.mov (.t 5)), none, 0⟩,
  .small 2 ⟨(some 18), .s (.indexAddr 2 (.t 16) (.t 17)), none, 3⟩,
  .small 3 ⟨(some 19), .s (.fieldAddr 0 (.t 18)), none, 7⟩,
  .small 4 ⟨(some 20), .s (.load none (.t 19)), none, 15⟩,
  .small 5 ⟨(some 21), .s (.mov (.t 1)), none, 0⟩,
  .small 6 ⟨(some 22), .s (.mov (.t 5)), none, 0⟩,
  .small 7 ⟨(some 23), .s (.indexAddr 2 (.t 21) (.t 22)), none, 96⟩,
  .small 8 ⟨(some 24), .s (.fieldAddr 0 (.t 23)), none, 224⟩,
  .small 9 ⟨(some 25), .s (.load none (.t 24)), none, 480⟩,
  .small 10 ⟨(some 26), .s (.bin .neq .str (.t 20) (.t 25)), none, 1023⟩,
  .small 11 ⟨(some 27), .s (.mov (.t 26)), none, 2047⟩,
  .small 12 ⟨(some 28), .s (.mov (.t 0)), some (27, false), 4095⟩,
  .small 13 ⟨(some 29), .s (.mov (.t 5)), some (27, false), 4095⟩,
  .small 14 ⟨(some 30), .s (.indexAddr 2 (.t 28) (.t 29)), some (27, false), 16383⟩,
  .small 15 ⟨(some 31), .s (.fieldAddr 1 (.t 30)), some (27, false), 32767⟩,
  .small 16 ⟨(some 32), .s (.load none (.t 31)), some (27, false), 65535⟩,
  .small 17 ⟨(some 33), .s (.toStr (.t 32)), some (27, false), 131071⟩,
  .small 18 ⟨(some 34), .s (.mov (.t 1)), some (27, false), 4095⟩,
  .small 19 ⟨(some 35), .s (.mov (.t 5)), some (27, false), 4095⟩,
  .small 20 ⟨(some 36), .s (.indexAddr 2 (.t 34) (.t 35)), some (27, false), 790527⟩,
  .small 21 ⟨(some 37), .s (.fieldAddr 1 (.t 36)), some (27, false), 1839103⟩,
  .small 22 ⟨(some 38), .s (.load none (.t 37)), some (27, false), 3936255⟩,
  .small 23 ⟨(some 39), .s (.toStr (.t 38)), some (27, false), 8130559⟩,
  .small 24 ⟨(some 40), .s (.bin .neq .str (.t 33) (.t 39)), some (27, false), 16777215⟩,
  .small 25 ⟨(some 41), .s (.pick (.t 27) (.c (.bool true)) (.t 40)), none, 33554431⟩]
theorem v45_6h : sched (v45_6.length + 1) (numbered v45_6 0) 0 = some v45_6s := by kernel_rfl
def v45_7 : List COper := [
  ⟨(some 4), .s (.mov (.c (.bool false))), none, 0⟩]
def v45_8 : List COper := [
  ⟨(some 42), .s (.bin .add .no (.t 13) (.c (.int .i64 (1)))), none, 0⟩,
  ⟨(some 13), .s (.mov (.t 42)), none, 1⟩]
def v45_b9 : CCode := (.seq (.region v45_4)
  (.seq (.cond (.t 14) .skip (.exit 0))
  (.seq (.block 1 (.seq (.region v45_5)
  (.seq (.draw v45_6)
  (.cond (.t 41) (.seq (.region v45_7)
  .ret) .skip))))
  (.region v45_8))))
theorem v45_b9e : v45_b9 = (.seq (.region v45_4)
  (.seq (.cond (.t 14) .skip (.exit 0))
  (.seq (.block 1 (.seq (.region v45_5)
  (.seq (.draw v45_6)
  (.cond (.t 41) (.seq (.region v45_7)
  .ret) .skip))))
  (.region v45_8)))) := rfl
def v45_10 : List COper := [
  ⟨(some 4), .s (.mov (.c (.bool true))), none, 0⟩]
def v45_body : CCode := (.seq (.region v45_0)
  (.seq (.seq (.region v45_1)
  (.cond (.t 10) (.seq (.region v45_2)
  .ret) .skip))
  (.seq (.seq (.region v45_3)
  (.block 0 (.loop v45_b9)))
  (.seq (.region v45_10)
  .ret))))
def v45 : VFunc := ⟨43, [.t 4], true, v45_body,
  fun i => match i with | 0 => [13, 0, 1, 12] | _ => [],
  fun i => match i with | 0 => [] | 1 => [0, 1, 12, 13] | _ => []⟩
@[simp] theorem v45_c : v45.body = v45_body := rfl
@[simp] theorem v45_r : v45.results = [.t 4] := rfl
@[simp] theorem v45_o : v45.own = true := rfl
@[simp] theorem v45_h0 : v45.head 0 = [13, 0, 1, 12] := rfl
@[simp] theorem v45_t0 : v45.tail 0 = [] := rfl
@[simp] theorem v45_t1 : v45.tail 1 = [0, 1, 12, 13] := rfl
def v46_0 : List COper := [
  ⟨(some 3), .m (.box (.t 1)), none, 0⟩,
  ⟨(some 4), .s (.mov (.c (.cslice [] 1 0 2))), none, 0⟩]
def v46_1 : List COper := [
  ⟨(some 5), .s (.mov (.c (.cslice [] 1 0 2))), none, 0⟩]
def v46_2 : List COper := [
  ⟨(some 8), .s (.mov (.t 0)), none, 0⟩,
  ⟨(some 9), .call (.c (.func 101 [] [])) [(.t 8)], none, 1⟩,
  ⟨(some 10), .s (.len 1 (.t 9)), none, 3⟩,
  ⟨(some 11), .s (.mov (.c (.int .i64 (0)))), none, 0⟩]
def v46_3 : List COper := [
  ⟨(some 12), .s (.bin .lss .no (.t 11) (.t 10)), none, 0⟩]
def v46_4 : List COper := [
  ⟨(some 13), .s (.indexAddr 1 (.t 9) (.t 11)), none, 0⟩,
  ⟨(some 14), .s (.load none (.t 13)), none, 1⟩,
  ⟨(some 7), .s (.mov (.t 14)), none, 3⟩]
def v46_5 : List COper := [
  ⟨(some 15), .s (.load (some 2) (.t 3)), none, 0⟩,
  ⟨(some 16), .s (.mov (.t 7)), none, 0⟩,
  ⟨(some 17), .call (.c (.func 58 [] [])) [(.t 15), (.t 16)], none, 3⟩]
def v46_6 : List COper := [
  ⟨(some 18), .s (.mov (.t 5)), none, 0⟩,
  ⟨(some 19), .s (.mov (.t 7)), none, 0⟩,
  ⟨(some 20), .s (.mov (.t 0)), none, 0⟩,
  ⟨(some 21), .s (.nilCheck (.t 20)), none, 4⟩,
  ⟨(some 22), .s (.fieldAddr 0 (.t 21)), none, 12⟩,
  ⟨(some 23), .s (.load none (.t 22)), none, 28⟩,
  ⟨(some 24), .s (.mov (.t 7)), none, 0⟩,
  ⟨(some 25), .s (.lookup .str (.cslice [] 0 0 1) false (.t 23) (.t 24)), none, 124⟩,
  ⟨(some 26), .call (.c (.func 49 [] [])) [(.t 25)], none, 252⟩,
  ⟨(some 27), .s (.build [(.str []), (.cslice [] 0 0 1)] [(0, 1, (.t 19)), (1, 1, (.t 26))]), none, 510⟩,
  ⟨(some 28), .m (.buildSlice 2 1 [(.str []), (.cslice [] 0 0 1)] [(0, 2, (.t 27))]), none, 1022⟩,
  ⟨(some 29), .h (.append 2 40 false (.t 18) (.t 28)), none, 2047⟩,
  ⟨(some 5), .s (.mov (.t 29)), none, 4095⟩]
def v46_7 : List COper := [
  ⟨(some 30), .s (.bin .add .no (.t 11) (.c (.int .i64 (1)))), none, 0⟩,
  ⟨(some 11), .s (.mov (.t 30)), none, 1⟩]
def v46_b8 : CCode := (.seq (.region v46_3)
  (.seq (.cond (.t 12) .skip (.exit 0))
  (.seq (.block 1 (.seq (.region v46_4)
  (.seq (.region v46_5)
  (.cond (.t 17) (.region v46_6) .skip))))
  (.region v46_7))))
theorem v46_b8e : v46_b8 = (.seq (.region v46_3)
  (.seq (.cond (.t 12) .skip (.exit 0))
  (.seq (.block 1 (.seq (.region v46_4)
  (.seq (.region v46_5)
  (.cond (.t 17) (.region v46_6) .skip))))
  (.region v46_7)))) := rfl
def v46_9 : List COper := [
  ⟨(some 31), .s (.mov (.t 5)), none, 0⟩,
  ⟨(some 4), .s (.mov (.t 31)), none, 1⟩]
def v46_body : CCode := (.seq (.region v46_0)
  (.seq (.region v46_1)
  (.seq (.seq (.region v46_2)
  (.block 0 (.loop v46_b8)))
  (.seq (.region v46_9)
  .ret))))
def v46 : VFunc := ⟨32, [.t 4], true, v46_body,
  fun i => match i with | 0 => [11, 0, 5, 3, 9, 10] | _ => [],
  fun i => match i with | 0 => [5] | 1 => [0, 5, 3, 9, 10, 11] | _ => []⟩
@[simp] theorem v46_c : v46.body = v46_body := rfl
@[simp] theorem v46_r : v46.results = [.t 4] := rfl
@[simp] theorem v46_o : v46.own = true := rfl
@[simp] theorem v46_h0 : v46.head 0 = [11, 0, 5, 3, 9, 10] := rfl
@[simp] theorem v46_t0 : v46.tail 0 = [5] := rfl
@[simp] theorem v46_t1 : v46.tail 1 = [0, 5, 3, 9, 10, 11] := rfl
def v47_0 : List COper := [
  ⟨(some 3), .m (.box (.t 1)), none, 0⟩,
  ⟨(some 4), .s (.mov (.c (.cslice [] 1 0 2))), none, 0⟩]
def v47_1 : List COper := [
  ⟨(some 10), .m (.buildSlice 2 0 [(.str []), (.cslice [] 0 0 1)] []), none, 0⟩,
  ⟨(some 5), .s (.mov (.t 10)), none, 1⟩]
def v47_2 : List COper := [
  ⟨(some 11), .s (.mov (.t 0)), none, 0⟩,
  ⟨(some 12), .s (.len 1 (.t 11)), none, 1⟩,
  ⟨(some 13), .s (.mov (.c (.int .i64 (0)))), none, 0⟩]
def v47_3 : List COper := [
  ⟨(some 14), .s (.bin .lss .no (.t 13) (.t 12)), none, 0⟩]
def v47_4 : List COper := [
  ⟨(some 15), .s (.indexAddr 2 (.t 11) (.t 13)), none, 0⟩,
  ⟨(some 16), .s (.load (some 2) (.t 15)), none, 1⟩,
  ⟨(some 7), .m (.alloc [(.str []), (.cslice [] 0 0 1)]), none, 0⟩,
  ⟨none, .h (.store 2 (.t 7) (.t 16)), none, 7⟩]
def v47_5 : List COper := [
  ⟨(some 17), .s (.fieldAddr 0 (.t 7)), none, 0⟩,
  ⟨(some 18), .s (.load none (.t 17)), none, 1⟩,
  ⟨(some 19), .s (.fieldAddr 0 (.t 3)), none, 0⟩,
  ⟨(some 20), .s (.load none (.t 19)), none, 4⟩,
  ⟨(some 21), .s (.bin .lss .no (.t 18) (.t 20)), none, 15⟩]
def v47_6 : List COper := [
  ⟨(some 22), .s (.mov (.t 5)), none, 0⟩,
  ⟨(some 23), .s (.load (some 2) (.t 7)), none, 0⟩,
  ⟨(some 24), .m (.buildSlice 2 1 [(.str []), (.cslice [] 0 0 1)] [(0, 2, (.t 23))]), none, 2⟩,
  ⟨(some 25), .h (.append 2 40 false (.t 22) (.t 24)), none, 7⟩,
  ⟨(some 5), .s (.mov (.t 25)), none, 15⟩]
def v47_7 : List COper := [
  ⟨(some 26), .s (.bin .add .no (.t 13) (.c (.int .i64 (1)))), none, 0⟩,
  ⟨(some 13), .s (.mov (.t 26)), none, 1⟩]
def v47_b8 : CCode := (.seq (.region v47_3)
  (.seq (.cond (.t 14) .skip (.exit 0))
  (.seq (.block 1 (.seq (.region v47_4)
  (.seq (.region v47_5)
  (.cond (.t 21) (.region v47_6) .skip))))
  (.region v47_7))))
theorem v47_b8e : v47_b8 = (.seq (.region v47_3)
  (.seq (.cond (.t 14) .skip (.exit 0))
  (.seq (.block 1 (.seq (.region v47_4)
  (.seq (.region v47_5)
  (.cond (.t 21) (.region v47_6) .skip))))
  (.region v47_7)))) := rfl
def v47_9 : List COper := [
  ⟨(some 27), .s (.mov (.t 5)), none, 0⟩,
  ⟨(some 28), .s (.load (some 2) (.t 3)), none, 0⟩,
  ⟨(some 29), .m (.buildSlice 2 1 [(.str []), (.cslice [] 0 0 1)] [(0, 2, (.t 28))]), none, 2⟩,
  ⟨(some 30), .h (.append 2 40 false (.t 27) (.t 29)), none, 7⟩,
  ⟨(some 5), .s (.mov (.t 30)), none, 15⟩]
def v47_10 : List COper := [
  ⟨(some 31), .s (.mov (.t 0)), none, 0⟩,
  ⟨(some 32), .s (.len 1 (.t 31)), none, 1⟩,
  ⟨(some 33), .s (.mov (.c (.int .i64 (0)))), none, 0⟩]
def v47_11 : List COper := [
  ⟨(some 34), .s (.bin .lss .no (.t 33) (.t 32)), none, 0⟩]
def v47_12 : List COper := [
  ⟨(some 35), .s (.indexAddr 2 (.t 31) (.t 33)), none, 0⟩,
  ⟨(some 36), .s (.load (some 2) (.t 35)), none, 1⟩,
  ⟨(some 9), .m (.alloc [(.str []), (.cslice [] 0 0 1)]), none, 0⟩,
  ⟨none, .h (.store 2 (.t 9) (.t 36)), none, 7⟩]
def v47_13 : List COper := [
  ⟨(some 37), .s (.fieldAddr 0 (.t 9)), none, 0⟩,
  ⟨(some 38), .s (.load none (.t 37)), none, 1⟩,
  ⟨(some 39), .s (.fieldAddr 0 (.t 3)), none, 0⟩,
  ⟨(some 40), .s (.load none (.t 39)), none, 4⟩,
  ⟨(some 41), .s (.bin .gtr .no (.t 38) (.t 40)), none, 15⟩]
def v47_14 : List COper := [
  ⟨(some 42), .s (.mov (.t 5)), none, 0⟩,
  ⟨(some 43), .s (.load (some 2) (.t 9)), none, 0⟩,
  ⟨(some 44), .m (.buildSlice 2 1 [(.str []), (.cslice [] 0 0 1)] [(0, 2, (.t 43))]), none, 2⟩,
  ⟨(some 45), .h (.append 2 40 false (.t 42) (.t 44)), none, 7⟩,
  ⟨(some 5), .s (.mov (.t 45)), none, 15⟩]
def v47_15 : List COper := [
  ⟨(some 46), .s (.bin .add .no (.t 33) (.c (.int .i64 (1)))), none, 0⟩,
  ⟨(some 33), .s (.mov (.t 46)), none, 1⟩]
def v47_b16 : CCode := (.seq (.region v47_11)
  (.seq (.cond (.t 34) .skip (.exit 2))
  (.seq (.block 3 (.seq (.region v47_12)
  (.seq (.region v47_13)
  (.cond (.t 41) (.region v47_14) .skip))))
  (.region v47_15))))
theorem v47_b16e : v47_b16 = (.seq (.region v47_11)
  (.seq (.cond (.t 34) .skip (.exit 2))
  (.seq (.block 3 (.seq (.region v47_12)
  (.seq (.region v47_13)
  (.cond (.t 41) (.region v47_14) .skip))))
  (.region v47_15)))) := rfl
def v47_17 : List COper := [
  ⟨(some 47), .s (.mov (.t 5)), none, 0⟩,
  ⟨(some 4), .s (.mov (.t 47)), none, 1⟩]
def v47_body : CCode := (.seq (.region v47_0)
  (.seq (.region v47_1)
  (.seq (.seq (.region v47_2)
  (.block 0 (.loop v47_b8)))
  (.seq (.region v47_9)
  (.seq (.seq (.region v47_10)
  (.block 2 (.loop v47_b16)))
  (.seq (.region v47_17)
  .ret))))))
def v47 : VFunc := ⟨48, [.t 4], true, v47_body,
  fun i => match i with | 0 => [13, 5, 3, 11, 0, 12] | 2 => [33, 5, 3, 31, 32] | _ => [],
  fun i => match i with | 0 => [3, 0, 5] | 1 => [5, 3, 11, 0, 12, 13] | 2 => [5] | 3 => [5, 3, 31, 32, 33] | _ => []⟩
@[simp] theorem v47_c : v47.body = v47_body := rfl
@[simp] theorem v47_r : v47.results = [.t 4] := rfl
@[simp] theorem v47_o : v47.own = true := rfl
@[simp] theorem v47_h0 : v47.head 0 = [13, 5, 3, 11, 0, 12] := rfl
@[simp] theorem v47_h2 : v47.head 2 = [33, 5, 3, 31, 32] := rfl
@[simp] theorem v47_t0 : v47.tail 0 = [3, 0, 5] := rfl
@[simp] theorem v47_t1 : v47.tail 1 = [5, 3, 11, 0, 12, 13] := rfl
@[simp] theorem v47_t2 : v47.tail 2 = [5] := rfl
@[simp] theorem v47_t3 : v47.tail 3 = [5, 3, 31, 32, 33] := rfl
def v48_0 : List COper := [
  ⟨(some 5), .m (.box (.t 2)), none, 0⟩]
def v48_1 : List COper := [
  ⟨(some 6), .s (.fieldAddr 0 (.t 5)), none, 0⟩,
  ⟨(some 7), .s (.load none (.t 6)), none, 1⟩]
def v48_2 : List COper := [
  ⟨(some 8), .s (.mov (.t 0)), none, 0⟩,
  ⟨(some 9), .s (.nilCheck (.t 8)), none, 1⟩,
  ⟨(some 10), .s (.fieldAddr 0 (.t 9)), none, 3⟩,
  ⟨(some 11), .s (.load none (.t 10)), none, 7⟩,
  ⟨(some 12), .s (.mov (.t 1)), none, 0⟩,
  ⟨none, .h (.delete .str (.t 11) (.t 12)), none, 31⟩]
def v48_3 : List COper := [
  ⟨(some 13), .s (.mov (.t 0)), none, 0⟩,
  ⟨(some 14), .s (.nilCheck (.t 13)), none, 1⟩,
  ⟨(some 15), .s (.fieldAddr 0 (.t 14)), none, 3⟩,
  ⟨(some 16), .s (.load none (.t 15)), none, 7⟩,
  ⟨(some 17), .s (.mov (.t 1)), none, 0⟩,
  ⟨(some 18), .s (.fieldAddr 1 (.t 5)), none, 0⟩,
  ⟨(some 19), .s (.load none (.t 18)), none, 32⟩,
  ⟨none, .h (.mapUpdate .str (.t 16) (.t 17) (.t 19)), none, 127⟩]
def v48_3s : List Step := [
  .small 0 ⟨(some 13), .s (.mov (.t 0)), none, 0⟩,
  .small 1 ⟨(some 14), .s (.nilCheck (.t 13)), none, 1⟩,
  .small 2 ⟨(some 15), .s (.fieldAddr 0 (.t 14)), none, 3⟩,
  .small 3 ⟨(some 16), .s (.load none (.t 15)), none, 7⟩,
  .small 4 ⟨(some 17), .s (.mov (.t 1)), none, 0⟩,
  .small 5 ⟨(some 18), .s (.fieldAddr 1 (.t 5)), none, 0⟩,
  .small 6 ⟨(some 19), .s (.load none (.t 18)), none, 32⟩,
  .big 7 ⟨none, .h (.mapUpdate .str (.t 16) (.t 17) (.t 19)), none, 127⟩]
theorem v48_3h : sched (v48_3.length + 1) (numbered v48_3 0) 0 = some v48_3s := by kernel_rfl
def v48_body : CCode := (.seq (.region v48_0)
  (.seq (.seq (.region v48_1)
  (.cond (.t 7) (.seq (.region v48_2)
  .ret) .skip))
  (.draw v48_3)))
def v48 : VFunc := ⟨20, [], true, v48_body,
  fun _ => [],
  fun _ => []⟩
@[simp] theorem v48_c : v48.body = v48_body := rfl
@[simp] theorem v48_r : v48.results = [] := rfl
@[simp] theorem v48_o : v48.own = true := rfl
def v49_0 : List COper := [
  ⟨(some 2), .s (.mov (.c (.cslice [] 1 0 1))), none, 0⟩]
def v49_1 : List COper := [
  ⟨(some 3), .s (.mov (.t 0)), none, 0⟩,
  ⟨(some 4), .s (.bin .eql .nils (.t 3) (.c .nils)), none, 1⟩]
def v49_2 : List COper := [
  ⟨(some 2), .s (.mov (.c (.cslice [] 1 0 1))), none, 0⟩]
def v49_3 : List COper := [
  ⟨(some 5), .m (.buildSlice 1 0 [(.int .u8 (0))] []), none, 0⟩,
  ⟨(some 6), .s (.mov (.t 0)), none, 0⟩,
  ⟨(some 7), .h (.append 1 1 false (.t 5) (.t 6)), none, 3⟩,
  ⟨(some 2), .s (.mov (.t 7)), none, 7⟩]
def v49_body : CCode := (.seq (.region v49_0)
  (.seq (.seq (.region v49_1)
  (.cond (.t 4) (.seq (.region v49_2)
  .ret) .skip))
  (.seq (.region v49_3)
  .ret)))
def v49 : VFunc := ⟨8, [.t 2], true, v49_body,
  fun _ => [],
  fun _ => []⟩
@[simp] theorem v49_c : v49.body = v49_body := rfl
@[simp] theorem v49_r : v49.results = [.t 2] := rfl
@[simp] theorem v49_o : v49.own = true := rfl
def v50_0 : List COper := [
  ⟨(some 3), .m (.box (.t 1)), none, 0⟩,
  ⟨(some 4), .s (.mov (.c (.cslice [] 1 0 2))), none, 0⟩]
def v50_1 : List COper := [
  ⟨(some 8), .m (.buildSlice 2 0 [(.str []), (.cslice [] 0 0 1)] []), none, 0⟩,
  ⟨(some 5), .s (.mov (.t 8)), none, 1⟩]
def v50_2 : List COper := [
  ⟨(some 9), .s (.mov (.t 0)), none, 0⟩,
  ⟨(some 10), .s (.len 1 (.t 9)), none, 1⟩,
  ⟨(some 11), .s (.mov (.c (.int .i64 (0)))), none, 0⟩]
def v50_3 : List COper := [
  ⟨(some 12), .s (.bin .lss .no (.t 11) (.t 10)), none, 0⟩]
def v50_4 : List COper := [
  ⟨(some 13), .s (.indexAddr 2 (.t 9) (.t 11)), none, 0⟩,
  ⟨(some 14), .s (.load (some 2) (.t 13)), none, 1⟩,
  ⟨(some 7), .m (.alloc [(.str []), (.cslice [] 0 0 1)]), none, 0⟩,
  ⟨none, .h (.store 2 (.t 7) (.t 14)), none, 7⟩]
def v50_5 : List COper := [
  ⟨(some 15), .s (.load (some 2) (.t 3)), none, 0⟩,
  ⟨(some 16), .s (.fieldAddr 0 (.t 7)), none, 0⟩,
  ⟨(some 17), .s (.load none (.t 16)), none, 2⟩,
  ⟨(some 18), .call (.c (.func 102 [] [])) [(.t 15), (.t 17)], none, 7⟩,
  ⟨(some 19), .s (.un .not (.t 18)), none, 15⟩]
def v50_6 : List COper := [
  ⟨(some 20), .s (.mov (.t 5)), none, 0⟩,
  ⟨(some 21), .s (.load (some 2) (.t 7)), none, 0⟩,
  ⟨(some 22), .m (.buildSlice 2 1 [(.str []), (.cslice [] 0 0 1)] [(0, 2, (.t 21))]), none, 2⟩,
  ⟨(some 23), .h (.append 2 40 false (.t 20) (.t 22)), none, 7⟩,
  ⟨(some 5), .s (.mov (.t 23)), none, 15⟩]
def v50_7 : List COper := [
  ⟨(some 24), .s (.bin .add .no (.t 11) (.c (.int .i64 (1)))), none, 0⟩,
  ⟨(some 11), .s (.mov (.t 24)), none, 1⟩]
def v50_b8 : CCode := (.seq (.region v50_3)
  (.seq (.cond (.t 12) .skip (.exit 0))
  (.seq (.block 1 (.seq (.region v50_4)
  (.seq (.region v50_5)
  (.cond (.t 19) (.region v50_6) .skip))))
  (.region v50_7))))
theorem v50_b8e : v50_b8 = (.seq (.region v50_3)
  (.seq (.cond (.t 12) .skip (.exit 0))
  (.seq (.block 1 (.seq (.region v50_4)
  (.seq (.region v50_5)
  (.cond (.t 19) (.region v50_6) .skip))))
  (.region v50_7)))) := rfl
def v50_9 : List COper := [
  ⟨(some 25), .s (.mov (.t 5)), none, 0⟩,
  ⟨(some 4), .s (.mov (.t 25)), none, 1⟩]
def v50_body : CCode := (.seq (.region v50_0)
  (.seq (.region v50_1)
  (.seq (.seq (.region v50_2)
  (.block 0 (.loop v50_b8)))
  (.seq (.region v50_9)
  .ret))))
def v50 : VFunc := ⟨26, [.t 4], true, v50_body,
  fun i => match i with | 0 => [11, 5, 3, 9, 10] | _ => [],
  fun i => match i with | 0 => [5] | 1 => [5, 3, 9, 10, 11] | _ => []⟩
@[simp] theorem v50_c : v50.body = v50_body := rfl
@[simp] theorem v50_r : v50.results = [.t 4] := rfl
@[simp] theorem v50_o : v50.own = true := rfl
@[simp] theorem v50_h0 : v50.head 0 = [11, 5, 3, 9, 10] := rfl
@[simp] theorem v50_t0 : v50.tail 0 = [5] := rfl
@[simp] theorem v50_t1 : v50.tail 1 = [5, 3, 9, 10, 11] := rfl
def v51_0 : List COper := [
  ⟨(some 4), .s (.mov (.c (.bool false))), none, 0⟩]
def v51_1 : List COper := [
  ⟨(some 7), .s (.mov (.t 0)), none, 0⟩,
  ⟨(some 8), .s (.len 1 (.t 7)), none, 1⟩,
  ⟨(some 9), .s (.mov (.c (.int .i64 (0)))), none, 0⟩]
def v51_2 : List COper := [
  ⟨(some 10), .s (.bin .lss .no (.t 9) (.t 8)), none, 0⟩]
def v51_3 : List COper := [
  ⟨(some 11), .s (.indexAddr 2 (.t 7) (.t 9)), none, 0⟩,
  ⟨(some 12), .s (.load (some 2) (.t 11)), none, 1⟩,
  ⟨(some 6), .m (.alloc [(.str []), (.str [])]), none, 0⟩,
  ⟨none, .h (.store 2 (.t 6) (.t 12)), none, 7⟩]
def v51_4 : List COper := [
  ⟨(some 13), .s (.load (some 2) (.t 6)), none, 0⟩,
  ⟨(some 14), .s (.mov (.t 1)), none, 0⟩,
  ⟨(some 15), .call (.c (.func 102 [] [])) [(.t 13), (.t 14)], none, 3⟩]
def v51_5 : List COper := [
  ⟨(some 4), .s (.mov (.c (.bool true))), none, 0⟩]
def v51_6 : List COper := [
  ⟨(some 16), .s (.bin .add .no (.t 9) (.c (.int .i64 (1)))), none, 0⟩,
  ⟨(some 9), .s (.mov (.t 16)), none, 1⟩]
def v51_b7 : CCode := (.seq (.region v51_2)
  (.seq (.cond (.t 10) .skip (.exit 0))
  (.seq (.block 1 (.seq (.region v51_3)
  (.seq (.region v51_4)
  (.cond (.t 15) (.seq (.region v51_5)
  .ret) .skip))))
  (.region v51_6))))
theorem v51_b7e : v51_b7 = (.seq (.region v51_2)
  (.seq (.cond (.t 10) .skip (.exit 0))
  (.seq (.block 1 (.seq (.region v51_3)
  (.seq (.region v51_4)
  (.cond (.t 15) (.seq (.region v51_5)
  .ret) .skip))))
  (.region v51_6)))) := rfl
def v51_8 : List COper := [
  ⟨(some 4), .s (.mov (.c (.bool false))), none, 0⟩]
def v51_body : CCode := (.seq (.region v51_0)
  (.seq (.seq (.region v51_1)
  (.block 0 (.loop v51_b7)))
  (.seq (.region v51_8)
  .ret)))
def v51 : VFunc := ⟨17, [.t 4], true, v51_body,
  fun i => match i with | 0 => [9, 1, 7, 8] | _ => [],
  fun i => match i with | 0 => [] | 1 => [1, 7, 8, 9] | _ => []⟩
@[simp] theorem v51_c : v51.body = v51_body := rfl
@[simp] theorem v51_r : v51.results = [.t 4] := rfl
@[simp] theorem v51_o : v51.own = true := rfl
@[simp] theorem v51_h0 : v51.head 0 = [9, 1, 7, 8] := rfl
@[simp] theorem v51_t0 : v51.tail 0 = [] := rfl
@[simp] theorem v51_t1 : v51.tail 1 = [1, 7, 8, 9] := rfl
def v53_0 : List COper := [
  ⟨(some 1), .m (.box (.t 0)), none, 0⟩,
  ⟨(some 2), .s (.mov (.c (.bool false))), none, 0⟩]
def v53_1 : List COper := [
  ⟨(some 3), .s (.fieldAddr 1 (.t 1)), none, 0⟩,
  ⟨(some 4), .s (.load none (.t 3)), none, 1⟩,
  ⟨(some 5), .s (.bin .eql .str (.t 4) (.c (.str []))), none, 3⟩,
  ⟨(some 6), .s (.mov (.t 5)), none, 7⟩,
  ⟨(some 7), .s (.fieldAddr 0 (.t 1)), some (6, false), 15⟩,
  ⟨(some 8), .s (.load none (.t 7)), some (6, false), 31⟩,
  ⟨(some 9), .s (.fieldAddr 1 (.t 1)), some (6, false), 15⟩,
  ⟨(some 10), .s (.load none (.t 9)), some (6, false), 79⟩,
  ⟨(some 11), .s (.bin .lss .no (.t 8) (.t 10)), some (6, false), 255⟩,
  ⟨(some 12), .s (.pick (.t 6) (.c (.bool true)) (.t 11)), none, 511⟩,
  ⟨(some 2), .s (.mov (.t 12)), none, 1023⟩]
def v53_body : CCode := (.seq (.region v53_0)
  (.seq (.region v53_1)
  .ret))
def v53 : VFunc := ⟨13, [.t 2], true, v53_body,
  fun _ => [],
  fun _ => []⟩
@[simp] theorem v53_c : v53.body = v53_body := rfl
@[simp] theorem v53_r : v53.results = [.t 2] := rfl
@[simp] theorem v53_o : v53.own = true := rfl
def v55_0 : List COper := [
  ⟨(some 3), .m (.box (.t 1)), none, 0⟩,
  ⟨(some 4), .s (.mov (.c (.cslice [] 1 0 2))), none, 0⟩]
def v55_1 : List COper := [
  ⟨(some 8), .m (.buildSlice 2 0 [(.str []), (.cslice [] 0 0 1)] []), none, 0⟩,
  ⟨(some 5), .s (.mov (.t 8)), none, 1⟩]
def v55_2 : List COper := [
  ⟨(some 9), .s (.mov (.t 0)), none, 0⟩,
  ⟨(some 10), .s (.len 1 (.t 9)), none, 1⟩,
  ⟨(some 11), .s (.mov (.c (.int .i64 (0)))), none, 0⟩]
def v55_3 : List COper := [
  ⟨(some 12), .s (.bin .lss .no (.t 11) (.t 10)), none, 0⟩]
def v55_4 : List COper := [
  ⟨(some 13), .s (.indexAddr 2 (.t 9) (.t 11)), none, 0⟩,
  ⟨(some 14), .s (.load (some 2) (.t 13)), none, 1⟩,
  ⟨(some 7), .m (.alloc [(.str []), (.cslice [] 0 0 1)]), none, 0⟩,
  ⟨none, .h (.store 2 (.t 7) (.t 14)), none, 7⟩]
def v55_5 : List COper := [
  ⟨(some 15), .s (.load (some 2) (.t 3)), none, 0⟩,
  ⟨(some 16), .s (.fieldAddr 0 (.t 7)), none, 0⟩,
  ⟨(some 17), .s (.load none (.t 16)), none, 2⟩,
  ⟨(some 18), .call (.c (.func 102 [] [])) [(.t 15), (.t 17)], none, 7⟩]
def v55_6 : List COper := [
  ⟨(some 19), .s (.mov (.t 5)), none, 0⟩,
  ⟨(some 20), .s (.load (some 2) (.t 7)), none, 0⟩,
  ⟨(some 21), .m (.buildSlice 2 1 [(.str []), (.cslice [] 0 0 1)] [(0, 2, (.t 20))]), none, 2⟩,
  ⟨(some 22), .h (.append 2 40 false (.t 19) (.t 21)), none, 7⟩,
  ⟨(some 5), .s (.mov (.t 22)), none, 15⟩]
def v55_7 : List COper := [
  ⟨(some 23), .s (.bin .add .no (.t 11) (.c (.int .i64 (1)))), none, 0⟩,
  ⟨(some 11), .s (.mov (.t 23)), none, 1⟩]
def v55_b8 : CCode := (.seq (.region v55_3)
  (.seq (.cond (.t 12) .skip (.exit 0))
  (.seq (.block 1 (.seq (.region v55_4)
  (.seq (.region v55_5)
  (.cond (.t 18) (.region v55_6) .skip))))
  (.region v55_7))))
theorem v55_b8e : v55_b8 = (.seq (.region v55_3)
  (.seq (.cond (.t 12) .skip (.exit 0))
  (.seq (.block 1 (.seq (.region v55_4)
  (.seq (.region v55_5)
  (.cond (.t 18) (.region v55_6) .skip))))
  (.region v55_7)))) := rfl
def v55_9 : List COper := [
  ⟨(some 24), .s (.mov (.t 5)), none, 0⟩,
  ⟨(some 4), .s (.mov (.t 24)), none, 1⟩]
def v55_body : CCode := (.seq (.region v55_0)
  (.seq (.region v55_1)
  (.seq (.seq (.region v55_2)
  (.block 0 (.loop v55_b8)))
  (.seq (.region v55_9)
  .ret))))
def v55 : VFunc := ⟨25, [.t 4], true, v55_body,
  fun i => match i with | 0 => [11, 5, 3, 9, 10] | _ => [],
  fun i => match i with | 0 => [5] | 1 => [5, 3, 9, 10, 11] | _ => []⟩
@[simp] theorem v55_c : v55.body = v55_body := rfl
@[simp] theorem v55_r : v55.results = [.t 4] := rfl
@[simp] theorem v55_o : v55.own = true := rfl
@[simp] theorem v55_h0 : v55.head 0 = [11, 5, 3, 9, 10] := rfl
@[simp] theorem v55_t0 : v55.tail 0 = [5] := rfl
@[simp] theorem v55_t1 : v55.tail 1 = [5, 3, 9, 10, 11] := rfl
def v58_0 : List COper := [
  ⟨(some 2), .m (.box (.t 0)), none, 0⟩,
  ⟨(some 4), .s (.mov (.c (.bool false))), none, 0⟩]
def v58_1 : List COper := [
  ⟨(some 5), .s (.fieldAddr 0 (.t 2)), none, 0⟩,
  ⟨(some 6), .s (.load none (.t 5)), none, 1⟩,
  ⟨(some 7), .s (.mov (.t 1)), none, 0⟩,
  ⟨(some 8), .s (.bin .leq .no (.t 6) (.t 7)), none, 7⟩,
  ⟨(some 9), .s (.mov (.t 8)), none, 15⟩,
  ⟨(some 10), .s (.fieldAddr 1 (.t 2)), some (9, true), 31⟩,
  ⟨(some 11), .s (.load none (.t 10)), some (9, true), 63⟩,
  ⟨(some 12), .s (.bin .eql .str (.t 11) (.c (.str []))), some (9, true), 127⟩,
  ⟨(some 13), .s (.mov (.t 12)), some (9, true), 255⟩,
  ⟨(some 14), .s (.mov (.t 1)), some (13, false), 511⟩,
  ⟨(some 15), .s (.fieldAddr 1 (.t 2)), some (13, false), 511⟩,
  ⟨(some 16), .s (.load none (.t 15)), some (13, false), 1535⟩,
  ⟨(some 17), .s (.bin .lss .no (.t 14) (.t 16)), some (13, false), 4095⟩,
  ⟨(some 18), .s (.pick (.t 13) (.c (.bool true)) (.t 17)), some (9, true), 8191⟩,
  ⟨(some 19), .s (.pick (.t 9) (.t 18) (.c (.bool false))), none, 16383⟩,
  ⟨(some 4), .s (.mov (.t 19)), none, 32767⟩]
def v58_body : CCode := (.seq (.region v58_0)
  (.seq (.region v58_1)
  .ret))
def v58 : VFunc := ⟨20, [.t 4], true, v58_body,
  fun _ => [],
  fun _ => []⟩
@[simp] theorem v58_c : v58.body = v58_body := rfl
@[simp] theorem v58_r : v58.results = [.t 4] := rfl
@[simp] theorem v58_o : v58.own = true := rfl
def v59_0 : List COper := [
  ⟨(some 3), .m (.box (.t 1)), none, 0⟩,
  ⟨(some 4), .s (.mov (.c (.bool false))), none, 0⟩]
def v59_1 : List COper := [
  ⟨(some 5), .s (.mov (.t 0)), none, 0⟩,
  ⟨(some 6), .s (.mkFunc 104 [] [(.t 3)]), none, 0⟩,
  ⟨(some 7), .call (.c (.func 103 [] [])) [(.t 5), (.t 6)], none, 3⟩,
  ⟨(some 4), .s (.mov (.t 7)), none, 7⟩]
def v59_body : CCode := (.seq (.region v59_0)
  (.seq (.region v59_1)
  .ret))
def v59 : VFunc := ⟨8, [.t 4], true, v59_body,
  fun _ => [],
  fun _ => []⟩
@[simp] theorem v59_c : v59.body = v59_body := rfl
@[simp] theorem v59_r : v59.results = [.t 4] := rfl
@[simp] theorem v59_o : v59.own = true := rfl
def v60_0 : List COper := [
  ⟨(some 4), .s (.mov (.c .nili)), none, 0⟩]
def v60_1 : List COper := [
  ⟨(some 5), .s (.mov (.t 0)), none, 0⟩,
  ⟨(some 6), .s (.mov (.t 1)), none, 0⟩,
  ⟨(some 7), .s (.build [(.str []), (.str [])] [(0, 1, (.t 5)), (1, 1, (.t 6))]), none, 3⟩,
  ⟨(some 8), .s (.mkIface 45 (.t 7)), none, 7⟩,
  ⟨(some 4), .s (.mov (.t 8)), none, 15⟩]
def v60_body : CCode := (.seq (.region v60_0)
  (.seq (.region v60_1)
  .ret))
def v60 : VFunc := ⟨9, [.t 4], true, v60_body,
  fun _ => [],
  fun _ => []⟩
@[simp] theorem v60_c : v60.body = v60_body := rfl
@[simp] theorem v60_r : v60.results = [.t 4] := rfl
@[simp] theorem v60_o : v60.own = true := rfl
def v101_0 : List COper := [
  ⟨(some 2), .s (.mov (.c (.cslice [] 1 0 1))), none, 0⟩]
def v101_1 : List COper := [
  ⟨(some 3), .s (.mov (.c (.cslice [] 1 0 1))), none, 0⟩]
def v101_2 : List COper := [
  ⟨(some 5), .s (.mov (.t 0)), none, 0⟩,
  ⟨(some 6), .s (.bin .neq .nilp (.t 5) (.c .nilp)), none, 1⟩]
def v101_3 : List COper := [
  ⟨(some 7), .s (.mov (.t 0)), none, 0⟩,
  ⟨(some 8), .s (.nilCheck (.t 7)), none, 1⟩,
  ⟨(some 9), .s (.fieldAddr 0 (.t 8)), none, 3⟩,
  ⟨(some 10), .s (.load none (.t 9)), none, 7⟩,
  ⟨(some 11), .h (.range (.t 10)), none, 15⟩]
def v101_4 : List COper := [
  ⟨(some 12), .next (.t 11), none, 0⟩,
  ⟨(some 13), .s (.extract 0 (.t 12)), none, 1⟩]
def v101_5 : List COper := [
  ⟨(some 14), .s (.entry (.t 11)), none, 0⟩,
  ⟨(some 15), .s (.extract 0 (.t 14)), none, 1⟩,
  ⟨(some 4), .s (.mov (.t 15)), none, 3⟩]
def v101_6 : List COper := [
  ⟨(some 16), .s (.mov (.t 3)), none, 0⟩,
  ⟨(some 17), .s (.mov (.t 4)), none, 0⟩,
  ⟨(some 18), .m (.buildSlice 1 1 [(.str [])] [(0, 1, (.t 17))]), none, 2⟩,
  ⟨(some 19), .h (.append 1 16 false (.t 16) (.t 18)), none, 7⟩,
  ⟨(some 3), .s (.mov (.t 19)), none, 15⟩]
def v101_b7 : CCode := (.seq (.region v101_4)
  (.seq (.cond (.t 13) .skip (.exit 0))
  (.block 1 (.seq (.region v101_5)
  (.region v101_6)))))
theorem v101_b7e : v101_b7 = (.seq (.region v101_4)
  (.seq (.cond (.t 13) .skip (.exit 0))
  (.block 1 (.seq (.region v101_5)
  (.region v101_6))))) := rfl
def v101_8 : List COper := [
  ⟨(some 20), .s (.mov (.t 3)), none, 0⟩,
  ⟨(some 21), .call (.c (.func 90 [] [])) [(.t 20)], none, 1⟩]
def v101_9 : List COper := [
  ⟨(some 22), .s (.mov (.t 3)), none, 0⟩,
  ⟨(some 2), .s (.mov (.t 22)), none, 1⟩]
def v101_body : CCode := (.seq (.region v101_0)
  (.seq (.region v101_1)
  (.seq (.seq (.region v101_2)
  (.cond (.t 6) (.seq (.region v101_3)
  (.block 0 (.loop v101_b7))) .skip))
  (.seq (.region v101_8)
  (.seq (.region v101_9)
  .ret)))))
def v101 : VFunc := ⟨23, [.t 2], true, v101_body,
  fun i => match i with | 0 => [3, 11] | _ => [],
  fun i => match i with | 0 => [3] | 1 => [3, 11] | _ => []⟩
@[simp] theorem v101_c : v101.body = v101_body := rfl
@[simp] theorem v101_r : v101.results = [.t 2] := rfl
@[simp] theorem v101_o : v101.own = true := rfl
@[simp] theorem v101_h0 : v101.head 0 = [3, 11] := rfl
@[simp] theorem v101_t0 : v101.tail 0 = [3] := rfl
@[simp] theorem v101_t1 : v101.tail 1 = [3, 11] := rfl
def v102_0 : List COper := [
  ⟨(some 2), .m (.box (.t 0)), none, 0⟩,
  ⟨(some 4), .s (.mov (.c (.bool false))), none, 0⟩]
def v102_1 : List COper := [
  ⟨(some 5), .s (.mov (.t 1)), none, 0⟩,
  ⟨(some 6), .s (.fieldAddr 0 (.t 2)), none, 0⟩,
  ⟨(some 7), .s (.load none (.t 6)), none, 2⟩,
  ⟨(some 8), .s (.bin .geq .no (.t 5) (.t 7)), none, 7⟩,
  ⟨(some 9), .s (.mov (.t 8)), none, 15⟩,
  ⟨(some 10), .s (.fieldAddr 1 (.t 2)), some (9, true), 31⟩,
  ⟨(some 11), .s (.load none (.t 10)), some (9, true), 63⟩,
  ⟨(some 12), .s (.bin .eql .str (.t 11) (.c (.str []))), some (9, true), 127⟩,
  ⟨(some 13), .s (.mov (.t 12)), some (9, true), 255⟩,
  ⟨(some 14), .s (.mov (.t 1)), some (13, false), 511⟩,
  ⟨(some 15), .s (.fieldAddr 1 (.t 2)), some (13, false), 511⟩,
  ⟨(some 16), .s (.load none (.t 15)), some (13, false), 1535⟩,
  ⟨(some 17), .s (.bin .lss .no (.t 14) (.t 16)), some (13, false), 4095⟩,
  ⟨(some 18), .s (.pick (.t 13) (.c (.bool true)) (.t 17)), some (9, true), 8191⟩,
  ⟨(some 19), .s (.pick (.t 9) (.t 18) (.c (.bool false))), none, 16383⟩,
  ⟨(some 4), .s (.mov (.t 19)), none, 32767⟩]
def v102_body : CCode := (.seq (.region v102_0)
  (.seq (.region v102_1)
  .ret))
def v102 : VFunc := ⟨20, [.t 4], true, v102_body,
  fun _ => [],
  fun _ => []⟩
@[simp] theorem v102_c : v102.body = v102_body := rfl
@[simp] theorem v102_r : v102.results = [.t 4] := rfl
@[simp] theorem v102_o : v102.own = true := rfl
def v103_0 : List COper := [
  ⟨(some 4), .s (.mov (.c (.bool false))), none, 0⟩]
def v103_1 : List COper := [
  ⟨(some 5), .s (.mov (.t 0)), none, 0⟩,
  ⟨(some 6), .s (.mov (.t 1)), none, 0⟩,
  ⟨(some 7), .call (.c (.func 165 [] [])) [(.t 5), (.t 6)], none, 3⟩,
  ⟨(some 8), .s (.bin .geq .no (.t 7) (.c (.int .i64 (0)))), none, 7⟩,
  ⟨(some 4), .s (.mov (.t 8)), none, 15⟩]
def v103_body : CCode := (.seq (.region v103_0)
  (.seq (.region v103_1)
  .ret))
def v103 : VFunc := ⟨9, [.t 4], true, v103_body,
  fun _ => [],
  fun _ => []⟩
@[simp] theorem v103_c : v103.body = v103_body := rfl
@[simp] theorem v103_r : v103.results = [.t 4] := rfl
@[simp] theorem v103_o : v103.own = true := rfl
def v104_0 : List COper := [
  ⟨(some 2), .m (.box (.t 0)), none, 0⟩,
  ⟨(some 3), .s (.mov (.c (.bool false))), none, 0⟩]
def v104_1 : List COper := [
  ⟨(some 4), .s (.load (some 2) (.t 2)), none, 0⟩,
  ⟨(some 5), .s (.load none (.t 1)), none, 0⟩,
  ⟨(some 6), .call (.c (.func 58 [] [])) [(.t 4), (.t 5)], none, 3⟩,
  ⟨(some 3), .s (.mov (.t 6)), none, 7⟩]
def v104_body : CCode := (.seq (.region v104_0)
  (.seq (.region v104_1)
  .ret))
def v104 : VFunc := ⟨7, [.t 3], true, v104_body,
  fun _ => [],
  fun _ => []⟩
@[simp] theorem v104_c : v104.body = v104_body := rfl
@[simp] theorem v104_r : v104.results = [.t 3] := rfl
@[simp] theorem v104_o : v104.own = true := rfl
def v165_0 : List COper := [
  ⟨(some 4), .s (.mov (.c (.int .i64 (0)))), none, 0⟩]
def v165_1 : List COper := [
  ⟨(some 6), .s (.mov (.t 0)), none, 0⟩,
  ⟨(some 7), .s (.len 1 (.t 6)), none, 1⟩,
  ⟨(some 8), .s (.mov (.c (.int .i64 (0)))), none, 0⟩]
def v165_2 : List COper := [
  ⟨(some 9), .s (.bin .lss .no (.t 8) (.t 7)), none, 0⟩]
def v165_3 : List COper := [
  ⟨(some 10), .s (.mov (.t 8)), none, 0⟩,
  ⟨(some 5), .s (.mov (.t 10)), none, 1⟩]
def v165_4 : List COper := [
  ⟨(some 11), .s (.mov (.t 1)), none, 0⟩,
  ⟨(some 12), .s (.mov (.t 0)), none, 0⟩,
  ⟨(some 13), .s (.mov (.t 5)), none, 0⟩,
  ⟨(some 14), .s (.indexAddr 2 (.t 12) (.t 13)), none, 6⟩,
  ⟨(some 15), .s (.load (some 2) (.t 14)), none, 14⟩,
  ⟨(some 16), .call (.t 11) [(.t 15)], none, 31⟩]
def v165_5 : List COper := [
  ⟨(some 17), .s (.mov (.t 5)), none, 0⟩,
  ⟨(some 4), .s (.mov (.t 17)), none, 1⟩]
def v165_6 : List COper := [
  ⟨(some 18), .s (.bin .add .no (.t 8) (.c (.int .i64 (1)))), none, 0⟩,
  ⟨(some 8), .s (.mov (.t 18)), none, 1⟩]
def v165_b7 : CCode := (.seq (.region v165_2)
  (.seq (.cond (.t 9) .skip (.exit 0))
  (.seq (.block 1 (.seq (.region v165_3)
  (.seq (.region v165_4)
  (.cond (.t 16) (.seq (.region v165_5)
  .ret) .skip))))
  (.region v165_6))))
theorem v165_b7e : v165_b7 = (.seq (.region v165_2)
  (.seq (.cond (.t 9) .skip (.exit 0))
  (.seq (.block 1 (.seq (.region v165_3)
  (.seq (.region v165_4)
  (.cond (.t 16) (.seq (.region v165_5)
  .ret) .skip))))
  (.region v165_6)))) := rfl
def v165_8 : List COper := [
  ⟨(some 4), .s (.mov (.c (.int .i64 (-1)))), none, 0⟩]
def v165_body : CCode := (.seq (.region v165_0)
  (.seq (.seq (.region v165_1)
  (.block 0 (.loop v165_b7)))
  (.seq (.region v165_8)
  .ret)))
def v165 : VFunc := ⟨19, [.t 4], true, v165_body,
  fun i => match i with | 0 => [8, 0, 1, 7] | _ => [],
  fun i => match i with | 0 => [] | 1 => [0, 1, 7, 8] | _ => []⟩
@[simp] theorem v165_c : v165.body = v165_body := rfl
@[simp] theorem v165_r : v165.results = [.t 4] := rfl
@[simp] theorem v165_o : v165.own = true := rfl
@[simp] theorem v165_h0 : v165.head 0 = [8, 0, 1, 7] := rfl
@[simp] theorem v165_t0 : v165.tail 0 = [] := rfl
@[simp] theorem v165_t1 : v165.tail 1 = [0, 1, 7, 8] := rfl
def v64_0 : List COper := [
  ⟨(some 3), .m (.box (.t 1)), none, 0⟩,
  ⟨(some 4), .s (.mov (.c (.cslice [] 1 0 1))), none, 0⟩,
  ⟨(some 5), .s (.mov (.c (.bool false))), none, 2⟩,
  ⟨(some 6), .s (.mov (.c .nili)), none, 6⟩]
def v64_1 : List COper := [
  ⟨(some 14), .s (.mov (.t 0)), none, 0⟩,
  ⟨(some 15), .s (.load (some 8) (.t 3)), none, 0⟩,
  ⟨(some 16), .call (.c (.func 105 [] [])) [(.t 14), (.t 15)], none, 3⟩,
  ⟨(some 13), .s (.mov (.t 16)), none, 7⟩,
  ⟨(some 17), .s (.extract 0 (.t 13)), none, 15⟩,
  ⟨(some 18), .s (.extract 1 (.t 13)), none, 15⟩,
  ⟨(some 7), .s (.mov (.t 17)), none, 31⟩,
  ⟨(some 8), .s (.mov (.t 18)), none, 127⟩]
def v64_2 : List COper := [
  ⟨(some 19), .s (.mov (.t 8)), none, 0⟩,
  ⟨(some 20), .s (.bin .neq (.iface false) (.t 19) (.c .nili)), none, 1⟩]
def v64_3 : List COper := [
  ⟨(some 21), .s (.mov (.t 8)), none, 0⟩,
  ⟨(some 4), .s (.mov (.c (.cslice [] 1 0 1))), none, 0⟩,
  ⟨(some 5), .s (.mov (.c (.bool false))), none, 2⟩,
  ⟨(some 6), .s (.mov (.t 21)), none, 7⟩]
def v64_4 : List COper := [
  ⟨(some 23), .s (.mov (.t 0)), none, 0⟩,
  ⟨(some 24), .s (.nilCheck (.t 23)), none, 1⟩,
  ⟨(some 25), .s (.fieldAddr 1 (.t 24)), none, 3⟩,
  ⟨(some 26), .s (.load none (.t 25)), none, 7⟩,
  ⟨(some 27), .s (.mov (.t 7)), none, 0⟩,
  ⟨(some 28), .s (.lookup .str (.agg [(.bool false), (.cslice [] 0 0 1)]) true (.t 26) (.t 27)), none, 31⟩,
  ⟨(some 22), .s (.mov (.t 28)), none, 63⟩,
  ⟨(some 29), .s (.extract 0 (.t 22)), none, 127⟩,
  ⟨(some 30), .s (.extract 1 (.t 22)), none, 127⟩,
  ⟨(some 9), .m (.alloc [(.bool false), (.cslice [] 0 0 1)]), none, 0⟩,
  ⟨none, .h (.store 2 (.t 9) (.t 29)), none, 767⟩,
  ⟨(some 10), .s (.mov (.t 30)), none, 2047⟩]
def v64_5 : List COper := [
  ⟨(some 31), .s (.mov (.t 10)), none, 0⟩]
def v64_6 : List COper := [
  ⟨(some 32), .s (.fieldAddr 1 (.t 9)), none, 0⟩,
  ⟨(some 33), .s (.load none (.t 32)), none, 1⟩,
  ⟨(some 34), .call (.c (.func 49 [] [])) [(.t 33)], none, 3⟩,
  ⟨(some 35), .s (.fieldAddr 0 (.t 9)), none, 0⟩,
  ⟨(some 36), .s (.load none (.t 35)), none, 8⟩,
  ⟨(some 37), .s (.un .not (.t 36)), none, 24⟩,
  ⟨(some 4), .s (.mov (.t 34)), none, 7⟩,
  ⟨(some 5), .s (.mov (.t 37)), none, 127⟩,
  ⟨(some 6), .s (.mov (.c .nili)), none, 255⟩]
def v64_7 : List COper := [
  ⟨(some 39), .s (.mov (.t 0)), none, 0⟩,
  ⟨(some 40), .s (.nilCheck (.t 39)), none, 1⟩,
  ⟨(some 41), .s (.fieldAddr 0 (.t 40)), none, 3⟩,
  ⟨(some 42), .s (.load none (.t 41)), none, 7⟩,
  ⟨(some 43), .s (.mov (.t 7)), none, 0⟩,
  ⟨(some 44), .invoke "Get" (.t 42) [(.t 43)], none, 31⟩,
  ⟨(some 38), .s (.mov (.t 44)), none, 63⟩,
  ⟨(some 45), .s (.extract 0 (.t 38)), none, 127⟩,
  ⟨(some 46), .s (.extract 1 (.t 38)), none, 127⟩,
  ⟨(some 47), .s (.extract 2 (.t 38)), none, 127⟩,
  ⟨(some 11), .s (.mov (.t 45)), none, 255⟩,
  ⟨(some 12), .s (.mov (.t 46)), none, 1535⟩,
  ⟨(some 8), .s (.mov (.t 47)), none, 4095⟩]
def v64_8 : List COper := [
  ⟨(some 48), .s (.mov (.t 8)), none, 0⟩,
  ⟨(some 49), .s (.bin .neq (.iface false) (.t 48) (.c .nili)), none, 1⟩]
def v64_9 : List COper := [
  ⟨(some 50), .s (.fieldAddr 0 (.t 3)), none, 0⟩,
  ⟨(some 51), .s (.load none (.t 50)), none, 1⟩,
  ⟨(some 52), .s (.mov (.t 8)), none, 0⟩,
  ⟨(some 53), .call (.c (.func 106 [] [])) [(.t 51), (.t 52)], none, 7⟩,
  ⟨(some 4), .s (.mov (.c (.cslice [] 1 0 1))), none, 15⟩,
  ⟨(some 5), .s (.mov (.c (.bool false))), none, 31⟩,
  ⟨(some 6), .s (.mov (.t 53)), none, 63⟩]
def v64_10 : List COper := [
  ⟨(some 54), .s (.mov (.t 11)), none, 0⟩,
  ⟨(some 55), .s (.mov (.t 12)), none, 0⟩,
  ⟨(some 4), .s (.mov (.t 54)), none, 1⟩,
  ⟨(some 5), .s (.mov (.t 55)), none, 7⟩,
  ⟨(some 6), .s (.mov (.c .nili)), none, 15⟩]
def v64_body : CCode := (.seq (.region v64_0)
  (.seq (.region v64_1)
  (.seq (.seq (.region v64_2)
  (.cond (.t 20) (.seq (.region v64_3)
  .ret) .skip))
  (.seq (.seq (.region v64_4)
  (.seq (.region v64_5)
  (.cond (.t 31) (.seq (.draw v64_6)
  .ret) .skip)))
  (.seq (.region v64_7)
  (.seq (.seq (.region v64_8)
  (.cond (.t 49) (.seq (.region v64_9)
  .ret) .skip))
  (.seq (.region v64_10)
  .ret)))))))
def v64 : VFunc := ⟨56, [.t 4, .t 5, .t 6], true, v64_body,
  fun _ => [],
  fun _ => []⟩
@[simp] theorem v64_c : v64.body = v64_body := rfl
@[simp] theorem v64_r : v64.results = [.t 4, .t 5, .t 6] := rfl
@[simp] theorem v64_o : v64.own = true := rfl
def v98_0 : List COper := [
  ⟨(some 4), .m (.box (.t 1)), none, 0⟩,
  ⟨(some 6), .m (.alloc [(.str []), (.int .u64 (0)), (.int .i64 (0)), (.str []), (.int .u64 (0))]), none, 0⟩,
  ⟨(some 7), .s (.mov (.c (.bool false))), none, 0⟩,
  ⟨(some 8), .s (.mov (.c .nili)), none, 4⟩]
def v98_1 : List COper := [
  ⟨(some 9), .m (.alloc [(.str []), (.int .u64 (0)), (.int .i64 (0)), (.str []), (.int .u64 (0))]), none, 0⟩]
def v98_2 : List COper := [
  ⟨(some 16), .s (.mov (.t 0)), none, 0⟩,
  ⟨(some 17), .s (.load (some 8) (.t 4)), none, 0⟩,
  ⟨(some 18), .call (.c (.func 64 [] [])) [(.t 16), (.t 17)], none, 3⟩,
  ⟨(some 15), .s (.mov (.t 18)), none, 7⟩,
  ⟨(some 19), .s (.extract 0 (.t 15)), none, 15⟩,
  ⟨(some 20), .s (.extract 1 (.t 15)), none, 15⟩,
  ⟨(some 21), .s (.extract 2 (.t 15)), none, 15⟩,
  ⟨(some 10), .s (.mov (.t 19)), none, 31⟩,
  ⟨(some 11), .s (.mov (.t 20)), none, 191⟩,
  ⟨(some 12), .s (.mov (.t 21)), none, 511⟩]
def v98_3 : List COper := [
  ⟨(some 22), .s (.mov (.t 12)), none, 0⟩,
  ⟨(some 23), .s (.bin .neq (.iface false) (.t 22) (.c .nili)), none, 1⟩,
  ⟨(some 24), .s (.mov (.t 23)), none, 3⟩,
  ⟨(some 25), .s (.mov (.t 11)), some (24, false), 7⟩,
  ⟨(some 26), .s (.un .not (.t 25)), some (24, false), 15⟩,
  ⟨(some 27), .s (.pick (.t 24) (.c (.bool true)) (.t 26)), none, 31⟩]
def v98_4 : List COper := [
  ⟨(some 28), .s (.load (some 5) (.t 9)), none, 0⟩,
  ⟨(some 29), .s (.mov (.t 12)), none, 0⟩,
  ⟨none, .h (.store 5 (.t 6) (.t 28)), none, 1⟩,
  ⟨(some 7), .s (.mov (.c (.bool false))), none, 5⟩,
  ⟨(some 8), .s (.mov (.t 29)), none, 15⟩]
def v98_5 : List COper := [
  ⟨(some 31), .s (.mov (.t 2)), none, 0⟩,
  ⟨(some 32), .s (.mov (.t 10)), none, 0⟩,
  ⟨(some 33), .call (.t 31) [(.t 32)], none, 3⟩,
  ⟨(some 30), .s (.mov (.t 33)), none, 7⟩,
  ⟨(some 34), .s (.extract 0 (.t 30)), none, 15⟩,
  ⟨(some 35), .s (.extract 1 (.t 30)), none, 15⟩,
  ⟨(some 13), .m (.alloc [(.str []), (.int .u64 (0)), (.int .i64 (0)), (.str []), (.int .u64 (0))]), none, 0⟩,
  ⟨none, .h (.store 5 (.t 13) (.t 34)), none, 95⟩,
  ⟨(some 14), .s (.mov (.t 35)), none, 255⟩]
def v98_6 : List COper := [
  ⟨(some 36), .s (.mov (.t 14)), none, 0⟩,
  ⟨(some 37), .s (.bin .neq .int (.t 36) (.c (.int .i64 (0)))), none, 1⟩]
def v98_7 : List COper := [
  ⟨(some 38), .s (.load (some 5) (.t 9)), none, 0⟩,
  ⟨(some 39), .s (.fieldAddr 0 (.t 4)), none, 0⟩,
  ⟨(some 40), .s (.load none (.t 39)), none, 2⟩,
  ⟨(some 41), .s (.mov (.t 14)), none, 0⟩,
  ⟨(some 42), .call (.c (.func 107 [] [])) [(.t 41)], none, 8⟩,
  ⟨(some 43), .call (.c (.func 106 [] [])) [(.t 40), (.t 42)], none, 30⟩,
  ⟨none, .h (.store 5 (.t 6) (.t 38)), none, 63⟩,
  ⟨(some 7), .s (.mov (.c (.bool false))), none, 127⟩,
  ⟨(some 8), .s (.mov (.t 43)), none, 255⟩]
def v98_8 : List COper := [
  ⟨(some 44), .s (.load (some 5) (.t 13)), none, 0⟩,
  ⟨none, .h (.store 5 (.t 6) (.t 44)), none, 1⟩,
  ⟨(some 7), .s (.mov (.c (.bool true))), none, 3⟩,
  ⟨(some 8), .s (.mov (.c .nili)), none, 7⟩]
def v98_body : CCode := (.seq (.region v98_0)
  (.seq (.region v98_1)
  (.seq (.region v98_2)
  (.seq (.seq (.region v98_3)
  (.cond (.t 27) (.seq (.region v98_4)
  .ret) .skip))
  (.seq (.region v98_5)
  (.seq (.seq (.region v98_6)
  (.cond (.t 37) (.seq (.draw v98_7)
  .ret) .skip))
  (.seq (.region v98_8)
  .ret)))))))
def v98 : VFunc := ⟨45, [.cell 6 (some 5), .t 7, .t 8], true, v98_body,
  fun _ => [],
  fun _ => []⟩
@[simp] theorem v98_c : v98.body = v98_body := rfl
@[simp] theorem v98_r : v98.results = [.cell 6 (some 5), .t 7, .t 8] := rfl
@[simp] theorem v98_o : v98.own = true := rfl
def v99_0 : List COper := [
  ⟨(some 2), .m (.alloc [(.int .u8 (0)), (.str []), (.str []), (.str []), (.str []), (.int .u64 (0)), (.int .u64 (0)), (.int .u64 (0))]), none, 0⟩]
def v99_1 : List COper := [
  ⟨(some 3), .s (.mov (.t 0)), none, 0⟩,
  ⟨(some 4), .s (.build [(.int .u8 (0)), (.str []), (.str []), (.str []), (.str []), (.int .u64 (0)), (.int .u64 (0)), (.int .u64 (0))] [(0, 1, (.c (.int .u8 (105)))), (4, 1, (.t 3))]), none, 1⟩,
  ⟨none, .h (.store 8 (.t 2) (.t 4)), none, 3⟩]
def v99_body : CCode := (.seq (.region v99_0)
  (.seq (.region v99_1)
  .ret))
def v99 : VFunc := ⟨5, [.cell 2 (some 8)], true, v99_body,
  fun _ => [],
  fun _ => []⟩
@[simp] theorem v99_c : v99.body = v99_body := rfl
@[simp] theorem v99_r : v99.results = [.cell 2 (some 8)] := rfl
@[simp] theorem v99_o : v99.own = true := rfl
def v105_0 : List COper := [
  ⟨(some 3), .m (.box (.t 1)), none, 0⟩,
  ⟨(some 4), .s (.mov (.c (.str []))), none, 0⟩,
  ⟨(some 5), .s (.mov (.c .nili)), none, 2⟩]
def v105_1 : List COper := [
  ⟨(some 8), .s (.mov (.t 0)), none, 0⟩,
  ⟨(some 9), .s (.bin .eql .nilp (.t 8) (.c .nilp)), none, 1⟩,
  ⟨(some 10), .s (.mov (.t 9)), none, 3⟩,
  ⟨(some 11), .s (.mov (.t 0)), some (10, false), 7⟩,
  ⟨(some 12), .s (.nilCheck (.t 11)), some (10, false), 15⟩,
  ⟨(some 13), .s (.fieldAddr 1 (.t 12)), some (10, false), 31⟩,
  ⟨(some 14), .s (.load none (.t 13)), some (10, false), 63⟩,
  ⟨(some 15), .s (.bin .eql .nilm (.t 14) (.c .nilm)), some (10, false), 127⟩,
  ⟨(some 16), .s (.pick (.t 10) (.c (.bool true)) (.t 15)), none, 255⟩]
def v105_2 : List COper := [
  ⟨(some 17), .s (.fieldAddr 0 (.t 3)), none, 0⟩,
  ⟨(some 18), .s (.load none (.t 17)), none, 1⟩,
  ⟨(some 19), .call (.c (.func 107 [] [])) [(.c (.int .i64 (2)))], none, 0⟩,
  ⟨(some 20), .call (.c (.func 106 [] [])) [(.t 18), (.t 19)], none, 7⟩,
  ⟨(some 4), .s (.mov (.c (.str []))), none, 15⟩,
  ⟨(some 5), .s (.mov (.t 20)), none, 31⟩]
def v105_3 : List COper := [
  ⟨(some 22), .s (.load (some 8) (.t 3)), none, 0⟩,
  ⟨(some 23), .call (.c (.func 166 [] [])) [(.t 22)], none, 1⟩,
  ⟨(some 21), .s (.mov (.t 23)), none, 3⟩,
  ⟨(some 24), .s (.extract 0 (.t 21)), none, 7⟩,
  ⟨(some 25), .s (.extract 1 (.t 21)), none, 7⟩,
  ⟨(some 6), .s (.mov (.t 24)), none, 15⟩,
  ⟨(some 7), .s (.mov (.t 25)), none, 63⟩]
def v105_4 : List COper := [
  ⟨(some 26), .s (.mov (.t 6)), none, 0⟩,
  ⟨(some 27), .s (.fieldAddr 0 (.t 3)), none, 0⟩,
  ⟨(some 28), .s (.load none (.t 27)), none, 2⟩,
  ⟨(some 29), .s (.mov (.t 7)), none, 0⟩,
  ⟨(some 30), .call (.c (.func 107 [] [])) [(.t 29)], none, 8⟩,
  ⟨(some 31), .call (.c (.func 106 [] [])) [(.t 28), (.t 30)], none, 30⟩,
  ⟨(some 4), .s (.mov (.t 26)), none, 63⟩,
  ⟨(some 5), .s (.mov (.t 31)), none, 127⟩]
def v105_4s : List Step := [
  .small 0 ⟨(some 26), .s (.mov (.t 6)), none, 0⟩,
  .small 1 ⟨(some 27), .s (.fieldAddr 0 (.t 3)), none, 0⟩,
  .small 2 ⟨(some 28), .s (.load none (.t 27)), none, 2⟩,
  .small 3 ⟨(some 29), .s (.mov (.t 7)), none, 0⟩,
  .big 4 ⟨(some 30), .call (.c (.func 107 [] [])) [(.t 29)], none, 8⟩,
  .big 5 ⟨(some 31), .call (.c (.func 106 [] [])) [(.t 28), (.t 30)], none, 30⟩,
  .small 6 ⟨(some 4), .s (.mov (.t 26)), none, 63⟩,
  .small 7 ⟨(some 5), .s (.mov (.t 31)), none, 127⟩]
theorem v105_4h : sched (v105_4.length + 1) (numbered v105_4 0) 0 = some v105_4s := by kernel_rfl
def v105_body : CCode := (.seq (.region v105_0)
  (.seq (.seq (.region v105_1)
  (.cond (.t 16) (.seq (.draw v105_2)
  .ret) .skip))
  (.seq (.region v105_3)
  (.seq (.draw v105_4)
  .ret))))
def v105 : VFunc := ⟨32, [.t 4, .t 5], true, v105_body,
  fun _ => [],
  fun _ => []⟩
@[simp] theorem v105_c : v105.body = v105_body := rfl
@[simp] theorem v105_r : v105.results = [.t 4, .t 5] := rfl
@[simp] theorem v105_o : v105.own = true := rfl
def v106_0 : List COper := [
  ⟨(some 4), .s (.mov (.c .nili)), none, 0⟩]
def v106_1 : List COper := [
  ⟨(some 5), .s (.mov (.t 0)), none, 0⟩,
  ⟨(some 6), .m (.buildSlice 1 1 [(.int .u8 (0))] [(0, 1, (.t 5))]), none, 1⟩,
  ⟨(some 7), .s (.toStr (.t 6)), none, 3⟩,
  ⟨(some 8), .s (.mov (.t 1)), none, 0⟩,
  ⟨(some 9), .call (.c (.func 167 [] [])) [(.t 7), (.t 8)], none, 15⟩,
  ⟨(some 4), .s (.mov (.t 9)), none, 31⟩]
def v106_body : CCode := (.seq (.region v106_0)
  (.seq (.region v106_1)
  .ret))
def v106 : VFunc := ⟨10, [.t 4], true, v106_body,
  fun _ => [],
  fun _ => []⟩
@[simp] theorem v106_c : v106.body = v106_body := rfl
@[simp] theorem v106_r : v106.results = [.t 4] := rfl
@[simp] theorem v106_o : v106.own = true := rfl
def v107_0 : List COper := [
  ⟨(some 2), .s (.mov (.c .nili)), none, 0⟩]
def v107_1 : List COper := [
  ⟨(some 3), .s (.mov (.t 0)), none, 0⟩,
  ⟨(some 4), .s (.bin .eql .int (.t 3) (.c (.int .i64 (0)))), none, 1⟩]
def v107_2 : List COper := [
  ⟨(some 2), .s (.mov (.c .nili)), none, 0⟩]
def v107_3 : List COper := [
  ⟨(some 5), .s (.mov (.t 0)), none, 0⟩,
  ⟨(some 6), .s (.mkIface 43 (.t 5)), none, 1⟩,
  ⟨(some 2), .s (.mov (.t 6)), none, 3⟩]
def v107_body : CCode := (.seq (.region v107_0)
  (.seq (.seq (.region v107_1)
  (.cond (.t 4) (.seq (.region v107_2)
  .ret) .skip))
  (.seq (.region v107_3)
  .ret)))
def v107 : VFunc := ⟨7, [.t 2], true, v107_body,
  fun _ => [],
  fun _ => []⟩
@[simp] theorem v107_c : v107.body = v107_body := rfl
@[simp] theorem v107_r : v107.results = [.t 2] := rfl
@[simp] theorem v107_o : v107.own = true := rfl
def v166_0 : List COper := [
  ⟨(some 1), .m (.box (.t 0)), none, 0⟩,
  ⟨(some 2), .s (.mov (.c (.str []))), none, 0⟩,
  ⟨(some 3), .s (.mov (.c (.int .i64 (0)))), none, 2⟩]
def v166_1 : List COper := [
  ⟨(some 8), .s (.load (some 8) (.t 1)), none, 0⟩,
  ⟨(some 9), .call (.c (.func 168 [] [])) [(.t 8)], none, 1⟩,
  ⟨(some 7), .s (.mov (.t 9)), none, 3⟩,
  ⟨(some 10), .s (.extract 0 (.t 7)), none, 7⟩,
  ⟨(some 11), .s (.extract 1 (.t 7)), none, 7⟩,
  ⟨(some 12), .s (.extract 2 (.t 7)), none, 7⟩,
  ⟨(some 5), .m (.alloc [(.int .u8 (0)), (.str []), (.str []), (.str []), (.str []), (.int .u64 (0)), (.int .u64 (0)), (.int .u64 (0))]), none, 0⟩,
  ⟨(some 4), .s (.mov (.t 10)), none, 79⟩,
  ⟨none, .h (.store 8 (.t 5) (.t 11)), none, 223⟩,
  ⟨(some 6), .s (.mov (.t 12)), none, 511⟩]
def v166_2 : List COper := [
  ⟨(some 13), .s (.mov (.t 6)), none, 0⟩,
  ⟨(some 14), .s (.bin .neq .int (.t 13) (.c (.int .i64 (0)))), none, 1⟩]
def v166_3 : List COper := [
  ⟨(some 15), .s (.mov (.t 6)), none, 0⟩,
  ⟨(some 2), .s (.mov (.c (.str []))), none, 0⟩,
  ⟨(some 3), .s (.mov (.t 15)), none, 3⟩]
def v166_4 : List COper := [
  ⟨(some 16), .s (.load (some 8) (.t 5)), none, 0⟩,
  ⟨(some 17), .s (.fieldAddr 0 (.t 1)), none, 0⟩,
  ⟨(some 18), .s (.load none (.t 17)), none, 2⟩,
  ⟨(some 19), .s (.build [(.int .u8 (0)), (.str []), (.str []), (.str []), (.str []), (.int .u64 (0)), (.int .u64 (0)), (.int .u64 (0))] [(0, 1, (.t 18))]), none, 6⟩,
  ⟨(some 20), .s (.bin .neq (.flat [(0, .int), (1, .str), (2, .str), (3, .str), (4, .str), (5, .int), (6, .int), (7, .int)]) (.t 16) (.t 19)), none, 15⟩]
def v166_5 : List COper := [
  ⟨(some 2), .s (.mov (.c (.str []))), none, 0⟩,
  ⟨(some 3), .s (.mov (.c (.int .i64 (1)))), none, 1⟩]
def v166_6 : List COper := [
  ⟨(some 21), .s (.fieldAddr 0 (.t 1)), none, 0⟩,
  ⟨(some 22), .s (.load none (.t 21)), none, 1⟩,
  ⟨(some 23), .s (.mov (.t 4)), none, 0⟩,
  ⟨(some 24), .call (.c (.func 227 [] [])) [(.t 22), (.t 23)], none, 7⟩,
  ⟨(some 2), .s (.mov (.t 24)), none, 15⟩,
  ⟨(some 3), .s (.mov (.c (.int .i64 (0)))), none, 31⟩]
def v166_body : CCode := (.seq (.region v166_0)
  (.seq (.region v166_1)
  (.seq (.seq (.region v166_2)
  (.cond (.t 14) (.seq (.region v166_3)
  .ret) .skip))
  (.seq (.seq (.region v166_4)
  (.cond (.t 20) (.seq (.region v166_5)
  .ret) .skip))
  (.seq (.region v166_6)
  .ret)))))
def v166 : VFunc := ⟨25, [.t 2, .t 3], true, v166_body,
  fun _ => [],
  fun _ => []⟩
@[simp] theorem v166_c : v166.body = v166_body := rfl
@[simp] theorem v166_r : v166.results = [.t 2, .t 3] := rfl
@[simp] theorem v166_o : v166.own = true := rfl
def v167_0 : List COper := [
  ⟨(some 4), .s (.mov (.c .nili)), none, 0⟩]
def v167_1 : List COper := [
  ⟨(some 5), .s (.mov (.t 1)), none, 0⟩,
  ⟨(some 6), .s (.bin .eql (.iface false) (.t 5) (.c .nili)), none, 1⟩]
def v167_2 : List COper := [
  ⟨(some 4), .s (.mov (.c .nili)), none, 0⟩]
def v167_3 : List COper := [
  ⟨(some 7), .s (.mov (.t 0)), none, 0⟩,
  ⟨(some 8), .s (.mov (.t 1)), none, 0⟩,
  ⟨(some 9), .s (.build [(.str []), .nili] [(0, 1, (.t 7)), (1, 1, (.t 8))]), none, 3⟩,
  ⟨(some 10), .m (.box (.t 9)), none, 7⟩,
  ⟨(some 11), .s (.mkIface 191 (.t 10)), none, 15⟩,
  ⟨(some 4), .s (.mov (.t 11)), none, 31⟩]
def v167_body : CCode := (.seq (.region v167_0)
  (.seq (.seq (.region v167_1)
  (.cond (.t 6) (.seq (.region v167_2)
  .ret) .skip))
  (.seq (.region v167_3)
  .ret)))
def v167 : VFunc := ⟨12, [.t 4], true, v167_body,
  fun _ => [],
  fun _ => []⟩
@[simp] theorem v167_c : v167.body = v167_body := rfl
@[simp] theorem v167_r : v167.results = [.t 4] := rfl
@[simp] theorem v167_o : v167.own = true := rfl
def v168_0 : List COper := [
  ⟨(some 1), .m (.box (.t 0)), none, 0⟩,
  ⟨(some 2), .s (.mov (.c (.cslice [] 1 0 1))), none, 0⟩,
  ⟨(some 3), .m (.alloc [(.int .u8 (0)), (.str []), (.str []), (.str []), (.str []), (.int .u64 (0)), (.int .u64 (0)), (.int .u64 (0))]), none, 0⟩,
  ⟨(some 4), .s (.mov (.c (.int .i64 (0)))), none, 2⟩]
def v168_1 : List COper := [
  ⟨(some 12), .s (.fieldAddr 0 (.t 1)), none, 0⟩,
  ⟨(some 13), .s (.load none (.t 12)), none, 1⟩,
  ⟨(some 14), .call (.c (.func 171 [] [])) [(.t 13)], none, 3⟩,
  ⟨(some 11), .s (.mov (.t 14)), none, 7⟩,
  ⟨(some 15), .s (.extract 0 (.t 11)), none, 15⟩,
  ⟨(some 16), .s (.extract 1 (.t 11)), none, 15⟩,
  ⟨(some 5), .s (.mov (.t 15)), none, 31⟩,
  ⟨(some 6), .s (.mov (.t 16)), none, 127⟩]
def v168_2 : List COper := [
  ⟨(some 17), .s (.mov (.t 6)), none, 0⟩,
  ⟨(some 18), .s (.un .not (.t 17)), none, 1⟩]
def v168_3 : List COper := [
  ⟨(some 19), .s (.load (some 8) (.t 1)), none, 0⟩,
  ⟨(some 2), .s (.mov (.c (.cslice [] 1 0 1))), none, 0⟩,
  ⟨none, .h (.store 8 (.t 3) (.t 19)), none, 3⟩,
  ⟨(some 4), .s (.mov (.c (.int .i64 (31)))), none, 7⟩]
def v168_4 : List COper := [
  ⟨(some 7), .s (.mov (.c (.cslice [] 1 0 1))), none, 0⟩]
def v168_5 : List COper := [
  ⟨(some 20), .s (.mov (.t 5)), none, 0⟩,
  ⟨(some 21), .s (.len 0 (.t 20)), none, 1⟩,
  ⟨(some 22), .s (.mov (.c (.int .i64 (0)))), none, 0⟩]
def v168_6 : List COper := [
  ⟨(some 23), .s (.bin .lss .no (.t 22) (.t 21)), none, 0⟩]
def v168_7 : List COper := [
  ⟨(some 24), .s (.mov (.t 22)), none, 0⟩,
  ⟨(some 8), .s (.mov (.t 24)), none, 1⟩]
def v168_8 : List COper := [
  ⟨(some 25), .s (.mov (.t 5)), none, 0⟩,
  ⟨(some 26), .s (.mov (.t 8)), none, 0⟩,
  ⟨(some 27), .s (.index (.t 25) (.t 26)), none, 3⟩,
  ⟨(some 28), .call (.c (.func 172 [] [])) [(.t 1), (.t 27)], none, 7⟩,
  ⟨(some 9), .s (.mov (.t 28)), none, 15⟩]
def v168_9 : List COper := [
  ⟨(some 29), .s (.mov (.t 9)), none, 0⟩,
  ⟨(some 30), .s (.bin .neq .nilp (.t 29) (.c .nilp)), none, 1⟩]
def v168_10 : List COper := [
  ⟨(some 31), .s (.mov (.t 7)), none, 0⟩,
  ⟨(some 32), .s (.mov (.t 9)), none, 0⟩,
  ⟨(some 33), .s (.nilCheck (.t 32)), none, 2⟩,
  ⟨(some 34), .s (.load none (.t 33)), none, 6⟩,
  ⟨(some 35), .m (.buildSlice 1 1 [(.str [])] [(0, 1, (.t 34))]), none, 14⟩,
  ⟨(some 36), .h (.append 1 16 false (.t 31) (.t 35)), none, 31⟩,
  ⟨(some 7), .s (.mov (.t 36)), none, 63⟩]
def v168_11 : List COper := [
  ⟨(some 37), .s (.mov (.t 9)), none, 0⟩,
  ⟨(some 38), .s (.nilCheck (.t 37)), none, 1⟩,
  ⟨none, .h (.store 1 (.t 38) (.c (.str []))), none, 3⟩]
def v168_12 : List COper := [
  ⟨(some 39), .s (.mov (.t 5)), none, 0⟩,
  ⟨(some 40), .s (.mov (.t 8)), none, 0⟩,
  ⟨(some 41), .s (.index (.t 39) (.t 40)), none, 3⟩,
  ⟨(some 42), .call (.c (.func 174 [] [])) [(.t 1), (.t 41)], none, 7⟩,
  ⟨(some 10), .s (.mov (.t 42)), none, 15⟩]
def v168_13 : List COper := [
  ⟨(some 43), .s (.mov (.t 7)), none, 0⟩,
  ⟨(some 44), .s (.mov (.t 10)), none, 0⟩,
  ⟨(some 45), .s (.nilCheck (.t 44)), none, 2⟩,
  ⟨(some 46), .s (.load none (.t 45)), none, 6⟩,
  ⟨(some 47), .call (.c (.func 228 [] [])) [(.t 46)], none, 14⟩,
  ⟨(some 48), .m (.buildSlice 1 1 [(.str [])] [(0, 1, (.t 47))]), none, 30⟩,
  ⟨(some 49), .h (.append 1 16 false (.t 43) (.t 48)), none, 63⟩,
  ⟨(some 7), .s (.mov (.t 49)), none, 127⟩]
def v168_14 : List COper := [
  ⟨(some 50), .s (.mov (.t 10)), none, 0⟩,
  ⟨(some 51), .s (.nilCheck (.t 50)), none, 1⟩,
  ⟨none, .h (.store 1 (.t 51) (.c (.int .u64 (0)))), none, 3⟩]
def v168_15 : List COper := [
  ⟨(some 52), .s (.bin .add .no (.t 22) (.c (.int .i64 (1)))), none, 0⟩,
  ⟨(some 22), .s (.mov (.t 52)), none, 1⟩]
def v168_b16 : CCode := (.seq (.region v168_6)
  (.seq (.cond (.t 23) .skip (.exit 0))
  (.seq (.block 1 (.seq (.region v168_7)
  (.seq (.seq (.region v168_8)
  (.seq (.region v168_9)
  (.cond (.t 30) (.seq (.region v168_10)
  (.seq (.region v168_11)
  (.exit 1))) .skip)))
  (.seq (.region v168_12)
  (.seq (.region v168_13)
  (.region v168_14))))))
  (.region v168_15))))
theorem v168_b16e : v168_b16 = (.seq (.region v168_6)
  (.seq (.cond (.t 23) .skip (.exit 0))
  (.seq (.block 1 (.seq (.region v168_7)
  (.seq (.seq (.region v168_8)
  (.seq (.region v168_9)
  (.cond (.t 30) (.seq (.region v168_10)
  (.seq (.region v168_11)
  (.exit 1))) .skip)))
  (.seq (.region v168_12)
  (.seq (.region v168_13)
  (.region v168_14))))))
  (.region v168_15)))) := rfl
def v168_17 : List COper := [
  ⟨(some 53), .s (.mov (.t 7)), none, 0⟩,
  ⟨(some 54), .s (.load (some 8) (.t 1)), none, 0⟩,
  ⟨(some 2), .s (.mov (.t 53)), none, 1⟩,
  ⟨none, .h (.store 8 (.t 3) (.t 54)), none, 7⟩,
  ⟨(some 4), .s (.mov (.c (.int .i64 (0)))), none, 15⟩]
def v168_17s : List Step := [
  .small 0 ⟨(some 53), .s (.mov (.t 7)), none, 0⟩,
  .small 1 ⟨(some 54), .s (.load (some 8) (.t 1)), none, 0⟩,
  .small 2 ⟨(some 2), .s (.mov (.t 53)), none, 1⟩,
  .big 3 ⟨none, .h (.store 8 (.t 3) (.t 54)), none, 7⟩,
  .small 4 ⟨(some 4), .s (.mov (.c (.int .i64 (0)))), none, 15⟩]
theorem v168_17h : sched (v168_17.length + 1) (numbered v168_17 0) 0 = some v168_17s := by kernel_rfl
def v168_body : CCode := (.seq (.region v168_0)
  (.seq (.region v168_1)
  (.seq (.seq (.region v168_2)
  (.cond (.t 18) (.seq (.draw v168_3)
  .ret) .skip))
  (.seq (.region v168_4)
  (.seq (.seq (.region v168_5)
  (.block 0 (.loop v168_b16)))
  (.seq (.draw v168_17)
  .ret))))))
def v168 : VFunc := ⟨55, [.t 2, .cell 3 (some 8), .t 4], true, v168_body,
  fun i => match i with | 0 => [22, 7, 1, 5, 3, 21] | _ => [],
  fun i => match i with | 0 => [3, 7, 1] | 1 => [7, 1, 5, 3, 21, 22] | _ => []⟩
@[simp] theorem v168_c : v168.body = v168_body := rfl
@[simp] theorem v168_r : v168.results = [.t 2, .cell 3 (some 8), .t 4] := rfl
@[simp] theorem v168_o : v168.own = true := rfl
@[simp] theorem v168_h0 : v168.head 0 = [22, 7, 1, 5, 3, 21] := rfl
@[simp] theorem v168_t0 : v168.tail 0 = [3, 7, 1] := rfl
@[simp] theorem v168_t1 : v168.tail 1 = [7, 1, 5, 3, 21, 22] := rfl
def v171_0 : List COper := [
  ⟨(some 2), .s (.mov (.c (.str []))), none, 0⟩,
  ⟨(some 3), .s (.mov (.c (.bool false))), none, 1⟩]
def v171_1 : List COper := [
  ⟨(some 4), .s (.mov (.c (.str []))), none, 0⟩]
def v171_2 : List COper := [
  ⟨(some 5), .s (.mov (.t 0)), none, 0⟩]
def v171_3 : List COper := [
  ⟨(some 7), .s (.bin .eql .int (.t 5) (.c (.int .u8 (109)))), none, 0⟩,
  ⟨(some 6), .s (.mov (.t 7)), none, 1⟩]
def v171_4 : List COper := [
  ⟨(some 9), .s (.bin .eql .int (.t 5) (.c (.int .u8 (115)))), none, 0⟩,
  ⟨(some 8), .s (.mov (.t 9)), none, 1⟩]
def v171_5 : List COper := [
  ⟨(some 11), .s (.bin .eql .int (.t 5) (.c (.int .u8 (122)))), none, 0⟩,
  ⟨(some 10), .s (.mov (.t 11)), none, 1⟩]
def v171_6 : List COper := [
  ⟨(some 13), .s (.bin .eql .int (.t 5) (.c (.int .u8 (97)))), none, 0⟩,
  ⟨(some 12), .s (.mov (.t 13)), none, 1⟩]
def v171_7 : List COper := [
  ⟨(some 15), .s (.bin .eql .int (.t 5) (.c (.int .u8 (107)))), none, 0⟩,
  ⟨(some 14), .s (.mov (.t 15)), none, 1⟩]
def v171_8 : List COper := [
  ⟨(some 17), .s (.bin .eql .int (.t 5) (.c (.int .u8 (116)))), none, 0⟩,
  ⟨(some 16), .s (.mov (.t 17)), none, 1⟩]
def v171_9 : List COper := [
  ⟨(some 19), .s (.bin .eql .int (.t 5) (.c (.int .u8 (105)))), none, 0⟩,
  ⟨(some 18), .s (.mov (.t 19)), none, 1⟩]
def v171_10 : List COper := [
  ⟨(some 21), .s (.bin .eql .int (.t 5) (.c (.int .u8 (118)))), none, 0⟩,
  ⟨(some 20), .s (.mov (.t 21)), none, 1⟩]
def v171_11 : List COper := [
  ⟨(some 23), .s (.bin .eql .int (.t 5) (.c (.int .u8 (98)))), none, 0⟩,
  ⟨(some 22), .s (.mov (.t 23)), none, 1⟩]
def v171_12 : List COper := [
  ⟨(some 25), .s (.bin .eql .int (.t 5) (.c (.int .u8 (101)))), none, 0⟩,
  ⟨(some 24), .s (.mov (.t 25)), none, 1⟩]
def v171_13 : List COper := [
  ⟨(some 27), .s (.bin .eql .int (.t 5) (.c (.int .u8 (100)))), none, 0⟩,
  ⟨(some 26), .s (.mov (.t 27)), none, 1⟩]
def v171_14 : List COper := [
  ⟨(some 29), .s (.bin .eql .int (.t 5) (.c (.int .u8 (99)))), none, 0⟩,
  ⟨(some 28), .s (.mov (.t 29)), none, 1⟩]
def v171_15 : List COper := [
  ⟨(some 4), .s (.mov (.c (.str [110, 107]))), none, 0⟩]
def v171_16 : List COper := [
  ⟨(some 30), .s (.mov (.t 4)), none, 0⟩,
  ⟨(some 31), .s (.bin .eql .str (.t 30) (.c (.str []))), none, 1⟩]
def v171_17 : List COper := [
  ⟨(some 4), .s (.mov (.c (.str [110]))), none, 0⟩]
def v171_18 : List COper := [
  ⟨(some 32), .s (.mov (.t 4)), none, 0⟩,
  ⟨(some 33), .s (.bin .eql .str (.t 32) (.c (.str []))), none, 1⟩]
def v171_19 : List COper := [
  ⟨(some 4), .s (.mov (.c (.str [97]))), none, 0⟩]
def v171_20 : List COper := [
  ⟨(some 34), .s (.mov (.t 4)), none, 0⟩,
  ⟨(some 35), .s (.bin .add .no (.t 34) (.c (.str [105, 116, 111]))), none, 1⟩,
  ⟨(some 2), .s (.mov (.t 35)), none, 3⟩,
  ⟨(some 3), .s (.mov (.c (.bool true))), none, 7⟩]
def v171_21 : List COper := [
  ⟨(some 4), .s (.mov (.c (.str [110]))), none, 0⟩]
def v171_22 : List COper := [
  ⟨(some 36), .s (.mov (.t 4)), none, 0⟩,
  ⟨(some 37), .s (.bin .add .no (.t 36) (.c (.str [105, 116]))), none, 1⟩,
  ⟨(some 2), .s (.mov (.t 37)), none, 3⟩,
  ⟨(some 3), .s (.mov (.c (.bool true))), none, 7⟩]
def v171_23 : List COper := [
  ⟨(some 2), .s (.mov (.c (.str [105]))), none, 0⟩,
  ⟨(some 3), .s (.mov (.c (.bool true))), none, 1⟩]
def v171_24 : List COper := [
  ⟨(some 2), .s (.mov (.c (.str [105, 110]))), none, 0⟩,
  ⟨(some 3), .s (.mov (.c (.bool true))), none, 1⟩]
def v171_25 : List COper := [
  ⟨(some 2), .s (.mov (.c (.str [110, 107, 100]))), none, 0⟩,
  ⟨(some 3), .s (.mov (.c (.bool true))), none, 1⟩]
def v171_26 : List COper := [
  ⟨(some 2), .s (.mov (.c (.str [110, 97]))), none, 0⟩,
  ⟨(some 3), .s (.mov (.c (.bool true))), none, 1⟩]
def v171_27 : List COper := [
  ⟨(some 2), .s (.mov (.c (.str [110]))), none, 0⟩,
  ⟨(some 3), .s (.mov (.c (.bool true))), none, 1⟩]
def v171_28 : List COper := [
  ⟨(some 2), .s (.mov (.c (.str []))), none, 0⟩,
  ⟨(some 3), .s (.mov (.c (.bool true))), none, 1⟩]
def v171_29 : List COper := [
  ⟨(some 2), .s (.mov (.c (.str []))), none, 0⟩,
  ⟨(some 3), .s (.mov (.c (.bool false))), none, 1⟩]
def v171_body : CCode := (.seq (.region v171_0)
  (.seq (.region v171_1)
  (.seq (.seq (.region v171_2)
  (.block 0 (.seq (.block 12 (.seq (.block 11 (.seq (.block 10 (.seq (.block 9 (.seq (.block 8 (.seq (.block 7 (.seq (.block 6 (.seq (.block 5 (.seq (.block 4 (.seq (.block 3 (.seq (.block 2 (.seq (.block 1 (.seq (.seq (.seq (.region v171_3)
  (.cond (.t 6) (.exit 1) .skip))
  (.seq (.seq (.region v171_4)
  (.cond (.t 8) (.exit 2) .skip))
  (.seq (.seq (.region v171_5)
  (.cond (.t 10) (.exit 3) .skip))
  (.seq (.seq (.region v171_6)
  (.cond (.t 12) (.exit 4) .skip))
  (.seq (.seq (.region v171_7)
  (.cond (.t 14) (.exit 5) .skip))
  (.seq (.seq (.region v171_8)
  (.cond (.t 16) (.exit 6) .skip))
  (.seq (.seq (.region v171_9)
  (.cond (.t 18) (.exit 7) .skip))
  (.seq (.seq (.region v171_10)
  (.cond (.t 20) (.exit 8) .skip))
  (.seq (.seq (.region v171_11)
  (.cond (.t 22) (.exit 9) .skip))
  (.seq (.seq (.region v171_12)
  (.cond (.t 24) (.exit 10) .skip))
  (.seq (.seq (.region v171_13)
  (.cond (.t 26) (.exit 11) .skip))
  (.seq (.region v171_14)
  (.cond (.t 28) (.exit 12) .skip)))))))))))))
  (.exit 0)))
  (.region v171_15)))
  (.seq (.region v171_16)
  (.cond (.t 31) (.region v171_17) .skip))))
  (.seq (.region v171_18)
  (.cond (.t 33) (.region v171_19) .skip))))
  (.seq (.seq (.region v171_20)
  .ret)
  (.exit 0))))
  (.region v171_21)))
  (.seq (.seq (.region v171_22)
  .ret)
  (.exit 0))))
  (.seq (.seq (.region v171_23)
  .ret)
  (.exit 0))))
  (.seq (.seq (.region v171_24)
  .ret)
  (.exit 0))))
  (.seq (.seq (.region v171_25)
  .ret)
  (.exit 0))))
  (.seq (.seq (.region v171_26)
  .ret)
  (.exit 0))))
  (.seq (.seq (.region v171_27)
  .ret)
  (.exit 0))))
  (.seq (.seq (.region v171_28)
  .ret)
  (.exit 0)))))
  (.seq (.region v171_29)
  .ret))))
def v171 : VFunc := ⟨38, [.t 2, .t 3], true, v171_body,
  fun _ => [],
  fun i => match i with | 1 => [] | 2 => [4] | 3 => [4] | 4 => [4] | 5 => [] | 6 => [4] | 7 => [] | 8 => [] | 9 => [] | 10 => [] | 11 => [] | 12 => [] | 0 => [] | _ => []⟩
@[simp] theorem v171_c : v171.body = v171_body := rfl
@[simp] theorem v171_r : v171.results = [.t 2, .t 3] := rfl
@[simp] theorem v171_o : v171.own = true := rfl
@[simp] theorem v171_t1 : v171.tail 1 = [] := rfl
@[simp] theorem v171_t2 : v171.tail 2 = [4] := rfl
@[simp] theorem v171_t3 : v171.tail 3 = [4] := rfl
@[simp] theorem v171_t4 : v171.tail 4 = [4] := rfl
@[simp] theorem v171_t5 : v171.tail 5 = [] := rfl
@[simp] theorem v171_t6 : v171.tail 6 = [4] := rfl
@[simp] theorem v171_t7 : v171.tail 7 = [] := rfl
@[simp] theorem v171_t8 : v171.tail 8 = [] := rfl
@[simp] theorem v171_t9 : v171.tail 9 = [] := rfl
@[simp] theorem v171_t10 : v171.tail 10 = [] := rfl
@[simp] theorem v171_t11 : v171.tail 11 = [] := rfl
@[simp] theorem v171_t12 : v171.tail 12 = [] := rfl
@[simp] theorem v171_t0 : v171.tail 0 = [] := rfl
def v172_0 : List COper := [
  ⟨(some 4), .s (.mov (.c .nilp)), none, 0⟩]
def v172_1 : List COper := [
  ⟨(some 5), .s (.mov (.t 1)), none, 0⟩]
def v172_2 : List COper := [
  ⟨(some 7), .s (.bin .eql .int (.t 5) (.c (.int .u8 (110)))), none, 0⟩,
  ⟨(some 6), .s (.mov (.t 7)), none, 1⟩]
def v172_3 : List COper := [
  ⟨(some 8), .s (.mov (.t 0)), none, 0⟩,
  ⟨(some 9), .s (.nilCheck (.t 8)), none, 1⟩,
  ⟨(some 10), .s (.fieldAddr 1 (.t 9)), none, 3⟩,
  ⟨(some 4), .s (.mov (.t 10)), none, 7⟩]
def v172_4 : List COper := [
  ⟨(some 12), .s (.bin .eql .int (.t 5) (.c (.int .u8 (107)))), none, 0⟩,
  ⟨(some 11), .s (.mov (.t 12)), none, 1⟩]
def v172_5 : List COper := [
  ⟨(some 13), .s (.mov (.t 0)), none, 0⟩,
  ⟨(some 14), .s (.nilCheck (.t 13)), none, 1⟩,
  ⟨(some 15), .s (.fieldAddr 2 (.t 14)), none, 3⟩,
  ⟨(some 4), .s (.mov (.t 15)), none, 7⟩]
def v172_6 : List COper := [
  ⟨(some 17), .s (.bin .eql .int (.t 5) (.c (.int .u8 (100)))), none, 0⟩,
  ⟨(some 16), .s (.mov (.t 17)), none, 1⟩]
def v172_7 : List COper := [
  ⟨(some 18), .s (.mov (.t 0)), none, 0⟩,
  ⟨(some 19), .s (.nilCheck (.t 18)), none, 1⟩,
  ⟨(some 20), .s (.fieldAddr 3 (.t 19)), none, 3⟩,
  ⟨(some 4), .s (.mov (.t 20)), none, 7⟩]
def v172_8 : List COper := [
  ⟨(some 22), .s (.bin .eql .int (.t 5) (.c (.int .u8 (105)))), none, 0⟩,
  ⟨(some 21), .s (.mov (.t 22)), none, 1⟩]
def v172_9 : List COper := [
  ⟨(some 23), .s (.mov (.t 0)), none, 0⟩,
  ⟨(some 24), .s (.nilCheck (.t 23)), none, 1⟩,
  ⟨(some 25), .s (.fieldAddr 4 (.t 24)), none, 3⟩,
  ⟨(some 4), .s (.mov (.t 25)), none, 7⟩]
def v172_10 : List COper := [
  ⟨(some 4), .s (.mov (.c .nilp)), none, 0⟩]
def v172_body : CCode := (.seq (.region v172_0)
  (.seq (.seq (.region v172_1)
  (.block 0 (.seq (.region v172_2)
  (.cond (.t 6) (.seq (.region v172_3)
  .ret) (.seq (.region v172_4)
  (.cond (.t 11) (.seq (.region v172_5)
  .ret) (.seq (.region v172_6)
  (.cond (.t 16) (.seq (.region v172_7)
  .ret) (.seq (.region v172_8)
  (.cond (.t 21) (.seq (.region v172_9)
  .ret) .skip))))))))))
  (.seq (.region v172_10)
  .ret)))
def v172 : VFunc := ⟨26, [.t 4], true, v172_body,
  fun _ => [],
  fun i => match i with | 0 => [] | _ => []⟩
@[simp] theorem v172_c : v172.body = v172_body := rfl
@[simp] theorem v172_r : v172.results = [.t 4] := rfl
@[simp] theorem v172_o : v172.own = true := rfl
@[simp] theorem v172_t0 : v172.tail 0 = [] := rfl
def v227_0 : List COper := [
  ⟨(some 4), .s (.mov (.c (.str []))), none, 0⟩]
def v227_1 : List COper := [
  ⟨(some 9), .s (.mov (.t 0)), none, 0⟩,
  ⟨(some 10), .m (.buildSlice 1 1 [(.int .u8 (0))] [(0, 1, (.t 9))]), none, 1⟩,
  ⟨(some 5), .s (.mov (.t 10)), none, 3⟩]
def v227_2 : List COper := [
  ⟨(some 11), .s (.mov (.t 1)), none, 0⟩,
  ⟨(some 12), .s (.len 1 (.t 11)), none, 1⟩,
  ⟨(some 13), .s (.mov (.c (.int .i64 (0)))), none, 0⟩]
def v227_3 : List COper := [
  ⟨(some 14), .s (.bin .lss .no (.t 13) (.t 12)), none, 0⟩]
def v227_4 : List COper := [
  ⟨(some 15), .s (.indexAddr 1 (.t 11) (.t 13)), none, 0⟩,
  ⟨(some 16), .s (.load none (.t 15)), none, 1⟩,
  ⟨(some 7), .s (.mov (.t 16)), none, 3⟩]
def v227_5 : List COper := [
  ⟨(some 17), .s (.mov (.t 7)), none, 0⟩,
  ⟨(some 18), .s (.len 0 (.t 17)), none, 1⟩,
  ⟨(some 19), .s (.mov (.c (.int .i64 (0)))), none, 0⟩]
def v227_6 : List COper := [
  ⟨(some 20), .s (.bin .lss .no (.t 19) (.t 18)), none, 0⟩]
def v227_7 : List COper := [
  ⟨(some 21), .s (.mov (.t 19)), none, 0⟩,
  ⟨(some 8), .s (.mov (.t 21)), none, 1⟩]
def v227_8 : List COper := [
  ⟨(some 22), .s (.mov (.t 5)), none, 0⟩,
  ⟨(some 23), .s (.mov (.t 7)), none, 0⟩,
  ⟨(some 24), .s (.mov (.t 8)), none, 0⟩,
  ⟨(some 25), .s (.index (.t 23) (.t 24)), none, 6⟩,
  ⟨(some 26), .m (.buildSlice 1 1 [(.int .u8 (0))] [(0, 1, (.t 25))]), none, 14⟩,
  ⟨(some 27), .h (.append 1 1 false (.t 22) (.t 26)), none, 31⟩,
  ⟨(some 5), .s (.mov (.t 27)), none, 63⟩]
def v227_9 : List COper := [
  ⟨(some 28), .s (.mov (.t 7)), none, 0⟩,
  ⟨(some 29), .s (.mov (.t 8)), none, 0⟩,
  ⟨(some 30), .s (.index (.t 28) (.t 29)), none, 3⟩,
  ⟨(some 31), .s (.bin .eql .int (.t 30) (.c (.int .u8 (0)))), none, 7⟩]
def v227_10 : List COper := [
  ⟨(some 32), .s (.mov (.t 5)), none, 0⟩,
  ⟨(some 33), .m (.buildSlice 1 1 [(.int .u8 (0))] [(0, 1, (.c (.int .u8 (255))))]), none, 0⟩,
  ⟨(some 34), .h (.append 1 1 false (.t 32) (.t 33)), none, 3⟩,
  ⟨(some 5), .s (.mov (.t 34)), none, 7⟩]
def v227_11 : List COper := [
  ⟨(some 35), .s (.bin .add .no (.t 19) (.c (.int .i64 (1)))), none, 0⟩,
  ⟨(some 19), .s (.mov (.t 35)), none, 1⟩]
def v227_b12 : CCode := (.seq (.region v227_6)
  (.seq (.cond (.t 20) .skip (.exit 2))
  (.seq (.block 3 (.seq (.region v227_7)
  (.seq (.region v227_8)
  (.seq (.region v227_9)
  (.cond (.t 31) (.region v227_10) .skip)))))
  (.region v227_11))))
theorem v227_b12e : v227_b12 = (.seq (.region v227_6)
  (.seq (.cond (.t 20) .skip (.exit 2))
  (.seq (.block 3 (.seq (.region v227_7)
  (.seq (.region v227_8)
  (.seq (.region v227_9)
  (.cond (.t 31) (.region v227_10) .skip)))))
  (.region v227_11)))) := rfl
def v227_13 : List COper := [
  ⟨(some 36), .s (.mov (.t 5)), none, 0⟩,
  ⟨(some 37), .m (.buildSlice 1 2 [(.int .u8 (0))] [(0, 1, (.c (.int .u8 (0)))), (1, 1, (.c (.int .u8 (1))))]), none, 0⟩,
  ⟨(some 38), .h (.append 1 1 false (.t 36) (.t 37)), none, 3⟩,
  ⟨(some 5), .s (.mov (.t 38)), none, 7⟩]
def v227_14 : List COper := [
  ⟨(some 39), .s (.bin .add .no (.t 13) (.c (.int .i64 (1)))), none, 0⟩,
  ⟨(some 13), .s (.mov (.t 39)), none, 1⟩]
def v227_b15 : CCode := (.seq (.region v227_3)
  (.seq (.cond (.t 14) .skip (.exit 0))
  (.seq (.block 1 (.seq (.region v227_4)
  (.seq (.seq (.region v227_5)
  (.block 2 (.loop v227_b12)))
  (.region v227_13))))
  (.region v227_14))))
theorem v227_b15e : v227_b15 = (.seq (.region v227_3)
  (.seq (.cond (.t 14) .skip (.exit 0))
  (.seq (.block 1 (.seq (.region v227_4)
  (.seq (.seq (.region v227_5)
  (.block 2 (.loop v227_b12)))
  (.region v227_13))))
  (.region v227_14)))) := rfl
def v227_16 : List COper := [
  ⟨(some 40), .s (.mov (.t 5)), none, 0⟩,
  ⟨(some 41), .s (.toStr (.t 40)), none, 1⟩,
  ⟨(some 4), .s (.mov (.t 41)), none, 3⟩]
def v227_body : CCode := (.seq (.region v227_0)
  (.seq (.region v227_1)
  (.seq (.seq (.region v227_2)
  (.block 0 (.loop v227_b15)))
  (.seq (.region v227_16)
  .ret))))
def v227 : VFunc := ⟨42, [.t 4], true, v227_body,
  fun i => match i with | 0 => [5, 13, 11, 12] | 2 => [19, 7, 5, 11, 12, 13, 18] | _ => [],
  fun i => match i with | 0 => [5] | 2 => [11, 12, 13, 5] | 3 => [7, 5, 11, 12, 13, 18, 19] | 1 => [5, 11, 12, 13] | _ => []⟩
@[simp] theorem v227_c : v227.body = v227_body := rfl
@[simp] theorem v227_r : v227.results = [.t 4] := rfl
@[simp] theorem v227_o : v227.own = true := rfl
@[simp] theorem v227_h0 : v227.head 0 = [5, 13, 11, 12] := rfl
@[simp] theorem v227_h2 : v227.head 2 = [19, 7, 5, 11, 12, 13, 18] := rfl
@[simp] theorem v227_t0 : v227.tail 0 = [5] := rfl
@[simp] theorem v227_t2 : v227.tail 2 = [11, 12, 13, 5] := rfl
@[simp] theorem v227_t3 : v227.tail 3 = [7, 5, 11, 12, 13, 18, 19] := rfl
@[simp] theorem v227_t1 : v227.tail 1 = [5, 11, 12, 13] := rfl
def v228_0 : List COper := [
  ⟨(some 2), .s (.mov (.c (.str []))), none, 0⟩]
def v228_1 : List COper := [
  ⟨(some 3), .m (.alloc [(.int .u8 (0)), (.int .u8 (0)), (.int .u8 (0)), (.int .u8 (0)), (.int .u8 (0)), (.int .u8 (0)), (.int .u8 (0)), (.int .u8 (0)), (.int .u8 (0)), (.int .u8 (0)), (.int .u8 (0)), (.int .u8 (0)), (.int .u8 (0)), (.int .u8 (0)), (.int .u8 (0)), (.int .u8 (0))]), none, 0⟩]
def v228_2 : List COper := [
  ⟨(some 5), .s (.mov (.c (.int .i64 (0)))), none, 0⟩]
def v228_3 : List COper := [
  ⟨(some 6), .s (.bin .lss .no (.t 5) (.c (.int .i64 (16)))), none, 0⟩]
def v228_4 : List COper := [
  ⟨(some 7), .s (.mov (.t 5)), none, 0⟩,
  ⟨(some 4), .s (.mov (.t 7)), none, 1⟩]
def v228_5 : List COper := [
  ⟨(some 8), .s (.mov (.t 4)), none, 0⟩,
  ⟨(some 9), .s (.mov (.t 0)), none, 0⟩,
  ⟨(some 10), .s (.mov (.t 4)), none, 0⟩,
  ⟨(some 11), .s (.bin .mul .no (.c (.int .i64 (4))) (.t 10)), none, 4⟩,
  ⟨(some 12), .s (.bin .sub .no (.c (.int .i64 (60))) (.t 11)), none, 12⟩,
  ⟨(some 13), .s (.convInt .u64 (.t 12)), none, 28⟩,
  ⟨(some 14), .s (.bin .shr .no (.t 9) (.t 13)), none, 62⟩,
  ⟨(some 15), .s (.bin .and .no (.t 14) (.c (.int .u64 (15)))), none, 126⟩,
  ⟨(some 16), .s (.index (.c (.str [48, 49, 50, 51, 52, 53, 54, 55, 56, 57, 97, 98, 99, 100, 101, 102])) (.t 15)), none, 254⟩,
  ⟨(some 17), .s (.indexArr 16 1 (.t 3) (.t 8)), none, 511⟩,
  ⟨none, .h (.store 1 (.t 17) (.t 16)), none, 1023⟩]
def v228_6 : List COper := [
  ⟨(some 18), .s (.bin .add .no (.t 5) (.c (.int .i64 (1)))), none, 0⟩,
  ⟨(some 5), .s (.mov (.t 18)), none, 1⟩]
def v228_b7 : CCode := (.seq (.region v228_3)
  (.seq (.cond (.t 6) .skip (.exit 0))
  (.seq (.block 1 (.seq (.region v228_4)
  (.region v228_5)))
  (.region v228_6))))
def v228_8 : List COper := [
  ⟨(some 19), .s (.sliceArr 16 1 (.t 3) none none), none, 0⟩,
  ⟨(some 20), .s (.toStr (.t 19)), none, 1⟩,
  ⟨(some 2), .s (.mov (.t 20)), none, 3⟩]
def v228_body : CCode := (.seq (.region v228_0)
  (.seq (.region v228_1)
  (.seq (.seq (.region v228_2)
  (.block 0 (.loop v228_b7)))
  (.seq (.region v228_8)
  .ret))))
def v228 : VFunc := ⟨21, [.t 2], true, v228_body,
  fun i => match i with | 0 => [5, 3, 0] | _ => [],
  fun i => match i with | 0 => [3] | 1 => [3, 0, 5] | _ => []⟩
@[simp] theorem v228_c : v228.body = v228_body := rfl
@[simp] theorem v228_r : v228.results = [.t 2] := rfl
@[simp] theorem v228_o : v228.own = true := rfl
@[simp] theorem v228_h0 : v228.head 0 = [5, 3, 0] := rfl
@[simp] theorem v228_t0 : v228.tail 0 = [3] := rfl
@[simp] theorem v228_t1 : v228.tail 1 = [3, 0, 5] := rfl
def vTab : Nat → Option VFunc
  | 3 => some v3
  | 4 => some v4
  | 11 => some v11
  | 12 => some v12
  | 13 => some v13
  | 14 => some v14
  | 15 => some v15
  | 16 => some v16
  | 17 => some v17
  | 18 => some v18
  | 19 => some v19
  | 20 => some v20
  | 21 => some v21
  | 22 => some v22
  | 23 => some v23
  | 25 => some v25
  | 28 => some v28
  | 31 => some v31
  | 33 => some v33
  | 40 => some v40
  | 41 => some v41
  | 42 => some v42
  | 43 => some v43
  | 44 => some v44
  | 45 => some v45
  | 46 => some v46
  | 47 => some v47
  | 48 => some v48
  | 49 => some v49
  | 50 => some v50
  | 51 => some v51
  | 53 => some v53
  | 55 => some v55
  | 58 => some v58
  | 59 => some v59
  | 60 => some v60
  | 101 => some v101
  | 102 => some v102
  | 103 => some v103
  | 104 => some v104
  | 165 => some v165
  | 64 => some v64
  | 98 => some v98
  | 99 => some v99
  | 105 => some v105
  | 106 => some v106
  | 107 => some v107
  | 166 => some v166
  | 167 => some v167
  | 168 => some v168
  | 171 => some v171
  | 172 => some v172
  | 227 => some v227
  | 228 => some v228
  | _ => none
end Go.RE
