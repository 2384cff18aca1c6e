/- The code of the functions, as the evaluator has it. Printed by wip/re/Print.lean.txt. -/
import Derived.Test.YtnepmmjhhcdniaaRe14
import Derived.KernelRfl
namespace Go.RE

/- 3: conductor/conductorlaw12.OrderLays -/
def c3_0 : List COper := [
  ⟨(some 2), .s (.mov (.c (.bool false))), none, 0⟩]
def c3_1 : List COper := [
  ⟨(some 7), .call (.c (.func 7 [] [])) [], none, 0⟩,
  ⟨(some 8), .s (.un .not (.t 7)), none, 1⟩,
  ⟨(some 9), .s (.mov (.t 8)), none, 3⟩,
  ⟨(some 10), .s (.mov (.t 0)), some (9, false), 7⟩,
  ⟨(some 11), .call (.c (.func 8 [] [])) [(.t 10)], some (9, false), 15⟩,
  ⟨(some 12), .s (.un .not (.t 11)), some (9, false), 31⟩,
  ⟨(some 13), .s (.pick (.t 9) (.c (.bool true)) (.t 12)), none, 63⟩]
def c3_2 : List COper := [
  ⟨(some 14), .call (.c (.func 7 [] [])) [], none, 0⟩,
  ⟨(some 2), .s (.mov (.t 14)), none, 1⟩]
def c3_3 : List COper := [
  ⟨(some 16), .s (.mov (.t 0)), none, 0⟩,
  ⟨(some 17), .call (.c (.func 9 [] [])) [(.t 16)], none, 1⟩,
  ⟨(some 15), .s (.mov (.t 17)), none, 3⟩,
  ⟨(some 18), .s (.extract 0 (.t 15)), none, 7⟩,
  ⟨(some 19), .s (.extract 1 (.t 15)), none, 7⟩,
  ⟨(some 3), .s (.mov (.t 18)), none, 15⟩,
  ⟨(some 4), .s (.mov (.t 19)), none, 63⟩]
def c3_4 : List COper := [
  ⟨(some 21), .s (.mov (.t 0)), none, 0⟩,
  ⟨(some 22), .call (.c (.func 10 [] [])) [(.t 21)], none, 1⟩,
  ⟨(some 20), .s (.mov (.t 22)), none, 3⟩,
  ⟨(some 23), .s (.extract 0 (.t 20)), none, 7⟩,
  ⟨(some 24), .s (.extract 1 (.t 20)), none, 7⟩,
  ⟨(some 5), .s (.mov (.t 23)), none, 15⟩,
  ⟨(some 6), .s (.mov (.t 24)), none, 63⟩]
def c3_5 : List COper := [
  ⟨(some 25), .s (.mov (.t 3)), none, 0⟩,
  ⟨(some 26), .s (.mov (.t 5)), none, 0⟩,
  ⟨(some 27), .call (.c (.func 11 [] [])) [(.t 25), (.t 26)], none, 3⟩,
  ⟨(some 28), .s (.mov (.t 27)), none, 7⟩,
  ⟨(some 29), .s (.mov (.t 4)), some (28, true), 15⟩,
  ⟨(some 30), .s (.mov (.t 6)), some (28, true), 15⟩,
  ⟨(some 31), .s (.bin .eql .bool (.t 29) (.t 30)), some (28, true), 63⟩,
  ⟨(some 32), .s (.pick (.t 28) (.t 31) (.c (.bool false))), none, 127⟩,
  ⟨(some 2), .s (.mov (.t 32)), none, 255⟩]
def c3 : CFunc := ⟨33, [.t 2], (.seq (.region c3_0)
  (.seq (.seq (.region c3_1)
  (.cond (.t 13) (.seq (.region c3_2)
  .ret) .skip))
  (.seq (.region c3_3)
  (.seq (.region c3_4)
  (.seq (.region c3_5)
  .ret)))))⟩

/- 4: conductor/conductorlaw12.OrderTime -/
def c4_0 : List COper := [
  ⟨(some 6), .s (.mov (.c (.bool false))), none, 0⟩]
def c4_1 : List COper := [
  ⟨(some 13), .call (.c (.func 7 [] [])) [], none, 0⟩,
  ⟨(some 14), .s (.un .not (.t 13)), none, 1⟩,
  ⟨(some 15), .s (.mov (.t 14)), none, 3⟩,
  ⟨(some 16), .s (.mov (.t 0)), some (15, false), 7⟩,
  ⟨(some 17), .call (.c (.func 8 [] [])) [(.t 16)], some (15, false), 15⟩,
  ⟨(some 18), .s (.un .not (.t 17)), some (15, false), 31⟩,
  ⟨(some 19), .s (.pick (.t 15) (.c (.bool true)) (.t 18)), none, 63⟩,
  ⟨(some 20), .s (.mov (.t 19)), none, 127⟩,
  ⟨(some 21), .s (.mov (.t 1)), some (20, false), 255⟩,
  ⟨(some 22), .s (.bin .lss .no (.t 21) (.c (.int .i64 (0)))), some (20, false), 511⟩,
  ⟨(some 23), .s (.pick (.t 20) (.c (.bool true)) (.t 22)), none, 1023⟩,
  ⟨(some 24), .s (.mov (.t 23)), none, 2047⟩,
  ⟨(some 25), .s (.mov (.t 1)), some (24, false), 4095⟩,
  ⟨(some 26), .s (.mov (.t 0)), some (24, false), 4095⟩,
  ⟨(some 27), .s (.len 1 (.t 26)), some (24, false), 12287⟩,
  ⟨(some 28), .s (.bin .geq .no (.t 25) (.t 27)), some (24, false), 32767⟩,
  ⟨(some 29), .s (.pick (.t 24) (.c (.bool true)) (.t 28)), none, 65535⟩,
  ⟨(some 30), .s (.mov (.t 29)), none, 131071⟩,
  ⟨(some 31), .s (.mov (.t 2)), some (30, false), 262143⟩,
  ⟨(some 32), .s (.bin .lss .no (.t 31) (.c (.int .i64 (0)))), some (30, false), 524287⟩,
  ⟨(some 33), .s (.pick (.t 30) (.c (.bool true)) (.t 32)), none, 1048575⟩,
  ⟨(some 34), .s (.mov (.t 33)), none, 2097151⟩,
  ⟨(some 35), .s (.mov (.t 2)), some (34, false), 4194303⟩,
  ⟨(some 36), .s (.mov (.t 0)), some (34, false), 4194303⟩,
  ⟨(some 37), .s (.len 1 (.t 36)), some (34, false), 12582911⟩,
  ⟨(some 38), .s (.bin .geq .no (.t 35) (.t 37)), some (34, false), 33554431⟩,
  ⟨(some 39), .s (.pick (.t 34) (.c (.bool true)) (.t 38)), none, 67108863⟩,
  ⟨(some 40), .s (.mov (.t 39)), none, 134217727⟩,
  ⟨(some 41), .s (.mov (.t 0)), some (40, false), 268435455⟩,
  ⟨(some 42), .s (.mov (.t 1)), some (40, false), 268435455⟩,
  ⟨(some 43), .s (.indexAddr 7 (.t 41) (.t 42)), some (40, false), 1073741823⟩,
  ⟨(some 44), .s (.fieldAddr 4 (.t 43)), some (40, false), 2147483647⟩,
  ⟨(some 45), .s (.load none (.t 44)), some (40, false), 4294967295⟩,
  ⟨(some 46), .s (.mov (.t 0)), some (40, false), 268435455⟩,
  ⟨(some 47), .s (.mov (.t 2)), some (40, false), 268435455⟩,
  ⟨(some 48), .s (.indexAddr 7 (.t 46) (.t 47)), some (40, false), 26038239231⟩,
  ⟨(some 49), .s (.fieldAddr 3 (.t 48)), some (40, false), 60397977599⟩,
  ⟨(some 50), .s (.load none (.t 49)), some (40, false), 129117454335⟩,
  ⟨(some 51), .s (.bin .geq .no (.t 45) (.t 50)), some (40, false), 274877906943⟩,
  ⟨(some 52), .s (.pick (.t 40) (.c (.bool true)) (.t 51)), none, 549755813887⟩,
  ⟨(some 53), .s (.mov (.t 52)), none, 1099511627775⟩,
  ⟨(some 54), .s (.mov (.t 1)), some (53, false), 2199023255551⟩,
  ⟨(some 55), .s (.mov (.t 2)), some (53, false), 2199023255551⟩,
  ⟨(some 56), .s (.bin .eql .int (.t 54) (.t 55)), some (53, false), 8796093022207⟩,
  ⟨(some 57), .s (.pick (.t 53) (.c (.bool true)) (.t 56)), none, 17592186044415⟩]
def c4_1s : List Step := [
  .big 0 ⟨(some 13), .call (.c (.func 7 [] [])) [], none, 0⟩,
  .small 1 ⟨(some 14), .s (.un .not (.t 13)), none, 1⟩,
  .small 2 ⟨(some 15), .s (.mov (.t 14)), none, 3⟩,
  .small 3 ⟨(some 16), .s (.mov (.t 0)), some (15, false), 7⟩,
  .big 4 ⟨(some 17), .call (.c (.func 8 [] [])) [(.t 16)], some (15, false), 15⟩,
  .small 5 ⟨(some 18), .s (.un .not (.t 17)), some (15, false), 31⟩,
  .small 6 ⟨(some 19), .s (.pick (.t 15) (.c (.bool true)) (.t 18)), none, 63⟩,
  .small 7 ⟨(some 20), .s (.mov (.t 19)), none, 127⟩,
  .small 8 ⟨(some 21), .s (.mov (.t 1)), some (20, false), 255⟩,
  .small 9 ⟨(some 22), .s (.bin .lss .no (.t 21) (.c (.int .i64 (0)))), some (20, false), 511⟩,
  .small 10 ⟨(some 23), .s (.pick (.t 20) (.c (.bool true)) (.t 22)), none, 1023⟩,
  .small 11 ⟨(some 24), .s (.mov (.t 23)), none, 2047⟩,
  .small 12 ⟨(some 25), .s (.mov (.t 1)), some (24, false), 4095⟩,
  .small 13 ⟨(some 26), .s (.mov (.t 0)), some (24, false), 4095⟩,
  .small 14 ⟨(some 27), .s (.len 1 (.t 26)), some (24, false), 12287⟩,
  .small 15 ⟨(some 28), .s (.bin .geq .no (.t 25) (.t 27)), some (24, false), 32767⟩,
  .small 16 ⟨(some 29), .s (.pick (.t 24) (.c (.bool true)) (.t 28)), none, 65535⟩,
  .small 17 ⟨(some 30), .s (.mov (.t 29)), none, 131071⟩,
  .small 18 ⟨(some 31), .s (.mov (.t 2)), some (30, false), 262143⟩,
  .small 19 ⟨(some 32), .s (.bin .lss .no (.t 31) (.c (.int .i64 (0)))), some (30, false), 524287⟩,
  .small 20 ⟨(some 33), .s (.pick (.t 30) (.c (.bool true)) (.t 32)), none, 1048575⟩,
  .small 21 ⟨(some 34), .s (.mov (.t 33)), none, 2097151⟩,
  .small 22 ⟨(some 35), .s (.mov (.t 2)), some (34, false), 4194303⟩,
  .small 23 ⟨(some 36), .s (.mov (.t 0)), some (34, false), 4194303⟩,
  .small 24 ⟨(some 37), .s (.len 1 (.t 36)), some (34, false), 12582911⟩,
  .small 25 ⟨(some 38), .s (.bin .geq .no (.t 35) (.t 37)), some (34, false), 33554431⟩,
  .small 26 ⟨(some 39), .s (.pick (.t 34) (.c (.bool true)) (.t 38)), none, 67108863⟩,
  .small 27 ⟨(some 40), .s (.mov (.t 39)), none, 134217727⟩,
  .small 28 ⟨(some 41), .s (.mov (.t 0)), some (40, false), 268435455⟩,
  .small 29 ⟨(some 42), .s (.mov (.t 1)), some (40, false), 268435455⟩,
  .small 30 ⟨(some 43), .s (.indexAddr 7 (.t 41) (.t 42)), some (40, false), 1073741823⟩,
  .small 31 ⟨(some 44), .s (.fieldAddr 4 (.t 43)), some (40, false), 2147483647⟩,
  .small 32 ⟨(some 45), .s (.load none (.t 44)), some (40, false), 4294967295⟩,
  .small 33 ⟨(some 46), .s (.mov (.t 0)), some (40, false), 268435455⟩,
  .small 34 ⟨(some 47), .s (.mov (.t 2)), some (40, false), 268435455⟩,
  .small 35 ⟨(some 48), .s (.indexAddr 7 (.t 46) (.t 47)), some (40, false), 26038239231⟩,
  .small 36 ⟨(some 49), .s (.fieldAddr 3 (.t 48)), some (40, false), 60397977599⟩,
  .small 37 ⟨(some 50), .s (.load none (.t 49)), some (40, false), 129117454335⟩,
  .small 38 ⟨(some 51), .s (.bin .geq .no (.t 45) (.t 50)), some (40, false), 274877906943⟩,
  .small 39 ⟨(some 52), .s (.pick (.t 40) (.c (.bool true)) (.t 51)), none, 549755813887⟩,
  .small 40 ⟨(some 53), .s (.mov (.t 52)), none, 1099511627775⟩,
  .small 41 ⟨(some 54), .s (.mov (.t 1)), some (53, false), 2199023255551⟩,
  .small 42 ⟨(some 55), .s (.mov (.t 2)), some (53, false), 2199023255551⟩,
  .small 43 ⟨(some 56), .s (.bin .eql .int (.t 54) (.t 55)), some (53, false), 8796093022207⟩,
  .small 44 ⟨(some 57), .s (.pick (.t 53) (.c (.bool true)) (.t 56)), none, 17592186044415⟩]
theorem c4_1h : sched (c4_1.length + 1) (numbered c4_1 0) 0 = some c4_1s := by kernel_rfl
def c4_2 : List COper := [
  ⟨(some 58), .call (.c (.func 7 [] [])) [], none, 0⟩,
  ⟨(some 6), .s (.mov (.t 58)), none, 1⟩]
def c4_3 : List COper := [
  ⟨(some 60), .s (.mov (.t 0)), none, 0⟩,
  ⟨(some 61), .call (.c (.func 9 [] [])) [(.t 60)], none, 1⟩,
  ⟨(some 59), .s (.mov (.t 61)), none, 3⟩,
  ⟨(some 62), .s (.extract 0 (.t 59)), none, 7⟩,
  ⟨(some 63), .s (.extract 1 (.t 59)), none, 7⟩,
  ⟨(some 7), .s (.mov (.t 62)), none, 15⟩,
  ⟨(some 8), .s (.mov (.t 63)), none, 63⟩]
def c4_4 : List COper := [
  ⟨(some 64), .s (.mov (.t 8)), none, 0⟩,
  ⟨(some 65), .s (.un .not (.t 64)), none, 1⟩]
def c4_5 : List COper := [
  ⟨(some 6), .s (.mov (.c (.bool true))), none, 0⟩]
def c4_6 : List COper := [
  ⟨(some 9), .s (.mov (.c (.int .i64 (-1)))), none, 0⟩,
  ⟨(some 10), .s (.mov (.c (.int .i64 (-1)))), none, 1⟩]
def c4_7 : List COper := [
  ⟨(some 66), .s (.mov (.t 7)), none, 0⟩,
  ⟨(some 67), .s (.len 1 (.t 66)), none, 1⟩,
  ⟨(some 68), .s (.mov (.c (.int .i64 (0)))), none, 0⟩]
def c4_8 : List COper := [
  ⟨(some 69), .s (.bin .lss .no (.t 68) (.t 67)), none, 0⟩]
def c4_9 : List COper := [
  ⟨(some 70), .s (.mov (.t 68)), none, 0⟩,
  ⟨(some 71), .s (.indexAddr 1 (.t 66) (.t 68)), none, 0⟩,
  ⟨(some 72), .s (.load none (.t 71)), none, 2⟩,
  ⟨(some 11), .s (.mov (.t 70)), none, 7⟩,
  ⟨(some 12), .s (.mov (.t 72)), none, 15⟩]
def c4_10 : List COper := [
  ⟨(some 73), .s (.mov (.t 12)), none, 0⟩,
  ⟨(some 74), .s (.mov (.t 1)), none, 0⟩,
  ⟨(some 75), .s (.bin .eql .int (.t 73) (.t 74)), none, 3⟩]
def c4_11 : List COper := [
  ⟨(some 76), .s (.mov (.t 11)), none, 0⟩,
  ⟨(some 9), .s (.mov (.t 76)), none, 1⟩]
def c4_12 : List COper := [
  ⟨(some 77), .s (.mov (.t 12)), none, 0⟩,
  ⟨(some 78), .s (.mov (.t 2)), none, 0⟩,
  ⟨(some 79), .s (.bin .eql .int (.t 77) (.t 78)), none, 3⟩]
def c4_13 : List COper := [
  ⟨(some 80), .s (.mov (.t 11)), none, 0⟩,
  ⟨(some 10), .s (.mov (.t 80)), none, 1⟩]
def c4_14 : List COper := [
  ⟨(some 81), .s (.bin .add .no (.t 68) (.c (.int .i64 (1)))), none, 0⟩,
  ⟨(some 68), .s (.mov (.t 81)), none, 1⟩]
def c4_b15 : CCode := (.seq (.region c4_8)
  (.seq (.cond (.t 69) .skip (.exit 0))
  (.seq (.block 1 (.seq (.region c4_9)
  (.seq (.seq (.region c4_10)
  (.cond (.t 75) (.region c4_11) .skip))
  (.seq (.region c4_12)
  (.cond (.t 79) (.region c4_13) .skip)))))
  (.region c4_14))))
def c4_16 : List COper := [
  ⟨(some 82), .s (.mov (.t 9)), none, 0⟩,
  ⟨(some 83), .s (.bin .geq .no (.t 82) (.c (.int .i64 (0)))), none, 1⟩,
  ⟨(some 84), .s (.mov (.t 83)), none, 3⟩,
  ⟨(some 85), .s (.mov (.t 9)), some (84, true), 7⟩,
  ⟨(some 86), .s (.mov (.t 10)), some (84, true), 7⟩,
  ⟨(some 87), .s (.bin .lss .no (.t 85) (.t 86)), some (84, true), 31⟩,
  ⟨(some 88), .s (.pick (.t 84) (.t 87) (.c (.bool false))), none, 63⟩,
  ⟨(some 6), .s (.mov (.t 88)), none, 127⟩]
def c4 : CFunc := ⟨89, [.t 6], (.seq (.region c4_0)
  (.seq (.seq (.draw c4_1)
  (.cond (.t 57) (.seq (.region c4_2)
  .ret) .skip))
  (.seq (.region c4_3)
  (.seq (.seq (.region c4_4)
  (.cond (.t 65) (.seq (.region c4_5)
  .ret) .skip))
  (.seq (.region c4_6)
  (.seq (.seq (.region c4_7)
  (.block 0 (.loop c4_b15)))
  (.seq (.region c4_16)
  .ret)))))))⟩

/- 5: conductor/conductorlaw12.OrderEdges -/
def c5_0 : List COper := [
  ⟨(some 4), .s (.mov (.c (.bool false))), none, 0⟩]
def c5_1 : List COper := [
  ⟨(some 9), .call (.c (.func 7 [] [])) [], none, 0⟩,
  ⟨(some 10), .s (.un .not (.t 9)), none, 1⟩,
  ⟨(some 11), .s (.mov (.t 10)), none, 3⟩,
  ⟨(some 12), .s (.mov (.t 0)), some (11, false), 7⟩,
  ⟨(some 13), .call (.c (.func 8 [] [])) [(.t 12)], some (11, false), 15⟩,
  ⟨(some 14), .s (.un .not (.t 13)), some (11, false), 31⟩,
  ⟨(some 15), .s (.pick (.t 11) (.c (.bool true)) (.t 14)), none, 63⟩,
  ⟨(some 16), .s (.mov (.t 15)), none, 127⟩,
  ⟨(some 17), .s (.mov (.t 1)), some (16, false), 255⟩,
  ⟨(some 18), .s (.len 1 (.t 17)), some (16, false), 511⟩,
  ⟨(some 19), .s (.bin .gtr .no (.t 18) (.c (.int .i64 (100)))), some (16, false), 1023⟩,
  ⟨(some 20), .s (.pick (.t 16) (.c (.bool true)) (.t 19)), none, 2047⟩]
def c5_2 : List COper := [
  ⟨(some 21), .call (.c (.func 7 [] [])) [], none, 0⟩,
  ⟨(some 4), .s (.mov (.t 21)), none, 1⟩]
def c5_3 : List COper := [
  ⟨(some 22), .s (.mov (.t 0)), none, 0⟩,
  ⟨(some 23), .s (.len 1 (.t 22)), none, 1⟩,
  ⟨(some 24), .s (.mov (.c (.int .i64 (0)))), none, 0⟩]
def c5_4 : List COper := [
  ⟨(some 25), .s (.bin .lss .no (.t 24) (.t 23)), none, 0⟩]
def c5_5 : List COper := [
  ⟨(some 26), .s (.indexAddr 7 (.t 22) (.t 24)), none, 0⟩,
  ⟨(some 27), .s (.load (some 7) (.t 26)), none, 1⟩,
  ⟨(some 6), .m (.alloc [(.int .i64 (0)), (.int .u64 (0)), (.int .u64 (0)), (.int .i64 (0)), (.int .i64 (0)), .nils, .nils]), none, 0⟩,
  ⟨none, .h (.store 7 (.t 6) (.t 27)), none, 7⟩]
def c5_6 : List COper := [
  ⟨(some 28), .s (.mov (.t 0)), none, 0⟩,
  ⟨(some 29), .s (.len 1 (.t 28)), none, 1⟩,
  ⟨(some 30), .s (.mov (.c (.int .i64 (0)))), none, 0⟩]
def c5_7 : List COper := [
  ⟨(some 31), .s (.bin .lss .no (.t 30) (.t 29)), none, 0⟩]
def c5_8 : List COper := [
  ⟨(some 32), .s (.indexAddr 7 (.t 28) (.t 30)), none, 0⟩,
  ⟨(some 33), .s (.load (some 7) (.t 32)), none, 1⟩,
  ⟨(some 8), .m (.alloc [(.int .i64 (0)), (.int .u64 (0)), (.int .u64 (0)), (.int .i64 (0)), (.int .i64 (0)), .nils, .nils]), none, 0⟩,
  ⟨none, .h (.store 7 (.t 8) (.t 33)), none, 7⟩]
def c5_9 : List COper := [
  ⟨(some 34), .s (.load (some 7) (.t 6)), none, 0⟩,
  ⟨(some 35), .s (.load (some 7) (.t 8)), none, 0⟩,
  ⟨(some 36), .call (.c (.func 12 [] [])) [(.t 34), (.t 35)], none, 3⟩,
  ⟨(some 37), .s (.load (some 7) (.t 6)), none, 0⟩,
  ⟨(some 38), .s (.load (some 7) (.t 8)), none, 0⟩,
  ⟨(some 39), .call (.c (.func 13 [] [])) [(.t 37), (.t 38)], none, 31⟩,
  ⟨(some 40), .s (.bin .neq .bool (.t 36) (.t 39)), none, 63⟩]
def c5_9s : List Step := [
  .small 0 ⟨(some 34), .s (.load (some 7) (.t 6)), none, 0⟩,
  .small 1 ⟨(some 35), .s (.load (some 7) (.t 8)), none, 0⟩,
  .small 3 ⟨(some 37), .s (.load (some 7) (.t 6)), none, 0⟩,
  .small 4 ⟨(some 38), .s (.load (some 7) (.t 8)), none, 0⟩,
  .big 2 ⟨(some 36), .call (.c (.func 12 [] [])) [(.t 34), (.t 35)], none, 3⟩,
  .big 5 ⟨(some 39), .call (.c (.func 13 [] [])) [(.t 37), (.t 38)], none, 31⟩,
  .small 6 ⟨(some 40), .s (.bin .neq .bool (.t 36) (.t 39)), none, 63⟩]
theorem c5_9h : sched (c5_9.length + 1) (numbered c5_9 0) 0 = some c5_9s := by kernel_rfl
def c5_10 : List COper := [
  ⟨(some 4), .s (.mov (.c (.bool false))), none, 0⟩]
def c5_11 : List COper := [
  ⟨(some 41), .s (.bin .add .no (.t 30) (.c (.int .i64 (1)))), none, 0⟩,
  ⟨(some 30), .s (.mov (.t 41)), none, 1⟩]
def c5_b12 : CCode := (.seq (.region c5_7)
  (.seq (.cond (.t 31) .skip (.exit 2))
  (.seq (.block 3 (.seq (.region c5_8)
  (.seq (.draw c5_9)
  (.cond (.t 40) (.seq (.region c5_10)
  .ret) .skip))))
  (.region c5_11))))
def c5_13 : List COper := [
  ⟨(some 42), .s (.bin .add .no (.t 24) (.c (.int .i64 (1)))), none, 0⟩,
  ⟨(some 24), .s (.mov (.t 42)), none, 1⟩]
def c5_b14 : CCode := (.seq (.region c5_4)
  (.seq (.cond (.t 25) .skip (.exit 0))
  (.seq (.block 1 (.seq (.region c5_5)
  (.seq (.region c5_6)
  (.block 2 (.loop c5_b12)))))
  (.region c5_13))))
def c5_15 : List COper := [
  ⟨(some 43), .s (.mov (.t 0)), none, 0⟩,
  ⟨(some 44), .s (.mov (.t 1)), none, 0⟩,
  ⟨(some 45), .call (.c (.func 14 [] [])) [(.t 43), (.t 44)], none, 3⟩,
  ⟨(some 46), .s (.mov (.t 0)), none, 0⟩,
  ⟨(some 47), .s (.mov (.t 1)), none, 0⟩,
  ⟨(some 48), .call (.c (.func 15 [] [])) [(.t 46), (.t 47)], none, 31⟩,
  ⟨(some 49), .s (.bin .eql .bool (.t 45) (.t 48)), none, 63⟩,
  ⟨(some 4), .s (.mov (.t 49)), none, 127⟩]
def c5 : CFunc := ⟨50, [.t 4], (.seq (.region c5_0)
  (.seq (.seq (.region c5_1)
  (.cond (.t 20) (.seq (.region c5_2)
  .ret) .skip))
  (.seq (.seq (.region c5_3)
  (.block 0 (.loop c5_b14)))
  (.seq (.region c5_15)
  .ret))))⟩

/- 6: conductor/conductorlaw12.OrderRight -/
def c6_0 : List COper := [
  ⟨(some 2), .s (.mov (.c (.bool false))), none, 0⟩]
def c6_1 : List COper := [
  ⟨(some 5), .call (.c (.func 7 [] [])) [], none, 0⟩,
  ⟨(some 6), .s (.un .not (.t 5)), none, 1⟩,
  ⟨(some 7), .s (.mov (.t 6)), none, 3⟩,
  ⟨(some 8), .s (.mov (.t 0)), some (7, false), 7⟩,
  ⟨(some 9), .call (.c (.func 8 [] [])) [(.t 8)], some (7, false), 15⟩,
  ⟨(some 10), .s (.un .not (.t 9)), some (7, false), 31⟩,
  ⟨(some 11), .s (.pick (.t 7) (.c (.bool true)) (.t 10)), none, 63⟩]
def c6_2 : List COper := [
  ⟨(some 12), .call (.c (.func 7 [] [])) [], none, 0⟩,
  ⟨(some 2), .s (.mov (.t 12)), none, 1⟩]
def c6_3 : List COper := [
  ⟨(some 14), .s (.mov (.t 0)), none, 0⟩,
  ⟨(some 15), .call (.c (.func 9 [] [])) [(.t 14)], none, 1⟩,
  ⟨(some 13), .s (.mov (.t 15)), none, 3⟩,
  ⟨(some 16), .s (.extract 0 (.t 13)), none, 7⟩,
  ⟨(some 17), .s (.extract 1 (.t 13)), none, 7⟩,
  ⟨(some 3), .s (.mov (.t 16)), none, 15⟩,
  ⟨(some 4), .s (.mov (.t 17)), none, 63⟩]
def c6_4 : List COper := [
  ⟨(some 18), .s (.mov (.t 4)), none, 0⟩,
  ⟨(some 19), .s (.un .not (.t 18)), none, 1⟩]
def c6_5 : List COper := [
  ⟨(some 20), .s (.mov (.t 3)), none, 0⟩,
  ⟨(some 21), .s (.len 1 (.t 20)), none, 1⟩,
  ⟨(some 22), .s (.bin .eql .int (.t 21) (.c (.int .i64 (0)))), none, 3⟩,
  ⟨(some 23), .s (.mov (.t 22)), none, 7⟩,
  ⟨(some 24), .s (.mov (.t 0)), some (23, true), 15⟩,
  ⟨(some 25), .call (.c (.func 16 [] [])) [(.t 24)], some (23, true), 31⟩,
  ⟨(some 26), .s (.pick (.t 23) (.t 25) (.c (.bool false))), none, 63⟩,
  ⟨(some 2), .s (.mov (.t 26)), none, 127⟩]
def c6_6 : List COper := [
  ⟨(some 27), .s (.mov (.t 0)), none, 0⟩,
  ⟨(some 28), .s (.mov (.t 3)), none, 0⟩,
  ⟨(some 29), .call (.c (.func 14 [] [])) [(.t 27), (.t 28)], none, 3⟩,
  ⟨(some 30), .s (.mov (.t 29)), none, 7⟩,
  ⟨(some 31), .s (.mov (.t 0)), some (30, true), 15⟩,
  ⟨(some 32), .call (.c (.func 16 [] [])) [(.t 31)], some (30, true), 31⟩,
  ⟨(some 33), .s (.un .not (.t 32)), some (30, true), 63⟩,
  ⟨(some 34), .s (.pick (.t 30) (.t 33) (.c (.bool false))), none, 127⟩,
  ⟨(some 2), .s (.mov (.t 34)), none, 255⟩]
def c6 : CFunc := ⟨35, [.t 2], (.seq (.region c6_0)
  (.seq (.seq (.region c6_1)
  (.cond (.t 11) (.seq (.region c6_2)
  .ret) .skip))
  (.seq (.region c6_3)
  (.seq (.seq (.region c6_4)
  (.cond (.t 19) (.seq (.region c6_5)
  .ret) .skip))
  (.seq (.region c6_6)
  .ret)))))⟩

/- 7: conductor/conductorlaw12.live -/
def c7_0 : List COper := [
  ⟨(some 0), .s (.mov (.c (.bool false))), none, 0⟩]
def c7_1 : List COper := [
  ⟨(some 4), .call (.c (.func 17 [] [])) [], none, 0⟩,
  ⟨(some 5), .call (.c (.func 9 [] [])) [(.t 4)], none, 1⟩,
  ⟨(some 3), .s (.mov (.t 5)), none, 3⟩,
  ⟨(some 6), .s (.extract 0 (.t 3)), none, 7⟩,
  ⟨(some 7), .s (.extract 1 (.t 3)), none, 7⟩,
  ⟨(some 1), .s (.mov (.t 6)), none, 15⟩,
  ⟨(some 2), .s (.mov (.t 7)), none, 63⟩]
def c7_2 : List COper := [
  ⟨(some 8), .s (.mov (.t 2)), none, 0⟩,
  ⟨(some 9), .s (.mov (.t 8)), none, 1⟩,
  ⟨(some 10), .s (.mov (.t 1)), some (9, true), 3⟩,
  ⟨(some 11), .s (.len 1 (.t 10)), some (9, true), 7⟩,
  ⟨(some 12), .s (.bin .eql .int (.t 11) (.c (.int .i64 (2)))), some (9, true), 15⟩,
  ⟨(some 13), .s (.pick (.t 9) (.t 12) (.c (.bool false))), none, 31⟩,
  ⟨(some 14), .s (.mov (.t 13)), none, 63⟩,
  ⟨(some 15), .s (.mov (.t 1)), some (14, true), 127⟩,
  ⟨(some 16), .s (.indexAddr 1 (.t 15) (.c (.int .i64 (0)))), some (14, true), 255⟩,
  ⟨(some 17), .s (.load none (.t 16)), some (14, true), 511⟩,
  ⟨(some 18), .s (.bin .eql .int (.t 17) (.c (.int .i64 (0)))), some (14, true), 1023⟩,
  ⟨(some 19), .s (.pick (.t 14) (.t 18) (.c (.bool false))), none, 2047⟩,
  ⟨(some 20), .s (.mov (.t 19)), none, 4095⟩,
  ⟨(some 21), .s (.mov (.t 1)), some (20, true), 8191⟩,
  ⟨(some 22), .s (.indexAddr 1 (.t 21) (.c (.int .i64 (1)))), some (20, true), 16383⟩,
  ⟨(some 23), .s (.load none (.t 22)), some (20, true), 32767⟩,
  ⟨(some 24), .s (.bin .eql .int (.t 23) (.c (.int .i64 (1)))), some (20, true), 65535⟩,
  ⟨(some 25), .s (.pick (.t 20) (.t 24) (.c (.bool false))), none, 131071⟩,
  ⟨(some 26), .s (.mov (.t 25)), none, 262143⟩,
  ⟨(some 27), .call (.c (.func 17 [] [])) [], some (26, true), 524287⟩,
  ⟨(some 28), .s (.indexAddr 7 (.t 27) (.c (.int .i64 (0)))), some (26, true), 1048575⟩,
  ⟨(some 29), .s (.load (some 7) (.t 28)), some (26, true), 2097151⟩,
  ⟨(some 30), .call (.c (.func 17 [] [])) [], some (26, true), 1048575⟩,
  ⟨(some 31), .s (.indexAddr 7 (.t 30) (.c (.int .i64 (1)))), some (26, true), 5242879⟩,
  ⟨(some 32), .s (.load (some 7) (.t 31)), some (26, true), 13631487⟩,
  ⟨(some 33), .call (.c (.func 12 [] [])) [(.t 29), (.t 32)], some (26, true), 33554431⟩,
  ⟨(some 34), .s (.pick (.t 26) (.t 33) (.c (.bool false))), none, 67108863⟩,
  ⟨(some 35), .s (.mov (.t 34)), none, 134217727⟩,
  ⟨(some 36), .call (.c (.func 17 [] [])) [], some (35, true), 268435455⟩,
  ⟨(some 37), .s (.indexAddr 7 (.t 36) (.c (.int .i64 (1)))), some (35, true), 536870911⟩,
  ⟨(some 38), .s (.load (some 7) (.t 37)), some (35, true), 1073741823⟩,
  ⟨(some 39), .call (.c (.func 17 [] [])) [], some (35, true), 536870911⟩,
  ⟨(some 40), .s (.indexAddr 7 (.t 39) (.c (.int .i64 (0)))), some (35, true), 2684354559⟩,
  ⟨(some 41), .s (.load (some 7) (.t 40)), some (35, true), 6979321855⟩,
  ⟨(some 42), .call (.c (.func 12 [] [])) [(.t 38), (.t 41)], some (35, true), 17179869183⟩,
  ⟨(some 43), .s (.un .not (.t 42)), some (35, true), 34359738367⟩,
  ⟨(some 44), .s (.pick (.t 35) (.t 43) (.c (.bool false))), none, 68719476735⟩,
  ⟨(some 0), .s (.mov (.t 44)), none, 137438953471⟩]
def c7_2s : List Step := [
  .small 0 ⟨(some 8), .s (.mov (.t 2)), none, 0⟩,
  .small 1 ⟨(some 9), .s (.mov (.t 8)), none, 1⟩,
  .small 2 ⟨(some 10), .s (.mov (.t 1)), some (9, true), 3⟩,
  .small 3 ⟨(some 11), .s (.len 1 (.t 10)), some (9, true), 7⟩,
  .small 4 ⟨(some 12), .s (.bin .eql .int (.t 11) (.c (.int .i64 (2)))), some (9, true), 15⟩,
  .small 5 ⟨(some 13), .s (.pick (.t 9) (.t 12) (.c (.bool false))), none, 31⟩,
  .small 6 ⟨(some 14), .s (.mov (.t 13)), none, 63⟩,
  .small 7 ⟨(some 15), .s (.mov (.t 1)), some (14, true), 127⟩,
  .small 8 ⟨(some 16), .s (.indexAddr 1 (.t 15) (.c (.int .i64 (0)))), some (14, true), 255⟩,
  .small 9 ⟨(some 17), .s (.load none (.t 16)), some (14, true), 511⟩,
  .small 10 ⟨(some 18), .s (.bin .eql .int (.t 17) (.c (.int .i64 (0)))), some (14, true), 1023⟩,
  .small 11 ⟨(some 19), .s (.pick (.t 14) (.t 18) (.c (.bool false))), none, 2047⟩,
  .small 12 ⟨(some 20), .s (.mov (.t 19)), none, 4095⟩,
  .small 13 ⟨(some 21), .s (.mov (.t 1)), some (20, true), 8191⟩,
  .small 14 ⟨(some 22), .s (.indexAddr 1 (.t 21) (.c (.int .i64 (1)))), some (20, true), 16383⟩,
  .small 15 ⟨(some 23), .s (.load none (.t 22)), some (20, true), 32767⟩,
  .small 16 ⟨(some 24), .s (.bin .eql .int (.t 23) (.c (.int .i64 (1)))), some (20, true), 65535⟩,
  .small 17 ⟨(some 25), .s (.pick (.t 20) (.t 24) (.c (.bool false))), none, 131071⟩,
  .small 18 ⟨(some 26), .s (.mov (.t 25)), none, 262143⟩,
  .big 19 ⟨(some 27), .call (.c (.func 17 [] [])) [], some (26, true), 524287⟩,
  .small 20 ⟨(some 28), .s (.indexAddr 7 (.t 27) (.c (.int .i64 (0)))), some (26, true), 1048575⟩,
  .small 21 ⟨(some 29), .s (.load (some 7) (.t 28)), some (26, true), 2097151⟩,
  .big 22 ⟨(some 30), .call (.c (.func 17 [] [])) [], some (26, true), 1048575⟩,
  .small 23 ⟨(some 31), .s (.indexAddr 7 (.t 30) (.c (.int .i64 (1)))), some (26, true), 5242879⟩,
  .small 24 ⟨(some 32), .s (.load (some 7) (.t 31)), some (26, true), 13631487⟩,
  .big 25 ⟨(some 33), .call (.c (.func 12 [] [])) [(.t 29), (.t 32)], some (26, true), 33554431⟩,
  .small 26 ⟨(some 34), .s (.pick (.t 26) (.t 33) (.c (.bool false))), none, 67108863⟩,
  .small 27 ⟨(some 35), .s (.mov (.t 34)), none, 134217727⟩,
  .big 28 ⟨(some 36), .call (.c (.func 17 [] [])) [], some (35, true), 268435455⟩,
  .small 29 ⟨(some 37), .s (.indexAddr 7 (.t 36) (.c (.int .i64 (1)))), some (35, true), 536870911⟩,
  .small 30 ⟨(some 38), .s (.load (some 7) (.t 37)), some (35, true), 1073741823⟩,
  .big 31 ⟨(some 39), .call (.c (.func 17 [] [])) [], some (35, true), 536870911⟩,
  .small 32 ⟨(some 40), .s (.indexAddr 7 (.t 39) (.c (.int .i64 (0)))), some (35, true), 2684354559⟩,
  .small 33 ⟨(some 41), .s (.load (some 7) (.t 40)), some (35, true), 6979321855⟩,
  .big 34 ⟨(some 42), .call (.c (.func 12 [] [])) [(.t 38), (.t 41)], some (35, true), 17179869183⟩,
  .small 35 ⟨(some 43), .s (.un .not (.t 42)), some (35, true), 34359738367⟩,
  .small 36 ⟨(some 44), .s (.pick (.t 35) (.t 43) (.c (.bool false))), none, 68719476735⟩,
  .small 37 ⟨(some 0), .s (.mov (.t 44)), none, 137438953471⟩]
theorem c7_2h : sched (c7_2.length + 1) (numbered c7_2 0) 0 = some c7_2s := by kernel_rfl
def c7 : CFunc := ⟨45, [.t 0], (.seq (.region c7_0)
  (.seq (.region c7_1)
  (.seq (.draw c7_2)
  .ret)))⟩

/- 8: conductor/conductorlaw12.few -/
def c8_0 : List COper := [
  ⟨(some 2), .s (.mov (.c (.bool false))), none, 0⟩]
def c8_1 : List COper := [
  ⟨(some 5), .s (.mov (.t 0)), none, 0⟩,
  ⟨(some 6), .s (.len 1 (.t 5)), none, 1⟩,
  ⟨(some 7), .s (.mov (.c (.int .i64 (0)))), none, 0⟩]
def c8_2 : List COper := [
  ⟨(some 8), .s (.bin .lss .no (.t 7) (.t 6)), none, 0⟩]
def c8_3 : List COper := [
  ⟨(some 9), .s (.indexAddr 7 (.t 5) (.t 7)), none, 0⟩,
  ⟨(some 10), .s (.load (some 7) (.t 9)), none, 1⟩,
  ⟨(some 4), .m (.alloc [(.int .i64 (0)), (.int .u64 (0)), (.int .u64 (0)), (.int .i64 (0)), (.int .i64 (0)), .nils, .nils]), none, 0⟩,
  ⟨none, .h (.store 7 (.t 4) (.t 10)), none, 7⟩]
def c8_4 : List COper := [
  ⟨(some 11), .s (.fieldAddr 5 (.t 4)), none, 0⟩,
  ⟨(some 12), .s (.load none (.t 11)), none, 1⟩,
  ⟨(some 13), .call (.c (.func 18 [] [])) [(.t 12)], none, 3⟩,
  ⟨(some 14), .s (.un .not (.t 13)), none, 7⟩,
  ⟨(some 15), .s (.mov (.t 14)), none, 15⟩,
  ⟨(some 16), .s (.fieldAddr 6 (.t 4)), some (15, false), 31⟩,
  ⟨(some 17), .s (.load none (.t 16)), some (15, false), 63⟩,
  ⟨(some 18), .call (.c (.func 18 [] [])) [(.t 17)], some (15, false), 127⟩,
  ⟨(some 19), .s (.un .not (.t 18)), some (15, false), 255⟩,
  ⟨(some 20), .s (.pick (.t 15) (.c (.bool true)) (.t 19)), none, 511⟩,
  ⟨(some 21), .s (.mov (.t 20)), none, 1023⟩,
  ⟨(some 22), .s (.fieldAddr 5 (.t 4)), some (21, false), 2047⟩,
  ⟨(some 23), .s (.load none (.t 22)), some (21, false), 4095⟩,
  ⟨(some 24), .s (.len 1 (.t 23)), some (21, false), 8191⟩,
  ⟨(some 25), .s (.fieldAddr 6 (.t 4)), some (21, false), 2047⟩,
  ⟨(some 26), .s (.load none (.t 25)), some (21, false), 18431⟩,
  ⟨(some 27), .s (.len 1 (.t 26)), some (21, false), 51199⟩,
  ⟨(some 28), .s (.bin .add .no (.t 24) (.t 27)), some (21, false), 131071⟩,
  ⟨(some 29), .s (.bin .gtr .no (.t 28) (.c (.int .i64 (20)))), some (21, false), 262143⟩,
  ⟨(some 30), .s (.pick (.t 21) (.c (.bool true)) (.t 29)), none, 524287⟩]
def c8_5 : List COper := [
  ⟨(some 2), .s (.mov (.c (.bool false))), none, 0⟩]
def c8_6 : List COper := [
  ⟨(some 31), .s (.bin .add .no (.t 7) (.c (.int .i64 (1)))), none, 0⟩,
  ⟨(some 7), .s (.mov (.t 31)), none, 1⟩]
def c8_b7 : CCode := (.seq (.region c8_2)
  (.seq (.cond (.t 8) .skip (.exit 0))
  (.seq (.block 1 (.seq (.region c8_3)
  (.seq (.region c8_4)
  (.cond (.t 30) (.seq (.region c8_5)
  .ret) .skip))))
  (.region c8_6))))
def c8_8 : List COper := [
  ⟨(some 32), .s (.mov (.t 0)), none, 0⟩,
  ⟨(some 33), .s (.len 1 (.t 32)), none, 1⟩,
  ⟨(some 34), .s (.bin .leq .no (.t 33) (.c (.int .i64 (25)))), none, 3⟩,
  ⟨(some 2), .s (.mov (.t 34)), none, 7⟩]
def c8 : CFunc := ⟨35, [.t 2], (.seq (.region c8_0)
  (.seq (.seq (.region c8_1)
  (.block 0 (.loop c8_b7)))
  (.seq (.region c8_8)
  .ret)))⟩

/- 9: conductor/order.Order -/
def c9_0 : List COper := [
  ⟨(some 1), .m (.box (.t 0)), none, 0⟩,
  ⟨(some 2), .s (.mov (.c .nils)), none, 0⟩,
  ⟨(some 3), .s (.mov (.c (.bool false))), none, 2⟩]
def c9_1 : List COper := [
  ⟨(some 12), .s (.load none (.t 1)), none, 0⟩,
  ⟨(some 13), .s (.len 1 (.t 12)), none, 1⟩,
  ⟨(some 14), .m (.makeSlice 1 8 [(.int .i64 (0))] (.t 13) (.t 13)), none, 3⟩,
  ⟨(some 4), .m (.alloc [.nils]), none, 0⟩,
  ⟨none, .h (.store 1 (.t 4) (.t 14)), none, 15⟩]
def c9_2 : List COper := [
  ⟨(some 15), .s (.load none (.t 1)), none, 0⟩,
  ⟨(some 16), .s (.len 1 (.t 15)), none, 1⟩,
  ⟨(some 17), .m (.makeSlice 1 1 [(.bool false)] (.t 16) (.t 16)), none, 3⟩,
  ⟨(some 5), .m (.alloc [.nils]), none, 0⟩,
  ⟨none, .h (.store 1 (.t 5) (.t 17)), none, 15⟩]
def c9_3 : List COper := [
  ⟨(some 18), .s (.load none (.t 1)), none, 0⟩,
  ⟨(some 19), .s (.len 1 (.t 18)), none, 1⟩,
  ⟨(some 20), .s (.mov (.c (.int .i64 (0)))), none, 0⟩]
def c9_4 : List COper := [
  ⟨(some 21), .s (.bin .lss .no (.t 20) (.t 19)), none, 0⟩]
def c9_5 : List COper := [
  ⟨(some 22), .s (.mov (.t 20)), none, 0⟩,
  ⟨(some 6), .s (.mov (.t 22)), none, 1⟩]
def c9_6 : List COper := [
  ⟨(some 23), .s (.load none (.t 1)), none, 0⟩,
  ⟨(some 24), .s (.len 1 (.t 23)), none, 1⟩,
  ⟨(some 25), .s (.mov (.c (.int .i64 (0)))), none, 0⟩]
def c9_7 : List COper := [
  ⟨(some 26), .s (.bin .lss .no (.t 25) (.t 24)), none, 0⟩]
def c9_8 : List COper := [
  ⟨(some 27), .s (.mov (.t 25)), none, 0⟩,
  ⟨(some 7), .s (.mov (.t 27)), none, 1⟩]
def c9_9 : List COper := [
  ⟨(some 28), .s (.mov (.t 6)), none, 0⟩,
  ⟨(some 29), .s (.mov (.t 7)), none, 0⟩,
  ⟨(some 30), .s (.bin .neq .int (.t 28) (.t 29)), none, 3⟩,
  ⟨(some 31), .s (.mov (.t 30)), none, 7⟩,
  ⟨(some 32), .s (.load none (.t 1)), some (31, true), 15⟩,
  ⟨(some 33), .s (.mov (.t 7)), some (31, true), 15⟩,
  ⟨(some 34), .s (.indexAddr 7 (.t 32) (.t 33)), some (31, true), 63⟩,
  ⟨(some 35), .s (.load (some 7) (.t 34)), some (31, true), 127⟩,
  ⟨(some 36), .s (.load none (.t 1)), some (31, true), 15⟩,
  ⟨(some 37), .s (.mov (.t 6)), some (31, true), 15⟩,
  ⟨(some 38), .s (.indexAddr 7 (.t 36) (.t 37)), some (31, true), 783⟩,
  ⟨(some 39), .s (.load (some 7) (.t 38)), some (31, true), 1807⟩,
  ⟨(some 40), .call (.c (.func 12 [] [])) [(.t 35), (.t 39)], some (31, true), 4095⟩,
  ⟨(some 41), .s (.pick (.t 31) (.t 40) (.c (.bool false))), none, 8191⟩]
def c9_9s : List Step := [
  .small 0 ⟨(some 28), .s (.mov (.t 6)), none, 0⟩,
  .small 1 ⟨(some 29), .s (.mov (.t 7)), none, 0⟩,
  .small 2 ⟨(some 30), .s (.bin .neq .int (.t 28) (.t 29)), none, 3⟩,
  .small 3 ⟨(some 31), .s (.mov (.t 30)), none, 7⟩,
  .small 4 ⟨(some 32), .s (.load none (.t 1)), some (31, true), 15⟩,
  .small 5 ⟨(some 33), .s (.mov (.t 7)), some (31, true), 15⟩,
  .small 6 ⟨(some 34), .s (.indexAddr 7 (.t 32) (.t 33)), some (31, true), 63⟩,
  .small 7 ⟨(some 35), .s (.load (some 7) (.t 34)), some (31, true), 127⟩,
  .small 8 ⟨(some 36), .s (.load none (.t 1)), some (31, true), 15⟩,
  .small 9 ⟨(some 37), .s (.mov (.t 6)), some (31, true), 15⟩,
  .small 10 ⟨(some 38), .s (.indexAddr 7 (.t 36) (.t 37)), some (31, true), 783⟩,
  .small 11 ⟨(some 39), .s (.load (some 7) (.t 38)), some (31, true), 1807⟩,
  .big 12 ⟨(some 40), .call (.c (.func 12 [] [])) [(.t 35), (.t 39)], some (31, true), 4095⟩,
  .small 13 ⟨(some 41), .s (.pick (.t 31) (.t 40) (.c (.bool false))), none, 8191⟩]
theorem c9_9h : sched (c9_9.length + 1) (numbered c9_9 0) 0 = some c9_9s := by kernel_rfl
def c9_10 : List COper := [
  ⟨(some 42), .s (.load none (.t 4)), none, 0⟩,
  ⟨(some 43), .s (.mov (.t 6)), none, 0⟩,
  ⟨(some 44), .s (.indexAddr 1 (.t 42) (.t 43)), none, 3⟩,
  ⟨(some 45), .s (.load none (.t 44)), none, 7⟩,
  ⟨(some 46), .s (.bin .add .no (.t 45) (.c (.int .i64 (1)))), none, 15⟩,
  ⟨(some 47), .s (.indexAddr 1 (.t 42) (.t 43)), none, 31⟩,
  ⟨none, .h (.store 1 (.t 47) (.t 46)), none, 63⟩]
def c9_11 : List COper := [
  ⟨(some 48), .s (.bin .add .no (.t 25) (.c (.int .i64 (1)))), none, 0⟩,
  ⟨(some 25), .s (.mov (.t 48)), none, 1⟩]
def c9_b12 : CCode := (.seq (.region c9_7)
  (.seq (.cond (.t 26) .skip (.exit 2))
  (.seq (.block 3 (.seq (.region c9_8)
  (.seq (.draw c9_9)
  (.cond (.t 41) (.region c9_10) .skip))))
  (.region c9_11))))
def c9_13 : List COper := [
  ⟨(some 49), .s (.bin .add .no (.t 20) (.c (.int .i64 (1)))), none, 0⟩,
  ⟨(some 20), .s (.mov (.t 49)), none, 1⟩]
def c9_b14 : CCode := (.seq (.region c9_4)
  (.seq (.cond (.t 21) .skip (.exit 0))
  (.seq (.block 1 (.seq (.region c9_5)
  (.seq (.region c9_6)
  (.block 2 (.loop c9_b12)))))
  (.region c9_13))))
def c9_15 : List COper := [
  ⟨(some 50), .s (.load none (.t 1)), none, 0⟩,
  ⟨(some 51), .s (.len 1 (.t 50)), none, 1⟩,
  ⟨(some 52), .m (.makeSlice 1 8 [(.int .i64 (0))] (.c (.int .i64 (0))) (.t 51)), none, 3⟩,
  ⟨(some 8), .m (.alloc [.nils]), none, 0⟩,
  ⟨none, .h (.store 1 (.t 8) (.t 52)), none, 15⟩]
def c9_16 : List COper := [
  ⟨(some 53), .s (.mkFunc 19 [] [(.t 8), (.t 5), (.t 1), (.t 4)]), none, 0⟩,
  ⟨(some 9), .s (.mov (.t 53)), none, 1⟩]
def c9_17 : List COper := [
  ⟨(some 54), .s (.load none (.t 1)), none, 0⟩,
  ⟨(some 55), .s (.len 1 (.t 54)), none, 1⟩,
  ⟨(some 56), .s (.mov (.c (.int .i64 (0)))), none, 0⟩]
def c9_18 : List COper := [
  ⟨(some 57), .s (.bin .lss .no (.t 56) (.t 55)), none, 0⟩]
def c9_19 : List COper := [
  ⟨(some 10), .s (.mov (.c (.int .i64 (-1)))), none, 0⟩]
def c9_20 : List COper := [
  ⟨(some 58), .s (.load none (.t 1)), none, 0⟩,
  ⟨(some 59), .s (.len 1 (.t 58)), none, 1⟩,
  ⟨(some 60), .s (.mov (.c (.int .i64 (0)))), none, 0⟩]
def c9_21 : List COper := [
  ⟨(some 61), .s (.bin .lss .no (.t 60) (.t 59)), none, 0⟩]
def c9_22 : List COper := [
  ⟨(some 62), .s (.mov (.t 60)), none, 0⟩,
  ⟨(some 11), .s (.mov (.t 62)), none, 1⟩]
def c9_23 : List COper := [
  ⟨(some 64), .s (.load none (.t 5)), none, 0⟩,
  ⟨(some 65), .s (.mov (.t 11)), none, 0⟩,
  ⟨(some 66), .s (.indexAddr 1 (.t 64) (.t 65)), none, 3⟩,
  ⟨(some 67), .s (.load none (.t 66)), none, 7⟩,
  ⟨(some 68), .s (.mov (.t 67)), none, 15⟩,
  ⟨(some 69), .s (.load none (.t 4)), some (68, false), 31⟩,
  ⟨(some 70), .s (.mov (.t 11)), some (68, false), 31⟩,
  ⟨(some 71), .s (.indexAddr 1 (.t 69) (.t 70)), some (68, false), 127⟩,
  ⟨(some 72), .s (.load none (.t 71)), some (68, false), 255⟩,
  ⟨(some 73), .s (.bin .gtr .no (.t 72) (.c (.int .i64 (0)))), some (68, false), 511⟩,
  ⟨(some 74), .s (.pick (.t 68) (.c (.bool true)) (.t 73)), none, 1023⟩,
  ⟨(some 63), .s (.mov (.t 74)), none, 2047⟩]
def c9_24 : List COper := [
  ⟨(some 76), .s (.mov (.t 10)), none, 0⟩,
  ⟨(some 77), .s (.bin .lss .no (.t 76) (.c (.int .i64 (0)))), none, 1⟩,
  ⟨(some 78), .s (.mov (.t 77)), none, 3⟩,
  ⟨(some 79), .s (.load none (.t 1)), some (78, false), 7⟩,
  ⟨(some 80), .s (.mov (.t 11)), some (78, false), 7⟩,
  ⟨(some 81), .s (.indexAddr 7 (.t 79) (.t 80)), some (78, false), 31⟩,
  ⟨(some 82), .s (.fieldAddr 4 (.t 81)), some (78, false), 63⟩,
  ⟨(some 83), .s (.load none (.t 82)), some (78, false), 127⟩,
  ⟨(some 84), .s (.load none (.t 1)), some (78, false), 7⟩,
  ⟨(some 85), .s (.mov (.t 10)), some (78, false), 7⟩,
  ⟨(some 86), .s (.indexAddr 7 (.t 84) (.t 85)), some (78, false), 775⟩,
  ⟨(some 87), .s (.fieldAddr 4 (.t 86)), some (78, false), 1799⟩,
  ⟨(some 88), .s (.load none (.t 87)), some (78, false), 3847⟩,
  ⟨(some 89), .s (.bin .lss .no (.t 83) (.t 88)), some (78, false), 8191⟩,
  ⟨(some 90), .s (.pick (.t 78) (.c (.bool true)) (.t 89)), none, 16383⟩,
  ⟨(some 75), .s (.mov (.t 90)), none, 32767⟩]
def c9_24s : List Step := [
  .small 0 ⟨(some 76), .s (.mov (.t 10)), none, 0⟩,
  .small 1 ⟨(some 77), .s (.bin .lss .no (.t 76) (.c (.int .i64 (0)))), none, 1⟩,
  .small 2 ⟨(some 78), .s (.mov (.t 77)), none, 3⟩,
  .small 3 ⟨(some 79), .s (.load none (.t 1)), some (78, false), 7⟩,
  .small 4 ⟨(some 80), .s (.mov (.t 11)), some (78, false), 7⟩,
  .small 5 ⟨(some 81), .s (.indexAddr 7 (.t 79) (.t 80)), some (78, false), 31⟩,
  .small 6 ⟨(some 82), .s (.fieldAddr 4 (.t 81)), some (78, false), 63⟩,
  .small 7 ⟨(some 83), .s (.load none (.t 82)), some (78, false), 127⟩,
  .small 8 ⟨(some 84), .s (.load none (.t 1)), some (78, false), 7⟩,
  .small 9 ⟨(some 85), .s (.mov (.t 10)), some (78, false), 7⟩,
  .small 10 ⟨(some 86), .s (.indexAddr 7 (.t 84) (.t 85)), some (78, false), 775⟩,
  .small 11 ⟨(some 87), .s (.fieldAddr 4 (.t 86)), some (78, false), 1799⟩,
  .small 12 ⟨(some 88), .s (.load none (.t 87)), some (78, false), 3847⟩,
  .small 13 ⟨(some 89), .s (.bin .lss .no (.t 83) (.t 88)), some (78, false), 8191⟩,
  .small 14 ⟨(some 90), .s (.pick (.t 78) (.c (.bool true)) (.t 89)), none, 16383⟩,
  .small 15 ⟨(some 75), .s (.mov (.t 90)), none, 32767⟩]
theorem c9_24h : sched (c9_24.length + 1) (numbered c9_24 0) 0 = some c9_24s := by kernel_rfl
def c9_25 : List COper := [
  ⟨(some 91), .s (.mov (.t 11)), none, 0⟩,
  ⟨(some 10), .s (.mov (.t 91)), none, 1⟩]
def c9_26 : List COper := [
  ⟨(some 92), .s (.bin .add .no (.t 60) (.c (.int .i64 (1)))), none, 0⟩,
  ⟨(some 60), .s (.mov (.t 92)), none, 1⟩]
def c9_b27 : CCode := (.seq (.region c9_21)
  (.seq (.cond (.t 61) .skip (.exit 6))
  (.seq (.block 7 (.seq (.region c9_22)
  (.block 8 (.seq (.region c9_23)
  (.cond (.t 63) (.exit 7) (.seq (.draw c9_24)
  (.cond (.t 75) (.region c9_25) .skip)))))))
  (.region c9_26))))
def c9_28 : List COper := [
  ⟨(some 93), .s (.mov (.t 10)), none, 0⟩,
  ⟨(some 94), .s (.bin .lss .no (.t 93) (.c (.int .i64 (0)))), none, 1⟩]
def c9_29 : List COper := [
  ⟨(some 2), .s (.mov (.c .nils)), none, 0⟩,
  ⟨(some 3), .s (.mov (.c (.bool false))), none, 1⟩]
def c9_30 : List COper := [
  ⟨(some 95), .s (.mov (.t 9)), none, 0⟩,
  ⟨(some 96), .s (.mov (.t 10)), none, 0⟩,
  ⟨(some 97), .call (.t 95) [(.t 96)], none, 3⟩]
def c9_31 : List COper := [
  ⟨(some 98), .s (.bin .add .no (.t 56) (.c (.int .i64 (1)))), none, 0⟩,
  ⟨(some 56), .s (.mov (.t 98)), none, 1⟩]
def c9_b32 : CCode := (.seq (.region c9_18)
  (.seq (.cond (.t 57) .skip (.exit 4))
  (.seq (.block 5 (.seq (.seq (.region c9_19)
  (.seq .skip
  (.seq (.seq (.region c9_20)
  (.block 6 (.loop c9_b27)))
  (.seq (.seq (.region c9_28)
  (.cond (.t 94) (.seq (.region c9_29)
  .ret) .skip))
  (.region c9_30)))))
  .skip))
  (.region c9_31))))
def c9_33 : List COper := [
  ⟨(some 99), .s (.load none (.t 8)), none, 0⟩,
  ⟨(some 2), .s (.mov (.t 99)), none, 1⟩,
  ⟨(some 3), .s (.mov (.c (.bool true))), none, 3⟩]
def c9 : CFunc := ⟨100, [.t 2, .t 3], (.seq (.region c9_0)
  (.seq (.region c9_1)
  (.seq (.region c9_2)
  (.seq (.seq (.region c9_3)
  (.block 0 (.loop c9_b14)))
  (.seq (.region c9_15)
  (.seq (.region c9_16)
  (.seq (.seq (.region c9_17)
  (.block 4 (.loop c9_b32)))
  (.seq (.region c9_33)
  .ret))))))))⟩

/- 10: conductor/conductorref12.Order -/
def c10_0 : List COper := [
  ⟨(some 2), .s (.mov (.c .nils)), none, 0⟩,
  ⟨(some 3), .s (.mov (.c (.bool false))), none, 1⟩]
def c10_1 : List COper := [
  ⟨(some 4), .s (.mov (.c .nils)), none, 0⟩]
def c10_2 : List COper := [
  ⟨(some 7), .s (.mov (.t 0)), none, 0⟩,
  ⟨(some 8), .s (.len 1 (.t 7)), none, 1⟩,
  ⟨(some 9), .s (.mov (.c (.int .i64 (0)))), none, 0⟩]
def c10_3 : List COper := [
  ⟨(some 10), .s (.bin .lss .no (.t 9) (.t 8)), none, 0⟩]
def c10_4 : List COper := [
  ⟨(some 5), .s (.mov (.c (.int .i64 (-1)))), none, 0⟩]
def c10_5 : List COper := [
  ⟨(some 11), .s (.mov (.t 0)), none, 0⟩,
  ⟨(some 12), .s (.len 1 (.t 11)), none, 1⟩,
  ⟨(some 13), .s (.mov (.c (.int .i64 (0)))), none, 0⟩]
def c10_6 : List COper := [
  ⟨(some 14), .s (.bin .lss .no (.t 13) (.t 12)), none, 0⟩]
def c10_7 : List COper := [
  ⟨(some 15), .s (.mov (.t 13)), none, 0⟩,
  ⟨(some 6), .s (.mov (.t 15)), none, 1⟩]
def c10_8 : List COper := [
  ⟨(some 16), .s (.mov (.t 4)), none, 0⟩,
  ⟨(some 17), .s (.mov (.t 6)), none, 0⟩,
  ⟨(some 18), .call (.c (.func 20 [] [])) [(.t 16), (.t 17)], none, 3⟩,
  ⟨(some 19), .s (.un .not (.t 18)), none, 7⟩,
  ⟨(some 20), .s (.mov (.t 19)), none, 15⟩,
  ⟨(some 21), .s (.mov (.t 0)), some (20, true), 31⟩,
  ⟨(some 22), .s (.mov (.t 4)), some (20, true), 31⟩,
  ⟨(some 23), .s (.mov (.t 6)), some (20, true), 31⟩,
  ⟨(some 24), .call (.c (.func 21 [] [])) [(.t 21), (.t 22), (.t 23)], some (20, true), 255⟩,
  ⟨(some 25), .s (.pick (.t 20) (.t 24) (.c (.bool false))), none, 511⟩,
  ⟨(some 26), .s (.mov (.t 25)), none, 1023⟩,
  ⟨(some 27), .s (.mov (.t 5)), some (26, true), 2047⟩,
  ⟨(some 28), .s (.bin .lss .no (.t 27) (.c (.int .i64 (0)))), some (26, true), 4095⟩,
  ⟨(some 29), .s (.mov (.t 28)), some (26, true), 8191⟩,
  ⟨(some 30), .s (.mov (.t 0)), some (29, false), 16383⟩,
  ⟨(some 31), .s (.mov (.t 6)), some (29, false), 16383⟩,
  ⟨(some 32), .s (.indexAddr 7 (.t 30) (.t 31)), some (29, false), 65535⟩,
  ⟨(some 33), .s (.fieldAddr 4 (.t 32)), some (29, false), 131071⟩,
  ⟨(some 34), .s (.load none (.t 33)), some (29, false), 262143⟩,
  ⟨(some 35), .s (.mov (.t 0)), some (29, false), 16383⟩,
  ⟨(some 36), .s (.mov (.t 5)), some (29, false), 16383⟩,
  ⟨(some 37), .s (.indexAddr 7 (.t 35) (.t 36)), some (29, false), 1589247⟩,
  ⟨(some 38), .s (.fieldAddr 4 (.t 37)), some (29, false), 3686399⟩,
  ⟨(some 39), .s (.load none (.t 38)), some (29, false), 7880703⟩,
  ⟨(some 40), .s (.bin .lss .no (.t 34) (.t 39)), some (29, false), 16777215⟩,
  ⟨(some 41), .s (.pick (.t 29) (.c (.bool true)) (.t 40)), some (26, true), 33554431⟩,
  ⟨(some 42), .s (.pick (.t 26) (.t 41) (.c (.bool false))), none, 67108863⟩]
def c10_8s : List Step := [
  .small 0 ⟨(some 16), .s (.mov (.t 4)), none, 0⟩,
  .small 1 ⟨(some 17), .s (.mov (.t 6)), none, 0⟩,
  .big 2 ⟨(some 18), .call (.c (.func 20 [] [])) [(.t 16), (.t 17)], none, 3⟩,
  .small 3 ⟨(some 19), .s (.un .not (.t 18)), none, 7⟩,
  .small 4 ⟨(some 20), .s (.mov (.t 19)), none, 15⟩,
  .small 5 ⟨(some 21), .s (.mov (.t 0)), some (20, true), 31⟩,
  .small 6 ⟨(some 22), .s (.mov (.t 4)), some (20, true), 31⟩,
  .small 7 ⟨(some 23), .s (.mov (.t 6)), some (20, true), 31⟩,
  .big 8 ⟨(some 24), .call (.c (.func 21 [] [])) [(.t 21), (.t 22), (.t 23)], some (20, true), 255⟩,
  .small 9 ⟨(some 25), .s (.pick (.t 20) (.t 24) (.c (.bool false))), none, 511⟩,
  .small 10 ⟨(some 26), .s (.mov (.t 25)), none, 1023⟩,
  .small 11 ⟨(some 27), .s (.mov (.t 5)), some (26, true), 2047⟩,
  .small 12 ⟨(some 28), .s (.bin .lss .no (.t 27) (.c (.int .i64 (0)))), some (26, true), 4095⟩,
  .small 13 ⟨(some 29), .s (.mov (.t 28)), some (26, true), 8191⟩,
  .small 14 ⟨(some 30), .s (.mov (.t 0)), some (29, false), 16383⟩,
  .small 15 ⟨(some 31), .s (.mov (.t 6)), some (29, false), 16383⟩,
  .small 16 ⟨(some 32), .s (.indexAddr 7 (.t 30) (.t 31)), some (29, false), 65535⟩,
  .small 17 ⟨(some 33), .s (.fieldAddr 4 (.t 32)), some (29, false), 131071⟩,
  .small 18 ⟨(some 34), .s (.load none (.t 33)), some (29, false), 262143⟩,
  .small 19 ⟨(some 35), .s (.mov (.t 0)), some (29, false), 16383⟩,
  .small 20 ⟨(some 36), .s (.mov (.t 5)), some (29, false), 16383⟩,
  .small 21 ⟨(some 37), .s (.indexAddr 7 (.t 35) (.t 36)), some (29, false), 1589247⟩,
  .small 22 ⟨(some 38), .s (.fieldAddr 4 (.t 37)), some (29, false), 3686399⟩,
  .small 23 ⟨(some 39), .s (.load none (.t 38)), some (29, false), 7880703⟩,
  .small 24 ⟨(some 40), .s (.bin .lss .no (.t 34) (.t 39)), some (29, false), 16777215⟩,
  .small 25 ⟨(some 41), .s (.pick (.t 29) (.c (.bool true)) (.t 40)), some (26, true), 33554431⟩,
  .small 26 ⟨(some 42), .s (.pick (.t 26) (.t 41) (.c (.bool false))), none, 67108863⟩]
theorem c10_8h : sched (c10_8.length + 1) (numbered c10_8 0) 0 = some c10_8s := by kernel_rfl
def c10_9 : List COper := [
  ⟨(some 43), .s (.mov (.t 6)), none, 0⟩,
  ⟨(some 5), .s (.mov (.t 43)), none, 1⟩]
def c10_10 : List COper := [
  ⟨(some 44), .s (.bin .add .no (.t 13) (.c (.int .i64 (1)))), none, 0⟩,
  ⟨(some 13), .s (.mov (.t 44)), none, 1⟩]
def c10_b11 : CCode := (.seq (.region c10_6)
  (.seq (.cond (.t 14) .skip (.exit 2))
  (.seq (.block 3 (.seq (.region c10_7)
  (.seq (.draw c10_8)
  (.cond (.t 42) (.region c10_9) .skip))))
  (.region c10_10))))
def c10_12 : List COper := [
  ⟨(some 45), .s (.mov (.t 5)), none, 0⟩,
  ⟨(some 46), .s (.bin .lss .no (.t 45) (.c (.int .i64 (0)))), none, 1⟩]
def c10_13 : List COper := [
  ⟨(some 2), .s (.mov (.c .nils)), none, 0⟩,
  ⟨(some 3), .s (.mov (.c (.bool false))), none, 1⟩]
def c10_14 : List COper := [
  ⟨(some 47), .s (.mov (.t 4)), none, 0⟩,
  ⟨(some 48), .s (.mov (.t 5)), none, 0⟩,
  ⟨(some 49), .m (.buildSlice 1 1 [(.int .i64 (0))] [(0, 1, (.t 48))]), none, 2⟩,
  ⟨(some 50), .h (.append 1 8 false (.t 47) (.t 49)), none, 7⟩,
  ⟨(some 4), .s (.mov (.t 50)), none, 15⟩]
def c10_15 : List COper := [
  ⟨(some 51), .s (.bin .add .no (.t 9) (.c (.int .i64 (1)))), none, 0⟩,
  ⟨(some 9), .s (.mov (.t 51)), none, 1⟩]
def c10_b16 : CCode := (.seq (.region c10_3)
  (.seq (.cond (.t 10) .skip (.exit 0))
  (.seq (.block 1 (.seq (.region c10_4)
  (.seq (.seq (.region c10_5)
  (.block 2 (.loop c10_b11)))
  (.seq (.seq (.region c10_12)
  (.cond (.t 46) (.seq (.region c10_13)
  .ret) .skip))
  (.region c10_14)))))
  (.region c10_15))))
def c10_17 : List COper := [
  ⟨(some 52), .s (.mov (.t 4)), none, 0⟩,
  ⟨(some 2), .s (.mov (.t 52)), none, 1⟩,
  ⟨(some 3), .s (.mov (.c (.bool true))), none, 3⟩]
def c10 : CFunc := ⟨53, [.t 2, .t 3], (.seq (.region c10_0)
  (.seq (.region c10_1)
  (.seq (.seq (.region c10_2)
  (.block 0 (.loop c10_b16)))
  (.seq (.region c10_17)
  .ret))))⟩

/- 11: conductor/conductorref11.SameInts -/
def c11_0 : List COper := [
  ⟨(some 4), .s (.mov (.c (.bool false))), none, 0⟩]
def c11_1 : List COper := [
  ⟨(some 6), .s (.mov (.t 0)), none, 0⟩,
  ⟨(some 7), .s (.len 1 (.t 6)), none, 1⟩,
  ⟨(some 8), .s (.mov (.t 1)), none, 0⟩,
  ⟨(some 9), .s (.len 1 (.t 8)), none, 4⟩,
  ⟨(some 10), .s (.bin .neq .int (.t 7) (.t 9)), none, 15⟩]
def c11_2 : List COper := [
  ⟨(some 4), .s (.mov (.c (.bool false))), none, 0⟩]
def c11_3 : List COper := [
  ⟨(some 11), .s (.mov (.t 0)), none, 0⟩,
  ⟨(some 12), .s (.len 1 (.t 11)), none, 1⟩,
  ⟨(some 13), .s (.mov (.c (.int .i64 (0)))), none, 0⟩]
def c11_4 : List COper := [
  ⟨(some 14), .s (.bin .lss .no (.t 13) (.t 12)), none, 0⟩]
def c11_5 : List COper := [
  ⟨(some 15), .s (.mov (.t 13)), none, 0⟩,
  ⟨(some 5), .s (.mov (.t 15)), none, 1⟩]
def c11_6 : List COper := [
  ⟨(some 16), .s (.mov (.t 0)), none, 0⟩,
  ⟨(some 17), .s (.mov (.t 5)), none, 0⟩,
  ⟨(some 18), .s (.indexAddr 1 (.t 16) (.t 17)), none, 3⟩,
  ⟨(some 19), .s (.load none (.t 18)), none, 7⟩,
  ⟨(some 20), .s (.mov (.t 1)), none, 0⟩,
  ⟨(some 21), .s (.mov (.t 5)), none, 0⟩,
  ⟨(some 22), .s (.indexAddr 1 (.t 20) (.t 21)), none, 48⟩,
  ⟨(some 23), .s (.load none (.t 22)), none, 112⟩,
  ⟨(some 24), .s (.bin .neq .int (.t 19) (.t 23)), none, 255⟩]
def c11_6s : List Step := [
  .small 0 ⟨(some 16), .s (.mov (.t 0)), none, 0⟩,
  .small 1 ⟨(some 17), .s (.mov (.t 5)), none, 0⟩,
  .small 2 ⟨(some 18), .s (.indexAddr 1 (.t 16) (.t 17)), none, 3⟩,
  .small 3 ⟨(some 19), .s (.load none (.t 18)), none, 7⟩,
  .small 4 ⟨(some 20), .s (.mov (.t 1)), none, 0⟩,
  .small 5 ⟨(some 21), .s (.mov (.t 5)), none, 0⟩,
  .small 6 ⟨(some 22), .s (.indexAddr 1 (.t 20) (.t 21)), none, 48⟩,
  .small 7 ⟨(some 23), .s (.load none (.t 22)), none, 112⟩,
  .small 8 ⟨(some 24), .s (.bin .neq .int (.t 19) (.t 23)), none, 255⟩]
theorem c11_6h : sched (c11_6.length + 1) (numbered c11_6 0) 0 = some c11_6s := by kernel_rfl
def c11_7 : List COper := [
  ⟨(some 4), .s (.mov (.c (.bool false))), none, 0⟩]
def c11_8 : List COper := [
  ⟨(some 25), .s (.bin .add .no (.t 13) (.c (.int .i64 (1)))), none, 0⟩,
  ⟨(some 13), .s (.mov (.t 25)), none, 1⟩]
def c11_b9 : CCode := (.seq (.region c11_4)
  (.seq (.cond (.t 14) .skip (.exit 0))
  (.seq (.block 1 (.seq (.region c11_5)
  (.seq (.draw c11_6)
  (.cond (.t 24) (.seq (.region c11_7)
  .ret) .skip))))
  (.region c11_8))))
def c11_10 : List COper := [
  ⟨(some 4), .s (.mov (.c (.bool true))), none, 0⟩]
def c11 : CFunc := ⟨26, [.t 4], (.seq (.region c11_0)
  (.seq (.seq (.region c11_1)
  (.cond (.t 10) (.seq (.region c11_2)
  .ret) .skip))
  (.seq (.seq (.region c11_3)
  (.block 0 (.loop c11_b9)))
  (.seq (.region c11_10)
  .ret))))⟩

/- 12: conductor/order.Edge -/
def c12_0 : List COper := [
  ⟨(some 2), .m (.box (.t 0)), none, 0⟩,
  ⟨(some 3), .m (.box (.t 1)), none, 0⟩,
  ⟨(some 4), .s (.mov (.c (.bool false))), none, 0⟩]
def c12_1 : List COper := [
  ⟨(some 5), .s (.fieldAddr 4 (.t 2)), none, 0⟩,
  ⟨(some 6), .s (.load none (.t 5)), none, 1⟩,
  ⟨(some 7), .s (.fieldAddr 3 (.t 3)), none, 0⟩,
  ⟨(some 8), .s (.load none (.t 7)), none, 4⟩,
  ⟨(some 9), .s (.bin .lss .no (.t 6) (.t 8)), none, 15⟩]
def c12_2 : List COper := [
  ⟨(some 4), .s (.mov (.c (.bool true))), none, 0⟩]
def c12_3 : List COper := [
  ⟨(some 10), .s (.fieldAddr 2 (.t 3)), none, 0⟩,
  ⟨(some 11), .s (.load none (.t 10)), none, 1⟩,
  ⟨(some 12), .s (.fieldAddr 1 (.t 2)), none, 0⟩,
  ⟨(some 13), .s (.load none (.t 12)), none, 4⟩,
  ⟨(some 14), .s (.bin .gtr .no (.t 11) (.t 13)), none, 15⟩,
  ⟨(some 15), .s (.mov (.t 14)), none, 31⟩,
  ⟨(some 16), .s (.fieldAddr 5 (.t 2)), some (15, true), 63⟩,
  ⟨(some 17), .s (.load none (.t 16)), some (15, true), 127⟩,
  ⟨(some 18), .s (.fieldAddr 6 (.t 3)), some (15, true), 63⟩,
  ⟨(some 19), .s (.load none (.t 18)), some (15, true), 319⟩,
  ⟨(some 20), .call (.c (.func 22 [] [])) [(.t 17), (.t 19)], some (15, true), 1023⟩,
  ⟨(some 21), .s (.pick (.t 15) (.t 20) (.c (.bool false))), none, 2047⟩,
  ⟨(some 4), .s (.mov (.t 21)), none, 4095⟩]
def c12 : CFunc := ⟨22, [.t 4], (.seq (.region c12_0)
  (.seq (.seq (.region c12_1)
  (.cond (.t 9) (.seq (.region c12_2)
  .ret) .skip))
  (.seq (.region c12_3)
  .ret)))⟩

/- 13: conductor/conductorref12.Edge -/
def c13_0 : List COper := [
  ⟨(some 2), .m (.box (.t 0)), none, 0⟩,
  ⟨(some 3), .m (.box (.t 1)), none, 0⟩,
  ⟨(some 4), .s (.mov (.c (.bool false))), none, 0⟩]
def c13_1 : List COper := [
  ⟨(some 5), .s (.fieldAddr 4 (.t 2)), none, 0⟩,
  ⟨(some 6), .s (.load none (.t 5)), none, 1⟩,
  ⟨(some 7), .s (.fieldAddr 3 (.t 3)), none, 0⟩,
  ⟨(some 8), .s (.load none (.t 7)), none, 4⟩,
  ⟨(some 9), .s (.bin .lss .no (.t 6) (.t 8)), none, 15⟩,
  ⟨(some 10), .s (.mov (.t 9)), none, 31⟩,
  ⟨(some 11), .s (.fieldAddr 5 (.t 2)), some (10, false), 63⟩,
  ⟨(some 12), .s (.load none (.t 11)), some (10, false), 127⟩,
  ⟨(some 13), .s (.fieldAddr 6 (.t 3)), some (10, false), 63⟩,
  ⟨(some 14), .s (.load none (.t 13)), some (10, false), 319⟩,
  ⟨(some 15), .call (.c (.func 23 [] [])) [(.t 12), (.t 14)], some (10, false), 1023⟩,
  ⟨(some 16), .s (.mov (.t 15)), some (10, false), 2047⟩,
  ⟨(some 17), .s (.fieldAddr 2 (.t 3)), some (16, true), 4095⟩,
  ⟨(some 18), .s (.load none (.t 17)), some (16, true), 8191⟩,
  ⟨(some 19), .s (.fieldAddr 1 (.t 2)), some (16, true), 4095⟩,
  ⟨(some 20), .s (.load none (.t 19)), some (16, true), 20479⟩,
  ⟨(some 21), .s (.bin .gtr .no (.t 18) (.t 20)), some (16, true), 65535⟩,
  ⟨(some 22), .s (.pick (.t 16) (.t 21) (.c (.bool false))), some (10, false), 131071⟩,
  ⟨(some 23), .s (.pick (.t 10) (.c (.bool true)) (.t 22)), none, 262143⟩,
  ⟨(some 4), .s (.mov (.t 23)), none, 524287⟩]
def c13 : CFunc := ⟨24, [.t 4], (.seq (.region c13_0)
  (.seq (.region c13_1)
  .ret))⟩

/- 14: conductor/order.Right -/
def c14_0 : List COper := [
  ⟨(some 4), .s (.mov (.c (.bool false))), none, 0⟩]
def c14_1 : List COper := [
  ⟨(some 10), .s (.mov (.t 1)), none, 0⟩,
  ⟨(some 11), .s (.len 1 (.t 10)), none, 1⟩,
  ⟨(some 12), .s (.mov (.t 0)), none, 0⟩,
  ⟨(some 13), .s (.len 1 (.t 12)), none, 4⟩,
  ⟨(some 14), .s (.bin .neq .int (.t 11) (.t 13)), none, 15⟩]
def c14_2 : List COper := [
  ⟨(some 4), .s (.mov (.c (.bool false))), none, 0⟩]
def c14_3 : List COper := [
  ⟨(some 15), .s (.mov (.t 0)), none, 0⟩,
  ⟨(some 16), .s (.len 1 (.t 15)), none, 1⟩,
  ⟨(some 17), .m (.makeSlice 1 8 [(.int .i64 (0))] (.t 16) (.t 16)), none, 3⟩,
  ⟨(some 5), .s (.mov (.t 17)), none, 7⟩]
def c14_4 : List COper := [
  ⟨(some 18), .s (.mov (.t 1)), none, 0⟩,
  ⟨(some 19), .s (.len 1 (.t 18)), none, 1⟩,
  ⟨(some 20), .s (.mov (.c (.int .i64 (0)))), none, 0⟩]
def c14_5 : List COper := [
  ⟨(some 21), .s (.bin .lss .no (.t 20) (.t 19)), none, 0⟩]
def c14_6 : List COper := [
  ⟨(some 22), .s (.mov (.t 20)), none, 0⟩,
  ⟨(some 23), .s (.indexAddr 1 (.t 18) (.t 20)), none, 0⟩,
  ⟨(some 24), .s (.load none (.t 23)), none, 2⟩,
  ⟨(some 6), .s (.mov (.t 22)), none, 7⟩,
  ⟨(some 7), .s (.mov (.t 24)), none, 15⟩]
def c14_7 : List COper := [
  ⟨(some 25), .s (.mov (.t 7)), none, 0⟩,
  ⟨(some 26), .s (.bin .lss .no (.t 25) (.c (.int .i64 (0)))), none, 1⟩,
  ⟨(some 27), .s (.mov (.t 26)), none, 3⟩,
  ⟨(some 28), .s (.mov (.t 7)), some (27, false), 7⟩,
  ⟨(some 29), .s (.mov (.t 0)), some (27, false), 7⟩,
  ⟨(some 30), .s (.len 1 (.t 29)), some (27, false), 23⟩,
  ⟨(some 31), .s (.bin .geq .no (.t 28) (.t 30)), some (27, false), 63⟩,
  ⟨(some 32), .s (.pick (.t 27) (.c (.bool true)) (.t 31)), none, 127⟩,
  ⟨(some 33), .s (.mov (.t 32)), none, 255⟩,
  ⟨(some 34), .s (.mov (.t 5)), some (33, false), 511⟩,
  ⟨(some 35), .s (.mov (.t 7)), some (33, false), 511⟩,
  ⟨(some 36), .s (.indexAddr 1 (.t 34) (.t 35)), some (33, false), 2047⟩,
  ⟨(some 37), .s (.load none (.t 36)), some (33, false), 4095⟩,
  ⟨(some 38), .s (.bin .gtr .no (.t 37) (.c (.int .i64 (0)))), some (33, false), 8191⟩,
  ⟨(some 39), .s (.pick (.t 33) (.c (.bool true)) (.t 38)), none, 16383⟩]
def c14_8 : List COper := [
  ⟨(some 4), .s (.mov (.c (.bool false))), none, 0⟩]
def c14_9 : List COper := [
  ⟨(some 40), .s (.mov (.t 5)), none, 0⟩,
  ⟨(some 41), .s (.mov (.t 7)), none, 0⟩,
  ⟨(some 42), .s (.mov (.t 6)), none, 0⟩,
  ⟨(some 43), .s (.bin .add .no (.t 42) (.c (.int .i64 (1)))), none, 4⟩,
  ⟨(some 44), .s (.indexAddr 1 (.t 40) (.t 41)), none, 15⟩,
  ⟨none, .h (.store 1 (.t 44) (.t 43)), none, 31⟩]
def c14_10 : List COper := [
  ⟨(some 45), .s (.bin .add .no (.t 20) (.c (.int .i64 (1)))), none, 0⟩,
  ⟨(some 20), .s (.mov (.t 45)), none, 1⟩]
def c14_b11 : CCode := (.seq (.region c14_5)
  (.seq (.cond (.t 21) .skip (.exit 0))
  (.seq (.block 1 (.seq (.region c14_6)
  (.seq (.seq (.region c14_7)
  (.cond (.t 39) (.seq (.region c14_8)
  .ret) .skip))
  (.region c14_9))))
  (.region c14_10))))
def c14_12 : List COper := [
  ⟨(some 46), .s (.mov (.t 0)), none, 0⟩,
  ⟨(some 47), .s (.len 1 (.t 46)), none, 1⟩,
  ⟨(some 48), .s (.mov (.c (.int .i64 (0)))), none, 0⟩]
def c14_13 : List COper := [
  ⟨(some 49), .s (.bin .lss .no (.t 48) (.t 47)), none, 0⟩]
def c14_14 : List COper := [
  ⟨(some 50), .s (.mov (.t 48)), none, 0⟩,
  ⟨(some 8), .s (.mov (.t 50)), none, 1⟩]
def c14_15 : List COper := [
  ⟨(some 51), .s (.mov (.t 0)), none, 0⟩,
  ⟨(some 52), .s (.len 1 (.t 51)), none, 1⟩,
  ⟨(some 53), .s (.mov (.c (.int .i64 (0)))), none, 0⟩]
def c14_16 : List COper := [
  ⟨(some 54), .s (.bin .lss .no (.t 53) (.t 52)), none, 0⟩]
def c14_17 : List COper := [
  ⟨(some 55), .s (.mov (.t 53)), none, 0⟩,
  ⟨(some 9), .s (.mov (.t 55)), none, 1⟩]
def c14_18 : List COper := [
  ⟨(some 56), .s (.mov (.t 8)), none, 0⟩,
  ⟨(some 57), .s (.mov (.t 9)), none, 0⟩,
  ⟨(some 58), .s (.bin .neq .int (.t 56) (.t 57)), none, 3⟩,
  ⟨(some 59), .s (.mov (.t 58)), none, 7⟩,
  ⟨(some 60), .s (.mov (.t 5)), some (59, true), 15⟩,
  ⟨(some 61), .s (.mov (.t 8)), some (59, true), 15⟩,
  ⟨(some 62), .s (.indexAddr 1 (.t 60) (.t 61)), some (59, true), 63⟩,
  ⟨(some 63), .s (.load none (.t 62)), some (59, true), 127⟩,
  ⟨(some 64), .s (.mov (.t 5)), some (59, true), 15⟩,
  ⟨(some 65), .s (.mov (.t 9)), some (59, true), 15⟩,
  ⟨(some 66), .s (.indexAddr 1 (.t 64) (.t 65)), some (59, true), 783⟩,
  ⟨(some 67), .s (.load none (.t 66)), some (59, true), 1807⟩,
  ⟨(some 68), .s (.bin .gtr .no (.t 63) (.t 67)), some (59, true), 4095⟩,
  ⟨(some 69), .s (.pick (.t 59) (.t 68) (.c (.bool false))), none, 8191⟩,
  ⟨(some 70), .s (.mov (.t 69)), none, 16383⟩,
  ⟨(some 71), .s (.mov (.t 0)), some (70, true), 32767⟩,
  ⟨(some 72), .s (.mov (.t 8)), some (70, true), 32767⟩,
  ⟨(some 73), .s (.indexAddr 7 (.t 71) (.t 72)), some (70, true), 131071⟩,
  ⟨(some 74), .s (.load (some 7) (.t 73)), some (70, true), 262143⟩,
  ⟨(some 75), .s (.mov (.t 0)), some (70, true), 32767⟩,
  ⟨(some 76), .s (.mov (.t 9)), some (70, true), 32767⟩,
  ⟨(some 77), .s (.indexAddr 7 (.t 75) (.t 76)), some (70, true), 1605631⟩,
  ⟨(some 78), .s (.load (some 7) (.t 77)), some (70, true), 3702783⟩,
  ⟨(some 79), .call (.c (.func 12 [] [])) [(.t 74), (.t 78)], some (70, true), 8388607⟩,
  ⟨(some 80), .s (.pick (.t 70) (.t 79) (.c (.bool false))), none, 16777215⟩]
def c14_18s : List Step := [
  .small 0 ⟨(some 56), .s (.mov (.t 8)), none, 0⟩,
  .small 1 ⟨(some 57), .s (.mov (.t 9)), none, 0⟩,
  .small 2 ⟨(some 58), .s (.bin .neq .int (.t 56) (.t 57)), none, 3⟩,
  .small 3 ⟨(some 59), .s (.mov (.t 58)), none, 7⟩,
  .small 4 ⟨(some 60), .s (.mov (.t 5)), some (59, true), 15⟩,
  .small 5 ⟨(some 61), .s (.mov (.t 8)), some (59, true), 15⟩,
  .small 6 ⟨(some 62), .s (.indexAddr 1 (.t 60) (.t 61)), some (59, true), 63⟩,
  .small 7 ⟨(some 63), .s (.load none (.t 62)), some (59, true), 127⟩,
  .small 8 ⟨(some 64), .s (.mov (.t 5)), some (59, true), 15⟩,
  .small 9 ⟨(some 65), .s (.mov (.t 9)), some (59, true), 15⟩,
  .small 10 ⟨(some 66), .s (.indexAddr 1 (.t 64) (.t 65)), some (59, true), 783⟩,
  .small 11 ⟨(some 67), .s (.load none (.t 66)), some (59, true), 1807⟩,
  .small 12 ⟨(some 68), .s (.bin .gtr .no (.t 63) (.t 67)), some (59, true), 4095⟩,
  .small 13 ⟨(some 69), .s (.pick (.t 59) (.t 68) (.c (.bool false))), none, 8191⟩,
  .small 14 ⟨(some 70), .s (.mov (.t 69)), none, 16383⟩,
  .small 15 ⟨(some 71), .s (.mov (.t 0)), some (70, true), 32767⟩,
  .small 16 ⟨(some 72), .s (.mov (.t 8)), some (70, true), 32767⟩,
  .small 17 ⟨(some 73), .s (.indexAddr 7 (.t 71) (.t 72)), some (70, true), 131071⟩,
  .small 18 ⟨(some 74), .s (.load (some 7) (.t 73)), some (70, true), 262143⟩,
  .small 19 ⟨(some 75), .s (.mov (.t 0)), some (70, true), 32767⟩,
  .small 20 ⟨(some 76), .s (.mov (.t 9)), some (70, true), 32767⟩,
  .small 21 ⟨(some 77), .s (.indexAddr 7 (.t 75) (.t 76)), some (70, true), 1605631⟩,
  .small 22 ⟨(some 78), .s (.load (some 7) (.t 77)), some (70, true), 3702783⟩,
  .big 23 ⟨(some 79), .call (.c (.func 12 [] [])) [(.t 74), (.t 78)], some (70, true), 8388607⟩,
  .small 24 ⟨(some 80), .s (.pick (.t 70) (.t 79) (.c (.bool false))), none, 16777215⟩]
theorem c14_18h : sched (c14_18.length + 1) (numbered c14_18 0) 0 = some c14_18s := by kernel_rfl
def c14_19 : List COper := [
  ⟨(some 4), .s (.mov (.c (.bool false))), none, 0⟩]
def c14_20 : List COper := [
  ⟨(some 81), .s (.bin .add .no (.t 53) (.c (.int .i64 (1)))), none, 0⟩,
  ⟨(some 53), .s (.mov (.t 81)), none, 1⟩]
def c14_b21 : CCode := (.seq (.region c14_16)
  (.seq (.cond (.t 54) .skip (.exit 4))
  (.seq (.block 5 (.seq (.region c14_17)
  (.seq (.draw c14_18)
  (.cond (.t 80) (.seq (.region c14_19)
  .ret) .skip))))
  (.region c14_20))))
def c14_22 : List COper := [
  ⟨(some 82), .s (.bin .add .no (.t 48) (.c (.int .i64 (1)))), none, 0⟩,
  ⟨(some 48), .s (.mov (.t 82)), none, 1⟩]
def c14_b23 : CCode := (.seq (.region c14_13)
  (.seq (.cond (.t 49) .skip (.exit 2))
  (.seq (.block 3 (.seq (.region c14_14)
  (.seq (.region c14_15)
  (.block 4 (.loop c14_b21)))))
  (.region c14_22))))
def c14_24 : List COper := [
  ⟨(some 4), .s (.mov (.c (.bool true))), none, 0⟩]
def c14 : CFunc := ⟨83, [.t 4], (.seq (.region c14_0)
  (.seq (.seq (.region c14_1)
  (.cond (.t 14) (.seq (.region c14_2)
  .ret) .skip))
  (.seq (.region c14_3)
  (.seq (.seq (.region c14_4)
  (.block 0 (.loop c14_b11)))
  (.seq (.seq (.region c14_12)
  (.block 2 (.loop c14_b23)))
  (.seq (.region c14_24)
  .ret))))))⟩

/- 15: conductor/conductorref12.Right -/
def c15_0 : List COper := [
  ⟨(some 4), .s (.mov (.c (.bool false))), none, 0⟩]
def c15_1 : List COper := [
  ⟨(some 9), .s (.mov (.t 1)), none, 0⟩,
  ⟨(some 10), .s (.len 1 (.t 9)), none, 1⟩,
  ⟨(some 11), .s (.mov (.t 0)), none, 0⟩,
  ⟨(some 12), .s (.len 1 (.t 11)), none, 4⟩,
  ⟨(some 13), .s (.bin .neq .int (.t 10) (.t 12)), none, 15⟩]
def c15_2 : List COper := [
  ⟨(some 4), .s (.mov (.c (.bool false))), none, 0⟩]
def c15_3 : List COper := [
  ⟨(some 14), .s (.mov (.t 1)), none, 0⟩,
  ⟨(some 15), .s (.len 1 (.t 14)), none, 1⟩,
  ⟨(some 16), .s (.mov (.c (.int .i64 (0)))), none, 0⟩]
def c15_4 : List COper := [
  ⟨(some 17), .s (.bin .lss .no (.t 16) (.t 15)), none, 0⟩]
def c15_5 : List COper := [
  ⟨(some 18), .s (.mov (.t 16)), none, 0⟩,
  ⟨(some 19), .s (.indexAddr 1 (.t 14) (.t 16)), none, 0⟩,
  ⟨(some 20), .s (.load none (.t 19)), none, 2⟩,
  ⟨(some 5), .s (.mov (.t 18)), none, 7⟩,
  ⟨(some 6), .s (.mov (.t 20)), none, 15⟩]
def c15_6 : List COper := [
  ⟨(some 21), .s (.mov (.t 6)), none, 0⟩,
  ⟨(some 22), .s (.bin .lss .no (.t 21) (.c (.int .i64 (0)))), none, 1⟩,
  ⟨(some 23), .s (.mov (.t 22)), none, 3⟩,
  ⟨(some 24), .s (.mov (.t 6)), some (23, false), 7⟩,
  ⟨(some 25), .s (.mov (.t 0)), some (23, false), 7⟩,
  ⟨(some 26), .s (.len 1 (.t 25)), some (23, false), 23⟩,
  ⟨(some 27), .s (.bin .geq .no (.t 24) (.t 26)), some (23, false), 63⟩,
  ⟨(some 28), .s (.pick (.t 23) (.c (.bool true)) (.t 27)), none, 127⟩,
  ⟨(some 29), .s (.mov (.t 28)), none, 255⟩,
  ⟨(some 30), .s (.mov (.t 1)), some (29, false), 511⟩,
  ⟨(some 31), .s (.mov (.t 5)), some (29, false), 511⟩,
  ⟨(some 32), .s (.slice 1 (.t 30) none (some (.t 31)) none), some (29, false), 2047⟩,
  ⟨(some 33), .s (.mov (.t 6)), some (29, false), 511⟩,
  ⟨(some 34), .call (.c (.func 20 [] [])) [(.t 32), (.t 33)], some (29, false), 8191⟩,
  ⟨(some 35), .s (.pick (.t 29) (.c (.bool true)) (.t 34)), none, 16383⟩]
def c15_7 : List COper := [
  ⟨(some 4), .s (.mov (.c (.bool false))), none, 0⟩]
def c15_8 : List COper := [
  ⟨(some 36), .s (.mov (.t 1)), none, 0⟩,
  ⟨(some 37), .s (.mov (.t 5)), none, 0⟩,
  ⟨(some 38), .s (.slice 1 (.t 36) none (some (.t 37)) none), none, 3⟩,
  ⟨(some 39), .s (.len 1 (.t 38)), none, 7⟩,
  ⟨(some 40), .s (.mov (.c (.int .i64 (0)))), none, 0⟩]
def c15_9 : List COper := [
  ⟨(some 41), .s (.bin .lss .no (.t 40) (.t 39)), none, 0⟩]
def c15_10 : List COper := [
  ⟨(some 42), .s (.indexAddr 1 (.t 38) (.t 40)), none, 0⟩,
  ⟨(some 43), .s (.load none (.t 42)), none, 1⟩,
  ⟨(some 8), .s (.mov (.t 43)), none, 3⟩]
def c15_11 : List COper := [
  ⟨(some 44), .s (.mov (.t 0)), none, 0⟩,
  ⟨(some 45), .s (.mov (.t 6)), none, 0⟩,
  ⟨(some 46), .s (.indexAddr 7 (.t 44) (.t 45)), none, 3⟩,
  ⟨(some 47), .s (.load (some 7) (.t 46)), none, 7⟩,
  ⟨(some 48), .s (.mov (.t 0)), none, 0⟩,
  ⟨(some 49), .s (.mov (.t 8)), none, 0⟩,
  ⟨(some 50), .s (.indexAddr 7 (.t 48) (.t 49)), none, 48⟩,
  ⟨(some 51), .s (.load (some 7) (.t 50)), none, 112⟩,
  ⟨(some 52), .call (.c (.func 13 [] [])) [(.t 47), (.t 51)], none, 255⟩]
def c15_11s : List Step := [
  .small 0 ⟨(some 44), .s (.mov (.t 0)), none, 0⟩,
  .small 1 ⟨(some 45), .s (.mov (.t 6)), none, 0⟩,
  .small 2 ⟨(some 46), .s (.indexAddr 7 (.t 44) (.t 45)), none, 3⟩,
  .small 3 ⟨(some 47), .s (.load (some 7) (.t 46)), none, 7⟩,
  .small 4 ⟨(some 48), .s (.mov (.t 0)), none, 0⟩,
  .small 5 ⟨(some 49), .s (.mov (.t 8)), none, 0⟩,
  .small 6 ⟨(some 50), .s (.indexAddr 7 (.t 48) (.t 49)), none, 48⟩,
  .small 7 ⟨(some 51), .s (.load (some 7) (.t 50)), none, 112⟩,
  .big 8 ⟨(some 52), .call (.c (.func 13 [] [])) [(.t 47), (.t 51)], none, 255⟩]
theorem c15_11h : sched (c15_11.length + 1) (numbered c15_11 0) 0 = some c15_11s := by kernel_rfl
def c15_12 : List COper := [
  ⟨(some 4), .s (.mov (.c (.bool false))), none, 0⟩]
def c15_13 : List COper := [
  ⟨(some 53), .s (.bin .add .no (.t 40) (.c (.int .i64 (1)))), none, 0⟩,
  ⟨(some 40), .s (.mov (.t 53)), none, 1⟩]
def c15_b14 : CCode := (.seq (.region c15_9)
  (.seq (.cond (.t 41) .skip (.exit 2))
  (.seq (.block 3 (.seq (.region c15_10)
  (.seq (.draw c15_11)
  (.cond (.t 52) (.seq (.region c15_12)
  .ret) .skip))))
  (.region c15_13))))
def c15_15 : List COper := [
  ⟨(some 54), .s (.bin .add .no (.t 16) (.c (.int .i64 (1)))), none, 0⟩,
  ⟨(some 16), .s (.mov (.t 54)), none, 1⟩]
def c15_b16 : CCode := (.seq (.region c15_4)
  (.seq (.cond (.t 17) .skip (.exit 0))
  (.seq (.block 1 (.seq (.region c15_5)
  (.seq (.seq (.region c15_6)
  (.cond (.t 35) (.seq (.region c15_7)
  .ret) .skip))
  (.seq (.region c15_8)
  (.block 2 (.loop c15_b14))))))
  (.region c15_15))))
def c15_17 : List COper := [
  ⟨(some 4), .s (.mov (.c (.bool true))), none, 0⟩]
def c15 : CFunc := ⟨55, [.t 4], (.seq (.region c15_0)
  (.seq (.seq (.region c15_1)
  (.cond (.t 13) (.seq (.region c15_2)
  .ret) .skip))
  (.seq (.seq (.region c15_3)
  (.block 0 (.loop c15_b16)))
  (.seq (.region c15_17)
  .ret))))⟩

/- 16: conductor/conductorlaw12.ring -/
def c16_0 : List COper := [
  ⟨(some 2), .s (.mov (.c (.bool false))), none, 0⟩]
def c16_1 : List COper := [
  ⟨(some 10), .m (.buildSlice 7 0 [(.int .i64 (0)), (.int .u64 (0)), (.int .u64 (0)), (.int .i64 (0)), (.int .i64 (0)), .nils, .nils] []), none, 0⟩,
  ⟨(some 11), .s (.mov (.t 0)), none, 0⟩,
  ⟨(some 12), .h (.append 7 88 false (.t 10) (.t 11)), none, 3⟩,
  ⟨(some 3), .s (.mov (.t 12)), none, 7⟩]
def c16_2 : List COper := [
  ⟨(some 13), .s (.mov (.t 0)), none, 0⟩,
  ⟨(some 14), .s (.len 1 (.t 13)), none, 1⟩,
  ⟨(some 15), .s (.mov (.c (.int .i64 (0)))), none, 0⟩]
def c16_3 : List COper := [
  ⟨(some 16), .s (.bin .lss .no (.t 15) (.t 14)), none, 0⟩]
def c16_4 : List COper := [
  ⟨(some 4), .s (.mov (.c .nils)), none, 0⟩]
def c16_5 : List COper := [
  ⟨(some 17), .s (.mov (.t 3)), none, 0⟩,
  ⟨(some 18), .s (.len 1 (.t 17)), none, 1⟩,
  ⟨(some 19), .s (.mov (.c (.int .i64 (0)))), none, 0⟩]
def c16_6 : List COper := [
  ⟨(some 20), .s (.bin .lss .no (.t 19) (.t 18)), none, 0⟩]
def c16_7 : List COper := [
  ⟨(some 21), .s (.mov (.t 19)), none, 0⟩,
  ⟨(some 22), .s (.indexAddr 7 (.t 17) (.t 19)), none, 0⟩,
  ⟨(some 23), .s (.load (some 7) (.t 22)), none, 2⟩,
  ⟨(some 6), .m (.alloc [(.int .i64 (0)), (.int .u64 (0)), (.int .u64 (0)), (.int .i64 (0)), (.int .i64 (0)), .nils, .nils]), none, 0⟩,
  ⟨(some 5), .s (.mov (.t 21)), none, 15⟩,
  ⟨none, .h (.store 7 (.t 6) (.t 23)), none, 31⟩]
def c16_8 : List COper := [
  ⟨(some 7), .s (.mov (.c (.bool false))), none, 0⟩]
def c16_9 : List COper := [
  ⟨(some 24), .s (.mov (.t 3)), none, 0⟩,
  ⟨(some 25), .s (.len 1 (.t 24)), none, 1⟩,
  ⟨(some 26), .s (.mov (.c (.int .i64 (0)))), none, 0⟩]
def c16_10 : List COper := [
  ⟨(some 27), .s (.bin .lss .no (.t 26) (.t 25)), none, 0⟩]
def c16_11 : List COper := [
  ⟨(some 28), .s (.mov (.t 26)), none, 0⟩,
  ⟨(some 29), .s (.indexAddr 7 (.t 24) (.t 26)), none, 0⟩,
  ⟨(some 30), .s (.load (some 7) (.t 29)), none, 2⟩,
  ⟨(some 9), .m (.alloc [(.int .i64 (0)), (.int .u64 (0)), (.int .u64 (0)), (.int .i64 (0)), (.int .i64 (0)), .nils, .nils]), none, 0⟩,
  ⟨(some 8), .s (.mov (.t 28)), none, 15⟩,
  ⟨none, .h (.store 7 (.t 9) (.t 30)), none, 31⟩]
def c16_12 : List COper := [
  ⟨(some 31), .s (.mov (.t 7)), none, 0⟩,
  ⟨(some 32), .s (.mov (.t 31)), none, 1⟩,
  ⟨(some 33), .s (.mov (.t 8)), some (32, false), 3⟩,
  ⟨(some 34), .s (.mov (.t 5)), some (32, false), 3⟩,
  ⟨(some 35), .s (.bin .neq .int (.t 33) (.t 34)), some (32, false), 15⟩,
  ⟨(some 36), .s (.mov (.t 35)), some (32, false), 31⟩,
  ⟨(some 37), .s (.load (some 7) (.t 9)), some (36, true), 63⟩,
  ⟨(some 38), .s (.load (some 7) (.t 6)), some (36, true), 63⟩,
  ⟨(some 39), .call (.c (.func 12 [] [])) [(.t 37), (.t 38)], some (36, true), 255⟩,
  ⟨(some 40), .s (.pick (.t 36) (.t 39) (.c (.bool false))), some (32, false), 511⟩,
  ⟨(some 41), .s (.pick (.t 32) (.c (.bool true)) (.t 40)), none, 1023⟩,
  ⟨(some 7), .s (.mov (.t 41)), none, 2047⟩]
def c16_13 : List COper := [
  ⟨(some 42), .s (.bin .add .no (.t 26) (.c (.int .i64 (1)))), none, 0⟩,
  ⟨(some 26), .s (.mov (.t 42)), none, 1⟩]
def c16_b14 : CCode := (.seq (.region c16_10)
  (.seq (.cond (.t 27) .skip (.exit 4))
  (.seq (.block 5 (.seq (.region c16_11)
  (.region c16_12)))
  (.region c16_13))))
def c16_15 : List COper := [
  ⟨(some 43), .s (.mov (.t 7)), none, 0⟩]
def c16_16 : List COper := [
  ⟨(some 44), .s (.mov (.t 4)), none, 0⟩,
  ⟨(some 45), .s (.load (some 7) (.t 6)), none, 0⟩,
  ⟨(some 46), .m (.buildSlice 7 1 [(.int .i64 (0)), (.int .u64 (0)), (.int .u64 (0)), (.int .i64 (0)), (.int .i64 (0)), .nils, .nils] [(0, 7, (.t 45))]), none, 2⟩,
  ⟨(some 47), .h (.append 7 88 false (.t 44) (.t 46)), none, 7⟩,
  ⟨(some 4), .s (.mov (.t 47)), none, 15⟩]
def c16_17 : List COper := [
  ⟨(some 48), .s (.bin .add .no (.t 19) (.c (.int .i64 (1)))), none, 0⟩,
  ⟨(some 19), .s (.mov (.t 48)), none, 1⟩]
def c16_b18 : CCode := (.seq (.region c16_6)
  (.seq (.cond (.t 20) .skip (.exit 2))
  (.seq (.block 3 (.seq (.region c16_7)
  (.seq (.region c16_8)
  (.seq (.seq (.region c16_9)
  (.block 4 (.loop c16_b14)))
  (.seq (.region c16_15)
  (.cond (.t 43) (.region c16_16) .skip))))))
  (.region c16_17))))
def c16_19 : List COper := [
  ⟨(some 49), .s (.mov (.t 4)), none, 0⟩,
  ⟨(some 3), .s (.mov (.t 49)), none, 1⟩]
def c16_20 : List COper := [
  ⟨(some 50), .s (.bin .add .no (.t 15) (.c (.int .i64 (1)))), none, 0⟩,
  ⟨(some 15), .s (.mov (.t 50)), none, 1⟩]
def c16_b21 : CCode := (.seq (.region c16_3)
  (.seq (.cond (.t 16) .skip (.exit 0))
  (.seq (.block 1 (.seq (.region c16_4)
  (.seq (.seq (.region c16_5)
  (.block 2 (.loop c16_b18)))
  (.region c16_19))))
  (.region c16_20))))
def c16_22 : List COper := [
  ⟨(some 51), .s (.mov (.t 3)), none, 0⟩,
  ⟨(some 52), .s (.len 1 (.t 51)), none, 1⟩,
  ⟨(some 53), .s (.bin .gtr .no (.t 52) (.c (.int .i64 (0)))), none, 3⟩,
  ⟨(some 2), .s (.mov (.t 53)), none, 7⟩]
def c16 : CFunc := ⟨54, [.t 2], (.seq (.region c16_0)
  (.seq (.region c16_1)
  (.seq (.seq (.region c16_2)
  (.block 0 (.loop c16_b21)))
  (.seq (.region c16_22)
  .ret))))⟩

/- 17: conductor/conductorlaw12.two -/
def c17_0 : List COper := [
  ⟨(some 0), .s (.mov (.c .nils)), none, 0⟩]
def c17_1 : List COper := [
  ⟨(some 2), .call (.c (.func 24 [] [])) [(.c (.str [120]))], none, 0⟩,
  ⟨(some 3), .m (.buildSlice 2 1 [(.str []), (.str [])] [(0, 2, (.t 2))]), none, 1⟩,
  ⟨(some 1), .s (.mov (.t 3)), none, 3⟩]
def c17_2 : List COper := [
  ⟨(some 4), .s (.mov (.t 1)), none, 0⟩,
  ⟨(some 5), .s (.build [(.int .i64 (0)), (.int .u64 (0)), (.int .u64 (0)), (.int .i64 (0)), (.int .i64 (0)), .nils, .nils] [(0, 1, (.c (.int .i64 (1)))), (3, 1, (.c (.int .i64 (1)))), (4, 1, (.c (.int .i64 (4)))), (5, 1, (.t 4))]), none, 1⟩,
  ⟨(some 6), .s (.mov (.t 1)), none, 0⟩,
  ⟨(some 7), .s (.build [(.int .i64 (0)), (.int .u64 (0)), (.int .u64 (0)), (.int .i64 (0)), (.int .i64 (0)), .nils, .nils] [(0, 1, (.c (.int .i64 (2)))), (2, 1, (.c (.int .u64 (1)))), (3, 1, (.c (.int .i64 (2)))), (4, 1, (.c (.int .i64 (3)))), (6, 1, (.t 6))]), none, 4⟩,
  ⟨(some 8), .m (.buildSlice 7 2 [(.int .i64 (0)), (.int .u64 (0)), (.int .u64 (0)), (.int .i64 (0)), (.int .i64 (0)), .nils, .nils] [(0, 7, (.t 5)), (7, 7, (.t 7))]), none, 15⟩,
  ⟨(some 0), .s (.mov (.t 8)), none, 31⟩]
def c17 : CFunc := ⟨9, [.t 0], (.seq (.region c17_0)
  (.seq (.region c17_1)
  (.seq (.region c17_2)
  .ret)))⟩

/- 18: conductor/conductorlaw09.Few -/
def c18_0 : List COper := [
  ⟨(some 2), .s (.mov (.c (.bool false))), none, 0⟩]
def c18_1 : List COper := [
  ⟨(some 5), .s (.mov (.t 0)), none, 0⟩,
  ⟨(some 6), .s (.len 1 (.t 5)), none, 1⟩,
  ⟨(some 7), .s (.mov (.c (.int .i64 (0)))), none, 0⟩]
def c18_2 : List COper := [
  ⟨(some 8), .s (.bin .lss .no (.t 7) (.t 6)), none, 0⟩]
def c18_3 : List COper := [
  ⟨(some 9), .s (.indexAddr 2 (.t 5) (.t 7)), none, 0⟩,
  ⟨(some 10), .s (.load (some 2) (.t 9)), none, 1⟩,
  ⟨(some 4), .m (.alloc [(.str []), (.str [])]), none, 0⟩,
  ⟨none, .h (.store 2 (.t 4) (.t 10)), none, 7⟩]
def c18_4 : List COper := [
  ⟨(some 11), .s (.fieldAddr 0 (.t 4)), none, 0⟩,
  ⟨(some 12), .s (.load none (.t 11)), none, 1⟩,
  ⟨(some 13), .s (.len 0 (.t 12)), none, 3⟩,
  ⟨(some 14), .s (.bin .gtr .no (.t 13) (.c (.int .i64 (300)))), none, 7⟩,
  ⟨(some 15), .s (.mov (.t 14)), none, 15⟩,
  ⟨(some 16), .s (.fieldAddr 1 (.t 4)), some (15, false), 31⟩,
  ⟨(some 17), .s (.load none (.t 16)), some (15, false), 63⟩,
  ⟨(some 18), .s (.len 0 (.t 17)), some (15, false), 127⟩,
  ⟨(some 19), .s (.bin .gtr .no (.t 18) (.c (.int .i64 (300)))), some (15, false), 255⟩,
  ⟨(some 20), .s (.pick (.t 15) (.c (.bool true)) (.t 19)), none, 511⟩]
def c18_5 : List COper := [
  ⟨(some 2), .s (.mov (.c (.bool false))), none, 0⟩]
def c18_6 : List COper := [
  ⟨(some 21), .s (.bin .add .no (.t 7) (.c (.int .i64 (1)))), none, 0⟩,
  ⟨(some 7), .s (.mov (.t 21)), none, 1⟩]
def c18_b7 : CCode := (.seq (.region c18_2)
  (.seq (.cond (.t 8) .skip (.exit 0))
  (.seq (.block 1 (.seq (.region c18_3)
  (.seq (.region c18_4)
  (.cond (.t 20) (.seq (.region c18_5)
  .ret) .skip))))
  (.region c18_6))))
def c18_8 : List COper := [
  ⟨(some 22), .s (.mov (.t 0)), none, 0⟩,
  ⟨(some 23), .s (.len 1 (.t 22)), none, 1⟩,
  ⟨(some 24), .s (.bin .leq .no (.t 23) (.c (.int .i64 (40)))), none, 3⟩,
  ⟨(some 2), .s (.mov (.t 24)), none, 7⟩]
def c18 : CFunc := ⟨25, [.t 2], (.seq (.region c18_0)
  (.seq (.seq (.region c18_1)
  (.block 0 (.loop c18_b7)))
  (.seq (.region c18_8)
  .ret)))⟩

/- 19: conductor/order.Order$1 -/
def c19_0 : List COper := [
  ⟨(some 7), .s (.load none (.t 1)), none, 0⟩,
  ⟨(some 8), .s (.mov (.t 0)), none, 0⟩,
  ⟨(some 9), .m (.buildSlice 1 1 [(.int .i64 (0))] [(0, 1, (.t 8))]), none, 2⟩,
  ⟨(some 10), .h (.append 1 8 false (.t 7) (.t 9)), none, 7⟩,
  ⟨none, .h (.store 1 (.t 1) (.t 10)), none, 15⟩]
def c19_1 : List COper := [
  ⟨(some 11), .s (.load none (.t 2)), none, 0⟩,
  ⟨(some 12), .s (.mov (.t 0)), none, 0⟩,
  ⟨(some 13), .s (.indexAddr 1 (.t 11) (.t 12)), none, 3⟩,
  ⟨none, .h (.store 1 (.t 13) (.c (.bool true))), none, 7⟩]
def c19_2 : List COper := [
  ⟨(some 14), .s (.load none (.t 3)), none, 0⟩,
  ⟨(some 15), .s (.len 1 (.t 14)), none, 1⟩,
  ⟨(some 16), .s (.mov (.c (.int .i64 (0)))), none, 0⟩]
def c19_3 : List COper := [
  ⟨(some 17), .s (.bin .lss .no (.t 16) (.t 15)), none, 0⟩]
def c19_4 : List COper := [
  ⟨(some 18), .s (.mov (.t 16)), none, 0⟩,
  ⟨(some 6), .s (.mov (.t 18)), none, 1⟩]
def c19_5 : List COper := [
  ⟨(some 19), .s (.mov (.t 6)), none, 0⟩,
  ⟨(some 20), .s (.mov (.t 0)), none, 0⟩,
  ⟨(some 21), .s (.bin .neq .int (.t 19) (.t 20)), none, 3⟩,
  ⟨(some 22), .s (.mov (.t 21)), none, 7⟩,
  ⟨(some 23), .s (.load none (.t 3)), some (22, true), 15⟩,
  ⟨(some 24), .s (.mov (.t 0)), some (22, true), 15⟩,
  ⟨(some 25), .s (.indexAddr 7 (.t 23) (.t 24)), some (22, true), 63⟩,
  ⟨(some 26), .s (.load (some 7) (.t 25)), some (22, true), 127⟩,
  ⟨(some 27), .s (.load none (.t 3)), some (22, true), 15⟩,
  ⟨(some 28), .s (.mov (.t 6)), some (22, true), 15⟩,
  ⟨(some 29), .s (.indexAddr 7 (.t 27) (.t 28)), some (22, true), 783⟩,
  ⟨(some 30), .s (.load (some 7) (.t 29)), some (22, true), 1807⟩,
  ⟨(some 31), .call (.c (.func 12 [] [])) [(.t 26), (.t 30)], some (22, true), 4095⟩,
  ⟨(some 32), .s (.pick (.t 22) (.t 31) (.c (.bool false))), none, 8191⟩]
def c19_5s : List Step := [
  .small 0 ⟨(some 19), .s (.mov (.t 6)), none, 0⟩,
  .small 1 ⟨(some 20), .s (.mov (.t 0)), none, 0⟩,
  .small 2 ⟨(some 21), .s (.bin .neq .int (.t 19) (.t 20)), none, 3⟩,
  .small 3 ⟨(some 22), .s (.mov (.t 21)), none, 7⟩,
  .small 4 ⟨(some 23), .s (.load none (.t 3)), some (22, true), 15⟩,
  .small 5 ⟨(some 24), .s (.mov (.t 0)), some (22, true), 15⟩,
  .small 6 ⟨(some 25), .s (.indexAddr 7 (.t 23) (.t 24)), some (22, true), 63⟩,
  .small 7 ⟨(some 26), .s (.load (some 7) (.t 25)), some (22, true), 127⟩,
  .small 8 ⟨(some 27), .s (.load none (.t 3)), some (22, true), 15⟩,
  .small 9 ⟨(some 28), .s (.mov (.t 6)), some (22, true), 15⟩,
  .small 10 ⟨(some 29), .s (.indexAddr 7 (.t 27) (.t 28)), some (22, true), 783⟩,
  .small 11 ⟨(some 30), .s (.load (some 7) (.t 29)), some (22, true), 1807⟩,
  .big 12 ⟨(some 31), .call (.c (.func 12 [] [])) [(.t 26), (.t 30)], some (22, true), 4095⟩,
  .small 13 ⟨(some 32), .s (.pick (.t 22) (.t 31) (.c (.bool false))), none, 8191⟩]
theorem c19_5h : sched (c19_5.length + 1) (numbered c19_5 0) 0 = some c19_5s := by kernel_rfl
def c19_6 : List COper := [
  ⟨(some 33), .s (.load none (.t 4)), none, 0⟩,
  ⟨(some 34), .s (.mov (.t 6)), none, 0⟩,
  ⟨(some 35), .s (.indexAddr 1 (.t 33) (.t 34)), none, 3⟩,
  ⟨(some 36), .s (.load none (.t 35)), none, 7⟩,
  ⟨(some 37), .s (.bin .sub .no (.t 36) (.c (.int .i64 (1)))), none, 15⟩,
  ⟨(some 38), .s (.indexAddr 1 (.t 33) (.t 34)), none, 31⟩,
  ⟨none, .h (.store 1 (.t 38) (.t 37)), none, 63⟩]
def c19_7 : List COper := [
  ⟨(some 39), .s (.bin .add .no (.t 16) (.c (.int .i64 (1)))), none, 0⟩,
  ⟨(some 16), .s (.mov (.t 39)), none, 1⟩]
def c19_b8 : CCode := (.seq (.region c19_3)
  (.seq (.cond (.t 17) .skip (.exit 0))
  (.seq (.block 1 (.seq (.region c19_4)
  (.seq (.draw c19_5)
  (.cond (.t 32) (.region c19_6) .skip))))
  (.region c19_7))))
def c19 : CFunc := ⟨40, [], (.seq (.region c19_0)
  (.seq (.region c19_1)
  (.seq (.region c19_2)
  (.block 0 (.loop c19_b8)))))⟩

/- 20: conductor/conductorref12.in -/
def c20_0 : List COper := [
  ⟨(some 4), .s (.mov (.c (.bool false))), none, 0⟩]
def c20_1 : List COper := [
  ⟨(some 7), .s (.mov (.t 0)), none, 0⟩,
  ⟨(some 8), .s (.len 1 (.t 7)), none, 1⟩,
  ⟨(some 9), .s (.mov (.c (.int .i64 (0)))), none, 0⟩]
def c20_2 : List COper := [
  ⟨(some 10), .s (.bin .lss .no (.t 9) (.t 8)), none, 0⟩]
def c20_3 : List COper := [
  ⟨(some 11), .s (.indexAddr 1 (.t 7) (.t 9)), none, 0⟩,
  ⟨(some 12), .s (.load none (.t 11)), none, 1⟩,
  ⟨(some 6), .s (.mov (.t 12)), none, 3⟩]
def c20_4 : List COper := [
  ⟨(some 13), .s (.mov (.t 6)), none, 0⟩,
  ⟨(some 14), .s (.mov (.t 1)), none, 0⟩,
  ⟨(some 15), .s (.bin .eql .int (.t 13) (.t 14)), none, 3⟩]
def c20_5 : List COper := [
  ⟨(some 4), .s (.mov (.c (.bool true))), none, 0⟩]
def c20_6 : List COper := [
  ⟨(some 16), .s (.bin .add .no (.t 9) (.c (.int .i64 (1)))), none, 0⟩,
  ⟨(some 9), .s (.mov (.t 16)), none, 1⟩]
def c20_b7 : CCode := (.seq (.region c20_2)
  (.seq (.cond (.t 10) .skip (.exit 0))
  (.seq (.block 1 (.seq (.region c20_3)
  (.seq (.region c20_4)
  (.cond (.t 15) (.seq (.region c20_5)
  .ret) .skip))))
  (.region c20_6))))
def c20_8 : List COper := [
  ⟨(some 4), .s (.mov (.c (.bool false))), none, 0⟩]
def c20 : CFunc := ⟨17, [.t 4], (.seq (.region c20_0)
  (.seq (.seq (.region c20_1)
  (.block 0 (.loop c20_b7)))
  (.seq (.region c20_8)
  .ret)))⟩

/- 21: conductor/conductorref12.free -/
def c21_0 : List COper := [
  ⟨(some 6), .s (.mov (.c (.bool false))), none, 0⟩]
def c21_1 : List COper := [
  ⟨(some 8), .s (.mov (.t 0)), none, 0⟩,
  ⟨(some 9), .s (.len 1 (.t 8)), none, 1⟩,
  ⟨(some 10), .s (.mov (.c (.int .i64 (0)))), none, 0⟩]
def c21_2 : List COper := [
  ⟨(some 11), .s (.bin .lss .no (.t 10) (.t 9)), none, 0⟩]
def c21_3 : List COper := [
  ⟨(some 12), .s (.mov (.t 10)), none, 0⟩,
  ⟨(some 7), .s (.mov (.t 12)), none, 1⟩]
def c21_4 : List COper := [
  ⟨(some 13), .s (.mov (.t 7)), none, 0⟩,
  ⟨(some 14), .s (.mov (.t 2)), none, 0⟩,
  ⟨(some 15), .s (.bin .neq .int (.t 13) (.t 14)), none, 3⟩,
  ⟨(some 16), .s (.mov (.t 15)), none, 7⟩,
  ⟨(some 17), .s (.mov (.t 1)), some (16, true), 15⟩,
  ⟨(some 18), .s (.mov (.t 7)), some (16, true), 15⟩,
  ⟨(some 19), .call (.c (.func 20 [] [])) [(.t 17), (.t 18)], some (16, true), 63⟩,
  ⟨(some 20), .s (.un .not (.t 19)), some (16, true), 127⟩,
  ⟨(some 21), .s (.pick (.t 16) (.t 20) (.c (.bool false))), none, 255⟩,
  ⟨(some 22), .s (.mov (.t 21)), none, 511⟩,
  ⟨(some 23), .s (.mov (.t 0)), some (22, true), 1023⟩,
  ⟨(some 24), .s (.mov (.t 7)), some (22, true), 1023⟩,
  ⟨(some 25), .s (.indexAddr 7 (.t 23) (.t 24)), some (22, true), 4095⟩,
  ⟨(some 26), .s (.load (some 7) (.t 25)), some (22, true), 8191⟩,
  ⟨(some 27), .s (.mov (.t 0)), some (22, true), 1023⟩,
  ⟨(some 28), .s (.mov (.t 2)), some (22, true), 1023⟩,
  ⟨(some 29), .s (.indexAddr 7 (.t 27) (.t 28)), some (22, true), 50175⟩,
  ⟨(some 30), .s (.load (some 7) (.t 29)), some (22, true), 115711⟩,
  ⟨(some 31), .call (.c (.func 13 [] [])) [(.t 26), (.t 30)], some (22, true), 262143⟩,
  ⟨(some 32), .s (.pick (.t 22) (.t 31) (.c (.bool false))), none, 524287⟩]
def c21_4s : List Step := [
  .small 0 ⟨(some 13), .s (.mov (.t 7)), none, 0⟩,
  .small 1 ⟨(some 14), .s (.mov (.t 2)), none, 0⟩,
  .small 2 ⟨(some 15), .s (.bin .neq .int (.t 13) (.t 14)), none, 3⟩,
  .small 3 ⟨(some 16), .s (.mov (.t 15)), none, 7⟩,
  .small 4 ⟨(some 17), .s (.mov (.t 1)), some (16, true), 15⟩,
  .small 5 ⟨(some 18), .s (.mov (.t 7)), some (16, true), 15⟩,
  .big 6 ⟨(some 19), .call (.c (.func 20 [] [])) [(.t 17), (.t 18)], some (16, true), 63⟩,
  .small 7 ⟨(some 20), .s (.un .not (.t 19)), some (16, true), 127⟩,
  .small 8 ⟨(some 21), .s (.pick (.t 16) (.t 20) (.c (.bool false))), none, 255⟩,
  .small 9 ⟨(some 22), .s (.mov (.t 21)), none, 511⟩,
  .small 10 ⟨(some 23), .s (.mov (.t 0)), some (22, true), 1023⟩,
  .small 11 ⟨(some 24), .s (.mov (.t 7)), some (22, true), 1023⟩,
  .small 12 ⟨(some 25), .s (.indexAddr 7 (.t 23) (.t 24)), some (22, true), 4095⟩,
  .small 13 ⟨(some 26), .s (.load (some 7) (.t 25)), some (22, true), 8191⟩,
  .small 14 ⟨(some 27), .s (.mov (.t 0)), some (22, true), 1023⟩,
  .small 15 ⟨(some 28), .s (.mov (.t 2)), some (22, true), 1023⟩,
  .small 16 ⟨(some 29), .s (.indexAddr 7 (.t 27) (.t 28)), some (22, true), 50175⟩,
  .small 17 ⟨(some 30), .s (.load (some 7) (.t 29)), some (22, true), 115711⟩,
  .big 18 ⟨(some 31), .call (.c (.func 13 [] [])) [(.t 26), (.t 30)], some (22, true), 262143⟩,
  .small 19 ⟨(some 32), .s (.pick (.t 22) (.t 31) (.c (.bool false))), none, 524287⟩]
theorem c21_4h : sched (c21_4.length + 1) (numbered c21_4 0) 0 = some c21_4s := by kernel_rfl
def c21_5 : List COper := [
  ⟨(some 6), .s (.mov (.c (.bool false))), none, 0⟩]
def c21_6 : List COper := [
  ⟨(some 33), .s (.bin .add .no (.t 10) (.c (.int .i64 (1)))), none, 0⟩,
  ⟨(some 10), .s (.mov (.t 33)), none, 1⟩]
def c21_b7 : CCode := (.seq (.region c21_2)
  (.seq (.cond (.t 11) .skip (.exit 0))
  (.seq (.block 1 (.seq (.region c21_3)
  (.seq (.draw c21_4)
  (.cond (.t 32) (.seq (.region c21_5)
  .ret) .skip))))
  (.region c21_6))))
def c21_8 : List COper := [
  ⟨(some 6), .s (.mov (.c (.bool true))), none, 0⟩]
def c21 : CFunc := ⟨34, [.t 6], (.seq (.region c21_0)
  (.seq (.seq (.region c21_1)
  (.block 0 (.loop c21_b7)))
  (.seq (.region c21_8)
  .ret)))⟩

/- 22: conductor/span.Meet -/
def c22_0 : List COper := [
  ⟨(some 3), .m (.box (.t 1)), none, 0⟩,
  ⟨(some 4), .s (.mov (.c (.bool false))), none, 0⟩]
def c22_1 : List COper := [
  ⟨(some 5), .s (.mov (.t 0)), none, 0⟩,
  ⟨(some 6), .s (.mkFunc 26 [] [(.t 3)]), none, 0⟩,
  ⟨(some 7), .call (.c (.func 25 [] [])) [(.t 5), (.t 6)], none, 3⟩,
  ⟨(some 4), .s (.mov (.t 7)), none, 7⟩]
def c22 : CFunc := ⟨8, [.t 4], (.seq (.region c22_0)
  (.seq (.region c22_1)
  .ret))⟩

/- 23: conductor/conductorref09.Meet -/
def c23_0 : List COper := [
  ⟨(some 4), .s (.mov (.c (.bool false))), none, 0⟩]
def c23_1 : List COper := [
  ⟨(some 9), .s (.mov (.t 0)), none, 0⟩,
  ⟨(some 10), .s (.len 1 (.t 9)), none, 1⟩,
  ⟨(some 11), .s (.mov (.c (.int .i64 (0)))), none, 0⟩]
def c23_2 : List COper := [
  ⟨(some 12), .s (.bin .lss .no (.t 11) (.t 10)), none, 0⟩]
def c23_3 : List COper := [
  ⟨(some 13), .s (.indexAddr 2 (.t 9) (.t 11)), none, 0⟩,
  ⟨(some 14), .s (.load (some 2) (.t 13)), none, 1⟩,
  ⟨(some 6), .m (.alloc [(.str []), (.str [])]), none, 0⟩,
  ⟨none, .h (.store 2 (.t 6) (.t 14)), none, 7⟩]
def c23_4 : List COper := [
  ⟨(some 15), .s (.mov (.t 1)), none, 0⟩,
  ⟨(some 16), .s (.len 1 (.t 15)), none, 1⟩,
  ⟨(some 17), .s (.mov (.c (.int .i64 (0)))), none, 0⟩]
def c23_5 : List COper := [
  ⟨(some 18), .s (.bin .lss .no (.t 17) (.t 16)), none, 0⟩]
def c23_6 : List COper := [
  ⟨(some 19), .s (.indexAddr 2 (.t 15) (.t 17)), none, 0⟩,
  ⟨(some 20), .s (.load (some 2) (.t 19)), none, 1⟩,
  ⟨(some 8), .m (.alloc [(.str []), (.str [])]), none, 0⟩,
  ⟨none, .h (.store 2 (.t 8) (.t 20)), none, 7⟩]
def c23_7 : List COper := [
  ⟨(some 21), .s (.load (some 2) (.t 6)), none, 0⟩,
  ⟨(some 22), .s (.load (some 2) (.t 8)), none, 0⟩,
  ⟨(some 23), .call (.c (.func 29 [] [])) [(.t 21), (.t 22)], none, 3⟩]
def c23_8 : List COper := [
  ⟨(some 4), .s (.mov (.c (.bool true))), none, 0⟩]
def c23_9 : List COper := [
  ⟨(some 24), .s (.bin .add .no (.t 17) (.c (.int .i64 (1)))), none, 0⟩,
  ⟨(some 17), .s (.mov (.t 24)), none, 1⟩]
def c23_b10 : CCode := (.seq (.region c23_5)
  (.seq (.cond (.t 18) .skip (.exit 2))
  (.seq (.block 3 (.seq (.region c23_6)
  (.seq (.region c23_7)
  (.cond (.t 23) (.seq (.region c23_8)
  .ret) .skip))))
  (.region c23_9))))
def c23_11 : List COper := [
  ⟨(some 25), .s (.bin .add .no (.t 11) (.c (.int .i64 (1)))), none, 0⟩,
  ⟨(some 11), .s (.mov (.t 25)), none, 1⟩]
def c23_b12 : CCode := (.seq (.region c23_2)
  (.seq (.cond (.t 12) .skip (.exit 0))
  (.seq (.block 1 (.seq (.region c23_3)
  (.seq (.region c23_4)
  (.block 2 (.loop c23_b10)))))
  (.region c23_11))))
def c23_13 : List COper := [
  ⟨(some 4), .s (.mov (.c (.bool false))), none, 0⟩]
def c23 : CFunc := ⟨26, [.t 4], (.seq (.region c23_0)
  (.seq (.seq (.region c23_1)
  (.block 0 (.loop c23_b12)))
  (.seq (.region c23_13)
  .ret)))⟩

/- 24: conductor/conductorref09.Point -/
def c24_0 : List COper := [
  ⟨(some 2), .m (.alloc [(.str []), (.str [])]), none, 0⟩]
def c24_1 : List COper := [
  ⟨(some 3), .s (.mov (.t 0)), none, 0⟩,
  ⟨(some 4), .s (.mov (.t 0)), none, 0⟩,
  ⟨(some 5), .s (.bin .add .no (.t 4) (.c (.str [0]))), none, 2⟩,
  ⟨(some 6), .s (.build [(.str []), (.str [])] [(0, 1, (.t 3)), (1, 1, (.t 5))]), none, 7⟩,
  ⟨none, .h (.store 2 (.t 2) (.t 6)), none, 15⟩]
def c24 : CFunc := ⟨7, [.cell 2 (some 2)], (.seq (.region c24_0)
  (.seq (.region c24_1)
  .ret))⟩

/- 25: slices.ContainsFunc[[]conductor/api.Span,conductor/api.Span] -/
def c25_0 : List COper := [
  ⟨(some 4), .s (.mov (.c (.bool false))), none, 0⟩]
def c25_1 : List COper := [
  ⟨(some 5), .s (.mov (.t 0)), none, 0⟩,
  ⟨(some 6), .s (.mov (.t 1)), none, 0⟩,
  ⟨(some 7), .call (.c (.func 30 [] [])) [(.t 5), (.t 6)], none, 3⟩,
  ⟨(some 8), .s (.bin .geq .no (.t 7) (.c (.int .i64 (0)))), none, 7⟩,
  ⟨(some 4), .s (.mov (.t 8)), none, 15⟩]
def c25 : CFunc := ⟨9, [.t 4], (.seq (.region c25_0)
  (.seq (.region c25_1)
  .ret))⟩

/- 26: conductor/span.Meet$1 -/
def c26_0 : List COper := [
  ⟨(some 2), .m (.box (.t 0)), none, 0⟩,
  ⟨(some 3), .s (.mov (.c (.bool false))), none, 0⟩]
def c26_1 : List COper := [
  ⟨(some 4), .s (.load none (.t 1)), none, 0⟩,
  ⟨(some 5), .s (.mkFunc 27 [] [(.t 2)]), none, 0⟩,
  ⟨(some 6), .call (.c (.func 25 [] [])) [(.t 4), (.t 5)], none, 3⟩,
  ⟨(some 3), .s (.mov (.t 6)), none, 7⟩]
def c26 : CFunc := ⟨7, [.t 3], (.seq (.region c26_0)
  (.seq (.region c26_1)
  .ret))⟩

/- 27: conductor/span.Meet$1$1 -/
def c27_0 : List COper := [
  ⟨(some 2), .m (.box (.t 0)), none, 0⟩,
  ⟨(some 3), .s (.mov (.c (.bool false))), none, 0⟩]
def c27_1 : List COper := [
  ⟨(some 4), .s (.load (some 2) (.t 1)), none, 0⟩,
  ⟨(some 5), .s (.load (some 2) (.t 2)), none, 0⟩,
  ⟨(some 6), .call (.c (.func 28 [] [])) [(.t 4), (.t 5)], none, 3⟩,
  ⟨(some 3), .s (.mov (.t 6)), none, 7⟩]
def c27 : CFunc := ⟨7, [.t 3], (.seq (.region c27_0)
  (.seq (.region c27_1)
  .ret))⟩

/- 28: conductor/span.Meets -/
def c28_0 : List COper := [
  ⟨(some 2), .m (.box (.t 0)), none, 0⟩,
  ⟨(some 3), .m (.box (.t 1)), none, 0⟩,
  ⟨(some 4), .s (.mov (.c (.bool false))), none, 0⟩]
def c28_1 : List COper := [
  ⟨(some 5), .s (.load (some 2) (.t 2)), none, 0⟩,
  ⟨(some 6), .call (.c (.func 31 [] [])) [(.t 5)], none, 1⟩,
  ⟨(some 7), .s (.mov (.t 6)), none, 3⟩,
  ⟨(some 8), .s (.load (some 2) (.t 3)), some (7, true), 7⟩,
  ⟨(some 9), .call (.c (.func 31 [] [])) [(.t 8)], some (7, true), 15⟩,
  ⟨(some 10), .s (.pick (.t 7) (.t 9) (.c (.bool false))), none, 31⟩,
  ⟨(some 11), .s (.mov (.t 10)), none, 63⟩,
  ⟨(some 12), .s (.load (some 2) (.t 2)), some (11, true), 127⟩,
  ⟨(some 13), .s (.fieldAddr 0 (.t 3)), some (11, true), 127⟩,
  ⟨(some 14), .s (.load none (.t 13)), some (11, true), 383⟩,
  ⟨(some 15), .call (.c (.func 32 [] [])) [(.t 12), (.t 14)], some (11, true), 1023⟩,
  ⟨(some 16), .s (.un .not (.t 15)), some (11, true), 2047⟩,
  ⟨(some 17), .s (.pick (.t 11) (.t 16) (.c (.bool false))), none, 4095⟩,
  ⟨(some 18), .s (.mov (.t 17)), none, 8191⟩,
  ⟨(some 19), .s (.load (some 2) (.t 3)), some (18, true), 16383⟩,
  ⟨(some 20), .s (.fieldAddr 0 (.t 2)), some (18, true), 16383⟩,
  ⟨(some 21), .s (.load none (.t 20)), some (18, true), 49151⟩,
  ⟨(some 22), .call (.c (.func 32 [] [])) [(.t 19), (.t 21)], some (18, true), 131071⟩,
  ⟨(some 23), .s (.un .not (.t 22)), some (18, true), 262143⟩,
  ⟨(some 24), .s (.pick (.t 18) (.t 23) (.c (.bool false))), none, 524287⟩,
  ⟨(some 4), .s (.mov (.t 24)), none, 1048575⟩]
def c28 : CFunc := ⟨25, [.t 4], (.seq (.region c28_0)
  (.seq (.region c28_1)
  .ret))⟩

/- 29: conductor/conductorref09.Meets -/
def c29_0 : List COper := [
  ⟨(some 2), .m (.box (.t 0)), none, 0⟩,
  ⟨(some 3), .m (.box (.t 1)), none, 0⟩,
  ⟨(some 4), .s (.mov (.c (.bool false))), none, 0⟩]
def c29_1 : List COper := [
  ⟨(some 6), .s (.fieldAddr 0 (.t 2)), none, 0⟩,
  ⟨(some 7), .s (.load none (.t 6)), none, 1⟩,
  ⟨(some 8), .s (.fieldAddr 0 (.t 3)), none, 0⟩,
  ⟨(some 9), .s (.load none (.t 8)), none, 4⟩,
  ⟨(some 10), .s (.max [(.t 7), (.t 9)]), none, 15⟩,
  ⟨(some 5), .s (.mov (.t 10)), none, 31⟩]
def c29_2 : List COper := [
  ⟨(some 11), .s (.load (some 2) (.t 2)), none, 0⟩,
  ⟨(some 12), .s (.mov (.t 5)), none, 0⟩,
  ⟨(some 13), .call (.c (.func 33 [] [])) [(.t 11), (.t 12)], none, 3⟩,
  ⟨(some 14), .s (.mov (.t 13)), none, 7⟩,
  ⟨(some 15), .s (.load (some 2) (.t 3)), some (14, true), 15⟩,
  ⟨(some 16), .s (.mov (.t 5)), some (14, true), 15⟩,
  ⟨(some 17), .call (.c (.func 33 [] [])) [(.t 15), (.t 16)], some (14, true), 63⟩,
  ⟨(some 18), .s (.pick (.t 14) (.t 17) (.c (.bool false))), none, 127⟩,
  ⟨(some 4), .s (.mov (.t 18)), none, 255⟩]
def c29 : CFunc := ⟨19, [.t 4], (.seq (.region c29_0)
  (.seq (.region c29_1)
  (.seq (.region c29_2)
  .ret)))⟩

/- 30: slices.IndexFunc[[]conductor/api.Span,conductor/api.Span] -/
def c30_0 : List COper := [
  ⟨(some 4), .s (.mov (.c (.int .i64 (0)))), none, 0⟩]
def c30_1 : List COper := [
  ⟨(some 6), .s (.mov (.t 0)), none, 0⟩,
  ⟨(some 7), .s (.len 1 (.t 6)), none, 1⟩,
  ⟨(some 8), .s (.mov (.c (.int .i64 (0)))), none, 0⟩]
def c30_2 : List COper := [
  ⟨(some 9), .s (.bin .lss .no (.t 8) (.t 7)), none, 0⟩]
def c30_3 : List COper := [
  ⟨(some 10), .s (.mov (.t 8)), none, 0⟩,
  ⟨(some 5), .s (.mov (.t 10)), none, 1⟩]
def c30_4 : List COper := [
  ⟨(some 11), .s (.mov (.t 1)), none, 0⟩,
  ⟨(some 12), .s (.mov (.t 0)), none, 0⟩,
  ⟨(some 13), .s (.mov (.t 5)), none, 0⟩,
  ⟨(some 14), .s (.indexAddr 2 (.t 12) (.t 13)), none, 6⟩,
  ⟨(some 15), .s (.load (some 2) (.t 14)), none, 14⟩,
  ⟨(some 16), .call (.t 11) [(.t 15)], none, 31⟩]
def c30_5 : List COper := [
  ⟨(some 17), .s (.mov (.t 5)), none, 0⟩,
  ⟨(some 4), .s (.mov (.t 17)), none, 1⟩]
def c30_6 : List COper := [
  ⟨(some 18), .s (.bin .add .no (.t 8) (.c (.int .i64 (1)))), none, 0⟩,
  ⟨(some 8), .s (.mov (.t 18)), none, 1⟩]
def c30_b7 : CCode := (.seq (.region c30_2)
  (.seq (.cond (.t 9) .skip (.exit 0))
  (.seq (.block 1 (.seq (.region c30_3)
  (.seq (.region c30_4)
  (.cond (.t 16) (.seq (.region c30_5)
  .ret) .skip))))
  (.region c30_6))))
def c30_8 : List COper := [
  ⟨(some 4), .s (.mov (.c (.int .i64 (-1)))), none, 0⟩]
def c30 : CFunc := ⟨19, [.t 4], (.seq (.region c30_0)
  (.seq (.seq (.region c30_1)
  (.block 0 (.loop c30_b7)))
  (.seq (.region c30_8)
  .ret)))⟩

/- 31: conductor/span.Right -/
def c31_0 : List COper := [
  ⟨(some 1), .m (.box (.t 0)), none, 0⟩,
  ⟨(some 2), .s (.mov (.c (.bool false))), none, 0⟩]
def c31_1 : List COper := [
  ⟨(some 3), .s (.fieldAddr 1 (.t 1)), none, 0⟩,
  ⟨(some 4), .s (.load none (.t 3)), none, 1⟩,
  ⟨(some 5), .s (.bin .eql .str (.t 4) (.c (.str []))), none, 3⟩,
  ⟨(some 6), .s (.mov (.t 5)), none, 7⟩,
  ⟨(some 7), .s (.fieldAddr 1 (.t 1)), some (6, false), 15⟩,
  ⟨(some 8), .s (.load none (.t 7)), some (6, false), 31⟩,
  ⟨(some 9), .s (.fieldAddr 0 (.t 1)), some (6, false), 15⟩,
  ⟨(some 10), .s (.load none (.t 9)), some (6, false), 79⟩,
  ⟨(some 11), .s (.bin .gtr .no (.t 8) (.t 10)), some (6, false), 255⟩,
  ⟨(some 12), .s (.pick (.t 6) (.c (.bool true)) (.t 11)), none, 511⟩,
  ⟨(some 2), .s (.mov (.t 12)), none, 1023⟩]
def c31 : CFunc := ⟨13, [.t 2], (.seq (.region c31_0)
  (.seq (.region c31_1)
  .ret))⟩

/- 32: conductor/span.ahead -/
def c32_0 : List COper := [
  ⟨(some 2), .m (.box (.t 0)), none, 0⟩,
  ⟨(some 4), .s (.mov (.c (.bool false))), none, 0⟩]
def c32_1 : List COper := [
  ⟨(some 5), .s (.fieldAddr 1 (.t 2)), none, 0⟩,
  ⟨(some 6), .s (.load none (.t 5)), none, 1⟩,
  ⟨(some 7), .s (.bin .neq .str (.t 6) (.c (.str []))), none, 3⟩,
  ⟨(some 8), .s (.mov (.t 7)), none, 7⟩,
  ⟨(some 9), .s (.fieldAddr 1 (.t 2)), some (8, true), 15⟩,
  ⟨(some 10), .s (.load none (.t 9)), some (8, true), 31⟩,
  ⟨(some 11), .s (.mov (.t 1)), some (8, true), 15⟩,
  ⟨(some 12), .s (.bin .leq .no (.t 10) (.t 11)), some (8, true), 127⟩,
  ⟨(some 13), .s (.pick (.t 8) (.t 12) (.c (.bool false))), none, 255⟩,
  ⟨(some 4), .s (.mov (.t 13)), none, 511⟩]
def c32 : CFunc := ⟨14, [.t 4], (.seq (.region c32_0)
  (.seq (.region c32_1)
  .ret))⟩

/- 33: conductor/conductorref09.Has -/
def c33_0 : List COper := [
  ⟨(some 2), .m (.box (.t 0)), none, 0⟩,
  ⟨(some 4), .s (.mov (.c (.bool false))), none, 0⟩]
def c33_1 : List COper := [
  ⟨(some 5), .s (.mov (.t 1)), none, 0⟩,
  ⟨(some 6), .s (.fieldAddr 0 (.t 2)), none, 0⟩,
  ⟨(some 7), .s (.load none (.t 6)), none, 2⟩,
  ⟨(some 8), .s (.bin .geq .no (.t 5) (.t 7)), none, 7⟩,
  ⟨(some 9), .s (.mov (.t 8)), none, 15⟩,
  ⟨(some 10), .s (.fieldAddr 1 (.t 2)), some (9, true), 31⟩,
  ⟨(some 11), .s (.load none (.t 10)), some (9, true), 63⟩,
  ⟨(some 12), .s (.bin .eql .str (.t 11) (.c (.str []))), some (9, true), 127⟩,
  ⟨(some 13), .s (.mov (.t 12)), some (9, true), 255⟩,
  ⟨(some 14), .s (.mov (.t 1)), some (13, false), 511⟩,
  ⟨(some 15), .s (.fieldAddr 1 (.t 2)), some (13, false), 511⟩,
  ⟨(some 16), .s (.load none (.t 15)), some (13, false), 1535⟩,
  ⟨(some 17), .s (.bin .lss .no (.t 14) (.t 16)), some (13, false), 4095⟩,
  ⟨(some 18), .s (.pick (.t 13) (.c (.bool true)) (.t 17)), some (9, true), 8191⟩,
  ⟨(some 19), .s (.pick (.t 9) (.t 18) (.c (.bool false))), none, 16383⟩,
  ⟨(some 4), .s (.mov (.t 19)), none, 32767⟩]
def c33 : CFunc := ⟨20, [.t 4], (.seq (.region c33_0)
  (.seq (.region c33_1)
  .ret))⟩

def cTab : Nat → Option CFunc
  | 3 => some c3
  | 4 => some c4
  | 5 => some c5
  | 6 => some c6
  | 7 => some c7
  | 8 => some c8
  | 9 => some c9
  | 10 => some c10
  | 11 => some c11
  | 12 => some c12
  | 13 => some c13
  | 14 => some c14
  | 15 => some c15
  | 16 => some c16
  | 17 => some c17
  | 18 => some c18
  | 19 => some c19
  | 20 => some c20
  | 21 => some c21
  | 22 => some c22
  | 23 => some c23
  | 24 => some c24
  | 25 => some c25
  | 26 => some c26
  | 27 => some c27
  | 28 => some c28
  | 29 => some c29
  | 30 => some c30
  | 31 => some c31
  | 32 => some c32
  | 33 => some c33
  | _ => none

end Go.RE
