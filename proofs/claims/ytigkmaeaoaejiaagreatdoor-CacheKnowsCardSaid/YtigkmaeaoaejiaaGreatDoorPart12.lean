/- The code of the functions, as the second evaluator has it. Printed by wip/x/Vrint.lean.txt. -/
import Derived.Test.YtigkmaeaoaejiaaGreatDoorPart11
import Derived.KernelRfl
set_option linter.unusedVariables false
set_option linter.unusedSimpArgs false
namespace Go.RE
@[simp] def cS (d : Nat) (o : SOp) (p : Nat) : COper := ⟨some d, .s o, none, p⟩
@[simp] def cG (d : Nat) (o : SOp) (g : Nat) (b : Bool) (p : Nat) : COper := ⟨some d, .s o, some (g, b), p⟩
@[simp] def cM (d a p : Nat) : COper := ⟨some d, .s (.mov (.t a)), none, p⟩
@[simp] def cMG (d a g : Nat) (b : Bool) (p : Nat) : COper := ⟨some d, .s (.mov (.t a)), some (g, b), p⟩
@[simp] def cL (d a p : Nat) : COper := ⟨some d, .s (.load none (.t a)), none, p⟩
@[simp] def cF (d k a p : Nat) : COper := ⟨some d, .s (.fieldAddr k (.t a)), none, p⟩
@[simp] def cN (d a p : Nat) : COper := ⟨some d, .s (.nilCheck (.t a)), none, p⟩
@[simp] def cE (d k a p : Nat) : COper := ⟨some d, .s (.extract k (.t a)), none, p⟩
@[simp] def cC (d f : Nat) (a : List Opd) (p : Nat) : COper := ⟨some d, .call (.c (.func f [] [])) a, none, p⟩
@[simp] def cCG (d f : Nat) (a : List Opd) (g : Nat) (b : Bool) (p : Nat) : COper := ⟨some d, .call (.c (.func f [] [])) a, some (g, b), p⟩
@[simp] def cP (d a b p : Nat) : COper := ⟨some d, .s (.pick (.t a) (.c (.bool true)) (.t b)), none, p⟩
@[simp] def cQ (d a b p : Nat) : COper := ⟨some d, .s (.pick (.t a) (.t b) (.c (.bool false))), none, p⟩
@[simp] def cH (o : HOp) (p : Nat) : COper := ⟨none, .h o, none, p⟩
def v3_0 : List COper := [
 cS 8 (.mov (.c (.bool false))) 0]
def v3_1 : List COper := [
 cC 21 11 [] 0,
 cS 22 (.un .not (.t 21)) 1,
 cM 23 22 3,
 cMG 24 0 23 false 7,
 cCG 25 12 [.t 24] 23 false 15,
 cG 26 (.un .not (.t 25)) 23 false 31,
 cP 27 23 26 63,
 cM 28 27 127,
 cMG 29 1 28 false 255,
 cG 30 (.len 1 (.t 29)) 28 false 511,
 cG 31 (.bin .gtr .no (.t 30) (.c (.int .i64 (40)))) 28 false 1023,
 cP 32 28 31 2047,
 cM 33 32 4095,
 cMG 34 2 33 false 8191,
 cG 35 (.len 0 (.t 34)) 33 false 16383,
 cG 36 (.bin .gtr .no (.t 35) (.c (.int .i64 (300)))) 33 false 32767,
 cP 37 33 36 65535,
 cM 38 37 131071,
 cMG 39 3 38 false 262143,
 cG 40 (.len 0 (.t 39)) 38 false 524287,
 cG 41 (.bin .gtr .no (.t 40) (.c (.int .i64 (300)))) 38 false 1048575,
 cP 42 38 41 2097151]
def v3_2 : List COper := [
 cC 43 11 [] 0,
 cM 8 43 1]
def v3_3 : List COper := [
 cM 44 0 0,
 cC 45 13 [.t 44] 1,
 cM 9 45 3]
def v3_4 : List COper := [
 cM 46 9 0,
 cS 47 (.bin .eql .nilp (.t 46) (.c .nilp)) 1,
 cM 48 47 3,
 cMG 49 9 48 false 7,
 cCG 50 15 [.t 49] 48 false 15,
 cMG 51 0 48 false 7,
 cCG 52 16 [.t 51] 48 false 63,
 cCG 53 14 [.t 50, .t 52] 48 false 127,
 cG 54 (.un .not (.t 53)) 48 false 255,
 cP 55 48 54 511]
def v3_5 : List COper := [
 cS 8 (.mov (.c (.bool false))) 0]
def v3_6 : List COper := [
 cM 56 9 0,
 cM 57 1 0,
 cC 58 17 [.t 56, .t 57] 3]
def v3_7 : List COper := [
 cM 59 0 0,
 cC 60 16 [.t 59] 1,
 cM 61 1 0,
 cC 62 18 [.t 60, .t 61] 7,
 cS 63 (.build [(.bool false), (.cslice [] 0 0 2), (.cslice [] 3 0 2), (.cslice [] 3 0 2)] [(0, 1, (.c (.bool true))), (1, 1, .t 62)]) 15,
 ⟨some 64, .m (.box (.t 63)), none, 31⟩,
 cM 10 64 63]
def v3_8 : List COper := [
 cM 66 9 0,
 cM 67 2 0,
 cC 68 19 [.t 66, .t 67] 3,
 cM 65 68 7,
 cE 69 0 65 15,
 cE 70 1 65 15,
 cE 71 2 65 15,
 cM 11 69 31,
 cM 12 70 191,
 cM 13 71 511]
def v3_9 : List COper := [
 cM 73 10 0,
 cM 74 2 0,
 cC 75 20 [.t 73, .t 74] 3,
 cM 72 75 7,
 cE 76 0 72 15,
 cE 77 1 72 15,
 cE 78 2 72 15,
 ⟨some 16, .m (.alloc [(.bool false), (.cslice [] 0 0 1), (.int .i64 (0)), (.bool false), (.str []), (.str [])]), none, 0⟩,
 cM 14 76 159,
 cM 15 77 447,
 cH (.store 6 (.t 16) (.t 78)) 1023]
def v3_10 : List COper := [
 cM 80 9 0,
 cM 81 2 0,
 cM 82 3 0,
 cC 83 21 [.t 80, .t 81, .t 82] 7,
 cM 79 83 15,
 cE 84 0 79 31,
 cE 85 1 79 31,
 cM 17 84 63,
 cM 18 85 255]
def v3_11 : List COper := [
 cM 87 10 0,
 cM 88 2 0,
 cM 89 3 0,
 cC 90 22 [.t 87, .t 88, .t 89] 7,
 cM 86 90 15,
 cE 91 0 86 31,
 cE 92 1 86 31,
 ⟨some 20, .m (.alloc [(.bool false), (.cslice [] 0 0 1), (.int .i64 (0)), (.bool false), (.str []), (.str [])]), none, 0⟩,
 cM 19 91 191,
 cH (.store 6 (.t 20) (.t 92)) 511]
def v3_12 : List COper := [
 cM 93 13 0,
 cS 94 (.bin .eql (.iface false) (.t 93) (.c .nili)) 1,
 cM 95 94 3,
 cMG 96 18 95 true 7,
 cG 97 (.bin .eql (.iface false) (.t 96) (.c .nili)) 95 true 15,
 cQ 98 95 97 31,
 cM 99 98 63,
 cMG 100 11 99 true 127,
 cMG 101 14 99 true 127,
 cCG 102 23 [.t 100, .t 101] 99 true 511,
 cQ 103 99 102 1023,
 cM 104 103 2047,
 cMG 105 12 104 true 4095,
 cMG 106 15 104 true 4095,
 cG 107 (.bin .eql .bool (.t 105) (.t 106)) 104 true 16383,
 cQ 108 104 107 32767,
 cM 109 108 65535,
 cMG 110 17 109 true 131071,
 cMG 111 19 109 true 131071,
 cCG 112 14 [.t 110, .t 111] 109 true 524287,
 cQ 113 109 112 1048575,
 cM 114 113 2097151,
 cMG 115 9 114 true 4194303,
 cCG 116 15 [.t 115] 114 true 8388607,
 cMG 117 10 114 true 4194303,
 cG 118 (.nilCheck (.t 117)) 114 true 20971519,
 cG 119 (.fieldAddr 1 (.t 118)) 114 true 54525951,
 cG 120 (.load none (.t 119)) 114 true 121634815,
 cCG 121 14 [.t 116, .t 120] 114 true 268435455,
 cQ 122 114 121 536870911,
 cM 8 122 1073741823]
def v3_body : CCode := (.seq (.region v3_0)
 (.seq (.seq (.region v3_1)
 (.cond (.t 42) (.seq (.region v3_2)
 .ret) .skip))
 (.seq (.region v3_3)
 (.seq (.seq (.region v3_4)
 (.cond (.t 55) (.seq (.region v3_5)
 .ret) .skip))
 (.seq (.region v3_6)
 (.seq (.region v3_7)
 (.seq (.region v3_8)
 (.seq (.region v3_9)
 (.seq (.region v3_10)
 (.seq (.region v3_11)
 (.seq (.draw v3_12)
 .ret)))))))))))
def v3 : VFunc := ⟨123, [.t 8], true, v3_body,
 fun _ => [],
 fun _ => []⟩
@[simp] theorem v3_c : v3.body = v3_body := rfl
@[simp] theorem v3_r : v3.results = [.t 8] := rfl
@[simp] theorem v3_o : v3.own = true := rfl
def v4_0 : List COper := [
 cS 6 (.mov (.c (.bool false))) 0]
def v4_1 : List COper := [
 cC 21 11 [] 0,
 cS 22 (.un .not (.t 21)) 1,
 cM 23 22 3,
 cMG 24 0 23 false 7,
 cCG 25 24 [.t 24] 23 false 15,
 cG 26 (.un .not (.t 25)) 23 false 31,
 cP 27 23 26 63,
 cM 28 27 127,
 cMG 29 1 28 false 255,
 cG 30 (.len 0 (.t 29)) 28 false 511,
 cG 31 (.bin .gtr .no (.t 30) (.c (.int .i64 (300)))) 28 false 1023,
 cP 32 28 31 2047,
 cM 33 32 4095,
 cMG 34 2 33 false 8191,
 cG 35 (.len 0 (.t 34)) 33 false 16383,
 cG 36 (.bin .gtr .no (.t 35) (.c (.int .i64 (300)))) 33 false 32767,
 cP 37 33 36 65535]
def v4_2 : List COper := [
 cC 38 11 [] 0,
 cM 6 38 1]
def v4_3 : List COper := [
 cC 39 25 [] 0,
 cS 40 (.build [(.bool false), (.cslice [] 0 0 2), (.cslice [] 3 0 2), (.cslice [] 3 0 2)] []) 0,
 ⟨some 41, .m (.box (.t 40)), none, 2⟩,
 cM 7 39 1,
 cM 8 41 15]
def v4_4 : List COper := [
 cM 42 7 0,
 cS 43 (.bin .eql .nilp (.t 42) (.c .nilp)) 1]
def v4_5 : List COper := [
 cS 6 (.mov (.c (.bool false))) 0]
def v4_6 : List COper := [
 cM 44 0 0,
 cS 45 (.len 1 (.t 44)) 1,
 cS 46 (.mov (.c (.int .i64 (0)))) 0]
def v4_7 : List COper := [
 cS 47 (.bin .lss .no (.t 46) (.t 45)) 0]
def v4_8 : List COper := [
 cS 48 (.indexAddr 3 (.t 44) (.t 46)) 0,
 cS 49 (.load (some 3) (.t 48)) 1,
 ⟨some 10, .m (.alloc [(.str []), (.str []), (.cslice [] 0 0 2)]), none, 0⟩,
 cH (.store 3 (.t 10) (.t 49)) 7]
def v4_9 : List COper := [
 cM 50 7 0,
 cF 51 0 10 0,
 cS 52 (.load (some 2) (.t 51)) 2,
 cF 53 2 10 0,
 cL 54 53 8,
 cC 55 26 [.t 50, .t 52, .t 54] 31]
def v4_10 : List COper := [
 cM 56 8 0,
 cF 57 0 10 0,
 cS 58 (.load (some 2) (.t 57)) 2,
 cF 59 2 10 0,
 cL 60 59 8,
 cC 61 27 [.t 56, .t 58, .t 60] 31]
def v4_11 : List COper := [
 cS 62 (.bin .add .no (.t 46) (.c (.int .i64 (1)))) 0,
 cM 46 62 1]
def v4_b12 : CCode := (.seq (.region v4_7)
 (.seq (.cond (.t 47) .skip (.exit 0))
 (.seq (.block 1 (.seq (.region v4_8)
 (.seq (.region v4_9)
 (.region v4_10))))
 (.region v4_11))))
def v4_13 : List COper := [
 cM 64 7 0,
 cM 65 1 0,
 cC 66 28 [.t 64, .t 65] 3,
 cM 63 66 7,
 cE 67 0 63 15,
 cE 68 1 63 15,
 cE 69 2 63 15,
 cM 11 67 31,
 cM 12 68 191,
 cM 13 69 511]
def v4_14 : List COper := [
 cM 71 8 0,
 cM 72 1 0,
 cC 73 20 [.t 71, .t 72] 3,
 cM 70 73 7,
 cE 74 0 70 15,
 cE 75 1 70 15,
 cE 76 2 70 15,
 ⟨some 16, .m (.alloc [(.bool false), (.cslice [] 0 0 1), (.int .i64 (0)), (.bool false), (.str []), (.str [])]), none, 0⟩,
 cM 14 74 159,
 cM 15 75 447,
 cH (.store 6 (.t 16) (.t 76)) 1023]
def v4_15 : List COper := [
 cM 78 7 0,
 cM 79 1 0,
 cM 80 2 0,
 cC 81 29 [.t 78, .t 79, .t 80] 7,
 cM 77 81 15,
 cE 82 0 77 31,
 cE 83 1 77 31,
 cM 17 82 63,
 cM 18 83 255]
def v4_16 : List COper := [
 cM 85 8 0,
 cM 86 1 0,
 cM 87 2 0,
 cC 88 22 [.t 85, .t 86, .t 87] 7,
 cM 84 88 15,
 cE 89 0 84 31,
 cE 90 1 84 31,
 ⟨some 20, .m (.alloc [(.bool false), (.cslice [] 0 0 1), (.int .i64 (0)), (.bool false), (.str []), (.str [])]), none, 0⟩,
 cM 19 89 191,
 cH (.store 6 (.t 20) (.t 90)) 511]
def v4_17 : List COper := [
 cM 91 11 0,
 cM 92 14 0,
 cC 93 23 [.t 91, .t 92] 3,
 cM 94 93 7,
 cMG 95 12 94 true 15,
 cMG 96 15 94 true 15,
 cG 97 (.bin .eql .bool (.t 95) (.t 96)) 94 true 63,
 cQ 98 94 97 127,
 cM 99 98 255,
 cMG 100 13 99 true 511,
 cCG 101 31 [.t 100] 99 true 1023,
 cG 102 (.load (some 6) (.t 16)) 99 true 511,
 cCG 103 30 [.t 101, .t 102] 99 true 4095,
 cQ 104 99 103 8191,
 cM 105 104 16383,
 cMG 106 17 105 true 32767,
 cMG 107 19 105 true 32767,
 cCG 108 14 [.t 106, .t 107] 105 true 131071,
 cQ 109 105 108 262143,
 cM 110 109 524287,
 cMG 111 18 110 true 1048575,
 cCG 112 31 [.t 111] 110 true 2097151,
 cG 113 (.load (some 6) (.t 20)) 110 true 1048575,
 cCG 114 30 [.t 112, .t 113] 110 true 8388607,
 cQ 115 110 114 16777215,
 cM 6 115 33554431]
def v4_17s : List Step := [
 .small 0 (cM 91 11 0),
 .small 1 (cM 92 14 0),
 .big 2 (cC 93 23 [.t 91, .t 92] 3),
 .small 3 (cM 94 93 7),
 .small 4 (cMG 95 12 94 true 15),
 .small 5 (cMG 96 15 94 true 15),
 .small 6 (cG 97 (.bin .eql .bool (.t 95) (.t 96)) 94 true 63),
 .small 7 (cQ 98 94 97 127),
 .small 8 (cM 99 98 255),
 .small 9 (cMG 100 13 99 true 511),
 .small 11 (cG 102 (.load (some 6) (.t 16)) 99 true 511),
 .big 10 (cCG 101 31 [.t 100] 99 true 1023),
 .big 12 (cCG 103 30 [.t 101, .t 102] 99 true 4095),
 .small 13 (cQ 104 99 103 8191),
 .small 14 (cM 105 104 16383),
 .small 15 (cMG 106 17 105 true 32767),
 .small 16 (cMG 107 19 105 true 32767),
 .big 17 (cCG 108 14 [.t 106, .t 107] 105 true 131071),
 .small 18 (cQ 109 105 108 262143),
 .small 19 (cM 110 109 524287),
 .small 20 (cMG 111 18 110 true 1048575),
 .small 22 (cG 113 (.load (some 6) (.t 20)) 110 true 1048575),
 .big 21 (cCG 112 31 [.t 111] 110 true 2097151),
 .big 23 (cCG 114 30 [.t 112, .t 113] 110 true 8388607),
 .small 24 (cQ 115 110 114 16777215),
 .small 25 (cM 6 115 33554431)]
theorem v4_17h : sched (v4_17.length + 1) (numbered v4_17 0) 0 = some v4_17s := by kernel_rfl
def v4_body : CCode := (.seq (.region v4_0)
 (.seq (.seq (.region v4_1)
 (.cond (.t 37) (.seq (.region v4_2)
 .ret) .skip))
 (.seq (.region v4_3)
 (.seq (.seq (.region v4_4)
 (.cond (.t 43) (.seq (.region v4_5)
 .ret) .skip))
 (.seq (.seq (.region v4_6)
 (.block 0 (.loop v4_b12)))
 (.seq (.region v4_13)
 (.seq (.region v4_14)
 (.seq (.region v4_15)
 (.seq (.region v4_16)
 (.seq (.draw v4_17)
 .ret))))))))))
def v4 : VFunc := ⟨116, [.t 6], true, v4_body,
 fun i => match i with | 0 => [46, 8, 7, 44, 2, 1, 45] | _ => [],
 fun i => match i with | 0 => [2, 1, 8, 7] | 1 => [8, 7, 44, 2, 1, 45, 46] | _ => []⟩
@[simp] theorem v4_c : v4.body = v4_body := rfl
@[simp] theorem v4_r : v4.results = [.t 6] := rfl
@[simp] theorem v4_o : v4.own = true := rfl
@[simp] theorem v4_h0 : v4.head 0 = [46, 8, 7, 44, 2, 1, 45] := rfl
@[simp] theorem v4_t0 : v4.tail 0 = [2, 1, 8, 7] := rfl
@[simp] theorem v4_t1 : v4.tail 1 = [8, 7, 44, 2, 1, 45, 46] := rfl
def v11_0 : List COper := [
 cS 0 (.mov (.c (.bool false))) 0]
def v11_1 : List COper := [
 cC 8 25 [] 0,
 cS 9 (.mkIface 58 (.t 8)) 1,
 cC 10 33 [.t 9] 3,
 cM 1 10 7]
def v11_2 : List COper := [
 cM 11 1 0,
 cS 12 (.bin .eql .nilp (.t 11) (.c .nilp)) 1]
def v11_3 : List COper := [
 cS 0 (.mov (.c (.bool false))) 0]
def v11_4 : List COper := [
 cM 14 1 0,
 ⟨some 15, .call (.c (.func 42 [] [])) [.t 14, (.c (.str [97]))], none, 1⟩,
 cM 13 15 3,
 cE 16 0 13 7,
 cE 17 1 13 7,
 cE 18 2 13 7,
 ⟨some 2, .m (.alloc [(.str []), (.int .u64 (0)), (.int .i64 (0)), (.str []), (.int .u64 (0))]), none, 0⟩,
 cH (.store 5 (.t 2) (.t 16)) 79,
 cM 3 17 223,
 cM 4 18 511]
def v11_5 : List COper := [
 cM 20 4 0,
 cC 21 41 [.t 20] 1,
 cM 19 21 3,
 cE 22 0 19 7,
 cE 23 1 19 7,
 ⟨some 5, .m (.alloc [(.str []), (.str [])]), none, 0⟩,
 cH (.store 2 (.t 5) (.t 22)) 47,
 cM 6 23 127]
def v11_6 : List COper := [
 cM 24 4 0,
 cC 25 43 [.t 24] 1,
 cM 7 25 3]
def v11_7 : List COper := [
 cM 26 6 0,
 cM 27 26 1,
 cG 28 (.load (some 2) (.t 5)) 27 true 3,
 cG 29 (.build [(.str []), (.str [])] [(0, 1, (.c (.str [105, 97, 0, 1]))), (1, 1, (.c (.str [105, 97, 0, 1])))]) 27 true 3,
 cG 30 (.bin .eql (.flat [(0, .str), (1, .str)]) (.t 28) (.t 29)) 27 true 15,
 cQ 31 27 30 31,
 cM 32 31 63,
 cMG 33 7 32 true 127,
 cG 34 (.len 1 (.t 33)) 32 true 255,
 cG 35 (.bin .eql .int (.t 34) (.c (.int .i64 (1)))) 32 true 511,
 cQ 36 32 35 1023,
 cM 37 36 2047,
 cMG 38 7 37 true 4095,
 cG 39 (.indexAddr 1 (.t 38) (.c (.int .i64 (0)))) 37 true 8191,
 cG 40 (.load none (.t 39)) 37 true 16383,
 cG 41 (.bin .eql .str (.t 40) (.c (.str [105]))) 37 true 32767,
 cQ 42 37 41 65535,
 cM 0 42 131071]
def v11_body : CCode := (.seq (.region v11_0)
 (.seq (.region v11_1)
 (.seq (.seq (.region v11_2)
 (.cond (.t 12) (.seq (.region v11_3)
 .ret) .skip))
 (.seq (.region v11_4)
 (.seq (.region v11_5)
 (.seq (.region v11_6)
 (.seq (.region v11_7)
 .ret)))))))
def v11 : VFunc := ⟨43, [.t 0], true, v11_body,
 fun _ => [],
 fun _ => []⟩
@[simp] theorem v11_c : v11.body = v11_body := rfl
@[simp] theorem v11_r : v11.results = [.t 0] := rfl
@[simp] theorem v11_o : v11.own = true := rfl
def v12_0 : List COper := [
 cS 2 (.mov (.c (.bool false))) 0]
def v12_1 : List COper := [
 cM 5 0 0,
 cS 6 (.len 1 (.t 5)) 1,
 cS 7 (.mov (.c (.int .i64 (0)))) 0]
def v12_2 : List COper := [
 cS 8 (.bin .lss .no (.t 7) (.t 6)) 0]
def v12_3 : List COper := [
 cS 9 (.indexAddr 2 (.t 5) (.t 7)) 0,
 cS 10 (.load (some 2) (.t 9)) 1,
 ⟨some 4, .m (.alloc [(.str []), (.cslice [] 0 0 1)]), none, 0⟩,
 cH (.store 2 (.t 4) (.t 10)) 7]
def v12_4 : List COper := [
 cF 11 0 4 0,
 cL 12 11 1,
 cS 13 (.len 0 (.t 12)) 3,
 cS 14 (.bin .gtr .no (.t 13) (.c (.int .i64 (300)))) 7,
 cM 15 14 15,
 cG 16 (.fieldAddr 1 (.t 4)) 15 false 31,
 cG 17 (.load none (.t 16)) 15 false 63,
 cG 18 (.len 1 (.t 17)) 15 false 127,
 cG 19 (.bin .gtr .no (.t 18) (.c (.int .i64 (300)))) 15 false 255,
 cP 20 15 19 511]
def v12_5 : List COper := [
 cS 2 (.mov (.c (.bool false))) 0]
def v12_6 : List COper := [
 cS 21 (.bin .add .no (.t 7) (.c (.int .i64 (1)))) 0,
 cM 7 21 1]
def v12_b7 : CCode := (.seq (.region v12_2)
 (.seq (.cond (.t 8) .skip (.exit 0))
 (.seq (.block 1 (.seq (.region v12_3)
 (.seq (.region v12_4)
 (.cond (.t 20) (.seq (.region v12_5)
 .ret) .skip))))
 (.region v12_6))))
def v12_8 : List COper := [
 cM 22 0 0,
 cS 23 (.len 1 (.t 22)) 1,
 cS 24 (.bin .leq .no (.t 23) (.c (.int .i64 (100)))) 3,
 cM 2 24 7]
def v12_body : CCode := (.seq (.region v12_0)
 (.seq (.seq (.region v12_1)
 (.block 0 (.loop v12_b7)))
 (.seq (.region v12_8)
 .ret)))
def v12 : VFunc := ⟨25, [.t 2], true, v12_body,
 fun i => match i with | 0 => [7, 5, 0, 6] | _ => [],
 fun i => match i with | 0 => [0] | 1 => [5, 0, 6, 7] | _ => []⟩
@[simp] theorem v12_c : v12.body = v12_body := rfl
@[simp] theorem v12_r : v12.results = [.t 2] := rfl
@[simp] theorem v12_o : v12.own = true := rfl
@[simp] theorem v12_h0 : v12.head 0 = [7, 5, 0, 6] := rfl
@[simp] theorem v12_t0 : v12.tail 0 = [0] := rfl
@[simp] theorem v12_t1 : v12.tail 1 = [5, 0, 6, 7] := rfl
def v14_0 : List COper := [
 cS 4 (.mov (.c (.bool false))) 0]
def v14_1 : List COper := [
 cM 5 0 0,
 cM 6 1 0,
 cC 7 45 [.t 5, .t 6] 3,
 cM 4 7 7]
def v14_body : CCode := (.seq (.region v14_0)
 (.seq (.region v14_1)
 .ret))
def v14 : VFunc := ⟨8, [.t 4], true, v14_body,
 fun _ => [],
 fun _ => []⟩
@[simp] theorem v14_c : v14.body = v14_body := rfl
@[simp] theorem v14_r : v14.results = [.t 4] := rfl
@[simp] theorem v14_o : v14.own = true := rfl
def v16_0 : List COper := [
 cS 2 (.mov (.c (.cslice [] 1 0 2))) 0]
def v16_1 : List COper := [
 ⟨some 6, .m (.buildSlice 2 0 [(.str []), (.cslice [] 0 0 1)] []), none, 0⟩,
 cM 3 6 1]
def v16_2 : List COper := [
 cM 7 0 0,
 cS 8 (.len 1 (.t 7)) 1,
 cS 9 (.mov (.c (.int .i64 (0)))) 0]
def v16_3 : List COper := [
 cS 10 (.bin .lss .no (.t 9) (.t 8)) 0]
def v16_4 : List COper := [
 cS 11 (.indexAddr 2 (.t 7) (.t 9)) 0,
 cS 12 (.load (some 2) (.t 11)) 1,
 ⟨some 5, .m (.alloc [(.str []), (.cslice [] 0 0 1)]), none, 0⟩,
 cH (.store 2 (.t 5) (.t 12)) 7]
def v16_5 : List COper := [
 cM 13 3 0,
 cS 14 (.load (some 2) (.t 5)) 0,
 cC 15 47 [.t 13, .t 14] 3,
 cM 3 15 7]
def v16_6 : List COper := [
 cS 16 (.bin .add .no (.t 9) (.c (.int .i64 (1)))) 0,
 cM 9 16 1]
def v16_b7 : CCode := (.seq (.region v16_3)
 (.seq (.cond (.t 10) .skip (.exit 0))
 (.seq (.block 1 (.seq (.region v16_4)
 (.region v16_5)))
 (.region v16_6))))
def v16_8 : List COper := [
 cM 17 3 0,
 cM 2 17 1]
def v16_body : CCode := (.seq (.region v16_0)
 (.seq (.region v16_1)
 (.seq (.seq (.region v16_2)
 (.block 0 (.loop v16_b7)))
 (.seq (.region v16_8)
 .ret))))
def v16 : VFunc := ⟨18, [.t 2], true, v16_body,
 fun i => match i with | 0 => [9, 3, 7, 8] | _ => [],
 fun i => match i with | 0 => [3] | 1 => [3, 7, 8, 9] | _ => []⟩
@[simp] theorem v16_c : v16.body = v16_body := rfl
@[simp] theorem v16_r : v16.results = [.t 2] := rfl
@[simp] theorem v16_o : v16.own = true := rfl
@[simp] theorem v16_h0 : v16.head 0 = [9, 3, 7, 8] := rfl
@[simp] theorem v16_t0 : v16.tail 0 = [3] := rfl
@[simp] theorem v16_t1 : v16.tail 1 = [3, 7, 8, 9] := rfl
def v19_0 : List COper := [
 cS 4 (.mov (.c (.cslice [] 1 0 1))) 0,
 cS 5 (.mov (.c (.bool false))) 1,
 cS 6 (.mov (.c .nili)) 3]
def v19_1 : List COper := [
 cM 9 0 0,
 cS 10 (.bin .eql .nilp (.t 9) (.c .nilp)) 1]
def v19_2 : List COper := [
 cS 4 (.mov (.c (.cslice [] 1 0 1))) 0,
 cS 5 (.mov (.c (.bool false))) 1,
 cS 6 (.mov (.c .nili)) 3]
def v19_3 : List COper := [
 cM 12 0 0,
 cN 13 12 1,
 cF 14 0 13 3,
 cL 15 14 7,
 cM 16 1 0,
 cS 17 (.lookup .str (.cslice [] 0 0 1) true (.t 15) (.t 16)) 31,
 cM 11 17 63,
 cE 18 0 11 127,
 cE 19 1 11 127,
 cM 7 18 255,
 cM 8 19 1023]
def v19_4 : List COper := [
 cM 20 7 0,
 cC 21 49 [.t 20] 1,
 cM 22 8 0,
 cM 4 21 3,
 cM 5 22 15,
 cS 6 (.mov (.c .nili)) 31]
def v19_body : CCode := (.seq (.region v19_0)
 (.seq (.seq (.region v19_1)
 (.cond (.t 10) (.seq (.region v19_2)
 .ret) .skip))
 (.seq (.region v19_3)
 (.seq (.region v19_4)
 .ret))))
def v19 : VFunc := ⟨23, [.t 4, .t 5, .t 6], true, v19_body,
 fun _ => [],
 fun _ => []⟩
@[simp] theorem v19_c : v19.body = v19_body := rfl
@[simp] theorem v19_r : v19.results = [.t 4, .t 5, .t 6] := rfl
@[simp] theorem v19_o : v19.own = true := rfl
def v20_0 : List COper := [
 cS 4 (.mov (.c (.cslice [] 1 0 1))) 0,
 cS 5 (.mov (.c (.bool false))) 1,
 ⟨some 6, .m (.alloc [(.bool false), (.cslice [] 0 0 1), (.int .i64 (0)), (.bool false), (.str []), (.str [])]), none, 0⟩]
def v20_1 : List COper := [
 cM 9 0 0,
 cN 10 9 1,
 cF 11 0 10 3,
 cL 12 11 7,
 cS 13 (.un .not (.t 12)) 15,
 cM 14 13 31,
 cMG 15 0 14 true 63,
 cG 16 (.nilCheck (.t 15)) 14 true 127,
 cG 17 (.fieldAddr 2 (.t 16)) 14 true 255,
 cG 18 (.load none (.t 17)) 14 true 511,
 cMG 19 1 14 true 63,
 cCG 20 51 [.t 18, .t 19] 14 true 2047,
 cG 21 (.un .not (.t 20)) 14 true 4095,
 cQ 22 14 21 8191,
 cM 23 22 16383,
 cMG 24 0 23 true 32767,
 cG 25 (.nilCheck (.t 24)) 23 true 65535,
 cG 26 (.fieldAddr 3 (.t 25)) 23 true 131071,
 cG 27 (.load none (.t 26)) 23 true 262143,
 cMG 28 1 23 true 32767,
 cCG 29 51 [.t 27, .t 28] 23 true 1048575,
 cG 30 (.un .not (.t 29)) 23 true 2097151,
 cQ 31 23 30 4194303]
def v20_2 : List COper := [
 cM 32 1 0,
 cM 33 1 0,
 cC 34 52 [.t 32, .t 33] 3,
 cS 4 (.mov (.c (.cslice [] 1 0 1))) 7,
 cS 5 (.mov (.c (.bool false))) 15,
 cH (.store 6 (.t 6) (.t 34)) 31]
def v20_3 : List COper := [
 cM 35 0 0,
 cN 36 35 1,
 cF 37 1 36 3,
 cL 38 37 7,
 cS 39 (.len 1 (.t 38)) 15,
 cS 40 (.mov (.c (.int .i64 (0)))) 0]
def v20_4 : List COper := [
 cS 41 (.bin .lss .no (.t 40) (.t 39)) 0]
def v20_5 : List COper := [
 cS 42 (.indexAddr 2 (.t 38) (.t 40)) 0,
 cS 43 (.load (some 2) (.t 42)) 1,
 ⟨some 8, .m (.alloc [(.str []), (.cslice [] 0 0 1)]), none, 0⟩,
 cH (.store 2 (.t 8) (.t 43)) 7]
def v20_6 : List COper := [
 cF 44 0 8 0,
 cL 45 44 1,
 cM 46 1 0,
 cS 47 (.bin .eql .str (.t 45) (.t 46)) 7]
def v20_7 : List COper := [
 cF 48 1 8 0,
 cL 49 48 1,
 cS 50 (.build [(.bool false), (.cslice [] 0 0 1), (.int .i64 (0)), (.bool false), (.str []), (.str [])] []) 0,
 cM 4 49 3,
 cS 5 (.mov (.c (.bool true))) 11,
 cH (.store 6 (.t 6) (.t 50)) 31]
def v20_8 : List COper := [
 cS 51 (.bin .add .no (.t 40) (.c (.int .i64 (1)))) 0,
 cM 40 51 1]
def v20_b9 : CCode := (.seq (.region v20_4)
 (.seq (.cond (.t 41) .skip (.exit 0))
 (.seq (.block 1 (.seq (.region v20_5)
 (.seq (.region v20_6)
 (.cond (.t 47) (.seq (.region v20_7)
 .ret) .skip))))
 (.region v20_8))))
def v20_10 : List COper := [
 cS 52 (.build [(.bool false), (.cslice [] 0 0 1), (.int .i64 (0)), (.bool false), (.str []), (.str [])] []) 0,
 cS 4 (.mov (.c (.cslice [] 1 0 1))) 0,
 cS 5 (.mov (.c (.bool false))) 2,
 cH (.store 6 (.t 6) (.t 52)) 7]
def v20_body : CCode := (.seq (.region v20_0)
 (.seq (.seq (.region v20_1)
 (.cond (.t 31) (.seq (.region v20_2)
 .ret) .skip))
 (.seq (.seq (.region v20_3)
 (.block 0 (.loop v20_b9)))
 (.seq (.region v20_10)
 .ret))))
def v20 : VFunc := ⟨53, [.t 4, .t 5, .cell 6 (some 6)], true, v20_body,
 fun i => match i with | 0 => [6, 40, 1, 38, 39] | _ => [],
 fun i => match i with | 0 => [6] | 1 => [6, 1, 38, 39, 40] | _ => []⟩
@[simp] theorem v20_c : v20.body = v20_body := rfl
@[simp] theorem v20_r : v20.results = [.t 4, .t 5, .cell 6 (some 6)] := rfl
@[simp] theorem v20_o : v20.own = true := rfl
@[simp] theorem v20_h0 : v20.head 0 = [6, 40, 1, 38, 39] := rfl
@[simp] theorem v20_t0 : v20.tail 0 = [6] := rfl
@[simp] theorem v20_t1 : v20.tail 1 = [6, 1, 38, 39, 40] := rfl
def v22_0 : List COper := [
 cS 6 (.mov (.c (.cslice [] 1 0 2))) 0,
 ⟨some 7, .m (.alloc [(.bool false), (.cslice [] 0 0 1), (.int .i64 (0)), (.bool false), (.str []), (.str [])]), none, 0⟩]
def v22_1 : List COper := [
 cM 12 1 0,
 cM 13 2 0,
 cS 14 (.build [(.str []), (.str [])] [(0, 1, .t 12), (1, 1, .t 13)]) 3,
 ⟨some 8, .m (.alloc [(.str []), (.str [])]), none, 0⟩,
 cH (.store 2 (.t 8) (.t 14)) 15]
def v22_2 : List COper := [
 cS 15 (.load (some 2) (.t 8)) 0,
 cC 16 53 [.t 15] 1,
 cS 17 (.un .not (.t 16)) 3]
def v22_3 : List COper := [
 cS 18 (.build [(.bool false), (.cslice [] 0 0 1), (.int .i64 (0)), (.bool false), (.str []), (.str [])] []) 0,
 cS 6 (.mov (.c (.cslice [] 1 0 2))) 0,
 cH (.store 6 (.t 7) (.t 18)) 3]
def v22_4 : List COper := [
 cM 19 0 0,
 cN 20 19 1,
 cF 21 0 20 3,
 cL 22 21 7,
 cM 9 22 15]
def v22_5 : List COper := [
 cM 23 0 0,
 cN 24 23 1,
 cF 25 3 24 3,
 cL 26 25 7,
 cS 27 (.len 1 (.t 26)) 15,
 cS 28 (.mov (.c (.int .i64 (0)))) 0]
def v22_6 : List COper := [
 cS 29 (.bin .lss .no (.t 28) (.t 27)) 0]
def v22_7 : List COper := [
 cS 30 (.indexAddr 2 (.t 26) (.t 28)) 0,
 cS 31 (.load (some 2) (.t 30)) 1,
 ⟨some 11, .m (.alloc [(.str []), (.str [])]), none, 0⟩,
 cH (.store 2 (.t 11) (.t 31)) 7]
def v22_8 : List COper := [
 cM 32 9 0,
 cM 33 32 1,
 cG 34 (.load (some 2) (.t 11)) 33 false 3,
 cG 35 (.load (some 2) (.t 8)) 33 false 3,
 cCG 36 54 [.t 34, .t 35] 33 false 15,
 cP 37 33 36 31,
 cM 9 37 63]
def v22_9 : List COper := [
 cS 38 (.bin .add .no (.t 28) (.c (.int .i64 (1)))) 0,
 cM 28 38 1]
def v22_b10 : CCode := (.seq (.region v22_6)
 (.seq (.cond (.t 29) .skip (.exit 0))
 (.seq (.block 1 (.seq (.region v22_7)
 (.region v22_8)))
 (.region v22_9))))
def v22_11 : List COper := [
 cM 39 9 0,
 cS 40 (.un .not (.t 39)) 1]
def v22_12 : List COper := [
 cM 41 1 0,
 cM 42 2 0,
 cC 43 52 [.t 41, .t 42] 3,
 cS 6 (.mov (.c (.cslice [] 1 0 2))) 7,
 cH (.store 6 (.t 7) (.t 43)) 15]
def v22_13 : List COper := [
 cM 44 0 0,
 cN 45 44 1,
 cF 46 1 45 3,
 cL 47 46 7,
 cS 48 (.load (some 2) (.t 8)) 0,
 cC 49 55 [.t 47, .t 48] 31,
 cS 50 (.build [(.bool false), (.cslice [] 0 0 1), (.int .i64 (0)), (.bool false), (.str []), (.str [])] []) 0,
 cM 6 49 63,
 cH (.store 6 (.t 7) (.t 50)) 255]
def v22_13s : List Step := [
 .small 0 (cM 44 0 0),
 .small 1 (cN 45 44 1),
 .small 2 (cF 46 1 45 3),
 .small 3 (cL 47 46 7),
 .small 4 (cS 48 (.load (some 2) (.t 8)) 0),
 .small 6 (cS 50 (.build [(.bool false), (.cslice [] 0 0 1), (.int .i64 (0)), (.bool false), (.str []), (.str [])] []) 0),
 .big 5 (cC 49 55 [.t 47, .t 48] 31),
 .small 7 (cM 6 49 63),
 .big 8 (cH (.store 6 (.t 7) (.t 50)) 255)]
theorem v22_13h : sched (v22_13.length + 1) (numbered v22_13 0) 0 = some v22_13s := by kernel_rfl
def v22_body : CCode := (.seq (.region v22_0)
 (.seq (.region v22_1)
 (.seq (.seq (.region v22_2)
 (.cond (.t 17) (.seq (.region v22_3)
 .ret) .skip))
 (.seq (.region v22_4)
 (.seq (.seq (.region v22_5)
 (.block 0 (.loop v22_b10)))
 (.seq (.seq (.region v22_11)
 (.cond (.t 40) (.seq (.region v22_12)
 .ret) .skip))
 (.seq (.draw v22_13)
 .ret)))))))
def v22 : VFunc := ⟨51, [.t 6, .cell 7 (some 6)], true, v22_body,
 fun i => match i with | 0 => [28, 8, 9, 26, 7, 2, 1, 0, 27] | _ => [],
 fun i => match i with | 0 => [7, 2, 1, 0, 8, 9] | 1 => [8, 9, 26, 7, 2, 1, 0, 27, 28] | _ => []⟩
@[simp] theorem v22_c : v22.body = v22_body := rfl
@[simp] theorem v22_r : v22.results = [.t 6, .cell 7 (some 6)] := rfl
@[simp] theorem v22_o : v22.own = true := rfl
@[simp] theorem v22_h0 : v22.head 0 = [28, 8, 9, 26, 7, 2, 1, 0, 27] := rfl
@[simp] theorem v22_t0 : v22.tail 0 = [7, 2, 1, 0, 8, 9] := rfl
@[simp] theorem v22_t1 : v22.tail 1 = [8, 9, 26, 7, 2, 1, 0, 27, 28] := rfl
def v23_0 : List COper := [
 cS 4 (.mov (.c (.bool false))) 0]
def v23_1 : List COper := [
 cM 5 0 0,
 cS 6 (.toStr (.t 5)) 1,
 cM 7 1 0,
 cS 8 (.toStr (.t 7)) 4,
 cS 9 (.bin .eql .str (.t 6) (.t 8)) 15,
 cM 4 9 31]
def v23_body : CCode := (.seq (.region v23_0)
 (.seq (.region v23_1)
 .ret))
def v23 : VFunc := ⟨10, [.t 4], true, v23_body,
 fun _ => [],
 fun _ => []⟩
@[simp] theorem v23_c : v23.body = v23_body := rfl
@[simp] theorem v23_r : v23.results = [.t 4] := rfl
@[simp] theorem v23_o : v23.own = true := rfl
def v24_0 : List COper := [
 cS 2 (.mov (.c (.bool false))) 0]
def v24_1 : List COper := [
 cM 5 0 0,
 cS 6 (.len 1 (.t 5)) 1,
 cS 7 (.mov (.c (.int .i64 (0)))) 0]
def v24_2 : List COper := [
 cS 8 (.bin .lss .no (.t 7) (.t 6)) 0]
def v24_3 : List COper := [
 cS 9 (.indexAddr 3 (.t 5) (.t 7)) 0,
 cS 10 (.load (some 3) (.t 9)) 1,
 ⟨some 4, .m (.alloc [(.str []), (.str []), (.cslice [] 0 0 2)]), none, 0⟩,
 cH (.store 3 (.t 4) (.t 10)) 7]
def v24_4 : List COper := [
 cF 11 2 4 0,
 cL 12 11 1,
 cC 13 12 [.t 12] 3,
 cS 14 (.un .not (.t 13)) 7,
 cM 15 14 15,
 cG 16 (.fieldAddr 0 (.t 4)) 15 false 31,
 cG 17 (.fieldAddr 0 (.t 16)) 15 false 63,
 cG 18 (.load none (.t 17)) 15 false 127,
 cG 19 (.len 0 (.t 18)) 15 false 255,
 cG 20 (.bin .gtr .no (.t 19) (.c (.int .i64 (300)))) 15 false 511,
 cP 21 15 20 1023,
 cM 22 21 2047,
 cG 23 (.fieldAddr 0 (.t 4)) 22 false 4095,
 cG 24 (.fieldAddr 1 (.t 23)) 22 false 8191,
 cG 25 (.load none (.t 24)) 22 false 16383,
 cG 26 (.len 0 (.t 25)) 22 false 32767,
 cG 27 (.bin .gtr .no (.t 26) (.c (.int .i64 (300)))) 22 false 65535,
 cP 28 22 27 131071]
def v24_5 : List COper := [
 cS 2 (.mov (.c (.bool false))) 0]
def v24_6 : List COper := [
 cS 29 (.bin .add .no (.t 7) (.c (.int .i64 (1)))) 0,
 cM 7 29 1]
def v24_b7 : CCode := (.seq (.region v24_2)
 (.seq (.cond (.t 8) .skip (.exit 0))
 (.seq (.block 1 (.seq (.region v24_3)
 (.seq (.region v24_4)
 (.cond (.t 28) (.seq (.region v24_5)
 .ret) .skip))))
 (.region v24_6))))
def v24_8 : List COper := [
 cM 30 0 0,
 cS 31 (.len 1 (.t 30)) 1,
 cS 32 (.bin .leq .no (.t 31) (.c (.int .i64 (20)))) 3,
 cM 2 32 7]
def v24_body : CCode := (.seq (.region v24_0)
 (.seq (.seq (.region v24_1)
 (.block 0 (.loop v24_b7)))
 (.seq (.region v24_8)
 .ret)))
def v24 : VFunc := ⟨33, [.t 2], true, v24_body,
 fun i => match i with | 0 => [7, 5, 0, 6] | _ => [],
 fun i => match i with | 0 => [0] | 1 => [5, 0, 6, 7] | _ => []⟩
@[simp] theorem v24_c : v24.body = v24_body := rfl
@[simp] theorem v24_r : v24.results = [.t 2] := rfl
@[simp] theorem v24_o : v24.own = true := rfl
@[simp] theorem v24_h0 : v24.head 0 = [7, 5, 0, 6] := rfl
@[simp] theorem v24_t0 : v24.tail 0 = [0] := rfl
@[simp] theorem v24_t1 : v24.tail 1 = [5, 0, 6, 7] := rfl
def v25_0 : List COper := [
 cS 0 (.mov (.c .nilp)) 0]
def v25_1 : List COper := [
 ⟨some 1, .call (.c (.func 44 [] [])) [(.c (.cslice [] 0 0 2))], none, 0⟩,
 ⟨some 2, .m (.makeMap), none, 0⟩,
 cS 3 (.build [.nilp, .nilm, (.cslice [] 3 0 2)] [(0, 1, .t 1), (1, 1, .t 2)]) 3,
 ⟨some 4, .m (.box (.t 3)), none, 7⟩,
 cM 0 4 15]
def v25_body : CCode := (.seq (.region v25_0)
 (.seq (.region v25_1)
 .ret))
def v25 : VFunc := ⟨5, [.t 0], true, v25_body,
 fun _ => [],
 fun _ => []⟩
@[simp] theorem v25_c : v25.body = v25_body := rfl
@[simp] theorem v25_r : v25.results = [.t 0] := rfl
@[simp] theorem v25_o : v25.own = true := rfl
def v26_0 : List COper := [
 ⟨some 4, .m (.box (.t 1)), none, 0⟩]
def v26_1 : List COper := [
 cM 11 0 0,
 cS 12 (.bin .eql .nilp (.t 11) (.c .nilp)) 1,
 cM 13 12 3,
 cMG 14 0 13 false 7,
 cG 15 (.nilCheck (.t 14)) 13 false 15,
 cG 16 (.fieldAddr 0 (.t 15)) 13 false 31,
 cG 17 (.load none (.t 16)) 13 false 63,
 cG 18 (.bin .eql .nilp (.t 17) (.c .nilp)) 13 false 127,
 cP 19 13 18 255]
def v26_2 : List COper := [
 cF 20 0 4 0,
 cL 21 20 1,
 cF 22 1 4 0,
 cL 23 22 4,
 cS 24 (.build [(.str []), (.str [])] [(0, 1, .t 21), (1, 1, .t 23)]) 15,
 ⟨some 6, .m (.alloc [(.str []), (.str [])]), none, 0⟩,
 cH (.store 2 (.t 6) (.t 24)) 63]
def v26_3 : List COper := [
 cF 36 0 4 0,
 cL 37 36 1,
 cF 38 1 4 0,
 cL 39 38 4,
 cS 40 (.bin .eql .str (.t 37) (.t 39)) 15,
 cM 35 40 31]
def v26_4 : List COper := [
 cF 41 0 4 0,
 cL 42 41 1,
 cC 43 56 [.t 42] 3,
 cH (.store 2 (.t 6) (.t 43)) 7]
def v26_5 : List COper := [
 cM 44 0 0,
 cN 45 44 1,
 cF 46 1 45 3,
 cL 47 46 7,
 cF 48 0 4 0,
 cL 49 48 16,
 cS 50 (.lookup .str (.int .i64 (0)) false (.t 47) (.t 49)) 63,
 cS 51 (.bin .add .no (.t 50) (.c (.int .i64 (1)))) 127,
 cH (.mapUpdate .str (.t 47) (.t 49) (.t 51)) 255]
def v26_5s : List Step := [
 .small 0 (cM 44 0 0),
 .small 1 (cN 45 44 1),
 .small 2 (cF 46 1 45 3),
 .small 3 (cL 47 46 7),
 .small 4 (cF 48 0 4 0),
 .small 5 (cL 49 48 16),
 .small 6 (cS 50 (.lookup .str (.int .i64 (0)) false (.t 47) (.t 49)) 63),
 .small 7 (cS 51 (.bin .add .no (.t 50) (.c (.int .i64 (1)))) 127),
 .big 8 (cH (.mapUpdate .str (.t 47) (.t 49) (.t 51)) 255)]
theorem v26_5h : sched (v26_5.length + 1) (numbered v26_5 0) 0 = some v26_5s := by kernel_rfl
def v26_6 : List COper := [
 cS 53 (.load (some 2) (.t 6)) 0,
 cC 54 57 [.t 53] 1,
 cS 55 (.un .not (.t 54)) 3,
 cM 52 55 7]
def v26_7 : List COper := [
 cM 25 0 0,
 cM 26 0 0,
 cN 27 26 2,
 cF 28 2 27 6,
 cL 29 28 14,
 cS 30 (.load (some 2) (.t 6)) 0,
 ⟨some 31, .m (.buildSlice 2 1 [(.str []), (.str [])] [(0, 2, .t 30)]), none, 32⟩,
 ⟨some 32, .h (.append 2 32 false (.t 29) (.t 31)), none, 126⟩,
 cN 33 25 255,
 cF 34 2 33 511,
 cH (.store 1 (.t 34) (.t 32)) 1023]
def v26_7s : List Step := [
 .small 0 (cM 25 0 0),
 .small 1 (cM 26 0 0),
 .small 2 (cN 27 26 2),
 .small 3 (cF 28 2 27 6),
 .small 4 (cL 29 28 14),
 .small 5 (cS 30 (.load (some 2) (.t 6)) 0),
 .small 6 ⟨some 31, .m (.buildSlice 2 1 [(.str []), (.str [])] [(0, 2, .t 30)]), none, 32⟩,
 .big 7 ⟨some 32, .h (.append 2 32 false (.t 29) (.t 31)), none, 126⟩,
 .small 8 (cN 33 25 255),
 .small 9 (cF 34 2 33 511),
 .big 10 (cH (.store 1 (.t 34) (.t 32)) 1023)]
theorem v26_7h : sched (v26_7.length + 1) (numbered v26_7 0) 0 = some v26_7s := by kernel_rfl
def v26_8 : List COper := [
 cM 56 0 0,
 cN 57 56 1,
 cF 58 0 57 3,
 cL 59 58 7,
 cS 60 (.load (some 2) (.t 6)) 0,
 cC 61 46 [.t 59, .t 60] 31,
 cS 62 (.len 1 (.t 61)) 63,
 cS 63 (.mov (.c (.int .i64 (0)))) 0]
def v26_8s : List Step := [
 .small 0 (cM 56 0 0),
 .small 1 (cN 57 56 1),
 .small 2 (cF 58 0 57 3),
 .small 3 (cL 59 58 7),
 .small 4 (cS 60 (.load (some 2) (.t 6)) 0),
 .small 7 (cS 63 (.mov (.c (.int .i64 (0)))) 0),
 .big 5 (cC 61 46 [.t 59, .t 60] 31),
 .small 6 (cS 62 (.len 1 (.t 61)) 63)]
theorem v26_8h : sched (v26_8.length + 1) (numbered v26_8 0) 0 = some v26_8s := by kernel_rfl
def v26_9 : List COper := [
 cS 64 (.bin .lss .no (.t 63) (.t 62)) 0]
def v26_10 : List COper := [
 cS 65 (.indexAddr 2 (.t 61) (.t 63)) 0,
 cS 66 (.load (some 2) (.t 65)) 1,
 ⟨some 8, .m (.alloc [(.str []), (.cslice [] 0 0 1)]), none, 0⟩,
 cH (.store 2 (.t 8) (.t 66)) 7]
def v26_11 : List COper := [
 cM 67 0 0,
 cN 68 67 1,
 cF 69 0 68 3,
 cL 70 69 7,
 cN 71 70 15,
 cF 72 0 71 31,
 cL 73 72 63,
 cF 74 0 8 0,
 cL 75 74 128,
 cH (.delete .str (.t 73) (.t 75)) 511]
def v26_11s : List Step := [
 .small 0 (cM 67 0 0),
 .small 1 (cN 68 67 1),
 .small 2 (cF 69 0 68 3),
 .small 3 (cL 70 69 7),
 .small 4 (cN 71 70 15),
 .small 5 (cF 72 0 71 31),
 .small 6 (cL 73 72 63),
 .small 7 (cF 74 0 8 0),
 .small 8 (cL 75 74 128),
 .big 9 (cH (.delete .str (.t 73) (.t 75)) 511)]
theorem v26_11h : sched (v26_11.length + 1) (numbered v26_11 0) 0 = some v26_11s := by kernel_rfl
def v26_12 : List COper := [
 cS 76 (.bin .add .no (.t 63) (.c (.int .i64 (1)))) 0,
 cM 63 76 1]
def v26_b13 : CCode := (.seq (.region v26_9)
 (.seq (.cond (.t 64) .skip (.exit 1))
 (.seq (.block 2 (.seq (.region v26_10)
 (.draw v26_11)))
 (.region v26_12))))
def v26_14 : List COper := [
 cM 77 2 0,
 cS 78 (.len 1 (.t 77)) 1,
 cS 79 (.mov (.c (.int .i64 (0)))) 0]
def v26_15 : List COper := [
 cS 80 (.bin .lss .no (.t 79) (.t 78)) 0]
def v26_16 : List COper := [
 cS 81 (.indexAddr 2 (.t 77) (.t 79)) 0,
 cS 82 (.load (some 2) (.t 81)) 1,
 ⟨some 10, .m (.alloc [(.str []), (.cslice [] 0 0 1)]), none, 0⟩,
 cH (.store 2 (.t 10) (.t 82)) 7]
def v26_17 : List COper := [
 cS 83 (.load (some 2) (.t 6)) 0,
 cF 84 0 10 0,
 cL 85 84 2,
 cC 86 58 [.t 83, .t 85] 7]
def v26_18 : List COper := [
 cM 87 0 0,
 cN 88 87 1,
 cF 89 0 88 3,
 cL 90 89 7,
 cN 91 90 15,
 cF 92 0 91 31,
 cL 93 92 63,
 cF 94 0 10 0,
 cL 95 94 128,
 cF 96 1 10 0,
 cL 97 96 512,
 cC 98 49 [.t 97] 1536,
 cH (.mapUpdate .str (.t 93) (.t 95) (.t 98)) 4095]
def v26_18s : List Step := [
 .small 0 (cM 87 0 0),
 .small 1 (cN 88 87 1),
 .small 2 (cF 89 0 88 3),
 .small 3 (cL 90 89 7),
 .small 4 (cN 91 90 15),
 .small 5 (cF 92 0 91 31),
 .small 6 (cL 93 92 63),
 .small 7 (cF 94 0 10 0),
 .small 8 (cL 95 94 128),
 .small 9 (cF 96 1 10 0),
 .small 10 (cL 97 96 512),
 .big 11 (cC 98 49 [.t 97] 1536),
 .big 12 (cH (.mapUpdate .str (.t 93) (.t 95) (.t 98)) 4095)]
theorem v26_18h : sched (v26_18.length + 1) (numbered v26_18 0) 0 = some v26_18s := by kernel_rfl
def v26_19 : List COper := [
 cS 99 (.bin .add .no (.t 79) (.c (.int .i64 (1)))) 0,
 cM 79 99 1]
def v26_b20 : CCode := (.seq (.region v26_15)
 (.seq (.cond (.t 80) .skip (.exit 3))
 (.seq (.block 4 (.seq (.region v26_16)
 (.seq (.region v26_17)
 (.cond (.t 86) (.draw v26_18) .skip))))
 (.region v26_19))))
def v26_body : CCode := (.seq (.region v26_0)
 (.seq (.seq (.region v26_1)
 (.cond (.t 19) .ret .skip))
 (.seq (.region v26_2)
 (.seq (.block 0 (.seq (.region v26_3)
 (.cond (.t 35) (.seq (.region v26_4)
 (.draw v26_5)) (.seq (.region v26_6)
 (.cond (.t 52) .ret (.draw v26_7))))))
 (.seq (.seq (.draw v26_8)
 (.block 1 (.loop v26_b13)))
 (.seq (.region v26_14)
 (.block 3 (.loop v26_b20))))))))
def v26 : VFunc := ⟨100, [], true, v26_body,
 fun i => match i with | 1 => [63, 0, 61, 6, 2, 62] | 3 => [79, 0, 6, 77, 78] | _ => [],
 fun i => match i with | 0 => [0, 6, 2] | 1 => [0, 6, 2] | 2 => [0, 61, 6, 2, 62, 63] | 3 => [] | 4 => [0, 6, 77, 78, 79] | _ => []⟩
@[simp] theorem v26_c : v26.body = v26_body := rfl
@[simp] theorem v26_r : v26.results = [] := rfl
@[simp] theorem v26_o : v26.own = true := rfl
@[simp] theorem v26_h1 : v26.head 1 = [63, 0, 61, 6, 2, 62] := rfl
@[simp] theorem v26_h3 : v26.head 3 = [79, 0, 6, 77, 78] := rfl
@[simp] theorem v26_t0 : v26.tail 0 = [0, 6, 2] := rfl
@[simp] theorem v26_t1 : v26.tail 1 = [0, 6, 2] := rfl
@[simp] theorem v26_t2 : v26.tail 2 = [0, 61, 6, 2, 62, 63] := rfl
@[simp] theorem v26_t3 : v26.tail 3 = [] := rfl
@[simp] theorem v26_t4 : v26.tail 4 = [0, 6, 77, 78, 79] := rfl
def v27_0 : List COper := [
 ⟨some 4, .m (.box (.t 1)), none, 0⟩]
def v27_1 : List COper := [
 cF 9 0 4 0,
 cL 10 9 1,
 cF 11 1 4 0,
 cL 12 11 4,
 cS 13 (.build [(.str []), (.str [])] [(0, 1, .t 10), (1, 1, .t 12)]) 15,
 ⟨some 6, .m (.alloc [(.str []), (.str [])]), none, 0⟩,
 cH (.store 2 (.t 6) (.t 13)) 63]
def v27_2 : List COper := [
 cF 25 1 4 0,
 cL 26 25 1,
 cF 27 0 4 0,
 cL 28 27 4,
 cS 29 (.bin .eql .str (.t 26) (.t 28)) 15,
 cM 24 29 31]
def v27_3 : List COper := [
 cF 30 0 4 0,
 cL 31 30 1,
 cC 32 40 [.t 31] 3,
 cH (.store 2 (.t 6) (.t 32)) 7]
def v27_4 : List COper := [
 cM 33 0 0,
 cM 34 0 0,
 cN 35 34 2,
 cF 36 2 35 6,
 cL 37 36 14,
 cS 38 (.load (some 2) (.t 6)) 0,
 ⟨some 39, .m (.buildSlice 2 1 [(.str []), (.str [])] [(0, 2, .t 38)]), none, 32⟩,
 ⟨some 40, .h (.append 2 32 false (.t 37) (.t 39)), none, 126⟩,
 cN 41 33 255,
 cF 42 2 41 511,
 cH (.store 1 (.t 42) (.t 40)) 1023]
def v27_4s : List Step := [
 .small 0 (cM 33 0 0),
 .small 1 (cM 34 0 0),
 .small 2 (cN 35 34 2),
 .small 3 (cF 36 2 35 6),
 .small 4 (cL 37 36 14),
 .small 5 (cS 38 (.load (some 2) (.t 6)) 0),
 .small 6 ⟨some 39, .m (.buildSlice 2 1 [(.str []), (.str [])] [(0, 2, .t 38)]), none, 32⟩,
 .big 7 ⟨some 40, .h (.append 2 32 false (.t 37) (.t 39)), none, 126⟩,
 .small 8 (cN 41 33 255),
 .small 9 (cF 42 2 41 511),
 .big 10 (cH (.store 1 (.t 42) (.t 40)) 1023)]
theorem v27_4h : sched (v27_4.length + 1) (numbered v27_4 0) 0 = some v27_4s := by kernel_rfl
def v27_5 : List COper := [
 cS 44 (.load (some 2) (.t 6)) 0,
 cC 45 53 [.t 44] 1,
 cS 46 (.un .not (.t 45)) 3,
 cM 43 46 7]
def v27_6 : List COper := [
 cM 14 0 0,
 cM 15 0 0,
 cN 16 15 2,
 cF 17 3 16 6,
 cL 18 17 14,
 cS 19 (.load (some 2) (.t 6)) 0,
 ⟨some 20, .m (.buildSlice 2 1 [(.str []), (.str [])] [(0, 2, .t 19)]), none, 32⟩,
 ⟨some 21, .h (.append 2 32 false (.t 18) (.t 20)), none, 126⟩,
 cN 22 14 255,
 cF 23 3 22 511,
 cH (.store 1 (.t 23) (.t 21)) 1023]
def v27_6s : List Step := [
 .small 0 (cM 14 0 0),
 .small 1 (cM 15 0 0),
 .small 2 (cN 16 15 2),
 .small 3 (cF 17 3 16 6),
 .small 4 (cL 18 17 14),
 .small 5 (cS 19 (.load (some 2) (.t 6)) 0),
 .small 6 ⟨some 20, .m (.buildSlice 2 1 [(.str []), (.str [])] [(0, 2, .t 19)]), none, 32⟩,
 .big 7 ⟨some 21, .h (.append 2 32 false (.t 18) (.t 20)), none, 126⟩,
 .small 8 (cN 22 14 255),
 .small 9 (cF 23 3 22 511),
 .big 10 (cH (.store 1 (.t 23) (.t 21)) 1023)]
theorem v27_6h : sched (v27_6.length + 1) (numbered v27_6 0) 0 = some v27_6s := by kernel_rfl
def v27_7 : List COper := [
 cM 47 0 0,
 cM 48 0 0,
 cN 49 48 2,
 cF 50 1 49 6,
 cL 51 50 14,
 cS 52 (.load (some 2) (.t 6)) 0,
 cC 53 50 [.t 51, .t 52] 62,
 cN 54 47 127,
 cF 55 1 54 255,
 cH (.store 1 (.t 55) (.t 53)) 511]
def v27_7s : List Step := [
 .small 0 (cM 47 0 0),
 .small 1 (cM 48 0 0),
 .small 2 (cN 49 48 2),
 .small 3 (cF 50 1 49 6),
 .small 4 (cL 51 50 14),
 .small 5 (cS 52 (.load (some 2) (.t 6)) 0),
 .big 6 (cC 53 50 [.t 51, .t 52] 62),
 .small 7 (cN 54 47 127),
 .small 8 (cF 55 1 54 255),
 .big 9 (cH (.store 1 (.t 55) (.t 53)) 511)]
theorem v27_7h : sched (v27_7.length + 1) (numbered v27_7 0) 0 = some v27_7s := by kernel_rfl
def v27_8 : List COper := [
 cM 56 2 0,
 cC 57 16 [.t 56] 1,
 cS 58 (.load (some 2) (.t 6)) 0,
 cC 59 55 [.t 57, .t 58] 7,
 cS 60 (.len 1 (.t 59)) 15,
 cS 61 (.mov (.c (.int .i64 (0)))) 0]
def v27_8s : List Step := [
 .small 0 (cM 56 2 0),
 .small 2 (cS 58 (.load (some 2) (.t 6)) 0),
 .small 5 (cS 61 (.mov (.c (.int .i64 (0)))) 0),
 .big 1 (cC 57 16 [.t 56] 1),
 .big 3 (cC 59 55 [.t 57, .t 58] 7),
 .small 4 (cS 60 (.len 1 (.t 59)) 15)]
theorem v27_8h : sched (v27_8.length + 1) (numbered v27_8 0) 0 = some v27_8s := by kernel_rfl
def v27_9 : List COper := [
 cS 62 (.bin .lss .no (.t 61) (.t 60)) 0]
def v27_10 : List COper := [
 cS 63 (.indexAddr 2 (.t 59) (.t 61)) 0,
 cS 64 (.load (some 2) (.t 63)) 1,
 ⟨some 8, .m (.alloc [(.str []), (.cslice [] 0 0 1)]), none, 0⟩,
 cH (.store 2 (.t 8) (.t 64)) 7]
def v27_11 : List COper := [
 cM 65 0 0,
 cM 66 0 0,
 cN 67 66 2,
 cF 68 1 67 6,
 cL 69 68 14,
 cS 70 (.load (some 2) (.t 8)) 0,
 cC 71 47 [.t 69, .t 70] 62,
 cN 72 65 127,
 cF 73 1 72 255,
 cH (.store 1 (.t 73) (.t 71)) 511]
def v27_11s : List Step := [
 .small 0 (cM 65 0 0),
 .small 1 (cM 66 0 0),
 .small 2 (cN 67 66 2),
 .small 3 (cF 68 1 67 6),
 .small 4 (cL 69 68 14),
 .small 5 (cS 70 (.load (some 2) (.t 8)) 0),
 .big 6 (cC 71 47 [.t 69, .t 70] 62),
 .small 7 (cN 72 65 127),
 .small 8 (cF 73 1 72 255),
 .big 9 (cH (.store 1 (.t 73) (.t 71)) 511)]
theorem v27_11h : sched (v27_11.length + 1) (numbered v27_11 0) 0 = some v27_11s := by kernel_rfl
def v27_12 : List COper := [
 cS 74 (.bin .add .no (.t 61) (.c (.int .i64 (1)))) 0,
 cM 61 74 1]
def v27_b13 : CCode := (.seq (.region v27_9)
 (.seq (.cond (.t 62) .skip (.exit 1))
 (.seq (.block 2 (.seq (.region v27_10)
 (.draw v27_11)))
 (.region v27_12))))
def v27_body : CCode := (.seq (.region v27_0)
 (.seq (.region v27_1)
 (.seq (.block 0 (.seq (.region v27_2)
 (.cond (.t 24) (.seq (.region v27_3)
 (.draw v27_4)) (.seq (.region v27_5)
 (.cond (.t 43) .ret (.draw v27_6))))))
 (.seq (.draw v27_7)
 (.seq (.draw v27_8)
 (.block 1 (.loop v27_b13)))))))
def v27 : VFunc := ⟨75, [], true, v27_body,
 fun i => match i with | 1 => [61, 0, 59, 60] | _ => [],
 fun i => match i with | 0 => [0, 2, 6] | 1 => [] | 2 => [0, 59, 60, 61] | _ => []⟩
@[simp] theorem v27_c : v27.body = v27_body := rfl
@[simp] theorem v27_r : v27.results = [] := rfl
@[simp] theorem v27_o : v27.own = true := rfl
@[simp] theorem v27_h1 : v27.head 1 = [61, 0, 59, 60] := rfl
@[simp] theorem v27_t0 : v27.tail 0 = [0, 2, 6] := rfl
@[simp] theorem v27_t1 : v27.tail 1 = [] := rfl
@[simp] theorem v27_t2 : v27.tail 2 = [0, 59, 60, 61] := rfl
def v28_0 : List COper := [
 cS 4 (.mov (.c (.cslice [] 1 0 1))) 0,
 cS 5 (.mov (.c (.bool false))) 1,
 cS 6 (.mov (.c .nili)) 3]
def v28_1 : List COper := [
 cM 7 0 0,
 cS 8 (.bin .eql .nilp (.t 7) (.c .nilp)) 1,
 cM 9 8 3,
 cMG 10 0 9 false 7,
 cG 11 (.nilCheck (.t 10)) 9 false 15,
 cG 12 (.fieldAddr 1 (.t 11)) 9 false 31,
 cG 13 (.load none (.t 12)) 9 false 63,
 cMG 14 1 9 false 7,
 cG 15 (.lookup .str (.int .i64 (0)) false (.t 13) (.t 14)) 9 false 255,
 cG 16 (.bin .eql .int (.t 15) (.c (.int .i64 (0)))) 9 false 511,
 cMG 17 16 9 false 1023,
 cMG 18 0 17 true 2047,
 cG 19 (.nilCheck (.t 18)) 17 true 4095,
 cG 20 (.fieldAddr 2 (.t 19)) 17 true 8191,
 cG 21 (.load none (.t 20)) 17 true 16383,
 cMG 22 1 17 true 2047,
 cCG 23 59 [.t 21, .t 22] 17 true 65535,
 cG 24 (.un .not (.t 23)) 17 true 131071,
 cG 25 (.pick (.t 17) (.t 24) (.c (.bool false))) 9 false 262143,
 cP 26 9 25 524287]
def v28_2 : List COper := [
 cM 27 1 0,
 cM 28 1 0,
 cC 29 60 [.t 27, .t 28] 3,
 cS 4 (.mov (.c (.cslice [] 1 0 1))) 7,
 cS 5 (.mov (.c (.bool false))) 15,
 cM 6 29 31]
def v28_3 : List COper := [
 cM 30 0 0,
 cN 31 30 1,
 cF 32 0 31 3,
 cL 33 32 7,
 cM 34 1 0,
 cC 35 19 [.t 33, .t 34] 31,
 cE 36 0 35 63,
 cE 37 1 35 63,
 cE 38 2 35 63,
 cM 4 36 511,
 cM 5 37 1023,
 cM 6 38 2047]
def v28_body : CCode := (.seq (.region v28_0)
 (.seq (.seq (.region v28_1)
 (.cond (.t 26) (.seq (.region v28_2)
 .ret) .skip))
 (.seq (.region v28_3)
 .ret)))
def v28 : VFunc := ⟨39, [.t 4, .t 5, .t 6], true, v28_body,
 fun _ => [],
 fun _ => []⟩
@[simp] theorem v28_c : v28.body = v28_body := rfl
@[simp] theorem v28_r : v28.results = [.t 4, .t 5, .t 6] := rfl
@[simp] theorem v28_o : v28.own = true := rfl
def v29_0 : List COper := [
 cS 6 (.mov (.c (.cslice [] 1 0 2))) 0,
 cS 7 (.mov (.c .nili)) 1]
def v29_1 : List COper := [
 cM 11 1 0,
 cM 12 2 0,
 cS 13 (.build [(.str []), (.str [])] [(0, 1, .t 11), (1, 1, .t 12)]) 3,
 ⟨some 8, .m (.alloc [(.str []), (.str [])]), none, 0⟩,
 cH (.store 2 (.t 8) (.t 13)) 15]
def v29_2 : List COper := [
 cS 14 (.load (some 2) (.t 8)) 0,
 cC 15 57 [.t 14] 1,
 cS 16 (.un .not (.t 15)) 3]
def v29_3 : List COper := [
 cS 6 (.mov (.c (.cslice [] 1 0 2))) 0,
 cS 7 (.mov (.c .nili)) 1]
def v29_4 : List COper := [
 cM 17 0 0,
 cS 18 (.bin .neq .nilp (.t 17) (.c .nilp)) 1]
def v29_5 : List COper := [
 cM 19 0 0,
 cN 20 19 1,
 cF 21 2 20 3,
 cL 22 21 7,
 cS 23 (.len 1 (.t 22)) 15,
 cS 24 (.mov (.c (.int .i64 (0)))) 0]
def v29_6 : List COper := [
 cS 25 (.bin .lss .no (.t 24) (.t 23)) 0]
def v29_7 : List COper := [
 cS 26 (.indexAddr 2 (.t 22) (.t 24)) 0,
 cS 27 (.load (some 2) (.t 26)) 1,
 ⟨some 10, .m (.alloc [(.str []), (.str [])]), none, 0⟩,
 cH (.store 2 (.t 10) (.t 27)) 7]
def v29_8 : List COper := [
 cF 28 0 10 0,
 cL 29 28 1,
 cM 30 1 0,
 cS 31 (.bin .leq .no (.t 29) (.t 30)) 7,
 cM 32 31 15,
 cG 33 (.fieldAddr 1 (.t 10)) 32 true 31,
 cG 34 (.load none (.t 33)) 32 true 63,
 cG 35 (.bin .eql .str (.t 34) (.c (.str []))) 32 true 127,
 cMG 36 35 32 true 255,
 cMG 37 2 36 false 511,
 cG 38 (.bin .neq .str (.t 37) (.c (.str []))) 36 false 1023,
 cMG 39 38 36 false 2047,
 cMG 40 2 39 true 4095,
 cG 41 (.fieldAddr 1 (.t 10)) 39 true 4095,
 cG 42 (.load none (.t 41)) 39 true 12287,
 cG 43 (.bin .leq .no (.t 40) (.t 42)) 39 true 32767,
 cG 44 (.pick (.t 39) (.t 43) (.c (.bool false))) 36 false 65535,
 cG 45 (.pick (.t 36) (.c (.bool true)) (.t 44)) 32 true 131071,
 cQ 46 32 45 262143]
def v29_9 : List COper := [
 cM 47 0 0,
 cN 48 47 1,
 cF 49 0 48 3,
 cL 50 49 7,
 cS 51 (.load (some 2) (.t 8)) 0,
 cC 52 46 [.t 50, .t 51] 31,
 cM 6 52 63,
 cS 7 (.mov (.c .nili)) 127]
def v29_9s : List Step := [
 .small 0 (cM 47 0 0),
 .small 1 (cN 48 47 1),
 .small 2 (cF 49 0 48 3),
 .small 3 (cL 50 49 7),
 .small 4 (cS 51 (.load (some 2) (.t 8)) 0),
 .big 5 (cC 52 46 [.t 50, .t 51] 31),
 .small 6 (cM 6 52 63),
 .small 7 (cS 7 (.mov (.c .nili)) 127)]
theorem v29_9h : sched (v29_9.length + 1) (numbered v29_9 0) 0 = some v29_9s := by kernel_rfl
def v29_10 : List COper := [
 cS 53 (.bin .add .no (.t 24) (.c (.int .i64 (1)))) 0,
 cM 24 53 1]
def v29_b11 : CCode := (.seq (.region v29_6)
 (.seq (.cond (.t 25) .skip (.exit 0))
 (.seq (.block 1 (.seq (.region v29_7)
 (.seq (.region v29_8)
 (.cond (.t 46) (.seq (.draw v29_9)
 .ret) .skip))))
 (.region v29_10))))
def v29_12 : List COper := [
 cM 54 1 0,
 cM 55 2 0,
 cC 56 60 [.t 54, .t 55] 3,
 cS 6 (.mov (.c (.cslice [] 1 0 2))) 7,
 cM 7 56 15]
def v29_body : CCode := (.seq (.region v29_0)
 (.seq (.region v29_1)
 (.seq (.seq (.region v29_2)
 (.cond (.t 16) (.seq (.region v29_3)
 .ret) .skip))
 (.seq (.seq (.region v29_4)
 (.cond (.t 18) (.seq (.region v29_5)
 (.block 0 (.loop v29_b11))) .skip))
 (.seq (.region v29_12)
 .ret)))))
def v29 : VFunc := ⟨57, [.t 6, .t 7], true, v29_body,
 fun i => match i with | 0 => [0, 8, 24, 2, 1, 22, 23] | _ => [],
 fun i => match i with | 0 => [2, 1] | 1 => [0, 8, 2, 1, 22, 23, 24] | _ => []⟩
@[simp] theorem v29_c : v29.body = v29_body := rfl
@[simp] theorem v29_r : v29.results = [.t 6, .t 7] := rfl
@[simp] theorem v29_o : v29.own = true := rfl
@[simp] theorem v29_h0 : v29.head 0 = [0, 8, 24, 2, 1, 22, 23] := rfl
@[simp] theorem v29_t0 : v29.tail 0 = [2, 1] := rfl
@[simp] theorem v29_t1 : v29.tail 1 = [0, 8, 2, 1, 22, 23, 24] := rfl
def v30_0 : List COper := [
 ⟨some 2, .m (.box (.t 0)), none, 0⟩,
 ⟨some 3, .m (.box (.t 1)), none, 0⟩,
 cS 4 (.mov (.c (.bool false))) 0]
def v30_1 : List COper := [
 cF 5 0 2 0,
 cL 6 5 1,
 cF 7 0 3 0,
 cL 8 7 4,
 cS 9 (.bin .eql .bool (.t 6) (.t 8)) 15,
 cM 10 9 31,
 cG 11 (.fieldAddr 2 (.t 2)) 10 true 63,
 cG 12 (.load none (.t 11)) 10 true 127,
 cG 13 (.fieldAddr 2 (.t 3)) 10 true 63,
 cG 14 (.load none (.t 13)) 10 true 319,
 cG 15 (.bin .eql .int (.t 12) (.t 14)) 10 true 1023,
 cQ 16 10 15 2047,
 cM 17 16 4095,
 cG 18 (.fieldAddr 3 (.t 2)) 17 true 8191,
 cG 19 (.load none (.t 18)) 17 true 16383,
 cG 20 (.fieldAddr 3 (.t 3)) 17 true 8191,
 cG 21 (.load none (.t 20)) 17 true 40959,
 cG 22 (.bin .eql .bool (.t 19) (.t 21)) 17 true 131071,
 cQ 23 17 22 262143,
 cM 24 23 524287,
 cG 25 (.fieldAddr 4 (.t 2)) 24 true 1048575,
 cG 26 (.load (some 2) (.t 25)) 24 true 2097151,
 cG 27 (.fieldAddr 4 (.t 3)) 24 true 1048575,
 cG 28 (.load (some 2) (.t 27)) 24 true 5242879,
 cG 29 (.bin .eql (.flat [(0, .str), (1, .str)]) (.t 26) (.t 28)) 24 true 16777215,
 cQ 30 24 29 33554431,
 cM 31 30 67108863,
 cG 32 (.fieldAddr 1 (.t 2)) 31 true 134217727,
 cG 33 (.load none (.t 32)) 31 true 268435455,
 cG 34 (.fieldAddr 1 (.t 3)) 31 true 134217727,
 cG 35 (.load none (.t 34)) 31 true 671088639,
 cCG 36 61 [.t 33, .t 35] 31 true 2147483647,
 cQ 37 31 36 4294967295,
 cM 4 37 8589934591]
def v30_body : CCode := (.seq (.region v30_0)
 (.seq (.region v30_1)
 .ret))
def v30 : VFunc := ⟨38, [.t 4], true, v30_body,
 fun _ => [],
 fun _ => []⟩
@[simp] theorem v30_c : v30.body = v30_body := rfl
@[simp] theorem v30_r : v30.results = [.t 4] := rfl
@[simp] theorem v30_o : v30.own = true := rfl
def v31_0 : List COper := [
 ⟨some 2, .m (.alloc [(.bool false), (.cslice [] 0 0 1), (.int .i64 (0)), (.bool false), (.str []), (.str [])]), none, 0⟩]
def v31_1 : List COper := [
 cM 5 0 0,
 cS 6 (.bin .eql (.iface false) (.t 5) (.c .nili)) 1]
def v31_2 : List COper := [
 cS 7 (.build [(.bool false), (.cslice [] 0 0 1), (.int .i64 (0)), (.bool false), (.str []), (.str [])] []) 0,
 cH (.store 6 (.t 2) (.t 7)) 1]
def v31_3 : List COper := [
 cM 9 0 0,
 cC 10 41 [.t 9] 1,
 cM 8 10 3,
 cE 11 0 8 7,
 cE 12 1 8 7,
 ⟨some 3, .m (.alloc [(.str []), (.str [])]), none, 0⟩,
 cH (.store 2 (.t 3) (.t 11)) 47,
 cM 4 12 127]
def v31_4 : List COper := [
 cM 13 0 0,
 cC 14 43 [.t 13] 1,
 cM 15 0 0,
 cC 16 62 [.t 15] 7,
 cM 17 4 0,
 cS 18 (.load (some 2) (.t 3)) 0,
 cS 19 (.build [(.bool false), (.cslice [] 0 0 1), (.int .i64 (0)), (.bool false), (.str []), (.str [])] [(0, 1, (.c (.bool true))), (1, 1, .t 14), (2, 1, .t 16), (3, 1, .t 17), (4, 2, .t 18)]) 63,
 cH (.store 6 (.t 2) (.t 19)) 127]
def v31_4s : List Step := [
 .small 0 (cM 13 0 0),
 .small 2 (cM 15 0 0),
 .small 4 (cM 17 4 0),
 .small 5 (cS 18 (.load (some 2) (.t 3)) 0),
 .big 1 (cC 14 43 [.t 13] 1),
 .big 3 (cC 16 62 [.t 15] 7),
 .small 6 (cS 19 (.build [(.bool false), (.cslice [] 0 0 1), (.int .i64 (0)), (.bool false), (.str []), (.str [])] [(0, 1, (.c (.bool true))), (1, 1, .t 14), (2, 1, .t 16), (3, 1, .t 17), (4, 2, .t 18)]) 63),
 .big 7 (cH (.store 6 (.t 2) (.t 19)) 127)]
theorem v31_4h : sched (v31_4.length + 1) (numbered v31_4 0) 0 = some v31_4s := by kernel_rfl
def v31_body : CCode := (.seq (.region v31_0)
 (.seq (.seq (.region v31_1)
 (.cond (.t 6) (.seq (.region v31_2)
 .ret) .skip))
 (.seq (.region v31_3)
 (.seq (.draw v31_4)
 .ret))))
def v31 : VFunc := ⟨20, [.cell 2 (some 6)], true, v31_body,
 fun _ => [],
 fun _ => []⟩
@[simp] theorem v31_c : v31.body = v31_body := rfl
@[simp] theorem v31_r : v31.results = [.cell 2 (some 6)] := rfl
@[simp] theorem v31_o : v31.own = true := rfl
def v33_0 : List COper := [
 cS 2 (.mov (.c .nilp)) 0]
def v33_1 : List COper := [
 cM 3 0 0,
 cS 4 (.bin .eql (.iface false) (.t 3) (.c .nili)) 1]
def v33_2 : List COper := [
 cS 2 (.mov (.c .nilp)) 0]
def v33_3 : List COper := [
 cM 5 0 0,
 ⟨some 6, .m (.makeMap), none, 0⟩,
 cS 7 (.build [.nili, .nilm] [(0, 1, .t 5), (1, 1, .t 6)]) 3,
 ⟨some 8, .m (.box (.t 7)), none, 7⟩,
 cM 2 8 15]
def v33_body : CCode := (.seq (.region v33_0)
 (.seq (.seq (.region v33_1)
 (.cond (.t 4) (.seq (.region v33_2)
 .ret) .skip))
 (.seq (.region v33_3)
 .ret)))
def v33 : VFunc := ⟨9, [.t 2], true, v33_body,
 fun _ => [],
 fun _ => []⟩
@[simp] theorem v33_c : v33.body = v33_body := rfl
@[simp] theorem v33_r : v33.results = [.t 2] := rfl
@[simp] theorem v33_o : v33.own = true := rfl
def v40_0 : List COper := [
 ⟨some 2, .m (.alloc [(.str []), (.str [])]), none, 0⟩]
def v40_1 : List COper := [
 cM 3 0 0,
 cM 4 0 0,
 cS 5 (.bin .add .no (.t 4) (.c (.str [0]))) 2,
 cS 6 (.build [(.str []), (.str [])] [(0, 1, .t 3), (1, 1, .t 5)]) 7,
 cH (.store 2 (.t 2) (.t 6)) 15]
def v40_body : CCode := (.seq (.region v40_0)
 (.seq (.region v40_1)
 .ret))
def v40 : VFunc := ⟨7, [.cell 2 (some 2)], true, v40_body,
 fun _ => [],
 fun _ => []⟩
@[simp] theorem v40_c : v40.body = v40_body := rfl
@[simp] theorem v40_r : v40.results = [.cell 2 (some 2)] := rfl
@[simp] theorem v40_o : v40.own = true := rfl
def v41_0 : List COper := [
 ⟨some 2, .m (.alloc [(.str []), (.str [])]), none, 0⟩,
 cS 3 (.mov (.c (.bool false))) 0]
def v41_1 : List COper := [
 ⟨some 4, .m (.alloc [(.str []), (.str [])]), none, 0⟩]
def v41_2 : List COper := [
 cM 5 0 0,
 cS 6 (.bin .neq (.iface false) (.t 5) (.c .nili)) 1,
 cM 7 6 3,
 cMG 8 0 7 true 7,
 cG 9 (.mkIface 187 (.t 4)) 7 true 7,
 cCG 10 97 [.t 8, .t 9] 7 true 31,
 cQ 11 7 10 63]
def v41_3 : List COper := [
 cS 12 (.load (some 2) (.t 4)) 0,
 cH (.store 2 (.t 2) (.t 12)) 1,
 cS 3 (.mov (.c (.bool true))) 3]
def v41_4 : List COper := [
 cS 13 (.build [(.str []), (.str [])] []) 0,
 cH (.store 2 (.t 2) (.t 13)) 1,
 cS 3 (.mov (.c (.bool false))) 3]
def v41_body : CCode := (.seq (.region v41_0)
 (.seq (.region v41_1)
 (.seq (.seq (.region v41_2)
 (.cond (.t 11) (.seq (.region v41_3)
 .ret) .skip))
 (.seq (.region v41_4)
 .ret))))
def v41 : VFunc := ⟨14, [.cell 2 (some 2), .t 3], true, v41_body,
 fun _ => [],
 fun _ => []⟩
@[simp] theorem v41_c : v41.body = v41_body := rfl
@[simp] theorem v41_r : v41.results = [.cell 2 (some 2), .t 3] := rfl
@[simp] theorem v41_o : v41.own = true := rfl
def v42_0 : List COper := [
 ⟨some 4, .m (.alloc [(.str []), (.int .u64 (0)), (.int .i64 (0)), (.str []), (.int .u64 (0))]), none, 0⟩,
 cS 5 (.mov (.c (.bool false))) 0,
 cS 6 (.mov (.c .nili)) 2]
def v42_1 : List COper := [
 cM 7 0 0,
 cM 8 1 0,
 cC 9 99 [.t 8] 2,
 ⟨some 10, .call (.c (.func 98 [] [])) [.t 7, .t 9, (.c (.func 100 [] []))], none, 7⟩,
 cE 11 0 10 15,
 cE 12 1 10 15,
 cE 13 2 10 15,
 cH (.store 5 (.t 4) (.t 11)) 127,
 cM 5 12 255,
 cM 6 13 511]
def v42_body : CCode := (.seq (.region v42_0)
 (.seq (.region v42_1)
 .ret))
def v42 : VFunc := ⟨14, [.cell 4 (some 5), .t 5, .t 6], true, v42_body,
 fun _ => [],
 fun _ => []⟩
@[simp] theorem v42_c : v42.body = v42_body := rfl
@[simp] theorem v42_r : v42.results = [.cell 4 (some 5), .t 5, .t 6] := rfl
@[simp] theorem v42_o : v42.own = true := rfl
def v43_0 : List COper := [
 cS 2 (.mov (.c (.cslice [] 1 0 1))) 0]
def v43_1 : List COper := [
 cS 3 (.mov (.c (.cslice [] 1 0 1))) 0]
def v43_2 : List COper := [
 ⟨some 4, .m (.alloc [.nilp]), none, 0⟩]
def v43_3 : List COper := [
 cM 5 0 0,
 cS 6 (.bin .neq (.iface false) (.t 5) (.c .nili)) 1,
 cM 7 6 3,
 cMG 8 0 7 true 7,
 cG 9 (.mkIface 192 (.t 4)) 7 true 7,
 cCG 10 97 [.t 8, .t 9] 7 true 31,
 cQ 11 7 10 63,
 cM 12 11 127,
 cG 13 (.load none (.t 4)) 12 true 255,
 cG 14 (.bin .neq .nilp (.t 13) (.c .nilp)) 12 true 511,
 cQ 15 12 14 1023]
def v43_4 : List COper := [
 cM 16 3 0,
 cL 17 4 0,
 cN 18 17 2,
 cF 19 0 18 6,
 cL 20 19 14,
 ⟨some 21, .m (.buildSlice 1 1 [(.str [])] [(0, 1, .t 20)]), none, 30⟩,
 ⟨some 22, .h (.append 1 16 false (.t 16) (.t 21)), none, 63⟩,
 cM 3 22 127]
def v43_5 : List COper := [
 cL 23 4 0,
 cN 24 23 1,
 cF 25 1 24 3,
 cL 26 25 7,
 cM 0 26 15]
def v43_b6 : CCode := (.seq (.seq (.region v43_3)
 (.cond (.t 15) .skip (.exit 0)))
 (.block 1 (.seq (.region v43_4)
 (.region v43_5))))
def v43_7 : List COper := [
 cM 27 3 0,
 cM 2 27 1]
def v43_body : CCode := (.seq (.region v43_0)
 (.seq (.region v43_1)
 (.seq (.region v43_2)
 (.seq (.block 0 (.loop v43_b6))
 (.seq (.region v43_7)
 .ret)))))
def v43 : VFunc := ⟨28, [.t 2], true, v43_body,
 fun i => match i with | 0 => [4, 3, 0] | _ => [],
 fun i => match i with | 0 => [3] | 1 => [4, 3, 0] | _ => []⟩
@[simp] theorem v43_c : v43.body = v43_body := rfl
@[simp] theorem v43_r : v43.results = [.t 2] := rfl
@[simp] theorem v43_o : v43.own = true := rfl
@[simp] theorem v43_h0 : v43.head 0 = [4, 3, 0] := rfl
@[simp] theorem v43_t0 : v43.tail 0 = [3] := rfl
@[simp] theorem v43_t1 : v43.tail 1 = [4, 3, 0] := rfl
def v44_0 : List COper := [
 cS 2 (.mov (.c .nilp)) 0]
def v44_1 : List COper := [
 ⟨some 6, .m (.makeMap), none, 0⟩,
 cS 7 (.build [.nilm] [(0, 1, .t 6)]) 1,
 ⟨some 8, .m (.box (.t 7)), none, 3⟩,
 cM 3 8 7]
def v44_2 : List COper := [
 cM 9 0 0,
 cS 10 (.len 1 (.t 9)) 1,
 cS 11 (.mov (.c (.int .i64 (0)))) 0]
def v44_3 : List COper := [
 cS 12 (.bin .lss .no (.t 11) (.t 10)) 0]
def v44_4 : List COper := [
 cS 13 (.indexAddr 2 (.t 9) (.t 11)) 0,
 cS 14 (.load (some 2) (.t 13)) 1,
 ⟨some 5, .m (.alloc [(.str []), (.cslice [] 0 0 1)]), none, 0⟩,
 cH (.store 2 (.t 5) (.t 14)) 7]
def v44_5 : List COper := [
 cM 15 3 0,
 cN 16 15 1,
 cF 17 0 16 3,
 cL 18 17 7,
 cF 19 0 5 0,
 cL 20 19 16,
 cF 21 1 5 0,
 cL 22 21 64,
 cC 23 49 [.t 22] 192,
 cH (.mapUpdate .str (.t 18) (.t 20) (.t 23)) 511]
def v44_5s : List Step := [
 .small 0 (cM 15 3 0),
 .small 1 (cN 16 15 1),
 .small 2 (cF 17 0 16 3),
 .small 3 (cL 18 17 7),
 .small 4 (cF 19 0 5 0),
 .small 5 (cL 20 19 16),
 .small 6 (cF 21 1 5 0),
 .small 7 (cL 22 21 64),
 .big 8 (cC 23 49 [.t 22] 192),
 .big 9 (cH (.mapUpdate .str (.t 18) (.t 20) (.t 23)) 511)]
theorem v44_5h : sched (v44_5.length + 1) (numbered v44_5 0) 0 = some v44_5s := by kernel_rfl
def v44_6 : List COper := [
 cS 24 (.bin .add .no (.t 11) (.c (.int .i64 (1)))) 0,
 cM 11 24 1]
def v44_b7 : CCode := (.seq (.region v44_3)
 (.seq (.cond (.t 12) .skip (.exit 0))
 (.seq (.block 1 (.seq (.region v44_4)
 (.draw v44_5)))
 (.region v44_6))))
def v44_8 : List COper := [
 cM 25 3 0,
 cM 2 25 1]
def v44_body : CCode := (.seq (.region v44_0)
 (.seq (.region v44_1)
 (.seq (.seq (.region v44_2)
 (.block 0 (.loop v44_b7)))
 (.seq (.region v44_8)
 .ret))))
def v44 : VFunc := ⟨26, [.t 2], true, v44_body,
 fun i => match i with | 0 => [11, 3, 9, 10] | _ => [],
 fun i => match i with | 0 => [3] | 1 => [3, 9, 10, 11] | _ => []⟩
@[simp] theorem v44_c : v44.body = v44_body := rfl
@[simp] theorem v44_r : v44.results = [.t 2] := rfl
@[simp] theorem v44_o : v44.own = true := rfl
@[simp] theorem v44_h0 : v44.head 0 = [11, 3, 9, 10] := rfl
@[simp] theorem v44_t0 : v44.tail 0 = [3] := rfl
@[simp] theorem v44_t1 : v44.tail 1 = [3, 9, 10, 11] := rfl
def v45_0 : List COper := [
 cS 4 (.mov (.c (.bool false))) 0]
def v45_1 : List COper := [
 cM 6 0 0,
 cS 7 (.len 1 (.t 6)) 1,
 cM 8 1 0,
 cS 9 (.len 1 (.t 8)) 4,
 cS 10 (.bin .neq .int (.t 7) (.t 9)) 15]
def v45_2 : List COper := [
 cS 4 (.mov (.c (.bool false))) 0]
def v45_3 : List COper := [
 cM 11 0 0,
 cS 12 (.len 1 (.t 11)) 1,
 cS 13 (.mov (.c (.int .i64 (0)))) 0]
def v45_4 : List COper := [
 cS 14 (.bin .lss .no (.t 13) (.t 12)) 0]
def v45_5 : List COper := [
 cM 15 13 0,
 cM 5 15 1]
def v45_6 : List COper := [
 cM 16 0 0,
 cM 17 5 0,
 cS 18 (.indexAddr 2 (.t 16) (.t 17)) 3,
 cF 19 0 18 7,
 cL 20 19 15,
 cM 21 1 0,
 cM 22 5 0,
 cS 23 (.indexAddr 2 (.t 21) (.t 22)) 96,
 cF 24 0 23 224,
 cL 25 24 480,
 cS 26 (.bin .neq .str (.t 20) (.t 25)) 1023,
 cM 27 26 2047,
 cMG 28 0 27 false 4095,
 cMG 29 5 27 false 4095,
 cG 30 (.indexAddr 2 (.t 28) (.t 29)) 27 false 16383,
 cG 31 (.fieldAddr 1 (.t 30)) 27 false 32767,
 cG 32 (.load none (.t 31)) 27 false 65535,
 cG 33 (.toStr (.t 32)) 27 false 131071,
 cMG 34 1 27 false 4095,
 cMG 35 5 27 false 4095,
 cG 36 (.indexAddr 2 (.t 34) (.t 35)) 27 false 790527,
 cG 37 (.fieldAddr 1 (.t 36)) 27 false 1839103,
 cG 38 (.load none (.t 37)) 27 false 3936255,
 cG 39 (.toStr (.t 38)) 27 false 8130559,
 cG 40 (.bin .neq .str (.t 33) (.t 39)) 27 false 16777215,
 cP 41 27 40 33554431]
def v45_6s : List Step := [
 .small 0 (cM 16 0 0),
 .small 1 (cM 17 5 0),
 .small 2 (cS 18 (.indexAddr 2 (.t 16) (.t 17)) 3),
 .small 3 (cF 19 0 18 7),
 .small 4 (cL 20 19 15),
 .small 5 (cM 21 1 0),
 .small 6 (cM 22 5 0),
 .small 7 (cS 23 (.indexAddr 2 (.t 21) (.t 22)) 96),
 .small 8 (cF 24 0 23 224),
 .small 9 (cL 25 24 480),
 .small 10 (cS 26 (.bin .neq .str (.t 20) (.t 25)) 1023),
 .small 11 (cM 27 26 2047),
 .small 12 (cMG 28 0 27 false 4095),
 .small 13 (cMG 29 5 27 false 4095),
 .small 14 (cG 30 (.indexAddr 2 (.t 28) (.t 29)) 27 false 16383),
 .small 15 (cG 31 (.fieldAddr 1 (.t 30)) 27 false 32767),
 .small 16 (cG 32 (.load none (.t 31)) 27 false 65535),
 .small 17 (cG 33 (.toStr (.t 32)) 27 false 131071),
 .small 18 (cMG 34 1 27 false 4095),
 .small 19 (cMG 35 5 27 false 4095),
 .small 20 (cG 36 (.indexAddr 2 (.t 34) (.t 35)) 27 false 790527),
 .small 21 (cG 37 (.fieldAddr 1 (.t 36)) 27 false 1839103),
 .small 22 (cG 38 (.load none (.t 37)) 27 false 3936255),
 .small 23 (cG 39 (.toStr (.t 38)) 27 false 8130559),
 .small 24 (cG 40 (.bin .neq .str (.t 33) (.t 39)) 27 false 16777215),
 .small 25 (cP 41 27 40 33554431)]
theorem v45_6h : sched (v45_6.length + 1) (numbered v45_6 0) 0 = some v45_6s := by kernel_rfl
def v45_7 : List COper := [
 cS 4 (.mov (.c (.bool false))) 0]
def v45_8 : List COper := [
 cS 42 (.bin .add .no (.t 13) (.c (.int .i64 (1)))) 0,
 cM 13 42 1]
def v45_b9 : CCode := (.seq (.region v45_4)
 (.seq (.cond (.t 14) .skip (.exit 0))
 (.seq (.block 1 (.seq (.region v45_5)
 (.seq (.draw v45_6)
 (.cond (.t 41) (.seq (.region v45_7)
 .ret) .skip))))
 (.region v45_8))))
def v45_10 : List COper := [
 cS 4 (.mov (.c (.bool true))) 0]
def v45_body : CCode := (.seq (.region v45_0)
 (.seq (.seq (.region v45_1)
 (.cond (.t 10) (.seq (.region v45_2)
 .ret) .skip))
 (.seq (.seq (.region v45_3)
 (.block 0 (.loop v45_b9)))
 (.seq (.region v45_10)
 .ret))))
def v45 : VFunc := ⟨43, [.t 4], true, v45_body,
 fun i => match i with | 0 => [13, 0, 1, 12] | _ => [],
 fun i => match i with | 0 => [] | 1 => [0, 1, 12, 13] | _ => []⟩
@[simp] theorem v45_c : v45.body = v45_body := rfl
@[simp] theorem v45_r : v45.results = [.t 4] := rfl
@[simp] theorem v45_o : v45.own = true := rfl
@[simp] theorem v45_h0 : v45.head 0 = [13, 0, 1, 12] := rfl
@[simp] theorem v45_t0 : v45.tail 0 = [] := rfl
@[simp] theorem v45_t1 : v45.tail 1 = [0, 1, 12, 13] := rfl
def v46_0 : List COper := [
 ⟨some 3, .m (.box (.t 1)), none, 0⟩,
 cS 4 (.mov (.c (.cslice [] 1 0 2))) 0]
def v46_1 : List COper := [
 cS 5 (.mov (.c (.cslice [] 1 0 2))) 0]
def v46_2 : List COper := [
 cM 8 0 0,
 cC 9 101 [.t 8] 1,
 cS 10 (.len 1 (.t 9)) 3,
 cS 11 (.mov (.c (.int .i64 (0)))) 0]
def v46_3 : List COper := [
 cS 12 (.bin .lss .no (.t 11) (.t 10)) 0]
def v46_4 : List COper := [
 cS 13 (.indexAddr 1 (.t 9) (.t 11)) 0,
 cL 14 13 1,
 cM 7 14 3]
def v46_5 : List COper := [
 cS 15 (.load (some 2) (.t 3)) 0,
 cM 16 7 0,
 cC 17 58 [.t 15, .t 16] 3]
def v46_6 : List COper := [
 cM 18 5 0,
 cM 19 7 0,
 cM 20 0 0,
 cN 21 20 4,
 cF 22 0 21 12,
 cL 23 22 28,
 cM 24 7 0,
 cS 25 (.lookup .str (.cslice [] 0 0 1) false (.t 23) (.t 24)) 124,
 cC 26 49 [.t 25] 252,
 cS 27 (.build [(.str []), (.cslice [] 0 0 1)] [(0, 1, .t 19), (1, 1, .t 26)]) 510,
 ⟨some 28, .m (.buildSlice 2 1 [(.str []), (.cslice [] 0 0 1)] [(0, 2, .t 27)]), none, 1022⟩,
 ⟨some 29, .h (.append 2 40 false (.t 18) (.t 28)), none, 2047⟩,
 cM 5 29 4095]
def v46_7 : List COper := [
 cS 30 (.bin .add .no (.t 11) (.c (.int .i64 (1)))) 0,
 cM 11 30 1]
def v46_b8 : CCode := (.seq (.region v46_3)
 (.seq (.cond (.t 12) .skip (.exit 0))
 (.seq (.block 1 (.seq (.region v46_4)
 (.seq (.region v46_5)
 (.cond (.t 17) (.region v46_6) .skip))))
 (.region v46_7))))
def v46_9 : List COper := [
 cM 31 5 0,
 cM 4 31 1]
def v46_body : CCode := (.seq (.region v46_0)
 (.seq (.region v46_1)
 (.seq (.seq (.region v46_2)
 (.block 0 (.loop v46_b8)))
 (.seq (.region v46_9)
 .ret))))
def v46 : VFunc := ⟨32, [.t 4], true, v46_body,
 fun i => match i with | 0 => [11, 0, 5, 3, 9, 10] | _ => [],
 fun i => match i with | 0 => [5] | 1 => [0, 5, 3, 9, 10, 11] | _ => []⟩
@[simp] theorem v46_c : v46.body = v46_body := rfl
@[simp] theorem v46_r : v46.results = [.t 4] := rfl
@[simp] theorem v46_o : v46.own = true := rfl
@[simp] theorem v46_h0 : v46.head 0 = [11, 0, 5, 3, 9, 10] := rfl
@[simp] theorem v46_t0 : v46.tail 0 = [5] := rfl
@[simp] theorem v46_t1 : v46.tail 1 = [0, 5, 3, 9, 10, 11] := rfl
def v47_0 : List COper := [
 ⟨some 3, .m (.box (.t 1)), none, 0⟩,
 cS 4 (.mov (.c (.cslice [] 1 0 2))) 0]
def v47_1 : List COper := [
 ⟨some 10, .m (.buildSlice 2 0 [(.str []), (.cslice [] 0 0 1)] []), none, 0⟩,
 cM 5 10 1]
def v47_2 : List COper := [
 cM 11 0 0,
 cS 12 (.len 1 (.t 11)) 1,
 cS 13 (.mov (.c (.int .i64 (0)))) 0]
def v47_3 : List COper := [
 cS 14 (.bin .lss .no (.t 13) (.t 12)) 0]
def v47_4 : List COper := [
 cS 15 (.indexAddr 2 (.t 11) (.t 13)) 0,
 cS 16 (.load (some 2) (.t 15)) 1,
 ⟨some 7, .m (.alloc [(.str []), (.cslice [] 0 0 1)]), none, 0⟩,
 cH (.store 2 (.t 7) (.t 16)) 7]
def v47_5 : List COper := [
 cF 17 0 7 0,
 cL 18 17 1,
 cF 19 0 3 0,
 cL 20 19 4,
 cS 21 (.bin .lss .no (.t 18) (.t 20)) 15]
def v47_6 : List COper := [
 cM 22 5 0,
 cS 23 (.load (some 2) (.t 7)) 0,
 ⟨some 24, .m (.buildSlice 2 1 [(.str []), (.cslice [] 0 0 1)] [(0, 2, .t 23)]), none, 2⟩,
 ⟨some 25, .h (.append 2 40 false (.t 22) (.t 24)), none, 7⟩,
 cM 5 25 15]
def v47_7 : List COper := [
 cS 26 (.bin .add .no (.t 13) (.c (.int .i64 (1)))) 0,
 cM 13 26 1]
def v47_b8 : CCode := (.seq (.region v47_3)
 (.seq (.cond (.t 14) .skip (.exit 0))
 (.seq (.block 1 (.seq (.region v47_4)
 (.seq (.region v47_5)
 (.cond (.t 21) (.region v47_6) .skip))))
 (.region v47_7))))
def v47_9 : List COper := [
 cM 27 5 0,
 cS 28 (.load (some 2) (.t 3)) 0,
 ⟨some 29, .m (.buildSlice 2 1 [(.str []), (.cslice [] 0 0 1)] [(0, 2, .t 28)]), none, 2⟩,
 ⟨some 30, .h (.append 2 40 false (.t 27) (.t 29)), none, 7⟩,
 cM 5 30 15]
def v47_10 : List COper := [
 cM 31 0 0,
 cS 32 (.len 1 (.t 31)) 1,
 cS 33 (.mov (.c (.int .i64 (0)))) 0]
def v47_11 : List COper := [
 cS 34 (.bin .lss .no (.t 33) (.t 32)) 0]
def v47_12 : List COper := [
 cS 35 (.indexAddr 2 (.t 31) (.t 33)) 0,
 cS 36 (.load (some 2) (.t 35)) 1,
 ⟨some 9, .m (.alloc [(.str []), (.cslice [] 0 0 1)]), none, 0⟩,
 cH (.store 2 (.t 9) (.t 36)) 7]
def v47_13 : List COper := [
 cF 37 0 9 0,
 cL 38 37 1,
 cF 39 0 3 0,
 cL 40 39 4,
 cS 41 (.bin .gtr .no (.t 38) (.t 40)) 15]
def v47_14 : List COper := [
 cM 42 5 0,
 cS 43 (.load (some 2) (.t 9)) 0,
 ⟨some 44, .m (.buildSlice 2 1 [(.str []), (.cslice [] 0 0 1)] [(0, 2, .t 43)]), none, 2⟩,
 ⟨some 45, .h (.append 2 40 false (.t 42) (.t 44)), none, 7⟩,
 cM 5 45 15]
def v47_15 : List COper := [
 cS 46 (.bin .add .no (.t 33) (.c (.int .i64 (1)))) 0,
 cM 33 46 1]
def v47_b16 : CCode := (.seq (.region v47_11)
 (.seq (.cond (.t 34) .skip (.exit 2))
 (.seq (.block 3 (.seq (.region v47_12)
 (.seq (.region v47_13)
 (.cond (.t 41) (.region v47_14) .skip))))
 (.region v47_15))))
def v47_17 : List COper := [
 cM 47 5 0,
 cM 4 47 1]
def v47_body : CCode := (.seq (.region v47_0)
 (.seq (.region v47_1)
 (.seq (.seq (.region v47_2)
 (.block 0 (.loop v47_b8)))
 (.seq (.region v47_9)
 (.seq (.seq (.region v47_10)
 (.block 2 (.loop v47_b16)))
 (.seq (.region v47_17)
 .ret))))))
def v47 : VFunc := ⟨48, [.t 4], true, v47_body,
 fun i => match i with | 0 => [13, 5, 3, 11, 0, 12] | 2 => [33, 5, 3, 31, 32] | _ => [],
 fun i => match i with | 0 => [3, 0, 5] | 1 => [5, 3, 11, 0, 12, 13] | 2 => [5] | 3 => [5, 3, 31, 32, 33] | _ => []⟩
@[simp] theorem v47_c : v47.body = v47_body := rfl
@[simp] theorem v47_r : v47.results = [.t 4] := rfl
@[simp] theorem v47_o : v47.own = true := rfl
@[simp] theorem v47_h0 : v47.head 0 = [13, 5, 3, 11, 0, 12] := rfl
@[simp] theorem v47_h2 : v47.head 2 = [33, 5, 3, 31, 32] := rfl
@[simp] theorem v47_t0 : v47.tail 0 = [3, 0, 5] := rfl
@[simp] theorem v47_t1 : v47.tail 1 = [5, 3, 11, 0, 12, 13] := rfl
@[simp] theorem v47_t2 : v47.tail 2 = [5] := rfl
@[simp] theorem v47_t3 : v47.tail 3 = [5, 3, 31, 32, 33] := rfl
def v49_0 : List COper := [
 cS 2 (.mov (.c (.cslice [] 1 0 1))) 0]
def v49_1 : List COper := [
 cM 3 0 0,
 cS 4 (.bin .eql .nils (.t 3) (.c .nils)) 1]
def v49_2 : List COper := [
 cS 2 (.mov (.c (.cslice [] 1 0 1))) 0]
def v49_3 : List COper := [
 ⟨some 5, .m (.buildSlice 1 0 [(.int .u8 (0))] []), none, 0⟩,
 cM 6 0 0,
 ⟨some 7, .h (.append 1 1 false (.t 5) (.t 6)), none, 3⟩,
 cM 2 7 7]
def v49_body : CCode := (.seq (.region v49_0)
 (.seq (.seq (.region v49_1)
 (.cond (.t 4) (.seq (.region v49_2)
 .ret) .skip))
 (.seq (.region v49_3)
 .ret)))
def v49 : VFunc := ⟨8, [.t 2], true, v49_body,
 fun _ => [],
 fun _ => []⟩
@[simp] theorem v49_c : v49.body = v49_body := rfl
@[simp] theorem v49_r : v49.results = [.t 2] := rfl
@[simp] theorem v49_o : v49.own = true := rfl
def v50_0 : List COper := [
 ⟨some 3, .m (.box (.t 1)), none, 0⟩,
 cS 4 (.mov (.c (.cslice [] 1 0 2))) 0]
def v50_1 : List COper := [
 ⟨some 8, .m (.buildSlice 2 0 [(.str []), (.cslice [] 0 0 1)] []), none, 0⟩,
 cM 5 8 1]
def v50_2 : List COper := [
 cM 9 0 0,
 cS 10 (.len 1 (.t 9)) 1,
 cS 11 (.mov (.c (.int .i64 (0)))) 0]
def v50_3 : List COper := [
 cS 12 (.bin .lss .no (.t 11) (.t 10)) 0]
def v50_4 : List COper := [
 cS 13 (.indexAddr 2 (.t 9) (.t 11)) 0,
 cS 14 (.load (some 2) (.t 13)) 1,
 ⟨some 7, .m (.alloc [(.str []), (.cslice [] 0 0 1)]), none, 0⟩,
 cH (.store 2 (.t 7) (.t 14)) 7]
def v50_5 : List COper := [
 cS 15 (.load (some 2) (.t 3)) 0,
 cF 16 0 7 0,
 cL 17 16 2,
 cC 18 102 [.t 15, .t 17] 7,
 cS 19 (.un .not (.t 18)) 15]
def v50_6 : List COper := [
 cM 20 5 0,
 cS 21 (.load (some 2) (.t 7)) 0,
 ⟨some 22, .m (.buildSlice 2 1 [(.str []), (.cslice [] 0 0 1)] [(0, 2, .t 21)]), none, 2⟩,
 ⟨some 23, .h (.append 2 40 false (.t 20) (.t 22)), none, 7⟩,
 cM 5 23 15]
def v50_7 : List COper := [
 cS 24 (.bin .add .no (.t 11) (.c (.int .i64 (1)))) 0,
 cM 11 24 1]
def v50_b8 : CCode := (.seq (.region v50_3)
 (.seq (.cond (.t 12) .skip (.exit 0))
 (.seq (.block 1 (.seq (.region v50_4)
 (.seq (.region v50_5)
 (.cond (.t 19) (.region v50_6) .skip))))
 (.region v50_7))))
def v50_9 : List COper := [
 cM 25 5 0,
 cM 4 25 1]
def v50_body : CCode := (.seq (.region v50_0)
 (.seq (.region v50_1)
 (.seq (.seq (.region v50_2)
 (.block 0 (.loop v50_b8)))
 (.seq (.region v50_9)
 .ret))))
def v50 : VFunc := ⟨26, [.t 4], true, v50_body,
 fun i => match i with | 0 => [11, 5, 3, 9, 10] | _ => [],
 fun i => match i with | 0 => [5] | 1 => [5, 3, 9, 10, 11] | _ => []⟩
@[simp] theorem v50_c : v50.body = v50_body := rfl
@[simp] theorem v50_r : v50.results = [.t 4] := rfl
@[simp] theorem v50_o : v50.own = true := rfl
@[simp] theorem v50_h0 : v50.head 0 = [11, 5, 3, 9, 10] := rfl
@[simp] theorem v50_t0 : v50.tail 0 = [5] := rfl
@[simp] theorem v50_t1 : v50.tail 1 = [5, 3, 9, 10, 11] := rfl
def v51_0 : List COper := [
 cS 4 (.mov (.c (.bool false))) 0]
def v51_1 : List COper := [
 cM 7 0 0,
 cS 8 (.len 1 (.t 7)) 1,
 cS 9 (.mov (.c (.int .i64 (0)))) 0]
def v51_2 : List COper := [
 cS 10 (.bin .lss .no (.t 9) (.t 8)) 0]
def v51_3 : List COper := [
 cS 11 (.indexAddr 2 (.t 7) (.t 9)) 0,
 cS 12 (.load (some 2) (.t 11)) 1,
 ⟨some 6, .m (.alloc [(.str []), (.str [])]), none, 0⟩,
 cH (.store 2 (.t 6) (.t 12)) 7]
def v51_4 : List COper := [
 cS 13 (.load (some 2) (.t 6)) 0,
 cM 14 1 0,
 cC 15 102 [.t 13, .t 14] 3]
def v51_5 : List COper := [
 cS 4 (.mov (.c (.bool true))) 0]
def v51_6 : List COper := [
 cS 16 (.bin .add .no (.t 9) (.c (.int .i64 (1)))) 0,
 cM 9 16 1]
def v51_b7 : CCode := (.seq (.region v51_2)
 (.seq (.cond (.t 10) .skip (.exit 0))
 (.seq (.block 1 (.seq (.region v51_3)
 (.seq (.region v51_4)
 (.cond (.t 15) (.seq (.region v51_5)
 .ret) .skip))))
 (.region v51_6))))
def v51_8 : List COper := [
 cS 4 (.mov (.c (.bool false))) 0]
def v51_body : CCode := (.seq (.region v51_0)
 (.seq (.seq (.region v51_1)
 (.block 0 (.loop v51_b7)))
 (.seq (.region v51_8)
 .ret)))
def v51 : VFunc := ⟨17, [.t 4], true, v51_body,
 fun i => match i with | 0 => [9, 1, 7, 8] | _ => [],
 fun i => match i with | 0 => [] | 1 => [1, 7, 8, 9] | _ => []⟩
@[simp] theorem v51_c : v51.body = v51_body := rfl
@[simp] theorem v51_r : v51.results = [.t 4] := rfl
@[simp] theorem v51_o : v51.own = true := rfl
@[simp] theorem v51_h0 : v51.head 0 = [9, 1, 7, 8] := rfl
@[simp] theorem v51_t0 : v51.tail 0 = [] := rfl
@[simp] theorem v51_t1 : v51.tail 1 = [1, 7, 8, 9] := rfl
def v52_0 : List COper := [
 ⟨some 4, .m (.alloc [(.bool false), (.cslice [] 0 0 1), (.int .i64 (0)), (.bool false), (.str []), (.str [])]), none, 0⟩]
def v52_1 : List COper := [
 cM 5 0 0,
 cM 6 1 0,
 cS 7 (.build [(.str []), (.str [])] [(0, 1, .t 5), (1, 1, .t 6)]) 3,
 cS 8 (.build [(.bool false), (.cslice [] 0 0 1), (.int .i64 (0)), (.bool false), (.str []), (.str [])] [(0, 1, (.c (.bool true))), (2, 1, (.c (.int .i64 (20)))), (3, 1, (.c (.bool true))), (4, 2, .t 7)]) 7,
 cH (.store 6 (.t 4) (.t 8)) 15]
def v52_body : CCode := (.seq (.region v52_0)
 (.seq (.region v52_1)
 .ret))
def v52 : VFunc := ⟨9, [.cell 4 (some 6)], true, v52_body,
 fun _ => [],
 fun _ => []⟩
@[simp] theorem v52_c : v52.body = v52_body := rfl
@[simp] theorem v52_r : v52.results = [.cell 4 (some 6)] := rfl
@[simp] theorem v52_o : v52.own = true := rfl
def v53_0 : List COper := [
 ⟨some 1, .m (.box (.t 0)), none, 0⟩,
 cS 2 (.mov (.c (.bool false))) 0]
def v53_1 : List COper := [
 cF 3 1 1 0,
 cL 4 3 1,
 cS 5 (.bin .eql .str (.t 4) (.c (.str []))) 3,
 cM 6 5 7,
 cG 7 (.fieldAddr 0 (.t 1)) 6 false 15,
 cG 8 (.load none (.t 7)) 6 false 31,
 cG 9 (.fieldAddr 1 (.t 1)) 6 false 15,
 cG 10 (.load none (.t 9)) 6 false 79,
 cG 11 (.bin .lss .no (.t 8) (.t 10)) 6 false 255,
 cP 12 6 11 511,
 cM 2 12 1023]
def v53_body : CCode := (.seq (.region v53_0)
 (.seq (.region v53_1)
 .ret))
def v53 : VFunc := ⟨13, [.t 2], true, v53_body,
 fun _ => [],
 fun _ => []⟩
@[simp] theorem v53_c : v53.body = v53_body := rfl
@[simp] theorem v53_r : v53.results = [.t 2] := rfl
@[simp] theorem v53_o : v53.own = true := rfl
def v54_0 : List COper := [
 ⟨some 2, .m (.box (.t 0)), none, 0⟩,
 ⟨some 3, .m (.box (.t 1)), none, 0⟩,
 cS 4 (.mov (.c (.bool false))) 0]
def v54_1 : List COper := [
 cF 5 0 2 0,
 cL 6 5 1,
 cF 7 0 3 0,
 cL 8 7 4,
 cS 9 (.bin .leq .no (.t 6) (.t 8)) 15,
 cM 10 9 31,
 cG 11 (.fieldAddr 1 (.t 2)) 10 true 63,
 cG 12 (.load none (.t 11)) 10 true 127,
 cG 13 (.bin .eql .str (.t 12) (.c (.str []))) 10 true 255,
 cMG 14 13 10 true 511,
 cG 15 (.fieldAddr 1 (.t 3)) 14 false 1023,
 cG 16 (.load none (.t 15)) 14 false 2047,
 cG 17 (.bin .neq .str (.t 16) (.c (.str []))) 14 false 4095,
 cMG 18 17 14 false 8191,
 cG 19 (.fieldAddr 1 (.t 3)) 18 true 16383,
 cG 20 (.load none (.t 19)) 18 true 32767,
 cG 21 (.fieldAddr 1 (.t 2)) 18 true 16383,
 cG 22 (.load none (.t 21)) 18 true 81919,
 cG 23 (.bin .leq .no (.t 20) (.t 22)) 18 true 262143,
 cG 24 (.pick (.t 18) (.t 23) (.c (.bool false))) 14 false 524287,
 cG 25 (.pick (.t 14) (.c (.bool true)) (.t 24)) 10 true 1048575,
 cQ 26 10 25 2097151,
 cM 4 26 4194303]
def v54_body : CCode := (.seq (.region v54_0)
 (.seq (.region v54_1)
 .ret))
def v54 : VFunc := ⟨27, [.t 4], true, v54_body,
 fun _ => [],
 fun _ => []⟩
@[simp] theorem v54_c : v54.body = v54_body := rfl
@[simp] theorem v54_r : v54.results = [.t 4] := rfl
@[simp] theorem v54_o : v54.own = true := rfl
def v55_0 : List COper := [
 ⟨some 3, .m (.box (.t 1)), none, 0⟩,
 cS 4 (.mov (.c (.cslice [] 1 0 2))) 0]
def v55_1 : List COper := [
 ⟨some 8, .m (.buildSlice 2 0 [(.str []), (.cslice [] 0 0 1)] []), none, 0⟩,
 cM 5 8 1]
def v55_2 : List COper := [
 cM 9 0 0,
 cS 10 (.len 1 (.t 9)) 1,
 cS 11 (.mov (.c (.int .i64 (0)))) 0]
def v55_3 : List COper := [
 cS 12 (.bin .lss .no (.t 11) (.t 10)) 0]
def v55_4 : List COper := [
 cS 13 (.indexAddr 2 (.t 9) (.t 11)) 0,
 cS 14 (.load (some 2) (.t 13)) 1,
 ⟨some 7, .m (.alloc [(.str []), (.cslice [] 0 0 1)]), none, 0⟩,
 cH (.store 2 (.t 7) (.t 14)) 7]
def v55_5 : List COper := [
 cS 15 (.load (some 2) (.t 3)) 0,
 cF 16 0 7 0,
 cL 17 16 2,
 cC 18 102 [.t 15, .t 17] 7]
def v55_6 : List COper := [
 cM 19 5 0,
 cS 20 (.load (some 2) (.t 7)) 0,
 ⟨some 21, .m (.buildSlice 2 1 [(.str []), (.cslice [] 0 0 1)] [(0, 2, .t 20)]), none, 2⟩,
 ⟨some 22, .h (.append 2 40 false (.t 19) (.t 21)), none, 7⟩,
 cM 5 22 15]
def v55_7 : List COper := [
 cS 23 (.bin .add .no (.t 11) (.c (.int .i64 (1)))) 0,
 cM 11 23 1]
def v55_b8 : CCode := (.seq (.region v55_3)
 (.seq (.cond (.t 12) .skip (.exit 0))
 (.seq (.block 1 (.seq (.region v55_4)
 (.seq (.region v55_5)
 (.cond (.t 18) (.region v55_6) .skip))))
 (.region v55_7))))
def v55_9 : List COper := [
 cM 24 5 0,
 cM 4 24 1]
def v55_body : CCode := (.seq (.region v55_0)
 (.seq (.region v55_1)
 (.seq (.seq (.region v55_2)
 (.block 0 (.loop v55_b8)))
 (.seq (.region v55_9)
 .ret))))
def v55 : VFunc := ⟨25, [.t 4], true, v55_body,
 fun i => match i with | 0 => [11, 5, 3, 9, 10] | _ => [],
 fun i => match i with | 0 => [5] | 1 => [5, 3, 9, 10, 11] | _ => []⟩
@[simp] theorem v55_c : v55.body = v55_body := rfl
@[simp] theorem v55_r : v55.results = [.t 4] := rfl
@[simp] theorem v55_o : v55.own = true := rfl
@[simp] theorem v55_h0 : v55.head 0 = [11, 5, 3, 9, 10] := rfl
@[simp] theorem v55_t0 : v55.tail 0 = [5] := rfl
@[simp] theorem v55_t1 : v55.tail 1 = [5, 3, 9, 10, 11] := rfl
def v56_0 : List COper := [
 ⟨some 2, .m (.alloc [(.str []), (.str [])]), none, 0⟩]
def v56_1 : List COper := [
 cM 3 0 0,
 cM 4 0 0,
 cS 5 (.bin .add .no (.t 4) (.c (.str [0]))) 2,
 cS 6 (.build [(.str []), (.str [])] [(0, 1, .t 3), (1, 1, .t 5)]) 7,
 cH (.store 2 (.t 2) (.t 6)) 15]
def v56_body : CCode := (.seq (.region v56_0)
 (.seq (.region v56_1)
 .ret))
def v56 : VFunc := ⟨7, [.cell 2 (some 2)], true, v56_body,
 fun _ => [],
 fun _ => []⟩
@[simp] theorem v56_c : v56.body = v56_body := rfl
@[simp] theorem v56_r : v56.results = [.cell 2 (some 2)] := rfl
@[simp] theorem v56_o : v56.own = true := rfl
def v57_0 : List COper := [
 ⟨some 1, .m (.box (.t 0)), none, 0⟩,
 cS 2 (.mov (.c (.bool false))) 0]
def v57_1 : List COper := [
 cF 3 1 1 0,
 cL 4 3 1,
 cS 5 (.bin .eql .str (.t 4) (.c (.str []))) 3,
 cM 6 5 7,
 cG 7 (.fieldAddr 1 (.t 1)) 6 false 15,
 cG 8 (.load none (.t 7)) 6 false 31,
 cG 9 (.fieldAddr 0 (.t 1)) 6 false 15,
 cG 10 (.load none (.t 9)) 6 false 79,
 cG 11 (.bin .gtr .no (.t 8) (.t 10)) 6 false 255,
 cP 12 6 11 511,
 cM 2 12 1023]
def v57_body : CCode := (.seq (.region v57_0)
 (.seq (.region v57_1)
 .ret))
def v57 : VFunc := ⟨13, [.t 2], true, v57_body,
 fun _ => [],
 fun _ => []⟩
@[simp] theorem v57_c : v57.body = v57_body := rfl
@[simp] theorem v57_r : v57.results = [.t 2] := rfl
@[simp] theorem v57_o : v57.own = true := rfl
def v58_0 : List COper := [
 ⟨some 2, .m (.box (.t 0)), none, 0⟩,
 cS 4 (.mov (.c (.bool false))) 0]
def v58_1 : List COper := [
 cF 5 0 2 0,
 cL 6 5 1,
 cM 7 1 0,
 cS 8 (.bin .leq .no (.t 6) (.t 7)) 7,
 cM 9 8 15,
 cG 10 (.fieldAddr 1 (.t 2)) 9 true 31,
 cG 11 (.load none (.t 10)) 9 true 63,
 cG 12 (.bin .eql .str (.t 11) (.c (.str []))) 9 true 127,
 cMG 13 12 9 true 255,
 cMG 14 1 13 false 511,
 cG 15 (.fieldAddr 1 (.t 2)) 13 false 511,
 cG 16 (.load none (.t 15)) 13 false 1535,
 cG 17 (.bin .lss .no (.t 14) (.t 16)) 13 false 4095,
 cG 18 (.pick (.t 13) (.c (.bool true)) (.t 17)) 9 true 8191,
 cQ 19 9 18 16383,
 cM 4 19 32767]
def v58_body : CCode := (.seq (.region v58_0)
 (.seq (.region v58_1)
 .ret))
def v58 : VFunc := ⟨20, [.t 4], true, v58_body,
 fun _ => [],
 fun _ => []⟩
@[simp] theorem v58_c : v58.body = v58_body := rfl
@[simp] theorem v58_r : v58.results = [.t 4] := rfl
@[simp] theorem v58_o : v58.own = true := rfl
def v59_0 : List COper := [
 ⟨some 3, .m (.box (.t 1)), none, 0⟩,
 cS 4 (.mov (.c (.bool false))) 0]
def v59_1 : List COper := [
 cM 5 0 0,
 cS 6 (.mkFunc 104 [] [.t 3]) 0,
 cC 7 103 [.t 5, .t 6] 3,
 cM 4 7 7]
def v59_body : CCode := (.seq (.region v59_0)
 (.seq (.region v59_1)
 .ret))
def v59 : VFunc := ⟨8, [.t 4], true, v59_body,
 fun _ => [],
 fun _ => []⟩
@[simp] theorem v59_c : v59.body = v59_body := rfl
@[simp] theorem v59_r : v59.results = [.t 4] := rfl
@[simp] theorem v59_o : v59.own = true := rfl
def v60_0 : List COper := [
 cS 4 (.mov (.c .nili)) 0]
def v60_1 : List COper := [
 cM 5 0 0,
 cM 6 1 0,
 cS 7 (.build [(.str []), (.str [])] [(0, 1, .t 5), (1, 1, .t 6)]) 3,
 cS 8 (.mkIface 45 (.t 7)) 7,
 cM 4 8 15]
def v60_body : CCode := (.seq (.region v60_0)
 (.seq (.region v60_1)
 .ret))
def v60 : VFunc := ⟨9, [.t 4], true, v60_body,
 fun _ => [],
 fun _ => []⟩
@[simp] theorem v60_c : v60.body = v60_body := rfl
@[simp] theorem v60_r : v60.results = [.t 4] := rfl
@[simp] theorem v60_o : v60.own = true := rfl
def v61_0 : List COper := [
 cS 4 (.mov (.c (.bool false))) 0]
def v61_1 : List COper := [
 cM 6 0 0,
 cS 7 (.len 1 (.t 6)) 1,
 cM 8 1 0,
 cS 9 (.len 1 (.t 8)) 4,
 cS 10 (.bin .neq .int (.t 7) (.t 9)) 15]
def v61_2 : List COper := [
 cS 4 (.mov (.c (.bool false))) 0]
def v61_3 : List COper := [
 cM 11 0 0,
 cS 12 (.len 1 (.t 11)) 1,
 cS 13 (.mov (.c (.int .i64 (0)))) 0]
def v61_4 : List COper := [
 cS 14 (.bin .lss .no (.t 13) (.t 12)) 0]
def v61_5 : List COper := [
 cM 15 13 0,
 cM 5 15 1]
def v61_6 : List COper := [
 cM 16 0 0,
 cM 17 5 0,
 cS 18 (.indexAddr 1 (.t 16) (.t 17)) 3,
 cL 19 18 7,
 cM 20 1 0,
 cM 21 5 0,
 cS 22 (.indexAddr 1 (.t 20) (.t 21)) 48,
 cL 23 22 112,
 cS 24 (.bin .neq .str (.t 19) (.t 23)) 255]
def v61_7 : List COper := [
 cS 4 (.mov (.c (.bool false))) 0]
def v61_8 : List COper := [
 cS 25 (.bin .add .no (.t 13) (.c (.int .i64 (1)))) 0,
 cM 13 25 1]
def v61_b9 : CCode := (.seq (.region v61_4)
 (.seq (.cond (.t 14) .skip (.exit 0))
 (.seq (.block 1 (.seq (.region v61_5)
 (.seq (.draw v61_6)
 (.cond (.t 24) (.seq (.region v61_7)
 .ret) .skip))))
 (.region v61_8))))
def v61_10 : List COper := [
 cS 4 (.mov (.c (.bool true))) 0]
def v61_body : CCode := (.seq (.region v61_0)
 (.seq (.seq (.region v61_1)
 (.cond (.t 10) (.seq (.region v61_2)
 .ret) .skip))
 (.seq (.seq (.region v61_3)
 (.block 0 (.loop v61_b9)))
 (.seq (.region v61_10)
 .ret))))
def v61 : VFunc := ⟨26, [.t 4], true, v61_body,
 fun i => match i with | 0 => [13, 0, 1, 12] | _ => [],
 fun i => match i with | 0 => [] | 1 => [0, 1, 12, 13] | _ => []⟩
@[simp] theorem v61_c : v61.body = v61_body := rfl
@[simp] theorem v61_r : v61.results = [.t 4] := rfl
@[simp] theorem v61_o : v61.own = true := rfl
@[simp] theorem v61_h0 : v61.head 0 = [13, 0, 1, 12] := rfl
@[simp] theorem v61_t0 : v61.tail 0 = [] := rfl
@[simp] theorem v61_t1 : v61.tail 1 = [0, 1, 12, 13] := rfl
def v62_0 : List COper := [
 cS 2 (.mov (.c (.int .i64 (0)))) 0]
def v62_1 : List COper := [
 cM 4 0 0,
 cS 5 (.bin .eql (.iface false) (.t 4) (.c .nili)) 1]
def v62_2 : List COper := [
 cS 2 (.mov (.c (.int .i64 (0)))) 0]
def v62_3 : List COper := [
 ⟨some 3, .m (.alloc [(.int .i64 (0))]), none, 0⟩]
def v62_4 : List COper := [
 cM 6 0 0,
 cS 7 (.mkIface 197 (.t 3)) 0,
 cC 8 97 [.t 6, .t 7] 3]
def v62_5 : List COper := [
 cL 9 3 0,
 cM 2 9 1]
def v62_6 : List COper := [
 cS 2 (.mov (.c (.int .i64 (20)))) 0]
def v62_body : CCode := (.seq (.region v62_0)
 (.seq (.seq (.region v62_1)
 (.cond (.t 5) (.seq (.region v62_2)
 .ret) .skip))
 (.seq (.region v62_3)
 (.seq (.seq (.region v62_4)
 (.cond (.t 8) (.seq (.region v62_5)
 .ret) .skip))
 (.seq (.region v62_6)
 .ret)))))
def v62 : VFunc := ⟨10, [.t 2], true, v62_body,
 fun _ => [],
 fun _ => []⟩
@[simp] theorem v62_c : v62.body = v62_body := rfl
@[simp] theorem v62_r : v62.results = [.t 2] := rfl
@[simp] theorem v62_o : v62.own = true := rfl
def v101_0 : List COper := [
 cS 2 (.mov (.c (.cslice [] 1 0 1))) 0]
def v101_1 : List COper := [
 cS 3 (.mov (.c (.cslice [] 1 0 1))) 0]
def v101_2 : List COper := [
 cM 5 0 0,
 cS 6 (.bin .neq .nilp (.t 5) (.c .nilp)) 1]
def v101_3 : List COper := [
 cM 7 0 0,
 cN 8 7 1,
 cF 9 0 8 3,
 cL 10 9 7,
 ⟨some 11, .h (.range (.t 10)), none, 15⟩]
def v101_4 : List COper := [
 ⟨some 12, .next (.t 11), none, 0⟩,
 cE 13 0 12 1]
def v101_5 : List COper := [
 cS 14 (.entry (.t 11)) 0,
 cE 15 0 14 1,
 cM 4 15 3]
def v101_6 : List COper := [
 cM 16 3 0,
 cM 17 4 0,
 ⟨some 18, .m (.buildSlice 1 1 [(.str [])] [(0, 1, .t 17)]), none, 2⟩,
 ⟨some 19, .h (.append 1 16 false (.t 16) (.t 18)), none, 7⟩,
 cM 3 19 15]
def v101_b7 : CCode := (.seq (.region v101_4)
 (.seq (.cond (.t 13) .skip (.exit 0))
 (.block 1 (.seq (.region v101_5)
 (.region v101_6)))))
def v101_8 : List COper := [
 cM 20 3 0,
 cC 21 90 [.t 20] 1]
def v101_9 : List COper := [
 cM 22 3 0,
 cM 2 22 1]
def v101_body : CCode := (.seq (.region v101_0)
 (.seq (.region v101_1)
 (.seq (.seq (.region v101_2)
 (.cond (.t 6) (.seq (.region v101_3)
 (.block 0 (.loop v101_b7))) .skip))
 (.seq (.region v101_8)
 (.seq (.region v101_9)
 .ret)))))
def v101 : VFunc := ⟨23, [.t 2], true, v101_body,
 fun i => match i with | 0 => [3, 11] | _ => [],
 fun i => match i with | 0 => [3] | 1 => [3, 11] | _ => []⟩
@[simp] theorem v101_c : v101.body = v101_body := rfl
@[simp] theorem v101_r : v101.results = [.t 2] := rfl
@[simp] theorem v101_o : v101.own = true := rfl
@[simp] theorem v101_h0 : v101.head 0 = [3, 11] := rfl
@[simp] theorem v101_t0 : v101.tail 0 = [3] := rfl
@[simp] theorem v101_t1 : v101.tail 1 = [3, 11] := rfl
def v102_0 : List COper := [
 ⟨some 2, .m (.box (.t 0)), none, 0⟩,
 cS 4 (.mov (.c (.bool false))) 0]
def v102_1 : List COper := [
 cM 5 1 0,
 cF 6 0 2 0,
 cL 7 6 2,
 cS 8 (.bin .geq .no (.t 5) (.t 7)) 7,
 cM 9 8 15,
 cG 10 (.fieldAddr 1 (.t 2)) 9 true 31,
 cG 11 (.load none (.t 10)) 9 true 63,
 cG 12 (.bin .eql .str (.t 11) (.c (.str []))) 9 true 127,
 cMG 13 12 9 true 255,
 cMG 14 1 13 false 511,
 cG 15 (.fieldAddr 1 (.t 2)) 13 false 511,
 cG 16 (.load none (.t 15)) 13 false 1535,
 cG 17 (.bin .lss .no (.t 14) (.t 16)) 13 false 4095,
 cG 18 (.pick (.t 13) (.c (.bool true)) (.t 17)) 9 true 8191,
 cQ 19 9 18 16383,
 cM 4 19 32767]
def v102_body : CCode := (.seq (.region v102_0)
 (.seq (.region v102_1)
 .ret))
def v102 : VFunc := ⟨20, [.t 4], true, v102_body,
 fun _ => [],
 fun _ => []⟩
@[simp] theorem v102_c : v102.body = v102_body := rfl
@[simp] theorem v102_r : v102.results = [.t 4] := rfl
@[simp] theorem v102_o : v102.own = true := rfl
def v103_0 : List COper := [
 cS 4 (.mov (.c (.bool false))) 0]
def v103_1 : List COper := [
 cM 5 0 0,
 cM 6 1 0,
 cC 7 165 [.t 5, .t 6] 3,
 cS 8 (.bin .geq .no (.t 7) (.c (.int .i64 (0)))) 7,
 cM 4 8 15]
def v103_body : CCode := (.seq (.region v103_0)
 (.seq (.region v103_1)
 .ret))
def v103 : VFunc := ⟨9, [.t 4], true, v103_body,
 fun _ => [],
 fun _ => []⟩
@[simp] theorem v103_c : v103.body = v103_body := rfl
@[simp] theorem v103_r : v103.results = [.t 4] := rfl
@[simp] theorem v103_o : v103.own = true := rfl
def v104_0 : List COper := [
 ⟨some 2, .m (.box (.t 0)), none, 0⟩,
 cS 3 (.mov (.c (.bool false))) 0]
def v104_1 : List COper := [
 cS 4 (.load (some 2) (.t 2)) 0,
 cL 5 1 0,
 cC 6 58 [.t 4, .t 5] 3,
 cM 3 6 7]
def v104_body : CCode := (.seq (.region v104_0)
 (.seq (.region v104_1)
 .ret))
def v104 : VFunc := ⟨7, [.t 3], true, v104_body,
 fun _ => [],
 fun _ => []⟩
@[simp] theorem v104_c : v104.body = v104_body := rfl
@[simp] theorem v104_r : v104.results = [.t 3] := rfl
@[simp] theorem v104_o : v104.own = true := rfl
def v165_0 : List COper := [
 cS 4 (.mov (.c (.int .i64 (0)))) 0]
def v165_1 : List COper := [
 cM 6 0 0,
 cS 7 (.len 1 (.t 6)) 1,
 cS 8 (.mov (.c (.int .i64 (0)))) 0]
def v165_2 : List COper := [
 cS 9 (.bin .lss .no (.t 8) (.t 7)) 0]
def v165_3 : List COper := [
 cM 10 8 0,
 cM 5 10 1]
def v165_4 : List COper := [
 cM 11 1 0,
 cM 12 0 0,
 cM 13 5 0,
 cS 14 (.indexAddr 2 (.t 12) (.t 13)) 6,
 cS 15 (.load (some 2) (.t 14)) 14,
 ⟨some 16, .call (.t 11) [.t 15], none, 31⟩]
def v165_5 : List COper := [
 cM 17 5 0,
 cM 4 17 1]
def v165_6 : List COper := [
 cS 18 (.bin .add .no (.t 8) (.c (.int .i64 (1)))) 0,
 cM 8 18 1]
def v165_b7 : CCode := (.seq (.region v165_2)
 (.seq (.cond (.t 9) .skip (.exit 0))
 (.seq (.block 1 (.seq (.region v165_3)
 (.seq (.region v165_4)
 (.cond (.t 16) (.seq (.region v165_5)
 .ret) .skip))))
 (.region v165_6))))
def v165_8 : List COper := [
 cS 4 (.mov (.c (.int .i64 (-1)))) 0]
def v165_body : CCode := (.seq (.region v165_0)
 (.seq (.seq (.region v165_1)
 (.block 0 (.loop v165_b7)))
 (.seq (.region v165_8)
 .ret)))
def v165 : VFunc := ⟨19, [.t 4], true, v165_body,
 fun i => match i with | 0 => [8, 0, 1, 7] | _ => [],
 fun i => match i with | 0 => [] | 1 => [0, 1, 7, 8] | _ => []⟩
@[simp] theorem v165_c : v165.body = v165_body := rfl
@[simp] theorem v165_r : v165.results = [.t 4] := rfl
@[simp] theorem v165_o : v165.own = true := rfl
@[simp] theorem v165_h0 : v165.head 0 = [8, 0, 1, 7] := rfl
@[simp] theorem v165_t0 : v165.tail 0 = [] := rfl
@[simp] theorem v165_t1 : v165.tail 1 = [0, 1, 7, 8] := rfl
def v64_0 : List COper := [
 ⟨some 3, .m (.box (.t 1)), none, 0⟩,
 cS 4 (.mov (.c (.cslice [] 1 0 1))) 0,
 cS 5 (.mov (.c (.bool false))) 2,
 cS 6 (.mov (.c .nili)) 6]
def v64_1 : List COper := [
 cM 14 0 0,
 cS 15 (.load (some 8) (.t 3)) 0,
 cC 16 105 [.t 14, .t 15] 3,
 cM 13 16 7,
 cE 17 0 13 15,
 cE 18 1 13 15,
 cM 7 17 31,
 cM 8 18 127]
def v64_2 : List COper := [
 cM 19 8 0,
 cS 20 (.bin .neq (.iface false) (.t 19) (.c .nili)) 1]
def v64_3 : List COper := [
 cM 21 8 0,
 cS 4 (.mov (.c (.cslice [] 1 0 1))) 0,
 cS 5 (.mov (.c (.bool false))) 2,
 cM 6 21 7]
def v64_4 : List COper := [
 cM 23 0 0,
 cN 24 23 1,
 cF 25 1 24 3,
 cL 26 25 7,
 cM 27 7 0,
 cS 28 (.lookup .str (.agg [(.bool false), (.cslice [] 0 0 1)]) true (.t 26) (.t 27)) 31,
 cM 22 28 63,
 cE 29 0 22 127,
 cE 30 1 22 127,
 ⟨some 9, .m (.alloc [(.bool false), (.cslice [] 0 0 1)]), none, 0⟩,
 cH (.store 2 (.t 9) (.t 29)) 767,
 cM 10 30 2047]
def v64_5 : List COper := [
 cM 31 10 0]
def v64_6 : List COper := [
 cF 32 1 9 0,
 cL 33 32 1,
 cC 34 49 [.t 33] 3,
 cF 35 0 9 0,
 cL 36 35 8,
 cS 37 (.un .not (.t 36)) 24,
 cM 4 34 7,
 cM 5 37 127,
 cS 6 (.mov (.c .nili)) 255]
def v64_7 : List COper := [
 cM 39 0 0,
 cN 40 39 1,
 cF 41 0 40 3,
 cL 42 41 7,
 cM 43 7 0,
 ⟨some 44, .invoke "Get" (.t 42) [.t 43], none, 31⟩,
 cM 38 44 63,
 cE 45 0 38 127,
 cE 46 1 38 127,
 cE 47 2 38 127,
 cM 11 45 255,
 cM 12 46 1535,
 cM 8 47 4095]
def v64_8 : List COper := [
 cM 48 8 0,
 cS 49 (.bin .neq (.iface false) (.t 48) (.c .nili)) 1]
def v64_9 : List COper := [
 cF 50 0 3 0,
 cL 51 50 1,
 cM 52 8 0,
 cC 53 106 [.t 51, .t 52] 7,
 cS 4 (.mov (.c (.cslice [] 1 0 1))) 15,
 cS 5 (.mov (.c (.bool false))) 31,
 cM 6 53 63]
def v64_10 : List COper := [
 cM 54 11 0,
 cM 55 12 0,
 cM 4 54 1,
 cM 5 55 7,
 cS 6 (.mov (.c .nili)) 15]
def v64_body : CCode := (.seq (.region v64_0)
 (.seq (.region v64_1)
 (.seq (.seq (.region v64_2)
 (.cond (.t 20) (.seq (.region v64_3)
 .ret) .skip))
 (.seq (.seq (.region v64_4)
 (.seq (.region v64_5)
 (.cond (.t 31) (.seq (.draw v64_6)
 .ret) .skip)))
 (.seq (.region v64_7)
 (.seq (.seq (.region v64_8)
 (.cond (.t 49) (.seq (.region v64_9)
 .ret) .skip))
 (.seq (.region v64_10)
 .ret)))))))
def v64 : VFunc := ⟨56, [.t 4, .t 5, .t 6], true, v64_body,
 fun _ => [],
 fun _ => []⟩
@[simp] theorem v64_c : v64.body = v64_body := rfl
@[simp] theorem v64_r : v64.results = [.t 4, .t 5, .t 6] := rfl
@[simp] theorem v64_o : v64.own = true := rfl
def v98_0 : List COper := [
 ⟨some 4, .m (.box (.t 1)), none, 0⟩,
 ⟨some 6, .m (.alloc [(.str []), (.int .u64 (0)), (.int .i64 (0)), (.str []), (.int .u64 (0))]), none, 0⟩,
 cS 7 (.mov (.c (.bool false))) 0,
 cS 8 (.mov (.c .nili)) 4]
def v98_1 : List COper := [
 ⟨some 9, .m (.alloc [(.str []), (.int .u64 (0)), (.int .i64 (0)), (.str []), (.int .u64 (0))]), none, 0⟩]
def v98_2 : List COper := [
 cM 16 0 0,
 cS 17 (.load (some 8) (.t 4)) 0,
 cC 18 64 [.t 16, .t 17] 3,
 cM 15 18 7,
 cE 19 0 15 15,
 cE 20 1 15 15,
 cE 21 2 15 15,
 cM 10 19 31,
 cM 11 20 191,
 cM 12 21 511]
def v98_3 : List COper := [
 cM 22 12 0,
 cS 23 (.bin .neq (.iface false) (.t 22) (.c .nili)) 1,
 cM 24 23 3,
 cMG 25 11 24 false 7,
 cG 26 (.un .not (.t 25)) 24 false 15,
 cP 27 24 26 31]
def v98_4 : List COper := [
 cS 28 (.load (some 5) (.t 9)) 0,
 cM 29 12 0,
 cH (.store 5 (.t 6) (.t 28)) 1,
 cS 7 (.mov (.c (.bool false))) 5,
 cM 8 29 15]
def v98_5 : List COper := [
 cM 31 2 0,
 cM 32 10 0,
 ⟨some 33, .call (.t 31) [.t 32], none, 3⟩,
 cM 30 33 7,
 cE 34 0 30 15,
 cE 35 1 30 15,
 ⟨some 13, .m (.alloc [(.str []), (.int .u64 (0)), (.int .i64 (0)), (.str []), (.int .u64 (0))]), none, 0⟩,
 cH (.store 5 (.t 13) (.t 34)) 95,
 cM 14 35 255]
def v98_6 : List COper := [
 cM 36 14 0,
 cS 37 (.bin .neq .int (.t 36) (.c (.int .i64 (0)))) 1]
def v98_7 : List COper := [
 cS 38 (.load (some 5) (.t 9)) 0,
 cF 39 0 4 0,
 cL 40 39 2,
 cM 41 14 0,
 cC 42 107 [.t 41] 8,
 cC 43 106 [.t 40, .t 42] 30,
 cH (.store 5 (.t 6) (.t 38)) 63,
 cS 7 (.mov (.c (.bool false))) 127,
 cM 8 43 255]
def v98_8 : List COper := [
 cS 44 (.load (some 5) (.t 13)) 0,
 cH (.store 5 (.t 6) (.t 44)) 1,
 cS 7 (.mov (.c (.bool true))) 3,
 cS 8 (.mov (.c .nili)) 7]
def v98_body : CCode := (.seq (.region v98_0)
 (.seq (.region v98_1)
 (.seq (.region v98_2)
 (.seq (.seq (.region v98_3)
 (.cond (.t 27) (.seq (.region v98_4)
 .ret) .skip))
 (.seq (.region v98_5)
 (.seq (.seq (.region v98_6)
 (.cond (.t 37) (.seq (.draw v98_7)
 .ret) .skip))
 (.seq (.region v98_8)
 .ret)))))))
def v98 : VFunc := ⟨45, [.cell 6 (some 5), .t 7, .t 8], true, v98_body,
 fun _ => [],
 fun _ => []⟩
@[simp] theorem v98_c : v98.body = v98_body := rfl
@[simp] theorem v98_r : v98.results = [.cell 6 (some 5), .t 7, .t 8] := rfl
@[simp] theorem v98_o : v98.own = true := rfl
def v99_0 : List COper := [
 ⟨some 2, .m (.alloc [(.int .u8 (0)), (.str []), (.str []), (.str []), (.str []), (.int .u64 (0)), (.int .u64 (0)), (.int .u64 (0))]), none, 0⟩]
def v99_1 : List COper := [
 cM 3 0 0,
 cS 4 (.build [(.int .u8 (0)), (.str []), (.str []), (.str []), (.str []), (.int .u64 (0)), (.int .u64 (0)), (.int .u64 (0))] [(0, 1, (.c (.int .u8 (105)))), (4, 1, .t 3)]) 1,
 cH (.store 8 (.t 2) (.t 4)) 3]
def v99_body : CCode := (.seq (.region v99_0)
 (.seq (.region v99_1)
 .ret))
def v99 : VFunc := ⟨5, [.cell 2 (some 8)], true, v99_body,
 fun _ => [],
 fun _ => []⟩
@[simp] theorem v99_c : v99.body = v99_body := rfl
@[simp] theorem v99_r : v99.results = [.cell 2 (some 8)] := rfl
@[simp] theorem v99_o : v99.own = true := rfl
def v105_0 : List COper := [
 ⟨some 3, .m (.box (.t 1)), none, 0⟩,
 cS 4 (.mov (.c (.str []))) 0,
 cS 5 (.mov (.c .nili)) 2]
def v105_1 : List COper := [
 cM 8 0 0,
 cS 9 (.bin .eql .nilp (.t 8) (.c .nilp)) 1,
 cM 10 9 3,
 cMG 11 0 10 false 7,
 cG 12 (.nilCheck (.t 11)) 10 false 15,
 cG 13 (.fieldAddr 1 (.t 12)) 10 false 31,
 cG 14 (.load none (.t 13)) 10 false 63,
 cG 15 (.bin .eql .nilm (.t 14) (.c .nilm)) 10 false 127,
 cP 16 10 15 255]
def v105_2 : List COper := [
 cF 17 0 3 0,
 cL 18 17 1,
 cC 19 107 [(.c (.int .i64 (2)))] 0,
 cC 20 106 [.t 18, .t 19] 7,
 cS 4 (.mov (.c (.str []))) 15,
 cM 5 20 31]
def v105_3 : List COper := [
 cS 22 (.load (some 8) (.t 3)) 0,
 cC 23 166 [.t 22] 1,
 cM 21 23 3,
 cE 24 0 21 7,
 cE 25 1 21 7,
 cM 6 24 15,
 cM 7 25 63]
def v105_4 : List COper := [
 cM 26 6 0,
 cF 27 0 3 0,
 cL 28 27 2,
 cM 29 7 0,
 cC 30 107 [.t 29] 8,
 cC 31 106 [.t 28, .t 30] 30,
 cM 4 26 63,
 cM 5 31 127]
def v105_4s : List Step := [
 .small 0 (cM 26 6 0),
 .small 1 (cF 27 0 3 0),
 .small 2 (cL 28 27 2),
 .small 3 (cM 29 7 0),
 .big 4 (cC 30 107 [.t 29] 8),
 .big 5 (cC 31 106 [.t 28, .t 30] 30),
 .small 6 (cM 4 26 63),
 .small 7 (cM 5 31 127)]
theorem v105_4h : sched (v105_4.length + 1) (numbered v105_4 0) 0 = some v105_4s := by kernel_rfl
def v105_body : CCode := (.seq (.region v105_0)
 (.seq (.seq (.region v105_1)
 (.cond (.t 16) (.seq (.draw v105_2)
 .ret) .skip))
 (.seq (.region v105_3)
 (.seq (.draw v105_4)
 .ret))))
def v105 : VFunc := ⟨32, [.t 4, .t 5], true, v105_body,
 fun _ => [],
 fun _ => []⟩
@[simp] theorem v105_c : v105.body = v105_body := rfl
@[simp] theorem v105_r : v105.results = [.t 4, .t 5] := rfl
@[simp] theorem v105_o : v105.own = true := rfl
def v106_0 : List COper := [
 cS 4 (.mov (.c .nili)) 0]
def v106_1 : List COper := [
 cM 5 0 0,
 ⟨some 6, .m (.buildSlice 1 1 [(.int .u8 (0))] [(0, 1, .t 5)]), none, 1⟩,
 cS 7 (.toStr (.t 6)) 3,
 cM 8 1 0,
 cC 9 167 [.t 7, .t 8] 15,
 cM 4 9 31]
def v106_body : CCode := (.seq (.region v106_0)
 (.seq (.region v106_1)
 .ret))
def v106 : VFunc := ⟨10, [.t 4], true, v106_body,
 fun _ => [],
 fun _ => []⟩
@[simp] theorem v106_c : v106.body = v106_body := rfl
@[simp] theorem v106_r : v106.results = [.t 4] := rfl
@[simp] theorem v106_o : v106.own = true := rfl
def v107_0 : List COper := [
 cS 2 (.mov (.c .nili)) 0]
def v107_1 : List COper := [
 cM 3 0 0,
 cS 4 (.bin .eql .int (.t 3) (.c (.int .i64 (0)))) 1]
def v107_2 : List COper := [
 cS 2 (.mov (.c .nili)) 0]
def v107_3 : List COper := [
 cM 5 0 0,
 cS 6 (.mkIface 43 (.t 5)) 1,
 cM 2 6 3]
def v107_body : CCode := (.seq (.region v107_0)
 (.seq (.seq (.region v107_1)
 (.cond (.t 4) (.seq (.region v107_2)
 .ret) .skip))
 (.seq (.region v107_3)
 .ret)))
def v107 : VFunc := ⟨7, [.t 2], true, v107_body,
 fun _ => [],
 fun _ => []⟩
@[simp] theorem v107_c : v107.body = v107_body := rfl
@[simp] theorem v107_r : v107.results = [.t 2] := rfl
@[simp] theorem v107_o : v107.own = true := rfl
def v166_0 : List COper := [
 ⟨some 1, .m (.box (.t 0)), none, 0⟩,
 cS 2 (.mov (.c (.str []))) 0,
 cS 3 (.mov (.c (.int .i64 (0)))) 2]
def v166_1 : List COper := [
 cS 8 (.load (some 8) (.t 1)) 0,
 cC 9 168 [.t 8] 1,
 cM 7 9 3,
 cE 10 0 7 7,
 cE 11 1 7 7,
 cE 12 2 7 7,
 ⟨some 5, .m (.alloc [(.int .u8 (0)), (.str []), (.str []), (.str []), (.str []), (.int .u64 (0)), (.int .u64 (0)), (.int .u64 (0))]), none, 0⟩,
 cM 4 10 79,
 cH (.store 8 (.t 5) (.t 11)) 223,
 cM 6 12 511]
def v166_2 : List COper := [
 cM 13 6 0,
 cS 14 (.bin .neq .int (.t 13) (.c (.int .i64 (0)))) 1]
def v166_3 : List COper := [
 cM 15 6 0,
 cS 2 (.mov (.c (.str []))) 0,
 cM 3 15 3]
def v166_4 : List COper := [
 cS 16 (.load (some 8) (.t 5)) 0,
 cF 17 0 1 0,
 cL 18 17 2,
 cS 19 (.build [(.int .u8 (0)), (.str []), (.str []), (.str []), (.str []), (.int .u64 (0)), (.int .u64 (0)), (.int .u64 (0))] [(0, 1, .t 18)]) 6,
 cS 20 (.bin .neq (.flat [(0, .int), (1, .str), (2, .str), (3, .str), (4, .str), (5, .int), (6, .int), (7, .int)]) (.t 16) (.t 19)) 15]
def v166_5 : List COper := [
 cS 2 (.mov (.c (.str []))) 0,
 cS 3 (.mov (.c (.int .i64 (1)))) 1]
def v166_6 : List COper := [
 cF 21 0 1 0,
 cL 22 21 1,
 cM 23 4 0,
 cC 24 227 [.t 22, .t 23] 7,
 cM 2 24 15,
 cS 3 (.mov (.c (.int .i64 (0)))) 31]
def v166_body : CCode := (.seq (.region v166_0)
 (.seq (.region v166_1)
 (.seq (.seq (.region v166_2)
 (.cond (.t 14) (.seq (.region v166_3)
 .ret) .skip))
 (.seq (.seq (.region v166_4)
 (.cond (.t 20) (.seq (.region v166_5)
 .ret) .skip))
 (.seq (.region v166_6)
 .ret)))))
def v166 : VFunc := ⟨25, [.t 2, .t 3], true, v166_body,
 fun _ => [],
 fun _ => []⟩
@[simp] theorem v166_c : v166.body = v166_body := rfl
@[simp] theorem v166_r : v166.results = [.t 2, .t 3] := rfl
@[simp] theorem v166_o : v166.own = true := rfl
def v167_0 : List COper := [
 cS 4 (.mov (.c .nili)) 0]
def v167_1 : List COper := [
 cM 5 1 0,
 cS 6 (.bin .eql (.iface false) (.t 5) (.c .nili)) 1]
def v167_2 : List COper := [
 cS 4 (.mov (.c .nili)) 0]
def v167_3 : List COper := [
 cM 7 0 0,
 cM 8 1 0,
 cS 9 (.build [(.str []), .nili] [(0, 1, .t 7), (1, 1, .t 8)]) 3,
 ⟨some 10, .m (.box (.t 9)), none, 7⟩,
 cS 11 (.mkIface 191 (.t 10)) 15,
 cM 4 11 31]
def v167_body : CCode := (.seq (.region v167_0)
 (.seq (.seq (.region v167_1)
 (.cond (.t 6) (.seq (.region v167_2)
 .ret) .skip))
 (.seq (.region v167_3)
 .ret)))
def v167 : VFunc := ⟨12, [.t 4], true, v167_body,
 fun _ => [],
 fun _ => []⟩
@[simp] theorem v167_c : v167.body = v167_body := rfl
@[simp] theorem v167_r : v167.results = [.t 4] := rfl
@[simp] theorem v167_o : v167.own = true := rfl
def v168_0 : List COper := [
 ⟨some 1, .m (.box (.t 0)), none, 0⟩,
 cS 2 (.mov (.c (.cslice [] 1 0 1))) 0,
 ⟨some 3, .m (.alloc [(.int .u8 (0)), (.str []), (.str []), (.str []), (.str []), (.int .u64 (0)), (.int .u64 (0)), (.int .u64 (0))]), none, 0⟩,
 cS 4 (.mov (.c (.int .i64 (0)))) 2]
def v168_1 : List COper := [
 cF 12 0 1 0,
 cL 13 12 1,
 cC 14 171 [.t 13] 3,
 cM 11 14 7,
 cE 15 0 11 15,
 cE 16 1 11 15,
 cM 5 15 31,
 cM 6 16 127]
def v168_2 : List COper := [
 cM 17 6 0,
 cS 18 (.un .not (.t 17)) 1]
def v168_3 : List COper := [
 cS 19 (.load (some 8) (.t 1)) 0,
 cS 2 (.mov (.c (.cslice [] 1 0 1))) 0,
 cH (.store 8 (.t 3) (.t 19)) 3,
 cS 4 (.mov (.c (.int .i64 (31)))) 7]
def v168_4 : List COper := [
 cS 7 (.mov (.c (.cslice [] 1 0 1))) 0]
def v168_5 : List COper := [
 cM 20 5 0,
 cS 21 (.len 0 (.t 20)) 1,
 cS 22 (.mov (.c (.int .i64 (0)))) 0]
def v168_6 : List COper := [
 cS 23 (.bin .lss .no (.t 22) (.t 21)) 0]
def v168_7 : List COper := [
 cM 24 22 0,
 cM 8 24 1]
def v168_8 : List COper := [
 cM 25 5 0,
 cM 26 8 0,
 cS 27 (.index (.t 25) (.t 26)) 3,
 cC 28 172 [.t 1, .t 27] 7,
 cM 9 28 15]
def v168_9 : List COper := [
 cM 29 9 0,
 cS 30 (.bin .neq .nilp (.t 29) (.c .nilp)) 1]
def v168_10 : List COper := [
 cM 31 7 0,
 cM 32 9 0,
 cN 33 32 2,
 cL 34 33 6,
 ⟨some 35, .m (.buildSlice 1 1 [(.str [])] [(0, 1, .t 34)]), none, 14⟩,
 ⟨some 36, .h (.append 1 16 false (.t 31) (.t 35)), none, 31⟩,
 cM 7 36 63]
def v168_11 : List COper := [
 cM 37 9 0,
 cN 38 37 1,
 cH (.store 1 (.t 38) (.c (.str []))) 3]
def v168_12 : List COper := [
 cM 39 5 0,
 cM 40 8 0,
 cS 41 (.index (.t 39) (.t 40)) 3,
 cC 42 174 [.t 1, .t 41] 7,
 cM 10 42 15]
def v168_13 : List COper := [
 cM 43 7 0,
 cM 44 10 0,
 cN 45 44 2,
 cL 46 45 6,
 cC 47 228 [.t 46] 14,
 ⟨some 48, .m (.buildSlice 1 1 [(.str [])] [(0, 1, .t 47)]), none, 30⟩,
 ⟨some 49, .h (.append 1 16 false (.t 43) (.t 48)), none, 63⟩,
 cM 7 49 127]
def v168_14 : List COper := [
 cM 50 10 0,
 cN 51 50 1,
 cH (.store 1 (.t 51) (.c (.int .u64 (0)))) 3]
def v168_15 : List COper := [
 cS 52 (.bin .add .no (.t 22) (.c (.int .i64 (1)))) 0,
 cM 22 52 1]
def v168_b16 : CCode := (.seq (.region v168_6)
 (.seq (.cond (.t 23) .skip (.exit 0))
 (.seq (.block 1 (.seq (.region v168_7)
 (.seq (.seq (.region v168_8)
 (.seq (.region v168_9)
 (.cond (.t 30) (.seq (.region v168_10)
 (.seq (.region v168_11)
 (.exit 1))) .skip)))
 (.seq (.region v168_12)
 (.seq (.region v168_13)
 (.region v168_14))))))
 (.region v168_15))))
def v168_17 : List COper := [
 cM 53 7 0,
 cS 54 (.load (some 8) (.t 1)) 0,
 cM 2 53 1,
 cH (.store 8 (.t 3) (.t 54)) 7,
 cS 4 (.mov (.c (.int .i64 (0)))) 15]
def v168_17s : List Step := [
 .small 0 (cM 53 7 0),
 .small 1 (cS 54 (.load (some 8) (.t 1)) 0),
 .small 2 (cM 2 53 1),
 .big 3 (cH (.store 8 (.t 3) (.t 54)) 7),
 .small 4 (cS 4 (.mov (.c (.int .i64 (0)))) 15)]
theorem v168_17h : sched (v168_17.length + 1) (numbered v168_17 0) 0 = some v168_17s := by kernel_rfl
def v168_body : CCode := (.seq (.region v168_0)
 (.seq (.region v168_1)
 (.seq (.seq (.region v168_2)
 (.cond (.t 18) (.seq (.draw v168_3)
 .ret) .skip))
 (.seq (.region v168_4)
 (.seq (.seq (.region v168_5)
 (.block 0 (.loop v168_b16)))
 (.seq (.draw v168_17)
 .ret))))))
def v168 : VFunc := ⟨55, [.t 2, .cell 3 (some 8), .t 4], true, v168_body,
 fun i => match i with | 0 => [22, 7, 1, 5, 3, 21] | _ => [],
 fun i => match i with | 0 => [3, 7, 1] | 1 => [7, 1, 5, 3, 21, 22] | _ => []⟩
@[simp] theorem v168_c : v168.body = v168_body := rfl
@[simp] theorem v168_r : v168.results = [.t 2, .cell 3 (some 8), .t 4] := rfl
@[simp] theorem v168_o : v168.own = true := rfl
@[simp] theorem v168_h0 : v168.head 0 = [22, 7, 1, 5, 3, 21] := rfl
@[simp] theorem v168_t0 : v168.tail 0 = [3, 7, 1] := rfl
@[simp] theorem v168_t1 : v168.tail 1 = [7, 1, 5, 3, 21, 22] := rfl
def v171_0 : List COper := [
 cS 2 (.mov (.c (.str []))) 0,
 cS 3 (.mov (.c (.bool false))) 1]
def v171_1 : List COper := [
 cS 4 (.mov (.c (.str []))) 0]
def v171_2 : List COper := [
 cM 5 0 0]
def v171_3 : List COper := [
 cS 7 (.bin .eql .int (.t 5) (.c (.int .u8 (109)))) 0,
 cM 6 7 1]
def v171_4 : List COper := [
 cS 9 (.bin .eql .int (.t 5) (.c (.int .u8 (115)))) 0,
 cM 8 9 1]
def v171_5 : List COper := [
 cS 11 (.bin .eql .int (.t 5) (.c (.int .u8 (122)))) 0,
 cM 10 11 1]
def v171_6 : List COper := [
 cS 13 (.bin .eql .int (.t 5) (.c (.int .u8 (97)))) 0,
 cM 12 13 1]
def v171_7 : List COper := [
 cS 15 (.bin .eql .int (.t 5) (.c (.int .u8 (107)))) 0,
 cM 14 15 1]
def v171_8 : List COper := [
 cS 17 (.bin .eql .int (.t 5) (.c (.int .u8 (116)))) 0,
 cM 16 17 1]
def v171_9 : List COper := [
 cS 19 (.bin .eql .int (.t 5) (.c (.int .u8 (105)))) 0,
 cM 18 19 1]
def v171_10 : List COper := [
 cS 21 (.bin .eql .int (.t 5) (.c (.int .u8 (118)))) 0,
 cM 20 21 1]
def v171_11 : List COper := [
 cS 23 (.bin .eql .int (.t 5) (.c (.int .u8 (98)))) 0,
 cM 22 23 1]
def v171_12 : List COper := [
 cS 25 (.bin .eql .int (.t 5) (.c (.int .u8 (101)))) 0,
 cM 24 25 1]
def v171_13 : List COper := [
 cS 27 (.bin .eql .int (.t 5) (.c (.int .u8 (100)))) 0,
 cM 26 27 1]
def v171_14 : List COper := [
 cS 29 (.bin .eql .int (.t 5) (.c (.int .u8 (99)))) 0,
 cM 28 29 1]
def v171_15 : List COper := [
 cS 4 (.mov (.c (.str [110, 107]))) 0]
def v171_16 : List COper := [
 cM 30 4 0,
 cS 31 (.bin .eql .str (.t 30) (.c (.str []))) 1]
def v171_17 : List COper := [
 cS 4 (.mov (.c (.str [110]))) 0]
def v171_18 : List COper := [
 cM 32 4 0,
 cS 33 (.bin .eql .str (.t 32) (.c (.str []))) 1]
def v171_19 : List COper := [
 cS 4 (.mov (.c (.str [97]))) 0]
def v171_20 : List COper := [
 cM 34 4 0,
 cS 35 (.bin .add .no (.t 34) (.c (.str [105, 116, 111]))) 1,
 cM 2 35 3,
 cS 3 (.mov (.c (.bool true))) 7]
def v171_21 : List COper := [
 cS 4 (.mov (.c (.str [110]))) 0]
def v171_22 : List COper := [
 cM 36 4 0,
 cS 37 (.bin .add .no (.t 36) (.c (.str [105, 116]))) 1,
 cM 2 37 3,
 cS 3 (.mov (.c (.bool true))) 7]
def v171_23 : List COper := [
 cS 2 (.mov (.c (.str [105]))) 0,
 cS 3 (.mov (.c (.bool true))) 1]
def v171_24 : List COper := [
 cS 2 (.mov (.c (.str [105, 110]))) 0,
 cS 3 (.mov (.c (.bool true))) 1]
def v171_25 : List COper := [
 cS 2 (.mov (.c (.str [110, 107, 100]))) 0,
 cS 3 (.mov (.c (.bool true))) 1]
def v171_26 : List COper := [
 cS 2 (.mov (.c (.str [110, 97]))) 0,
 cS 3 (.mov (.c (.bool true))) 1]
def v171_27 : List COper := [
 cS 2 (.mov (.c (.str [110]))) 0,
 cS 3 (.mov (.c (.bool true))) 1]
def v171_28 : List COper := [
 cS 2 (.mov (.c (.str []))) 0,
 cS 3 (.mov (.c (.bool true))) 1]
def v171_29 : List COper := [
 cS 2 (.mov (.c (.str []))) 0,
 cS 3 (.mov (.c (.bool false))) 1]
def v171_body : CCode := (.seq (.region v171_0)
 (.seq (.region v171_1)
 (.seq (.seq (.region v171_2)
 (.block 0 (.seq (.block 12 (.seq (.block 11 (.seq (.block 10 (.seq (.block 9 (.seq (.block 8 (.seq (.block 7 (.seq (.block 6 (.seq (.block 5 (.seq (.block 4 (.seq (.block 3 (.seq (.block 2 (.seq (.block 1 (.seq (.seq (.seq (.region v171_3)
 (.cond (.t 6) (.exit 1) .skip))
 (.seq (.seq (.region v171_4)
 (.cond (.t 8) (.exit 2) .skip))
 (.seq (.seq (.region v171_5)
 (.cond (.t 10) (.exit 3) .skip))
 (.seq (.seq (.region v171_6)
 (.cond (.t 12) (.exit 4) .skip))
 (.seq (.seq (.region v171_7)
 (.cond (.t 14) (.exit 5) .skip))
 (.seq (.seq (.region v171_8)
 (.cond (.t 16) (.exit 6) .skip))
 (.seq (.seq (.region v171_9)
 (.cond (.t 18) (.exit 7) .skip))
 (.seq (.seq (.region v171_10)
 (.cond (.t 20) (.exit 8) .skip))
 (.seq (.seq (.region v171_11)
 (.cond (.t 22) (.exit 9) .skip))
 (.seq (.seq (.region v171_12)
 (.cond (.t 24) (.exit 10) .skip))
 (.seq (.seq (.region v171_13)
 (.cond (.t 26) (.exit 11) .skip))
 (.seq (.region v171_14)
 (.cond (.t 28) (.exit 12) .skip)))))))))))))
 (.exit 0)))
 (.region v171_15)))
 (.seq (.region v171_16)
 (.cond (.t 31) (.region v171_17) .skip))))
 (.seq (.region v171_18)
 (.cond (.t 33) (.region v171_19) .skip))))
 (.seq (.seq (.region v171_20)
 .ret)
 (.exit 0))))
 (.region v171_21)))
 (.seq (.seq (.region v171_22)
 .ret)
 (.exit 0))))
 (.seq (.seq (.region v171_23)
 .ret)
 (.exit 0))))
 (.seq (.seq (.region v171_24)
 .ret)
 (.exit 0))))
 (.seq (.seq (.region v171_25)
 .ret)
 (.exit 0))))
 (.seq (.seq (.region v171_26)
 .ret)
 (.exit 0))))
 (.seq (.seq (.region v171_27)
 .ret)
 (.exit 0))))
 (.seq (.seq (.region v171_28)
 .ret)
 (.exit 0)))))
 (.seq (.region v171_29)
 .ret))))
def v171 : VFunc := ⟨38, [.t 2, .t 3], true, v171_body,
 fun _ => [],
 fun i => match i with | 1 => [] | 2 => [4] | 3 => [4] | 4 => [4] | 5 => [] | 6 => [4] | 7 => [] | 8 => [] | 9 => [] | 10 => [] | 11 => [] | 12 => [] | 0 => [] | _ => []⟩
@[simp] theorem v171_c : v171.body = v171_body := rfl
@[simp] theorem v171_r : v171.results = [.t 2, .t 3] := rfl
@[simp] theorem v171_o : v171.own = true := rfl
@[simp] theorem v171_t1 : v171.tail 1 = [] := rfl
@[simp] theorem v171_t2 : v171.tail 2 = [4] := rfl
@[simp] theorem v171_t3 : v171.tail 3 = [4] := rfl
@[simp] theorem v171_t4 : v171.tail 4 = [4] := rfl
@[simp] theorem v171_t5 : v171.tail 5 = [] := rfl
@[simp] theorem v171_t6 : v171.tail 6 = [4] := rfl
@[simp] theorem v171_t7 : v171.tail 7 = [] := rfl
@[simp] theorem v171_t8 : v171.tail 8 = [] := rfl
@[simp] theorem v171_t9 : v171.tail 9 = [] := rfl
@[simp] theorem v171_t10 : v171.tail 10 = [] := rfl
@[simp] theorem v171_t11 : v171.tail 11 = [] := rfl
@[simp] theorem v171_t12 : v171.tail 12 = [] := rfl
@[simp] theorem v171_t0 : v171.tail 0 = [] := rfl
def v172_0 : List COper := [
 cS 4 (.mov (.c .nilp)) 0]
def v172_1 : List COper := [
 cM 5 1 0]
def v172_2 : List COper := [
 cS 7 (.bin .eql .int (.t 5) (.c (.int .u8 (110)))) 0,
 cM 6 7 1]
def v172_3 : List COper := [
 cM 8 0 0,
 cN 9 8 1,
 cF 10 1 9 3,
 cM 4 10 7]
def v172_4 : List COper := [
 cS 12 (.bin .eql .int (.t 5) (.c (.int .u8 (107)))) 0,
 cM 11 12 1]
def v172_5 : List COper := [
 cM 13 0 0,
 cN 14 13 1,
 cF 15 2 14 3,
 cM 4 15 7]
def v172_6 : List COper := [
 cS 17 (.bin .eql .int (.t 5) (.c (.int .u8 (100)))) 0,
 cM 16 17 1]
def v172_7 : List COper := [
 cM 18 0 0,
 cN 19 18 1,
 cF 20 3 19 3,
 cM 4 20 7]
def v172_8 : List COper := [
 cS 22 (.bin .eql .int (.t 5) (.c (.int .u8 (105)))) 0,
 cM 21 22 1]
def v172_9 : List COper := [
 cM 23 0 0,
 cN 24 23 1,
 cF 25 4 24 3,
 cM 4 25 7]
def v172_10 : List COper := [
 cS 4 (.mov (.c .nilp)) 0]
def v172_body : CCode := (.seq (.region v172_0)
 (.seq (.seq (.region v172_1)
 (.block 0 (.seq (.region v172_2)
 (.cond (.t 6) (.seq (.region v172_3)
 .ret) (.seq (.region v172_4)
 (.cond (.t 11) (.seq (.region v172_5)
 .ret) (.seq (.region v172_6)
 (.cond (.t 16) (.seq (.region v172_7)
 .ret) (.seq (.region v172_8)
 (.cond (.t 21) (.seq (.region v172_9)
 .ret) .skip))))))))))
 (.seq (.region v172_10)
 .ret)))
def v172 : VFunc := ⟨26, [.t 4], true, v172_body,
 fun _ => [],
 fun i => match i with | 0 => [] | _ => []⟩
@[simp] theorem v172_c : v172.body = v172_body := rfl
@[simp] theorem v172_r : v172.results = [.t 4] := rfl
@[simp] theorem v172_o : v172.own = true := rfl
@[simp] theorem v172_t0 : v172.tail 0 = [] := rfl
def v227_0 : List COper := [
 cS 4 (.mov (.c (.str []))) 0]
def v227_1 : List COper := [
 cM 9 0 0,
 ⟨some 10, .m (.buildSlice 1 1 [(.int .u8 (0))] [(0, 1, .t 9)]), none, 1⟩,
 cM 5 10 3]
def v227_2 : List COper := [
 cM 11 1 0,
 cS 12 (.len 1 (.t 11)) 1,
 cS 13 (.mov (.c (.int .i64 (0)))) 0]
def v227_3 : List COper := [
 cS 14 (.bin .lss .no (.t 13) (.t 12)) 0]
def v227_4 : List COper := [
 cS 15 (.indexAddr 1 (.t 11) (.t 13)) 0,
 cL 16 15 1,
 cM 7 16 3]
def v227_5 : List COper := [
 cM 17 7 0,
 cS 18 (.len 0 (.t 17)) 1,
 cS 19 (.mov (.c (.int .i64 (0)))) 0]
def v227_6 : List COper := [
 cS 20 (.bin .lss .no (.t 19) (.t 18)) 0]
def v227_7 : List COper := [
 cM 21 19 0,
 cM 8 21 1]
def v227_8 : List COper := [
 cM 22 5 0,
 cM 23 7 0,
 cM 24 8 0,
 cS 25 (.index (.t 23) (.t 24)) 6,
 ⟨some 26, .m (.buildSlice 1 1 [(.int .u8 (0))] [(0, 1, .t 25)]), none, 14⟩,
 ⟨some 27, .h (.append 1 1 false (.t 22) (.t 26)), none, 31⟩,
 cM 5 27 63]
def v227_9 : List COper := [
 cM 28 7 0,
 cM 29 8 0,
 cS 30 (.index (.t 28) (.t 29)) 3,
 cS 31 (.bin .eql .int (.t 30) (.c (.int .u8 (0)))) 7]
def v227_10 : List COper := [
 cM 32 5 0,
 ⟨some 33, .m (.buildSlice 1 1 [(.int .u8 (0))] [(0, 1, (.c (.int .u8 (255))))]), none, 0⟩,
 ⟨some 34, .h (.append 1 1 false (.t 32) (.t 33)), none, 3⟩,
 cM 5 34 7]
def v227_11 : List COper := [
 cS 35 (.bin .add .no (.t 19) (.c (.int .i64 (1)))) 0,
 cM 19 35 1]
def v227_b12 : CCode := (.seq (.region v227_6)
 (.seq (.cond (.t 20) .skip (.exit 2))
 (.seq (.block 3 (.seq (.region v227_7)
 (.seq (.region v227_8)
 (.seq (.region v227_9)
 (.cond (.t 31) (.region v227_10) .skip)))))
 (.region v227_11))))
def v227_13 : List COper := [
 cM 36 5 0,
 ⟨some 37, .m (.buildSlice 1 2 [(.int .u8 (0))] [(0, 1, (.c (.int .u8 (0)))), (1, 1, (.c (.int .u8 (1))))]), none, 0⟩,
 ⟨some 38, .h (.append 1 1 false (.t 36) (.t 37)), none, 3⟩,
 cM 5 38 7]
def v227_14 : List COper := [
 cS 39 (.bin .add .no (.t 13) (.c (.int .i64 (1)))) 0,
 cM 13 39 1]
def v227_b15 : CCode := (.seq (.region v227_3)
 (.seq (.cond (.t 14) .skip (.exit 0))
 (.seq (.block 1 (.seq (.region v227_4)
 (.seq (.seq (.region v227_5)
 (.block 2 (.loop v227_b12)))
 (.region v227_13))))
 (.region v227_14))))
def v227_16 : List COper := [
 cM 40 5 0,
 cS 41 (.toStr (.t 40)) 1,
 cM 4 41 3]
def v227_body : CCode := (.seq (.region v227_0)
 (.seq (.region v227_1)
 (.seq (.seq (.region v227_2)
 (.block 0 (.loop v227_b15)))
 (.seq (.region v227_16)
 .ret))))
def v227 : VFunc := ⟨42, [.t 4], true, v227_body,
 fun i => match i with | 0 => [5, 13, 11, 12] | 2 => [19, 7, 5, 11, 12, 13, 18] | _ => [],
 fun i => match i with | 0 => [5] | 2 => [11, 12, 13, 5] | 3 => [7, 5, 11, 12, 13, 18, 19] | 1 => [5, 11, 12, 13] | _ => []⟩
@[simp] theorem v227_c : v227.body = v227_body := rfl
@[simp] theorem v227_r : v227.results = [.t 4] := rfl
@[simp] theorem v227_o : v227.own = true := rfl
@[simp] theorem v227_h0 : v227.head 0 = [5, 13, 11, 12] := rfl
@[simp] theorem v227_h2 : v227.head 2 = [19, 7, 5, 11, 12, 13, 18] := rfl
@[simp] theorem v227_t0 : v227.tail 0 = [5] := rfl
@[simp] theorem v227_t2 : v227.tail 2 = [11, 12, 13, 5] := rfl
@[simp] theorem v227_t3 : v227.tail 3 = [7, 5, 11, 12, 13, 18, 19] := rfl
@[simp] theorem v227_t1 : v227.tail 1 = [5, 11, 12, 13] := rfl
def v228_0 : List COper := [
 cS 2 (.mov (.c (.str []))) 0]
def v228_1 : List COper := [
 ⟨some 3, .m (.alloc [(.int .u8 (0)), (.int .u8 (0)), (.int .u8 (0)), (.int .u8 (0)), (.int .u8 (0)), (.int .u8 (0)), (.int .u8 (0)), (.int .u8 (0)), (.int .u8 (0)), (.int .u8 (0)), (.int .u8 (0)), (.int .u8 (0)), (.int .u8 (0)), (.int .u8 (0)), (.int .u8 (0)), (.int .u8 (0))]), none, 0⟩]
def v228_2 : List COper := [
 cS 5 (.mov (.c (.int .i64 (0)))) 0]
def v228_3 : List COper := [
 cS 6 (.bin .lss .no (.t 5) (.c (.int .i64 (16)))) 0]
def v228_4 : List COper := [
 cM 7 5 0,
 cM 4 7 1]
def v228_5 : List COper := [
 cM 8 4 0,
 cM 9 0 0,
 cM 10 4 0,
 cS 11 (.bin .mul .no (.c (.int .i64 (4))) (.t 10)) 4,
 cS 12 (.bin .sub .no (.c (.int .i64 (60))) (.t 11)) 12,
 cS 13 (.convInt .u64 (.t 12)) 28,
 cS 14 (.bin .shr .no (.t 9) (.t 13)) 62,
 cS 15 (.bin .and .no (.t 14) (.c (.int .u64 (15)))) 126,
 cS 16 (.index (.c (.str [48, 49, 50, 51, 52, 53, 54, 55, 56, 57, 97, 98, 99, 100, 101, 102])) (.t 15)) 254,
 cS 17 (.indexArr 16 1 (.t 3) (.t 8)) 511,
 cH (.store 1 (.t 17) (.t 16)) 1023]
def v228_6 : List COper := [
 cS 18 (.bin .add .no (.t 5) (.c (.int .i64 (1)))) 0,
 cM 5 18 1]
def v228_b7 : CCode := (.seq (.region v228_3)
 (.seq (.cond (.t 6) .skip (.exit 0))
 (.seq (.block 1 (.seq (.region v228_4)
 (.region v228_5)))
 (.region v228_6))))
def v228_8 : List COper := [
 cS 19 (.sliceArr 16 1 (.t 3) none none) 0,
 cS 20 (.toStr (.t 19)) 1,
 cM 2 20 3]
def v228_body : CCode := (.seq (.region v228_0)
 (.seq (.region v228_1)
 (.seq (.seq (.region v228_2)
 (.block 0 (.loop v228_b7)))
 (.seq (.region v228_8)
 .ret))))
def v228 : VFunc := ⟨21, [.t 2], true, v228_body,
 fun i => match i with | 0 => [5, 3, 0] | _ => [],
 fun i => match i with | 0 => [3] | 1 => [3, 0, 5] | _ => []⟩
@[simp] theorem v228_c : v228.body = v228_body := rfl
@[simp] theorem v228_r : v228.results = [.t 2] := rfl
@[simp] theorem v228_o : v228.own = true := rfl
@[simp] theorem v228_h0 : v228.head 0 = [5, 3, 0] := rfl
@[simp] theorem v228_t0 : v228.tail 0 = [3] := rfl
@[simp] theorem v228_t1 : v228.tail 1 = [3, 0, 5] := rfl
def vTab : Nat → Option VFunc
 | 3 => some v3
 | 4 => some v4
 | 11 => some v11
 | 12 => some v12
 | 14 => some v14
 | 16 => some v16
 | 19 => some v19
 | 20 => some v20
 | 22 => some v22
 | 23 => some v23
 | 24 => some v24
 | 25 => some v25
 | 26 => some v26
 | 27 => some v27
 | 28 => some v28
 | 29 => some v29
 | 30 => some v30
 | 31 => some v31
 | 33 => some v33
 | 40 => some v40
 | 41 => some v41
 | 42 => some v42
 | 43 => some v43
 | 44 => some v44
 | 45 => some v45
 | 46 => some v46
 | 47 => some v47
 | 49 => some v49
 | 50 => some v50
 | 51 => some v51
 | 52 => some v52
 | 53 => some v53
 | 54 => some v54
 | 55 => some v55
 | 56 => some v56
 | 57 => some v57
 | 58 => some v58
 | 59 => some v59
 | 60 => some v60
 | 61 => some v61
 | 62 => some v62
 | 101 => some v101
 | 102 => some v102
 | 103 => some v103
 | 104 => some v104
 | 165 => some v165
 | 64 => some v64
 | 98 => some v98
 | 99 => some v99
 | 105 => some v105
 | 106 => some v106
 | 107 => some v107
 | 166 => some v166
 | 167 => some v167
 | 168 => some v168
 | 171 => some v171
 | 172 => some v172
 | 227 => some v227
 | 228 => some v228
 | _ => none
end Go.RE
