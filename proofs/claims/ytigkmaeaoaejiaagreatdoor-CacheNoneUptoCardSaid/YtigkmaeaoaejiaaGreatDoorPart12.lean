/- The code of the functions, as the second evaluator has it. Printed by wip/x/Vrint.lean.txt. -/
import Derived.Test.YtigkmaeaoaejiaaGreatDoorPart11
import Derived.KernelRfl
set_option linter.unusedVariables false
set_option linter.unusedSimpArgs false
namespace Go.RE
@[simp] def cS (d : Nat) (o : SOp) (p : Nat) : COper := ⟨some d, .s o, none, p⟩
@[simp] def cG (d : Nat) (o : SOp) (g : Nat) (b : Bool) (p : Nat) : COper := ⟨some d, .s o, some (g, b), p⟩
@[simp] def cM (d a p : Nat) : COper := ⟨some d, .s (.mov (.t a)), none, p⟩
@[simp] def cMG (d a g : Nat) (b : Bool) (p : Nat) : COper := ⟨some d, .s (.mov (.t a)), some (g, b), p⟩
@[simp] def cL (d a p : Nat) : COper := ⟨some d, .s (.load none (.t a)), none, p⟩
@[simp] def cF (d k a p : Nat) : COper := ⟨some d, .s (.fieldAddr k (.t a)), none, p⟩
@[simp] def cN (d a p : Nat) : COper := ⟨some d, .s (.nilCheck (.t a)), none, p⟩
@[simp] def cE (d k a p : Nat) : COper := ⟨some d, .s (.extract k (.t a)), none, p⟩
@[simp] def cC (d f : Nat) (a : List Opd) (p : Nat) : COper := ⟨some d, .call (.c (.func f [] [])) a, none, p⟩
@[simp] def cCG (d f : Nat) (a : List Opd) (g : Nat) (b : Bool) (p : Nat) : COper := ⟨some d, .call (.c (.func f [] [])) a, some (g, b), p⟩
@[simp] def cP (d a b p : Nat) : COper := ⟨some d, .s (.pick (.t a) (.c (.bool true)) (.t b)), none, p⟩
@[simp] def cQ (d a b p : Nat) : COper := ⟨some d, .s (.pick (.t a) (.t b) (.c (.bool false))), none, p⟩
@[simp] def cH (o : HOp) (p : Nat) : COper := ⟨none, .h o, none, p⟩
def v3_0 : List COper := [
 cS 8 (.mov (.c (.bool false))) 0]
def v3_1 : List COper := [
 cC 21 11 [] 0,
 cS 22 (.un .not (.t 21)) 1,
 cM 23 22 3,
 cMG 24 0 23 false 7,
 cCG 25 12 [.t 24] 23 false 15,
 cG 26 (.un .not (.t 25)) 23 false 31,
 cP 27 23 26 63,
 cM 28 27 127,
 cMG 29 1 28 false 255,
 cG 30 (.len 1 (.t 29)) 28 false 511,
 cG 31 (.bin .gtr .no (.t 30) (.c (.int .i64 (40)))) 28 false 1023,
 cP 32 28 31 2047,
 cM 33 32 4095,
 cMG 34 2 33 false 8191,
 cG 35 (.len 0 (.t 34)) 33 false 16383,
 cG 36 (.bin .gtr .no (.t 35) (.c (.int .i64 (300)))) 33 false 32767,
 cP 37 33 36 65535,
 cM 38 37 131071,
 cMG 39 3 38 false 262143,
 cG 40 (.len 0 (.t 39)) 38 false 524287,
 cG 41 (.bin .gtr .no (.t 40) (.c (.int .i64 (300)))) 38 false 1048575,
 cP 42 38 41 2097151]
def v3_2 : List COper := [
 cC 43 11 [] 0,
 cM 8 43 1]
def v3_3 : List COper := [
 cM 44 0 0,
 cC 45 13 [.t 44] 1,
 cM 9 45 3]
def v3_4 : List COper := [
 cM 46 9 0,
 cS 47 (.bin .eql .nilp (.t 46) (.c .nilp)) 1,
 cM 48 47 3,
 cMG 49 9 48 false 7,
 cCG 50 15 [.t 49] 48 false 15,
 cMG 51 0 48 false 7,
 cCG 52 16 [.t 51] 48 false 63,
 cCG 53 14 [.t 50, .t 52] 48 false 127,
 cG 54 (.un .not (.t 53)) 48 false 255,
 cP 55 48 54 511]
def v3_5 : List COper := [
 cS 8 (.mov (.c (.bool false))) 0]
def v3_6 : List COper := [
 cM 56 9 0,
 cM 57 1 0,
 cC 58 17 [.t 56, .t 57] 3]
def v3_7 : List COper := [
 cM 59 0 0,
 cC 60 16 [.t 59] 1,
 cM 61 1 0,
 cC 62 18 [.t 60, .t 61] 7,
 cS 63 (.build [(.bool false), (.cslice [] 0 0 2), (.cslice [] 3 0 2), (.cslice [] 3 0 2)] [(0, 1, (.c (.bool true))), (1, 1, .t 62)]) 15,
 ⟨some 64, .m (.box (.t 63)), none, 31⟩,
 cM 10 64 63]
def v3_8 : List COper := [
 cM 66 9 0,
 cM 67 2 0,
 cC 68 19 [.t 66, .t 67] 3,
 cM 65 68 7,
 cE 69 0 65 15,
 cE 70 1 65 15,
 cE 71 2 65 15,
 cM 11 69 31,
 cM 12 70 191,
 cM 13 71 511]
def v3_9 : List COper := [
 cM 73 10 0,
 cM 74 2 0,
 cC 75 20 [.t 73, .t 74] 3,
 cM 72 75 7,
 cE 76 0 72 15,
 cE 77 1 72 15,
 cE 78 2 72 15,
 ⟨some 16, .m (.alloc [(.bool false), (.cslice [] 0 0 1), (.int .i64 (0)), (.bool false), (.str []), (.str [])]), none, 0⟩,
 cM 14 76 159,
 cM 15 77 447,
 cH (.store 6 (.t 16) (.t 78)) 1023]
def v3_10 : List COper := [
 cM 80 9 0,
 cM 81 2 0,
 cM 82 3 0,
 cC 83 21 [.t 80, .t 81, .t 82] 7,
 cM 79 83 15,
 cE 84 0 79 31,
 cE 85 1 79 31,
 cM 17 84 63,
 cM 18 85 255]
def v3_11 : List COper := [
 cM 87 10 0,
 cM 88 2 0,
 cM 89 3 0,
 cC 90 22 [.t 87, .t 88, .t 89] 7,
 cM 86 90 15,
 cE 91 0 86 31,
 cE 92 1 86 31,
 ⟨some 20, .m (.alloc [(.bool false), (.cslice [] 0 0 1), (.int .i64 (0)), (.bool false), (.str []), (.str [])]), none, 0⟩,
 cM 19 91 191,
 cH (.store 6 (.t 20) (.t 92)) 511]
def v3_12 : List COper := [
 cM 93 13 0,
 cS 94 (.bin .eql (.iface false) (.t 93) (.c .nili)) 1,
 cM 95 94 3,
 cMG 96 18 95 true 7,
 cG 97 (.bin .eql (.iface false) (.t 96) (.c .nili)) 95 true 15,
 cQ 98 95 97 31,
 cM 99 98 63,
 cMG 100 11 99 true 127,
 cMG 101 14 99 true 127,
 cCG 102 23 [.t 100, .t 101] 99 true 511,
 cQ 103 99 102 1023,
 cM 104 103 2047,
 cMG 105 12 104 true 4095,
 cMG 106 15 104 true 4095,
 cG 107 (.bin .eql .bool (.t 105) (.t 106)) 104 true 16383,
 cQ 108 104 107 32767,
 cM 109 108 65535,
 cMG 110 17 109 true 131071,
 cMG 111 19 109 true 131071,
 cCG 112 14 [.t 110, .t 111] 109 true 524287,
 cQ 113 109 112 1048575,
 cM 114 113 2097151,
 cMG 115 9 114 true 4194303,
 cCG 116 15 [.t 115] 114 true 8388607,
 cMG 117 10 114 true 4194303,
 cG 118 (.nilCheck (.t 117)) 114 true 20971519,
 cG 119 (.fieldAddr 1 (.t 118)) 114 true 54525951,
 cG 120 (.load none (.t 119)) 114 true 121634815,
 cCG 121 14 [.t 116, .t 120] 114 true 268435455,
 cQ 122 114 121 536870911,
 cM 8 122 1073741823]
def v3_body : CCode := (.seq (.region v3_0)
 (.seq (.seq (.region v3_1)
 (.cond (.t 42) (.seq (.region v3_2)
 .ret) .skip))
 (.seq (.region v3_3)
 (.seq (.seq (.region v3_4)
 (.cond (.t 55) (.seq (.region v3_5)
 .ret) .skip))
 (.seq (.region v3_6)
 (.seq (.region v3_7)
 (.seq (.region v3_8)
 (.seq (.region v3_9)
 (.seq (.region v3_10)
 (.seq (.region v3_11)
 (.seq (.draw v3_12)
 .ret)))))))))))
def v3 : VFunc := ⟨123, [.t 8], true, v3_body,
 fun _ => [],
 fun _ => []⟩
@[simp] theorem v3_c : v3.body = v3_body := rfl
@[simp] theorem v3_r : v3.results = [.t 8] := rfl
@[simp] theorem v3_o : v3.own = true := rfl
def v4_0 : List COper := [
 cS 6 (.mov (.c (.bool false))) 0]
def v4_1 : List COper := [
 cC 21 11 [] 0,
 cS 22 (.un .not (.t 21)) 1,
 cM 23 22 3,
 cMG 24 0 23 false 7,
 cCG 25 24 [.t 24] 23 false 15,
 cG 26 (.un .not (.t 25)) 23 false 31,
 cP 27 23 26 63,
 cM 28 27 127,
 cMG 29 1 28 false 255,
 cG 30 (.len 0 (.t 29)) 28 false 511,
 cG 31 (.bin .gtr .no (.t 30) (.c (.int .i64 (300)))) 28 false 1023,
 cP 32 28 31 2047,
 cM 33 32 4095,
 cMG 34 2 33 false 8191,
 cG 35 (.len 0 (.t 34)) 33 false 16383,
 cG 36 (.bin .gtr .no (.t 35) (.c (.int .i64 (300)))) 33 false 32767,
 cP 37 33 36 65535]
def v4_2 : List COper := [
 cC 38 11 [] 0,
 cM 6 38 1]
def v4_3 : List COper := [
 cC 39 25 [] 0,
 cS 40 (.build [(.bool false), (.cslice [] 0 0 2), (.cslice [] 3 0 2), (.cslice [] 3 0 2)] []) 0,
 ⟨some 41, .m (.box (.t 40)), none, 2⟩,
 cM 7 39 1,
 cM 8 41 15]
def v4_4 : List COper := [
 cM 42 7 0,
 cS 43 (.bin .eql .nilp (.t 42) (.c .nilp)) 1]
def v4_5 : List COper := [
 cS 6 (.mov (.c (.bool false))) 0]
def v4_6 : List COper := [
 cM 44 0 0,
 cS 45 (.len 1 (.t 44)) 1,
 cS 46 (.mov (.c (.int .i64 (0)))) 0]
def v4_7 : List COper := [
 cS 47 (.bin .lss .no (.t 46) (.t 45)) 0]
def v4_8 : List COper := [
 cS 48 (.indexAddr 3 (.t 44) (.t 46)) 0,
 cS 49 (.load (some 3) (.t 48)) 1,
 ⟨some 10, .m (.alloc [(.str []), (.str []), (.cslice [] 0 0 2)]), none, 0⟩,
 cH (.store 3 (.t 10) (.t 49)) 7]
def v4_9 : List COper := [
 cM 50 7 0,
 cF 51 0 10 0,
 cS 52 (.load (some 2) (.t 51)) 2,
 cF 53 2 10 0,
 cL 54 53 8,
 cC 55 26 [.t 50, .t 52, .t 54] 31]
def v4_10 : List COper := [
 cM 56 8 0,
 cF 57 0 10 0,
 cS 58 (.load (some 2) (.t 57)) 2,
 cF 59 2 10 0,
 cL 60 59 8,
 cC 61 27 [.t 56, .t 58, .t 60] 31]
def v4_11 : List COper := [
 cS 62 (.bin .add .no (.t 46) (.c (.int .i64 (1)))) 0,
 cM 46 62 1]
def v4_b12 : CCode := (.seq (.region v4_7)
 (.seq (.cond (.t 47) .skip (.exit 0))
 (.seq (.block 1 (.seq (.region v4_8)
 (.seq (.region v4_9)
 (.region v4_10))))
 (.region v4_11))))
def v4_13 : List COper := [
 cM 64 7 0,
 cM 65 1 0,
 cC 66 28 [.t 64, .t 65] 3,
 cM 63 66 7,
 cE 67 0 63 15,
 cE 68 1 63 15,
 cE 69 2 63 15,
 cM 11 67 31,
 cM 12 68 191,
 cM 13 69 511]
def v4_14 : List COper := [
 cM 71 8 0,
 cM 72 1 0,
 cC 73 20 [.t 71, .t 72] 3,
 cM 70 73 7,
 cE 74 0 70 15,
 cE 75 1 70 15,
 cE 76 2 70 15,
 ⟨some 16, .m (.alloc [(.bool false), (.cslice [] 0 0 1), (.int .i64 (0)), (.bool false), (.str []), (.str [])]), none, 0⟩,
 cM 14 74 159,
 cM 15 75 447,
 cH (.store 6 (.t 16) (.t 76)) 1023]
def v4_15 : List COper := [
 cM 78 7 0,
 cM 79 1 0,
 cM 80 2 0,
 cC 81 29 [.t 78, .t 79, .t 80] 7,
 cM 77 81 15,
 cE 82 0 77 31,
 cE 83 1 77 31,
 cM 17 82 63,
 cM 18 83 255]
def v4_16 : List COper := [
 cM 85 8 0,
 cM 86 1 0,
 cM 87 2 0,
 cC 88 22 [.t 85, .t 86, .t 87] 7,
 cM 84 88 15,
 cE 89 0 84 31,
 cE 90 1 84 31,
 ⟨some 20, .m (.alloc [(.bool false), (.cslice [] 0 0 1), (.int .i64 (0)), (.bool false), (.str []), (.str [])]), none, 0⟩,
 cM 19 89 191,
 cH (.store 6 (.t 20) (.t 90)) 511]
def v4_17 : List COper := [
 cM 91 11 0,
 cM 92 14 0,
 cC 93 23 [.t 91, .t 92] 3,
 cM 94 93 7,
 cMG 95 12 94 true 15,
 cMG 96 15 94 true 15,
 cG 97 (.bin .eql .bool (.t 95) (.t 96)) 94 true 63,
 cQ 98 94 97 127,
 cM 99 98 255,
 cMG 100 13 99 true 511,
 cCG 101 31 [.t 100] 99 true 1023,
 cG 102 (.load (some 6) (.t 16)) 99 true 511,
 cCG 103 30 [.t 101, .t 102] 99 true 4095,
 cQ 104 99 103 8191,
 cM 105 104 16383,
 cMG 106 17 105 true 32767,
 cMG 107 19 105 true 32767,
 cCG 108 14 [.t 106, .t 107] 105 true 131071,
 cQ 109 105 108 262143,
 cM 110 109 524287,
 cMG 111 18 110 true 1048575,
 cCG 112 31 [.t 111] 110 true 2097151,
 cG 113 (.load (some 6) (.t 20)) 110 true 1048575,
 cCG 114 30 [.t 112, .t 113] 110 true 8388607,
 cQ 115 110 114 16777215,
 cM 6 115 33554431]
def v4_body : CCode := (.seq (.region v4_0)
 (.seq (.seq (.region v4_1)
 (.cond (.t 37) (.seq (.region v4_2)
 .ret) .skip))
 (.seq (.region v4_3)
 (.seq (.seq (.region v4_4)
 (.cond (.t 43) (.seq (.region v4_5)
 .ret) .skip))
 (.seq (.seq (.region v4_6)
 (.block 0 (.loop v4_b12)))
 (.seq (.region v4_13)
 (.seq (.region v4_14)
 (.seq (.region v4_15)
 (.seq (.region v4_16)
 (.seq (.draw v4_17)
 .ret))))))))))
def v4 : VFunc := ⟨116, [.t 6], true, v4_body,
 fun i => match i with | 0 => [46, 8, 7, 44, 2, 1, 45] | _ => [],
 fun i => match i with | 0 => [2, 1, 8, 7] | 1 => [8, 7, 44, 2, 1, 45, 46] | _ => []⟩
@[simp] theorem v4_c : v4.body = v4_body := rfl
@[simp] theorem v4_r : v4.results = [.t 6] := rfl
@[simp] theorem v4_o : v4.own = true := rfl
@[simp] theorem v4_h0 : v4.head 0 = [46, 8, 7, 44, 2, 1, 45] := rfl
@[simp] theorem v4_t0 : v4.tail 0 = [2, 1, 8, 7] := rfl
@[simp] theorem v4_t1 : v4.tail 1 = [8, 7, 44, 2, 1, 45, 46] := rfl
def v11_0 : List COper := [
 cS 0 (.mov (.c (.bool false))) 0]
def v11_1 : List COper := [
 cC 8 25 [] 0,
 cS 9 (.mkIface 58 (.t 8)) 1,
 cC 10 33 [.t 9] 3,
 cM 1 10 7]
def v11_2 : List COper := [
 cM 11 1 0,
 cS 12 (.bin .eql .nilp (.t 11) (.c .nilp)) 1]
def v11_3 : List COper := [
 cS 0 (.mov (.c (.bool false))) 0]
def v11_4 : List COper := [
 cM 14 1 0,
 ⟨some 15, .call (.c (.func 42 [] [])) [.t 14, (.c (.str [97]))], none, 1⟩,
 cM 13 15 3,
 cE 16 0 13 7,
 cE 17 1 13 7,
 cE 18 2 13 7,
 ⟨some 2, .m (.alloc [(.str []), (.int .u64 (0)), (.int .i64 (0)), (.str []), (.int .u64 (0))]), none, 0⟩,
 cH (.store 5 (.t 2) (.t 16)) 79,
 cM 3 17 223,
 cM 4 18 511]
def v11_5 : List COper := [
 cM 20 4 0,
 cC 21 41 [.t 20] 1,
 cM 19 21 3,
 cE 22 0 19 7,
 cE 23 1 19 7,
 ⟨some 5, .m (.alloc [(.str []), (.str [])]), none, 0⟩,
 cH (.store 2 (.t 5) (.t 22)) 47,
 cM 6 23 127]
def v11_6 : List COper := [
 cM 24 4 0,
 cC 25 43 [.t 24] 1,
 cM 7 25 3]
def v11_7 : List COper := [
 cM 26 6 0,
 cM 27 26 1,
 cG 28 (.load (some 2) (.t 5)) 27 true 3,
 cG 29 (.build [(.str []), (.str [])] [(0, 1, (.c (.str [105, 97, 0, 1]))), (1, 1, (.c (.str [105, 97, 0, 1])))]) 27 true 3,
 cG 30 (.bin .eql (.flat [(0, .str), (1, .str)]) (.t 28) (.t 29)) 27 true 15,
 cQ 31 27 30 31,
 cM 32 31 63,
 cMG 33 7 32 true 127,
 cG 34 (.len 1 (.t 33)) 32 true 255,
 cG 35 (.bin .eql .int (.t 34) (.c (.int .i64 (1)))) 32 true 511,
 cQ 36 32 35 1023,
 cM 37 36 2047,
 cMG 38 7 37 true 4095,
 cG 39 (.indexAddr 1 (.t 38) (.c (.int .i64 (0)))) 37 true 8191,
 cG 40 (.load none (.t 39)) 37 true 16383,
 cG 41 (.bin .eql .str (.t 40) (.c (.str [105]))) 37 true 32767,
 cQ 42 37 41 65535,
 cM 0 42 131071]
def v11_body : CCode := (.seq (.region v11_0)
 (.seq (.region v11_1)
 (.seq (.seq (.region v11_2)
 (.cond (.t 12) (.seq (.region v11_3)
 .ret) .skip))
 (.seq (.region v11_4)
 (.seq (.region v11_5)
 (.seq (.region v11_6)
 (.seq (.region v11_7)
 .ret)))))))
def v11 : VFunc := ⟨43, [.t 0], true, v11_body,
 fun _ => [],
 fun _ => []⟩
@[simp] theorem v11_c : v11.body = v11_body := rfl
@[simp] theorem v11_r : v11.results = [.t 0] := rfl
@[simp] theorem v11_o : v11.own = true := rfl
def v12_0 : List COper := [
 cS 2 (.mov (.c (.bool false))) 0]
def v12_1 : List COper := [
 cM 5 0 0,
 cS 6 (.len 1 (.t 5)) 1,
 cS 7 (.mov (.c (.int .i64 (0)))) 0]
def v12_2 : List COper := [
 cS 8 (.bin .lss .no (.t 7) (.t 6)) 0]
def v12_3 : List COper := [
 cS 9 (.indexAddr 2 (.t 5) (.t 7)) 0,
 cS 10 (.load (some 2) (.t 9)) 1,
 ⟨some 4, .m (.alloc [(.str []), (.cslice [] 0 0 1)]), none, 0⟩,
 cH (.store 2 (.t 4) (.t 10)) 7]
def v12_4 : List COper := [
 cF 11 0 4 0,
 cL 12 11 1,
 cS 13 (.len 0 (.t 12)) 3,
 cS 14 (.bin .gtr .no (.t 13) (.c (.int .i64 (300)))) 7,
 cM 15 14 15,
 cG 16 (.fieldAddr 1 (.t 4)) 15 false 31,
 cG 17 (.load none (.t 16)) 15 false 63,
 cG 18 (.len 1 (.t 17)) 15 false 127,
 cG 19 (.bin .gtr .no (.t 18) (.c (.int .i64 (300)))) 15 false 255,
 cP 20 15 19 511]
def v12_5 : List COper := [
 cS 2 (.mov (.c (.bool false))) 0]
def v12_6 : List COper := [
 cS 21 (.bin .add .no (.t 7) (.c (.int .i64 (1)))) 0,
 cM 7 21 1]
def v12_b7 : CCode := (.seq (.region v12_2)
 (.seq (.cond (.t 8) .skip (.exit 0))
 (.seq (.block 1 (.seq (.region v12_3)
 (.seq (.region v12_4)
 (.cond (.t 20) (.seq (.region v12_5)
 .ret) .skip))))
 (.region v12_6))))
def v12_8 : List COper := [
 cM 22 0 0,
 cS 23 (.len 1 (.t 22)) 1,
 cS 24 (.bin .leq .no (.t 23) (.c (.int .i64 (100)))) 3,
 cM 2 24 7]
def v12_body : CCode := (.seq (.region v12_0)
 (.seq (.seq (.region v12_1)
 (.block 0 (.loop v12_b7)))
 (.seq (.region v12_8)
 .ret)))
def v12 : VFunc := ⟨25, [.t 2], true, v12_body,
 fun i => match i with | 0 => [7, 5, 0, 6] | _ => [],
 fun i => match i with | 0 => [0] | 1 => [5, 0, 6, 7] | _ => []⟩
@[simp] theorem v12_c : v12.body = v12_body := rfl
@[simp] theorem v12_r : v12.results = [.t 2] := rfl
@[simp] theorem v12_o : v12.own = true := rfl
@[simp] theorem v12_h0 : v12.head 0 = [7, 5, 0, 6] := rfl
@[simp] theorem v12_t0 : v12.tail 0 = [0] := rfl
@[simp] theorem v12_t1 : v12.tail 1 = [5, 0, 6, 7] := rfl
def v15_0 : List COper := [
 cS 2 (.mov (.c (.cslice [] 1 0 2))) 0]
def v15_1 : List COper := [
 cM 3 0 0,
 cS 4 (.build [(.str []), (.str [])] []) 0,
 cC 5 46 [.t 3, .t 4] 3,
 cM 2 5 7]
def v15_body : CCode := (.seq (.region v15_0)
 (.seq (.region v15_1)
 .ret))
def v15 : VFunc := ⟨6, [.t 2], true, v15_body,
 fun _ => [],
 fun _ => []⟩
@[simp] theorem v15_c : v15.body = v15_body := rfl
@[simp] theorem v15_r : v15.results = [.t 2] := rfl
@[simp] theorem v15_o : v15.own = true := rfl
def v17_0 : List COper := [
 cM 6 0 0,
 cS 7 (.bin .eql .nilp (.t 6) (.c .nilp)) 1,
 cM 8 7 3,
 cMG 9 0 8 false 7,
 cG 10 (.nilCheck (.t 9)) 8 false 15,
 cG 11 (.fieldAddr 0 (.t 10)) 8 false 31,
 cG 12 (.load none (.t 11)) 8 false 63,
 cG 13 (.bin .eql .nilm (.t 12) (.c .nilm)) 8 false 127,
 cP 14 8 13 255]
def v17_1 : List COper := [
 cM 15 1 0,
 cS 16 (.len 1 (.t 15)) 1,
 cS 17 (.mov (.c (.int .i64 (0)))) 0]
def v17_2 : List COper := [
 cS 18 (.bin .lss .no (.t 17) (.t 16)) 0]
def v17_3 : List COper := [
 cS 19 (.indexAddr 3 (.t 15) (.t 17)) 0,
 cS 20 (.load (some 3) (.t 19)) 1,
 ⟨some 5, .m (.alloc [(.str []), (.bool false), (.cslice [] 0 0 1)]), none, 0⟩,
 cH (.store 3 (.t 5) (.t 20)) 7]
def v17_4 : List COper := [
 cM 21 0 0,
 cF 22 0 5 0,
 cL 23 22 2,
 cF 24 1 5 0,
 cL 25 24 8,
 cF 26 2 5 0,
 cL 27 26 32,
 cC 28 49 [.t 27] 96,
 cS 29 (.build [(.bool false), (.cslice [] 0 0 1)] [(0, 1, .t 25), (1, 1, .t 28)]) 248,
 cC 30 48 [.t 21, .t 23, .t 29] 511]
def v17_5 : List COper := [
 cS 31 (.bin .add .no (.t 17) (.c (.int .i64 (1)))) 0,
 cM 17 31 1]
def v17_b6 : CCode := (.seq (.region v17_2)
 (.seq (.cond (.t 18) .skip (.exit 0))
 (.seq (.block 1 (.seq (.region v17_3)
 (.draw v17_4)))
 (.region v17_5))))
def v17_body : CCode := (.seq (.seq (.region v17_0)
 (.cond (.t 14) .ret .skip))
 (.seq (.region v17_1)
 (.block 0 (.loop v17_b6))))
def v17 : VFunc := ⟨32, [], true, v17_body,
 fun i => match i with | 0 => [17, 0, 15, 16] | _ => [],
 fun i => match i with | 0 => [] | 1 => [0, 15, 16, 17] | _ => []⟩
@[simp] theorem v17_c : v17.body = v17_body := rfl
@[simp] theorem v17_r : v17.results = [] := rfl
@[simp] theorem v17_o : v17.own = true := rfl
@[simp] theorem v17_h0 : v17.head 0 = [17, 0, 15, 16] := rfl
@[simp] theorem v17_t0 : v17.tail 0 = [] := rfl
@[simp] theorem v17_t1 : v17.tail 1 = [0, 15, 16, 17] := rfl
def v19_0 : List COper := [
 cS 4 (.mov (.c (.cslice [] 1 0 1))) 0,
 cS 5 (.mov (.c (.bool false))) 1,
 cS 6 (.mov (.c .nili)) 3]
def v19_1 : List COper := [
 cM 9 0 0,
 cS 10 (.bin .eql .nilp (.t 9) (.c .nilp)) 1]
def v19_2 : List COper := [
 cS 4 (.mov (.c (.cslice [] 1 0 1))) 0,
 cS 5 (.mov (.c (.bool false))) 1,
 cS 6 (.mov (.c .nili)) 3]
def v19_3 : List COper := [
 cM 12 0 0,
 cN 13 12 1,
 cF 14 0 13 3,
 cL 15 14 7,
 cM 16 1 0,
 cS 17 (.lookup .str (.cslice [] 0 0 1) true (.t 15) (.t 16)) 31,
 cM 11 17 63,
 cE 18 0 11 127,
 cE 19 1 11 127,
 cM 7 18 255,
 cM 8 19 1023]
def v19_4 : List COper := [
 cM 20 7 0,
 cC 21 49 [.t 20] 1,
 cM 22 8 0,
 cM 4 21 3,
 cM 5 22 15,
 cS 6 (.mov (.c .nili)) 31]
def v19_body : CCode := (.seq (.region v19_0)
 (.seq (.seq (.region v19_1)
 (.cond (.t 10) (.seq (.region v19_2)
 .ret) .skip))
 (.seq (.region v19_3)
 (.seq (.region v19_4)
 .ret))))
def v19 : VFunc := ⟨23, [.t 4, .t 5, .t 6], true, v19_body,
 fun _ => [],
 fun _ => []⟩
@[simp] theorem v19_c : v19.body = v19_body := rfl
@[simp] theorem v19_r : v19.results = [.t 4, .t 5, .t 6] := rfl
@[simp] theorem v19_o : v19.own = true := rfl
def v21_0 : List COper := [
 cS 6 (.mov (.c (.cslice [] 1 0 2))) 0,
 cS 7 (.mov (.c .nili)) 1]
def v21_1 : List COper := [
 cM 8 0 0,
 cM 9 1 0,
 cM 10 2 0,
 cS 11 (.build [(.str []), (.str [])] [(0, 1, .t 9), (1, 1, .t 10)]) 6,
 cC 12 46 [.t 8, .t 11] 15,
 cM 6 12 31,
 cS 7 (.mov (.c .nili)) 63]
def v21_body : CCode := (.seq (.region v21_0)
 (.seq (.region v21_1)
 .ret))
def v21 : VFunc := ⟨13, [.t 6, .t 7], true, v21_body,
 fun _ => [],
 fun _ => []⟩
@[simp] theorem v21_c : v21.body = v21_body := rfl
@[simp] theorem v21_r : v21.results = [.t 6, .t 7] := rfl
@[simp] theorem v21_o : v21.own = true := rfl
def v25_0 : List COper := [
 cS 0 (.mov (.c .nilp)) 0]
def v25_1 : List COper := [
 ⟨some 1, .call (.c (.func 44 [] [])) [(.c (.cslice [] 0 0 2))], none, 0⟩,
 ⟨some 2, .m (.makeMap), none, 0⟩,
 cS 3 (.build [.nilp, .nilm, (.cslice [] 3 0 2)] [(0, 1, .t 1), (1, 1, .t 2)]) 3,
 ⟨some 4, .m (.box (.t 3)), none, 7⟩,
 cM 0 4 15]
def v25_body : CCode := (.seq (.region v25_0)
 (.seq (.region v25_1)
 .ret))
def v25 : VFunc := ⟨5, [.t 0], true, v25_body,
 fun _ => [],
 fun _ => []⟩
@[simp] theorem v25_c : v25.body = v25_body := rfl
@[simp] theorem v25_r : v25.results = [.t 0] := rfl
@[simp] theorem v25_o : v25.own = true := rfl
def v26_0 : List COper := [
 ⟨some 4, .m (.box (.t 1)), none, 0⟩]
def v26_1 : List COper := [
 cM 11 0 0,
 cS 12 (.bin .eql .nilp (.t 11) (.c .nilp)) 1,
 cM 13 12 3,
 cMG 14 0 13 false 7,
 cG 15 (.nilCheck (.t 14)) 13 false 15,
 cG 16 (.fieldAddr 0 (.t 15)) 13 false 31,
 cG 17 (.load none (.t 16)) 13 false 63,
 cG 18 (.bin .eql .nilp (.t 17) (.c .nilp)) 13 false 127,
 cP 19 13 18 255]
def v26_2 : List COper := [
 cF 20 0 4 0,
 cL 21 20 1,
 cF 22 1 4 0,
 cL 23 22 4,
 cS 24 (.build [(.str []), (.str [])] [(0, 1, .t 21), (1, 1, .t 23)]) 15,
 ⟨some 6, .m (.alloc [(.str []), (.str [])]), none, 0⟩,
 cH (.store 2 (.t 6) (.t 24)) 63]
def v26_3 : List COper := [
 cF 36 0 4 0,
 cL 37 36 1,
 cF 38 1 4 0,
 cL 39 38 4,
 cS 40 (.bin .eql .str (.t 37) (.t 39)) 15,
 cM 35 40 31]
def v26_4 : List COper := [
 cF 41 0 4 0,
 cL 42 41 1,
 cC 43 56 [.t 42] 3,
 cH (.store 2 (.t 6) (.t 43)) 7]
def v26_5 : List COper := [
 cM 44 0 0,
 cN 45 44 1,
 cF 46 1 45 3,
 cL 47 46 7,
 cF 48 0 4 0,
 cL 49 48 16,
 cS 50 (.lookup .str (.int .i64 (0)) false (.t 47) (.t 49)) 63,
 cS 51 (.bin .add .no (.t 50) (.c (.int .i64 (1)))) 127,
 cH (.mapUpdate .str (.t 47) (.t 49) (.t 51)) 255]
def v26_6 : List COper := [
 cS 53 (.load (some 2) (.t 6)) 0,
 cC 54 57 [.t 53] 1,
 cS 55 (.un .not (.t 54)) 3,
 cM 52 55 7]
def v26_7 : List COper := [
 cM 25 0 0,
 cM 26 0 0,
 cN 27 26 2,
 cF 28 2 27 6,
 cL 29 28 14,
 cS 30 (.load (some 2) (.t 6)) 0,
 ⟨some 31, .m (.buildSlice 2 1 [(.str []), (.str [])] [(0, 2, .t 30)]), none, 32⟩,
 ⟨some 32, .h (.append 2 32 false (.t 29) (.t 31)), none, 126⟩,
 cN 33 25 255,
 cF 34 2 33 511,
 cH (.store 1 (.t 34) (.t 32)) 1023]
def v26_8 : List COper := [
 cM 56 0 0,
 cN 57 56 1,
 cF 58 0 57 3,
 cL 59 58 7,
 cS 60 (.load (some 2) (.t 6)) 0,
 cC 61 46 [.t 59, .t 60] 31,
 cS 62 (.len 1 (.t 61)) 63,
 cS 63 (.mov (.c (.int .i64 (0)))) 0]
def v26_9 : List COper := [
 cS 64 (.bin .lss .no (.t 63) (.t 62)) 0]
def v26_10 : List COper := [
 cS 65 (.indexAddr 2 (.t 61) (.t 63)) 0,
 cS 66 (.load (some 2) (.t 65)) 1,
 ⟨some 8, .m (.alloc [(.str []), (.cslice [] 0 0 1)]), none, 0⟩,
 cH (.store 2 (.t 8) (.t 66)) 7]
def v26_11 : List COper := [
 cM 67 0 0,
 cN 68 67 1,
 cF 69 0 68 3,
 cL 70 69 7,
 cN 71 70 15,
 cF 72 0 71 31,
 cL 73 72 63,
 cF 74 0 8 0,
 cL 75 74 128,
 cH (.delete .str (.t 73) (.t 75)) 511]
def v26_12 : List COper := [
 cS 76 (.bin .add .no (.t 63) (.c (.int .i64 (1)))) 0,
 cM 63 76 1]
def v26_b13 : CCode := (.seq (.region v26_9)
 (.seq (.cond (.t 64) .skip (.exit 1))
 (.seq (.block 2 (.seq (.region v26_10)
 (.draw v26_11)))
 (.region v26_12))))
def v26_14 : List COper := [
 cM 77 2 0,
 cS 78 (.len 1 (.t 77)) 1,
 cS 79 (.mov (.c (.int .i64 (0)))) 0]
def v26_15 : List COper := [
 cS 80 (.bin .lss .no (.t 79) (.t 78)) 0]
def v26_16 : List COper := [
 cS 81 (.indexAddr 2 (.t 77) (.t 79)) 0,
 cS 82 (.load (some 2) (.t 81)) 1,
 ⟨some 10, .m (.alloc [(.str []), (.cslice [] 0 0 1)]), none, 0⟩,
 cH (.store 2 (.t 10) (.t 82)) 7]
def v26_17 : List COper := [
 cS 83 (.load (some 2) (.t 6)) 0,
 cF 84 0 10 0,
 cL 85 84 2,
 cC 86 58 [.t 83, .t 85] 7]
def v26_18 : List COper := [
 cM 87 0 0,
 cN 88 87 1,
 cF 89 0 88 3,
 cL 90 89 7,
 cN 91 90 15,
 cF 92 0 91 31,
 cL 93 92 63,
 cF 94 0 10 0,
 cL 95 94 128,
 cF 96 1 10 0,
 cL 97 96 512,
 cC 98 49 [.t 97] 1536,
 cH (.mapUpdate .str (.t 93) (.t 95) (.t 98)) 4095]
def v26_19 : List COper := [
 cS 99 (.bin .add .no (.t 79) (.c (.int .i64 (1)))) 0,
 cM 79 99 1]
def v26_b20 : CCode := (.seq (.region v26_15)
 (.seq (.cond (.t 80) .skip (.exit 3))
 (.seq (.block 4 (.seq (.region v26_16)
 (.seq (.region v26_17)
 (.cond (.t 86) (.draw v26_18) .skip))))
 (.region v26_19))))
def v26_body : CCode := (.seq (.region v26_0)
 (.seq (.seq (.region v26_1)
 (.cond (.t 19) .ret .skip))
 (.seq (.region v26_2)
 (.seq (.block 0 (.seq (.region v26_3)
 (.cond (.t 35) (.seq (.region v26_4)
 (.draw v26_5)) (.seq (.region v26_6)
 (.cond (.t 52) .ret (.draw v26_7))))))
 (.seq (.seq (.draw v26_8)
 (.block 1 (.loop v26_b13)))
 (.seq (.region v26_14)
 (.block 3 (.loop v26_b20))))))))
def v26 : VFunc := ⟨100, [], true, v26_body,
 fun i => match i with | 1 => [63, 0, 61, 6, 2, 62] | 3 => [79, 0, 6, 77, 78] | _ => [],
 fun i => match i with | 0 => [0, 6, 2] | 1 => [0, 6, 2] | 2 => [0, 61, 6, 2, 62, 63] | 3 => [] | 4 => [0, 6, 77, 78, 79] | _ => []⟩
@[simp] theorem v26_c : v26.body = v26_body := rfl
@[simp] theorem v26_r : v26.results = [] := rfl
@[simp] theorem v26_o : v26.own = true := rfl
@[simp] theorem v26_h1 : v26.head 1 = [63, 0, 61, 6, 2, 62] := rfl
@[simp] theorem v26_h3 : v26.head 3 = [79, 0, 6, 77, 78] := rfl
@[simp] theorem v26_t0 : v26.tail 0 = [0, 6, 2] := rfl
@[simp] theorem v26_t1 : v26.tail 1 = [0, 6, 2] := rfl
@[simp] theorem v26_t2 : v26.tail 2 = [0, 61, 6, 2, 62, 63] := rfl
@[simp] theorem v26_t3 : v26.tail 3 = [] := rfl
@[simp] theorem v26_t4 : v26.tail 4 = [0, 6, 77, 78, 79] := rfl
def v28_0 : List COper := [
 cS 4 (.mov (.c (.cslice [] 1 0 1))) 0,
 cS 5 (.mov (.c (.bool false))) 1,
 cS 6 (.mov (.c .nili)) 3]
def v28_1 : List COper := [
 cM 7 0 0,
 cS 8 (.bin .eql .nilp (.t 7) (.c .nilp)) 1,
 cM 9 8 3,
 cMG 10 0 9 false 7,
 cG 11 (.nilCheck (.t 10)) 9 false 15,
 cG 12 (.fieldAddr 1 (.t 11)) 9 false 31,
 cG 13 (.load none (.t 12)) 9 false 63,
 cMG 14 1 9 false 7,
 cG 15 (.lookup .str (.int .i64 (0)) false (.t 13) (.t 14)) 9 false 255,
 cG 16 (.bin .eql .int (.t 15) (.c (.int .i64 (0)))) 9 false 511,
 cMG 17 16 9 false 1023,
 cMG 18 0 17 true 2047,
 cG 19 (.nilCheck (.t 18)) 17 true 4095,
 cG 20 (.fieldAddr 2 (.t 19)) 17 true 8191,
 cG 21 (.load none (.t 20)) 17 true 16383,
 cMG 22 1 17 true 2047,
 cCG 23 59 [.t 21, .t 22] 17 true 65535,
 cG 24 (.un .not (.t 23)) 17 true 131071,
 cG 25 (.pick (.t 17) (.t 24) (.c (.bool false))) 9 false 262143,
 cP 26 9 25 524287]
def v28_2 : List COper := [
 cM 27 1 0,
 cM 28 1 0,
 cC 29 60 [.t 27, .t 28] 3,
 cS 4 (.mov (.c (.cslice [] 1 0 1))) 7,
 cS 5 (.mov (.c (.bool false))) 15,
 cM 6 29 31]
def v28_3 : List COper := [
 cM 30 0 0,
 cN 31 30 1,
 cF 32 0 31 3,
 cL 33 32 7,
 cM 34 1 0,
 cC 35 19 [.t 33, .t 34] 31,
 cE 36 0 35 63,
 cE 37 1 35 63,
 cE 38 2 35 63,
 cM 4 36 511,
 cM 5 37 1023,
 cM 6 38 2047]
def v28_body : CCode := (.seq (.region v28_0)
 (.seq (.seq (.region v28_1)
 (.cond (.t 26) (.seq (.region v28_2)
 .ret) .skip))
 (.seq (.region v28_3)
 .ret)))
def v28 : VFunc := ⟨39, [.t 4, .t 5, .t 6], true, v28_body,
 fun _ => [],
 fun _ => []⟩
@[simp] theorem v28_c : v28.body = v28_body := rfl
@[simp] theorem v28_r : v28.results = [.t 4, .t 5, .t 6] := rfl
@[simp] theorem v28_o : v28.own = true := rfl
def v31_0 : List COper := [
 ⟨some 2, .m (.alloc [(.bool false), (.cslice [] 0 0 1), (.int .i64 (0)), (.bool false), (.str []), (.str [])]), none, 0⟩]
def v31_1 : List COper := [
 cM 5 0 0,
 cS 6 (.bin .eql (.iface false) (.t 5) (.c .nili)) 1]
def v31_2 : List COper := [
 cS 7 (.build [(.bool false), (.cslice [] 0 0 1), (.int .i64 (0)), (.bool false), (.str []), (.str [])] []) 0,
 cH (.store 6 (.t 2) (.t 7)) 1]
def v31_3 : List COper := [
 cM 9 0 0,
 cC 10 41 [.t 9] 1,
 cM 8 10 3,
 cE 11 0 8 7,
 cE 12 1 8 7,
 ⟨some 3, .m (.alloc [(.str []), (.str [])]), none, 0⟩,
 cH (.store 2 (.t 3) (.t 11)) 47,
 cM 4 12 127]
def v31_4 : List COper := [
 cM 13 0 0,
 cC 14 43 [.t 13] 1,
 cM 15 0 0,
 cC 16 62 [.t 15] 7,
 cM 17 4 0,
 cS 18 (.load (some 2) (.t 3)) 0,
 cS 19 (.build [(.bool false), (.cslice [] 0 0 1), (.int .i64 (0)), (.bool false), (.str []), (.str [])] [(0, 1, (.c (.bool true))), (1, 1, .t 14), (2, 1, .t 16), (3, 1, .t 17), (4, 2, .t 18)]) 63,
 cH (.store 6 (.t 2) (.t 19)) 127]
def v31_4s : List Step := [
 .small 0 (cM 13 0 0),
 .small 2 (cM 15 0 0),
 .small 4 (cM 17 4 0),
 .small 5 (cS 18 (.load (some 2) (.t 3)) 0),
 .big 1 (cC 14 43 [.t 13] 1),
 .big 3 (cC 16 62 [.t 15] 7),
 .small 6 (cS 19 (.build [(.bool false), (.cslice [] 0 0 1), (.int .i64 (0)), (.bool false), (.str []), (.str [])] [(0, 1, (.c (.bool true))), (1, 1, .t 14), (2, 1, .t 16), (3, 1, .t 17), (4, 2, .t 18)]) 63),
 .big 7 (cH (.store 6 (.t 2) (.t 19)) 127)]
theorem v31_4h : sched (v31_4.length + 1) (numbered v31_4 0) 0 = some v31_4s := by kernel_rfl
def v31_body : CCode := (.seq (.region v31_0)
 (.seq (.seq (.region v31_1)
 (.cond (.t 6) (.seq (.region v31_2)
 .ret) .skip))
 (.seq (.region v31_3)
 (.seq (.draw v31_4)
 .ret))))
def v31 : VFunc := ⟨20, [.cell 2 (some 6)], true, v31_body,
 fun _ => [],
 fun _ => []⟩
@[simp] theorem v31_c : v31.body = v31_body := rfl
@[simp] theorem v31_r : v31.results = [.cell 2 (some 6)] := rfl
@[simp] theorem v31_o : v31.own = true := rfl
def v33_0 : List COper := [
 cS 2 (.mov (.c .nilp)) 0]
def v33_1 : List COper := [
 cM 3 0 0,
 cS 4 (.bin .eql (.iface false) (.t 3) (.c .nili)) 1]
def v33_2 : List COper := [
 cS 2 (.mov (.c .nilp)) 0]
def v33_3 : List COper := [
 cM 5 0 0,
 ⟨some 6, .m (.makeMap), none, 0⟩,
 cS 7 (.build [.nili, .nilm] [(0, 1, .t 5), (1, 1, .t 6)]) 3,
 ⟨some 8, .m (.box (.t 7)), none, 7⟩,
 cM 2 8 15]
def v33_body : CCode := (.seq (.region v33_0)
 (.seq (.seq (.region v33_1)
 (.cond (.t 4) (.seq (.region v33_2)
 .ret) .skip))
 (.seq (.region v33_3)
 .ret)))
def v33 : VFunc := ⟨9, [.t 2], true, v33_body,
 fun _ => [],
 fun _ => []⟩
@[simp] theorem v33_c : v33.body = v33_body := rfl
@[simp] theorem v33_r : v33.results = [.t 2] := rfl
@[simp] theorem v33_o : v33.own = true := rfl
def v41_0 : List COper := [
 ⟨some 2, .m (.alloc [(.str []), (.str [])]), none, 0⟩,
 cS 3 (.mov (.c (.bool false))) 0]
def v41_1 : List COper := [
 ⟨some 4, .m (.alloc [(.str []), (.str [])]), none, 0⟩]
def v41_2 : List COper := [
 cM 5 0 0,
 cS 6 (.bin .neq (.iface false) (.t 5) (.c .nili)) 1,
 cM 7 6 3,
 cMG 8 0 7 true 7,
 cG 9 (.mkIface 187 (.t 4)) 7 true 7,
 cCG 10 97 [.t 8, .t 9] 7 true 31,
 cQ 11 7 10 63]
def v41_3 : List COper := [
 cS 12 (.load (some 2) (.t 4)) 0,
 cH (.store 2 (.t 2) (.t 12)) 1,
 cS 3 (.mov (.c (.bool true))) 3]
def v41_4 : List COper := [
 cS 13 (.build [(.str []), (.str [])] []) 0,
 cH (.store 2 (.t 2) (.t 13)) 1,
 cS 3 (.mov (.c (.bool false))) 3]
def v41_body : CCode := (.seq (.region v41_0)
 (.seq (.region v41_1)
 (.seq (.seq (.region v41_2)
 (.cond (.t 11) (.seq (.region v41_3)
 .ret) .skip))
 (.seq (.region v41_4)
 .ret))))
def v41 : VFunc := ⟨14, [.cell 2 (some 2), .t 3], true, v41_body,
 fun _ => [],
 fun _ => []⟩
@[simp] theorem v41_c : v41.body = v41_body := rfl
@[simp] theorem v41_r : v41.results = [.cell 2 (some 2), .t 3] := rfl
@[simp] theorem v41_o : v41.own = true := rfl
def v42_0 : List COper := [
 ⟨some 4, .m (.alloc [(.str []), (.int .u64 (0)), (.int .i64 (0)), (.str []), (.int .u64 (0))]), none, 0⟩,
 cS 5 (.mov (.c (.bool false))) 0,
 cS 6 (.mov (.c .nili)) 2]
def v42_1 : List COper := [
 cM 7 0 0,
 cM 8 1 0,
 cC 9 99 [.t 8] 2,
 ⟨some 10, .call (.c (.func 98 [] [])) [.t 7, .t 9, (.c (.func 100 [] []))], none, 7⟩,
 cE 11 0 10 15,
 cE 12 1 10 15,
 cE 13 2 10 15,
 cH (.store 5 (.t 4) (.t 11)) 127,
 cM 5 12 255,
 cM 6 13 511]
def v42_body : CCode := (.seq (.region v42_0)
 (.seq (.region v42_1)
 .ret))
def v42 : VFunc := ⟨14, [.cell 4 (some 5), .t 5, .t 6], true, v42_body,
 fun _ => [],
 fun _ => []⟩
@[simp] theorem v42_c : v42.body = v42_body := rfl
@[simp] theorem v42_r : v42.results = [.cell 4 (some 5), .t 5, .t 6] := rfl
@[simp] theorem v42_o : v42.own = true := rfl
def v43_0 : List COper := [
 cS 2 (.mov (.c (.cslice [] 1 0 1))) 0]
def v43_1 : List COper := [
 cS 3 (.mov (.c (.cslice [] 1 0 1))) 0]
def v43_2 : List COper := [
 ⟨some 4, .m (.alloc [.nilp]), none, 0⟩]
def v43_3 : List COper := [
 cM 5 0 0,
 cS 6 (.bin .neq (.iface false) (.t 5) (.c .nili)) 1,
 cM 7 6 3,
 cMG 8 0 7 true 7,
 cG 9 (.mkIface 192 (.t 4)) 7 true 7,
 cCG 10 97 [.t 8, .t 9] 7 true 31,
 cQ 11 7 10 63,
 cM 12 11 127,
 cG 13 (.load none (.t 4)) 12 true 255,
 cG 14 (.bin .neq .nilp (.t 13) (.c .nilp)) 12 true 511,
 cQ 15 12 14 1023]
def v43_4 : List COper := [
 cM 16 3 0,
 cL 17 4 0,
 cN 18 17 2,
 cF 19 0 18 6,
 cL 20 19 14,
 ⟨some 21, .m (.buildSlice 1 1 [(.str [])] [(0, 1, .t 20)]), none, 30⟩,
 ⟨some 22, .h (.append 1 16 false (.t 16) (.t 21)), none, 63⟩,
 cM 3 22 127]
def v43_5 : List COper := [
 cL 23 4 0,
 cN 24 23 1,
 cF 25 1 24 3,
 cL 26 25 7,
 cM 0 26 15]
def v43_b6 : CCode := (.seq (.seq (.region v43_3)
 (.cond (.t 15) .skip (.exit 0)))
 (.block 1 (.seq (.region v43_4)
 (.region v43_5))))
def v43_7 : List COper := [
 cM 27 3 0,
 cM 2 27 1]
def v43_body : CCode := (.seq (.region v43_0)
 (.seq (.region v43_1)
 (.seq (.region v43_2)
 (.seq (.block 0 (.loop v43_b6))
 (.seq (.region v43_7)
 .ret)))))
def v43 : VFunc := ⟨28, [.t 2], true, v43_body,
 fun i => match i with | 0 => [4, 3, 0] | _ => [],
 fun i => match i with | 0 => [3] | 1 => [4, 3, 0] | _ => []⟩
@[simp] theorem v43_c : v43.body = v43_body := rfl
@[simp] theorem v43_r : v43.results = [.t 2] := rfl
@[simp] theorem v43_o : v43.own = true := rfl
@[simp] theorem v43_h0 : v43.head 0 = [4, 3, 0] := rfl
@[simp] theorem v43_t0 : v43.tail 0 = [3] := rfl
@[simp] theorem v43_t1 : v43.tail 1 = [4, 3, 0] := rfl
def v44_0 : List COper := [
 cS 2 (.mov (.c .nilp)) 0]
def v44_1 : List COper := [
 ⟨some 6, .m (.makeMap), none, 0⟩,
 cS 7 (.build [.nilm] [(0, 1, .t 6)]) 1,
 ⟨some 8, .m (.box (.t 7)), none, 3⟩,
 cM 3 8 7]
def v44_2 : List COper := [
 cM 9 0 0,
 cS 10 (.len 1 (.t 9)) 1,
 cS 11 (.mov (.c (.int .i64 (0)))) 0]
def v44_3 : List COper := [
 cS 12 (.bin .lss .no (.t 11) (.t 10)) 0]
def v44_4 : List COper := [
 cS 13 (.indexAddr 2 (.t 9) (.t 11)) 0,
 cS 14 (.load (some 2) (.t 13)) 1,
 ⟨some 5, .m (.alloc [(.str []), (.cslice [] 0 0 1)]), none, 0⟩,
 cH (.store 2 (.t 5) (.t 14)) 7]
def v44_5 : List COper := [
 cM 15 3 0,
 cN 16 15 1,
 cF 17 0 16 3,
 cL 18 17 7,
 cF 19 0 5 0,
 cL 20 19 16,
 cF 21 1 5 0,
 cL 22 21 64,
 cC 23 49 [.t 22] 192,
 cH (.mapUpdate .str (.t 18) (.t 20) (.t 23)) 511]
def v44_5s : List Step := [
 .small 0 (cM 15 3 0),
 .small 1 (cN 16 15 1),
 .small 2 (cF 17 0 16 3),
 .small 3 (cL 18 17 7),
 .small 4 (cF 19 0 5 0),
 .small 5 (cL 20 19 16),
 .small 6 (cF 21 1 5 0),
 .small 7 (cL 22 21 64),
 .big 8 (cC 23 49 [.t 22] 192),
 .big 9 (cH (.mapUpdate .str (.t 18) (.t 20) (.t 23)) 511)]
theorem v44_5h : sched (v44_5.length + 1) (numbered v44_5 0) 0 = some v44_5s := by kernel_rfl
def v44_6 : List COper := [
 cS 24 (.bin .add .no (.t 11) (.c (.int .i64 (1)))) 0,
 cM 11 24 1]
def v44_b7 : CCode := (.seq (.region v44_3)
 (.seq (.cond (.t 12) .skip (.exit 0))
 (.seq (.block 1 (.seq (.region v44_4)
 (.draw v44_5)))
 (.region v44_6))))
def v44_8 : List COper := [
 cM 25 3 0,
 cM 2 25 1]
def v44_body : CCode := (.seq (.region v44_0)
 (.seq (.region v44_1)
 (.seq (.seq (.region v44_2)
 (.block 0 (.loop v44_b7)))
 (.seq (.region v44_8)
 .ret))))
def v44 : VFunc := ⟨26, [.t 2], true, v44_body,
 fun i => match i with | 0 => [11, 3, 9, 10] | _ => [],
 fun i => match i with | 0 => [3] | 1 => [3, 9, 10, 11] | _ => []⟩
@[simp] theorem v44_c : v44.body = v44_body := rfl
@[simp] theorem v44_r : v44.results = [.t 2] := rfl
@[simp] theorem v44_o : v44.own = true := rfl
@[simp] theorem v44_h0 : v44.head 0 = [11, 3, 9, 10] := rfl
@[simp] theorem v44_t0 : v44.tail 0 = [3] := rfl
@[simp] theorem v44_t1 : v44.tail 1 = [3, 9, 10, 11] := rfl
def v46_0 : List COper := [
 ⟨some 3, .m (.box (.t 1)), none, 0⟩,
 cS 4 (.mov (.c (.cslice [] 1 0 2))) 0]
def v46_1 : List COper := [
 cS 5 (.mov (.c (.cslice [] 1 0 2))) 0]
def v46_2 : List COper := [
 cM 8 0 0,
 cC 9 101 [.t 8] 1,
 cS 10 (.len 1 (.t 9)) 3,
 cS 11 (.mov (.c (.int .i64 (0)))) 0]
def v46_3 : List COper := [
 cS 12 (.bin .lss .no (.t 11) (.t 10)) 0]
def v46_4 : List COper := [
 cS 13 (.indexAddr 1 (.t 9) (.t 11)) 0,
 cL 14 13 1,
 cM 7 14 3]
def v46_5 : List COper := [
 cS 15 (.load (some 2) (.t 3)) 0,
 cM 16 7 0,
 cC 17 58 [.t 15, .t 16] 3]
def v46_6 : List COper := [
 cM 18 5 0,
 cM 19 7 0,
 cM 20 0 0,
 cN 21 20 4,
 cF 22 0 21 12,
 cL 23 22 28,
 cM 24 7 0,
 cS 25 (.lookup .str (.cslice [] 0 0 1) false (.t 23) (.t 24)) 124,
 cC 26 49 [.t 25] 252,
 cS 27 (.build [(.str []), (.cslice [] 0 0 1)] [(0, 1, .t 19), (1, 1, .t 26)]) 510,
 ⟨some 28, .m (.buildSlice 2 1 [(.str []), (.cslice [] 0 0 1)] [(0, 2, .t 27)]), none, 1022⟩,
 ⟨some 29, .h (.append 2 40 false (.t 18) (.t 28)), none, 2047⟩,
 cM 5 29 4095]
def v46_7 : List COper := [
 cS 30 (.bin .add .no (.t 11) (.c (.int .i64 (1)))) 0,
 cM 11 30 1]
def v46_b8 : CCode := (.seq (.region v46_3)
 (.seq (.cond (.t 12) .skip (.exit 0))
 (.seq (.block 1 (.seq (.region v46_4)
 (.seq (.region v46_5)
 (.cond (.t 17) (.region v46_6) .skip))))
 (.region v46_7))))
def v46_9 : List COper := [
 cM 31 5 0,
 cM 4 31 1]
def v46_body : CCode := (.seq (.region v46_0)
 (.seq (.region v46_1)
 (.seq (.seq (.region v46_2)
 (.block 0 (.loop v46_b8)))
 (.seq (.region v46_9)
 .ret))))
def v46 : VFunc := ⟨32, [.t 4], true, v46_body,
 fun i => match i with | 0 => [11, 0, 5, 3, 9, 10] | _ => [],
 fun i => match i with | 0 => [5] | 1 => [0, 5, 3, 9, 10, 11] | _ => []⟩
@[simp] theorem v46_c : v46.body = v46_body := rfl
@[simp] theorem v46_r : v46.results = [.t 4] := rfl
@[simp] theorem v46_o : v46.own = true := rfl
@[simp] theorem v46_h0 : v46.head 0 = [11, 0, 5, 3, 9, 10] := rfl
@[simp] theorem v46_t0 : v46.tail 0 = [5] := rfl
@[simp] theorem v46_t1 : v46.tail 1 = [0, 5, 3, 9, 10, 11] := rfl
def v49_0 : List COper := [
 cS 2 (.mov (.c (.cslice [] 1 0 1))) 0]
def v49_1 : List COper := [
 cM 3 0 0,
 cS 4 (.bin .eql .nils (.t 3) (.c .nils)) 1]
def v49_2 : List COper := [
 cS 2 (.mov (.c (.cslice [] 1 0 1))) 0]
def v49_3 : List COper := [
 ⟨some 5, .m (.buildSlice 1 0 [(.int .u8 (0))] []), none, 0⟩,
 cM 6 0 0,
 ⟨some 7, .h (.append 1 1 false (.t 5) (.t 6)), none, 3⟩,
 cM 2 7 7]
def v49_body : CCode := (.seq (.region v49_0)
 (.seq (.seq (.region v49_1)
 (.cond (.t 4) (.seq (.region v49_2)
 .ret) .skip))
 (.seq (.region v49_3)
 .ret)))
def v49 : VFunc := ⟨8, [.t 2], true, v49_body,
 fun _ => [],
 fun _ => []⟩
@[simp] theorem v49_c : v49.body = v49_body := rfl
@[simp] theorem v49_r : v49.results = [.t 2] := rfl
@[simp] theorem v49_o : v49.own = true := rfl
def v51_0 : List COper := [
 cS 4 (.mov (.c (.bool false))) 0]
def v51_1 : List COper := [
 cM 7 0 0,
 cS 8 (.len 1 (.t 7)) 1,
 cS 9 (.mov (.c (.int .i64 (0)))) 0]
def v51_2 : List COper := [
 cS 10 (.bin .lss .no (.t 9) (.t 8)) 0]
def v51_3 : List COper := [
 cS 11 (.indexAddr 2 (.t 7) (.t 9)) 0,
 cS 12 (.load (some 2) (.t 11)) 1,
 ⟨some 6, .m (.alloc [(.str []), (.str [])]), none, 0⟩,
 cH (.store 2 (.t 6) (.t 12)) 7]
def v51_4 : List COper := [
 cS 13 (.load (some 2) (.t 6)) 0,
 cM 14 1 0,
 cC 15 102 [.t 13, .t 14] 3]
def v51_5 : List COper := [
 cS 4 (.mov (.c (.bool true))) 0]
def v51_6 : List COper := [
 cS 16 (.bin .add .no (.t 9) (.c (.int .i64 (1)))) 0,
 cM 9 16 1]
def v51_b7 : CCode := (.seq (.region v51_2)
 (.seq (.cond (.t 10) .skip (.exit 0))
 (.seq (.block 1 (.seq (.region v51_3)
 (.seq (.region v51_4)
 (.cond (.t 15) (.seq (.region v51_5)
 .ret) .skip))))
 (.region v51_6))))
def v51_8 : List COper := [
 cS 4 (.mov (.c (.bool false))) 0]
def v51_body : CCode := (.seq (.region v51_0)
 (.seq (.seq (.region v51_1)
 (.block 0 (.loop v51_b7)))
 (.seq (.region v51_8)
 .ret)))
def v51 : VFunc := ⟨17, [.t 4], true, v51_body,
 fun i => match i with | 0 => [9, 1, 7, 8] | _ => [],
 fun i => match i with | 0 => [] | 1 => [1, 7, 8, 9] | _ => []⟩
@[simp] theorem v51_c : v51.body = v51_body := rfl
@[simp] theorem v51_r : v51.results = [.t 4] := rfl
@[simp] theorem v51_o : v51.own = true := rfl
@[simp] theorem v51_h0 : v51.head 0 = [9, 1, 7, 8] := rfl
@[simp] theorem v51_t0 : v51.tail 0 = [] := rfl
@[simp] theorem v51_t1 : v51.tail 1 = [1, 7, 8, 9] := rfl
def v53_0 : List COper := [
 ⟨some 1, .m (.box (.t 0)), none, 0⟩,
 cS 2 (.mov (.c (.bool false))) 0]
def v53_1 : List COper := [
 cF 3 1 1 0,
 cL 4 3 1,
 cS 5 (.bin .eql .str (.t 4) (.c (.str []))) 3,
 cM 6 5 7,
 cG 7 (.fieldAddr 0 (.t 1)) 6 false 15,
 cG 8 (.load none (.t 7)) 6 false 31,
 cG 9 (.fieldAddr 1 (.t 1)) 6 false 15,
 cG 10 (.load none (.t 9)) 6 false 79,
 cG 11 (.bin .lss .no (.t 8) (.t 10)) 6 false 255,
 cP 12 6 11 511,
 cM 2 12 1023]
def v53_body : CCode := (.seq (.region v53_0)
 (.seq (.region v53_1)
 .ret))
def v53 : VFunc := ⟨13, [.t 2], true, v53_body,
 fun _ => [],
 fun _ => []⟩
@[simp] theorem v53_c : v53.body = v53_body := rfl
@[simp] theorem v53_r : v53.results = [.t 2] := rfl
@[simp] theorem v53_o : v53.own = true := rfl
def v58_0 : List COper := [
 ⟨some 2, .m (.box (.t 0)), none, 0⟩,
 cS 4 (.mov (.c (.bool false))) 0]
def v58_1 : List COper := [
 cF 5 0 2 0,
 cL 6 5 1,
 cM 7 1 0,
 cS 8 (.bin .leq .no (.t 6) (.t 7)) 7,
 cM 9 8 15,
 cG 10 (.fieldAddr 1 (.t 2)) 9 true 31,
 cG 11 (.load none (.t 10)) 9 true 63,
 cG 12 (.bin .eql .str (.t 11) (.c (.str []))) 9 true 127,
 cMG 13 12 9 true 255,
 cMG 14 1 13 false 511,
 cG 15 (.fieldAddr 1 (.t 2)) 13 false 511,
 cG 16 (.load none (.t 15)) 13 false 1535,
 cG 17 (.bin .lss .no (.t 14) (.t 16)) 13 false 4095,
 cG 18 (.pick (.t 13) (.c (.bool true)) (.t 17)) 9 true 8191,
 cQ 19 9 18 16383,
 cM 4 19 32767]
def v58_body : CCode := (.seq (.region v58_0)
 (.seq (.region v58_1)
 .ret))
def v58 : VFunc := ⟨20, [.t 4], true, v58_body,
 fun _ => [],
 fun _ => []⟩
@[simp] theorem v58_c : v58.body = v58_body := rfl
@[simp] theorem v58_r : v58.results = [.t 4] := rfl
@[simp] theorem v58_o : v58.own = true := rfl
def v59_0 : List COper := [
 ⟨some 3, .m (.box (.t 1)), none, 0⟩,
 cS 4 (.mov (.c (.bool false))) 0]
def v59_1 : List COper := [
 cM 5 0 0,
 cS 6 (.mkFunc 104 [] [.t 3]) 0,
 cC 7 103 [.t 5, .t 6] 3,
 cM 4 7 7]
def v59_body : CCode := (.seq (.region v59_0)
 (.seq (.region v59_1)
 .ret))
def v59 : VFunc := ⟨8, [.t 4], true, v59_body,
 fun _ => [],
 fun _ => []⟩
@[simp] theorem v59_c : v59.body = v59_body := rfl
@[simp] theorem v59_r : v59.results = [.t 4] := rfl
@[simp] theorem v59_o : v59.own = true := rfl
def v60_0 : List COper := [
 cS 4 (.mov (.c .nili)) 0]
def v60_1 : List COper := [
 cM 5 0 0,
 cM 6 1 0,
 cS 7 (.build [(.str []), (.str [])] [(0, 1, .t 5), (1, 1, .t 6)]) 3,
 cS 8 (.mkIface 45 (.t 7)) 7,
 cM 4 8 15]
def v60_body : CCode := (.seq (.region v60_0)
 (.seq (.region v60_1)
 .ret))
def v60 : VFunc := ⟨9, [.t 4], true, v60_body,
 fun _ => [],
 fun _ => []⟩
@[simp] theorem v60_c : v60.body = v60_body := rfl
@[simp] theorem v60_r : v60.results = [.t 4] := rfl
@[simp] theorem v60_o : v60.own = true := rfl
def v62_0 : List COper := [
 cS 2 (.mov (.c (.int .i64 (0)))) 0]
def v62_1 : List COper := [
 cM 4 0 0,
 cS 5 (.bin .eql (.iface false) (.t 4) (.c .nili)) 1]
def v62_2 : List COper := [
 cS 2 (.mov (.c (.int .i64 (0)))) 0]
def v62_3 : List COper := [
 ⟨some 3, .m (.alloc [(.int .i64 (0))]), none, 0⟩]
def v62_4 : List COper := [
 cM 6 0 0,
 cS 7 (.mkIface 197 (.t 3)) 0,
 cC 8 97 [.t 6, .t 7] 3]
def v62_5 : List COper := [
 cL 9 3 0,
 cM 2 9 1]
def v62_6 : List COper := [
 cS 2 (.mov (.c (.int .i64 (20)))) 0]
def v62_body : CCode := (.seq (.region v62_0)
 (.seq (.seq (.region v62_1)
 (.cond (.t 5) (.seq (.region v62_2)
 .ret) .skip))
 (.seq (.region v62_3)
 (.seq (.seq (.region v62_4)
 (.cond (.t 8) (.seq (.region v62_5)
 .ret) .skip))
 (.seq (.region v62_6)
 .ret)))))
def v62 : VFunc := ⟨10, [.t 2], true, v62_body,
 fun _ => [],
 fun _ => []⟩
@[simp] theorem v62_c : v62.body = v62_body := rfl
@[simp] theorem v62_r : v62.results = [.t 2] := rfl
@[simp] theorem v62_o : v62.own = true := rfl
def v101_0 : List COper := [
 cS 2 (.mov (.c (.cslice [] 1 0 1))) 0]
def v101_1 : List COper := [
 cS 3 (.mov (.c (.cslice [] 1 0 1))) 0]
def v101_2 : List COper := [
 cM 5 0 0,
 cS 6 (.bin .neq .nilp (.t 5) (.c .nilp)) 1]
def v101_3 : List COper := [
 cM 7 0 0,
 cN 8 7 1,
 cF 9 0 8 3,
 cL 10 9 7,
 ⟨some 11, .h (.range (.t 10)), none, 15⟩]
def v101_4 : List COper := [
 ⟨some 12, .next (.t 11), none, 0⟩,
 cE 13 0 12 1]
def v101_5 : List COper := [
 cS 14 (.entry (.t 11)) 0,
 cE 15 0 14 1,
 cM 4 15 3]
def v101_6 : List COper := [
 cM 16 3 0,
 cM 17 4 0,
 ⟨some 18, .m (.buildSlice 1 1 [(.str [])] [(0, 1, .t 17)]), none, 2⟩,
 ⟨some 19, .h (.append 1 16 false (.t 16) (.t 18)), none, 7⟩,
 cM 3 19 15]
def v101_b7 : CCode := (.seq (.region v101_4)
 (.seq (.cond (.t 13) .skip (.exit 0))
 (.block 1 (.seq (.region v101_5)
 (.region v101_6)))))
def v101_8 : List COper := [
 cM 20 3 0,
 cC 21 90 [.t 20] 1]
def v101_9 : List COper := [
 cM 22 3 0,
 cM 2 22 1]
def v101_body : CCode := (.seq (.region v101_0)
 (.seq (.region v101_1)
 (.seq (.seq (.region v101_2)
 (.cond (.t 6) (.seq (.region v101_3)
 (.block 0 (.loop v101_b7))) .skip))
 (.seq (.region v101_8)
 (.seq (.region v101_9)
 .ret)))))
def v101 : VFunc := ⟨23, [.t 2], true, v101_body,
 fun i => match i with | 0 => [3, 11] | _ => [],
 fun i => match i with | 0 => [3] | 1 => [3, 11] | _ => []⟩
@[simp] theorem v101_c : v101.body = v101_body := rfl
@[simp] theorem v101_r : v101.results = [.t 2] := rfl
@[simp] theorem v101_o : v101.own = true := rfl
@[simp] theorem v101_h0 : v101.head 0 = [3, 11] := rfl
@[simp] theorem v101_t0 : v101.tail 0 = [3] := rfl
@[simp] theorem v101_t1 : v101.tail 1 = [3, 11] := rfl
def v102_0 : List COper := [
 ⟨some 2, .m (.box (.t 0)), none, 0⟩,
 cS 4 (.mov (.c (.bool false))) 0]
def v102_1 : List COper := [
 cM 5 1 0,
 cF 6 0 2 0,
 cL 7 6 2,
 cS 8 (.bin .geq .no (.t 5) (.t 7)) 7,
 cM 9 8 15,
 cG 10 (.fieldAddr 1 (.t 2)) 9 true 31,
 cG 11 (.load none (.t 10)) 9 true 63,
 cG 12 (.bin .eql .str (.t 11) (.c (.str []))) 9 true 127,
 cMG 13 12 9 true 255,
 cMG 14 1 13 false 511,
 cG 15 (.fieldAddr 1 (.t 2)) 13 false 511,
 cG 16 (.load none (.t 15)) 13 false 1535,
 cG 17 (.bin .lss .no (.t 14) (.t 16)) 13 false 4095,
 cG 18 (.pick (.t 13) (.c (.bool true)) (.t 17)) 9 true 8191,
 cQ 19 9 18 16383,
 cM 4 19 32767]
def v102_body : CCode := (.seq (.region v102_0)
 (.seq (.region v102_1)
 .ret))
def v102 : VFunc := ⟨20, [.t 4], true, v102_body,
 fun _ => [],
 fun _ => []⟩
@[simp] theorem v102_c : v102.body = v102_body := rfl
@[simp] theorem v102_r : v102.results = [.t 4] := rfl
@[simp] theorem v102_o : v102.own = true := rfl
def v103_0 : List COper := [
 cS 4 (.mov (.c (.bool false))) 0]
def v103_1 : List COper := [
 cM 5 0 0,
 cM 6 1 0,
 cC 7 165 [.t 5, .t 6] 3,
 cS 8 (.bin .geq .no (.t 7) (.c (.int .i64 (0)))) 7,
 cM 4 8 15]
def v103_body : CCode := (.seq (.region v103_0)
 (.seq (.region v103_1)
 .ret))
def v103 : VFunc := ⟨9, [.t 4], true, v103_body,
 fun _ => [],
 fun _ => []⟩
@[simp] theorem v103_c : v103.body = v103_body := rfl
@[simp] theorem v103_r : v103.results = [.t 4] := rfl
@[simp] theorem v103_o : v103.own = true := rfl
def v104_0 : List COper := [
 ⟨some 2, .m (.box (.t 0)), none, 0⟩,
 cS 3 (.mov (.c (.bool false))) 0]
def v104_1 : List COper := [
 cS 4 (.load (some 2) (.t 2)) 0,
 cL 5 1 0,
 cC 6 58 [.t 4, .t 5] 3,
 cM 3 6 7]
def v104_body : CCode := (.seq (.region v104_0)
 (.seq (.region v104_1)
 .ret))
def v104 : VFunc := ⟨7, [.t 3], true, v104_body,
 fun _ => [],
 fun _ => []⟩
@[simp] theorem v104_c : v104.body = v104_body := rfl
@[simp] theorem v104_r : v104.results = [.t 3] := rfl
@[simp] theorem v104_o : v104.own = true := rfl
def v165_0 : List COper := [
 cS 4 (.mov (.c (.int .i64 (0)))) 0]
def v165_1 : List COper := [
 cM 6 0 0,
 cS 7 (.len 1 (.t 6)) 1,
 cS 8 (.mov (.c (.int .i64 (0)))) 0]
def v165_2 : List COper := [
 cS 9 (.bin .lss .no (.t 8) (.t 7)) 0]
def v165_3 : List COper := [
 cM 10 8 0,
 cM 5 10 1]
def v165_4 : List COper := [
 cM 11 1 0,
 cM 12 0 0,
 cM 13 5 0,
 cS 14 (.indexAddr 2 (.t 12) (.t 13)) 6,
 cS 15 (.load (some 2) (.t 14)) 14,
 ⟨some 16, .call (.t 11) [.t 15], none, 31⟩]
def v165_5 : List COper := [
 cM 17 5 0,
 cM 4 17 1]
def v165_6 : List COper := [
 cS 18 (.bin .add .no (.t 8) (.c (.int .i64 (1)))) 0,
 cM 8 18 1]
def v165_b7 : CCode := (.seq (.region v165_2)
 (.seq (.cond (.t 9) .skip (.exit 0))
 (.seq (.block 1 (.seq (.region v165_3)
 (.seq (.region v165_4)
 (.cond (.t 16) (.seq (.region v165_5)
 .ret) .skip))))
 (.region v165_6))))
def v165_8 : List COper := [
 cS 4 (.mov (.c (.int .i64 (-1)))) 0]
def v165_body : CCode := (.seq (.region v165_0)
 (.seq (.seq (.region v165_1)
 (.block 0 (.loop v165_b7)))
 (.seq (.region v165_8)
 .ret)))
def v165 : VFunc := ⟨19, [.t 4], true, v165_body,
 fun i => match i with | 0 => [8, 0, 1, 7] | _ => [],
 fun i => match i with | 0 => [] | 1 => [0, 1, 7, 8] | _ => []⟩
@[simp] theorem v165_c : v165.body = v165_body := rfl
@[simp] theorem v165_r : v165.results = [.t 4] := rfl
@[simp] theorem v165_o : v165.own = true := rfl
@[simp] theorem v165_h0 : v165.head 0 = [8, 0, 1, 7] := rfl
@[simp] theorem v165_t0 : v165.tail 0 = [] := rfl
@[simp] theorem v165_t1 : v165.tail 1 = [0, 1, 7, 8] := rfl
def v64_0 : List COper := [
 ⟨some 3, .m (.box (.t 1)), none, 0⟩,
 cS 4 (.mov (.c (.cslice [] 1 0 1))) 0,
 cS 5 (.mov (.c (.bool false))) 2,
 cS 6 (.mov (.c .nili)) 6]
def v64_1 : List COper := [
 cM 14 0 0,
 cS 15 (.load (some 8) (.t 3)) 0,
 cC 16 105 [.t 14, .t 15] 3,
 cM 13 16 7,
 cE 17 0 13 15,
 cE 18 1 13 15,
 cM 7 17 31,
 cM 8 18 127]
def v64_2 : List COper := [
 cM 19 8 0,
 cS 20 (.bin .neq (.iface false) (.t 19) (.c .nili)) 1]
def v64_3 : List COper := [
 cM 21 8 0,
 cS 4 (.mov (.c (.cslice [] 1 0 1))) 0,
 cS 5 (.mov (.c (.bool false))) 2,
 cM 6 21 7]
def v64_4 : List COper := [
 cM 23 0 0,
 cN 24 23 1,
 cF 25 1 24 3,
 cL 26 25 7,
 cM 27 7 0,
 cS 28 (.lookup .str (.agg [(.bool false), (.cslice [] 0 0 1)]) true (.t 26) (.t 27)) 31,
 cM 22 28 63,
 cE 29 0 22 127,
 cE 30 1 22 127,
 ⟨some 9, .m (.alloc [(.bool false), (.cslice [] 0 0 1)]), none, 0⟩,
 cH (.store 2 (.t 9) (.t 29)) 767,
 cM 10 30 2047]
def v64_5 : List COper := [
 cM 31 10 0]
def v64_6 : List COper := [
 cF 32 1 9 0,
 cL 33 32 1,
 cC 34 49 [.t 33] 3,
 cF 35 0 9 0,
 cL 36 35 8,
 cS 37 (.un .not (.t 36)) 24,
 cM 4 34 7,
 cM 5 37 127,
 cS 6 (.mov (.c .nili)) 255]
def v64_7 : List COper := [
 cM 39 0 0,
 cN 40 39 1,
 cF 41 0 40 3,
 cL 42 41 7,
 cM 43 7 0,
 ⟨some 44, .invoke "Get" (.t 42) [.t 43], none, 31⟩,
 cM 38 44 63,
 cE 45 0 38 127,
 cE 46 1 38 127,
 cE 47 2 38 127,
 cM 11 45 255,
 cM 12 46 1535,
 cM 8 47 4095]
def v64_8 : List COper := [
 cM 48 8 0,
 cS 49 (.bin .neq (.iface false) (.t 48) (.c .nili)) 1]
def v64_9 : List COper := [
 cF 50 0 3 0,
 cL 51 50 1,
 cM 52 8 0,
 cC 53 106 [.t 51, .t 52] 7,
 cS 4 (.mov (.c (.cslice [] 1 0 1))) 15,
 cS 5 (.mov (.c (.bool false))) 31,
 cM 6 53 63]
def v64_10 : List COper := [
 cM 54 11 0,
 cM 55 12 0,
 cM 4 54 1,
 cM 5 55 7,
 cS 6 (.mov (.c .nili)) 15]
def v64_body : CCode := (.seq (.region v64_0)
 (.seq (.region v64_1)
 (.seq (.seq (.region v64_2)
 (.cond (.t 20) (.seq (.region v64_3)
 .ret) .skip))
 (.seq (.seq (.region v64_4)
 (.seq (.region v64_5)
 (.cond (.t 31) (.seq (.draw v64_6)
 .ret) .skip)))
 (.seq (.region v64_7)
 (.seq (.seq (.region v64_8)
 (.cond (.t 49) (.seq (.region v64_9)
 .ret) .skip))
 (.seq (.region v64_10)
 .ret)))))))
def v64 : VFunc := ⟨56, [.t 4, .t 5, .t 6], true, v64_body,
 fun _ => [],
 fun _ => []⟩
@[simp] theorem v64_c : v64.body = v64_body := rfl
@[simp] theorem v64_r : v64.results = [.t 4, .t 5, .t 6] := rfl
@[simp] theorem v64_o : v64.own = true := rfl
def v98_0 : List COper := [
 ⟨some 4, .m (.box (.t 1)), none, 0⟩,
 ⟨some 6, .m (.alloc [(.str []), (.int .u64 (0)), (.int .i64 (0)), (.str []), (.int .u64 (0))]), none, 0⟩,
 cS 7 (.mov (.c (.bool false))) 0,
 cS 8 (.mov (.c .nili)) 4]
def v98_1 : List COper := [
 ⟨some 9, .m (.alloc [(.str []), (.int .u64 (0)), (.int .i64 (0)), (.str []), (.int .u64 (0))]), none, 0⟩]
def v98_2 : List COper := [
 cM 16 0 0,
 cS 17 (.load (some 8) (.t 4)) 0,
 cC 18 64 [.t 16, .t 17] 3,
 cM 15 18 7,
 cE 19 0 15 15,
 cE 20 1 15 15,
 cE 21 2 15 15,
 cM 10 19 31,
 cM 11 20 191,
 cM 12 21 511]
def v98_3 : List COper := [
 cM 22 12 0,
 cS 23 (.bin .neq (.iface false) (.t 22) (.c .nili)) 1,
 cM 24 23 3,
 cMG 25 11 24 false 7,
 cG 26 (.un .not (.t 25)) 24 false 15,
 cP 27 24 26 31]
def v98_4 : List COper := [
 cS 28 (.load (some 5) (.t 9)) 0,
 cM 29 12 0,
 cH (.store 5 (.t 6) (.t 28)) 1,
 cS 7 (.mov (.c (.bool false))) 5,
 cM 8 29 15]
def v98_5 : List COper := [
 cM 31 2 0,
 cM 32 10 0,
 ⟨some 33, .call (.t 31) [.t 32], none, 3⟩,
 cM 30 33 7,
 cE 34 0 30 15,
 cE 35 1 30 15,
 ⟨some 13, .m (.alloc [(.str []), (.int .u64 (0)), (.int .i64 (0)), (.str []), (.int .u64 (0))]), none, 0⟩,
 cH (.store 5 (.t 13) (.t 34)) 95,
 cM 14 35 255]
def v98_6 : List COper := [
 cM 36 14 0,
 cS 37 (.bin .neq .int (.t 36) (.c (.int .i64 (0)))) 1]
def v98_7 : List COper := [
 cS 38 (.load (some 5) (.t 9)) 0,
 cF 39 0 4 0,
 cL 40 39 2,
 cM 41 14 0,
 cC 42 107 [.t 41] 8,
 cC 43 106 [.t 40, .t 42] 30,
 cH (.store 5 (.t 6) (.t 38)) 63,
 cS 7 (.mov (.c (.bool false))) 127,
 cM 8 43 255]
def v98_8 : List COper := [
 cS 44 (.load (some 5) (.t 13)) 0,
 cH (.store 5 (.t 6) (.t 44)) 1,
 cS 7 (.mov (.c (.bool true))) 3,
 cS 8 (.mov (.c .nili)) 7]
def v98_body : CCode := (.seq (.region v98_0)
 (.seq (.region v98_1)
 (.seq (.region v98_2)
 (.seq (.seq (.region v98_3)
 (.cond (.t 27) (.seq (.region v98_4)
 .ret) .skip))
 (.seq (.region v98_5)
 (.seq (.seq (.region v98_6)
 (.cond (.t 37) (.seq (.draw v98_7)
 .ret) .skip))
 (.seq (.region v98_8)
 .ret)))))))
def v98 : VFunc := ⟨45, [.cell 6 (some 5), .t 7, .t 8], true, v98_body,
 fun _ => [],
 fun _ => []⟩
@[simp] theorem v98_c : v98.body = v98_body := rfl
@[simp] theorem v98_r : v98.results = [.cell 6 (some 5), .t 7, .t 8] := rfl
@[simp] theorem v98_o : v98.own = true := rfl
def v99_0 : List COper := [
 ⟨some 2, .m (.alloc [(.int .u8 (0)), (.str []), (.str []), (.str []), (.str []), (.int .u64 (0)), (.int .u64 (0)), (.int .u64 (0))]), none, 0⟩]
def v99_1 : List COper := [
 cM 3 0 0,
 cS 4 (.build [(.int .u8 (0)), (.str []), (.str []), (.str []), (.str []), (.int .u64 (0)), (.int .u64 (0)), (.int .u64 (0))] [(0, 1, (.c (.int .u8 (105)))), (4, 1, .t 3)]) 1,
 cH (.store 8 (.t 2) (.t 4)) 3]
def v99_body : CCode := (.seq (.region v99_0)
 (.seq (.region v99_1)
 .ret))
def v99 : VFunc := ⟨5, [.cell 2 (some 8)], true, v99_body,
 fun _ => [],
 fun _ => []⟩
@[simp] theorem v99_c : v99.body = v99_body := rfl
@[simp] theorem v99_r : v99.results = [.cell 2 (some 8)] := rfl
@[simp] theorem v99_o : v99.own = true := rfl
def v105_0 : List COper := [
 ⟨some 3, .m (.box (.t 1)), none, 0⟩,
 cS 4 (.mov (.c (.str []))) 0,
 cS 5 (.mov (.c .nili)) 2]
def v105_1 : List COper := [
 cM 8 0 0,
 cS 9 (.bin .eql .nilp (.t 8) (.c .nilp)) 1,
 cM 10 9 3,
 cMG 11 0 10 false 7,
 cG 12 (.nilCheck (.t 11)) 10 false 15,
 cG 13 (.fieldAddr 1 (.t 12)) 10 false 31,
 cG 14 (.load none (.t 13)) 10 false 63,
 cG 15 (.bin .eql .nilm (.t 14) (.c .nilm)) 10 false 127,
 cP 16 10 15 255]
def v105_2 : List COper := [
 cF 17 0 3 0,
 cL 18 17 1,
 cC 19 107 [(.c (.int .i64 (2)))] 0,
 cC 20 106 [.t 18, .t 19] 7,
 cS 4 (.mov (.c (.str []))) 15,
 cM 5 20 31]
def v105_2s : List Step := [
 .small 0 (cF 17 0 3 0),
 .small 1 (cL 18 17 1),
 .big 2 (cC 19 107 [(.c (.int .i64 (2)))] 0),
 .big 3 (cC 20 106 [.t 18, .t 19] 7),
 .small 4 (cS 4 (.mov (.c (.str []))) 15),
 .small 5 (cM 5 20 31)]
theorem v105_2h : sched (v105_2.length + 1) (numbered v105_2 0) 0 = some v105_2s := by kernel_rfl
def v105_3 : List COper := [
 cS 22 (.load (some 8) (.t 3)) 0,
 cC 23 166 [.t 22] 1,
 cM 21 23 3,
 cE 24 0 21 7,
 cE 25 1 21 7,
 cM 6 24 15,
 cM 7 25 63]
def v105_4 : List COper := [
 cM 26 6 0,
 cF 27 0 3 0,
 cL 28 27 2,
 cM 29 7 0,
 cC 30 107 [.t 29] 8,
 cC 31 106 [.t 28, .t 30] 30,
 cM 4 26 63,
 cM 5 31 127]
def v105_4s : List Step := [
 .small 0 (cM 26 6 0),
 .small 1 (cF 27 0 3 0),
 .small 2 (cL 28 27 2),
 .small 3 (cM 29 7 0),
 .big 4 (cC 30 107 [.t 29] 8),
 .big 5 (cC 31 106 [.t 28, .t 30] 30),
 .small 6 (cM 4 26 63),
 .small 7 (cM 5 31 127)]
theorem v105_4h : sched (v105_4.length + 1) (numbered v105_4 0) 0 = some v105_4s := by kernel_rfl
def v105_body : CCode := (.seq (.region v105_0)
 (.seq (.seq (.region v105_1)
 (.cond (.t 16) (.seq (.draw v105_2)
 .ret) .skip))
 (.seq (.region v105_3)
 (.seq (.draw v105_4)
 .ret))))
def v105 : VFunc := ⟨32, [.t 4, .t 5], true, v105_body,
 fun _ => [],
 fun _ => []⟩
@[simp] theorem v105_c : v105.body = v105_body := rfl
@[simp] theorem v105_r : v105.results = [.t 4, .t 5] := rfl
@[simp] theorem v105_o : v105.own = true := rfl
def v106_0 : List COper := [
 cS 4 (.mov (.c .nili)) 0]
def v106_1 : List COper := [
 cM 5 0 0,
 ⟨some 6, .m (.buildSlice 1 1 [(.int .u8 (0))] [(0, 1, .t 5)]), none, 1⟩,
 cS 7 (.toStr (.t 6)) 3,
 cM 8 1 0,
 cC 9 167 [.t 7, .t 8] 15,
 cM 4 9 31]
def v106_body : CCode := (.seq (.region v106_0)
 (.seq (.region v106_1)
 .ret))
def v106 : VFunc := ⟨10, [.t 4], true, v106_body,
 fun _ => [],
 fun _ => []⟩
@[simp] theorem v106_c : v106.body = v106_body := rfl
@[simp] theorem v106_r : v106.results = [.t 4] := rfl
@[simp] theorem v106_o : v106.own = true := rfl
def v107_0 : List COper := [
 cS 2 (.mov (.c .nili)) 0]
def v107_1 : List COper := [
 cM 3 0 0,
 cS 4 (.bin .eql .int (.t 3) (.c (.int .i64 (0)))) 1]
def v107_2 : List COper := [
 cS 2 (.mov (.c .nili)) 0]
def v107_3 : List COper := [
 cM 5 0 0,
 cS 6 (.mkIface 43 (.t 5)) 1,
 cM 2 6 3]
def v107_body : CCode := (.seq (.region v107_0)
 (.seq (.seq (.region v107_1)
 (.cond (.t 4) (.seq (.region v107_2)
 .ret) .skip))
 (.seq (.region v107_3)
 .ret)))
def v107 : VFunc := ⟨7, [.t 2], true, v107_body,
 fun _ => [],
 fun _ => []⟩
@[simp] theorem v107_c : v107.body = v107_body := rfl
@[simp] theorem v107_r : v107.results = [.t 2] := rfl
@[simp] theorem v107_o : v107.own = true := rfl
def v166_0 : List COper := [
 ⟨some 1, .m (.box (.t 0)), none, 0⟩,
 cS 2 (.mov (.c (.str []))) 0,
 cS 3 (.mov (.c (.int .i64 (0)))) 2]
def v166_1 : List COper := [
 cS 8 (.load (some 8) (.t 1)) 0,
 cC 9 168 [.t 8] 1,
 cM 7 9 3,
 cE 10 0 7 7,
 cE 11 1 7 7,
 cE 12 2 7 7,
 ⟨some 5, .m (.alloc [(.int .u8 (0)), (.str []), (.str []), (.str []), (.str []), (.int .u64 (0)), (.int .u64 (0)), (.int .u64 (0))]), none, 0⟩,
 cM 4 10 79,
 cH (.store 8 (.t 5) (.t 11)) 223,
 cM 6 12 511]
def v166_2 : List COper := [
 cM 13 6 0,
 cS 14 (.bin .neq .int (.t 13) (.c (.int .i64 (0)))) 1]
def v166_3 : List COper := [
 cM 15 6 0,
 cS 2 (.mov (.c (.str []))) 0,
 cM 3 15 3]
def v166_4 : List COper := [
 cS 16 (.load (some 8) (.t 5)) 0,
 cF 17 0 1 0,
 cL 18 17 2,
 cS 19 (.build [(.int .u8 (0)), (.str []), (.str []), (.str []), (.str []), (.int .u64 (0)), (.int .u64 (0)), (.int .u64 (0))] [(0, 1, .t 18)]) 6,
 cS 20 (.bin .neq (.flat [(0, .int), (1, .str), (2, .str), (3, .str), (4, .str), (5, .int), (6, .int), (7, .int)]) (.t 16) (.t 19)) 15]
def v166_5 : List COper := [
 cS 2 (.mov (.c (.str []))) 0,
 cS 3 (.mov (.c (.int .i64 (1)))) 1]
def v166_6 : List COper := [
 cF 21 0 1 0,
 cL 22 21 1,
 cM 23 4 0,
 cC 24 227 [.t 22, .t 23] 7,
 cM 2 24 15,
 cS 3 (.mov (.c (.int .i64 (0)))) 31]
def v166_body : CCode := (.seq (.region v166_0)
 (.seq (.region v166_1)
 (.seq (.seq (.region v166_2)
 (.cond (.t 14) (.seq (.region v166_3)
 .ret) .skip))
 (.seq (.seq (.region v166_4)
 (.cond (.t 20) (.seq (.region v166_5)
 .ret) .skip))
 (.seq (.region v166_6)
 .ret)))))
def v166 : VFunc := ⟨25, [.t 2, .t 3], true, v166_body,
 fun _ => [],
 fun _ => []⟩
@[simp] theorem v166_c : v166.body = v166_body := rfl
@[simp] theorem v166_r : v166.results = [.t 2, .t 3] := rfl
@[simp] theorem v166_o : v166.own = true := rfl
def v167_0 : List COper := [
 cS 4 (.mov (.c .nili)) 0]
def v167_1 : List COper := [
 cM 5 1 0,
 cS 6 (.bin .eql (.iface false) (.t 5) (.c .nili)) 1]
def v167_2 : List COper := [
 cS 4 (.mov (.c .nili)) 0]
def v167_3 : List COper := [
 cM 7 0 0,
 cM 8 1 0,
 cS 9 (.build [(.str []), .nili] [(0, 1, .t 7), (1, 1, .t 8)]) 3,
 ⟨some 10, .m (.box (.t 9)), none, 7⟩,
 cS 11 (.mkIface 191 (.t 10)) 15,
 cM 4 11 31]
def v167_body : CCode := (.seq (.region v167_0)
 (.seq (.seq (.region v167_1)
 (.cond (.t 6) (.seq (.region v167_2)
 .ret) .skip))
 (.seq (.region v167_3)
 .ret)))
def v167 : VFunc := ⟨12, [.t 4], true, v167_body,
 fun _ => [],
 fun _ => []⟩
@[simp] theorem v167_c : v167.body = v167_body := rfl
@[simp] theorem v167_r : v167.results = [.t 4] := rfl
@[simp] theorem v167_o : v167.own = true := rfl
def v168_0 : List COper := [
 ⟨some 1, .m (.box (.t 0)), none, 0⟩,
 cS 2 (.mov (.c (.cslice [] 1 0 1))) 0,
 ⟨some 3, .m (.alloc [(.int .u8 (0)), (.str []), (.str []), (.str []), (.str []), (.int .u64 (0)), (.int .u64 (0)), (.int .u64 (0))]), none, 0⟩,
 cS 4 (.mov (.c (.int .i64 (0)))) 2]
def v168_1 : List COper := [
 cF 12 0 1 0,
 cL 13 12 1,
 cC 14 171 [.t 13] 3,
 cM 11 14 7,
 cE 15 0 11 15,
 cE 16 1 11 15,
 cM 5 15 31,
 cM 6 16 127]
def v168_2 : List COper := [
 cM 17 6 0,
 cS 18 (.un .not (.t 17)) 1]
def v168_3 : List COper := [
 cS 19 (.load (some 8) (.t 1)) 0,
 cS 2 (.mov (.c (.cslice [] 1 0 1))) 0,
 cH (.store 8 (.t 3) (.t 19)) 3,
 cS 4 (.mov (.c (.int .i64 (31)))) 7]
def v168_4 : List COper := [
 cS 7 (.mov (.c (.cslice [] 1 0 1))) 0]
def v168_5 : List COper := [
 cM 20 5 0,
 cS 21 (.len 0 (.t 20)) 1,
 cS 22 (.mov (.c (.int .i64 (0)))) 0]
def v168_6 : List COper := [
 cS 23 (.bin .lss .no (.t 22) (.t 21)) 0]
def v168_7 : List COper := [
 cM 24 22 0,
 cM 8 24 1]
def v168_8 : List COper := [
 cM 25 5 0,
 cM 26 8 0,
 cS 27 (.index (.t 25) (.t 26)) 3,
 cC 28 172 [.t 1, .t 27] 7,
 cM 9 28 15]
def v168_9 : List COper := [
 cM 29 9 0,
 cS 30 (.bin .neq .nilp (.t 29) (.c .nilp)) 1]
def v168_10 : List COper := [
 cM 31 7 0,
 cM 32 9 0,
 cN 33 32 2,
 cL 34 33 6,
 ⟨some 35, .m (.buildSlice 1 1 [(.str [])] [(0, 1, .t 34)]), none, 14⟩,
 ⟨some 36, .h (.append 1 16 false (.t 31) (.t 35)), none, 31⟩,
 cM 7 36 63]
def v168_11 : List COper := [
 cM 37 9 0,
 cN 38 37 1,
 cH (.store 1 (.t 38) (.c (.str []))) 3]
def v168_12 : List COper := [
 cM 39 5 0,
 cM 40 8 0,
 cS 41 (.index (.t 39) (.t 40)) 3,
 cC 42 174 [.t 1, .t 41] 7,
 cM 10 42 15]
def v168_13 : List COper := [
 cM 43 7 0,
 cM 44 10 0,
 cN 45 44 2,
 cL 46 45 6,
 cC 47 228 [.t 46] 14,
 ⟨some 48, .m (.buildSlice 1 1 [(.str [])] [(0, 1, .t 47)]), none, 30⟩,
 ⟨some 49, .h (.append 1 16 false (.t 43) (.t 48)), none, 63⟩,
 cM 7 49 127]
def v168_14 : List COper := [
 cM 50 10 0,
 cN 51 50 1,
 cH (.store 1 (.t 51) (.c (.int .u64 (0)))) 3]
def v168_15 : List COper := [
 cS 52 (.bin .add .no (.t 22) (.c (.int .i64 (1)))) 0,
 cM 22 52 1]
def v168_b16 : CCode := (.seq (.region v168_6)
 (.seq (.cond (.t 23) .skip (.exit 0))
 (.seq (.block 1 (.seq (.region v168_7)
 (.seq (.seq (.region v168_8)
 (.seq (.region v168_9)
 (.cond (.t 30) (.seq (.region v168_10)
 (.seq (.region v168_11)
 (.exit 1))) .skip)))
 (.seq (.region v168_12)
 (.seq (.region v168_13)
 (.region v168_14))))))
 (.region v168_15))))
def v168_17 : List COper := [
 cM 53 7 0,
 cS 54 (.load (some 8) (.t 1)) 0,
 cM 2 53 1,
 cH (.store 8 (.t 3) (.t 54)) 7,
 cS 4 (.mov (.c (.int .i64 (0)))) 15]
def v168_17s : List Step := [
 .small 0 (cM 53 7 0),
 .small 1 (cS 54 (.load (some 8) (.t 1)) 0),
 .small 2 (cM 2 53 1),
 .big 3 (cH (.store 8 (.t 3) (.t 54)) 7),
 .small 4 (cS 4 (.mov (.c (.int .i64 (0)))) 15)]
theorem v168_17h : sched (v168_17.length + 1) (numbered v168_17 0) 0 = some v168_17s := by kernel_rfl
def v168_body : CCode := (.seq (.region v168_0)
 (.seq (.region v168_1)
 (.seq (.seq (.region v168_2)
 (.cond (.t 18) (.seq (.draw v168_3)
 .ret) .skip))
 (.seq (.region v168_4)
 (.seq (.seq (.region v168_5)
 (.block 0 (.loop v168_b16)))
 (.seq (.draw v168_17)
 .ret))))))
def v168 : VFunc := ⟨55, [.t 2, .cell 3 (some 8), .t 4], true, v168_body,
 fun i => match i with | 0 => [22, 7, 1, 5, 3, 21] | _ => [],
 fun i => match i with | 0 => [3, 7, 1] | 1 => [7, 1, 5, 3, 21, 22] | _ => []⟩
@[simp] theorem v168_c : v168.body = v168_body := rfl
@[simp] theorem v168_r : v168.results = [.t 2, .cell 3 (some 8), .t 4] := rfl
@[simp] theorem v168_o : v168.own = true := rfl
@[simp] theorem v168_h0 : v168.head 0 = [22, 7, 1, 5, 3, 21] := rfl
@[simp] theorem v168_t0 : v168.tail 0 = [3, 7, 1] := rfl
@[simp] theorem v168_t1 : v168.tail 1 = [7, 1, 5, 3, 21, 22] := rfl
def v171_0 : List COper := [
 cS 2 (.mov (.c (.str []))) 0,
 cS 3 (.mov (.c (.bool false))) 1]
def v171_1 : List COper := [
 cS 4 (.mov (.c (.str []))) 0]
def v171_2 : List COper := [
 cM 5 0 0]
def v171_3 : List COper := [
 cS 7 (.bin .eql .int (.t 5) (.c (.int .u8 (109)))) 0,
 cM 6 7 1]
def v171_4 : List COper := [
 cS 9 (.bin .eql .int (.t 5) (.c (.int .u8 (115)))) 0,
 cM 8 9 1]
def v171_5 : List COper := [
 cS 11 (.bin .eql .int (.t 5) (.c (.int .u8 (122)))) 0,
 cM 10 11 1]
def v171_6 : List COper := [
 cS 13 (.bin .eql .int (.t 5) (.c (.int .u8 (97)))) 0,
 cM 12 13 1]
def v171_7 : List COper := [
 cS 15 (.bin .eql .int (.t 5) (.c (.int .u8 (107)))) 0,
 cM 14 15 1]
def v171_8 : List COper := [
 cS 17 (.bin .eql .int (.t 5) (.c (.int .u8 (116)))) 0,
 cM 16 17 1]
def v171_9 : List COper := [
 cS 19 (.bin .eql .int (.t 5) (.c (.int .u8 (105)))) 0,
 cM 18 19 1]
def v171_10 : List COper := [
 cS 21 (.bin .eql .int (.t 5) (.c (.int .u8 (118)))) 0,
 cM 20 21 1]
def v171_11 : List COper := [
 cS 23 (.bin .eql .int (.t 5) (.c (.int .u8 (98)))) 0,
 cM 22 23 1]
def v171_12 : List COper := [
 cS 25 (.bin .eql .int (.t 5) (.c (.int .u8 (101)))) 0,
 cM 24 25 1]
def v171_13 : List COper := [
 cS 27 (.bin .eql .int (.t 5) (.c (.int .u8 (100)))) 0,
 cM 26 27 1]
def v171_14 : List COper := [
 cS 29 (.bin .eql .int (.t 5) (.c (.int .u8 (99)))) 0,
 cM 28 29 1]
def v171_15 : List COper := [
 cS 4 (.mov (.c (.str [110, 107]))) 0]
def v171_16 : List COper := [
 cM 30 4 0,
 cS 31 (.bin .eql .str (.t 30) (.c (.str []))) 1]
def v171_17 : List COper := [
 cS 4 (.mov (.c (.str [110]))) 0]
def v171_18 : List COper := [
 cM 32 4 0,
 cS 33 (.bin .eql .str (.t 32) (.c (.str []))) 1]
def v171_19 : List COper := [
 cS 4 (.mov (.c (.str [97]))) 0]
def v171_20 : List COper := [
 cM 34 4 0,
 cS 35 (.bin .add .no (.t 34) (.c (.str [105, 116, 111]))) 1,
 cM 2 35 3,
 cS 3 (.mov (.c (.bool true))) 7]
def v171_21 : List COper := [
 cS 4 (.mov (.c (.str [110]))) 0]
def v171_22 : List COper := [
 cM 36 4 0,
 cS 37 (.bin .add .no (.t 36) (.c (.str [105, 116]))) 1,
 cM 2 37 3,
 cS 3 (.mov (.c (.bool true))) 7]
def v171_23 : List COper := [
 cS 2 (.mov (.c (.str [105]))) 0,
 cS 3 (.mov (.c (.bool true))) 1]
def v171_24 : List COper := [
 cS 2 (.mov (.c (.str [105, 110]))) 0,
 cS 3 (.mov (.c (.bool true))) 1]
def v171_25 : List COper := [
 cS 2 (.mov (.c (.str [110, 107, 100]))) 0,
 cS 3 (.mov (.c (.bool true))) 1]
def v171_26 : List COper := [
 cS 2 (.mov (.c (.str [110, 97]))) 0,
 cS 3 (.mov (.c (.bool true))) 1]
def v171_27 : List COper := [
 cS 2 (.mov (.c (.str [110]))) 0,
 cS 3 (.mov (.c (.bool true))) 1]
def v171_28 : List COper := [
 cS 2 (.mov (.c (.str []))) 0,
 cS 3 (.mov (.c (.bool true))) 1]
def v171_29 : List COper := [
 cS 2 (.mov (.c (.str []))) 0,
 cS 3 (.mov (.c (.bool false))) 1]
def v171_body : CCode := (.seq (.region v171_0)
 (.seq (.region v171_1)
 (.seq (.seq (.region v171_2)
 (.block 0 (.seq (.block 12 (.seq (.block 11 (.seq (.block 10 (.seq (.block 9 (.seq (.block 8 (.seq (.block 7 (.seq (.block 6 (.seq (.block 5 (.seq (.block 4 (.seq (.block 3 (.seq (.block 2 (.seq (.block 1 (.seq (.seq (.seq (.region v171_3)
 (.cond (.t 6) (.exit 1) .skip))
 (.seq (.seq (.region v171_4)
 (.cond (.t 8) (.exit 2) .skip))
 (.seq (.seq (.region v171_5)
 (.cond (.t 10) (.exit 3) .skip))
 (.seq (.seq (.region v171_6)
 (.cond (.t 12) (.exit 4) .skip))
 (.seq (.seq (.region v171_7)
 (.cond (.t 14) (.exit 5) .skip))
 (.seq (.seq (.region v171_8)
 (.cond (.t 16) (.exit 6) .skip))
 (.seq (.seq (.region v171_9)
 (.cond (.t 18) (.exit 7) .skip))
 (.seq (.seq (.region v171_10)
 (.cond (.t 20) (.exit 8) .skip))
 (.seq (.seq (.region v171_11)
 (.cond (.t 22) (.exit 9) .skip))
 (.seq (.seq (.region v171_12)
 (.cond (.t 24) (.exit 10) .skip))
 (.seq (.seq (.region v171_13)
 (.cond (.t 26) (.exit 11) .skip))
 (.seq (.region v171_14)
 (.cond (.t 28) (.exit 12) .skip)))))))))))))
 (.exit 0)))
 (.region v171_15)))
 (.seq (.region v171_16)
 (.cond (.t 31) (.region v171_17) .skip))))
 (.seq (.region v171_18)
 (.cond (.t 33) (.region v171_19) .skip))))
 (.seq (.seq (.region v171_20)
 .ret)
 (.exit 0))))
 (.region v171_21)))
 (.seq (.seq (.region v171_22)
 .ret)
 (.exit 0))))
 (.seq (.seq (.region v171_23)
 .ret)
 (.exit 0))))
 (.seq (.seq (.region v171_24)
 .ret)
 (.exit 0))))
 (.seq (.seq (.region v171_25)
 .ret)
 (.exit 0))))
 (.seq (.seq (.region v171_26)
 .ret)
 (.exit 0))))
 (.seq (.seq (.region v171_27)
 .ret)
 (.exit 0))))
 (.seq (.seq (.region v171_28)
 .ret)
 (.exit 0)))))
 (.seq (.region v171_29)
 .ret))))
def v171 : VFunc := ⟨38, [.t 2, .t 3], true, v171_body,
 fun _ => [],
 fun i => match i with | 1 => [] | 2 => [4] | 3 => [4] | 4 => [4] | 5 => [] | 6 => [4] | 7 => [] | 8 => [] | 9 => [] | 10 => [] | 11 => [] | 12 => [] | 0 => [] | _ => []⟩
@[simp] theorem v171_c : v171.body = v171_body := rfl
@[simp] theorem v171_r : v171.results = [.t 2, .t 3] := rfl
@[simp] theorem v171_o : v171.own = true := rfl
@[simp] theorem v171_t1 : v171.tail 1 = [] := rfl
@[simp] theorem v171_t2 : v171.tail 2 = [4] := rfl
@[simp] theorem v171_t3 : v171.tail 3 = [4] := rfl
@[simp] theorem v171_t4 : v171.tail 4 = [4] := rfl
@[simp] theorem v171_t5 : v171.tail 5 = [] := rfl
@[simp] theorem v171_t6 : v171.tail 6 = [4] := rfl
@[simp] theorem v171_t7 : v171.tail 7 = [] := rfl
@[simp] theorem v171_t8 : v171.tail 8 = [] := rfl
@[simp] theorem v171_t9 : v171.tail 9 = [] := rfl
@[simp] theorem v171_t10 : v171.tail 10 = [] := rfl
@[simp] theorem v171_t11 : v171.tail 11 = [] := rfl
@[simp] theorem v171_t12 : v171.tail 12 = [] := rfl
@[simp] theorem v171_t0 : v171.tail 0 = [] := rfl
def v172_0 : List COper := [
 cS 4 (.mov (.c .nilp)) 0]
def v172_1 : List COper := [
 cM 5 1 0]
def v172_2 : List COper := [
 cS 7 (.bin .eql .int (.t 5) (.c (.int .u8 (110)))) 0,
 cM 6 7 1]
def v172_3 : List COper := [
 cM 8 0 0,
 cN 9 8 1,
 cF 10 1 9 3,
 cM 4 10 7]
def v172_4 : List COper := [
 cS 12 (.bin .eql .int (.t 5) (.c (.int .u8 (107)))) 0,
 cM 11 12 1]
def v172_5 : List COper := [
 cM 13 0 0,
 cN 14 13 1,
 cF 15 2 14 3,
 cM 4 15 7]
def v172_6 : List COper := [
 cS 17 (.bin .eql .int (.t 5) (.c (.int .u8 (100)))) 0,
 cM 16 17 1]
def v172_7 : List COper := [
 cM 18 0 0,
 cN 19 18 1,
 cF 20 3 19 3,
 cM 4 20 7]
def v172_8 : List COper := [
 cS 22 (.bin .eql .int (.t 5) (.c (.int .u8 (105)))) 0,
 cM 21 22 1]
def v172_9 : List COper := [
 cM 23 0 0,
 cN 24 23 1,
 cF 25 4 24 3,
 cM 4 25 7]
def v172_10 : List COper := [
 cS 4 (.mov (.c .nilp)) 0]
def v172_body : CCode := (.seq (.region v172_0)
 (.seq (.seq (.region v172_1)
 (.block 0 (.seq (.region v172_2)
 (.cond (.t 6) (.seq (.region v172_3)
 .ret) (.seq (.region v172_4)
 (.cond (.t 11) (.seq (.region v172_5)
 .ret) (.seq (.region v172_6)
 (.cond (.t 16) (.seq (.region v172_7)
 .ret) (.seq (.region v172_8)
 (.cond (.t 21) (.seq (.region v172_9)
 .ret) .skip))))))))))
 (.seq (.region v172_10)
 .ret)))
def v172 : VFunc := ⟨26, [.t 4], true, v172_body,
 fun _ => [],
 fun i => match i with | 0 => [] | _ => []⟩
@[simp] theorem v172_c : v172.body = v172_body := rfl
@[simp] theorem v172_r : v172.results = [.t 4] := rfl
@[simp] theorem v172_o : v172.own = true := rfl
@[simp] theorem v172_t0 : v172.tail 0 = [] := rfl
def v227_0 : List COper := [
 cS 4 (.mov (.c (.str []))) 0]
def v227_1 : List COper := [
 cM 9 0 0,
 ⟨some 10, .m (.buildSlice 1 1 [(.int .u8 (0))] [(0, 1, .t 9)]), none, 1⟩,
 cM 5 10 3]
def v227_2 : List COper := [
 cM 11 1 0,
 cS 12 (.len 1 (.t 11)) 1,
 cS 13 (.mov (.c (.int .i64 (0)))) 0]
def v227_3 : List COper := [
 cS 14 (.bin .lss .no (.t 13) (.t 12)) 0]
def v227_4 : List COper := [
 cS 15 (.indexAddr 1 (.t 11) (.t 13)) 0,
 cL 16 15 1,
 cM 7 16 3]
def v227_5 : List COper := [
 cM 17 7 0,
 cS 18 (.len 0 (.t 17)) 1,
 cS 19 (.mov (.c (.int .i64 (0)))) 0]
def v227_6 : List COper := [
 cS 20 (.bin .lss .no (.t 19) (.t 18)) 0]
def v227_7 : List COper := [
 cM 21 19 0,
 cM 8 21 1]
def v227_8 : List COper := [
 cM 22 5 0,
 cM 23 7 0,
 cM 24 8 0,
 cS 25 (.index (.t 23) (.t 24)) 6,
 ⟨some 26, .m (.buildSlice 1 1 [(.int .u8 (0))] [(0, 1, .t 25)]), none, 14⟩,
 ⟨some 27, .h (.append 1 1 false (.t 22) (.t 26)), none, 31⟩,
 cM 5 27 63]
def v227_9 : List COper := [
 cM 28 7 0,
 cM 29 8 0,
 cS 30 (.index (.t 28) (.t 29)) 3,
 cS 31 (.bin .eql .int (.t 30) (.c (.int .u8 (0)))) 7]
def v227_10 : List COper := [
 cM 32 5 0,
 ⟨some 33, .m (.buildSlice 1 1 [(.int .u8 (0))] [(0, 1, (.c (.int .u8 (255))))]), none, 0⟩,
 ⟨some 34, .h (.append 1 1 false (.t 32) (.t 33)), none, 3⟩,
 cM 5 34 7]
def v227_11 : List COper := [
 cS 35 (.bin .add .no (.t 19) (.c (.int .i64 (1)))) 0,
 cM 19 35 1]
def v227_b12 : CCode := (.seq (.region v227_6)
 (.seq (.cond (.t 20) .skip (.exit 2))
 (.seq (.block 3 (.seq (.region v227_7)
 (.seq (.region v227_8)
 (.seq (.region v227_9)
 (.cond (.t 31) (.region v227_10) .skip)))))
 (.region v227_11))))
def v227_13 : List COper := [
 cM 36 5 0,
 ⟨some 37, .m (.buildSlice 1 2 [(.int .u8 (0))] [(0, 1, (.c (.int .u8 (0)))), (1, 1, (.c (.int .u8 (1))))]), none, 0⟩,
 ⟨some 38, .h (.append 1 1 false (.t 36) (.t 37)), none, 3⟩,
 cM 5 38 7]
def v227_14 : List COper := [
 cS 39 (.bin .add .no (.t 13) (.c (.int .i64 (1)))) 0,
 cM 13 39 1]
def v227_b15 : CCode := (.seq (.region v227_3)
 (.seq (.cond (.t 14) .skip (.exit 0))
 (.seq (.block 1 (.seq (.region v227_4)
 (.seq (.seq (.region v227_5)
 (.block 2 (.loop v227_b12)))
 (.region v227_13))))
 (.region v227_14))))
def v227_16 : List COper := [
 cM 40 5 0,
 cS 41 (.toStr (.t 40)) 1,
 cM 4 41 3]
def v227_body : CCode := (.seq (.region v227_0)
 (.seq (.region v227_1)
 (.seq (.seq (.region v227_2)
 (.block 0 (.loop v227_b15)))
 (.seq (.region v227_16)
 .ret))))
def v227 : VFunc := ⟨42, [.t 4], true, v227_body,
 fun i => match i with | 0 => [5, 13, 11, 12] | 2 => [19, 7, 5, 11, 12, 13, 18] | _ => [],
 fun i => match i with | 0 => [5] | 2 => [11, 12, 13, 5] | 3 => [7, 5, 11, 12, 13, 18, 19] | 1 => [5, 11, 12, 13] | _ => []⟩
@[simp] theorem v227_c : v227.body = v227_body := rfl
@[simp] theorem v227_r : v227.results = [.t 4] := rfl
@[simp] theorem v227_o : v227.own = true := rfl
@[simp] theorem v227_h0 : v227.head 0 = [5, 13, 11, 12] := rfl
@[simp] theorem v227_h2 : v227.head 2 = [19, 7, 5, 11, 12, 13, 18] := rfl
@[simp] theorem v227_t0 : v227.tail 0 = [5] := rfl
@[simp] theorem v227_t2 : v227.tail 2 = [11, 12, 13, 5] := rfl
@[simp] theorem v227_t3 : v227.tail 3 = [7, 5, 11, 12, 13, 18, 19] := rfl
@[simp] theorem v227_t1 : v227.tail 1 = [5, 11, 12, 13] := rfl
def v228_0 : List COper := [
 cS 2 (.mov (.c (.str []))) 0]
def v228_1 : List COper := [
 ⟨some 3, .m (.alloc [(.int .u8 (0)), (.int .u8 (0)), (.int .u8 (0)), (.int .u8 (0)), (.int .u8 (0)), (.int .u8 (0)), (.int .u8 (0)), (.int .u8 (0)), (.int .u8 (0)), (.int .u8 (0)), (.int .u8 (0)), (.int .u8 (0)), (.int .u8 (0)), (.int .u8 (0)), (.int .u8 (0)), (.int .u8 (0))]), none, 0⟩]
def v228_2 : List COper := [
 cS 5 (.mov (.c (.int .i64 (0)))) 0]
def v228_3 : List COper := [
 cS 6 (.bin .lss .no (.t 5) (.c (.int .i64 (16)))) 0]
def v228_4 : List COper := [
 cM 7 5 0,
 cM 4 7 1]
def v228_5 : List COper := [
 cM 8 4 0,
 cM 9 0 0,
 cM 10 4 0,
 cS 11 (.bin .mul .no (.c (.int .i64 (4))) (.t 10)) 4,
 cS 12 (.bin .sub .no (.c (.int .i64 (60))) (.t 11)) 12,
 cS 13 (.convInt .u64 (.t 12)) 28,
 cS 14 (.bin .shr .no (.t 9) (.t 13)) 62,
 cS 15 (.bin .and .no (.t 14) (.c (.int .u64 (15)))) 126,
 cS 16 (.index (.c (.str [48, 49, 50, 51, 52, 53, 54, 55, 56, 57, 97, 98, 99, 100, 101, 102])) (.t 15)) 254,
 cS 17 (.indexArr 16 1 (.t 3) (.t 8)) 511,
 cH (.store 1 (.t 17) (.t 16)) 1023]
def v228_6 : List COper := [
 cS 18 (.bin .add .no (.t 5) (.c (.int .i64 (1)))) 0,
 cM 5 18 1]
def v228_b7 : CCode := (.seq (.region v228_3)
 (.seq (.cond (.t 6) .skip (.exit 0))
 (.seq (.block 1 (.seq (.region v228_4)
 (.region v228_5)))
 (.region v228_6))))
def v228_8 : List COper := [
 cS 19 (.sliceArr 16 1 (.t 3) none none) 0,
 cS 20 (.toStr (.t 19)) 1,
 cM 2 20 3]
def v228_body : CCode := (.seq (.region v228_0)
 (.seq (.region v228_1)
 (.seq (.seq (.region v228_2)
 (.block 0 (.loop v228_b7)))
 (.seq (.region v228_8)
 .ret))))
def v228 : VFunc := ⟨21, [.t 2], true, v228_body,
 fun i => match i with | 0 => [5, 3, 0] | _ => [],
 fun i => match i with | 0 => [3] | 1 => [3, 0, 5] | _ => []⟩
@[simp] theorem v228_c : v228.body = v228_body := rfl
@[simp] theorem v228_r : v228.results = [.t 2] := rfl
@[simp] theorem v228_o : v228.own = true := rfl
@[simp] theorem v228_h0 : v228.head 0 = [5, 3, 0] := rfl
@[simp] theorem v228_t0 : v228.tail 0 = [3] := rfl
@[simp] theorem v228_t1 : v228.tail 1 = [3, 0, 5] := rfl
def v10_0 : List COper := [
 ⟨some 3, .m (.box (.t 0)), none, 0⟩,
 cS 6 (.mov (.c (.bool false))) 0]
def v10_1 : List COper := [
 cC 23 11 [] 0,
 cS 24 (.un .not (.t 23)) 1,
 cM 25 24 3,
 cG 26 (.load (some 27) (.t 3)) 25 false 7,
 ⟨some 27, .m (.buildSlice 27 1 [(.int .i64 (0)), (.int .u8 (0)), (.str []), (.str []), (.str []), (.str []), (.int .u64 (0)), (.int .u64 (0)), (.int .u64 (0)), (.int .i64 (0)), (.cslice [] 0 0 1), (.str []), (.int .u64 (0)), (.int .i64 (0)), (.str []), (.int .u64 (0)), (.int .i64 (0)), (.int .u64 (0)), (.int .i64 (0)), (.int .i64 (0)), (.str []), (.str []), (.int .u64 (0)), (.str []), (.int .i64 (0)), (.int .i64 (0)), (.str [])] [(0, 27, .t 26)]), some (25, false), 15⟩,
 cCG 28 32 [.t 27] 25 false 31,
 cG 29 (.un .not (.t 28)) 25 false 63,
 cP 30 25 29 127,
 cM 31 30 255,
 cMG 32 1 31 false 511,
 cCG 33 12 [.t 32] 31 false 1023,
 cG 34 (.un .not (.t 33)) 31 false 2047,
 cP 35 31 34 4095,
 cM 36 35 8191,
 cMG 37 2 36 false 16383,
 cG 38 (.len 0 (.t 37)) 36 false 32767,
 cG 39 (.bin .gtr .no (.t 38) (.c (.int .i64 (300)))) 36 false 65535,
 cP 40 36 39 131071]
def v10_2 : List COper := [
 cC 41 11 [] 0,
 cM 6 41 1]
def v10_3 : List COper := [
 cS 7 (.mov (.c .nilp)) 0]
def v10_4 : List COper := [
 ⟨some 8, .m (.alloc [.nili, .nilm]), none, 0⟩]
def v10_5 : List COper := [
 cF 42 0 3 0,
 cL 43 42 1,
 cS 44 (.bin .lss .no (.t 43) (.c (.int .i64 (0)))) 3,
 cM 45 44 7,
 cG 46 (.fieldAddr 0 (.t 3)) 45 false 15,
 cG 47 (.load none (.t 46)) 45 false 31,
 cG 48 (.bin .gtr .no (.t 47) (.c (.int .i64 (13)))) 45 false 63,
 cP 49 45 48 127]
def v10_6 : List COper := [
 cF 50 0 3 0,
 cH (.store 1 (.t 50) (.c (.int .i64 (0)))) 1]
def v10_7 : List COper := [
 cM 51 7 0,
 cS 52 (.load (some 27) (.t 3)) 0,
 cC 53 35 [.t 51, .t 52] 3,
 cS 54 (.load (some 27) (.t 3)) 0,
 cC 55 35 [.t 8, .t 54] 15,
 ⟨some 9, .m (.alloc [(.cslice [] 0 0 1), (.bool false), (.cslice [] 0 0 9), (.int .u64 (0)), (.str []), (.int .u64 (0)), (.int .i64 (0)), (.str []), (.int .u64 (0)), (.int .i64 (0)), (.int .u64 (0)), (.int .i64 (0)), (.int .i64 (0)), (.str []), (.str []), (.int .u64 (0)), (.int .i64 (0)), (.int .i64 (0)), (.str []), (.bool false), (.cslice [] 0 0 1), (.int .i64 (0)), (.bool false), (.str []), (.str [])]), none, 0⟩,
 ⟨some 10, .m (.alloc [(.cslice [] 0 0 1), (.bool false), (.cslice [] 0 0 9), (.int .u64 (0)), (.str []), (.int .u64 (0)), (.int .i64 (0)), (.str []), (.int .u64 (0)), (.int .i64 (0)), (.int .u64 (0)), (.int .i64 (0)), (.int .i64 (0)), (.str []), (.str []), (.int .u64 (0)), (.int .i64 (0)), (.int .i64 (0)), (.str []), (.bool false), (.cslice [] 0 0 1), (.int .i64 (0)), (.bool false), (.str []), (.str [])]), none, 0⟩,
 cH (.store 25 (.t 9) (.t 53)) 127,
 cH (.store 25 (.t 10) (.t 55)) 255]
def v10_7s : List Step := [
 .small 0 (cM 51 7 0),
 .small 1 (cS 52 (.load (some 27) (.t 3)) 0),
 .small 3 (cS 54 (.load (some 27) (.t 3)) 0),
 .small 5 ⟨some 9, .m (.alloc [(.cslice [] 0 0 1), (.bool false), (.cslice [] 0 0 9), (.int .u64 (0)), (.str []), (.int .u64 (0)), (.int .i64 (0)), (.str []), (.int .u64 (0)), (.int .i64 (0)), (.int .u64 (0)), (.int .i64 (0)), (.int .i64 (0)), (.str []), (.str []), (.int .u64 (0)), (.int .i64 (0)), (.int .i64 (0)), (.str []), (.bool false), (.cslice [] 0 0 1), (.int .i64 (0)), (.bool false), (.str []), (.str [])]), none, 0⟩,
 .small 6 ⟨some 10, .m (.alloc [(.cslice [] 0 0 1), (.bool false), (.cslice [] 0 0 9), (.int .u64 (0)), (.str []), (.int .u64 (0)), (.int .i64 (0)), (.str []), (.int .u64 (0)), (.int .i64 (0)), (.int .u64 (0)), (.int .i64 (0)), (.int .i64 (0)), (.str []), (.str []), (.int .u64 (0)), (.int .i64 (0)), (.int .i64 (0)), (.str []), (.bool false), (.cslice [] 0 0 1), (.int .i64 (0)), (.bool false), (.str []), (.str [])]), none, 0⟩,
 .big 2 (cC 53 35 [.t 51, .t 52] 3),
 .big 4 (cC 55 35 [.t 8, .t 54] 15),
 .big 7 (cH (.store 25 (.t 9) (.t 53)) 127),
 .big 8 (cH (.store 25 (.t 10) (.t 55)) 255)]
theorem v10_7h : sched (v10_7.length + 1) (numbered v10_7 0) 0 = some v10_7s := by kernel_rfl
def v10_8 : List COper := [
 cS 11 (.mov (.c .nilp)) 0]
def v10_9 : List COper := [
 cS 12 (.mov (.c .nilp)) 0]
def v10_10 : List COper := [
 cM 56 11 0,
 cS 57 (.build [(.str []), (.bool false), (.cslice [] 0 0 1)] [(0, 1, (.c (.str [97])))]) 0,
 ⟨some 58, .m (.buildSlice 3 1 [(.str []), (.bool false), (.cslice [] 0 0 1)] [(0, 3, .t 57)]), none, 2⟩,
 cC 59 17 [.t 56, .t 58] 7]
def v10_11 : List COper := [
 cM 60 12 0,
 cS 61 (.build [(.str []), (.str [])] [(0, 1, (.c (.str [97]))), (1, 1, (.c (.str [97])))]) 0,
 cM 62 1 0,
 cC 63 26 [.t 60, .t 61, .t 62] 7]
def v10_12 : List COper := [
 cM 65 11 0,
 cM 66 2 0,
 cC 67 19 [.t 65, .t 66] 3,
 cM 64 67 7,
 cE 68 0 64 15,
 cE 69 1 64 15,
 cE 70 2 64 15,
 cM 13 68 31,
 cM 14 69 191,
 cM 15 70 511]
def v10_13 : List COper := [
 cM 72 11 0,
 ⟨some 73, .call (.c (.func 21 [] [])) [.t 72, (.c (.str [])), (.c (.str []))], none, 1⟩,
 cM 71 73 3,
 cE 74 0 71 7,
 cE 75 1 71 7,
 cM 16 74 15,
 cM 17 75 63]
def v10_14 : List COper := [
 cM 77 12 0,
 cM 78 2 0,
 cC 79 28 [.t 77, .t 78] 3,
 cM 76 79 7,
 cE 80 0 76 15,
 cE 81 1 76 15,
 cE 82 2 76 15,
 cM 18 80 31,
 cM 19 81 191,
 cM 20 82 511]
def v10_15 : List COper := [
 cM 84 20 0,
 cC 85 41 [.t 84] 1,
 cM 83 85 3,
 cE 86 0 83 7,
 cE 87 1 83 7,
 ⟨some 21, .m (.alloc [(.str []), (.str [])]), none, 0⟩,
 cH (.store 2 (.t 21) (.t 86)) 47,
 cM 22 87 127]
def v10_16 : List COper := [
 cF 88 19 9 0,
 cF 89 2 88 1,
 cL 90 89 3,
 cS 91 (.bin .eql .int (.t 90) (.c (.int .i64 (2)))) 7,
 cM 92 91 15,
 cG 93 (.fieldAddr 19 (.t 10)) 92 true 31,
 cG 94 (.fieldAddr 2 (.t 93)) 92 true 63,
 cG 95 (.load none (.t 94)) 92 true 127,
 cG 96 (.bin .eql .int (.t 95) (.c (.int .i64 (2)))) 92 true 255,
 cQ 97 92 96 511,
 cM 98 97 1023,
 cMG 99 7 98 true 2047,
 cCG 100 38 [.t 99] 98 true 4095,
 cG 101 (.len 1 (.t 100)) 98 true 8191,
 cG 102 (.bin .eql .int (.t 101) (.c (.int .i64 (0)))) 98 true 16383,
 cQ 103 98 102 32767,
 cM 104 103 65535,
 cCG 105 38 [.t 8] 104 true 131071,
 cG 106 (.len 1 (.t 105)) 104 true 262143,
 cG 107 (.bin .eql .int (.t 106) (.c (.int .i64 (0)))) 104 true 524287,
 cQ 108 104 107 1048575,
 cM 109 108 2097151,
 cMG 110 14 109 true 4194303,
 cG 111 (.un .not (.t 110)) 109 true 8388607,
 cQ 112 109 111 16777215,
 cM 113 112 33554431,
 cMG 114 15 113 true 67108863,
 cG 115 (.bin .eql (.iface false) (.t 114) (.c .nili)) 113 true 134217727,
 cQ 116 113 115 268435455,
 cM 117 116 536870911,
 cMG 118 17 117 true 1073741823,
 cG 119 (.bin .eql (.iface false) (.t 118) (.c .nili)) 117 true 2147483647,
 cQ 120 117 119 4294967295,
 cM 121 120 8589934591,
 cMG 122 11 121 true 17179869183,
 cCG 123 15 [.t 122] 121 true 34359738367,
 cG 124 (.len 1 (.t 123)) 121 true 68719476735,
 cG 125 (.bin .eql .int (.t 124) (.c (.int .i64 (0)))) 121 true 137438953471,
 cQ 126 121 125 274877906943,
 cM 127 126 549755813887,
 cMG 128 19 127 true 1099511627775,
 cG 129 (.un .not (.t 128)) 127 true 2199023255551,
 cQ 130 127 129 4398046511103,
 cM 131 130 8796093022207,
 cMG 132 22 131 true 17592186044415,
 cQ 133 131 132 35184372088831,
 cM 134 133 70368744177663,
 cG 135 (.load (some 2) (.t 21)) 134 true 140737488355327,
 cMG 136 2 134 true 140737488355327,
 cMG 137 2 134 true 140737488355327,
 cG 138 (.build [(.str []), (.str [])] [(0, 1, .t 136), (1, 1, .t 137)]) 134 true 985162418487295,
 cG 139 (.bin .eql (.flat [(0, .str), (1, .str)]) (.t 135) (.t 138)) 134 true 2251799813685247,
 cQ 140 134 139 4503599627370495,
 cM 6 140 9007199254740991]
def v10_body : CCode := (.seq (.region v10_0)
 (.seq (.seq (.region v10_1)
 (.cond (.t 40) (.seq (.region v10_2)
 .ret) .skip))
 (.seq (.region v10_3)
 (.seq (.region v10_4)
 (.seq (.seq (.region v10_5)
 (.cond (.t 49) (.region v10_6) .skip))
 (.seq (.draw v10_7)
 (.seq (.region v10_8)
 (.seq (.region v10_9)
 (.seq (.region v10_10)
 (.seq (.region v10_11)
 (.seq (.region v10_12)
 (.seq (.region v10_13)
 (.seq (.region v10_14)
 (.seq (.region v10_15)
 (.seq (.region v10_16)
 .ret)))))))))))))))
def v10 : VFunc := ⟨141, [.t 6], true, v10_body,
 fun _ => [],
 fun _ => []⟩
@[simp] theorem v10_c : v10.body = v10_body := rfl
@[simp] theorem v10_r : v10.results = [.t 6] := rfl
@[simp] theorem v10_o : v10.own = true := rfl
def v32_0 : List COper := [
 cS 2 (.mov (.c (.bool false))) 0]
def v32_1 : List COper := [
 cM 6 0 0,
 cS 7 (.len 1 (.t 6)) 1,
 cS 8 (.mov (.c (.int .i64 (0)))) 0]
def v32_2 : List COper := [
 cS 9 (.bin .lss .no (.t 8) (.t 7)) 0]
def v32_3 : List COper := [
 cS 10 (.indexAddr 27 (.t 6) (.t 8)) 0,
 cS 11 (.load (some 27) (.t 10)) 1,
 ⟨some 4, .m (.alloc [(.int .i64 (0)), (.int .u8 (0)), (.str []), (.str []), (.str []), (.str []), (.int .u64 (0)), (.int .u64 (0)), (.int .u64 (0)), (.int .i64 (0)), (.cslice [] 0 0 1), (.str []), (.int .u64 (0)), (.int .i64 (0)), (.str []), (.int .u64 (0)), (.int .i64 (0)), (.int .u64 (0)), (.int .i64 (0)), (.int .i64 (0)), (.str []), (.str []), (.int .u64 (0)), (.str []), (.int .i64 (0)), (.int .i64 (0)), (.str [])]), none, 0⟩,
 cH (.store 27 (.t 4) (.t 11)) 7]
def v32_4 : List COper := [
 cF 12 1 4 0,
 cS 13 (.load (some 8) (.t 12)) 1,
 ⟨some 5, .m (.alloc [(.int .u8 (0)), (.str []), (.str []), (.str []), (.str []), (.int .u64 (0)), (.int .u64 (0)), (.int .u64 (0))]), none, 0⟩,
 cH (.store 8 (.t 5) (.t 13)) 7]
def v32_5 : List COper := [
 cF 14 1 5 0,
 cL 15 14 1,
 cS 16 (.len 0 (.t 15)) 3,
 cF 17 2 5 0,
 cL 18 17 8,
 cS 19 (.len 0 (.t 18)) 24,
 cS 20 (.bin .add .no (.t 16) (.t 19)) 63,
 cF 21 3 5 0,
 cL 22 21 128,
 cS 23 (.len 0 (.t 22)) 384,
 cS 24 (.bin .add .no (.t 20) (.t 23)) 1023,
 cF 25 4 5 0,
 cL 26 25 2048,
 cS 27 (.len 0 (.t 26)) 6144,
 cS 28 (.bin .add .no (.t 24) (.t 27)) 16383,
 cF 29 10 4 0,
 cL 30 29 32768,
 cS 31 (.len 1 (.t 30)) 98304,
 cS 32 (.bin .add .no (.t 28) (.t 31)) 262143,
 cF 33 11 4 0,
 cF 34 0 33 524288,
 cL 35 34 1572864,
 cS 36 (.len 0 (.t 35)) 3670016,
 cS 37 (.bin .add .no (.t 32) (.t 36)) 8388607,
 cF 38 11 4 0,
 cF 39 3 38 16777216,
 cL 40 39 50331648,
 cS 41 (.len 0 (.t 40)) 117440512,
 cS 42 (.bin .add .no (.t 37) (.t 41)) 268435455,
 cF 43 19 4 0,
 cF 44 1 43 536870912,
 cL 45 44 1610612736,
 cS 46 (.len 0 (.t 45)) 3758096384,
 cS 47 (.bin .add .no (.t 42) (.t 46)) 8589934591,
 cF 48 19 4 0,
 cF 49 2 48 17179869184,
 cL 50 49 51539607552,
 cS 51 (.len 0 (.t 50)) 120259084288,
 cS 52 (.bin .add .no (.t 47) (.t 51)) 274877906943,
 cF 53 23 4 0,
 cF 54 0 53 549755813888,
 cL 55 54 1649267441664,
 cS 56 (.len 0 (.t 55)) 3848290697216,
 cS 57 (.bin .add .no (.t 52) (.t 56)) 8796093022207,
 cF 58 23 4 0,
 cF 59 1 58 17592186044416,
 cF 60 2 59 52776558133248,
 cL 61 60 123145302310912,
 cS 62 (.len 0 (.t 61)) 263882790666240,
 cS 63 (.bin .add .no (.t 57) (.t 62)) 562949953421311,
 cS 64 (.bin .gtr .no (.t 63) (.c (.int .i64 (1000)))) 1125899906842623]
def v32_6 : List COper := [
 cS 2 (.mov (.c (.bool false))) 0]
def v32_7 : List COper := [
 cS 65 (.bin .add .no (.t 8) (.c (.int .i64 (1)))) 0,
 cM 8 65 1]
def v32_b8 : CCode := (.seq (.region v32_2)
 (.seq (.cond (.t 9) .skip (.exit 0))
 (.seq (.block 1 (.seq (.region v32_3)
 (.seq (.region v32_4)
 (.seq (.region v32_5)
 (.cond (.t 64) (.seq (.region v32_6)
 .ret) .skip)))))
 (.region v32_7))))
def v32_9 : List COper := [
 cM 66 0 0,
 cS 67 (.len 1 (.t 66)) 1,
 cS 68 (.bin .leq .no (.t 67) (.c (.int .i64 (60)))) 3,
 cM 2 68 7]
def v32_body : CCode := (.seq (.region v32_0)
 (.seq (.seq (.region v32_1)
 (.block 0 (.loop v32_b8)))
 (.seq (.region v32_9)
 .ret)))
def v32 : VFunc := ⟨69, [.t 2], true, v32_body,
 fun i => match i with | 0 => [8, 6, 0, 7] | _ => [],
 fun i => match i with | 0 => [0] | 1 => [6, 0, 7, 8] | _ => []⟩
@[simp] theorem v32_c : v32.body = v32_body := rfl
@[simp] theorem v32_r : v32.results = [.t 2] := rfl
@[simp] theorem v32_o : v32.own = true := rfl
@[simp] theorem v32_h0 : v32.head 0 = [8, 6, 0, 7] := rfl
@[simp] theorem v32_t0 : v32.tail 0 = [0] := rfl
@[simp] theorem v32_t1 : v32.tail 1 = [6, 0, 7, 8] := rfl
def v35_0 : List COper := [
 ⟨some 3, .m (.box (.t 1)), none, 0⟩,
 ⟨some 4, .m (.alloc [(.cslice [] 0 0 1), (.bool false), (.cslice [] 0 0 9), (.int .u64 (0)), (.str []), (.int .u64 (0)), (.int .i64 (0)), (.str []), (.int .u64 (0)), (.int .i64 (0)), (.int .u64 (0)), (.int .i64 (0)), (.int .i64 (0)), (.str []), (.str []), (.int .u64 (0)), (.int .i64 (0)), (.int .i64 (0)), (.str []), (.bool false), (.cslice [] 0 0 1), (.int .i64 (0)), (.bool false), (.str []), (.str [])]), none, 0⟩]
def v35_1 : List COper := [
 ⟨some 5, .m (.alloc [(.cslice [] 0 0 1), (.bool false), (.cslice [] 0 0 9), (.int .u64 (0)), (.str []), (.int .u64 (0)), (.int .i64 (0)), (.str []), (.int .u64 (0)), (.int .i64 (0)), (.int .u64 (0)), (.int .i64 (0)), (.int .i64 (0)), (.str []), (.str []), (.int .u64 (0)), (.int .i64 (0)), (.int .i64 (0)), (.str []), (.bool false), (.cslice [] 0 0 1), (.int .i64 (0)), (.bool false), (.str []), (.str [])]), none, 0⟩]
def v35_2 : List COper := [
 cS 6 (.mov (.c .nili)) 0]
def v35_3 : List COper := [
 cF 8 1 3 0,
 cS 9 (.load (some 8) (.t 8)) 1,
 ⟨some 7, .m (.alloc [(.int .u8 (0)), (.str []), (.str []), (.str []), (.str []), (.int .u64 (0)), (.int .u64 (0)), (.int .u64 (0))]), none, 0⟩,
 cH (.store 8 (.t 7) (.t 9)) 7]
def v35_4 : List COper := [
 cF 10 0 3 0,
 cL 11 10 1]
def v35_5 : List COper := [
 cS 13 (.bin .eql .int (.t 11) (.c (.int .i64 (0)))) 0,
 cM 12 13 1]
def v35_6 : List COper := [
 cM 15 0 0,
 cS 16 (.load (some 8) (.t 7)) 0,
 cC 17 64 [.t 15, .t 16] 3,
 cM 14 17 7,
 cE 18 0 14 15,
 cE 19 1 14 15,
 cE 20 2 14 15,
 cF 21 0 5 31,
 cH (.store 1 (.t 21) (.t 18)) 159,
 cF 22 1 5 447,
 cH (.store 1 (.t 22) (.t 19)) 959,
 cM 6 20 2047]
def v35_7 : List COper := [
 cS 24 (.bin .eql .int (.t 11) (.c (.int .i64 (1)))) 0,
 cM 23 24 1]
def v35_8 : List COper := [
 cM 26 0 0,
 cS 27 (.load (some 8) (.t 7)) 0,
 cF 28 9 3 0,
 cL 29 28 4,
 cC 30 65 [.t 26, .t 27, .t 29] 15,
 cM 25 30 31,
 cE 31 0 25 63,
 cE 32 1 25 63,
 cF 33 2 5 127,
 cH (.store 1 (.t 33) (.t 31)) 383,
 cM 6 32 1023]
def v35_9 : List COper := [
 cS 35 (.bin .eql .int (.t 11) (.c (.int .i64 (2)))) 0,
 cM 34 35 1]
def v35_10 : List COper := [
 cM 36 0 0,
 cS 37 (.load (some 8) (.t 7)) 0,
 cF 38 10 3 0,
 cL 39 38 4,
 cC 40 66 [.t 36, .t 37, .t 39] 15,
 cM 6 40 31]
def v35_11 : List COper := [
 cS 42 (.bin .eql .int (.t 11) (.c (.int .i64 (3)))) 0,
 cM 41 42 1]
def v35_12 : List COper := [
 cM 43 0 0,
 cS 44 (.load (some 8) (.t 7)) 0,
 cC 45 67 [.t 43, .t 44] 3,
 cM 6 45 7]
def v35_13 : List COper := [
 cS 47 (.bin .eql .int (.t 11) (.c (.int .i64 (4)))) 0,
 cM 46 47 1]
def v35_14 : List COper := [
 cM 49 0 0,
 cS 50 (.load (some 8) (.t 7)) 0,
 cC 51 68 [.t 49, .t 50] 3,
 cM 48 51 7,
 cE 52 0 48 15,
 cE 53 1 48 15,
 cE 54 2 48 15,
 cF 55 3 5 31,
 cH (.store 1 (.t 55) (.t 52)) 159,
 cF 56 1 5 447,
 cH (.store 1 (.t 56) (.t 53)) 959,
 cM 6 54 2047]
def v35_15 : List COper := [
 cS 58 (.bin .eql .int (.t 11) (.c (.int .i64 (5)))) 0,
 cM 57 58 1]
def v35_16 : List COper := [
 cM 60 0 0,
 cF 61 4 7 0,
 cL 62 61 2,
 cC 63 42 [.t 60, .t 62] 7,
 cM 59 63 15,
 cE 64 0 59 31,
 cE 65 1 59 31,
 cE 66 2 59 31,
 cF 67 4 5 63,
 cH (.store 5 (.t 67) (.t 64)) 319,
 cF 68 1 5 895,
 cH (.store 1 (.t 68) (.t 65)) 1919,
 cM 6 66 4095]
def v35_17 : List COper := [
 cS 70 (.bin .eql .int (.t 11) (.c (.int .i64 (6)))) 0,
 cM 69 70 1]
def v35_18 : List COper := [
 cM 72 0 0,
 cF 73 4 7 0,
 cL 74 73 2,
 cF 75 5 7 0,
 cL 76 75 8,
 cC 77 69 [.t 72, .t 74, .t 76] 31,
 cM 71 77 63,
 cE 78 0 71 127,
 cE 79 1 71 127,
 cE 80 2 71 127,
 cF 81 9 5 255,
 cH (.store 3 (.t 81) (.t 78)) 1279,
 cF 82 1 5 3583,
 cH (.store 1 (.t 82) (.t 79)) 7679,
 cM 6 80 16383]
def v35_19 : List COper := [
 cS 84 (.bin .eql .int (.t 11) (.c (.int .i64 (7)))) 0,
 cM 83 84 1]
def v35_20 : List COper := [
 cM 86 0 0,
 cF 87 4 7 0,
 cL 88 87 2,
 cF 89 5 7 0,
 cL 90 89 8,
 cF 91 6 7 0,
 cL 92 91 32,
 cC 93 70 [.t 86, .t 88, .t 90, .t 92] 127,
 cM 85 93 255,
 cE 94 0 85 511,
 cE 95 1 85 511,
 cE 96 2 85 511,
 cF 97 12 5 1023,
 cH (.store 4 (.t 97) (.t 94)) 5119,
 cF 98 1 5 14335,
 cH (.store 1 (.t 98) (.t 95)) 30719,
 cM 6 96 65535]
def v35_21 : List COper := [
 cS 100 (.bin .eql .int (.t 11) (.c (.int .i64 (8)))) 0,
 cM 99 100 1]
def v35_22 : List COper := [
 cM 102 0 0,
 cF 103 4 7 0,
 cL 104 103 2,
 cF 105 1 7 0,
 cL 106 105 8,
 cC 107 71 [.t 102, .t 104, .t 106] 31,
 cM 101 107 63,
 cE 108 0 101 127,
 cE 109 1 101 127,
 cE 110 2 101 127,
 cF 111 16 5 255,
 cH (.store 3 (.t 111) (.t 108)) 1279,
 cF 112 1 5 3583,
 cH (.store 1 (.t 112) (.t 109)) 7679,
 cM 6 110 16383]
def v35_23 : List COper := [
 cS 114 (.bin .eql .int (.t 11) (.c (.int .i64 (9)))) 0,
 cM 113 114 1]
def v35_24 : List COper := [
 cM 115 0 0,
 cF 116 4 7 0,
 cL 117 116 2,
 cF 118 11 3 0,
 cS 119 (.load (some 5) (.t 118)) 8,
 cC 120 72 [.t 115, .t 117, .t 119] 31,
 cM 6 120 63]
def v35_25 : List COper := [
 cS 122 (.bin .eql .int (.t 11) (.c (.int .i64 (10)))) 0,
 cM 121 122 1]
def v35_26 : List COper := [
 cM 123 0 0,
 cF 124 4 7 0,
 cL 125 124 2,
 cF 126 5 7 0,
 cL 127 126 8,
 cF 128 16 3 0,
 cS 129 (.load (some 3) (.t 128)) 32,
 cC 130 73 [.t 123, .t 125, .t 127, .t 129] 127,
 cM 6 130 255]
def v35_27 : List COper := [
 cS 132 (.bin .eql .int (.t 11) (.c (.int .i64 (11)))) 0,
 cM 131 132 1]
def v35_28 : List COper := [
 cM 133 0 0,
 cF 134 4 7 0,
 cL 135 134 2,
 cF 136 23 3 0,
 cS 137 (.load (some 4) (.t 136)) 8,
 cC 138 74 [.t 133, .t 135, .t 137] 31,
 cM 6 138 63]
def v35_29 : List COper := [
 cS 140 (.bin .eql .int (.t 11) (.c (.int .i64 (12)))) 0,
 cM 139 140 1]
def v35_30 : List COper := [
 cM 141 0 0,
 cF 142 4 7 0,
 cL 143 142 2,
 cF 144 5 7 0,
 cL 145 144 8,
 cF 146 6 7 0,
 cL 147 146 32,
 cF 148 19 3 0,
 cS 149 (.load (some 4) (.t 148)) 128,
 cC 150 75 [.t 141, .t 143, .t 145, .t 147, .t 149] 511,
 cM 6 150 1023]
def v35_31 : List COper := [
 cS 152 (.bin .eql .int (.t 11) (.c (.int .i64 (13)))) 0,
 cM 151 152 1]
def v35_32 : List COper := [
 cM 153 0 0,
 cF 154 4 7 0,
 cL 155 154 2,
 cF 156 5 7 0,
 cL 157 156 8,
 cF 158 6 7 0,
 cL 159 158 32,
 cC 160 76 [.t 153, .t 155, .t 157, .t 159] 127,
 cM 6 160 255]
def v35_33 : List COper := [
 cM 161 6 0,
 cC 162 31 [.t 161] 1,
 cF 163 19 5 3,
 cH (.store 6 (.t 163) (.t 162)) 7]
def v35_34 : List COper := [
 cS 164 (.load (some 25) (.t 5)) 0,
 cH (.store 25 (.t 4) (.t 164)) 1]
def v35_body : CCode := (.seq (.region v35_0)
 (.seq (.region v35_1)
 (.seq (.region v35_2)
 (.seq (.region v35_3)
 (.seq (.seq (.region v35_4)
 (.block 0 (.seq (.region v35_5)
 (.cond (.t 12) (.region v35_6) (.seq (.region v35_7)
 (.cond (.t 23) (.region v35_8) (.seq (.region v35_9)
 (.cond (.t 34) (.region v35_10) (.seq (.region v35_11)
 (.cond (.t 41) (.region v35_12) (.seq (.region v35_13)
 (.cond (.t 46) (.region v35_14) (.seq (.region v35_15)
 (.cond (.t 57) (.region v35_16) (.seq (.region v35_17)
 (.cond (.t 69) (.region v35_18) (.seq (.region v35_19)
 (.cond (.t 83) (.region v35_20) (.seq (.region v35_21)
 (.cond (.t 99) (.region v35_22) (.seq (.region v35_23)
 (.cond (.t 113) (.region v35_24) (.seq (.region v35_25)
 (.cond (.t 121) (.region v35_26) (.seq (.region v35_27)
 (.cond (.t 131) (.region v35_28) (.seq (.region v35_29)
 (.cond (.t 139) (.region v35_30) (.seq (.region v35_31)
 (.cond (.t 151) (.region v35_32) .skip))))))))))))))))))))))))))))))
 (.seq (.region v35_33)
 (.seq (.region v35_34)
 .ret)))))))
def v35 : VFunc := ⟨165, [.cell 4 (some 25)], true, v35_body,
 fun _ => [],
 fun i => match i with | 0 => [4, 5, 6] | _ => []⟩
@[simp] theorem v35_c : v35.body = v35_body := rfl
@[simp] theorem v35_r : v35.results = [.cell 4 (some 25)] := rfl
@[simp] theorem v35_o : v35.own = true := rfl
@[simp] theorem v35_t0 : v35.tail 0 = [4, 5, 6] := rfl
def v38_0 : List COper := [
 cS 2 (.mov (.c (.cslice [] 1 0 3))) 0]
def v38_1 : List COper := [
 cM 8 0 0,
 cS 9 (.bin .eql .nilp (.t 8) (.c .nilp)) 1]
def v38_2 : List COper := [
 cS 2 (.mov (.c (.cslice [] 1 0 3))) 0]
def v38_3 : List COper := [
 cS 3 (.mov (.c (.cslice [] 1 0 1))) 0]
def v38_4 : List COper := [
 cM 10 0 0,
 cN 11 10 1,
 cF 12 1 11 3,
 cL 13 12 7,
 ⟨some 14, .h (.range (.t 13)), none, 15⟩]
def v38_5 : List COper := [
 ⟨some 15, .next (.t 14), none, 0⟩,
 cE 16 0 15 1]
def v38_6 : List COper := [
 cS 17 (.entry (.t 14)) 0,
 cE 18 0 17 1,
 cM 4 18 3]
def v38_7 : List COper := [
 cM 19 3 0,
 cM 20 4 0,
 ⟨some 21, .m (.buildSlice 1 1 [(.str [])] [(0, 1, .t 20)]), none, 2⟩,
 ⟨some 22, .h (.append 1 16 false (.t 19) (.t 21)), none, 7⟩,
 cM 3 22 15]
def v38_b8 : CCode := (.seq (.region v38_5)
 (.seq (.cond (.t 16) .skip (.exit 0))
 (.block 1 (.seq (.region v38_6)
 (.region v38_7)))))
def v38_9 : List COper := [
 cM 23 3 0,
 cC 24 90 [.t 23] 1]
def v38_10 : List COper := [
 cS 5 (.mov (.c (.cslice [] 1 0 3))) 0]
def v38_11 : List COper := [
 cM 25 3 0,
 cS 26 (.len 1 (.t 25)) 1,
 cS 27 (.mov (.c (.int .i64 (0)))) 0]
def v38_12 : List COper := [
 cS 28 (.bin .lss .no (.t 27) (.t 26)) 0]
def v38_13 : List COper := [
 cS 29 (.indexAddr 1 (.t 25) (.t 27)) 0,
 cL 30 29 1,
 cM 7 30 3]
def v38_14 : List COper := [
 cM 31 5 0,
 cM 32 7 0,
 cM 33 0 0,
 cN 34 33 4,
 cF 35 1 34 12,
 cL 36 35 28,
 cM 37 7 0,
 cS 38 (.lookup .str (.agg [(.bool false), (.cslice [] 0 0 1)]) false (.t 36) (.t 37)) 124,
 cS 39 (.field 0 none (.t 38)) 252,
 cM 40 0 0,
 cN 41 40 512,
 cF 42 1 41 1536,
 cL 43 42 3584,
 cM 44 7 0,
 cS 45 (.lookup .str (.agg [(.bool false), (.cslice [] 0 0 1)]) false (.t 43) (.t 44)) 15872,
 cS 46 (.field 1 none (.t 45)) 32256,
 cC 47 49 [.t 46] 65024,
 cS 48 (.build [(.str []), (.bool false), (.cslice [] 0 0 1)] [(0, 1, .t 32), (1, 1, .t 39), (2, 1, .t 47)]) 131070,
 ⟨some 49, .m (.buildSlice 3 1 [(.str []), (.bool false), (.cslice [] 0 0 1)] [(0, 3, .t 48)]), none, 262142⟩,
 ⟨some 50, .h (.append 3 48 false (.t 31) (.t 49)), none, 524287⟩,
 cM 5 50 1048575]
def v38_15 : List COper := [
 cS 51 (.bin .add .no (.t 27) (.c (.int .i64 (1)))) 0,
 cM 27 51 1]
def v38_b16 : CCode := (.seq (.region v38_12)
 (.seq (.cond (.t 28) .skip (.exit 2))
 (.seq (.block 3 (.seq (.region v38_13)
 (.draw v38_14)))
 (.region v38_15))))
def v38_17 : List COper := [
 cM 52 5 0,
 cM 2 52 1]
def v38_body : CCode := (.seq (.region v38_0)
 (.seq (.seq (.region v38_1)
 (.cond (.t 9) (.seq (.region v38_2)
 .ret) .skip))
 (.seq (.region v38_3)
 (.seq (.seq (.region v38_4)
 (.block 0 (.loop v38_b8)))
 (.seq (.region v38_9)
 (.seq (.region v38_10)
 (.seq (.seq (.region v38_11)
 (.block 2 (.loop v38_b16)))
 (.seq (.region v38_17)
 .ret))))))))
def v38 : VFunc := ⟨53, [.t 2], true, v38_body,
 fun i => match i with | 0 => [3, 14, 0] | 2 => [27, 0, 25, 5, 26] | _ => [],
 fun i => match i with | 0 => [0, 3] | 1 => [3, 14, 0] | 2 => [5] | 3 => [0, 25, 5, 26, 27] | _ => []⟩
@[simp] theorem v38_c : v38.body = v38_body := rfl
@[simp] theorem v38_r : v38.results = [.t 2] := rfl
@[simp] theorem v38_o : v38.own = true := rfl
@[simp] theorem v38_h0 : v38.head 0 = [3, 14, 0] := rfl
@[simp] theorem v38_h2 : v38.head 2 = [27, 0, 25, 5, 26] := rfl
@[simp] theorem v38_t0 : v38.tail 0 = [0, 3] := rfl
@[simp] theorem v38_t1 : v38.tail 1 = [3, 14, 0] := rfl
@[simp] theorem v38_t2 : v38.tail 2 = [5] := rfl
@[simp] theorem v38_t3 : v38.tail 3 = [0, 25, 5, 26, 27] := rfl
def v65_0 : List COper := [
 ⟨some 4, .m (.box (.t 1)), none, 0⟩,
 cS 6 (.mov (.c (.cslice [] 1 0 9))) 0,
 cS 7 (.mov (.c .nili)) 2]
def v65_1 : List COper := [
 cM 21 0 0,
 cS 22 (.bin .eql .nilp (.t 21) (.c .nilp)) 1,
 cM 23 22 3,
 cMG 24 0 23 false 7,
 cG 25 (.nilCheck (.t 24)) 23 false 15,
 cG 26 (.fieldAddr 1 (.t 25)) 23 false 31,
 cG 27 (.load none (.t 26)) 23 false 63,
 cG 28 (.bin .eql .nilm (.t 27) (.c .nilm)) 23 false 127,
 cP 29 23 28 255]
def v65_2 : List COper := [
 cF 30 0 4 0,
 cL 31 30 1,
 cC 32 107 [(.c (.int .i64 (2)))] 0,
 cC 33 106 [.t 31, .t 32] 7,
 cS 6 (.mov (.c (.cslice [] 1 0 9))) 15,
 cM 7 33 31]
def v65_2s : List Step := [
 .small 0 (cF 30 0 4 0),
 .small 1 (cL 31 30 1),
 .big 2 (cC 32 107 [(.c (.int .i64 (2)))] 0),
 .big 3 (cC 33 106 [.t 31, .t 32] 7),
 .small 4 (cS 6 (.mov (.c (.cslice [] 1 0 9))) 15),
 .small 5 (cM 7 33 31)]
theorem v65_2h : sched (v65_2.length + 1) (numbered v65_2 0) 0 = some v65_2s := by kernel_rfl
def v65_3 : List COper := [
 cS 35 (.load (some 8) (.t 4)) 0,
 cM 36 2 0,
 cC 37 108 [.t 35, .t 36] 3,
 cM 34 37 7,
 cE 38 0 34 15,
 cE 39 1 34 15,
 cM 8 38 31,
 cM 9 39 127]
def v65_4 : List COper := [
 cM 40 8 0,
 cS 41 (.bin .eql .str (.t 40) (.c (.str []))) 1]
def v65_5 : List COper := [
 cF 42 0 4 0,
 cL 43 42 1,
 cC 44 107 [(.c (.int .i64 (31)))] 0,
 cC 45 106 [.t 43, .t 44] 7,
 cS 6 (.mov (.c (.cslice [] 1 0 9))) 15,
 cM 7 45 31]
def v65_6 : List COper := [
 cM 47 0 0,
 cN 48 47 1,
 cF 49 0 48 3,
 cL 50 49 7,
 cM 51 8 0,
 cM 52 9 0,
 ⟨some 53, .invoke "Scan" (.t 50) [.t 51, .t 52], none, 63⟩,
 cM 46 53 127,
 cE 54 0 46 255,
 cE 55 1 46 255,
 cM 10 54 511,
 cM 11 55 2047]
def v65_7 : List COper := [
 cM 56 11 0,
 cS 57 (.bin .neq (.iface false) (.t 56) (.c .nili)) 1]
def v65_8 : List COper := [
 cF 58 0 4 0,
 cL 59 58 1,
 cM 60 11 0,
 cC 61 106 [.t 59, .t 60] 7,
 cS 6 (.mov (.c (.cslice [] 1 0 9))) 15,
 cM 7 61 31]
def v65_9 : List COper := [
 cM 62 10 0,
 cC 63 44 [.t 62] 1,
 cM 12 63 3]
def v65_10 : List COper := [
 cM 64 8 0,
 cM 65 9 0,
 cS 66 (.build [(.str []), (.str [])] [(0, 1, .t 64), (1, 1, .t 65)]) 3,
 ⟨some 13, .m (.alloc [(.str []), (.str [])]), none, 0⟩,
 cH (.store 2 (.t 13) (.t 66)) 15]
def v65_11 : List COper := [
 cM 67 0 0,
 cN 68 67 1,
 cF 69 1 68 3,
 cL 70 69 7,
 ⟨some 71, .h (.range (.t 70)), none, 15⟩]
def v65_12 : List COper := [
 ⟨some 72, .next (.t 71), none, 0⟩,
 cE 73 0 72 1]
def v65_13 : List COper := [
 cS 74 (.entry (.t 71)) 0,
 cE 75 0 74 1,
 cE 76 1 74 1,
 ⟨some 15, .m (.alloc [(.bool false), (.cslice [] 0 0 1)]), none, 0⟩,
 cM 14 75 11,
 cH (.store 2 (.t 15) (.t 76)) 31]
def v65_14 : List COper := [
 cS 77 (.load (some 2) (.t 13)) 0,
 cM 78 14 0,
 cC 79 58 [.t 77, .t 78] 3]
def v65_15 : List COper := [
 cM 80 12 0,
 cM 81 14 0,
 cS 82 (.load (some 2) (.t 15)) 0,
 cC 83 48 [.t 80, .t 81, .t 82] 7]
def v65_b16 : CCode := (.seq (.region v65_12)
 (.seq (.cond (.t 73) .skip (.exit 0))
 (.block 1 (.seq (.region v65_13)
 (.seq (.region v65_14)
 (.cond (.t 79) (.region v65_15) .skip))))))
def v65_17 : List COper := [
 cS 16 (.mov (.c (.cslice [] 1 0 9))) 0]
def v65_18 : List COper := [
 cM 84 12 0,
 cC 85 101 [.t 84] 1,
 cS 86 (.len 1 (.t 85)) 3,
 cS 87 (.mov (.c (.int .i64 (0)))) 0]
def v65_19 : List COper := [
 cS 88 (.bin .lss .no (.t 87) (.t 86)) 0]
def v65_20 : List COper := [
 cS 89 (.indexAddr 1 (.t 85) (.t 87)) 0,
 cL 90 89 1,
 cM 18 90 3]
def v65_21 : List COper := [
 cM 92 18 0,
 cC 93 109 [.t 92] 1,
 cM 91 93 3,
 cE 94 0 91 7,
 cE 95 1 91 7,
 ⟨some 19, .m (.alloc [(.int .u8 (0)), (.str []), (.str []), (.str []), (.str []), (.int .u64 (0)), (.int .u64 (0)), (.int .u64 (0))]), none, 0⟩,
 cH (.store 8 (.t 19) (.t 94)) 47,
 cM 20 95 127]
def v65_22 : List COper := [
 cM 96 20 0,
 cS 97 (.bin .neq .int (.t 96) (.c (.int .i64 (0)))) 1]
def v65_23 : List COper := [
 cF 98 0 4 0,
 cL 99 98 1,
 cM 100 20 0,
 cC 101 107 [.t 100] 4,
 cC 102 106 [.t 99, .t 101] 15,
 cS 6 (.mov (.c (.cslice [] 1 0 9))) 31,
 cM 7 102 63]
def v65_24 : List COper := [
 cM 103 16 0,
 cS 104 (.load (some 8) (.t 19)) 0,
 cM 105 12 0,
 cN 106 105 4,
 cF 107 0 106 12,
 cL 108 107 28,
 cM 109 18 0,
 cS 110 (.lookup .str (.cslice [] 0 0 1) false (.t 108) (.t 109)) 124,
 cC 111 49 [.t 110] 252,
 cS 112 (.build [(.int .u8 (0)), (.str []), (.str []), (.str []), (.str []), (.int .u64 (0)), (.int .u64 (0)), (.int .u64 (0)), (.cslice [] 0 0 1)] [(0, 8, .t 104), (8, 1, .t 111)]) 510,
 ⟨some 113, .m (.buildSlice 9 1 [(.int .u8 (0)), (.str []), (.str []), (.str []), (.str []), (.int .u64 (0)), (.int .u64 (0)), (.int .u64 (0)), (.cslice [] 0 0 1)] [(0, 9, .t 112)]), none, 1022⟩,
 ⟨some 114, .h (.append 9 120 false (.t 103) (.t 113)), none, 2047⟩,
 cM 16 114 4095]
def v65_25 : List COper := [
 cS 115 (.bin .add .no (.t 87) (.c (.int .i64 (1)))) 0,
 cM 87 115 1]
def v65_b26 : CCode := (.seq (.region v65_19)
 (.seq (.cond (.t 88) .skip (.exit 2))
 (.seq (.block 3 (.seq (.region v65_20)
 (.seq (.region v65_21)
 (.seq (.seq (.region v65_22)
 (.cond (.t 97) (.seq (.draw v65_23)
 .ret) .skip))
 (.draw v65_24)))))
 (.region v65_25))))
def v65_27 : List COper := [
 cM 116 16 0,
 cM 6 116 1,
 cS 7 (.mov (.c .nili)) 3]
def v65_body : CCode := (.seq (.region v65_0)
 (.seq (.seq (.region v65_1)
 (.cond (.t 29) (.seq (.draw v65_2)
 .ret) .skip))
 (.seq (.region v65_3)
 (.seq (.seq (.region v65_4)
 (.cond (.t 41) (.seq (.draw v65_5)
 .ret) .skip))
 (.seq (.region v65_6)
 (.seq (.seq (.region v65_7)
 (.cond (.t 57) (.seq (.region v65_8)
 .ret) .skip))
 (.seq (.region v65_9)
 (.seq (.region v65_10)
 (.seq (.seq (.region v65_11)
 (.block 0 (.loop v65_b16)))
 (.seq (.region v65_17)
 (.seq (.seq (.region v65_18)
 (.block 2 (.loop v65_b26)))
 (.seq (.region v65_27)
 .ret))))))))))))
def v65 : VFunc := ⟨117, [.t 6, .t 7], true, v65_body,
 fun i => match i with | 0 => [12, 13, 71, 4] | 2 => [4, 87, 12, 85, 16, 86] | _ => [],
 fun i => match i with | 0 => [4, 12] | 1 => [12, 13, 71, 4] | 2 => [16] | 3 => [4, 12, 85, 16, 86, 87] | _ => []⟩
@[simp] theorem v65_c : v65.body = v65_body := rfl
@[simp] theorem v65_r : v65.results = [.t 6, .t 7] := rfl
@[simp] theorem v65_o : v65.own = true := rfl
@[simp] theorem v65_h0 : v65.head 0 = [12, 13, 71, 4] := rfl
@[simp] theorem v65_h2 : v65.head 2 = [4, 87, 12, 85, 16, 86] := rfl
@[simp] theorem v65_t0 : v65.tail 0 = [4, 12] := rfl
@[simp] theorem v65_t1 : v65.tail 1 = [12, 13, 71, 4] := rfl
@[simp] theorem v65_t2 : v65.tail 2 = [16] := rfl
@[simp] theorem v65_t3 : v65.tail 3 = [4, 12, 85, 16, 86, 87] := rfl
def v66_0 : List COper := [
 ⟨some 4, .m (.box (.t 1)), none, 0⟩,
 cS 6 (.mov (.c .nili)) 0]
def v66_1 : List COper := [
 cM 10 0 0,
 cS 11 (.load (some 8) (.t 4)) 0,
 cC 12 105 [.t 10, .t 11] 3,
 cM 9 12 7,
 cE 13 0 9 15,
 cE 14 1 9 15,
 cM 7 13 31,
 cM 8 14 127]
def v66_2 : List COper := [
 cM 15 8 0,
 cS 16 (.bin .eql (.iface false) (.t 15) (.c .nili)) 1]
def v66_3 : List COper := [
 cM 17 0 0,
 cN 18 17 1,
 cF 19 1 18 3,
 cL 20 19 7,
 cM 21 7 0,
 cM 22 2 0,
 cC 23 49 [.t 22] 32,
 cS 24 (.build [(.bool false), (.cslice [] 0 0 1)] [(1, 1, .t 23)]) 96,
 cH (.mapUpdate .str (.t 20) (.t 21) (.t 24)) 255]
def v66_4 : List COper := [
 cM 25 8 0,
 cM 6 25 1]
def v66_body : CCode := (.seq (.region v66_0)
 (.seq (.region v66_1)
 (.seq (.seq (.region v66_2)
 (.cond (.t 16) (.draw v66_3) .skip))
 (.seq (.region v66_4)
 .ret))))
def v66 : VFunc := ⟨26, [.t 6], true, v66_body,
 fun _ => [],
 fun _ => []⟩
@[simp] theorem v66_c : v66.body = v66_body := rfl
@[simp] theorem v66_r : v66.results = [.t 6] := rfl
@[simp] theorem v66_o : v66.own = true := rfl
def v67_0 : List COper := [
 ⟨some 3, .m (.box (.t 1)), none, 0⟩,
 cS 4 (.mov (.c .nili)) 0]
def v67_1 : List COper := [
 cM 8 0 0,
 cS 9 (.load (some 8) (.t 3)) 0,
 cC 10 105 [.t 8, .t 9] 3,
 cM 7 10 7,
 cE 11 0 7 15,
 cE 12 1 7 15,
 cM 5 11 31,
 cM 6 12 127]
def v67_2 : List COper := [
 cM 13 6 0,
 cS 14 (.bin .eql (.iface false) (.t 13) (.c .nili)) 1]
def v67_3 : List COper := [
 cM 15 0 0,
 cN 16 15 1,
 cF 17 1 16 3,
 cL 18 17 7,
 cM 19 5 0,
 cS 20 (.build [(.bool false), (.cslice [] 0 0 1)] [(0, 1, (.c (.bool true)))]) 0,
 cH (.mapUpdate .str (.t 18) (.t 19) (.t 20)) 63]
def v67_4 : List COper := [
 cM 21 6 0,
 cM 4 21 1]
def v67_body : CCode := (.seq (.region v67_0)
 (.seq (.region v67_1)
 (.seq (.seq (.region v67_2)
 (.cond (.t 14) (.region v67_3) .skip))
 (.seq (.region v67_4)
 .ret))))
def v67 : VFunc := ⟨22, [.t 4], true, v67_body,
 fun _ => [],
 fun _ => []⟩
@[simp] theorem v67_c : v67.body = v67_body := rfl
@[simp] theorem v67_r : v67.results = [.t 4] := rfl
@[simp] theorem v67_o : v67.own = true := rfl
def v68_0 : List COper := [
 ⟨some 3, .m (.box (.t 1)), none, 0⟩,
 cS 4 (.mov (.c (.int .u64 (0)))) 0,
 cS 5 (.mov (.c (.bool false))) 2,
 cS 6 (.mov (.c .nili)) 6]
def v68_1 : List COper := [
 cM 7 0 0,
 cS 8 (.load (some 8) (.t 3)) 0,
 ⟨some 9, .call (.c (.func 110 [] [])) [.t 7, .t 8, (.c (.func 111 [] []))], none, 3⟩,
 cE 10 0 9 7,
 cE 11 1 9 7,
 cE 12 2 9 7,
 cM 4 10 63,
 cM 5 11 127,
 cM 6 12 255]
def v68_body : CCode := (.seq (.region v68_0)
 (.seq (.region v68_1)
 .ret))
def v68 : VFunc := ⟨13, [.t 4, .t 5, .t 6], true, v68_body,
 fun _ => [],
 fun _ => []⟩
@[simp] theorem v68_c : v68.body = v68_body := rfl
@[simp] theorem v68_r : v68.results = [.t 4, .t 5, .t 6] := rfl
@[simp] theorem v68_o : v68.own = true := rfl
def v69_0 : List COper := [
 ⟨some 6, .m (.alloc [(.int .i64 (0)), (.int .u64 (0)), (.int .i64 (0))]), none, 0⟩,
 cS 7 (.mov (.c (.bool false))) 0,
 cS 8 (.mov (.c .nili)) 2]
def v69_1 : List COper := [
 cM 9 0 0,
 cM 10 1 0,
 cM 11 2 0,
 cC 12 113 [.t 10, .t 11] 6,
 ⟨some 13, .call (.c (.func 112 [] [])) [.t 9, .t 12, (.c (.func 114 [] []))], none, 15⟩,
 cE 14 0 13 31,
 cE 15 1 13 31,
 cE 16 2 13 31,
 cH (.store 3 (.t 6) (.t 14)) 255,
 cM 7 15 511,
 cM 8 16 1023]
def v69_body : CCode := (.seq (.region v69_0)
 (.seq (.region v69_1)
 .ret))
def v69 : VFunc := ⟨17, [.cell 6 (some 3), .t 7, .t 8], true, v69_body,
 fun _ => [],
 fun _ => []⟩
@[simp] theorem v69_c : v69.body = v69_body := rfl
@[simp] theorem v69_r : v69.results = [.cell 6 (some 3), .t 7, .t 8] := rfl
@[simp] theorem v69_o : v69.own = true := rfl
def v70_0 : List COper := [
 ⟨some 8, .m (.alloc [(.int .i64 (0)), (.str []), (.str []), (.int .u64 (0))]), none, 0⟩,
 cS 9 (.mov (.c (.bool false))) 0,
 cS 10 (.mov (.c .nili)) 2]
def v70_1 : List COper := [
 cM 11 0 0,
 cM 12 1 0,
 cM 13 2 0,
 cM 14 3 0,
 cC 15 116 [.t 12, .t 13, .t 14] 14,
 ⟨some 16, .call (.c (.func 115 [] [])) [.t 11, .t 15, (.c (.func 117 [] []))], none, 31⟩,
 cE 17 0 16 63,
 cE 18 1 16 63,
 cE 19 2 16 63,
 cH (.store 4 (.t 8) (.t 17)) 511,
 cM 9 18 1023,
 cM 10 19 2047]
def v70_body : CCode := (.seq (.region v70_0)
 (.seq (.region v70_1)
 .ret))
def v70 : VFunc := ⟨20, [.cell 8 (some 4), .t 9, .t 10], true, v70_body,
 fun _ => [],
 fun _ => []⟩
@[simp] theorem v70_c : v70.body = v70_body := rfl
@[simp] theorem v70_r : v70.results = [.cell 8 (some 4), .t 9, .t 10] := rfl
@[simp] theorem v70_o : v70.own = true := rfl
def v71_0 : List COper := [
 ⟨some 6, .m (.alloc [(.int .i64 (0)), (.int .i64 (0)), (.str [])]), none, 0⟩,
 cS 7 (.mov (.c (.bool false))) 0,
 cS 8 (.mov (.c .nili)) 2]
def v71_1 : List COper := [
 cM 9 0 0,
 cM 10 1 0,
 cM 11 2 0,
 cC 12 119 [.t 10, .t 11] 6,
 ⟨some 13, .call (.c (.func 118 [] [])) [.t 9, .t 12, (.c (.func 120 [] []))], none, 15⟩,
 cE 14 0 13 31,
 cE 15 1 13 31,
 cE 16 2 13 31,
 cH (.store 3 (.t 6) (.t 14)) 255,
 cM 7 15 511,
 cM 8 16 1023]
def v71_body : CCode := (.seq (.region v71_0)
 (.seq (.region v71_1)
 .ret))
def v71 : VFunc := ⟨17, [.cell 6 (some 3), .t 7, .t 8], true, v71_body,
 fun _ => [],
 fun _ => []⟩
@[simp] theorem v71_c : v71.body = v71_body := rfl
@[simp] theorem v71_r : v71.results = [.cell 6 (some 3), .t 7, .t 8] := rfl
@[simp] theorem v71_o : v71.own = true := rfl
def v72_0 : List COper := [
 ⟨some 5, .m (.box (.t 2)), none, 0⟩,
 cS 6 (.mov (.c .nili)) 0]
def v72_1 : List COper := [
 cM 7 0 0,
 cM 8 1 0,
 cC 9 99 [.t 8] 2,
 cS 10 (.load (some 5) (.t 5)) 0,
 cC 11 123 [.t 10] 14,
 cC 12 122 [.t 7, .t 9, .t 11] 31,
 cM 6 12 63]
def v72_1s : List Step := [
 .small 0 (cM 7 0 0),
 .small 1 (cM 8 1 0),
 .small 3 (cS 10 (.load (some 5) (.t 5)) 0),
 .big 2 (cC 9 99 [.t 8] 2),
 .big 4 (cC 11 123 [.t 10] 14),
 .big 5 (cC 12 122 [.t 7, .t 9, .t 11] 31),
 .small 6 (cM 6 12 63)]
theorem v72_1h : sched (v72_1.length + 1) (numbered v72_1 0) 0 = some v72_1s := by kernel_rfl
def v72_body : CCode := (.seq (.region v72_0)
 (.seq (.draw v72_1)
 .ret))
def v72 : VFunc := ⟨13, [.t 6], true, v72_body,
 fun _ => [],
 fun _ => []⟩
@[simp] theorem v72_c : v72.body = v72_body := rfl
@[simp] theorem v72_r : v72.results = [.t 6] := rfl
@[simp] theorem v72_o : v72.own = true := rfl
def v73_0 : List COper := [
 ⟨some 7, .m (.box (.t 3)), none, 0⟩,
 cS 8 (.mov (.c .nili)) 0]
def v73_1 : List COper := [
 cM 9 0 0,
 cM 10 1 0,
 cM 11 2 0,
 cC 12 113 [.t 10, .t 11] 6,
 cS 13 (.load (some 3) (.t 7)) 0,
 cC 14 124 [.t 13] 30,
 cC 15 122 [.t 9, .t 12, .t 14] 63,
 cM 8 15 127]
def v73_1s : List Step := [
 .small 0 (cM 9 0 0),
 .small 1 (cM 10 1 0),
 .small 2 (cM 11 2 0),
 .small 4 (cS 13 (.load (some 3) (.t 7)) 0),
 .big 3 (cC 12 113 [.t 10, .t 11] 6),
 .big 5 (cC 14 124 [.t 13] 30),
 .big 6 (cC 15 122 [.t 9, .t 12, .t 14] 63),
 .small 7 (cM 8 15 127)]
theorem v73_1h : sched (v73_1.length + 1) (numbered v73_1 0) 0 = some v73_1s := by kernel_rfl
def v73_body : CCode := (.seq (.region v73_0)
 (.seq (.draw v73_1)
 .ret))
def v73 : VFunc := ⟨16, [.t 8], true, v73_body,
 fun _ => [],
 fun _ => []⟩
@[simp] theorem v73_c : v73.body = v73_body := rfl
@[simp] theorem v73_r : v73.results = [.t 8] := rfl
@[simp] theorem v73_o : v73.own = true := rfl
def v74_0 : List COper := [
 ⟨some 5, .m (.box (.t 2)), none, 0⟩,
 cS 6 (.mov (.c .nili)) 0]
def v74_1 : List COper := [
 cM 11 1 0,
 cF 12 0 5 0,
 cL 13 12 2,
 cC 14 119 [.t 11, .t 13] 7,
 ⟨some 7, .m (.alloc [(.int .u8 (0)), (.str []), (.str []), (.str []), (.str []), (.int .u64 (0)), (.int .u64 (0)), (.int .u64 (0))]), none, 0⟩,
 cH (.store 8 (.t 7) (.t 14)) 31]
def v74_2 : List COper := [
 cM 16 0 0,
 cS 17 (.load (some 8) (.t 7)) 0,
 cC 18 105 [.t 16, .t 17] 3,
 cM 15 18 7,
 cE 19 0 15 15,
 cE 20 1 15 15,
 cM 8 19 31,
 cM 9 20 127]
def v74_3 : List COper := [
 cM 21 9 0,
 cS 22 (.bin .neq (.iface false) (.t 21) (.c .nili)) 1]
def v74_4 : List COper := [
 cM 23 9 0,
 cM 6 23 1]
def v74_5 : List COper := [
 cF 24 1 5 0,
 cS 25 (.load (some 3) (.t 24)) 1,
 cC 26 125 [.t 25] 3,
 cM 10 26 7]
def v74_6 : List COper := [
 cM 27 10 0,
 cS 28 (.bin .neq .int (.t 27) (.c (.int .i64 (0)))) 1]
def v74_7 : List COper := [
 cF 29 0 7 0,
 cL 30 29 1,
 cM 31 10 0,
 cC 32 107 [.t 31] 4,
 cC 33 106 [.t 30, .t 32] 15,
 cM 6 33 31]
def v74_8 : List COper := [
 cM 34 0 0,
 cS 35 (.load (some 8) (.t 7)) 0,
 cF 36 1 5 0,
 cS 37 (.load (some 3) (.t 36)) 4,
 cC 38 126 [.t 37] 12,
 cC 39 66 [.t 34, .t 35, .t 38] 31,
 cM 6 39 63]
def v74_body : CCode := (.seq (.region v74_0)
 (.seq (.region v74_1)
 (.seq (.seq (.region v74_2)
 (.seq (.region v74_3)
 (.cond (.t 22) (.seq (.region v74_4)
 .ret) .skip)))
 (.seq (.seq (.region v74_5)
 (.seq (.region v74_6)
 (.cond (.t 28) (.seq (.draw v74_7)
 .ret) .skip)))
 (.seq (.draw v74_8)
 .ret)))))
def v74 : VFunc := ⟨40, [.t 6], true, v74_body,
 fun _ => [],
 fun _ => []⟩
@[simp] theorem v74_c : v74.body = v74_body := rfl
@[simp] theorem v74_r : v74.results = [.t 6] := rfl
@[simp] theorem v74_o : v74.own = true := rfl
def v75_0 : List COper := [
 ⟨some 9, .m (.box (.t 4)), none, 0⟩,
 cS 10 (.mov (.c .nili)) 0]
def v75_1 : List COper := [
 cM 16 1 0,
 cM 17 2 0,
 cM 18 3 0,
 cC 19 116 [.t 16, .t 17, .t 18] 7,
 ⟨some 11, .m (.alloc [(.int .u8 (0)), (.str []), (.str []), (.str []), (.str []), (.int .u64 (0)), (.int .u64 (0)), (.int .u64 (0))]), none, 0⟩,
 cH (.store 8 (.t 11) (.t 19)) 31]
def v75_2 : List COper := [
 cM 21 0 0,
 cS 22 (.load (some 8) (.t 11)) 0,
 cC 23 105 [.t 21, .t 22] 3,
 cM 20 23 7,
 cE 24 0 20 15,
 cE 25 1 20 15,
 cM 12 24 31,
 cM 13 25 127]
def v75_3 : List COper := [
 cM 26 13 0,
 cS 27 (.bin .neq (.iface false) (.t 26) (.c .nili)) 1]
def v75_4 : List COper := [
 cM 28 13 0,
 cM 10 28 1]
def v75_5 : List COper := [
 cS 29 (.load (some 4) (.t 9)) 0,
 cC 30 127 [.t 29] 1,
 cM 14 30 3]
def v75_6 : List COper := [
 cM 31 14 0,
 cS 32 (.len 1 (.t 31)) 1,
 cS 33 (.bin .eql .int (.t 32) (.c (.int .i64 (0)))) 3]
def v75_7 : List COper := [
 cF 34 0 11 0,
 cL 35 34 1,
 cC 36 107 [(.c (.int .i64 (1)))] 0,
 cC 37 106 [.t 35, .t 36] 7,
 cM 10 37 15]
def v75_8 : List COper := [
 cM 38 0 0,
 cM 39 1 0,
 cM 40 2 0,
 cM 41 3 0,
 cC 42 76 [.t 38, .t 39, .t 40, .t 41] 15,
 cM 15 42 31]
def v75_9 : List COper := [
 cM 43 15 0,
 cS 44 (.bin .neq (.iface false) (.t 43) (.c .nili)) 1]
def v75_10 : List COper := [
 cM 45 15 0,
 cM 10 45 1]
def v75_11 : List COper := [
 cM 46 0 0,
 cS 47 (.load (some 8) (.t 11)) 0,
 cM 48 14 0,
 cC 49 66 [.t 46, .t 47, .t 48] 7,
 cM 50 0 0,
 cM 51 1 0,
 cM 52 2 0,
 cM 53 3 0,
 cS 54 (.load (some 4) (.t 9)) 0,
 cC 55 129 [.t 51, .t 52, .t 53, .t 54] 495,
 ⟨some 56, .call (.c (.func 66 [] [])) [.t 50, .t 55, (.c (.cslice [] 0 0 1))], none, 1023⟩,
 ⟨some 57, .m (.buildSlice 1 2 [.nili] [(0, 1, .t 49), (1, 1, .t 56)]), none, 2047⟩,
 cC 58 128 [.t 57] 4095,
 cM 10 58 8191]
def v75_body : CCode := (.seq (.region v75_0)
 (.seq (.region v75_1)
 (.seq (.seq (.region v75_2)
 (.seq (.region v75_3)
 (.cond (.t 27) (.seq (.region v75_4)
 .ret) .skip)))
 (.seq (.region v75_5)
 (.seq (.seq (.region v75_6)
 (.cond (.t 33) (.seq (.draw v75_7)
 .ret) .skip))
 (.seq (.seq (.region v75_8)
 (.seq (.region v75_9)
 (.cond (.t 44) (.seq (.region v75_10)
 .ret) .skip)))
 (.seq (.draw v75_11)
 .ret)))))))
def v75 : VFunc := ⟨59, [.t 10], true, v75_body,
 fun _ => [],
 fun _ => []⟩
@[simp] theorem v75_c : v75.body = v75_body := rfl
@[simp] theorem v75_r : v75.results = [.t 10] := rfl
@[simp] theorem v75_o : v75.own = true := rfl
def v76_0 : List COper := [
 cS 8 (.mov (.c .nili)) 0]
def v76_1 : List COper := [
 cM 13 0 0,
 cM 14 1 0,
 cM 15 2 0,
 cM 16 3 0,
 cC 17 70 [.t 13, .t 14, .t 15, .t 16] 15,
 cM 12 17 31,
 cE 18 0 12 63,
 cE 19 1 12 63,
 cE 20 2 12 63,
 ⟨some 9, .m (.alloc [(.int .i64 (0)), (.str []), (.str []), (.int .u64 (0))]), none, 0⟩,
 cH (.store 4 (.t 9) (.t 18)) 639,
 cM 10 19 1791,
 cM 11 20 4095]
def v76_2 : List COper := [
 cM 21 11 0,
 cS 22 (.bin .neq (.iface false) (.t 21) (.c .nili)) 1,
 cM 23 22 3,
 cMG 24 10 23 false 7,
 cG 25 (.un .not (.t 24)) 23 false 15,
 cP 26 23 25 31]
def v76_3 : List COper := [
 cM 27 11 0,
 cM 8 27 1]
def v76_4 : List COper := [
 cM 28 0 0,
 cM 29 1 0,
 cM 30 2 0,
 cM 31 3 0,
 cC 32 116 [.t 29, .t 30, .t 31] 14,
 cC 33 67 [.t 28, .t 32] 31,
 cM 34 0 0,
 cM 35 1 0,
 cM 36 2 0,
 cM 37 3 0,
 cS 38 (.load (some 4) (.t 9)) 0,
 cC 39 129 [.t 35, .t 36, .t 37, .t 38] 1983,
 cC 40 67 [.t 34, .t 39] 4095,
 ⟨some 41, .m (.buildSlice 1 2 [.nili] [(0, 1, .t 33), (1, 1, .t 40)]), none, 8191⟩,
 cC 42 128 [.t 41] 16383,
 cM 8 42 32767]
def v76_body : CCode := (.seq (.region v76_0)
 (.seq (.region v76_1)
 (.seq (.seq (.region v76_2)
 (.cond (.t 26) (.seq (.region v76_3)
 .ret) .skip))
 (.seq (.draw v76_4)
 .ret))))
def v76 : VFunc := ⟨43, [.t 8], true, v76_body,
 fun _ => [],
 fun _ => []⟩
@[simp] theorem v76_c : v76.body = v76_body := rfl
@[simp] theorem v76_r : v76.results = [.t 8] := rfl
@[simp] theorem v76_o : v76.own = true := rfl
def v110_0 : List COper := [
 ⟨some 4, .m (.box (.t 1)), none, 0⟩,
 cS 6 (.mov (.c (.int .u64 (0)))) 0,
 cS 7 (.mov (.c (.bool false))) 2,
 cS 8 (.mov (.c .nili)) 6]
def v110_1 : List COper := [
 cS 9 (.mov (.c (.int .u64 (0)))) 0]
def v110_2 : List COper := [
 cM 16 0 0,
 cS 17 (.load (some 8) (.t 4)) 0,
 cC 18 64 [.t 16, .t 17] 3,
 cM 15 18 7,
 cE 19 0 15 15,
 cE 20 1 15 15,
 cE 21 2 15 15,
 cM 10 19 31,
 cM 11 20 191,
 cM 12 21 511]
def v110_3 : List COper := [
 cM 22 12 0,
 cS 23 (.bin .neq (.iface false) (.t 22) (.c .nili)) 1,
 cM 24 23 3,
 cMG 25 11 24 false 7,
 cG 26 (.un .not (.t 25)) 24 false 15,
 cP 27 24 26 31]
def v110_4 : List COper := [
 cM 28 9 0,
 cM 29 12 0,
 cM 6 28 1,
 cS 7 (.mov (.c (.bool false))) 5,
 cM 8 29 15]
def v110_5 : List COper := [
 cM 31 2 0,
 cM 32 10 0,
 ⟨some 33, .call (.t 31) [.t 32], none, 3⟩,
 cM 30 33 7,
 cE 34 0 30 15,
 cE 35 1 30 15,
 cM 13 34 31,
 cM 14 35 127]
def v110_6 : List COper := [
 cM 36 14 0,
 cS 37 (.bin .neq .int (.t 36) (.c (.int .i64 (0)))) 1]
def v110_7 : List COper := [
 cM 38 9 0,
 cF 39 0 4 0,
 cL 40 39 2,
 cM 41 14 0,
 cC 42 107 [.t 41] 8,
 cC 43 106 [.t 40, .t 42] 30,
 cM 6 38 63,
 cS 7 (.mov (.c (.bool false))) 127,
 cM 8 43 255]
def v110_8 : List COper := [
 cM 44 13 0,
 cM 6 44 1,
 cS 7 (.mov (.c (.bool true))) 3,
 cS 8 (.mov (.c .nili)) 7]
def v110_body : CCode := (.seq (.region v110_0)
 (.seq (.region v110_1)
 (.seq (.region v110_2)
 (.seq (.seq (.region v110_3)
 (.cond (.t 27) (.seq (.region v110_4)
 .ret) .skip))
 (.seq (.region v110_5)
 (.seq (.seq (.region v110_6)
 (.cond (.t 37) (.seq (.draw v110_7)
 .ret) .skip))
 (.seq (.region v110_8)
 .ret)))))))
def v110 : VFunc := ⟨45, [.t 6, .t 7, .t 8], true, v110_body,
 fun _ => [],
 fun _ => []⟩
@[simp] theorem v110_c : v110.body = v110_body := rfl
@[simp] theorem v110_r : v110.results = [.t 6, .t 7, .t 8] := rfl
@[simp] theorem v110_o : v110.own = true := rfl
def v112_0 : List COper := [
 ⟨some 4, .m (.box (.t 1)), none, 0⟩,
 ⟨some 6, .m (.alloc [(.int .i64 (0)), (.int .u64 (0)), (.int .i64 (0))]), none, 0⟩,
 cS 7 (.mov (.c (.bool false))) 0,
 cS 8 (.mov (.c .nili)) 4]
def v112_1 : List COper := [
 ⟨some 9, .m (.alloc [(.int .i64 (0)), (.int .u64 (0)), (.int .i64 (0))]), none, 0⟩]
def v112_2 : List COper := [
 cM 16 0 0,
 cS 17 (.load (some 8) (.t 4)) 0,
 cC 18 64 [.t 16, .t 17] 3,
 cM 15 18 7,
 cE 19 0 15 15,
 cE 20 1 15 15,
 cE 21 2 15 15,
 cM 10 19 31,
 cM 11 20 191,
 cM 12 21 511]
def v112_3 : List COper := [
 cM 22 12 0,
 cS 23 (.bin .neq (.iface false) (.t 22) (.c .nili)) 1,
 cM 24 23 3,
 cMG 25 11 24 false 7,
 cG 26 (.un .not (.t 25)) 24 false 15,
 cP 27 24 26 31]
def v112_4 : List COper := [
 cS 28 (.load (some 3) (.t 9)) 0,
 cM 29 12 0,
 cH (.store 3 (.t 6) (.t 28)) 1,
 cS 7 (.mov (.c (.bool false))) 5,
 cM 8 29 15]
def v112_5 : List COper := [
 cM 31 2 0,
 cM 32 10 0,
 ⟨some 33, .call (.t 31) [.t 32], none, 3⟩,
 cM 30 33 7,
 cE 34 0 30 15,
 cE 35 1 30 15,
 ⟨some 13, .m (.alloc [(.int .i64 (0)), (.int .u64 (0)), (.int .i64 (0))]), none, 0⟩,
 cH (.store 3 (.t 13) (.t 34)) 95,
 cM 14 35 255]
def v112_6 : List COper := [
 cM 36 14 0,
 cS 37 (.bin .neq .int (.t 36) (.c (.int .i64 (0)))) 1]
def v112_7 : List COper := [
 cS 38 (.load (some 3) (.t 9)) 0,
 cF 39 0 4 0,
 cL 40 39 2,
 cM 41 14 0,
 cC 42 107 [.t 41] 8,
 cC 43 106 [.t 40, .t 42] 30,
 cH (.store 3 (.t 6) (.t 38)) 63,
 cS 7 (.mov (.c (.bool false))) 127,
 cM 8 43 255]
def v112_8 : List COper := [
 cS 44 (.load (some 3) (.t 13)) 0,
 cH (.store 3 (.t 6) (.t 44)) 1,
 cS 7 (.mov (.c (.bool true))) 3,
 cS 8 (.mov (.c .nili)) 7]
def v112_body : CCode := (.seq (.region v112_0)
 (.seq (.region v112_1)
 (.seq (.region v112_2)
 (.seq (.seq (.region v112_3)
 (.cond (.t 27) (.seq (.region v112_4)
 .ret) .skip))
 (.seq (.region v112_5)
 (.seq (.seq (.region v112_6)
 (.cond (.t 37) (.seq (.draw v112_7)
 .ret) .skip))
 (.seq (.region v112_8)
 .ret)))))))
def v112 : VFunc := ⟨45, [.cell 6 (some 3), .t 7, .t 8], true, v112_body,
 fun _ => [],
 fun _ => []⟩
@[simp] theorem v112_c : v112.body = v112_body := rfl
@[simp] theorem v112_r : v112.results = [.cell 6 (some 3), .t 7, .t 8] := rfl
@[simp] theorem v112_o : v112.own = true := rfl
def v113_0 : List COper := [
 ⟨some 4, .m (.alloc [(.int .u8 (0)), (.str []), (.str []), (.str []), (.str []), (.int .u64 (0)), (.int .u64 (0)), (.int .u64 (0))]), none, 0⟩]
def v113_1 : List COper := [
 cM 5 0 0,
 cM 6 1 0,
 cS 7 (.build [(.int .u8 (0)), (.str []), (.str []), (.str []), (.str []), (.int .u64 (0)), (.int .u64 (0)), (.int .u64 (0))] [(0, 1, (.c (.int .u8 (116)))), (4, 1, .t 5), (5, 1, .t 6)]) 3,
 cH (.store 8 (.t 4) (.t 7)) 7]
def v113_body : CCode := (.seq (.region v113_0)
 (.seq (.region v113_1)
 .ret))
def v113 : VFunc := ⟨8, [.cell 4 (some 8)], true, v113_body,
 fun _ => [],
 fun _ => []⟩
@[simp] theorem v113_c : v113.body = v113_body := rfl
@[simp] theorem v113_r : v113.results = [.cell 4 (some 8)] := rfl
@[simp] theorem v113_o : v113.own = true := rfl
def v115_0 : List COper := [
 ⟨some 4, .m (.box (.t 1)), none, 0⟩,
 ⟨some 6, .m (.alloc [(.int .i64 (0)), (.str []), (.str []), (.int .u64 (0))]), none, 0⟩,
 cS 7 (.mov (.c (.bool false))) 0,
 cS 8 (.mov (.c .nili)) 4]
def v115_1 : List COper := [
 ⟨some 9, .m (.alloc [(.int .i64 (0)), (.str []), (.str []), (.int .u64 (0))]), none, 0⟩]
def v115_2 : List COper := [
 cM 16 0 0,
 cS 17 (.load (some 8) (.t 4)) 0,
 cC 18 64 [.t 16, .t 17] 3,
 cM 15 18 7,
 cE 19 0 15 15,
 cE 20 1 15 15,
 cE 21 2 15 15,
 cM 10 19 31,
 cM 11 20 191,
 cM 12 21 511]
def v115_3 : List COper := [
 cM 22 12 0,
 cS 23 (.bin .neq (.iface false) (.t 22) (.c .nili)) 1,
 cM 24 23 3,
 cMG 25 11 24 false 7,
 cG 26 (.un .not (.t 25)) 24 false 15,
 cP 27 24 26 31]
def v115_4 : List COper := [
 cS 28 (.load (some 4) (.t 9)) 0,
 cM 29 12 0,
 cH (.store 4 (.t 6) (.t 28)) 1,
 cS 7 (.mov (.c (.bool false))) 5,
 cM 8 29 15]
def v115_5 : List COper := [
 cM 31 2 0,
 cM 32 10 0,
 ⟨some 33, .call (.t 31) [.t 32], none, 3⟩,
 cM 30 33 7,
 cE 34 0 30 15,
 cE 35 1 30 15,
 ⟨some 13, .m (.alloc [(.int .i64 (0)), (.str []), (.str []), (.int .u64 (0))]), none, 0⟩,
 cH (.store 4 (.t 13) (.t 34)) 95,
 cM 14 35 255]
def v115_6 : List COper := [
 cM 36 14 0,
 cS 37 (.bin .neq .int (.t 36) (.c (.int .i64 (0)))) 1]
def v115_7 : List COper := [
 cS 38 (.load (some 4) (.t 9)) 0,
 cF 39 0 4 0,
 cL 40 39 2,
 cM 41 14 0,
 cC 42 107 [.t 41] 8,
 cC 43 106 [.t 40, .t 42] 30,
 cH (.store 4 (.t 6) (.t 38)) 63,
 cS 7 (.mov (.c (.bool false))) 127,
 cM 8 43 255]
def v115_8 : List COper := [
 cS 44 (.load (some 4) (.t 13)) 0,
 cH (.store 4 (.t 6) (.t 44)) 1,
 cS 7 (.mov (.c (.bool true))) 3,
 cS 8 (.mov (.c .nili)) 7]
def v115_body : CCode := (.seq (.region v115_0)
 (.seq (.region v115_1)
 (.seq (.region v115_2)
 (.seq (.seq (.region v115_3)
 (.cond (.t 27) (.seq (.region v115_4)
 .ret) .skip))
 (.seq (.region v115_5)
 (.seq (.seq (.region v115_6)
 (.cond (.t 37) (.seq (.draw v115_7)
 .ret) .skip))
 (.seq (.region v115_8)
 .ret)))))))
def v115 : VFunc := ⟨45, [.cell 6 (some 4), .t 7, .t 8], true, v115_body,
 fun _ => [],
 fun _ => []⟩
@[simp] theorem v115_c : v115.body = v115_body := rfl
@[simp] theorem v115_r : v115.results = [.cell 6 (some 4), .t 7, .t 8] := rfl
@[simp] theorem v115_o : v115.own = true := rfl
def v116_0 : List COper := [
 ⟨some 6, .m (.alloc [(.int .u8 (0)), (.str []), (.str []), (.str []), (.str []), (.int .u64 (0)), (.int .u64 (0)), (.int .u64 (0))]), none, 0⟩]
def v116_1 : List COper := [
 cM 7 0 0,
 cM 8 1 0,
 cM 9 2 0,
 cS 10 (.build [(.int .u8 (0)), (.str []), (.str []), (.str []), (.str []), (.int .u64 (0)), (.int .u64 (0)), (.int .u64 (0))] [(0, 1, (.c (.int .u8 (97)))), (4, 1, .t 7), (5, 1, .t 8), (6, 1, .t 9)]) 7,
 cH (.store 8 (.t 6) (.t 10)) 15]
def v116_body : CCode := (.seq (.region v116_0)
 (.seq (.region v116_1)
 .ret))
def v116 : VFunc := ⟨11, [.cell 6 (some 8)], true, v116_body,
 fun _ => [],
 fun _ => []⟩
@[simp] theorem v116_c : v116.body = v116_body := rfl
@[simp] theorem v116_r : v116.results = [.cell 6 (some 8)] := rfl
@[simp] theorem v116_o : v116.own = true := rfl
def v118_0 : List COper := [
 ⟨some 4, .m (.box (.t 1)), none, 0⟩,
 ⟨some 6, .m (.alloc [(.int .i64 (0)), (.int .i64 (0)), (.str [])]), none, 0⟩,
 cS 7 (.mov (.c (.bool false))) 0,
 cS 8 (.mov (.c .nili)) 4]
def v118_1 : List COper := [
 ⟨some 9, .m (.alloc [(.int .i64 (0)), (.int .i64 (0)), (.str [])]), none, 0⟩]
def v118_2 : List COper := [
 cM 16 0 0,
 cS 17 (.load (some 8) (.t 4)) 0,
 cC 18 64 [.t 16, .t 17] 3,
 cM 15 18 7,
 cE 19 0 15 15,
 cE 20 1 15 15,
 cE 21 2 15 15,
 cM 10 19 31,
 cM 11 20 191,
 cM 12 21 511]
def v118_3 : List COper := [
 cM 22 12 0,
 cS 23 (.bin .neq (.iface false) (.t 22) (.c .nili)) 1,
 cM 24 23 3,
 cMG 25 11 24 false 7,
 cG 26 (.un .not (.t 25)) 24 false 15,
 cP 27 24 26 31]
def v118_4 : List COper := [
 cS 28 (.load (some 3) (.t 9)) 0,
 cM 29 12 0,
 cH (.store 3 (.t 6) (.t 28)) 1,
 cS 7 (.mov (.c (.bool false))) 5,
 cM 8 29 15]
def v118_5 : List COper := [
 cM 31 2 0,
 cM 32 10 0,
 ⟨some 33, .call (.t 31) [.t 32], none, 3⟩,
 cM 30 33 7,
 cE 34 0 30 15,
 cE 35 1 30 15,
 ⟨some 13, .m (.alloc [(.int .i64 (0)), (.int .i64 (0)), (.str [])]), none, 0⟩,
 cH (.store 3 (.t 13) (.t 34)) 95,
 cM 14 35 255]
def v118_6 : List COper := [
 cM 36 14 0,
 cS 37 (.bin .neq .int (.t 36) (.c (.int .i64 (0)))) 1]
def v118_7 : List COper := [
 cS 38 (.load (some 3) (.t 9)) 0,
 cF 39 0 4 0,
 cL 40 39 2,
 cM 41 14 0,
 cC 42 107 [.t 41] 8,
 cC 43 106 [.t 40, .t 42] 30,
 cH (.store 3 (.t 6) (.t 38)) 63,
 cS 7 (.mov (.c (.bool false))) 127,
 cM 8 43 255]
def v118_8 : List COper := [
 cS 44 (.load (some 3) (.t 13)) 0,
 cH (.store 3 (.t 6) (.t 44)) 1,
 cS 7 (.mov (.c (.bool true))) 3,
 cS 8 (.mov (.c .nili)) 7]
def v118_body : CCode := (.seq (.region v118_0)
 (.seq (.region v118_1)
 (.seq (.region v118_2)
 (.seq (.seq (.region v118_3)
 (.cond (.t 27) (.seq (.region v118_4)
 .ret) .skip))
 (.seq (.region v118_5)
 (.seq (.seq (.region v118_6)
 (.cond (.t 37) (.seq (.draw v118_7)
 .ret) .skip))
 (.seq (.region v118_8)
 .ret)))))))
def v118 : VFunc := ⟨45, [.cell 6 (some 3), .t 7, .t 8], true, v118_body,
 fun _ => [],
 fun _ => []⟩
@[simp] theorem v118_c : v118.body = v118_body := rfl
@[simp] theorem v118_r : v118.results = [.cell 6 (some 3), .t 7, .t 8] := rfl
@[simp] theorem v118_o : v118.own = true := rfl
def v119_0 : List COper := [
 ⟨some 4, .m (.alloc [(.int .u8 (0)), (.str []), (.str []), (.str []), (.str []), (.int .u64 (0)), (.int .u64 (0)), (.int .u64 (0))]), none, 0⟩]
def v119_1 : List COper := [
 cM 5 0 0,
 cM 6 1 0,
 cS 7 (.build [(.int .u8 (0)), (.str []), (.str []), (.str []), (.str []), (.int .u64 (0)), (.int .u64 (0)), (.int .u64 (0))] [(0, 1, (.c (.int .u8 (118)))), (4, 1, .t 5), (1, 1, .t 6)]) 3,
 cH (.store 8 (.t 4) (.t 7)) 7]
def v119_body : CCode := (.seq (.region v119_0)
 (.seq (.region v119_1)
 .ret))
def v119 : VFunc := ⟨8, [.cell 4 (some 8)], true, v119_body,
 fun _ => [],
 fun _ => []⟩
@[simp] theorem v119_c : v119.body = v119_body := rfl
@[simp] theorem v119_r : v119.results = [.cell 4 (some 8)] := rfl
@[simp] theorem v119_o : v119.own = true := rfl
def v122_0 : List COper := [
 ⟨some 4, .m (.box (.t 1)), none, 0⟩,
 cS 6 (.mov (.c .nili)) 0]
def v122_1 : List COper := [
 cM 10 0 0,
 cS 11 (.load (some 8) (.t 4)) 0,
 cC 12 105 [.t 10, .t 11] 3,
 cM 9 12 7,
 cE 13 0 9 15,
 cE 14 1 9 15,
 cM 7 13 31,
 cM 8 14 127]
def v122_2 : List COper := [
 cM 15 8 0,
 cS 16 (.bin .neq (.iface false) (.t 15) (.c .nili)) 1]
def v122_3 : List COper := [
 cM 17 8 0,
 cM 6 17 1]
def v122_4 : List COper := [
 cM 18 2 0,
 cS 19 (.len 1 (.t 18)) 1,
 cS 20 (.bin .eql .int (.t 19) (.c (.int .i64 (0)))) 3]
def v122_5 : List COper := [
 cF 21 0 4 0,
 cL 22 21 1,
 cC 23 107 [(.c (.int .i64 (1)))] 0,
 cC 24 106 [.t 22, .t 23] 7,
 cM 6 24 15]
def v122_6 : List COper := [
 cM 25 0 0,
 cS 26 (.load (some 8) (.t 4)) 0,
 cM 27 2 0,
 cC 28 66 [.t 25, .t 26, .t 27] 7,
 cM 6 28 15]
def v122_body : CCode := (.seq (.region v122_0)
 (.seq (.seq (.region v122_1)
 (.seq (.region v122_2)
 (.cond (.t 16) (.seq (.region v122_3)
 .ret) .skip)))
 (.seq (.seq (.region v122_4)
 (.cond (.t 20) (.seq (.draw v122_5)
 .ret) .skip))
 (.seq (.region v122_6)
 .ret))))
def v122 : VFunc := ⟨29, [.t 6], true, v122_body,
 fun _ => [],
 fun _ => []⟩
@[simp] theorem v122_c : v122.body = v122_body := rfl
@[simp] theorem v122_r : v122.results = [.t 6] := rfl
@[simp] theorem v122_o : v122.own = true := rfl
def v123_0 : List COper := [
 ⟨some 1, .m (.box (.t 0)), none, 0⟩,
 cS 2 (.mov (.c (.cslice [] 1 0 1))) 0]
def v123_1 : List COper := [
 cS 3 (.load (some 5) (.t 1)) 0,
 cC 4 164 [.t 3] 1,
 cS 5 (.bin .neq .int (.t 4) (.c (.int .i64 (0)))) 3]
def v123_2 : List COper := [
 cS 2 (.mov (.c (.cslice [] 1 0 1))) 0]
def v123_3 : List COper := [
 cF 6 0 1 0,
 cL 7 6 1,
 cC 8 190 [.t 7] 3,
 cF 9 1 1 0,
 cL 10 9 8,
 cC 11 191 [.t 10] 31,
 cF 12 2 1 0,
 cL 13 12 64,
 cS 14 (.convInt .u8 (.t 13)) 192,
 ⟨some 15, .m (.buildSlice 1 1 [(.int .u8 (0))] [(0, 1, .t 14)]), none, 448⟩,
 cF 16 3 1 0,
 cL 17 16 1024,
 cC 18 190 [.t 17] 3135,
 cF 19 4 1 0,
 cL 20 19 8192,
 cC 21 191 [.t 20] 31807,
 ⟨some 22, .m (.buildSlice 1 5 [(.cslice [] 0 0 1)] [(0, 1, .t 8), (1, 1, .t 11), (2, 1, .t 15), (3, 1, .t 18), (4, 1, .t 21)]), none, 65535⟩,
 cC 23 189 [.t 22] 131071,
 cM 2 23 262143]
def v123_3s : List Step := [
 .small 0 (cF 6 0 1 0),
 .small 1 (cL 7 6 1),
 .small 3 (cF 9 1 1 0),
 .small 4 (cL 10 9 8),
 .small 6 (cF 12 2 1 0),
 .small 7 (cL 13 12 64),
 .small 8 (cS 14 (.convInt .u8 (.t 13)) 192),
 .small 9 ⟨some 15, .m (.buildSlice 1 1 [(.int .u8 (0))] [(0, 1, .t 14)]), none, 448⟩,
 .small 10 (cF 16 3 1 0),
 .small 11 (cL 17 16 1024),
 .small 13 (cF 19 4 1 0),
 .small 14 (cL 20 19 8192),
 .big 2 (cC 8 190 [.t 7] 3),
 .big 5 (cC 11 191 [.t 10] 31),
 .big 12 (cC 18 190 [.t 17] 3135),
 .big 15 (cC 21 191 [.t 20] 31807),
 .small 16 ⟨some 22, .m (.buildSlice 1 5 [(.cslice [] 0 0 1)] [(0, 1, .t 8), (1, 1, .t 11), (2, 1, .t 15), (3, 1, .t 18), (4, 1, .t 21)]), none, 65535⟩,
 .big 17 (cC 23 189 [.t 22] 131071),
 .small 18 (cM 2 23 262143)]
theorem v123_3h : sched (v123_3.length + 1) (numbered v123_3 0) 0 = some v123_3s := by kernel_rfl
def v123_body : CCode := (.seq (.region v123_0)
 (.seq (.seq (.region v123_1)
 (.cond (.t 5) (.seq (.region v123_2)
 .ret) .skip))
 (.seq (.draw v123_3)
 .ret)))
def v123 : VFunc := ⟨24, [.t 2], true, v123_body,
 fun _ => [],
 fun _ => []⟩
@[simp] theorem v123_c : v123.body = v123_body := rfl
@[simp] theorem v123_r : v123.results = [.t 2] := rfl
@[simp] theorem v123_o : v123.own = true := rfl
def v124_0 : List COper := [
 ⟨some 1, .m (.box (.t 0)), none, 0⟩,
 cS 2 (.mov (.c (.cslice [] 1 0 1))) 0]
def v124_1 : List COper := [
 cS 3 (.load (some 3) (.t 1)) 0,
 cC 4 179 [.t 3] 1,
 cS 5 (.bin .neq .int (.t 4) (.c (.int .i64 (0)))) 3]
def v124_2 : List COper := [
 cS 2 (.mov (.c (.cslice [] 1 0 1))) 0]
def v124_3 : List COper := [
 cF 6 0 1 0,
 cL 7 6 1,
 cS 8 (.convInt .u64 (.t 7)) 3,
 cC 9 191 [.t 8] 7,
 cF 10 1 1 0,
 cL 11 10 16,
 cC 12 191 [.t 11] 63,
 cF 13 2 1 0,
 cL 14 13 128,
 cS 15 (.bin .add .no (.t 14) (.c (.int .i64 (1)))) 384,
 cS 16 (.convInt .u64 (.t 15)) 896,
 cC 17 191 [.t 16] 2047,
 ⟨some 18, .m (.buildSlice 1 3 [(.cslice [] 0 0 1)] [(0, 1, .t 9), (1, 1, .t 12), (2, 1, .t 17)]), none, 4095⟩,
 cC 19 189 [.t 18] 8191,
 cM 2 19 16383]
def v124_3s : List Step := [
 .small 0 (cF 6 0 1 0),
 .small 1 (cL 7 6 1),
 .small 2 (cS 8 (.convInt .u64 (.t 7)) 3),
 .small 4 (cF 10 1 1 0),
 .small 5 (cL 11 10 16),
 .small 7 (cF 13 2 1 0),
 .small 8 (cL 14 13 128),
 .small 9 (cS 15 (.bin .add .no (.t 14) (.c (.int .i64 (1)))) 384),
 .small 10 (cS 16 (.convInt .u64 (.t 15)) 896),
 .big 3 (cC 9 191 [.t 8] 7),
 .big 6 (cC 12 191 [.t 11] 63),
 .big 11 (cC 17 191 [.t 16] 2047),
 .small 12 ⟨some 18, .m (.buildSlice 1 3 [(.cslice [] 0 0 1)] [(0, 1, .t 9), (1, 1, .t 12), (2, 1, .t 17)]), none, 4095⟩,
 .big 13 (cC 19 189 [.t 18] 8191),
 .small 14 (cM 2 19 16383)]
theorem v124_3h : sched (v124_3.length + 1) (numbered v124_3 0) 0 = some v124_3s := by kernel_rfl
def v124_body : CCode := (.seq (.region v124_0)
 (.seq (.seq (.region v124_1)
 (.cond (.t 5) (.seq (.region v124_2)
 .ret) .skip))
 (.seq (.draw v124_3)
 .ret)))
def v124 : VFunc := ⟨20, [.t 2], true, v124_body,
 fun _ => [],
 fun _ => []⟩
@[simp] theorem v124_c : v124.body = v124_body := rfl
@[simp] theorem v124_r : v124.results = [.t 2] := rfl
@[simp] theorem v124_o : v124.own = true := rfl
def v164_0 : List COper := [
 ⟨some 1, .m (.box (.t 0)), none, 0⟩,
 cS 2 (.mov (.c (.int .i64 (0)))) 0]
def v164_1 : List COper := [
 cF 4 3 1 0,
 cL 5 4 1,
 cS 6 (.bin .eql .str (.t 5) (.c (.str []))) 3,
 cM 3 6 7]
def v164_2 : List COper := [
 cF 7 2 1 0,
 cL 8 7 1,
 cS 9 (.bin .eql .int (.t 8) (.c (.int .i64 (3)))) 3]
def v164_3 : List COper := [
 cF 10 3 1 0,
 cL 11 10 1,
 cC 12 226 [.t 11] 3,
 cM 3 12 7]
def v164_4 : List COper := [
 cM 13 3 0,
 cS 14 (.un .not (.t 13)) 1,
 cM 15 14 3,
 cG 16 (.fieldAddr 0 (.t 1)) 15 false 7,
 cG 17 (.load none (.t 16)) 15 false 15,
 cCG 18 226 [.t 17] 15 false 31,
 cG 19 (.un .not (.t 18)) 15 false 63,
 cP 20 15 19 127,
 cM 21 20 255,
 cG 22 (.fieldAddr 1 (.t 1)) 21 false 511,
 cG 23 (.load none (.t 22)) 21 false 1023,
 cG 24 (.bin .eql .int (.t 23) (.c (.int .u64 (0)))) 21 false 2047,
 cP 25 21 24 4095,
 cM 26 25 8191,
 cG 27 (.fieldAddr 4 (.t 1)) 26 false 16383,
 cG 28 (.load none (.t 27)) 26 false 32767,
 cG 29 (.bin .eql .int (.t 28) (.c (.int .u64 (0)))) 26 false 65535,
 cP 30 26 29 131071,
 cM 31 30 262143,
 cG 32 (.fieldAddr 2 (.t 1)) 31 false 524287,
 cG 33 (.load none (.t 32)) 31 false 1048575,
 cG 34 (.bin .lss .no (.t 33) (.c (.int .i64 (1)))) 31 false 2097151,
 cP 35 31 34 4194303,
 cM 36 35 8388607,
 cG 37 (.fieldAddr 2 (.t 1)) 36 false 16777215,
 cG 38 (.load none (.t 37)) 36 false 33554431,
 cG 39 (.bin .gtr .no (.t 38) (.c (.int .i64 (4)))) 36 false 67108863,
 cP 40 36 39 134217727]
def v164_5 : List COper := [
 cS 2 (.mov (.c (.int .i64 (1)))) 0]
def v164_6 : List COper := [
 cS 2 (.mov (.c (.int .i64 (0)))) 0]
def v164_body : CCode := (.seq (.region v164_0)
 (.seq (.region v164_1)
 (.seq (.seq (.region v164_2)
 (.cond (.t 9) (.region v164_3) .skip))
 (.seq (.seq (.region v164_4)
 (.cond (.t 40) (.seq (.region v164_5)
 .ret) .skip))
 (.seq (.region v164_6)
 .ret)))))
def v164 : VFunc := ⟨41, [.t 2], true, v164_body,
 fun _ => [],
 fun _ => []⟩
@[simp] theorem v164_c : v164.body = v164_body := rfl
@[simp] theorem v164_r : v164.results = [.t 2] := rfl
@[simp] theorem v164_o : v164.own = true := rfl
def v179_0 : List COper := [
 ⟨some 1, .m (.box (.t 0)), none, 0⟩,
 cS 2 (.mov (.c (.int .i64 (0)))) 0]
def v179_1 : List COper := [
 cF 3 0 1 0,
 cL 4 3 1,
 cS 5 (.bin .lss .no (.t 4) (.c (.int .i64 (0)))) 3,
 cM 6 5 7,
 cG 7 (.fieldAddr 0 (.t 1)) 6 false 15,
 cG 8 (.load none (.t 7)) 6 false 31,
 cG 9 (.bin .geq .no (.t 8) (.c (.int .i64 (40)))) 6 false 63,
 cP 10 6 9 127,
 cM 11 10 255,
 cG 12 (.fieldAddr 2 (.t 1)) 11 false 511,
 cG 13 (.load none (.t 12)) 11 false 1023,
 cG 14 (.bin .lss .no (.t 13) (.c (.int .i64 (-1)))) 11 false 2047,
 cP 15 11 14 4095,
 cM 16 15 8191,
 cG 17 (.fieldAddr 2 (.t 1)) 16 false 16383,
 cG 18 (.load none (.t 17)) 16 false 32767,
 cG 19 (.bin .geq .no (.t 18) (.c (.int .i64 (80)))) 16 false 65535,
 cP 20 16 19 131071]
def v179_2 : List COper := [
 cS 2 (.mov (.c (.int .i64 (1)))) 0]
def v179_3 : List COper := [
 cS 2 (.mov (.c (.int .i64 (0)))) 0]
def v179_body : CCode := (.seq (.region v179_0)
 (.seq (.seq (.region v179_1)
 (.cond (.t 20) (.seq (.region v179_2)
 .ret) .skip))
 (.seq (.region v179_3)
 .ret)))
def v179 : VFunc := ⟨21, [.t 2], true, v179_body,
 fun _ => [],
 fun _ => []⟩
@[simp] theorem v179_c : v179.body = v179_body := rfl
@[simp] theorem v179_r : v179.results = [.t 2] := rfl
@[simp] theorem v179_o : v179.own = true := rfl
def v189_0 : List COper := [
 cS 2 (.mov (.c (.cslice [] 1 0 1))) 0]
def v189_1 : List COper := [
 cS 3 (.mov (.c (.int .i64 (0)))) 0]
def v189_2 : List COper := [
 cM 9 0 0,
 cS 10 (.len 1 (.t 9)) 1,
 cS 11 (.mov (.c (.int .i64 (0)))) 0]
def v189_3 : List COper := [
 cS 12 (.bin .lss .no (.t 11) (.t 10)) 0]
def v189_4 : List COper := [
 cS 13 (.indexAddr 1 (.t 9) (.t 11)) 0,
 cL 14 13 1,
 cM 5 14 3]
def v189_5 : List COper := [
 cM 15 3 0,
 cM 16 5 0,
 cS 17 (.len 1 (.t 16)) 2,
 cS 18 (.bin .add .no (.t 15) (.t 17)) 7,
 cM 3 18 15]
def v189_6 : List COper := [
 cS 19 (.bin .add .no (.t 11) (.c (.int .i64 (1)))) 0,
 cM 11 19 1]
def v189_b7 : CCode := (.seq (.region v189_3)
 (.seq (.cond (.t 12) .skip (.exit 0))
 (.seq (.block 1 (.seq (.region v189_4)
 (.region v189_5)))
 (.region v189_6))))
def v189_8 : List COper := [
 cM 20 3 0,
 ⟨some 21, .m (.makeSlice 1 1 [(.int .u8 (0))] (.c (.int .i64 (0))) (.t 20)), none, 1⟩,
 cM 6 21 3]
def v189_9 : List COper := [
 cM 22 0 0,
 cS 23 (.len 1 (.t 22)) 1,
 cS 24 (.mov (.c (.int .i64 (0)))) 0]
def v189_10 : List COper := [
 cS 25 (.bin .lss .no (.t 24) (.t 23)) 0]
def v189_11 : List COper := [
 cS 26 (.indexAddr 1 (.t 22) (.t 24)) 0,
 cL 27 26 1,
 cM 8 27 3]
def v189_12 : List COper := [
 cM 28 6 0,
 cM 29 8 0,
 ⟨some 30, .h (.append 1 1 false (.t 28) (.t 29)), none, 3⟩,
 cM 6 30 7]
def v189_13 : List COper := [
 cS 31 (.bin .add .no (.t 24) (.c (.int .i64 (1)))) 0,
 cM 24 31 1]
def v189_b14 : CCode := (.seq (.region v189_10)
 (.seq (.cond (.t 25) .skip (.exit 2))
 (.seq (.block 3 (.seq (.region v189_11)
 (.region v189_12)))
 (.region v189_13))))
def v189_15 : List COper := [
 cM 32 6 0,
 cM 2 32 1]
def v189_body : CCode := (.seq (.region v189_0)
 (.seq (.region v189_1)
 (.seq (.seq (.region v189_2)
 (.block 0 (.loop v189_b7)))
 (.seq (.region v189_8)
 (.seq (.seq (.region v189_9)
 (.block 2 (.loop v189_b14)))
 (.seq (.region v189_15)
 .ret))))))
def v189 : VFunc := ⟨33, [.t 2], true, v189_body,
 fun i => match i with | 0 => [11, 3, 9, 0, 10] | 2 => [24, 6, 22, 23] | _ => [],
 fun i => match i with | 0 => [0, 3] | 1 => [3, 9, 0, 10, 11] | 2 => [6] | 3 => [6, 22, 23, 24] | _ => []⟩
@[simp] theorem v189_c : v189.body = v189_body := rfl
@[simp] theorem v189_r : v189.results = [.t 2] := rfl
@[simp] theorem v189_o : v189.own = true := rfl
@[simp] theorem v189_h0 : v189.head 0 = [11, 3, 9, 0, 10] := rfl
@[simp] theorem v189_h2 : v189.head 2 = [24, 6, 22, 23] := rfl
@[simp] theorem v189_t0 : v189.tail 0 = [0, 3] := rfl
@[simp] theorem v189_t1 : v189.tail 1 = [3, 9, 0, 10, 11] := rfl
@[simp] theorem v189_t2 : v189.tail 2 = [6] := rfl
@[simp] theorem v189_t3 : v189.tail 3 = [6, 22, 23, 24] := rfl
def v190_0 : List COper := [
 cS 2 (.mov (.c (.cslice [] 1 0 1))) 0]
def v190_1 : List COper := [
 cM 3 0 0,
 cS 4 (.len 0 (.t 3)) 1,
 cS 5 (.convInt .u64 (.t 4)) 3,
 cC 6 191 [.t 5] 7,
 cM 7 0 0,
 ⟨some 8, .h (.append 1 1 true (.t 6) (.t 7)), none, 31⟩,
 cM 2 8 63]
def v190_body : CCode := (.seq (.region v190_0)
 (.seq (.region v190_1)
 .ret))
def v190 : VFunc := ⟨9, [.t 2], true, v190_body,
 fun _ => [],
 fun _ => []⟩
@[simp] theorem v190_c : v190.body = v190_body := rfl
@[simp] theorem v190_r : v190.results = [.t 2] := rfl
@[simp] theorem v190_o : v190.own = true := rfl
def v191_0 : List COper := [
 cS 2 (.mov (.c (.cslice [] 1 0 1))) 0]
def v191_1 : List COper := [
 ⟨some 4, .m (.makeSlice 1 1 [(.int .u8 (0))] (.c (.int .i64 (0))) (.c (.int .i64 (10)))), none, 0⟩,
 cM 3 4 1]
def v191_2 : List COper := [
 cM 5 0 0,
 cS 6 (.bin .geq .no (.t 5) (.c (.int .u64 (128)))) 1]
def v191_3 : List COper := [
 cM 9 3 0,
 cM 10 0 0,
 cS 11 (.convInt .u8 (.t 10)) 2,
 cS 12 (.bin .or .no (.t 11) (.c (.int .u8 (128)))) 6,
 ⟨some 13, .m (.buildSlice 1 1 [(.int .u8 (0))] [(0, 1, .t 12)]), none, 14⟩,
 ⟨some 14, .h (.append 1 1 false (.t 9) (.t 13)), none, 31⟩,
 cM 3 14 63]
def v191_4 : List COper := [
 cM 7 0 0,
 cS 8 (.bin .shr .no (.t 7) (.c (.int .u64 (7)))) 1,
 cM 0 8 3]
def v191_b5 : CCode := (.seq (.seq (.region v191_2)
 (.cond (.t 6) .skip (.exit 0)))
 (.seq (.block 1 (.region v191_3))
 (.region v191_4)))
def v191_6 : List COper := [
 cM 15 3 0,
 cM 16 0 0,
 cS 17 (.convInt .u8 (.t 16)) 2,
 ⟨some 18, .m (.buildSlice 1 1 [(.int .u8 (0))] [(0, 1, .t 17)]), none, 6⟩,
 ⟨some 19, .h (.append 1 1 false (.t 15) (.t 18)), none, 15⟩,
 cM 2 19 31]
def v191_body : CCode := (.seq (.region v191_0)
 (.seq (.region v191_1)
 (.seq (.block 0 (.loop v191_b5))
 (.seq (.region v191_6)
 .ret))))
def v191 : VFunc := ⟨20, [.t 2], true, v191_body,
 fun i => match i with | 0 => [0, 3] | _ => [],
 fun i => match i with | 0 => [0, 3] | 1 => [3, 0] | _ => []⟩
@[simp] theorem v191_c : v191.body = v191_body := rfl
@[simp] theorem v191_r : v191.results = [.t 2] := rfl
@[simp] theorem v191_o : v191.own = true := rfl
@[simp] theorem v191_h0 : v191.head 0 = [0, 3] := rfl
@[simp] theorem v191_t0 : v191.tail 0 = [0, 3] := rfl
@[simp] theorem v191_t1 : v191.tail 1 = [3, 0] := rfl
def v226_0 : List COper := [
 cS 2 (.mov (.c (.bool false))) 0]
def v226_1 : List COper := [
 cM 5 0 0,
 cS 6 (.bin .eql .str (.t 5) (.c (.str []))) 1,
 cM 7 6 3,
 cMG 8 0 7 false 7,
 cG 9 (.len 0 (.t 8)) 7 false 15,
 cG 10 (.bin .gtr .no (.t 9) (.c (.int .i64 (16)))) 7 false 31,
 cP 11 7 10 63,
 cM 12 11 127,
 cMG 13 0 12 false 255,
 cG 14 (.index (.t 13) (.c (.int .i64 (0)))) 12 false 511,
 cG 15 (.bin .lss .no (.t 14) (.c (.int .u8 (97)))) 12 false 1023,
 cP 16 12 15 2047,
 cM 17 16 4095,
 cMG 18 0 17 false 8191,
 cG 19 (.index (.t 18) (.c (.int .i64 (0)))) 17 false 16383,
 cG 20 (.bin .gtr .no (.t 19) (.c (.int .u8 (122)))) 17 false 32767,
 cP 21 17 20 65535]
def v226_2 : List COper := [
 cS 2 (.mov (.c (.bool false))) 0]
def v226_3 : List COper := [
 cM 22 0 0,
 cS 23 (.len 0 (.t 22)) 1,
 cS 24 (.mov (.c (.int .i64 (0)))) 0]
def v226_4 : List COper := [
 cS 25 (.bin .lss .no (.t 24) (.t 23)) 0]
def v226_5 : List COper := [
 cM 26 24 0,
 cM 3 26 1]
def v226_6 : List COper := [
 cM 27 0 0,
 cM 28 3 0,
 cS 29 (.index (.t 27) (.t 28)) 3,
 cM 4 29 7]
def v226_7 : List COper := [
 cM 31 4 0,
 cS 32 (.bin .geq .no (.t 31) (.c (.int .u8 (97)))) 1,
 cM 33 32 3,
 cMG 34 4 33 true 7,
 cG 35 (.bin .leq .no (.t 34) (.c (.int .u8 (122)))) 33 true 15,
 cQ 36 33 35 31,
 cM 30 36 63]
def v226_8 : List COper := [
 cM 37 4 0,
 cS 38 (.bin .geq .no (.t 37) (.c (.int .u8 (48)))) 1,
 cM 39 38 3,
 cMG 40 4 39 true 7,
 cG 41 (.bin .leq .no (.t 40) (.c (.int .u8 (57)))) 39 true 15,
 cQ 42 39 41 31,
 cM 30 42 63]
def v226_9 : List COper := [
 cM 43 4 0,
 cS 44 (.bin .eql .int (.t 43) (.c (.int .u8 (45)))) 1,
 cM 30 44 3]
def v226_10 : List COper := [
 cS 2 (.mov (.c (.bool false))) 0]
def v226_11 : List COper := [
 cS 45 (.bin .add .no (.t 24) (.c (.int .i64 (1)))) 0,
 cM 24 45 1]
def v226_b12 : CCode := (.seq (.region v226_4)
 (.seq (.cond (.t 25) .skip (.exit 0))
 (.seq (.block 1 (.seq (.region v226_5)
 (.seq (.region v226_6)
 (.block 2 (.seq (.seq (.region v226_7)
 (.cond (.t 30) .skip (.seq (.region v226_8)
 (.cond (.t 30) .skip (.region v226_9)))))
 (.cond (.t 30) .skip (.seq (.region v226_10)
 .ret)))))))
 (.region v226_11))))
def v226_13 : List COper := [
 cS 2 (.mov (.c (.bool true))) 0]
def v226_body : CCode := (.seq (.region v226_0)
 (.seq (.seq (.region v226_1)
 (.cond (.t 21) (.seq (.region v226_2)
 .ret) .skip))
 (.seq (.seq (.region v226_3)
 (.block 0 (.loop v226_b12)))
 (.seq (.region v226_13)
 .ret))))
def v226 : VFunc := ⟨46, [.t 2], true, v226_body,
 fun i => match i with | 0 => [24, 0, 23] | _ => [],
 fun i => match i with | 0 => [] | 2 => [0, 23, 24] | 1 => [0, 23, 24] | _ => []⟩
@[simp] theorem v226_c : v226.body = v226_body := rfl
@[simp] theorem v226_r : v226.results = [.t 2] := rfl
@[simp] theorem v226_o : v226.own = true := rfl
@[simp] theorem v226_h0 : v226.head 0 = [24, 0, 23] := rfl
@[simp] theorem v226_t0 : v226.tail 0 = [] := rfl
@[simp] theorem v226_t2 : v226.tail 2 = [0, 23, 24] := rfl
@[simp] theorem v226_t1 : v226.tail 1 = [0, 23, 24] := rfl
def vTab : Nat → Option VFunc
 | 3 => some v3
 | 4 => some v4
 | 11 => some v11
 | 12 => some v12
 | 15 => some v15
 | 17 => some v17
 | 19 => some v19
 | 21 => some v21
 | 25 => some v25
 | 26 => some v26
 | 28 => some v28
 | 31 => some v31
 | 33 => some v33
 | 41 => some v41
 | 42 => some v42
 | 43 => some v43
 | 44 => some v44
 | 46 => some v46
 | 49 => some v49
 | 51 => some v51
 | 53 => some v53
 | 58 => some v58
 | 59 => some v59
 | 60 => some v60
 | 62 => some v62
 | 101 => some v101
 | 102 => some v102
 | 103 => some v103
 | 104 => some v104
 | 165 => some v165
 | 64 => some v64
 | 98 => some v98
 | 99 => some v99
 | 105 => some v105
 | 106 => some v106
 | 107 => some v107
 | 166 => some v166
 | 167 => some v167
 | 168 => some v168
 | 171 => some v171
 | 172 => some v172
 | 227 => some v227
 | 228 => some v228
 | 10 => some v10
 | 32 => some v32
 | 35 => some v35
 | 38 => some v38
 | 65 => some v65
 | 66 => some v66
 | 67 => some v67
 | 68 => some v68
 | 69 => some v69
 | 70 => some v70
 | 71 => some v71
 | 72 => some v72
 | 73 => some v73
 | 74 => some v74
 | 75 => some v75
 | 76 => some v76
 | 110 => some v110
 | 112 => some v112
 | 113 => some v113
 | 115 => some v115
 | 116 => some v116
 | 118 => some v118
 | 119 => some v119
 | 122 => some v122
 | 123 => some v123
 | 124 => some v124
 | 164 => some v164
 | 179 => some v179
 | 189 => some v189
 | 190 => some v190
 | 191 => some v191
 | 226 => some v226
 | _ => none
end Go.RE
