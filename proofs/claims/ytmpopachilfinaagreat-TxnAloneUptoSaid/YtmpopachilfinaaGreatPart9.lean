/- A part of a proof. -/
import Derived.Test.YtmpopachilfinaaGreatPart8
import Derived.KernelRfl
set_option linter.unusedVariables false
set_option linter.defProp false
set_option linter.unusedSimpArgs false
set_option linter.unnecessarySimpa false
namespace Go.RE
abbrev Lc:=List aF
def qS:List Step→Lc
 |[]=>[]
 | .small _ o::r=>o::qS r
 | .aZ _ o::r=>o::qS r
theorem fq(o:Lc)(s:List Step)(h:sched (o.length+1) (bt o 0) 0=some s):sched (o.length+1) (bt o 0) 0=some s:=h
def fe:Nat→List Nat:=fun i=>match i with|_=>[]
@[simp] def cS(d:Nat)(o:fR)(p:Nat):aF:=⟨some d,.s o,none,p⟩
@[simp] def cG(d:Nat)(o:fR)(g:Nat)(b:Bool)(p:Nat):aF:=⟨some d,.s o,some (g,b),p⟩
@[simp] def cM(d a p:Nat):aF:=⟨some d,.s (.br (.t a)),none,p⟩
@[simp] def jV(d a g:Nat)(b:Bool)(p:Nat):aF:=⟨some d,.s (.br (.t a)),some (g,b),p⟩
@[simp] def cL(d a p:Nat):aF:=⟨some d,.s (.load none (.t a)),none,p⟩
@[simp] def cF(d k a p:Nat):aF:=⟨some d,.s (.fieldAddr k (.t a)),none,p⟩
@[simp] def cN(d a p:Nat):aF:=⟨some d,.s (.nilCheck (.t a)),none,p⟩
@[simp] def cE(d k a p:Nat):aF:=⟨some d,.s (.extract k (.t a)),none,p⟩
@[simp] def cC(d f:Nat)(a:List bH)(p:Nat):aF:=⟨some d,.call (.c (.func f [] [])) a,none,p⟩
@[simp] def O1(d f:Nat)(a:List bH)(g:Nat)(b:Bool)(p:Nat):aF:=⟨some d,.call (.c (.func f [] [])) a,some (g,b),p⟩
@[simp] def cP(d a b p:Nat):aF:=⟨some d,.s (.pick (.t a) (.c (.bool true)) (.t b)),none,p⟩
@[simp] def cQ(d a b p:Nat):aF:=⟨some d,.s (.pick (.t a) (.t b) (.c (.bool false))),none,p⟩
@[simp] def cH(o:xV)(p:Nat):aF:=⟨none,.h o,none,p⟩
def XA:Lc:=[cS 2 (.br (.c (.bool false))) 0]
def XB:Lc:=[cC 9 12 [] 0,cS 10 (.un .not (.t 9)) 1,cM 11 10 3,jV 12 0 11 false 7,O1 13 13 [.t 12] 11 false 15,cG 14 (.un .not (.t 13)) 11 false 31,cP 15 11 14 63]
def qgg:Lc:=[cC 16 12 [] 0,cM 2 16 1]
def qcz:Lc:=[cC 17 15 [] 0,cC 18 14 [.t 17] 1,cM 3 18 3]
def qcA:Lc:=[cM 19 3 0,cS 20 (.bin .eql .bA (.t 19) (.c .bA)) 1]
def qiG:Lc:=[cS 2 (.br (.c (.bool false))) 0]
def qcB:Lc:=[cS 4 (.br (.c (.ag [] 1 0 1))) 0]
def qcC:Lc:=[cM 21 0 0,cS 22 (.len 1 (.t 21)) 1,cS 23 (.br (.c (.int .i64 0))) 0]
def CV:Lc:=[cS 24 (.bin .lss .no (.t 23) (.t 22)) 0]
def Ge:Lc:=[cS 25 (.indexAddr 6 (.t 21) (.t 23)) 0,cS 26 (.load (some 6) (.t 25)) 1,⟨some 6,.m (.alloc [.int .i64 0,.int .i64 0,.str [],.bool false,.ag [] 0 0 1,.str []]),none,0⟩,cH (.store 6 (.t 6) (.t 26)) 7]
def vG:Lc:=[cM 27 3 0,cC 28 20 [.t 27] 1,cS 29 (.len 1 (.t 28)) 3,cM 7 29 7]
def vH:Lc:=[cM 30 3 0,cS 31 (.load (some 6) (.t 6)) 0,cC 32 16 [.t 30,.t 31] 3,⟨some 8,.m (.alloc [.int .u64 0,.int .i64 0,.ag [] 0 0 1,.bool false,.ag [] 0 0 2]),none,0⟩,cH (.store 5 (.t 8) (.t 32)) 15]
def vI:Lc:=[cF 33 0 6 0,cL 34 33 1,cS 35 (.bin .eql .int (.t 34) (.c (.int .i64 0))) 3,cM 36 35 7,cG 37 (.fieldAddr 1 (.t 8)) 36 true 15,cG 38 (.load none (.t 37)) 36 true 31,cG 39 (.bin .eql .int (.t 38) (.c (.int .i64 0))) 36 true 63,cQ 40 36 39 127]
def Ze:Lc:=[cF 41 0 8 0,cL 42 41 1,cS 43 (.ep .i64 (.t 42)) 3,cM 44 4 0,cS 45 (.len 1 (.t 44)) 8,cS 46 (.bin .add .no (.t 45) (.c (.int .i64 1))) 24,cS 47 (.bin .neq .int (.t 43) (.t 46)) 63]
def qge:Lc:=[cS 2 (.br (.c (.bool false))) 0]
def Zg:Lc:=[cM 48 4 0,cM 49 7 0,⟨some 50,.m (.buildSlice 1 1 [.int .i64 0] [(0,1,.t 49)]),none,2⟩,⟨some 51,.h (.append 1 8 false (.t 48) (.t 50)),none,7⟩,cM 4 51 15]
def vJ:Lc:=[cF 52 0 6 0,cL 53 52 1,cS 54 (.bin .neq .int (.t 53) (.c (.int .i64 4))) 3,cM 55 54 7,cG 56 (.fieldAddr 1 (.t 6)) 55 false 15,cG 57 (.load none (.t 56)) 55 false 31,cG 58 (.bin .lss .no (.t 57) (.c (.int .i64 1))) 55 false 63,cP 59 55 58 127,cM 60 59 255,cG 61 (.fieldAddr 1 (.t 6)) 60 false 511,cG 62 (.load none (.t 61)) 60 false 1023,jV 63 4 60 false 511,cG 64 (.len 1 (.t 63)) 60 false 2559,cG 65 (.bin .gtr .no (.t 62) (.t 64)) 60 false 8191,cP 66 60 65 16383]
def M5:Lc:=[cF 67 1 8 0,cL 68 67 1,cS 69 (.bin .eql .int (.t 68) (.c (.int .i64 100))) 3,cM 70 69 7,cG 71 (.fieldAddr 1 (.t 8)) 70 false 15,cG 72 (.load none (.t 71)) 70 false 31,cG 73 (.bin .eql .int (.t 72) (.c (.int .i64 101))) 70 false 63,cP 74 70 73 127,cM 75 74 255,jV 76 7 75 true 511,jV 77 4 75 true 511,cG 78 (.fieldAddr 1 (.t 6)) 75 true 511,cG 79 (.load none (.t 78)) 75 true 2559,cG 80 (.bin .sub .no (.t 79) (.c (.int .i64 1))) 75 true 6655,cG 81 (.indexAddr 1 (.t 77) (.t 80)) 75 true 15871,cG 82 (.load none (.t 81)) 75 true 32255,cG 83 (.bin .eql .int (.t 76) (.t 82)) 75 true 65535,cQ 84 75 83 131071]
def qgf:Lc:=[cS 2 (.br (.c (.bool false))) 0]
def vK:Lc:=[cS 85 (.bin .add .no (.t 23) (.c (.int .i64 1))) 0,cM 23 85 1]
def Gf:aj:=(.seq (.region CV) (.seq (.cond (.t 24) .skip (.exit 0)) (.seq (.block 1 (.seq (.region Ge) (.seq (.region vG) (.seq (.region vH) (.seq (.seq (.region vI) (.cond (.t 40) (.seq (.seq (.region Ze) (.cond (.t 47) (.seq (.region qge) .ret) .skip)) (.region Zg)) .skip)) (.seq (.seq (.region vJ) (.cond (.t 66) (.exit 1) .skip)) (.seq (.region M5) (.cond (.t 84) (.seq (.region qgf) .ret) .skip)))))))) (.region vK))))
def UJ:Lc:=[cM 86 3 0,cC 87 20 [.t 86] 1,cC 88 21 [.t 87,(.c (.int .i64 0))] 3,cM 89 3 0,cC 90 20 [.t 89] 15,cS 91 (.len 1 (.t 90)) 31,cS 92 (.bin .eql .int (.t 88) (.t 91)) 63,cM 2 92 127]
def vM:aj:=(.seq (.region XA) (.seq (.seq (.region XB) (.cond (.t 15) (.seq (.region qgg) .ret) .skip)) (.seq (.region qcz) (.seq (.seq (.region qcA) (.cond (.t 20) (.seq (.region qiG) .ret) .skip)) (.seq (.region qcB) (.seq (.seq (.region qcC) (.block 0 (.loop Gf))) (.seq (.region UJ) .ret)))))))
def v4:az:=⟨93,[.t 2],true,vM,fun i=>match i with|0=>[23,4,3,21,22]|_=>[],fun i=>match i with|0=>[3]|1=>[4,3,21,22,23]|_=>[]⟩
@[simp] theorem qjB:v4.body=vM∧v4.results=[.t 2]∧v4.own=true∧v4.head 0=[23,4,3,21,22]∧v4.tail 0=[3]∧v4.tail 1=[4,3,21,22,23]:=⟨rfl,rfl,rfl,rfl,rfl,rfl⟩
def Ry:Lc:=[cS 0 (.br (.c (.bool false))) 0]
def Rz:Lc:=[cC 11 15 [] 0,cC 12 14 [.t 11] 1,cM 1 12 3]
def RA:Lc:=[cM 13 1 0,cS 14 (.bin .eql .bA (.t 13) (.c .bA)) 1]
def qf5:Lc:=[cS 0 (.br (.c (.bool false))) 0]
def RB:Lc:=[cM 16 1 0,cC 17 17 [.t 16] 1,cM 15 17 3,cE 18 0 15 7,cE 19 1 15 7,cM 2 18 15,cM 3 19 63]
def RC:Lc:=[cM 21 1 0,cC 22 17 [.t 21] 1,cM 20 22 3,cE 23 0 20 7,cE 24 1 20 7,cM 4 23 15,cM 5 24 63]
def RD:Lc:=[cM 25 3 0,cS 26 (.bin .neq .int (.t 25) (.c (.int .i64 0))) 1,cM 27 26 3,jV 28 5 27 false 7,cG 29 (.bin .neq .int (.t 28) (.c (.int .i64 0))) 27 false 15,cP 30 27 29 31,cM 31 30 63,jV 32 1 31 false 127,jV 33 2 31 false 127,⟨some 34,.call (.c (.func 51 [] [])) [(.c (.str [98])),(.c (.str [49]))],some (31,false),127⟩,O1 35 18 [.t 32,.t 33,.t 34] 31 false 1023,cG 36 (.bin .neq .int (.t 35) (.c (.int .i64 0))) 31 false 2047,cP 37 31 36 4095,cM 38 37 8191,jV 39 1 38 false 16383,jV 40 4 38 false 16383,⟨some 41,.call (.c (.func 51 [] [])) [(.c (.str [98])),(.c (.str [50]))],some (38,false),16383⟩,O1 42 18 [.t 39,.t 40,.t 41] 38 false 131071,cG 43 (.bin .neq .int (.t 42) (.c (.int .i64 0))) 38 false 262143,cP 44 38 43 524287]
def qf6:Lc:=[cS 0 (.br (.c (.bool false))) 0]
def RF:Lc:=[cM 46 1 0,cM 47 2 0,cC 48 19 [.t 46,.t 47] 3,cM 45 48 7,cE 49 0 45 15,cE 50 1 45 15,cM 6 49 31,cM 7 50 127]
def RG:Lc:=[cM 52 1 0,cM 53 4 0,cC 54 19 [.t 52,.t 53] 3,cM 51 54 7,cE 55 0 51 15,cE 56 1 51 15,cM 8 55 31,cM 9 56 127]
def Kg:Lc:=[cM 57 1 0,cC 58 23 [.t 57] 1,cM 10 58 3]
def Kh:Lc:=[cM 59 6 0,cS 60 (.bin .eql .int (.t 59) (.c (.int .u64 1))) 1,cM 61 60 3,jV 62 7 61 true 7,cG 63 (.bin .eql .int (.t 62) (.c (.int .i64 0))) 61 true 15,cQ 64 61 63 31,cM 65 64 63,jV 66 9 65 true 127,cG 67 (.bin .eql .int (.t 66) (.c (.int .i64 100))) 65 true 255,cQ 68 65 67 511,cM 69 68 1023,jV 70 10 69 true 2047,cG 71 (.len 1 (.t 70)) 69 true 4095,cG 72 (.bin .eql .int (.t 71) (.c (.int .i64 1))) 69 true 8191,cQ 73 69 72 16383,cM 74 73 32767,jV 75 10 74 true 65535,cG 76 (.indexAddr 2 (.t 75) (.c (.int .i64 0))) 74 true 131071,cG 77 (.fieldAddr 1 (.t 76)) 74 true 262143,cG 78 (.load none (.t 77)) 74 true 524287,cG 79 (.toStr (.t 78)) 74 true 1048575,cG 80 (.bin .eql .str (.t 79) (.c (.str [49]))) 74 true 2097151,cQ 81 74 80 4194303,cM 82 81 8388607,O1 83 52 [] 82 true 16777215,cG 84 (.bin .eql .int (.t 83) (.c (.int .i64 101))) 82 true 33554431,cQ 85 82 84 67108863,cM 0 85 134217727]
def uS:aj:=(.seq (.region Ry) (.seq (.region Rz) (.seq (.seq (.region RA) (.cond (.t 14) (.seq (.region qf5) .ret) .skip)) (.seq (.region RB) (.seq (.region RC) (.seq (.seq (.region RD) (.cond (.t 44) (.seq (.region qf6) .ret) .skip)) (.seq (.region RF) (.seq (.region RG) (.seq (.region Kg) (.seq (.region Kh) .ret))))))))))
def v12:az:=⟨86,[.t 0],true,uS,fe,fe⟩
@[simp] theorem qi0:v12.body=uS∧v12.results=[.t 0]∧v12.own=true:=⟨rfl,rfl,rfl⟩
def Yg:Lc:=[cS 2 (.br (.c (.bool false))) 0]
def Yh:Lc:=[cM 5 0 0,cS 6 (.len 1 (.t 5)) 1,cS 7 (.br (.c (.int .i64 0))) 0]
def DK:Lc:=[cS 8 (.bin .lss .no (.t 7) (.t 6)) 0]
def Im:Lc:=[cS 9 (.indexAddr 6 (.t 5) (.t 7)) 0,cS 10 (.load (some 6) (.t 9)) 1,⟨some 4,.m (.alloc [.int .i64 0,.int .i64 0,.str [],.bool false,.ag [] 0 0 1,.str []]),none,0⟩,cH (.store 6 (.t 4) (.t 10)) 7]
def Io:Lc:=[cF 11 2 4 0,cF 12 0 11 1,cL 13 12 3,cS 14 (.len 0 (.t 13)) 7,cS 15 (.bin .gtr .no (.t 14) (.c (.int .i64 300))) 15,cM 16 15 31,cG 17 (.fieldAddr 2 (.t 4)) 16 false 63,cG 18 (.fieldAddr 2 (.t 17)) 16 false 127,cG 19 (.load none (.t 18)) 16 false 255,cG 20 (.len 1 (.t 19)) 16 false 511,cG 21 (.bin .gtr .no (.t 20) (.c (.int .i64 5000))) 16 false 1023,cP 22 16 21 2047,cM 23 22 4095,cG 24 (.fieldAddr 5 (.t 4)) 23 false 8191,cG 25 (.load none (.t 24)) 23 false 16383,cG 26 (.len 0 (.t 25)) 23 false 32767,cG 27 (.bin .gtr .no (.t 26) (.c (.int .i64 300))) 23 false 65535,cP 28 23 27 131071]
def Mq:Lc:=[cS 2 (.br (.c (.bool false))) 0]
def Yi:Lc:=[cS 29 (.bin .add .no (.t 7) (.c (.int .i64 1))) 0,cM 7 29 1]
def E9:aj:=(.seq (.region DK) (.seq (.cond (.t 8) .skip (.exit 0)) (.seq (.block 1 (.seq (.region Im) (.seq (.region Io) (.cond (.t 28) (.seq (.region Mq) .ret) .skip)))) (.region Yi))))
def R6:Lc:=[cM 30 0 0,cS 31 (.len 1 (.t 30)) 1,cS 32 (.bin .leq .no (.t 31) (.c (.int .i64 80))) 3,cM 2 32 7]
def Bz:aj:=(.seq (.region Yg) (.seq (.seq (.region Yh) (.block 0 (.loop E9))) (.seq (.region R6) .ret)))
def RH:az:=⟨33,[.t 2],true,Bz,fun i=>match i with|0=>[7,5,0,6]|_=>[],fun i=>match i with|0=>[0]|1=>[5,0,6,7]|_=>[]⟩
@[simp] theorem qi1:RH.body=Bz∧RH.results=[.t 2]∧RH.own=true∧RH.head 0=[7,5,0,6]∧RH.tail 0=[0]∧RH.tail 1=[5,0,6,7]:=⟨rfl,rfl,rfl,rfl,rfl,rfl⟩
def Yj:Lc:=[⟨some 1,.m (.box (.t 0)),none,0⟩,cS 2 (.br (.c .bA)) 0]
def Yk:Lc:=[cS 6 (.load (some 7) (.t 1)) 0,cC 7 41 [.t 6] 1,cM 5 7 3,cE 8 0 5 7,cE 9 1 5 7,cM 3 8 15,cM 4 9 63]
def Yl:Lc:=[cM 10 4 0,cS 11 (.bin .neq .int (.t 10) (.c (.int .i64 0))) 1]
def qf7:Lc:=[cS 2 (.br (.c .bA)) 0]
def Ym:Lc:=[cM 12 3 0,cM 2 12 1]
def BF:aj:=(.seq (.region Yj) (.seq (.region Yk) (.seq (.seq (.region Yl) (.cond (.t 11) (.seq (.region qf7) .ret) .skip)) (.seq (.region Ym) .ret))))
def v14:az:=⟨13,[.t 2],true,BF,fe,fe⟩
@[simp] theorem qi2:v14.body=BF∧v14.results=[.t 2]∧v14.own=true:=⟨rfl,rfl,rfl⟩
def Yn:Lc:=[⟨some 0,.m (.alloc [.int .i64 0,.int .i64 0,.int .i64 0,.int .i64 0,.int .i64 0,.int .i64 0,.int .u64 0]),none,0⟩]
def Yo:Lc:=[cS 1 (.build [.int .i64 0,.int .i64 0,.int .i64 0,.int .i64 0,.int .i64 0,.int .i64 0,.int .u64 0] [(0,1,(.c (.int .i64 1000))),(1,1,(.c (.int .i64 100000))),(2,1,(.c (.int .i64 1048576))),(3,1,(.c (.int .i64 1000))),(4,1,(.c (.int .i64 1000))),(5,1,(.c (.int .i64 16))),(6,1,(.c (.int .u64 1099511627776)))]) 0,cH (.store 7 (.t 0) (.t 1)) 1]
def BG:aj:=(.seq (.region Yn) (.seq (.region Yo) .ret))
def v15:az:=⟨2,[.cell 0 (some 7)],true,BG,fe,fe⟩
@[simp] theorem qi3:v15.body=BG∧v15.results=[.cell 0 (some 7)]∧v15.own=true:=⟨rfl,rfl,rfl⟩
def uY:Lc:=[⟨some 3,.m (.box (.t 1)),none,0⟩,⟨some 4,.m (.alloc [.int .u64 0,.int .i64 0,.ag [] 0 0 1,.bool false,.ag [] 0 0 2]),none,0⟩]
def uZ:Lc:=[cF 14 0 3 0,cL 15 14 1]
def u5:Lc:=[cS 17 (.bin .eql .int (.t 15) (.c (.int .i64 0))) 0,cM 16 17 1]
def Yp:Lc:=[cM 19 0 0,cC 20 17 [.t 19] 1,cM 18 20 3,cE 21 0 18 7,cE 22 1 18 7,cM 5 21 15,cM 6 22 63]
def Yq:Lc:=[cM 23 5 0,cS 24 (.ep .u64 (.t 23)) 1,cM 25 6 0,cS 26 (.build [.int .u64 0,.int .i64 0,.ag [] 0 0 1,.bool false,.ag [] 0 0 2] [(0,1,.t 24),(1,1,.t 25)]) 7,cH (.store 5 (.t 4) (.t 26)) 15]
def yA:Lc:=[cS 28 (.bin .eql .int (.t 15) (.c (.int .i64 1))) 0,cM 27 28 1]
def Yr:Lc:=[cM 30 0 0,cF 31 1 3 0,cL 32 31 2,cF 33 2 3 0,cF 34 0 33 8,cL 35 34 24,cC 36 36 [.t 30,.t 32,.t 35] 63,cM 29 36 127,cE 37 0 29 255,cE 38 1 29 255,cE 39 2 29 255,cM 7 37 511,cM 8 38 3071,cM 9 39 8191]
def Ys:Lc:=[cM 40 7 0,cM 41 8 0,cM 42 9 0,cS 43 (.build [.int .u64 0,.int .i64 0,.ag [] 0 0 1,.bool false,.ag [] 0 0 2] [(2,1,.t 40),(3,1,.t 41),(1,1,.t 42)]) 7,cH (.store 5 (.t 4) (.t 43)) 15]
def BJ:Lc:=[cS 45 (.bin .eql .int (.t 15) (.c (.int .i64 2))) 0,cM 44 45 1]
def Yt:Lc:=[cM 47 0 0,cF 48 1 3 0,cL 49 48 2,cF 50 2 3 0,cF 51 0 50 8,cL 52 51 24,cF 53 5 3 0,cL 54 53 64,cC 55 37 [.t 47,.t 49,.t 52,.t 54] 255,cM 46 55 511,cE 56 0 46 1023,cE 57 1 46 1023,cM 10 56 2047,cM 11 57 8191]
def SR:Lc:=[cM 58 10 0,cM 59 11 0,cS 60 (.build [.int .u64 0,.int .i64 0,.ag [] 0 0 1,.bool false,.ag [] 0 0 2] [(4,1,.t 58),(1,1,.t 59)]) 3,cH (.store 5 (.t 4) (.t 60)) 7]
def xD:Lc:=[cS 62 (.bin .eql .int (.t 15) (.c (.int .i64 3))) 0,cM 61 62 1]
def SS:Lc:=[cM 63 0 0,cF 64 1 3 0,cL 65 64 2,cF 66 2 3 0,cS 67 (.load (some 3) (.t 66)) 8,cC 68 18 [.t 63,.t 65,.t 67] 31,cS 69 (.build [.int .u64 0,.int .i64 0,.ag [] 0 0 1,.bool false,.ag [] 0 0 2] [(1,1,.t 68)]) 63,cH (.store 5 (.t 4) (.t 69)) 127]
def BH:Lc:=[cS 71 (.bin .eql .int (.t 15) (.c (.int .i64 4))) 0,cM 70 71 1]
def SU:Lc:=[cM 73 0 0,cF 74 1 3 0,cL 75 74 2,cC 76 19 [.t 73,.t 75] 7,cM 72 76 15,cE 77 0 72 31,cE 78 1 72 31,cM 12 77 63,cM 13 78 255]
def SV:Lc:=[cM 79 12 0,cM 80 13 0,cS 81 (.build [.int .u64 0,.int .i64 0,.ag [] 0 0 1,.bool false,.ag [] 0 0 2] [(0,1,.t 79),(1,1,.t 80)]) 3,cH (.store 5 (.t 4) (.t 81)) 7]
def Fi:Lc:=[cS 83 (.bin .eql .int (.t 15) (.c (.int .i64 5))) 0,cM 82 83 1]
def SX:Lc:=[cM 84 0 0,cF 85 1 3 0,cL 86 85 2,cC 87 53 [.t 84,.t 86] 7,cS 88 (.build [.int .u64 0,.int .i64 0,.ag [] 0 0 1,.bool false,.ag [] 0 0 2] [(1,1,.t 87)]) 15,cH (.store 5 (.t 4) (.t 88)) 31]
def Kt:Lc:=[cS 90 (.bin .eql .int (.t 15) (.c (.int .i64 6))) 0,cM 89 90 1]
def SY:Lc:=[cM 91 0 0,cC 92 50 [.t 91] 1,cS 93 (.ep .u64 (.t 92)) 3,cS 94 (.build [.int .u64 0,.int .i64 0,.ag [] 0 0 1,.bool false,.ag [] 0 0 2] [(0,1,.t 93)]) 7,cH (.store 5 (.t 4) (.t 94)) 15]
def SZ:Lc:=[cS 95 (.build [.int .u64 0,.int .i64 0,.ag [] 0 0 1,.bool false,.ag [] 0 0 2] []) 0,cH (.store 5 (.t 4) (.t 95)) 1]
def iX:aj:=(.seq (.region uY) (.seq (.seq (.region uZ) (.block 0 (.seq (.region u5) (.cond (.t 16) (.seq (.region Yp) (.seq (.region Yq) .ret)) (.seq (.region yA) (.cond (.t 27) (.seq (.region Yr) (.seq (.region Ys) .ret)) (.seq (.region BJ) (.cond (.t 44) (.seq (.region Yt) (.seq (.region SR) .ret)) (.seq (.region xD) (.cond (.t 61) (.seq (.region SS) .ret) (.seq (.region BH) (.cond (.t 70) (.seq (.region SU) (.seq (.region SV) .ret)) (.seq (.region Fi) (.cond (.t 82) (.seq (.region SX) .ret) (.seq (.region Kt) (.cond (.t 89) (.seq (.region SY) .ret) .skip)))))))))))))))) (.seq (.region SZ) .ret)))
def Ol:az:=⟨96,[.cell 4 (some 5)],true,iX,fe,fun i=>match i with|0=>[4]|_=>[]⟩
@[simp] theorem qi4:Ol.body=iX∧Ol.results=[.cell 4 (some 5)]∧Ol.own=true∧Ol.tail 0=[4]:=⟨rfl,rfl,rfl,rfl⟩
def S0:Lc:=[cS 2 (.br (.c (.int .i64 0))) 0,cS 3 (.br (.c (.int .i64 0))) 1]
def S1:Lc:=[cM 4 0 0,cC 5 54 [.t 4] 1,cS 6 (.un .not (.t 5)) 3]
def qf8:Lc:=[cS 2 (.br (.c (.int .i64 0))) 0,cS 3 (.br (.c (.int .i64 2))) 1]
def Fj:List Step:=[.small 0 (cM 7 0 0),.small 1 (cN 8 7 1),.small 2 (cF 9 8 8 3),.small 3 (cL 10 9 7),.small 4 (cS 11 (.len 2 (.t 10)) 15),.small 5 (cM 12 0 0),.small 6 (cN 13 12 32),.small 7 (cF 14 0 13 96),.small 8 (cF 15 5 14 224),.small 9 (cL 16 15 480),.small 10 (cS 17 (.bin .geq .no (.t 11) (.t 16)) 1023)]
def Yu:Lc:=qS Fj
def S2:=fq Yu Fj (by kernel_rfl)
def Yv:Lc:=[cS 2 (.br (.c (.int .i64 0))) 0,cS 3 (.br (.c (.int .i64 5))) 1]
def Yw:Lc:=[cM 18 0 0,cN 19 18 1,cF 20 11 19 3,cL 21 20 7,cS 22 (.bin .add .no (.t 21) (.c (.int .i64 1))) 15,cN 23 18 31,cF 24 11 23 63,cH (.store 1 (.t 24) (.t 22)) 127]
def Yx:Lc:=[cM 25 0 0,cN 26 25 1,cF 27 12 26 3,cL 28 27 7,cS 29 (.bin .add .no (.t 28) (.c (.int .i64 1))) 15,cN 30 25 31,cF 31 12 30 63,cH (.store 1 (.t 31) (.t 29)) 127]
def Yy:Lc:=[cM 32 0 0,cN 33 32 1,cF 34 8 33 3,cL 35 34 7,cM 36 0 0,cN 37 36 16,cF 38 11 37 48,cL 39 38 112,cM 40 0 0,cN 41 40 256,cF 42 11 41 768,cL 43 42 1792,cM 44 0 0,cN 45 44 4096,cF 46 7 45 12288,cL 47 46 28672,cC 48 55 [.t 47] 61440,cM 49 0 0,cN 50 49 131072,cF 51 12 50 393216,cL 52 51 917504,⟨some 53,.m (.makeMap),none,0⟩,cS 54 (.build [.int .i64 0,.int .u64 0,.int .i64 0,.ag [] 0 0 2,.bO] [(0,1,.t 43),(1,1,.t 48),(2,1,.t 52),(4,1,.t 53)]) 4194048,⟨some 55,.m (.box (.t 54)),none,8388352⟩,cH (.mapUpdate .int (.t 35) (.t 39) (.t 55)) 16777215]
def S3:List Step:=[.small 0 (cM 32 0 0),.small 1 (cN 33 32 1),.small 2 (cF 34 8 33 3),.small 3 (cL 35 34 7),.small 4 (cM 36 0 0),.small 5 (cN 37 36 16),.small 6 (cF 38 11 37 48),.small 7 (cL 39 38 112),.small 8 (cM 40 0 0),.small 9 (cN 41 40 256),.small 10 (cF 42 11 41 768),.small 11 (cL 43 42 1792),.small 12 (cM 44 0 0),.small 13 (cN 45 44 4096),.small 14 (cF 46 7 45 12288),.small 15 (cL 47 46 28672),.small 17 (cM 49 0 0),.small 18 (cN 50 49 131072),.small 19 (cF 51 12 50 393216),.small 20 (cL 52 51 917504),.small 21 ⟨some 53,.m (.makeMap),none,0⟩,.aZ 16 (cC 48 55 [.t 47] 61440),.small 22 (cS 54 (.build [.int .i64 0,.int .u64 0,.int .i64 0,.ag [] 0 0 2,.bO] [(0,1,.t 43),(1,1,.t 48),(2,1,.t 52),(4,1,.t 53)]) 4194048),.small 23 ⟨some 55,.m (.box (.t 54)),none,8388352⟩,.aZ 24 (cH (.mapUpdate .int (.t 35) (.t 39) (.t 55)) 16777215)]
def qcr:=fq Yy S3 (by kernel_rfl)
def Yz:Lc:=[cM 56 0 0,cN 57 56 1,cF 58 11 57 3,cL 59 58 7,cM 2 59 15,cS 3 (.br (.c (.int .i64 0))) 31]
def u6:aj:=(.seq (.region S0) (.seq (.seq (.region S1) (.cond (.t 6) (.seq (.region qf8) .ret) .skip)) (.seq (.seq (.draw Yu) (.cond (.t 17) (.seq (.region Yv) .ret) .skip)) (.seq (.region Yw) (.seq (.region Yx) (.seq (.draw Yy) (.seq (.region Yz) .ret)))))))
def v17:az:=⟨60,[.t 2,.t 3],true,u6,fe,fe⟩
@[simp] theorem qi5:v17.body=u6∧v17.results=[.t 2,.t 3]∧v17.own=true:=⟨rfl,rfl,rfl⟩
def Mw:Lc:=[⟨some 5,.m (.box (.t 2)),none,0⟩,cS 6 (.br (.c (.int .i64 0))) 0]
def Mx:Lc:=[cM 11 0 0,cM 12 1 0,cC 13 56 [.t 11,.t 12] 3,cM 10 13 7,cE 14 0 10 15,cE 15 1 10 15,cM 7 14 31,cM 8 15 127]
def My:Lc:=[cM 16 8 0,cS 17 (.bin .neq .int (.t 16) (.c (.int .i64 0))) 1]
def YA:Lc:=[cM 18 8 0,cM 6 18 1]
def Ti:Lc:=[cS 19 (.load (some 3) (.t 5)) 0,⟨some 20,.m (.buildSlice 3 1 [.str [],.bool false,.ag [] 0 0 1] [(0,3,.t 19)]),none,1⟩,cC 21 57 [.t 20] 3,cM 9 21 7]
def Tj:Lc:=[cM 22 9 0,cS 23 (.bin .neq .int (.t 22) (.c (.int .i64 0))) 1]
def YB:Lc:=[cM 24 9 0,cM 6 24 1]
def YC:Lc:=[cF 25 2 5 0,cL 26 25 1,cC 27 58 [.t 26] 3,cF 28 2 5 7,cH (.store 1 (.t 28) (.t 27)) 15]
def Ky:List Step:=[.small 0 (cM 29 7 0),.small 1 (cN 30 29 1),.small 2 (cF 31 4 30 3),.small 3 (cL 32 31 7),.small 4 (cF 33 0 5 0),.small 5 (cL 34 33 16),.small 6 (cS 35 (.load (some 3) (.t 5)) 0),.aZ 7 (cH (.mapUpdate .str (.t 32) (.t 34) (.t 35)) 127)]
def YD:Lc:=qS Ky
def qcs:=fq YD Ky (by kernel_rfl)
def YE:Lc:=[cS 6 (.br (.c (.int .i64 0))) 0]
def qZ:aj:=(.seq (.region Mw) (.seq (.region Mx) (.seq (.seq (.region My) (.cond (.t 17) (.seq (.region YA) .ret) .skip)) (.seq (.seq (.region Ti) (.seq (.region Tj) (.cond (.t 23) (.seq (.region YB) .ret) .skip))) (.seq (.region YC) (.seq (.draw YD) (.seq (.region YE) .ret)))))))
def v18:az:=⟨36,[.t 6],true,qZ,fe,fe⟩
@[simp] theorem qi6:v18.body=qZ∧v18.results=[.t 6]∧v18.own=true:=⟨rfl,rfl,rfl⟩
def BN:Lc:=[cS 4 (.br (.c (.int .u64 0))) 0,cS 5 (.br (.c (.int .i64 0))) 1]
def BO:Lc:=[cM 11 0 0,cM 12 1 0,cC 13 56 [.t 11,.t 12] 3,cM 10 13 7,cE 14 0 10 15,cE 15 1 10 15,cM 6 14 31,cM 7 15 127]
def BP:Lc:=[cM 16 7 0,cS 17 (.bin .neq .int (.t 16) (.c (.int .i64 0))) 1]
def YF:Lc:=[cM 18 7 0,cS 4 (.br (.c (.int .u64 0))) 0,cM 5 18 3]
def DL:Lc:=[cM 20 0 0,cM 21 6 0,cC 22 59 [.t 20,.t 21] 3,cM 19 22 7,cE 23 0 19 15,cE 24 1 19 15,cE 25 2 19 15,⟨some 8,.m (.alloc [.int .u64 0,.int .u64 0,.int .u64 0,.int .u64 0,.ag [] 0 0 2,.ag [] 0 0 2]),none,0⟩,cH (.store 6 (.t 8) (.t 23)) 159,cM 9 24 447,cM 7 25 1023]
def DM:Lc:=[cM 26 7 0,cS 27 (.bin .eql .int (.t 26) (.c (.int .i64 0))) 1]
def Ip:Lc:=[cM 28 0 0,cN 29 28 1,cF 30 12 29 3,cL 31 30 7,cS 32 (.bin .add .no (.t 31) (.c (.int .i64 1))) 15,cN 33 28 31,cF 34 12 33 63,cH (.store 1 (.t 34) (.t 32)) 127]
def xP:List Step:=[.small 0 (cM 35 0 0),.small 1 (cM 36 0 0),.small 2 (cN 37 36 2),.small 3 (cF 38 10 37 6),.small 4 (cL 39 38 14),.small 5 (cM 40 1 0),.small 6 (cM 41 6 0),.small 7 (cN 42 41 64),.small 8 (cF 43 1 42 192),.small 9 (cL 44 43 448),.small 10 (cM 45 9 0),.small 11 (cM 46 6 0),.small 12 (cN 47 46 2048),.small 13 (cF 48 2 47 6144),.small 14 (cL 49 48 14336),.small 15 (cM 50 0 0),.small 16 (cN 51 50 32768),.small 17 (cF 52 12 51 98304),.small 18 (cL 53 52 229376),.small 19 (cF 54 4 8 0),.small 20 (cL 55 54 524288),.small 21 (cF 56 5 8 0),.small 22 (cL 57 56 2097152),.small 23 (cS 58 (.build [.int .i64 0,.int .u64 0,.int .u64 0,.int .i64 0,.int .i64 0,.ag [] 0 0 2,.ag [] 0 0 2] [(0,1,.t 40),(1,1,.t 44),(2,1,.t 45),(3,1,.t 49),(4,1,.t 53),(5,1,.t 55),(6,1,.t 57)]) 8388576),.small 24 ⟨some 59,.m (.buildSlice 7 1 [.int .i64 0,.int .u64 0,.int .u64 0,.int .i64 0,.int .i64 0,.ag [] 0 0 2,.ag [] 0 0 2] [(0,7,.t 58)]),none,16777184⟩,.aZ 25 ⟨some 60,.h (.append 7 88 false (.t 39) (.t 59)),none,33554430⟩,.small 26 (cN 61 35 67108863),.small 27 (cF 62 10 61 134217727),.aZ 28 (cH (.store 1 (.t 62) (.t 60)) 268435455)]
def YG:Lc:=qS xP
def Fp:=fq YG xP (by kernel_rfl)
def xQ:List Step:=[.small 0 (cM 63 0 0),.small 1 (cM 64 0 0),.small 2 (cN 65 64 2),.small 3 (cF 66 9 65 6),.small 4 (cL 67 66 14),.small 5 (cS 68 (.load (some 6) (.t 8)) 0),.small 6 ⟨some 69,.m (.buildSlice 6 1 [.int .u64 0,.int .u64 0,.int .u64 0,.int .u64 0,.ag [] 0 0 2,.ag [] 0 0 2] [(0,6,.t 68)]),none,32⟩,.aZ 7 ⟨some 70,.h (.append 6 80 false (.t 67) (.t 69)),none,126⟩,.small 8 (cN 71 63 255),.small 9 (cF 72 9 71 511),.aZ 10 (cH (.store 1 (.t 72) (.t 70)) 1023)]
def YH:Lc:=qS xQ
def Fq:=fq YH xQ (by kernel_rfl)
def DN:Lc:=[cM 73 0 0,cM 74 1 0,cC 75 60 [.t 73,.t 74] 3]
def xO:Lc:=[cM 76 9 0,cM 77 7 0,cM 4 76 1,cM 5 77 7]
def lE:aj:=(.seq (.region BN) (.seq (.region BO) (.seq (.seq (.region BP) (.cond (.t 17) (.seq (.region YF) .ret) .skip)) (.seq (.region DL) (.seq (.seq (.region DM) (.cond (.t 27) (.seq (.region Ip) (.seq (.draw YG) (.draw YH))) .skip)) (.seq (.region DN) (.seq (.region xO) .ret)))))))
def v19:az:=⟨78,[.t 4,.t 5],true,lE,fe,fe⟩
@[simp] theorem qi7:v19.body=lE∧v19.results=[.t 4,.t 5]∧v19.own=true:=⟨rfl,rfl,rfl⟩
def TI:Lc:=[cS 2 (.br (.c (.ag [] 1 0 7))) 0]
def TJ:Lc:=[cM 5 0 0,cC 6 54 [.t 5] 1,cS 7 (.un .not (.t 6)) 3]
def qf9:Lc:=[cS 2 (.br (.c (.ag [] 1 0 7))) 0]
def TK:Lc:=[cM 8 0 0,cN 9 8 1,cF 10 10 9 3,cL 11 10 7,cC 12 61 [.t 11] 15,cM 3 12 31]
def TL:Lc:=[cM 13 3 0,cS 14 (.len 1 (.t 13)) 1,cS 15 (.br (.c (.int .i64 0))) 0]
def TM:Lc:=[cS 16 (.bin .lss .no (.t 15) (.t 14)) 0]
def YI:Lc:=[cM 17 15 0,cM 4 17 1]
def YJ:Lc:=[cM 18 3 0,cM 19 4 0,cM 20 3 0,cM 21 4 0,cM 22 3 0,cM 23 4 0,cS 24 (.indexAddr 7 (.t 22) (.t 23)) 48,cF 25 5 24 112,cL 26 25 240,cC 27 62 [.t 26] 496,cM 28 3 0,cM 29 4 0,cS 30 (.indexAddr 7 (.t 28) (.t 29)) 3072,cF 31 6 30 7168,cL 32 31 15360,cC 33 62 [.t 32] 32752,cS 34 (.indexAddr 7 (.t 18) (.t 19)) 65523,cF 35 5 34 131059,cH (.store 1 (.t 35) (.t 27)) 262131,cS 36 (.indexAddr 7 (.t 20) (.t 21)) 524287,cF 37 6 36 1048575,cH (.store 1 (.t 37) (.t 33)) 2097151]
def TN:List Step:=[.small 0 (cM 18 3 0),.small 1 (cM 19 4 0),.small 2 (cM 20 3 0),.small 3 (cM 21 4 0),.small 4 (cM 22 3 0),.small 5 (cM 23 4 0),.small 6 (cS 24 (.indexAddr 7 (.t 22) (.t 23)) 48),.small 7 (cF 25 5 24 112),.small 8 (cL 26 25 240),.small 10 (cM 28 3 0),.small 11 (cM 29 4 0),.small 12 (cS 30 (.indexAddr 7 (.t 28) (.t 29)) 3072),.small 13 (cF 31 6 30 7168),.small 14 (cL 32 31 15360),.aZ 9 (cC 27 62 [.t 26] 496),.aZ 15 (cC 33 62 [.t 32] 32752),.small 16 (cS 34 (.indexAddr 7 (.t 18) (.t 19)) 65523),.small 17 (cF 35 5 34 131059),.aZ 18 (cH (.store 1 (.t 35) (.t 27)) 262131),.small 19 (cS 36 (.indexAddr 7 (.t 20) (.t 21)) 524287),.small 20 (cF 37 6 36 1048575),.aZ 21 (cH (.store 1 (.t 37) (.t 33)) 2097151)]
def qct:=fq YJ TN (by kernel_rfl)
def YK:Lc:=[cS 38 (.bin .add .no (.t 15) (.c (.int .i64 1))) 0,cM 15 38 1]
def Fs:aj:=(.seq (.region TM) (.seq (.cond (.t 16) .skip (.exit 0)) (.seq (.block 1 (.seq (.region YI) (.draw YJ))) (.region YK))))
def KI:Lc:=[cM 39 3 0,cM 2 39 1]
def u9:aj:=(.seq (.region TI) (.seq (.seq (.region TJ) (.cond (.t 7) (.seq (.region qf9) .ret) .skip)) (.seq (.region TK) (.seq (.seq (.region TL) (.block 0 (.loop Fs))) (.seq (.region KI) .ret)))))
def v20:az:=⟨40,[.t 2],true,u9,fun i=>match i with|0=>[15,3,14]|_=>[],fun i=>match i with|0=>[3]|1=>[3,14,15]|_=>[]⟩
@[simp] theorem qi8:v20.body=u9∧v20.results=[.t 2]∧v20.own=true∧v20.head 0=[15,3,14]∧v20.tail 0=[3]∧v20.tail 1=[3,14,15]:=⟨rfl,rfl,rfl,rfl,rfl,rfl⟩
def YL:Lc:=[cS 4 (.br (.c (.int .i64 0))) 0]
def YM:Lc:=[cS 5 (.br (.c (.int .i64 0))) 0]
def YN:Lc:=[cM 8 0 0,cS 9 (.len 1 (.t 8)) 1,cS 10 (.br (.c (.int .i64 0))) 0]
def Mz:Lc:=[cS 11 (.bin .lss .no (.t 10) (.t 9)) 0]
def TO:Lc:=[cS 12 (.indexAddr 7 (.t 8) (.t 10)) 0,cS 13 (.load (some 7) (.t 12)) 1,⟨some 7,.m (.alloc [.int .i64 0,.int .u64 0,.int .u64 0,.int .i64 0,.int .i64 0,.ag [] 0 0 2,.ag [] 0 0 2]),none,0⟩,cH (.store 7 (.t 7) (.t 13)) 7]
def TP:Lc:=[cF 14 4 7 0,cL 15 14 1,cM 16 1 0,cS 17 (.bin .gtr .no (.t 15) (.t 16)) 7]
def YO:Lc:=[cM 18 5 0,cS 19 (.bin .add .no (.t 18) (.c (.int .i64 1))) 1,cM 5 19 3]
def TQ:Lc:=[cS 20 (.bin .add .no (.t 10) (.c (.int .i64 1))) 0,cM 10 20 1]
def Ft:aj:=(.seq (.region Mz) (.seq (.cond (.t 11) .skip (.exit 0)) (.seq (.block 1 (.seq (.region TO) (.seq (.region TP) (.cond (.t 17) (.region YO) .skip)))) (.region TQ))))
def TS:Lc:=[cM 21 5 0,cM 4 21 1]
def BQ:aj:=(.seq (.region YL) (.seq (.region YM) (.seq (.seq (.region YN) (.block 0 (.loop Ft))) (.seq (.region TS) .ret))))
def v21:az:=⟨22,[.t 4],true,BQ,fun i=>match i with|0=>[10,5,1,8,9]|_=>[],fun i=>match i with|0=>[5]|1=>[5,1,8,9,10]|_=>[]⟩
@[simp] theorem qi9:v21.body=BQ∧v21.results=[.t 4]∧v21.own=true∧v21.head 0=[10,5,1,8,9]∧v21.tail 0=[5]∧v21.tail 1=[5,1,8,9,10]:=⟨rfl,rfl,rfl,rfl,rfl,rfl⟩
def YP:Lc:=[cS 2 (.br (.c (.ag [] 1 0 2))) 0]
def YQ:Lc:=[cM 3 0 0,cC 4 54 [.t 3] 1,cS 5 (.un .not (.t 4)) 3]
def qga:Lc:=[cS 2 (.br (.c (.ag [] 1 0 2))) 0]
def KV:List Step:=[.small 0 (cM 6 0 0),.small 1 (cN 7 6 1),.small 2 (cF 8 7 7 3),.small 3 (cL 9 8 7),.small 4 (cM 10 0 0),.small 5 (cN 11 10 16),.small 6 (cF 12 7 11 48),.small 7 (cL 13 12 112),.aZ 8 (cC 14 55 [.t 13] 240),.aZ 9 ⟨some 15,.call (.c (.func 64 [] [])) [.t 9,(.c (.str [])),(.c (.str [])),.t 14],none,511⟩,.small 10 (cM 2 15 1023)]
def YR:Lc:=qS KV
def qcu:=fq YR KV (by kernel_rfl)
def BZ:aj:=(.seq (.region YP) (.seq (.seq (.region YQ) (.cond (.t 5) (.seq (.region qga) .ret) .skip)) (.seq (.draw YR) .ret)))
def v23:az:=⟨16,[.t 2],true,BZ,fe,fe⟩
@[simp] theorem qja:v23.body=BZ∧v23.results=[.t 2]∧v23.own=true:=⟨rfl,rfl,rfl⟩
def YS:Lc:=[cS 2 (.br (.c (.int .u64 0))) 0]
def YT:Lc:=[cM 6 0 0,cC 7 54 [.t 6] 1,cS 8 (.un .not (.t 7)) 3]
def qgb:Lc:=[cS 2 (.br (.c (.int .u64 0))) 0]
def YU:Lc:=[cM 9 0 0,cN 10 9 1,cF 11 7 10 3,cL 12 11 7,cC 13 55 [.t 12] 15,cM 3 13 31]
def YV:Lc:=[cM 14 0 0,cN 15 14 1,cF 16 8 15 3,cL 17 16 7,⟨some 18,.h (.range (.t 17)),none,15⟩]
def Uu:Lc:=[⟨some 19,.next (.t 18),none,0⟩,cE 20 0 19 1]
def YW:Lc:=[cS 21 (.entry (.t 18)) 0,cE 22 1 21 1,cM 5 22 3]
def YX:Lc:=[cM 23 3 0,cM 24 5 0,cN 25 24 2,cF 26 1 25 6,cL 27 26 14,cS 28 (.min [.t 23,.t 27]) 31,cM 3 28 63]
def FY:aj:=(.seq (.region Uu) (.seq (.cond (.t 20) .skip (.exit 0)) (.block 1 (.seq (.region YW) (.region YX)))))
def Uv:Lc:=[cM 29 3 0,cM 2 29 1]
def B0:aj:=(.seq (.region YS) (.seq (.seq (.region YT) (.cond (.t 8) (.seq (.region qgb) .ret) .skip)) (.seq (.region YU) (.seq (.seq (.region YV) (.block 0 (.loop FY))) (.seq (.region Uv) .ret)))))
def Ut:az:=⟨30,[.t 2],true,B0,fun i=>match i with|0=>[3,18]|_=>[],fun i=>match i with|0=>[3]|1=>[3,18]|_=>[]⟩
@[simp] theorem qjb:Ut.body=B0∧Ut.results=[.t 2]∧Ut.own=true∧Ut.head 0=[3,18]∧Ut.tail 0=[3]∧Ut.tail 1=[3,18]:=⟨rfl,rfl,rfl,rfl,rfl,rfl⟩
def MW:Lc:=[cS 6 (.br (.c (.ag [] 1 0 1))) 0,cS 7 (.br (.c (.bool false))) 1,cS 8 (.br (.c (.int .i64 0))) 3]
def MX:Lc:=[cM 16 0 0,cM 17 1 0,cC 18 56 [.t 16,.t 17] 3,cM 15 18 7,cE 19 0 15 15,cE 20 1 15 15,cM 9 19 31,cM 10 20 127]
def MY:Lc:=[cM 21 10 0,cS 22 (.bin .neq .int (.t 21) (.c (.int .i64 0))) 1]
def YY:Lc:=[cM 23 10 0,cS 6 (.br (.c (.ag [] 1 0 1))) 0,cS 7 (.br (.c (.bool false))) 2,cM 8 23 7]
def Uw:Lc:=[cM 25 9 0,cN 26 25 1,cF 27 4 26 3,cL 28 27 7,cM 29 2 0,cS 30 (.lookup .str (.agg [.str [],.bool false,.ag [] 0 0 1]) true (.t 28) (.t 29)) 31,cM 24 30 63,cE 31 0 24 127,cE 32 1 24 127,⟨some 11,.m (.alloc [.str [],.bool false,.ag [] 0 0 1]),none,0⟩,cH (.store 3 (.t 11) (.t 31)) 767,cM 12 32 2047]
def Ux:Lc:=[cM 33 12 0]
def YZ:Lc:=[cF 34 2 11 0,cL 35 34 1,cC 36 58 [.t 35] 3,cF 37 1 11 0,cL 38 37 8,cS 39 (.un .not (.t 38)) 24,cM 6 36 7,cM 7 39 127,cS 8 (.br (.c (.int .i64 0))) 255]
def Uy:List Step:=[.small 0 (cF 34 2 11 0),.small 1 (cL 35 34 1),.small 3 (cF 37 1 11 0),.small 4 (cL 38 37 8),.small 5 (cS 39 (.un .not (.t 38)) 24),.aZ 2 (cC 36 58 [.t 35] 3),.small 6 (cM 6 36 7),.small 7 (cM 7 39 127),.small 8 (cS 8 (.br (.c (.int .i64 0))) 255)]
def qcv:=fq YZ Uy (by kernel_rfl)
def Y0:Lc:=[cM 40 0 0,cM 41 9 0,cM 42 2 0,cC 43 76 [.t 42] 4,cC 44 75 [.t 40,.t 41,.t 43] 15]
def KW:List Step:=[.small 0 (cM 46 0 0),.small 1 (cN 47 46 1),.small 2 (cF 48 7 47 3),.small 3 (cL 49 48 7),.small 4 (cM 50 2 0),.small 5 (cM 51 9 0),.small 6 (cN 52 51 32),.small 7 (cF 53 1 52 96),.small 8 (cL 54 53 224),.aZ 9 (cC 55 77 [.t 49,.t 50,.t 54] 511),.small 10 (cM 45 55 1023),.small 11 (cE 56 0 45 2047),.small 12 (cE 57 1 45 2047),.small 13 (cM 13 56 4095),.small 14 (cM 14 57 16383)]
def Y3:Lc:=qS KW
def qcw:=fq Y3 KW (by kernel_rfl)
def Y4:Lc:=[cM 58 13 0,cM 59 14 0,cM 6 58 1,cM 7 59 7,cS 8 (.br (.c (.int .i64 0))) 15]
def ri:aj:=(.seq (.region MW) (.seq (.region MX) (.seq (.seq (.region MY) (.cond (.t 22) (.seq (.region YY) .ret) .skip)) (.seq (.seq (.region Uw) (.seq (.region Ux) (.cond (.t 33) (.seq (.draw YZ) .ret) .skip))) (.seq (.region Y0) (.seq (.draw Y3) (.seq (.region Y4) .ret)))))))
def v36:az:=⟨60,[.t 6,.t 7,.t 8],true,ri,fe,fe⟩
@[simp] theorem qjc:v36.body=ri∧v36.results=[.t 6,.t 7,.t 8]∧v36.own=true:=⟨rfl,rfl,rfl⟩
def MZ:Lc:=[cS 8 (.br (.c (.ag [] 1 0 2))) 0,cS 9 (.br (.c (.int .i64 0))) 1]
def M0:Lc:=[cM 21 0 0,cM 22 1 0,cC 23 56 [.t 21,.t 22] 3,cM 20 23 7,cE 24 0 20 15,cE 25 1 20 15,cM 10 24 31,cM 11 25 127]
def M3:Lc:=[cM 26 11 0,cS 27 (.bin .neq .int (.t 26) (.c (.int .i64 0))) 1]
def Y5:Lc:=[cM 28 11 0,cS 8 (.br (.c (.ag [] 1 0 2))) 0,cM 9 28 3]
def UB:Lc:=[cM 29 2 0,cM 30 3 0,cS 31 (.build [.str [],.str []] [(0,1,.t 29),(1,1,.t 30)]) 3,⟨some 12,.m (.alloc [.str [],.str []]),none,0⟩,cH (.store 2 (.t 12) (.t 31)) 15]
def UC:Lc:=[cS 32 (.load (some 2) (.t 12)) 0,cC 33 78 [.t 32] 1,cS 34 (.un .not (.t 33)) 3]
def Y6:Lc:=[cS 8 (.br (.c (.ag [] 1 0 2))) 0,cS 9 (.br (.c (.int .i64 1))) 1]
def Y7:Lc:=[cM 35 0 0,cM 36 10 0,cS 37 (.load (some 2) (.t 12)) 0,cC 38 75 [.t 35,.t 36,.t 37] 7]
def Y8:Lc:=[cS 13 (.br (.c (.ag [] 1 0 2))) 0]
def Y9:Lc:=[cM 39 0 0,cN 40 39 1,cF 41 7 40 3,cL 42 41 7,cM 43 2 0,cM 44 3 0,cM 45 10 0,cN 46 45 64,cF 47 1 46 192,cL 48 47 448,cC 49 64 [.t 42,.t 43,.t 44,.t 48] 1023,cS 50 (.len 1 (.t 49)) 2047,cS 51 (.br (.c (.int .i64 0))) 0]
def UD:List Step:=[.small 0 (cM 39 0 0),.small 1 (cN 40 39 1),.small 2 (cF 41 7 40 3),.small 3 (cL 42 41 7),.small 4 (cM 43 2 0),.small 5 (cM 44 3 0),.small 6 (cM 45 10 0),.small 7 (cN 46 45 64),.small 8 (cF 47 1 46 192),.small 9 (cL 48 47 448),.small 12 (cS 51 (.br (.c (.int .i64 0))) 0),.aZ 10 (cC 49 64 [.t 42,.t 43,.t 44,.t 48] 1023),.small 11 (cS 50 (.len 1 (.t 49)) 2047)]
def qcx:=fq Y9 UD (by kernel_rfl)
def FZ:Lc:=[cS 52 (.bin .lss .no (.t 51) (.t 50)) 0]
def KX:Lc:=[cS 53 (.indexAddr 2 (.t 49) (.t 51)) 0,cS 54 (.load (some 2) (.t 53)) 1,⟨some 15,.m (.alloc [.str [],.ag [] 0 0 1]),none,0⟩,cH (.store 2 (.t 15) (.t 54)) 7]
def zQ:List Step:=[.small 0 (cM 56 10 0),.small 1 (cN 57 56 1),.small 2 (cF 58 4 57 3),.small 3 (cL 59 58 7),.small 4 (cF 60 0 15 0),.small 5 (cL 61 60 16),.small 6 (cS 62 (.lookup .str (.agg [.str [],.bool false,.ag [] 0 0 1]) true (.t 59) (.t 61)) 63),.small 7 (cM 55 62 127),.small 8 (cE 63 0 55 255),.small 9 (cE 64 1 55 255),.small 10 ⟨some 16,.m (.alloc [.str [],.bool false,.ag [] 0 0 1]),none,0⟩,.aZ 11 (cH (.store 3 (.t 16) (.t 63)) 1535),.small 12 (cM 17 64 4095)]
def Uz:Lc:=qS zQ
def M1:=fq Uz zQ (by kernel_rfl)
def KY:Lc:=[cM 65 17 0,cS 66 (.un .not (.t 65)) 1]
def KZ:Lc:=[cM 67 13 0,cS 68 (.load (some 2) (.t 15)) 0,⟨some 69,.m (.buildSlice 2 1 [.str [],.ag [] 0 0 1] [(0,2,.t 68)]),none,2⟩,⟨some 70,.h (.append 2 40 false (.t 67) (.t 69)),none,7⟩,cM 13 70 15]
def K0:Lc:=[cS 71 (.bin .add .no (.t 51) (.c (.int .i64 1))) 0,cM 51 71 1]
def zR:aj:=(.seq (.region FZ) (.seq (.cond (.t 52) .skip (.exit 0)) (.seq (.block 1 (.seq (.region KX) (.seq (.draw Uz) (.seq (.region KY) (.cond (.t 66) (.region KZ) .skip))))) (.region K0))))
def K2:Lc:=[cM 72 10 0,cC 73 79 [.t 72] 1,cS 74 (.len 1 (.t 73)) 3,cS 75 (.br (.c (.int .i64 0))) 0]
def B4:Lc:=[cS 76 (.bin .lss .no (.t 75) (.t 74)) 0]
def F0:Lc:=[cS 77 (.indexAddr 3 (.t 73) (.t 75)) 0,cS 78 (.load (some 3) (.t 77)) 1,⟨some 19,.m (.alloc [.str [],.bool false,.ag [] 0 0 1]),none,0⟩,cH (.store 3 (.t 19) (.t 78)) 7]
def F9:Lc:=[cF 79 1 19 0,cL 80 79 1,cS 81 (.un .not (.t 80)) 3,cM 82 81 7,cG 83 (.load (some 2) (.t 12)) 82 true 15,cG 84 (.fieldAddr 0 (.t 19)) 82 true 15,cG 85 (.load none (.t 84)) 82 true 47,O1 86 80 [.t 83,.t 85] 82 true 127,cQ 87 82 86 255]
def Ga:List Step:=[.small 0 (cM 88 13 0),.small 1 (cF 89 0 19 0),.small 2 (cL 90 89 2),.small 3 (cF 91 2 19 0),.small 4 (cL 92 91 8),.aZ 5 (cC 93 58 [.t 92] 24),.small 6 (cS 94 (.build [.str [],.ag [] 0 0 1] [(0,1,.t 90),(1,1,.t 93)]) 62),.small 7 ⟨some 95,.m (.buildSlice 2 1 [.str [],.ag [] 0 0 1] [(0,2,.t 94)]),none,126⟩,.aZ 8 ⟨some 96,.h (.append 2 40 false (.t 88) (.t 95)),none,255⟩,.small 9 (cM 13 96 511)]
def UA:Lc:=qS Ga
def Xz:=fq UA Ga (by kernel_rfl)
def Gb:Lc:=[cS 97 (.bin .add .no (.t 75) (.c (.int .i64 1))) 0,cM 75 97 1]
def vE:aj:=(.seq (.region B4) (.seq (.cond (.t 76) .skip (.exit 2)) (.seq (.block 3 (.seq (.region F0) (.seq (.region F9) (.cond (.t 87) (.draw UA) .skip)))) (.region Gb))))
def Gc:Lc:=[cM 98 13 0,⟨some 99,.call (.c (.func 81 [] [])) [.t 98,(.c (.func 82 [] []))],none,1⟩]
def Gd:Lc:=[cM 100 13 0,cM 8 100 1,cS 9 (.br (.c (.int .i64 0))) 3]
def rm:aj:=(.seq (.region MZ) (.seq (.region M0) (.seq (.seq (.region M3) (.cond (.t 27) (.seq (.region Y5) .ret) .skip)) (.seq (.region UB) (.seq (.seq (.region UC) (.cond (.t 34) (.seq (.region Y6) .ret) .skip)) (.seq (.region Y7) (.seq (.region Y8) (.seq (.seq (.draw Y9) (.block 0 (.loop zR))) (.seq (.seq (.region K2) (.block 2 (.loop vE))) (.seq (.region Gc) (.seq (.region Gd) .ret)))))))))))
def v37:az:=⟨101,[.t 8,.t 9],true,rm,fun i=>match i with|0=>[51,13,10,49,12,50]|2=>[75,12,73,13,74]|_=>[],fun i=>match i with|0=>[12,13,10]|1=>[13,10,49,12,50,51]|2=>[13]|3=>[12,73,13,74,75]|_=>[]⟩
@[simp] theorem qjd:v37.body=rm∧v37.results=[.t 8,.t 9]∧v37.own=true∧v37.head 0=[51,13,10,49,12,50]∧v37.head 2=[75,12,73,13,74]∧v37.tail 0=[12,13,10]∧v37.tail 1=[13,10,49,12,50,51]∧v37.tail 2=[13]∧v37.tail 3=[12,73,13,74,75]:=⟨rfl,rfl,rfl,rfl,rfl,rfl,rfl,rfl,rfl⟩
def Za:Lc:=[⟨some 1,.m (.box (.t 0)),none,0⟩,cS 2 (.br (.c .bA)) 0,cS 3 (.br (.c (.int .i64 0))) 2]
def Zb:Lc:=[cS 9 (.load (some 7) (.t 1)) 0,cC 10 86 [.t 9] 1,cM 8 10 3,cE 11 0 8 7,cE 12 1 8 7,cM 4 11 15,cM 5 12 63]
def Zc:Lc:=[cM 13 5 0,cS 14 (.bin .neq .int (.t 13) (.c (.int .i64 0))) 1]
def qgc:Lc:=[cM 15 5 0,cS 2 (.br (.c .bA)) 0,cM 3 15 3]
def Zd:Lc:=[cF 16 3 1 0,cL 17 16 1,cF 18 4 1 0,cL 19 18 4,cS 20 (.build [.int .i64 0,.int .i64 0] [(0,1,.t 17),(1,1,.t 19)]) 15,cS 21 (.br (.c (.int .i64 0))) 0]
def M4:Lc:=[cS 22 (.bin .lss .no (.t 21) (.c (.int .i64 2))) 0]
def UG:Lc:=[cS 23 (.CB 2 (.t 20) (.t 21)) 0,cM 7 23 1]
def UH:Lc:=[cM 24 7 0,cS 25 (.bin .lss .no (.t 24) (.c (.int .i64 1))) 1,cM 26 25 3,jV 27 7 26 false 7,cG 28 (.bin .gtr .no (.t 27) (.c (.int .i64 1048576))) 26 false 15,cP 29 26 28 31]
def qgd:Lc:=[cS 2 (.br (.c .bA)) 0,cS 3 (.br (.c (.int .i64 1))) 1]
def UI:Lc:=[cS 30 (.bin .add .no (.t 21) (.c (.int .i64 1))) 0,cM 21 30 1]
def zS:aj:=(.seq (.region M4) (.seq (.cond (.t 22) .skip (.exit 0)) (.seq (.block 1 (.seq (.region UG) (.seq (.region UH) (.cond (.t 29) (.seq (.region qgd) .ret) .skip)))) (.region UI))))
def UE:Lc:=[cF 31 5 1 0,cL 32 31 1,cS 33 (.bin .lss .no (.t 32) (.c (.int .i64 1))) 3,cM 34 33 7,cG 35 (.fieldAddr 5 (.t 1)) 34 false 15,cG 36 (.load none (.t 35)) 34 false 31,cG 37 (.bin .gtr .no (.t 36) (.c (.int .i64 64))) 34 false 63,cP 38 34 37 127]
def qcy:Lc:=[cS 2 (.br (.c .bA)) 0,cS 3 (.br (.c (.int .i64 1))) 1]
def UF:Lc:=[cS 39 (.load (some 7) (.t 1)) 0,cM 40 4 0,⟨some 41,.m (.makeMap),none,0⟩,cS 42 (.build [.int .i64 0,.int .i64 0,.int .i64 0,.int .i64 0,.int .i64 0,.int .i64 0,.int .u64 0,.bA,.bO,.ag [] 3 0 6,.ag [] 3 0 7,.int .i64 0,.int .i64 0] [(0,7,.t 39),(7,1,.t 40),(8,1,.t 41)]) 7,⟨some 43,.m (.box (.t 42)),none,15⟩,cM 2 43 31,cS 3 (.br (.c (.int .i64 0))) 63]
def B5:aj:=(.seq (.region Za) (.seq (.region Zb) (.seq (.seq (.region Zc) (.cond (.t 14) (.seq (.region qgc) .ret) .skip)) (.seq (.seq (.region Zd) (.block 0 (.loop zS))) (.seq (.seq (.region UE) (.cond (.t 38) (.seq (.region qcy) .ret) .skip)) (.seq (.region UF) .ret))))))
def v41:az:=⟨44,[.t 2,.t 3],true,B5,fun i=>match i with|0=>[21,20,4,1]|_=>[],fun i=>match i with|0=>[4,1]|1=>[20,4,1,21]|_=>[]⟩
@[simp] theorem qje:v41.body=B5∧v41.results=[.t 2,.t 3]∧v41.own=true∧v41.head 0=[21,20,4,1]∧v41.tail 0=[4,1]∧v41.tail 1=[20,4,1,21]:=⟨rfl,rfl,rfl,rfl,rfl,rfl⟩
def Zh:Lc:=[cS 2 (.br (.c (.int .i64 0))) 0]
def Zi:Lc:=[cM 3 0 0,cC 4 54 [.t 3] 1,cS 5 (.un .not (.t 4)) 3]
def qgh:Lc:=[cS 2 (.br (.c (.int .i64 0))) 0]
def K3:List Step:=[.small 0 (cM 6 0 0),.small 1 (cN 7 6 1),.small 2 (cF 8 7 7 3),.small 3 (cL 9 8 7),.small 4 (cM 10 0 0),.aZ 5 (cC 11 27 [.t 10] 16),.aZ 6 (cC 12 98 [.t 9,.t 11] 63),.small 7 (cM 2 12 127)]
def Zj:Lc:=qS K3
def qcD:=fq Zj K3 (by kernel_rfl)
def B6:aj:=(.seq (.region Zh) (.seq (.seq (.region Zi) (.cond (.t 5) (.seq (.region qgh) .ret) .skip)) (.seq (.draw Zj) .ret)))
def v50:az:=⟨13,[.t 2],true,B6,fe,fe⟩
@[simp] theorem qjf:v50.body=B6∧v50.results=[.t 2]∧v50.own=true:=⟨rfl,rfl,rfl⟩
def Zk:Lc:=[⟨some 4,.m (.alloc [.str [],.bool false,.ag [] 0 0 1]),none,0⟩]
def Zl:Lc:=[cM 5 0 0,cM 6 1 0,⟨some 7,.m (.l9 (.t 6)),none,2⟩,cS 8 (.build [.str [],.bool false,.ag [] 0 0 1] [(0,1,.t 5),(2,1,.t 7)]) 7,cH (.store 3 (.t 4) (.t 8)) 15]
def B7:aj:=(.seq (.region Zk) (.seq (.region Zl) .ret))
def v51:az:=⟨9,[.cell 4 (some 3)],true,B7,fe,fe⟩
@[simp] theorem qjg:v51.body=B7∧v51.results=[.cell 4 (some 3)]∧v51.own=true:=⟨rfl,rfl,rfl⟩
def Zm:Lc:=[cS 0 (.br (.c (.int .i64 0))) 0]
def Zn:Lc:=[cC 10 15 [] 0,cC 11 14 [.t 10] 1,cM 1 11 3]
def Zo:Lc:=[cM 12 1 0,cS 13 (.bin .eql .bA (.t 12) (.c .bA)) 1]
def qgi:Lc:=[cS 0 (.br (.c (.int .i64 2))) 0]
def Zp:Lc:=[cM 15 1 0,cC 16 17 [.t 15] 1,cM 14 16 3,cE 17 0 14 7,cE 18 1 14 7,cM 2 17 15,cM 3 18 63]
def Zq:Lc:=[cM 20 1 0,cC 21 17 [.t 20] 1,cM 19 21 3,cE 22 0 19 7,cE 23 1 19 7,cM 4 22 15,cM 5 23 63]
def Zr:Lc:=[cM 24 1 0,cM 25 2 0,⟨some 26,.call (.c (.func 36 [] [])) [.t 24,.t 25,(.c (.str [97]))],none,3⟩]
def Zt:Lc:=[cM 27 1 0,cM 28 2 0,⟨some 29,.call (.c (.func 51 [] [])) [(.c (.str [98])),(.c (.str [49]))],none,0⟩,cC 30 18 [.t 27,.t 28,.t 29] 7]
def Zu:Lc:=[cM 31 1 0,cM 32 4 0,⟨some 33,.call (.c (.func 36 [] [])) [.t 31,.t 32,(.c (.str [98]))],none,3⟩]
def Zv:Lc:=[cM 34 1 0,cM 35 4 0,⟨some 36,.call (.c (.func 51 [] [])) [(.c (.str [97])),(.c (.str [49]))],none,0⟩,cC 37 18 [.t 34,.t 35,.t 36] 7]
def UK:Lc:=[cM 39 1 0,cM 40 2 0,cC 41 19 [.t 39,.t 40] 3,cM 38 41 7,cE 42 0 38 15,cE 43 1 38 15,cM 6 42 31,cM 7 43 127]
def UL:Lc:=[cM 44 7 0,cS 45 (.bin .neq .int (.t 44) (.c (.int .i64 0))) 1]
def qcE:Lc:=[cM 46 7 0,cM 0 46 1]
def UM:Lc:=[cM 48 1 0,cM 49 4 0,cC 50 19 [.t 48,.t 49] 3,cM 47 50 7,cE 51 0 47 15,cE 52 1 47 15,cM 8 51 31,cM 9 52 127]
def UN:Lc:=[cM 53 9 0,cM 0 53 1]
def B8:aj:=(.seq (.region Zm) (.seq (.region Zn) (.seq (.seq (.region Zo) (.cond (.t 13) (.seq (.region qgi) .ret) .skip)) (.seq (.region Zp) (.seq (.region Zq) (.seq (.region Zr) (.seq (.region Zt) (.seq (.region Zu) (.seq (.region Zv) (.seq (.seq (.region UK) (.seq (.region UL) (.cond (.t 45) (.seq (.region qcE) .ret) .skip))) (.seq (.region UM) (.seq (.region UN) .ret))))))))))))
def v52:az:=⟨54,[.t 0],true,B8,fe,fe⟩
@[simp] theorem qjh:v52.body=B8∧v52.results=[.t 0]∧v52.own=true:=⟨rfl,rfl,rfl⟩
def UO:Lc:=[cS 4 (.br (.c (.int .i64 0))) 0]
def UP:Lc:=[cM 8 0 0,cM 9 1 0,cC 10 56 [.t 8,.t 9] 3,cM 7 10 7,cE 11 0 7 15,cE 12 1 7 15,cM 5 11 31,cM 6 12 127]
def UQ:Lc:=[cM 13 6 0,cS 14 (.bin .eql .int (.t 13) (.c (.int .i64 0))) 1]
def Zw:Lc:=[cM 15 0 0,cM 16 1 0,cC 17 60 [.t 15,.t 16] 3]
def US:Lc:=[cM 18 6 0,cM 4 18 1]
def vN:aj:=(.seq (.region UO) (.seq (.region UP) (.seq (.seq (.region UQ) (.cond (.t 14) (.region Zw) .skip)) (.seq (.region US) .ret))))
def v53:az:=⟨19,[.t 4],true,vN,fe,fe⟩
@[simp] theorem qji:v53.body=vN∧v53.results=[.t 4]∧v53.own=true:=⟨rfl,rfl,rfl⟩
def Zx:Lc:=[cS 2 (.br (.c (.bool false))) 0]
def Zy:Lc:=[cM 3 0 0,cS 4 (.bin .neq .bA (.t 3) (.c .bA)) 1,cM 5 4 3,jV 6 0 5 true 7,cG 7 (.nilCheck (.t 6)) 5 true 15,cG 8 (.fieldAddr 8 (.t 7)) 5 true 31,cG 9 (.load none (.t 8)) 5 true 63,cG 10 (.bin .neq .bO (.t 9) (.c .bO)) 5 true 127,cQ 11 5 10 255,cM 2 11 511]
def B9:aj:=(.seq (.region Zx) (.seq (.region Zy) .ret))
def v54:az:=⟨12,[.t 2],true,B9,fe,fe⟩
@[simp] theorem qjj:v54.body=B9∧v54.results=[.t 2]∧v54.own=true:=⟨rfl,rfl,rfl⟩
def Zz:Lc:=[cS 2 (.br (.c (.int .u64 0))) 0]
def ZA:Lc:=[cM 3 0 0,cC 4 99 [.t 3] 1,cS 5 (.un .not (.t 4)) 3]
def qgj:Lc:=[cS 2 (.br (.c (.int .u64 0))) 0]
def ZB:Lc:=[cM 6 0 0,cN 7 6 1,cF 8 7 7 3,cL 9 8 7,cM 2 9 15]
def Ca:aj:=(.seq (.region Zz) (.seq (.seq (.region ZA) (.cond (.t 5) (.seq (.region qgj) .ret) .skip)) (.seq (.region ZB) .ret)))
def v55:az:=⟨10,[.t 2],true,Ca,fe,fe⟩
@[simp] theorem qjk:v55.body=Ca∧v55.results=[.t 2]∧v55.own=true:=⟨rfl,rfl,rfl⟩
def UT:Lc:=[cS 4 (.br (.c .bA)) 0,cS 5 (.br (.c (.int .i64 0))) 1]
def UU:Lc:=[cM 7 0 0,cC 8 54 [.t 7] 1,cS 9 (.un .not (.t 8)) 3]
def qgk:Lc:=[cS 4 (.br (.c .bA)) 0,cS 5 (.br (.c (.int .i64 2))) 1]
def UW:Lc:=[cM 10 0 0,cN 11 10 1,cF 12 8 11 3,cL 13 12 7,cM 14 1 0,cS 15 (.lookup .int .bA false (.t 13) (.t 14)) 31,cM 6 15 63]
def UX:Lc:=[cM 16 6 0,cS 17 (.bin .eql .bA (.t 16) (.c .bA)) 1]
def ZC:Lc:=[cS 4 (.br (.c .bA)) 0,cS 5 (.br (.c (.int .i64 4))) 1]
def ZD:Lc:=[cM 18 6 0,cM 4 18 1,cS 5 (.br (.c (.int .i64 0))) 3]
def vO:aj:=(.seq (.region UT) (.seq (.seq (.region UU) (.cond (.t 9) (.seq (.region qgk) .ret) .skip)) (.seq (.region UW) (.seq (.seq (.region UX) (.cond (.t 17) (.seq (.region ZC) .ret) .skip)) (.seq (.region ZD) .ret)))))
def v56:az:=⟨19,[.t 4,.t 5],true,vO,fe,fe⟩
@[simp] theorem qjl:v56.body=vO∧v56.results=[.t 4,.t 5]∧v56.own=true:=⟨rfl,rfl,rfl⟩
def ZE:Lc:=[cS 2 (.br (.c (.int .i64 0))) 0]
def ZF:Lc:=[cM 5 0 0,cS 6 (.len 1 (.t 5)) 1,cS 7 (.br (.c (.int .i64 0))) 0]
def qm:Lc:=[cS 8 (.bin .lss .no (.t 7) (.t 6)) 0]
def ru:Lc:=[cM 9 7 0,cS 10 (.indexAddr 3 (.t 5) (.t 7)) 0,cS 11 (.load (some 3) (.t 10)) 2,⟨some 4,.m (.alloc [.str [],.bool false,.ag [] 0 0 1]),none,0⟩,cM 3 9 15,cH (.store 3 (.t 4) (.t 11)) 31]
def ry:Lc:=[cF 13 0 4 0,cL 14 13 1,cS 15 (.len 0 (.t 14)) 3,cS 16 (.bin .gtr .no (.t 15) (.c (.int .i64 256))) 7,cM 12 16 15]
def s9:Lc:=[cF 18 2 4 0,cL 19 18 1,cS 20 (.len 1 (.t 19)) 3,cS 21 (.bin .gtr .no (.t 20) (.c (.int .i64 4096))) 7,cM 17 21 15]
def vP:Lc:=[cF 23 0 4 0,cL 24 23 1,cS 25 (.bin .eql .str (.t 24) (.c (.str []))) 3,cM 22 25 7]
def p9:List Step:=[.small 0 (cM 26 3 0),.small 1 (cS 27 (.bin .gtr .no (.t 26) (.c (.int .i64 0))) 1),.small 2 (cM 28 27 3),.small 3 (cG 29 (.fieldAddr 0 (.t 4)) 28 true 7),.small 4 (cG 30 (.load none (.t 29)) 28 true 15),.small 5 (jV 31 0 28 true 7),.small 6 (jV 32 3 28 true 7),.small 7 (cG 33 (.bin .sub .no (.t 32) (.c (.int .i64 1))) 28 true 71),.small 8 (cG 34 (.indexAddr 3 (.t 31) (.t 33)) 28 true 231),.small 9 (cG 35 (.fieldAddr 0 (.t 34)) 28 true 487),.small 10 (cG 36 (.load none (.t 35)) 28 true 999),.small 11 (cG 37 (.bin .leq .no (.t 30) (.t 36)) 28 true 2047),.small 12 (cQ 38 28 37 4095),.small 13 (cM 22 38 8191)]
def ZG:Lc:=qS p9
def tW:=fq ZG p9 (by kernel_rfl)
def yB:Lc:=[cF 39 1 4 0,cL 40 39 1,cM 41 40 3,cG 42 (.fieldAddr 2 (.t 4)) 41 true 7,cG 43 (.load none (.t 42)) 41 true 15,cG 44 (.len 1 (.t 43)) 41 true 31,cG 45 (.bin .gtr .no (.t 44) (.c (.int .i64 0))) 41 true 63,cQ 46 41 45 127,cM 22 46 255]
def UY:Lc:=[cS 2 (.br (.c (.int .i64 3))) 0]
def p8:Lc:=[cS 2 (.br (.c (.int .i64 1))) 0]
def rq:Lc:=[cS 47 (.bin .add .no (.t 7) (.c (.int .i64 1))) 0,cM 7 47 1]
def zT:aj:=(.seq (.region qm) (.seq (.cond (.t 8) .skip (.exit 0)) (.seq (.block 1 (.seq (.region ru) (.block 2 (.seq (.block 5 (.seq (.block 4 (.block 3 (.seq (.seq (.seq (.region ry) (.cond (.t 12) (.exit 3) .skip)) (.seq (.seq (.region s9) (.cond (.t 17) (.exit 4) .skip)) (.seq (.seq (.region vP) (.cond (.t 22) .skip (.seq (.draw ZG) (.cond (.t 22) .skip (.region yB))))) (.cond (.t 22) (.exit 5) .skip)))) (.exit 2)))) (.seq (.seq (.region UY) .ret) (.exit 2)))) (.seq (.seq (.region p8) .ret) (.exit 2)))))) (.region rq))))
def K5:Lc:=[cS 2 (.br (.c (.int .i64 0))) 0]
def Cb:aj:=(.seq (.region ZE) (.seq (.seq (.region ZF) (.block 0 (.loop zT))) (.seq (.region K5) .ret)))
def K4:az:=⟨48,[.t 2],true,Cb,fun i=>match i with|0=>[7,0,5,6]|_=>[],fun i=>match i with|0=>[]|3=>[]|4=>[]|5=>[]|2=>[0,5,6,7]|1=>[0,5,6,7]|_=>[]⟩
@[simp] theorem qjm:K4.body=Cb∧K4.results=[.t 2]∧K4.own=true∧K4.head 0=[7,0,5,6]∧K4.tail 0=[]∧K4.tail 3=[]∧K4.tail 4=[]∧K4.tail 5=[]∧K4.tail 2=[0,5,6,7]∧K4.tail 1=[0,5,6,7]:=⟨rfl,rfl,rfl,rfl,rfl,rfl,rfl,rfl,rfl,rfl⟩
def UZ:Lc:=[⟨some 4,.m (.alloc [.int .u64 0,.int .u64 0,.int .u64 0,.int .u64 0,.ag [] 0 0 2,.ag [] 0 0 2]),none,0⟩,cS 5 (.br (.c (.int .u64 0))) 0,cS 6 (.br (.c (.int .i64 0))) 2]
def U0:Lc:=[cM 17 0 0,cM 18 1 0,cC 19 100 [.t 17,.t 18] 3]
def ZH:Lc:=[cS 20 (.build [.int .u64 0,.int .u64 0,.int .u64 0,.int .u64 0,.ag [] 0 0 2,.ag [] 0 0 2] []) 0,cH (.store 6 (.t 4) (.t 20)) 1,cS 5 (.br (.c (.int .u64 0))) 3,cS 6 (.br (.c (.int .i64 100))) 7]
def ZI:Lc:=[cS 7 (.br (.c (.ag [] 1 0 3))) 0]
def ZJ:Lc:=[cS 8 (.br (.c (.ag [] 1 0 2))) 0]
def ZK:Lc:=[cM 21 1 0,cC 22 79 [.t 21] 1,cS 23 (.len 1 (.t 22)) 3,cS 24 (.br (.c (.int .i64 0))) 0]
def Is:Lc:=[cS 25 (.bin .lss .no (.t 24) (.t 23)) 0]
def M6:Lc:=[cS 26 (.indexAddr 3 (.t 22) (.t 24)) 0,cS 27 (.load (some 3) (.t 26)) 1,⟨some 10,.m (.alloc [.str [],.bool false,.ag [] 0 0 1]),none,0⟩,cH (.store 3 (.t 10) (.t 27)) 7]
def Cc:List Step:=[.small 0 (cM 29 0 0),.small 1 (cN 30 29 1),.small 2 (cF 31 7 30 3),.small 3 (cL 32 31 7),.small 4 (cF 33 0 10 0),.small 5 (cL 34 33 16),.small 6 (cM 35 1 0),.small 7 (cN 36 35 64),.small 8 (cF 37 1 36 192),.small 9 (cL 38 37 448),.aZ 10 (cC 39 77 [.t 32,.t 34,.t 38] 1023),.small 11 (cM 28 39 2047),.small 12 (cE 40 0 28 4095),.small 13 (cE 41 1 28 4095),.small 14 (cM 11 40 8191),.small 15 (cM 12 41 32767)]
def ZL:Lc:=qS Cc
def Lb:=fq ZL Cc (by kernel_rfl)
def M7:Lc:=[cF 42 1 10 0,cL 43 42 1,cM 44 43 3,jV 45 12 44 true 7,cG 46 (.un .not (.t 45)) 44 true 15,cQ 47 44 46 31]
def U1:Lc:=[cM 48 0 0,cM 49 1 0,cF 50 0 10 0,cL 51 50 4,cC 52 76 [.t 51] 12,cC 53 75 [.t 48,.t 49,.t 52] 31]
def K6:Lc:=[cM 54 7 0,cS 55 (.load (some 3) (.t 10)) 0,⟨some 56,.m (.buildSlice 3 1 [.str [],.bool false,.ag [] 0 0 1] [(0,3,.t 55)]),none,2⟩,⟨some 57,.h (.append 3 48 false (.t 54) (.t 56)),none,7⟩,cM 7 57 15]
def K7:Lc:=[cM 58 8 0,cF 59 0 10 0,cL 60 59 2,cC 61 76 [.t 60] 6,⟨some 62,.m (.buildSlice 2 1 [.str [],.str []] [(0,2,.t 61)]),none,14⟩,⟨some 63,.h (.append 2 32 false (.t 58) (.t 62)),none,31⟩,cM 8 63 63]
def Gg:Lc:=[cS 64 (.bin .add .no (.t 24) (.c (.int .i64 1))) 0,cM 24 64 1]
def zV:aj:=(.seq (.region Is) (.seq (.cond (.t 25) .skip (.exit 0)) (.seq (.block 1 (.seq (.region M6) (.seq (.seq (.draw ZL) (.seq (.region M7) (.cond (.t 47) (.seq (.region U1) (.exit 1)) .skip))) (.seq (.region K6) (.region K7))))) (.region Gg))))
def K8:Lc:=[cM 65 1 0,cN 66 65 1,cF 67 1 66 3,cL 68 67 7,cM 69 1 0,cN 70 69 16,cF 71 3 70 48,cL 72 71 112,cM 73 8 0,cM 74 0 0,cN 75 74 512,cF 76 0 75 1536,cF 77 3 76 3584,cL 78 77 7680,cC 79 101 [.t 73,.t 78] 16128,cS 80 (.build [.int .u64 0,.int .u64 0,.int .u64 0,.int .u64 0,.ag [] 0 0 2,.ag [] 0 0 2] [(2,1,.t 68),(4,1,.t 72),(5,1,.t 79)]) 32767,⟨some 13,.m (.alloc [.int .u64 0,.int .u64 0,.int .u64 0,.int .u64 0,.ag [] 0 0 2,.ag [] 0 0 2]),none,0⟩,cH (.store 6 (.t 13) (.t 80)) 131071]
def qa:List Step:=[.small 0 (cM 65 1 0),.small 1 (cN 66 65 1),.small 2 (cF 67 1 66 3),.small 3 (cL 68 67 7),.small 4 (cM 69 1 0),.small 5 (cN 70 69 16),.small 6 (cF 71 3 70 48),.small 7 (cL 72 71 112),.small 8 (cM 73 8 0),.small 9 (cM 74 0 0),.small 10 (cN 75 74 512),.small 11 (cF 76 0 75 1536),.small 12 (cF 77 3 76 3584),.small 13 (cL 78 77 7680),.small 16 ⟨some 13,.m (.alloc [.int .u64 0,.int .u64 0,.int .u64 0,.int .u64 0,.ag [] 0 0 2,.ag [] 0 0 2]),none,0⟩,.aZ 14 (cC 79 101 [.t 73,.t 78] 16128),.small 15 (cS 80 (.build [.int .u64 0,.int .u64 0,.int .u64 0,.int .u64 0,.ag [] 0 0 2,.ag [] 0 0 2] [(2,1,.t 68),(4,1,.t 72),(5,1,.t 79)]) 32767),.aZ 17 (cH (.store 6 (.t 13) (.t 80)) 131071)]
def sH:=fq K8 qa (by kernel_rfl)
def nZ:List Step:=[.small 0 (cM 82 0 0),.small 1 (cN 83 82 1),.small 2 (cF 84 9 83 3),.small 3 (cL 85 84 7),.small 4 (cS 86 (.load (some 6) (.t 13)) 0),.aZ 5 (cC 87 102 [.t 85,.t 86] 31),.small 6 (cM 81 87 63),.small 7 (cE 88 0 81 127),.small 8 (cE 89 1 81 127),.small 9 (cM 14 88 255),.small 10 (cM 15 89 1023)]
def K9:Lc:=qS nZ
def sI:=fq K9 nZ (by kernel_rfl)
def rz:Lc:=[cM 90 15 0,cS 91 (.bin .neq .int (.t 90) (.c (.int .i64 0))) 1]
def Gh:Lc:=[cS 92 (.build [.int .u64 0,.int .u64 0,.int .u64 0,.int .u64 0,.ag [] 0 0 2,.ag [] 0 0 2] []) 0,cM 93 15 0,cH (.store 6 (.t 4) (.t 92)) 1,cS 5 (.br (.c (.int .u64 0))) 5,cM 6 93 15]
def sJ:List Step:=[.small 0 (cM 95 0 0),.small 1 (cN 96 95 1),.small 2 (cF 97 7 96 3),.small 3 (cL 98 97 7),.small 4 (cM 99 7 0),.small 5 (cM 100 0 0),.aZ 6 (cC 101 27 [.t 100] 32),.aZ 7 (cC 102 103 [.t 98,.t 99,.t 101] 127),.small 8 (cM 94 102 255),.small 9 (cE 103 0 94 511),.small 10 (cE 104 1 94 511),.small 11 (cM 16 103 1023),.small 12 (cM 15 104 4095)]
def La:Lc:=qS sJ
def zU:=fq La sJ (by kernel_rfl)
def xU:Lc:=[cM 105 15 0,cS 106 (.bin .neq .int (.t 105) (.c (.int .i64 0))) 1]
def Gi:Lc:=[cS 107 (.build [.int .u64 0,.int .u64 0,.int .u64 0,.int .u64 0,.ag [] 0 0 2,.ag [] 0 0 2] []) 0,cM 108 15 0,cH (.store 6 (.t 4) (.t 107)) 1,cS 5 (.br (.c (.int .u64 0))) 5,cM 6 108 15]
def Gj:Lc:=[cM 109 16 0,cS 110 (.max [.t 109,(.c (.int .u64 1))]) 1,cM 111 16 0,cS 112 (.max [.t 111,(.c (.int .u64 1))]) 4,cM 113 14 0,cF 114 0 13 3,cH (.store 1 (.t 114) (.t 110)) 35,cF 115 1 13 111,cH (.store 1 (.t 115) (.t 112)) 239,cF 116 3 13 511,cH (.store 1 (.t 116) (.t 113)) 1023]
def Gk:Lc:=[cS 117 (.load (some 6) (.t 13)) 0,cM 118 16 0,cH (.store 6 (.t 4) (.t 117)) 1,cM 5 118 7,cS 6 (.br (.c (.int .i64 0))) 15]
def vQ:aj:=(.seq (.region UZ) (.seq (.seq (.region U0) (.cond (.t 19) (.seq (.region ZH) .ret) .skip)) (.seq (.region ZI) (.seq (.region ZJ) (.seq (.seq (.region ZK) (.block 0 (.loop zV))) (.seq (.draw K8) (.seq (.draw K9) (.seq (.seq (.region rz) (.cond (.t 91) (.seq (.region Gh) .ret) .skip)) (.seq (.draw La) (.seq (.seq (.region xU) (.cond (.t 106) (.seq (.region Gi) .ret) .skip)) (.seq (.region Gj) (.seq (.region Gk) .ret))))))))))))
def v59:az:=⟨119,[.cell 4 (some 6),.t 5,.t 6],true,vQ,fun i=>match i with|0=>[24,1,0,8,7,22,4,23]|_=>[],fun i=>match i with|0=>[4,0,7,1,8]|1=>[1,0,8,7,22,4,23,24]|_=>[]⟩
@[simp] theorem qjn:v59.body=vQ∧v59.results=[.cell 4 (some 6),.t 5,.t 6]∧v59.own=true∧v59.head 0=[24,1,0,8,7,22,4,23]∧v59.tail 0=[4,0,7,1,8]∧v59.tail 1=[1,0,8,7,22,4,23,24]:=⟨rfl,rfl,rfl,rfl,rfl,rfl⟩
def U2:Lc:=[cM 4 0 0,cN 5 4 1,cF 6 8 5 3,cL 7 6 7,cM 8 1 0,cH (.delete .int (.t 7) (.t 8)) 31]
def ZM:Lc:=[cM 9 0 0,cM 10 0 0,cN 11 10 2,cF 12 9 11 6,cL 13 12 14,cM 14 0 0,cC 15 27 [.t 14] 32,cC 16 66 [.t 13,.t 15] 126,cM 17 0 0,cN 18 17 256,cF 19 0 18 768,cF 20 4 19 1792,cL 21 20 3840,cM 22 0 0,cN 23 22 8192,cF 24 0 23 24576,cF 25 3 24 57344,cL 26 25 122880,cC 27 104 [.t 16,.t 21,.t 26] 262142,cN 28 9 524287,cF 29 9 28 1048575,cH (.store 1 (.t 29) (.t 27)) 2097151]
def Ld:List Step:=[.small 0 (cM 9 0 0),.small 1 (cM 10 0 0),.small 2 (cN 11 10 2),.small 3 (cF 12 9 11 6),.small 4 (cL 13 12 14),.small 5 (cM 14 0 0),.small 8 (cM 17 0 0),.small 9 (cN 18 17 256),.small 10 (cF 19 0 18 768),.small 11 (cF 20 4 19 1792),.small 12 (cL 21 20 3840),.small 13 (cM 22 0 0),.small 14 (cN 23 22 8192),.small 15 (cF 24 0 23 24576),.small 16 (cF 25 3 24 57344),.small 17 (cL 26 25 122880),.aZ 6 (cC 15 27 [.t 14] 32),.aZ 7 (cC 16 66 [.t 13,.t 15] 126),.aZ 18 (cC 27 104 [.t 16,.t 21,.t 26] 262142),.small 19 (cN 28 9 524287),.small 20 (cF 29 9 28 1048575),.aZ 21 (cH (.store 1 (.t 29) (.t 27)) 2097151)]
def U3:=fq ZM Ld (by kernel_rfl)
def vR:aj:=(.seq (.region U2) (.draw ZM))
def v60:az:=⟨30,[],true,vR,fe,fe⟩
@[simp] theorem qjo:v60.body=vR∧v60.results=[]∧v60.own=true:=⟨rfl,rfl,rfl⟩
def U4:Lc:=[cS 8 (.br (.c (.ag [] 1 0 2))) 0]
def U5:Lc:=[cM 14 0 0,cC 15 99 [.t 14] 1,cS 16 (.un .not (.t 15)) 3]
def qgl:Lc:=[cS 8 (.br (.c (.ag [] 1 0 2))) 0]
def U6:Lc:=[cS 9 (.br (.c (.ag [] 1 0 2))) 0]
def ZN:Lc:=[cM 17 0 0,cN 18 17 1,cF 19 8 18 3,cL 20 19 7,cM 21 0 0,cN 22 21 16,cF 23 8 22 48,cL 24 23 112,cM 25 1 0,cC 26 106 [.t 24,.t 25] 496,cS 27 (.slice 1 (.t 20) (some (.t 26)) none none) 1023,cS 28 (.len 1 (.t 27)) 2047,cS 29 (.br (.c (.int .i64 0))) 0]
def Lf:List Step:=[.small 0 (cM 17 0 0),.small 1 (cN 18 17 1),.small 2 (cF 19 8 18 3),.small 3 (cL 20 19 7),.small 4 (cM 21 0 0),.small 5 (cN 22 21 16),.small 6 (cF 23 8 22 48),.small 7 (cL 24 23 112),.small 8 (cM 25 1 0),.small 12 (cS 29 (.br (.c (.int .i64 0))) 0),.aZ 9 (cC 26 106 [.t 24,.t 25] 496),.small 10 (cS 27 (.slice 1 (.t 20) (some (.t 26)) none none) 1023),.small 11 (cS 28 (.len 1 (.t 27)) 2047)]
def U7:=fq ZN Lf (by kernel_rfl)
def yC:Lc:=[cS 30 (.bin .lss .no (.t 29) (.t 28)) 0]
def DO:Lc:=[cS 31 (.indexAddr 1 (.t 27) (.t 29)) 0,cL 32 31 1,cM 11 32 3]
def DP:Lc:=[cM 33 2 0,cS 34 (.bin .neq .str (.t 33) (.c (.str []))) 1,cM 35 34 3,jV 36 11 35 true 7,jV 37 2 35 true 7,cG 38 (.bin .geq .no (.t 36) (.t 37)) 35 true 31,cQ 39 35 38 63]
def It:Lc:=[cM 41 0 0,cM 42 11 0,cM 43 3 0,cC 44 77 [.t 41,.t 42,.t 43] 7,cM 40 44 15,cE 45 0 40 31,cE 46 1 40 31,cM 12 45 63,cM 13 46 255]
def Iu:Lc:=[cM 47 13 0]
def Le:Lc:=[cM 48 9 0,cM 49 11 0,cM 50 12 0,cS 51 (.build [.str [],.ag [] 0 0 1] [(0,1,.t 49),(1,1,.t 50)]) 6,⟨some 52,.m (.buildSlice 2 1 [.str [],.ag [] 0 0 1] [(0,2,.t 51)]),none,14⟩,⟨some 53,.h (.append 2 40 false (.t 48) (.t 52)),none,31⟩,cM 9 53 63]
def Cd:Lc:=[cS 54 (.bin .add .no (.t 29) (.c (.int .i64 1))) 0,cM 29 54 1]
def vS:aj:=(.seq (.region yC) (.seq (.cond (.t 30) .skip (.exit 0)) (.seq (.block 1 (.seq (.region DO) (.seq (.seq (.region DP) (.cond (.t 39) (.exit 0) .skip)) (.seq (.region It) (.seq (.region Iu) (.cond (.t 47) (.region Le) .skip)))))) (.region Cd))))
def Ce:Lc:=[cM 55 9 0,cM 8 55 1]
def vT:aj:=(.seq (.region U4) (.seq (.seq (.region U5) (.cond (.t 16) (.seq (.region qgl) .ret) .skip)) (.seq (.region U6) (.seq (.seq (.draw ZN) (.block 0 (.loop vS))) (.seq (.region Ce) .ret)))))
def v64:az:=⟨56,[.t 8],true,vT,fun i=>match i with|0=>[9,29,3,0,2,27,28]|_=>[],fun i=>match i with|0=>[9]|1=>[9,3,0,2,27,28,29]|_=>[]⟩
@[simp] theorem qjp:v64.body=vT∧v64.results=[.t 8]∧v64.own=true∧v64.head 0=[9,29,3,0,2,27,28]∧v64.tail 0=[9]∧v64.tail 1=[9,3,0,2,27,28,29]:=⟨rfl,rfl,rfl,rfl,rfl,rfl⟩
def DQ:Lc:=[cS 4 (.br (.c (.ag [] 1 0 6))) 0]
def DR:Lc:=[cS 5 (.br (.c (.ag [] 1 0 6))) 0]
def DS:Lc:=[cM 8 0 0,cS 9 (.len 1 (.t 8)) 1,cS 10 (.br (.c (.int .i64 0))) 0]
def qn:Lc:=[cS 11 (.bin .lss .no (.t 10) (.t 9)) 0]
def Cf:Lc:=[cS 12 (.indexAddr 6 (.t 8) (.t 10)) 0,cS 13 (.load (some 6) (.t 12)) 1,⟨some 7,.m (.alloc [.int .u64 0,.int .u64 0,.int .u64 0,.int .u64 0,.ag [] 0 0 2,.ag [] 0 0 2]),none,0⟩,cH (.store 6 (.t 7) (.t 13)) 7]
def Cg:Lc:=[cF 14 1 7 0,cL 15 14 1,cM 16 1 0,cS 17 (.bin .gtr .no (.t 15) (.t 16)) 7]
def M8:Lc:=[cM 18 5 0,cS 19 (.load (some 6) (.t 7)) 0,cC 20 107 [.t 19] 2,⟨some 21,.m (.buildSlice 6 1 [.int .u64 0,.int .u64 0,.int .u64 0,.int .u64 0,.ag [] 0 0 2,.ag [] 0 0 2] [(0,6,.t 20)]),none,6⟩,⟨some 22,.h (.append 6 80 false (.t 18) (.t 21)),none,15⟩,cM 5 22 31]
def Ch:Lc:=[cS 23 (.bin .add .no (.t 10) (.c (.int .i64 1))) 0,cM 10 23 1]
def lQ:aj:=(.seq (.region qn) (.seq (.cond (.t 11) .skip (.exit 0)) (.seq (.block 1 (.seq (.region Cf) (.seq (.region Cg) (.cond (.t 17) (.region M8) .skip)))) (.region Ch))))
def vU:Lc:=[cM 24 5 0,cM 4 24 1]
def nF:aj:=(.seq (.region DQ) (.seq (.region DR) (.seq (.seq (.region DS) (.block 0 (.loop lQ))) (.seq (.region vU) .ret))))
def v66:az:=⟨25,[.t 4],true,nF,fun i=>match i with|0=>[10,5,1,8,9]|_=>[],fun i=>match i with|0=>[5]|1=>[5,1,8,9,10]|_=>[]⟩
@[simp] theorem qjq:v66.body=nF∧v66.results=[.t 4]∧v66.own=true∧v66.head 0=[10,5,1,8,9]∧v66.tail 0=[5]∧v66.tail 1=[5,1,8,9,10]:=⟨rfl,rfl,rfl,rfl,rfl,rfl⟩
def ZO:Lc:=[⟨some 5,.m (.box (.t 2)),none,0⟩]
def ZP:Lc:=[cM 6 1 0,cM 7 1 0,cN 8 7 2,cF 9 3 8 6,cL 10 9 14,cS 11 (.load (some 2) (.t 5)) 0,cC 12 112 [.t 10,.t 11] 62,cM 13 0 0,cN 14 13 128,cF 15 0 14 384,cF 16 3 15 896,cL 17 16 1920,cC 18 101 [.t 12,.t 17] 4094,cN 19 6 8191,cF 20 3 19 16383,cH (.store 1 (.t 20) (.t 18)) 32767]
def U8:List Step:=[.small 0 (cM 6 1 0),.small 1 (cM 7 1 0),.small 2 (cN 8 7 2),.small 3 (cF 9 3 8 6),.small 4 (cL 10 9 14),.small 5 (cS 11 (.load (some 2) (.t 5)) 0),.small 7 (cM 13 0 0),.small 8 (cN 14 13 128),.small 9 (cF 15 0 14 384),.small 10 (cF 16 3 15 896),.small 11 (cL 17 16 1920),.aZ 6 (cC 12 112 [.t 10,.t 11] 62),.aZ 12 (cC 18 101 [.t 12,.t 17] 4094),.small 13 (cN 19 6 8191),.small 14 (cF 20 3 19 16383),.aZ 15 (cH (.store 1 (.t 20) (.t 18)) 32767)]
def qcF:=fq ZP U8 (by kernel_rfl)
def Ci:aj:=(.seq (.region ZO) (.draw ZP))
def v75:az:=⟨21,[],true,Ci,fe,fe⟩
@[simp] theorem qjr:v75.body=Ci∧v75.results=[]∧v75.own=true:=⟨rfl,rfl,rfl⟩
def ZQ:Lc:=[⟨some 2,.m (.alloc [.str [],.str []]),none,0⟩]
def ZR:Lc:=[cM 3 0 0,cM 4 0 0,cS 5 (.bin .add .no (.t 4) (.c (.str [0]))) 2,cS 6 (.build [.str [],.str []] [(0,1,.t 3),(1,1,.t 5)]) 7,cH (.store 2 (.t 2) (.t 6)) 15]
def Cj:aj:=(.seq (.region ZQ) (.seq (.region ZR) .ret))
def v76:az:=⟨7,[.cell 2 (some 2)],true,Cj,fe,fe⟩
@[simp] theorem qjs:v76.body=Cj∧v76.results=[.cell 2 (some 2)]∧v76.own=true:=⟨rfl,rfl,rfl⟩
def ZS:Lc:=[cS 6 (.br (.c (.ag [] 1 0 1))) 0,cS 7 (.br (.c (.bool false))) 1]
def ZT:Lc:=[cM 8 0 0,cM 9 1 0,cC 10 114 [.t 8,.t 9] 3,cM 11 2 0,cC 12 113 [.t 10,.t 11] 15,cE 13 0 12 31,cE 14 1 12 31,cM 6 13 127,cM 7 14 255]
def Ck:aj:=(.seq (.region ZS) (.seq (.region ZT) .ret))
def v77:az:=⟨15,[.t 6,.t 7],true,Ck,fe,fe⟩
@[simp] theorem qjt:v77.body=Ck∧v77.results=[.t 6,.t 7]∧v77.own=true:=⟨rfl,rfl,rfl⟩
def ZU:Lc:=[⟨some 1,.m (.box (.t 0)),none,0⟩,cS 2 (.br (.c (.bool false))) 0]
def ZV:Lc:=[cF 3 1 1 0,cL 4 3 1,cS 5 (.bin .eql .str (.t 4) (.c (.str []))) 3,cM 6 5 7,cG 7 (.fieldAddr 1 (.t 1)) 6 false 15,cG 8 (.load none (.t 7)) 6 false 31,cG 9 (.fieldAddr 0 (.t 1)) 6 false 15,cG 10 (.load none (.t 9)) 6 false 79,cG 11 (.bin .gtr .no (.t 8) (.t 10)) 6 false 255,cP 12 6 11 511,cM 2 12 1023]
def Cl:aj:=(.seq (.region ZU) (.seq (.region ZV) .ret))
def v78:az:=⟨13,[.t 2],true,Cl,fe,fe⟩
@[simp] theorem qju:v78.body=Cl∧v78.results=[.t 2]∧v78.own=true:=⟨rfl,rfl,rfl⟩
def ZW:Lc:=[cS 2 (.br (.c (.ag [] 1 0 3))) 0]
def ZX:Lc:=[cS 3 (.br (.c (.ag [] 1 0 3))) 0]
def ZY:Lc:=[cM 6 0 0,cN 7 6 1,cF 8 4 7 3,cL 9 8 7,⟨some 10,.h (.range (.t 9)),none,15⟩]
def U9:Lc:=[⟨some 11,.next (.t 10),none,0⟩,cE 12 0 11 1]
def ZZ:Lc:=[cS 13 (.entry (.t 10)) 0,cE 14 1 13 1,⟨some 5,.m (.alloc [.str [],.bool false,.ag [] 0 0 1]),none,0⟩,cH (.store 3 (.t 5) (.t 14)) 7]
def Z0:Lc:=[cM 15 3 0,cS 16 (.load (some 3) (.t 5)) 0,⟨some 17,.m (.buildSlice 3 1 [.str [],.bool false,.ag [] 0 0 1] [(0,3,.t 16)]),none,2⟩,⟨some 18,.h (.append 3 48 false (.t 15) (.t 17)),none,7⟩,cM 3 18 15]
def Gl:aj:=(.seq (.region U9) (.seq (.cond (.t 12) .skip (.exit 0)) (.block 1 (.seq (.region ZZ) (.region Z0)))))
def Va:Lc:=[cM 19 3 0,⟨some 20,.call (.c (.func 115 [] [])) [.t 19,(.c (.func 116 [] []))],none,1⟩]
def Vb:Lc:=[cM 21 3 0,cM 2 21 1]
def Cm:aj:=(.seq (.region ZW) (.seq (.region ZX) (.seq (.seq (.region ZY) (.block 0 (.loop Gl))) (.seq (.region Va) (.seq (.region Vb) .ret)))))
def v79:az:=⟨22,[.t 2],true,Cm,fun i=>match i with|0=>[3,10]|_=>[],fun i=>match i with|0=>[3]|1=>[3,10]|_=>[]⟩
@[simp] theorem qjv:v79.body=Cm∧v79.results=[.t 2]∧v79.own=true∧v79.head 0=[3,10]∧v79.tail 0=[3]∧v79.tail 1=[3,10]:=⟨rfl,rfl,rfl,rfl,rfl,rfl⟩
def Z4:Lc:=[⟨some 2,.m (.box (.t 0)),none,0⟩,cS 4 (.br (.c (.bool false))) 0]
def Z5:Lc:=[cF 5 0 2 0,cL 6 5 1,cM 7 1 0,cS 8 (.bin .leq .no (.t 6) (.t 7)) 7,cM 9 8 15,cG 10 (.fieldAddr 1 (.t 2)) 9 true 31,cG 11 (.load none (.t 10)) 9 true 63,cG 12 (.bin .eql .str (.t 11) (.c (.str []))) 9 true 127,jV 13 12 9 true 255,jV 14 1 13 false 511,cG 15 (.fieldAddr 1 (.t 2)) 13 false 511,cG 16 (.load none (.t 15)) 13 false 1535,cG 17 (.bin .lss .no (.t 14) (.t 16)) 13 false 4095,cG 18 (.pick (.t 13) (.c (.bool true)) (.t 17)) 9 true 8191,cQ 19 9 18 16383,cM 4 19 32767]
def Cn:aj:=(.seq (.region Z4) (.seq (.region Z5) .ret))
def v80:az:=⟨20,[.t 4],true,Cn,fe,fe⟩
@[simp] theorem qjw:v80.body=Cn∧v80.results=[.t 4]∧v80.own=true:=⟨rfl,rfl,rfl⟩
def Z7:Lc:=[⟨some 1,.m (.box (.t 0)),none,0⟩,cS 2 (.br (.c .bA)) 0,cS 3 (.br (.c (.int .i64 0))) 2]
def Z8:Lc:=[cF 6 0 1 0,cL 7 6 1,cF 8 1 1 0,cL 9 8 4,cF 10 2 1 0,cL 11 10 16,cS 12 (.build [.int .i64 0,.int .i64 0,.int .i64 0] [(0,1,.t 7),(1,1,.t 9),(2,1,.t 11)]) 63,cS 13 (.br (.c (.int .i64 0))) 0]
def Iv:Lc:=[cS 14 (.bin .lss .no (.t 13) (.c (.int .i64 3))) 0]
def M9:Lc:=[cS 15 (.CB 3 (.t 12) (.t 13)) 0,cM 5 15 1]
def Na:Lc:=[cM 16 5 0,cS 17 (.bin .lss .no (.t 16) (.c (.int .i64 1))) 1,cM 18 17 3,jV 19 5 18 false 7,cG 20 (.bin .gtr .no (.t 19) (.c (.int .i64 1048576))) 18 false 15,cP 21 18 20 31]
def qgm:Lc:=[cS 2 (.br (.c .bA)) 0,cS 3 (.br (.c (.int .i64 1))) 1]
def Nb:Lc:=[cS 22 (.bin .add .no (.t 13) (.c (.int .i64 1))) 0,cM 13 22 1]
def Co:aj:=(.seq (.region Iv) (.seq (.cond (.t 14) .skip (.exit 0)) (.seq (.block 1 (.seq (.region M9) (.seq (.region Na) (.cond (.t 21) (.seq (.region qgm) .ret) .skip)))) (.region Nb))))
def Z9:Lc:=[cF 23 6 1 0,cL 24 23 1,cS 25 (.bin .eql .int (.t 24) (.c (.int .u64 0))) 3]
def qgn:Lc:=[cS 2 (.br (.c .bA)) 0,cS 3 (.br (.c (.int .i64 1))) 1]
def Vc:Lc:=[cS 26 (.load (some 7) (.t 1)) 0,⟨some 27,.m (.makeMap),none,0⟩,cS 28 (.build [.int .i64 0,.int .i64 0,.int .i64 0,.int .i64 0,.int .i64 0,.int .i64 0,.int .u64 0,.int .u64 0,.ag [] 3 0 1,.bO,.int .i64 0,.int .i64 0,.int .i64 0] [(0,7,.t 26),(9,1,.t 27)]) 3,⟨some 29,.m (.box (.t 28)),none,7⟩,cM 2 29 15,cS 3 (.br (.c (.int .i64 0))) 31]
def Cp:aj:=(.seq (.region Z7) (.seq (.seq (.region Z8) (.block 0 (.loop Co))) (.seq (.seq (.region Z9) (.cond (.t 25) (.seq (.region qgn) .ret) .skip)) (.seq (.region Vc) .ret))))
def Z6:az:=⟨30,[.t 2,.t 3],true,Cp,fun i=>match i with|0=>[13,12,1]|_=>[],fun i=>match i with|0=>[1]|1=>[12,1,13]|_=>[]⟩
@[simp] theorem qjx:Z6.body=Cp∧Z6.results=[.t 2,.t 3]∧Z6.own=true∧Z6.head 0=[13,12,1]∧Z6.tail 0=[1]∧Z6.tail 1=[12,1,13]:=⟨rfl,rfl,rfl,rfl,rfl,rfl⟩
def Vd:Lc:=[cS 4 (.br (.c (.int .i64 0))) 0]
def Ve:Lc:=[cM 10 0 0,cC 11 99 [.t 10] 1,cS 12 (.un .not (.t 11)) 3]
def qgo:Lc:=[cS 4 (.br (.c (.int .i64 0))) 0]
def Vl:Lc:=[cM 13 0 0,cN 14 13 1,cF 15 10 14 3,cF 16 1 15 7,cL 17 16 15,cM 5 17 31]
def Vm:Lc:=[cM 18 0 0,cN 19 18 1,cF 20 8 19 3,cL 21 20 7,cS 22 (.slice 1 (.t 21) none (some (.c (.int .i64 0))) (some (.c (.int .i64 0)))) 15,cM 6 22 31]
def Vn:Lc:=[cM 23 0 0,cS 24 (.build [.int .i64 0,.int .i64 0,.int .i64 0] []) 0,cN 25 23 3,cF 26 10 25 7,cH (.store 3 (.t 26) (.t 24)) 15]
def Vo:Lc:=[cM 27 0 0,cN 28 27 1,cF 29 8 28 3,cL 30 29 7,cS 31 (.len 1 (.t 30)) 15,cS 32 (.br (.c (.int .i64 0))) 0]
def Iw:Lc:=[cS 33 (.bin .lss .no (.t 32) (.t 31)) 0]
def Vp:Lc:=[cS 34 (.indexAddr 1 (.t 30) (.t 32)) 0,cL 35 34 1,cM 8 35 3]
def Vq:Lc:=[cM 36 0 0,cN 37 36 1,cF 38 9 37 3,cL 39 38 7,cM 40 8 0,cS 41 (.lookup .str (.ag [] 0 0 3) false (.t 39) (.t 40)) 31,cM 42 1 0,cC 43 136 [.t 41,.t 42] 127,cM 9 43 255]
def Lg:Lc:=[cM 44 9 0,cS 45 (.len 1 (.t 44)) 1,cS 46 (.bin .eql .int (.t 45) (.c (.int .i64 0))) 3]
def Vf:Lc:=[cM 47 0 0,cN 48 47 1,cF 49 9 48 3,cL 50 49 7,cM 51 8 0,cH (.delete .str (.t 50) (.t 51)) 31]
def Vg:Lc:=[cM 52 6 0,cM 53 8 0,⟨some 54,.m (.buildSlice 1 1 [.str []] [(0,1,.t 53)]),none,2⟩,⟨some 55,.h (.append 1 16 false (.t 52) (.t 54)),none,7⟩,cM 6 55 15]
def Vh:Lc:=[cM 56 0 0,cN 57 56 1,cF 58 9 57 3,cL 59 58 7,cM 60 8 0,cM 61 9 0,cH (.mapUpdate .str (.t 59) (.t 60) (.t 61)) 63]
def Vi:Lc:=[cM 62 0 0,cN 63 62 1,cF 64 10 63 3,cF 65 0 64 7,cL 66 65 15,cS 67 (.bin .add .no (.t 66) (.c (.int .i64 1))) 31,cN 68 62 63,cF 69 10 68 127,cF 70 0 69 255,cH (.store 1 (.t 70) (.t 67)) 511]
def Vj:Lc:=[cM 71 0 0,cN 72 71 1,cF 73 10 72 3,cF 74 1 73 7,cL 75 74 15,cM 76 9 0,cS 77 (.len 1 (.t 76)) 32,cS 78 (.bin .add .no (.t 75) (.t 77)) 127,cN 79 71 255,cF 80 10 79 511,cF 81 1 80 1023,cH (.store 1 (.t 81) (.t 78)) 2047]
def Gm:List Step:=[.small 0 (cM 82 0 0),.small 1 (cN 83 82 1),.small 2 (cF 84 10 83 3),.small 3 (cF 85 2 84 7),.small 4 (cL 86 85 15),.small 5 (cM 87 8 0),.small 6 (cS 88 (.len 0 (.t 87)) 32),.small 7 (cM 89 9 0),.aZ 8 (cC 90 137 [.t 89] 128),.small 9 (cS 91 (.bin .add .no (.t 88) (.t 90)) 480),.small 10 (cS 92 (.bin .add .no (.t 86) (.t 91)) 1023),.small 11 (cN 93 82 2047),.small 12 (cF 94 10 93 4095),.small 13 (cF 95 2 94 8191),.aZ 14 (cH (.store 1 (.t 95) (.t 92)) 16383)]
def Vk:Lc:=qS Gm
def XC:=fq Vk Gm (by kernel_rfl)
def Lh:Lc:=[cS 96 (.bin .add .no (.t 32) (.c (.int .i64 1))) 0,cM 32 96 1]
def sK:aj:=(.seq (.region Iw) (.seq (.cond (.t 33) .skip (.exit 0)) (.seq (.block 1 (.seq (.region Vp) (.seq (.region Vq) (.seq (.seq (.region Lg) (.cond (.t 46) (.seq (.region Vf) (.exit 1)) .skip)) (.seq (.region Vg) (.seq (.region Vh) (.seq (.region Vi) (.seq (.region Vj) (.draw Vk))))))))) (.region Lh))))
def Gn:Lc:=[cM 97 0 0,cM 98 6 0,cN 99 97 3,cF 100 8 99 7,cH (.store 1 (.t 100) (.t 98)) 15]
def Gp:Lc:=[cM 101 5 0,cM 102 0 0,cN 103 102 2,cF 104 10 103 6,cF 105 1 104 14,cL 106 105 30,cS 107 (.bin .sub .no (.t 101) (.t 106)) 63,cM 4 107 127]
def vV:aj:=(.seq (.region Vd) (.seq (.seq (.region Ve) (.cond (.t 12) (.seq (.region qgo) .ret) .skip)) (.seq (.region Vl) (.seq (.region Vm) (.seq (.region Vn) (.seq (.seq (.region Vo) (.block 0 (.loop sK))) (.seq (.region Gn) (.seq (.region Gp) .ret))))))))
def Oy:az:=⟨108,[.t 4],true,vV,fun i=>match i with|0=>[32,0,6,1,30,5,31]|_=>[],fun i=>match i with|0=>[0,5,6]|1=>[0,6,1,30,5,31,32]|_=>[]⟩
@[simp] theorem qjy:Oy.body=vV∧Oy.results=[.t 4]∧Oy.own=true∧Oy.head 0=[32,0,6,1,30,5,31]∧Oy.tail 0=[0,5,6]∧Oy.tail 1=[0,6,1,30,5,31,32]:=⟨rfl,rfl,rfl,rfl,rfl,rfl⟩
def qaa:Lc:=[cS 2 (.br (.c (.bool false))) 0]
def qab:Lc:=[cM 3 0 0,cS 4 (.bin .neq .bA (.t 3) (.c .bA)) 1,cM 5 4 3,jV 6 0 5 true 7,cG 7 (.nilCheck (.t 6)) 5 true 15,cG 8 (.fieldAddr 9 (.t 7)) 5 true 31,cG 9 (.load none (.t 8)) 5 true 63,cG 10 (.bin .neq .bO (.t 9) (.c .bO)) 5 true 127,cQ 11 5 10 255,cM 2 11 511]
def Cq:aj:=(.seq (.region qaa) (.seq (.region qab) .ret))
def v99:az:=⟨12,[.t 2],true,Cq,fe,fe⟩
@[simp] theorem qjz:v99.body=Cq∧v99.results=[.t 2]∧v99.own=true:=⟨rfl,rfl,rfl⟩
def QK:Lc:=[cS 4 (.br (.c (.bool false))) 0]
def QL:Lc:=[cM 6 1 0,cN 7 6 1,cF 8 4 7 3,cL 9 8 7,⟨some 10,.h (.range (.t 9)),none,15⟩]
def J5:Lc:=[⟨some 11,.next (.t 10),none,0⟩,cE 12 0 11 1]
def J6:Lc:=[cS 13 (.entry (.t 10)) 0,cE 14 0 13 1,cM 5 14 3]
def QM:Lc:=[cM 15 0 0,cN 16 15 1,cF 17 7 16 3,cL 18 17 7,cM 19 5 0,cC 20 138 [.t 18,.t 19] 31,cM 21 1 0,cN 22 21 64,cF 23 1 22 192,cL 24 23 448,cS 25 (.bin .gtr .no (.t 20) (.t 24)) 1023]
def EO:List Step:=[.small 0 (cM 15 0 0),.small 1 (cN 16 15 1),.small 2 (cF 17 7 16 3),.small 3 (cL 18 17 7),.small 4 (cM 19 5 0),.small 6 (cM 21 1 0),.small 7 (cN 22 21 64),.small 8 (cF 23 1 22 192),.small 9 (cL 24 23 448),.aZ 5 (cC 20 138 [.t 18,.t 19] 31),.small 10 (cS 25 (.bin .gtr .no (.t 20) (.t 24)) 1023)]
def Mf:=fq QM EO (by kernel_rfl)
def QN:Lc:=[cS 4 (.br (.c (.bool true))) 0]
def zg:aj:=(.seq (.region J5) (.seq (.cond (.t 12) .skip (.exit 0)) (.block 1 (.seq (.region J6) (.seq (.draw QM) (.cond (.t 25) (.seq (.region QN) .ret) .skip))))))
def EP:Lc:=[cS 4 (.br (.c (.bool false))) 0]
def wV:aj:=(.seq (.region QK) (.seq (.seq (.region QL) (.block 0 (.loop zg))) (.seq (.region EP) .ret)))
def Bm:az:=⟨26,[.t 4],true,wV,fun i=>match i with|0=>[0,1,10]|_=>[],fun i=>match i with|0=>[]|1=>[0,1,10]|_=>[]⟩
@[simp] theorem qhX:Bm.body=wV∧Bm.results=[.t 4]∧Bm.own=true∧Bm.head 0=[0,1,10]∧Bm.tail 0=[]∧Bm.tail 1=[0,1,10]:=⟨rfl,rfl,rfl,rfl,rfl,rfl⟩
def J7:Lc:=[cS 4 (.br (.c (.ag [] 1 0 2))) 0]
def J8:Lc:=[cM 7 0 0,⟨some 8,.call (.c (.func 139 [] [])) [.t 7,(.c (.ag [] 0 0 2))],none,1⟩,cM 5 8 3]
def J9:Lc:=[cM 9 5 0,cS 10 (.len 1 (.t 9)) 1,cM 11 1 0,cS 12 (.max [.t 11,(.c (.int .i64 1))]) 4,cS 13 (.bin .sub .no (.t 10) (.t 12)) 15,cM 6 13 31]
def Ka:Lc:=[cM 14 6 0,cS 15 (.bin .gtr .no (.t 14) (.c (.int .i64 0))) 1]
def QS:Lc:=[cM 16 5 0,cM 17 6 0,cM 18 5 0,cS 19 (.indexAddr 2 (.t 18) (.c (.int .i64 0))) 4,cF 20 0 19 12,cL 21 20 28,cS 22 (.indexAddr 2 (.t 16) (.t 17)) 63,cF 23 0 22 127,cH (.store 1 (.t 23) (.t 21)) 255]
def QT:Lc:=[cM 24 5 0,cM 25 6 0,cS 26 (.slice 2 (.t 24) (some (.t 25)) none none) 3,cC 27 62 [.t 26] 7,cM 5 27 15]
def Kb:Lc:=[cM 28 5 0,cM 4 28 1]
def sj:aj:=(.seq (.region J7) (.seq (.region J8) (.seq (.seq (.region J9) (.seq (.region Ka) (.cond (.t 15) (.seq (.region QS) (.region QT)) .skip))) (.seq (.region Kb) .ret))))
def QO:az:=⟨29,[.t 4],true,sj,fe,fe⟩
@[simp] theorem qhY:QO.body=sj∧QO.results=[.t 4]∧QO.own=true:=⟨rfl,rfl,rfl⟩
def QU:Lc:=[⟨some 3,.m (.box (.t 1)),none,0⟩,cS 4 (.br (.c (.int .u64 0))) 0,cS 5 (.br (.c (.int .i64 0))) 2]
def QV:Lc:=[cS 16 (.ji 140 [] [.t 3]) 0,cM 6 16 1]
def QW:Lc:=[cS 7 (.br (.c (.int .u64 0))) 0,cS 8 (.br (.c (.bool false))) 1]
def QX:Lc:=[cM 17 0 0,cS 18 (.len 1 (.t 17)) 1,cS 19 (.br (.c (.int .i64 0))) 0]
def Bn:Lc:=[cS 20 (.bin .lss .no (.t 19) (.t 18)) 0]
def ET:Lc:=[cS 21 (.indexAddr 6 (.t 17) (.t 19)) 0,cS 22 (.load (some 6) (.t 21)) 1,⟨some 10,.m (.alloc [.int .u64 0,.int .u64 0,.int .u64 0,.int .u64 0,.ag [] 0 0 2,.ag [] 0 0 2]),none,0⟩,cH (.store 6 (.t 10) (.t 22)) 7]
def EU:Lc:=[cM 23 6 0,cS 24 (.load (some 6) (.t 10)) 0,⟨some 25,.call (.t 23) [.t 24],none,3⟩,cM 26 25 7,cG 27 (.fieldAddr 4 (.t 10)) 26 true 15,cG 28 (.load none (.t 27)) 26 true 31,cG 29 (.fieldAddr 5 (.t 3)) 26 true 15,cG 30 (.load none (.t 29)) 26 true 79,O1 31 108 [.t 28,.t 30] 26 true 255,cQ 32 26 31 511]
def QY:Lc:=[cM 33 7 0,cS 34 (.load (some 6) (.t 10)) 0,cC 35 141 [.t 34] 2,cS 36 (.max [.t 33,.t 35]) 7,cM 7 36 15,cS 8 (.br (.c (.bool true))) 31]
def EV:Lc:=[cS 37 (.bin .add .no (.t 19) (.c (.int .i64 1))) 0,cM 19 37 1]
def zl:aj:=(.seq (.region Bn) (.seq (.cond (.t 20) .skip (.exit 0)) (.seq (.block 1 (.seq (.region ET) (.seq (.region EU) (.cond (.t 32) (.region QY) .skip)))) (.region EV))))
def ER:Lc:=[cS 11 (.br (.c (.int .u64 0))) 0,cS 12 (.br (.c (.bool false))) 1,cS 13 (.br (.c (.bool false))) 3]
def ES:Lc:=[cM 38 0 0,cS 39 (.len 1 (.t 38)) 1,cS 40 (.br (.c (.int .i64 0))) 0]
def uN:Lc:=[cS 41 (.bin .lss .no (.t 40) (.t 39)) 0]
def zh:Lc:=[cS 42 (.indexAddr 6 (.t 38) (.t 40)) 0,cS 43 (.load (some 6) (.t 42)) 1,⟨some 15,.m (.alloc [.int .u64 0,.int .u64 0,.int .u64 0,.int .u64 0,.ag [] 0 0 2,.ag [] 0 0 2]),none,0⟩,cH (.store 6 (.t 15) (.t 43)) 7]
def zi:Lc:=[cM 44 6 0,cS 45 (.load (some 6) (.t 15)) 0,⟨some 46,.call (.t 44) [.t 45],none,3⟩,cS 47 (.un .not (.t 46)) 7,cM 48 47 15,cG 49 (.fieldAddr 4 (.t 3)) 48 false 31,cG 50 (.load none (.t 49)) 48 false 63,cG 51 (.fieldAddr 5 (.t 15)) 48 false 31,cG 52 (.load none (.t 51)) 48 false 159,O1 53 108 [.t 50,.t 52] 48 false 511,cG 54 (.un .not (.t 53)) 48 false 1023,cP 55 48 54 2047]
def uO:Lc:=[cF 57 3 15 0,cL 58 57 1,cS 59 (.bin .neq .int (.t 58) (.c (.int .u64 0))) 3,cM 60 59 7,cG 61 (.fieldAddr 5 (.t 3)) 60 true 15,cG 62 (.load none (.t 61)) 60 true 31,cG 63 (.len 1 (.t 62)) 60 true 63,cG 64 (.bin .gtr .no (.t 63) (.c (.int .i64 0))) 60 true 127,cQ 65 60 64 255,cM 56 65 511]
def zj:Lc:=[cF 67 3 15 0,cL 68 67 1,cS 69 (.bin .neq .int (.t 68) (.c (.int .u64 0))) 3,cM 70 69 7,cG 71 (.fieldAddr 3 (.t 15)) 70 true 15,cG 72 (.load none (.t 71)) 70 true 31,cG 73 (.fieldAddr 2 (.t 3)) 70 true 15,cG 74 (.load none (.t 73)) 70 true 79,cG 75 (.bin .leq .no (.t 72) (.t 74)) 70 true 255,cQ 76 70 75 511,cM 66 76 1023]
def gm:Lc:=[cM 78 8 0,cM 79 78 1,cG 80 (.fieldAddr 0 (.t 15)) 79 true 3,cG 81 (.load none (.t 80)) 79 true 7,jV 82 7 79 true 3,cG 83 (.bin .leq .no (.t 81) (.t 82)) 79 true 31,cQ 84 79 83 63,cM 77 84 127]
def uP:Lc:=[cS 13 (.br (.c (.bool true))) 0]
def iH:Lc:=[cM 85 12 0,cS 86 (.un .not (.t 85)) 1,cM 87 86 3,cG 88 (.fieldAddr 0 (.t 15)) 87 false 7,cG 89 (.load none (.t 88)) 87 false 15,jV 90 11 87 false 7,cG 91 (.bin .lss .no (.t 89) (.t 90)) 87 false 63,cP 92 87 91 127]
def mc:Lc:=[cF 93 0 15 0,cL 94 93 1,cM 11 94 3,cS 12 (.br (.c (.bool true))) 7]
def gu:Lc:=[cS 95 (.bin .add .no (.t 40) (.c (.int .i64 1))) 0,cM 40 95 1]
def oM:aj:=(.seq (.region uN) (.seq (.cond (.t 41) .skip (.exit 2)) (.seq (.block 3 (.seq (.region zh) (.seq (.seq (.region zi) (.cond (.t 55) (.exit 3) .skip)) (.seq (.block 4 (.seq (.block 7 (.block 6 (.block 5 (.seq (.seq (.seq (.region uO) (.cond (.t 56) (.exit 5) .skip)) (.seq (.seq (.region zj) (.cond (.t 66) (.exit 6) .skip)) (.seq (.region gm) (.cond (.t 77) (.exit 7) .skip)))) (.exit 4))))) (.seq (.seq (.region uP) (.exit 2)) (.exit 4)))) (.seq (.region iH) (.cond (.t 92) (.region mc) .skip)))))) (.region gu))))
def nY:Lc:=[cM 96 13 0]
def pV:Lc:=[cS 4 (.br (.c (.int .u64 0))) 0,cS 5 (.br (.c (.int .i64 101))) 1]
def zk:Lc:=[cM 97 11 0,cM 4 97 1,cS 5 (.br (.c (.int .i64 0))) 3]
def wW:aj:=(.seq (.region QU) (.seq (.seq (.region QV) (.seq (.region QW) (.seq (.seq (.region QX) (.block 0 (.loop zl))) (.seq (.region ER) (.seq .skip (.seq (.seq (.region ES) (.block 2 (.loop oM))) (.seq (.seq (.region nY) (.cond (.t 96) (.seq (.region pV) .ret) .skip)) (.seq (.region zk) .ret)))))))) .skip))
def mb:az:=⟨98,[.t 4,.t 5],true,wW,fun i=>match i with|0=>[19,7,3,6,17,8,0,18]|2=>[40,11,12,7,8,3,6,38,13,39]|_=>[],fun i=>match i with|0=>[7,8,3,6,0]|1=>[7,3,6,17,8,0,18,19]|2=>[11,13]|5=>[11]|6=>[11]|7=>[11]|4=>[7,8,3,6,38,13,39,40,15,11,12]|3=>[11,12,7,8,3,6,38,13,39,40]|_=>[]⟩
@[simp] theorem qhZ:mb.body=wW∧mb.results=[.t 4,.t 5]∧mb.own=true∧mb.head 0=[19,7,3,6,17,8,0,18]∧mb.head 2=[40,11,12,7,8,3,6,38,13,39]∧mb.tail 0=[7,8,3,6,0]∧mb.tail 1=[7,3,6,17,8,0,18,19]∧mb.tail 2=[11,13]∧mb.tail 5=[11]∧mb.tail 6=[11]∧mb.tail 7=[11]∧mb.tail 4=[7,8,3,6,38,13,39,40,15,11,12]∧mb.tail 3=[11,12,7,8,3,6,38,13,39,40]:=⟨rfl,rfl,rfl,rfl,rfl,rfl,rfl,rfl,rfl,rfl,rfl,rfl,rfl⟩
def tM:Lc:=[cS 6 (.br (.c (.int .u64 0))) 0,cS 7 (.br (.c (.int .i64 0))) 1]
def tP:Lc:=[cM 15 0 0,cC 16 99 [.t 15] 1,cS 17 (.un .not (.t 16)) 3]
def qcp:Lc:=[cS 6 (.br (.c (.int .u64 0))) 0,cS 7 (.br (.c (.int .i64 2))) 1]
def tQ:Lc:=[cM 18 1 0,cC 19 57 [.t 18] 1,cM 8 19 3]
def tT:Lc:=[cM 20 8 0,cS 21 (.bin .neq .int (.t 20) (.c (.int .i64 0))) 1]
def QZ:Lc:=[cM 22 8 0,cS 6 (.br (.c (.int .u64 0))) 0,cM 7 22 3]
def wX:Lc:=[cM 23 1 0,cS 24 (.len 1 (.t 23)) 1,cS 25 (.bin .eql .int (.t 24) (.c (.int .i64 0))) 3]
def Q2:Lc:=[cM 26 0 0,cN 27 26 1,cF 28 7 27 3,cL 29 28 7,cM 6 29 15,cS 7 (.br (.c (.int .i64 0))) 31]
def sn:List Step:=[.small 0 (cM 30 0 0),.small 1 (cN 31 30 1),.small 2 (cF 32 7 31 3),.small 3 (cL 33 32 7),.small 4 (cM 34 0 0),.small 5 (cN 35 34 16),.small 6 (cF 36 0 35 48),.small 7 (cF 37 6 36 112),.small 8 (cL 38 37 240),.small 9 (cS 39 (.bin .geq .no (.t 33) (.t 38)) 511)]
def Q3:Lc:=qS sn
def zA:=fq Q3 sn (by kernel_rfl)
def Q4:Lc:=[cS 6 (.br (.c (.int .u64 0))) 0,cS 7 (.br (.c (.int .i64 5))) 1]
def zm:Lc:=[cM 41 0 0,cM 42 1 0,cC 43 142 [.t 41,.t 42] 3,cM 40 43 7,cE 44 0 40 15,cE 45 1 40 15,⟨some 10,.m (.alloc [.int .i64 0,.int .i64 0,.int .i64 0]),none,0⟩,cM 9 44 95,cH (.store 3 (.t 10) (.t 45)) 255]
def zn:Lc:=[cM 46 0 0,cS 47 (.load (some 3) (.t 10)) 0,cC 48 143 [.t 46,.t 47] 3,cS 49 (.un .not (.t 48)) 7]
def EW:Lc:=[cM 50 0 0,cM 51 2 0,cC 52 98 [.t 50,.t 51] 3]
def EX:Lc:=[cM 54 0 0,cM 55 1 0,cC 56 142 [.t 54,.t 55] 3,cM 53 56 7,cE 57 0 53 15,cE 58 1 53 15,cM 9 57 31,cH (.store 3 (.t 10) (.t 58)) 127]
def zo:Lc:=[cM 59 0 0,cS 60 (.load (some 3) (.t 10)) 0,cC 61 143 [.t 59,.t 60] 3,cS 62 (.un .not (.t 61)) 7]
def Mg:Lc:=[cS 6 (.br (.c (.int .u64 0))) 0,cS 7 (.br (.c (.int .i64 5))) 1]
def EY:Lc:=[cM 63 0 0,cN 64 63 1,cF 65 7 64 3,cL 66 65 7,cS 67 (.bin .add .no (.t 66) (.c (.int .u64 1))) 15,cN 68 63 31,cF 69 7 68 63,cH (.store 1 (.t 69) (.t 67)) 127]
def EZ:Lc:=[cM 70 9 0,cS 71 (.len 1 (.t 70)) 1,cS 72 (.br (.c (.int .i64 0))) 0]
def uQ:Lc:=[cS 73 (.bin .lss .no (.t 72) (.t 71)) 0]
def zp:Lc:=[cS 74 (.indexAddr 3 (.t 70) (.t 72)) 0,cS 75 (.load (some 3) (.t 74)) 1,⟨some 12,.m (.alloc [.str [],.bool false,.ag [] 0 0 1]),none,0⟩,cH (.store 3 (.t 12) (.t 75)) 7]
def qU:List Step:=[.small 0 (cM 77 0 0),.small 1 (cN 78 77 1),.small 2 (cF 79 9 78 3),.small 3 (cL 80 79 7),.small 4 (cF 81 0 12 0),.small 5 (cL 82 81 16),.small 6 (cS 83 (.lookup .str (.ag [] 0 0 3) false (.t 80) (.t 82)) 63),.small 7 (cM 84 0 0),.small 8 (cN 85 84 128),.small 9 (cF 86 7 85 384),.small 10 (cL 87 86 896),.small 11 (cF 88 1 12 0),.small 12 (cL 89 88 2048),.small 13 (cF 90 2 12 0),.small 14 (cL 91 90 8192),.small 15 (cS 92 (.build [.int .u64 0,.bool false,.ag [] 0 0 1] [(0,1,.t 87),(1,1,.t 89),(2,1,.t 91)]) 32640),.aZ 16 (cC 93 144 [.t 83,.t 92] 65535),.small 17 (cM 76 93 131071),.small 18 (cE 94 0 76 262143),.small 19 (cE 95 1 76 262143),.small 20 (cM 13 94 524287),.small 21 (cM 14 95 2097151)]
def Mh:Lc:=qS qU
def Bo:=fq Mh qU (by kernel_rfl)
def zq:Lc:=[cM 96 14 0,cS 97 (.bin .neq .int (.t 96) (.c (.int .i64 0))) 1]
def Xs:Lc:=[cM 98 14 0,cS 6 (.br (.c (.int .u64 0))) 0,cM 7 98 3]
def zu:Lc:=[cM 99 13 0,cS 100 (.len 1 (.t 99)) 1,cS 101 (.bin .eql .int (.t 100) (.c (.int .i64 1))) 3]
def Mi:Lc:=[cM 102 0 0,cM 103 0 0,cN 104 103 2,cF 105 8 104 6,cL 106 105 14,cM 107 0 0,cN 108 107 32,cF 109 8 108 96,cL 110 109 224,cF 111 0 12 0,cL 112 111 512,cC 113 106 [.t 110,.t 112] 2016,cF 114 0 12 0,cL 115 114 4096,⟨some 116,.m (.buildSlice 1 1 [.str []] [(0,1,.t 115)]),none,12288⟩,cC 117 145 [.t 106,.t 113,.t 116] 32766,cN 118 102 65535,cF 119 8 118 131071,cH (.store 1 (.t 119) (.t 117)) 262143]
def Bp:List Step:=[.small 0 (cM 102 0 0),.small 1 (cM 103 0 0),.small 2 (cN 104 103 2),.small 3 (cF 105 8 104 6),.small 4 (cL 106 105 14),.small 5 (cM 107 0 0),.small 6 (cN 108 107 32),.small 7 (cF 109 8 108 96),.small 8 (cL 110 109 224),.small 9 (cF 111 0 12 0),.small 10 (cL 112 111 512),.small 12 (cF 114 0 12 0),.small 13 (cL 115 114 4096),.small 14 ⟨some 116,.m (.buildSlice 1 1 [.str []] [(0,1,.t 115)]),none,12288⟩,.aZ 11 (cC 113 106 [.t 110,.t 112] 2016),.aZ 15 (cC 117 145 [.t 106,.t 113,.t 116] 32766),.small 16 (cN 118 102 65535),.small 17 (cF 119 8 118 131071),.aZ 18 (cH (.store 1 (.t 119) (.t 117)) 262143)]
def Il:=fq Mi Bp (by kernel_rfl)
def qV:List Step:=[.small 0 (cM 120 0 0),.small 1 (cN 121 120 1),.small 2 (cF 122 9 121 3),.small 3 (cL 123 122 7),.small 4 (cF 124 0 12 0),.small 5 (cL 125 124 16),.small 6 (cM 126 13 0),.aZ 7 (cH (.mapUpdate .str (.t 123) (.t 125) (.t 126)) 127)]
def Mj:Lc:=qS qV
def Bq:=fq Mj qV (by kernel_rfl)
def zv:Lc:=[cS 127 (.bin .add .no (.t 72) (.c (.int .i64 1))) 0,cM 72 127 1]
def nE:aj:=(.seq (.region uQ) (.seq (.cond (.t 73) .skip (.exit 0)) (.seq (.block 1 (.seq (.region zp) (.seq (.draw Mh) (.seq (.seq (.region zq) (.cond (.t 97) (.seq (.region Xs) .ret) .skip)) (.seq (.seq (.region zu) (.cond (.t 101) (.draw Mi) .skip)) (.draw Mj)))))) (.region zv))))
def zw:Lc:=[cM 128 0 0,cS 129 (.load (some 3) (.t 10)) 0,cN 130 128 3,cF 131 10 130 7,cH (.store 3 (.t 131) (.t 129)) 15]
def zy:Lc:=[cM 132 0 0,cN 133 132 1,cF 134 7 133 3,cL 135 134 7,cM 6 135 15,cS 7 (.br (.c (.int .i64 0))) 31]
def jA:aj:=(.seq (.region tM) (.seq (.seq (.region tP) (.cond (.t 17) (.seq (.region qcp) .ret) .skip)) (.seq (.seq (.region tQ) (.seq (.region tT) (.cond (.t 21) (.seq (.region QZ) .ret) .skip))) (.seq (.seq (.region wX) (.cond (.t 25) (.seq (.region Q2) .ret) .skip)) (.seq (.seq (.draw Q3) (.cond (.t 39) (.seq (.region Q4) .ret) .skip)) (.seq (.region zm) (.seq (.seq (.region zn) (.cond (.t 49) (.seq (.region EW) (.region EX)) .skip)) (.seq (.seq (.region zo) (.cond (.t 62) (.seq (.region Mg) .ret) .skip)) (.seq (.region EY) (.seq (.seq (.region EZ) (.block 0 (.loop nE))) (.seq (.region zw) (.seq (.region zy) .ret))))))))))))
def pW:az:=⟨136,[.t 6,.t 7],true,jA,fun i=>match i with|0=>[72,0,70,10,71]|_=>[],fun i=>match i with|0=>[0,10]|1=>[0,70,10,71,72]|_=>[]⟩
@[simp] theorem qh0:pW.body=jA∧pW.results=[.t 6,.t 7]∧pW.own=true∧pW.head 0=[72,0,70,10,71]∧pW.tail 0=[0,10]∧pW.tail 1=[0,70,10,71,72]:=⟨rfl,rfl,rfl,rfl,rfl,rfl⟩
def Q5:Lc:=[cS 6 (.br (.c (.ag [] 1 0 6))) 0]
def Q6:Lc:=[cM 10 1 0,cS 11 (.max [.t 10,(.c (.int .i64 1))]) 1,cM 1 11 3]
def Q8:Lc:=[cM 12 0 0,cS 13 (.len 1 (.t 12)) 1,⟨some 14,.m (.makeSlice 6 80 [.int .u64 0,.int .u64 0,.int .u64 0,.int .u64 0,.ag [] 0 0 2,.ag [] 0 0 2] (.c (.int .i64 0)) (.t 13)),none,3⟩,cM 7 14 7]
def Q9:Lc:=[cM 15 0 0,cS 16 (.len 1 (.t 15)) 1,cS 17 (.br (.c (.int .i64 0))) 0]
def Kc:Lc:=[cS 18 (.bin .lss .no (.t 17) (.t 16)) 0]
def Ra:Lc:=[cS 19 (.indexAddr 6 (.t 15) (.t 17)) 0,cS 20 (.load (some 6) (.t 19)) 1,⟨some 9,.m (.alloc [.int .u64 0,.int .u64 0,.int .u64 0,.int .u64 0,.ag [] 0 0 2,.ag [] 0 0 2]),none,0⟩,cH (.store 6 (.t 9) (.t 20)) 7]
def Rb:Lc:=[cM 21 7 0,cS 22 (.load (some 6) (.t 9)) 0,cC 23 107 [.t 22] 2,⟨some 24,.m (.buildSlice 6 1 [.int .u64 0,.int .u64 0,.int .u64 0,.int .u64 0,.ag [] 0 0 2,.ag [] 0 0 2] [(0,6,.t 23)]),none,6⟩,⟨some 25,.h (.append 6 80 false (.t 21) (.t 24)),none,15⟩,cM 7 25 31]
def Re:Lc:=[cS 26 (.bin .add .no (.t 17) (.c (.int .i64 1))) 0,cM 17 26 1]
def zB:aj:=(.seq (.region Kc) (.seq (.cond (.t 18) .skip (.exit 0)) (.seq (.block 1 (.seq (.region Ra) (.region Rb))) (.region Re))))
def E1:Lc:=[cM 27 7 0,cS 28 (.len 1 (.t 27)) 1,cM 29 1 0,cS 30 (.bin .gtr .no (.t 28) (.t 29)) 7]
def Br:List Step:=[.small 0 (cM 31 7 0),.small 1 (cM 32 7 0),.small 2 (cS 33 (.indexAddr 6 (.t 32) (.c (.int .i64 0))) 2),.small 3 (cS 34 (.load (some 6) (.t 33)) 6),.small 4 (cM 35 7 0),.small 5 (cS 36 (.indexAddr 6 (.t 35) (.c (.int .i64 1))) 16),.small 6 (cS 37 (.load (some 6) (.t 36)) 48),.small 7 (cM 38 2 0),.aZ 8 (cC 39 146 [.t 34,.t 37,.t 38] 254),.small 9 (cS 40 (.indexAddr 6 (.t 31) (.c (.int .i64 1))) 511),.aZ 10 (cH (.store 6 (.t 40) (.t 39)) 1023)]
def Ml:Lc:=qS Br
def Q7:=fq Ml Br (by kernel_rfl)
def Mm:Lc:=[cM 41 7 0,cS 42 (.slice 6 (.t 41) (some (.c (.int .i64 1))) none none) 1,cM 7 42 3]
def oN:aj:=(.seq (.seq (.region E1) (.cond (.t 30) .skip (.exit 2))) (.block 3 (.seq (.draw Ml) (.region Mm))))
def uR:Lc:=[cM 43 7 0,cC 44 97 [.t 43] 1,cM 6 44 3]
def wY:aj:=(.seq (.region Q5) (.seq (.region Q6) (.seq (.region Q8) (.seq (.seq (.region Q9) (.block 0 (.loop zB))) (.seq (.block 2 (.loop oN)) (.seq (.region uR) .ret))))))
def qX:az:=⟨45,[.t 6],true,wY,fun i=>match i with|0=>[17,7,15,2,1,16]|2=>[7,2,1]|_=>[],fun i=>match i with|0=>[7,2,1]|1=>[7,15,2,1,16,17]|2=>[7]|3=>[7,2,1]|_=>[]⟩
@[simp] theorem qh1:qX.body=wY∧qX.results=[.t 6]∧qX.own=true∧qX.head 0=[17,7,15,2,1,16]∧qX.head 2=[7,2,1]∧qX.tail 0=[7,2,1]∧qX.tail 1=[7,15,2,1,16,17]∧qX.tail 2=[7]∧qX.tail 3=[7,2,1]:=⟨rfl,rfl,rfl,rfl,rfl,rfl,rfl,rfl,rfl⟩
def Rg:Lc:=[⟨some 2,.m (.box (.t 0)),none,0⟩,⟨some 3,.m (.box (.t 1)),none,0⟩,cS 4 (.br (.c (.int .i64 0))) 0]
def Rh:Lc:=[cL 5 2 0,cS 6 (.len 1 (.t 5)) 1,cS 7 (.ji 148 [] [.t 2,.t 3]) 0,cC 8 147 [.t 6,.t 7] 7,cM 4 8 15]
def wZ:aj:=(.seq (.region Rg) (.seq (.region Rh) .ret))
def Rf:az:=⟨9,[.t 4],true,wZ,fe,fe⟩
@[simp] theorem qh2:Rf.body=wZ∧Rf.results=[.t 4]∧Rf.own=true:=⟨rfl,rfl,rfl⟩
def Kd:Lc:=[⟨some 1,.m (.box (.t 0)),none,0⟩,⟨some 2,.m (.alloc [.int .u64 0,.int .u64 0,.int .u64 0,.int .u64 0,.ag [] 0 0 2,.ag [] 0 0 2]),none,0⟩]
def Ri:Lc:=[cF 3 4 1 0,cL 4 3 1,cC 5 62 [.t 4] 3,cF 6 5 1 0,cL 7 6 8,cC 8 62 [.t 7] 31,cF 9 4 1 31,cH (.store 1 (.t 9) (.t 5)) 127,cF 10 5 1 255,cH (.store 1 (.t 10) (.t 8)) 511]
def E2:List Step:=[.small 0 (cF 3 4 1 0),.small 1 (cL 4 3 1),.small 3 (cF 6 5 1 0),.small 4 (cL 7 6 8),.aZ 2 (cC 5 62 [.t 4] 3),.small 6 (cF 9 4 1 31),.aZ 5 (cC 8 62 [.t 7] 31),.aZ 7 (cH (.store 1 (.t 9) (.t 5)) 127),.small 8 (cF 10 5 1 255),.aZ 9 (cH (.store 1 (.t 10) (.t 8)) 511)]
def Mn:=fq Ri E2 (by kernel_rfl)
def Ke:Lc:=[cS 11 (.load (some 6) (.t 1)) 0,cH (.store 6 (.t 2) (.t 11)) 1]
def sr:aj:=(.seq (.region Kd) (.seq (.draw Ri) (.seq (.region Ke) .ret)))
def v107:az:=⟨12,[.cell 2 (some 6)],true,sr,fe,fe⟩
@[simp] theorem qh3:v107.body=sr∧v107.results=[.cell 2 (some 6)]∧v107.own=true:=⟨rfl,rfl,rfl⟩
def Rm:Lc:=[⟨some 3,.m (.box (.t 1)),none,0⟩,cS 4 (.br (.c (.bool false))) 0]
def Rn:Lc:=[cM 5 0 0,cS 6 (.ji 150 [] [.t 3]) 0,cC 7 149 [.t 5,.t 6] 3,cM 4 7 7]
def w6:aj:=(.seq (.region Rm) (.seq (.region Rn) .ret))
def Rj:az:=⟨8,[.t 4],true,w6,fe,fe⟩
@[simp] theorem qh4:Rj.body=w6∧Rj.results=[.t 4]∧Rj.own=true:=⟨rfl,rfl,rfl⟩
def Rp:Lc:=[⟨some 3,.m (.box (.t 1)),none,0⟩,cS 4 (.br (.c (.ag [] 1 0 2))) 0]
def Rq:Lc:=[cM 5 0 0,cS 6 (.load (some 2) (.t 3)) 0,⟨some 7,.m (.buildSlice 2 1 [.str [],.str []] [(0,2,.t 6)]),none,2⟩,cC 8 139 [.t 5,.t 7] 7,cM 4 8 15]
def w8:aj:=(.seq (.region Rp) (.seq (.region Rq) .ret))
def Ro:az:=⟨9,[.t 4],true,w8,fe,fe⟩
@[simp] theorem qh5:Ro.body=w8∧Ro.results=[.t 4]∧Ro.own=true:=⟨rfl,rfl,rfl⟩
def E3:Lc:=[cS 4 (.br (.c (.ag [] 1 0 1))) 0,cS 5 (.br (.c (.bool false))) 1]
def E4:Lc:=[cM 9 0 0,cM 10 1 0,cC 11 164 [.t 9,.t 10] 3,cM 8 11 7,cE 12 0 8 15,cE 13 1 8 15,⟨some 6,.m (.alloc [.int .u64 0,.bool false,.ag [] 0 0 1]),none,0⟩,cH (.store 3 (.t 6) (.t 12)) 95,cM 7 13 255]
def E5:Lc:=[cM 14 7 0,cS 15 (.un .not (.t 14)) 1,cM 16 15 3,cG 17 (.fieldAddr 1 (.t 6)) 16 false 7,cG 18 (.load none (.t 17)) 16 false 15,cP 19 16 18 31]
def Kf:Lc:=[cS 4 (.br (.c (.ag [] 1 0 1))) 0,cS 5 (.br (.c (.bool false))) 1]
def Rs:Lc:=[cF 20 2 6 0,cL 21 20 1,cM 4 21 3,cS 5 (.br (.c (.bool true))) 7]
def oO:aj:=(.seq (.region E3) (.seq (.region E4) (.seq (.seq (.region E5) (.cond (.t 19) (.seq (.region Kf) .ret) .skip)) (.seq (.region Rs) .ret))))
def Rr:az:=⟨22,[.t 4,.t 5],true,oO,fe,fe⟩
@[simp] theorem qh6:Rr.body=oO∧Rr.results=[.t 4,.t 5]∧Rr.own=true:=⟨rfl,rfl,rfl⟩
def Ru:Lc:=[cS 4 (.br (.c (.ag [] 1 0 3))) 0]
def Rv:Lc:=[cM 5 0 0,cC 6 99 [.t 5] 1,cS 7 (.un .not (.t 6)) 3]
def qcq:Lc:=[cS 4 (.br (.c (.ag [] 1 0 3))) 0]
def Rx:Lc:=[cM 8 0 0,cN 9 8 1,cF 10 9 9 3,cL 11 10 7,cM 12 1 0,cS 13 (.lookup .str (.ag [] 0 0 3) false (.t 11) (.t 12)) 31,cM 4 13 63]
def w9:aj:=(.seq (.region Ru) (.seq (.seq (.region Rv) (.cond (.t 7) (.seq (.region qcq) .ret) .skip)) (.seq (.region Rx) .ret)))
def Rt:az:=⟨14,[.t 4],true,w9,fe,fe⟩
@[simp] theorem qh7:Rt.body=w9∧Rt.results=[.t 4]∧Rt.own=true:=⟨rfl,rfl,rfl⟩
def Bt:Lc:=[cS 4 (.br (.c (.ag [] 1 0 3))) 0]
def Bu:Lc:=[cM 6 0 0,cM 7 1 0,cC 8 187 [.t 6,.t 7] 3,cM 5 8 7]
def Bv:Lc:=[cM 9 5 0,cS 10 (.bin .gtr .no (.t 9) (.c (.int .i64 0))) 1,cM 11 10 3,jV 12 0 11 true 7,jV 13 5 11 true 7,cG 14 (.bin .sub .no (.t 13) (.c (.int .i64 1))) 11 true 23,cG 15 (.indexAddr 3 (.t 12) (.t 14)) 11 true 63,cG 16 (.fieldAddr 1 (.t 15)) 11 true 127,cG 17 (.load none (.t 16)) 11 true 255,cG 18 (.un .not (.t 17)) 11 true 511,cQ 19 11 18 1023]
def RM:Lc:=[cM 20 5 0,cS 21 (.bin .sub .no (.t 20) (.c (.int .i64 1))) 1,cM 5 21 3]
def Bw:Lc:=[cM 22 0 0,cM 23 5 0,cM 24 0 0,cS 25 (.len 1 (.t 24)) 4,cM 26 0 0,cS 27 (.len 1 (.t 26)) 16,cS 28 (.slice 3 (.t 22) (some (.t 23)) (some (.t 25)) (some (.t 27))) 63,cC 29 188 [.t 28] 127,cM 4 29 255]
def mz:aj:=(.seq (.region Bt) (.seq (.region Bu) (.seq (.seq (.region Bv) (.cond (.t 19) (.region RM) .skip)) (.seq (.region Bw) .ret))))
def RI:az:=⟨30,[.t 4],true,mz,fe,fe⟩
@[simp] theorem qh8:RI.body=mz∧RI.results=[.t 4]∧RI.own=true:=⟨rfl,rfl,rfl⟩
def RN:Lc:=[cS 2 (.br (.c (.int .i64 0))) 0]
def RO:Lc:=[cS 3 (.br (.c (.int .i64 0))) 0]
def RQ:Lc:=[cM 6 0 0,cS 7 (.len 1 (.t 6)) 1,cS 8 (.br (.c (.int .i64 0))) 0]
def Ki:Lc:=[cS 9 (.bin .lss .no (.t 8) (.t 7)) 0]
def RS:Lc:=[cS 10 (.indexAddr 3 (.t 6) (.t 8)) 0,cS 11 (.load (some 3) (.t 10)) 1,⟨some 5,.m (.alloc [.int .u64 0,.bool false,.ag [] 0 0 1]),none,0⟩,cH (.store 3 (.t 5) (.t 11)) 7]
def RT:Lc:=[cM 12 3 0,cF 13 2 5 0,cL 14 13 2,cS 15 (.len 1 (.t 14)) 6,cS 16 (.bin .add .no (.t 12) (.t 15)) 15,cM 3 16 31]
def RU:Lc:=[cS 17 (.bin .add .no (.t 8) (.c (.int .i64 1))) 0,cM 8 17 1]
def zC:aj:=(.seq (.region Ki) (.seq (.cond (.t 9) .skip (.exit 0)) (.seq (.block 1 (.seq (.region RS) (.region RT))) (.region RU))))
def Kj:Lc:=[cM 18 3 0,cM 2 18 1]
def xb:aj:=(.seq (.region RN) (.seq (.region RO) (.seq (.seq (.region RQ) (.block 0 (.loop zC))) (.seq (.region Kj) .ret))))
def Bx:az:=⟨19,[.t 2],true,xb,fun i=>match i with|0=>[8,3,6,7]|_=>[],fun i=>match i with|0=>[3]|1=>[3,6,7,8]|_=>[]⟩
@[simp] theorem qh9:Bx.body=xb∧Bx.results=[.t 2]∧Bx.own=true∧Bx.head 0=[8,3,6,7]∧Bx.tail 0=[3]∧Bx.tail 1=[3,6,7,8]:=⟨rfl,rfl,rfl,rfl,rfl,rfl⟩
def RV:Lc:=[cS 4 (.br (.c (.int .u64 0))) 0]
def RW:Lc:=[cM 5 0 0,cM 6 1 0,cC 7 114 [.t 5,.t 6] 3,cC 8 189 [.t 7] 7,cM 4 8 15]
def xd:aj:=(.seq (.region RV) (.seq (.region RW) .ret))
def v138:az:=⟨9,[.t 4],true,xd,fe,fe⟩
@[simp] theorem qia:v138.body=xd∧v138.results=[.t 4]∧v138.own=true:=⟨rfl,rfl,rfl⟩
def RX:Lc:=[cS 4 (.br (.c (.ag [] 1 0 2))) 0]
def RY:Lc:=[cM 12 0 0,cS 13 (.len 1 (.t 12)) 1,cM 14 1 0,cS 15 (.len 1 (.t 14)) 4,cS 16 (.bin .add .no (.t 13) (.t 15)) 15,⟨some 17,.m (.makeSlice 2 32 [.str [],.str []] (.c (.int .i64 0)) (.t 16)),none,31⟩,⟨some 5,.m (.alloc [.ag [] 2 0 2]),none,0⟩,cH (.store 1 (.t 5) (.t 17)) 127]
def RZ:Lc:=[cS 18 (.ji 190 [] [.t 5]) 0,cM 6 18 1]
def R1:Lc:=[cM 19 6 0,cM 20 0 0,⟨some 21,.call (.t 19) [.t 20],none,3⟩]
def R2:Lc:=[cM 22 6 0,cM 23 1 0,⟨some 24,.call (.t 22) [.t 23],none,3⟩]
def R3:Lc:=[cL 25 5 0,⟨some 26,.call (.c (.func 191 [] [])) [.t 25,(.c (.func 192 [] []))],none,1⟩]
def R4:Lc:=[cS 7 (.br (.c (.ag [] 1 0 2))) 0]
def R5:Lc:=[cL 27 5 0,cS 28 (.len 1 (.t 27)) 1,cS 29 (.br (.c (.int .i64 0))) 0]
def qY:Lc:=[cS 30 (.bin .lss .no (.t 29) (.t 28)) 0]
def tU:Lc:=[cS 31 (.indexAddr 2 (.t 27) (.t 29)) 0,cS 32 (.load (some 2) (.t 31)) 1,⟨some 9,.m (.alloc [.str [],.str []]),none,0⟩,cH (.store 2 (.t 9) (.t 32)) 7]
def pX:Lc:=[cM 33 7 0,cS 34 (.len 1 (.t 33)) 1,cM 10 34 3]
def lD:List Step:=[.small 0 (cM 35 10 0),.small 1 (cS 36 (.bin .eql .int (.t 35) (.c (.int .i64 0))) 1),.small 2 (cM 37 36 3),.small 3 (jV 38 7 37 false 7),.small 4 (jV 39 10 37 false 7),.small 5 (cG 40 (.bin .sub .no (.t 39) (.c (.int .i64 1))) 37 false 23),.small 6 (cG 41 (.indexAddr 2 (.t 38) (.t 40)) 37 false 63),.small 7 (cG 42 (.fieldAddr 1 (.t 41)) 37 false 127),.small 8 (cG 43 (.load none (.t 42)) 37 false 255),.small 9 (cG 44 (.bin .neq .str (.t 43) (.c (.str []))) 37 false 511),.small 10 (jV 45 44 37 false 1023),.small 11 (jV 46 7 45 true 2047),.small 12 (jV 47 10 45 true 2047),.small 13 (cG 48 (.bin .sub .no (.t 47) (.c (.int .i64 1))) 45 true 6143),.small 14 (cG 49 (.indexAddr 2 (.t 46) (.t 48)) 45 true 16383),.small 15 (cG 50 (.fieldAddr 1 (.t 49)) 45 true 32767),.small 16 (cG 51 (.load none (.t 50)) 45 true 65535),.small 17 (cG 52 (.fieldAddr 0 (.t 9)) 45 true 2047),.small 18 (cG 53 (.load none (.t 52)) 45 true 133119),.small 19 (cG 54 (.bin .lss .no (.t 51) (.t 53)) 45 true 524287),.small 20 (cG 55 (.pick (.t 45) (.t 54) (.c (.bool false))) 37 false 1048575),.small 21 (cP 56 37 55 2097151)]
def Mo:Lc:=qS lD
def oP:=fq Mo lD (by kernel_rfl)
def E6:Lc:=[cM 57 7 0,cS 58 (.load (some 2) (.t 9)) 0,⟨some 59,.m (.buildSlice 2 1 [.str [],.str []] [(0,2,.t 58)]),none,2⟩,⟨some 60,.h (.append 2 32 false (.t 57) (.t 59)),none,7⟩,cM 7 60 15]
def uT:Lc:=[cM 61 7 0,cM 62 10 0,cS 63 (.bin .sub .no (.t 62) (.c (.int .i64 1))) 2,cS 64 (.indexAddr 2 (.t 61) (.t 63)) 7,cM 11 64 15]
def oQ:List Step:=[.small 0 (cM 65 11 0),.small 1 (cN 66 65 1),.small 2 (cF 67 1 66 3),.small 3 (cL 68 67 7),.small 4 (cS 69 (.bin .neq .str (.t 68) (.c (.str []))) 15),.small 5 (cM 70 69 31),.small 6 (cG 71 (.fieldAddr 1 (.t 9)) 70 true 63),.small 7 (cG 72 (.load none (.t 71)) 70 true 127),.small 8 (cG 73 (.bin .eql .str (.t 72) (.c (.str []))) 70 true 255),.small 9 (jV 74 73 70 true 511),.small 10 (cG 75 (.fieldAddr 1 (.t 9)) 74 false 1023),.small 11 (cG 76 (.load none (.t 75)) 74 false 2047),.small 12 (jV 77 11 74 false 1023),.small 13 (cG 78 (.nilCheck (.t 77)) 74 false 5119),.small 14 (cG 79 (.fieldAddr 1 (.t 78)) 74 false 13311),.small 15 (cG 80 (.load none (.t 79)) 74 false 29695),.small 16 (cG 81 (.bin .gtr .no (.t 76) (.t 80)) 74 false 65535),.small 17 (cG 82 (.pick (.t 74) (.c (.bool true)) (.t 81)) 70 true 131071),.small 18 (cQ 83 70 82 262143)]
def Mp:Lc:=qS oQ
def uU:=fq Mp oQ (by kernel_rfl)
def E7:Lc:=[cM 84 11 0,cF 85 1 9 0,cL 86 85 2,cN 87 84 7,cF 88 1 87 15,cH (.store 1 (.t 88) (.t 86)) 31]
def pY:Lc:=[cS 89 (.bin .add .no (.t 29) (.c (.int .i64 1))) 0,cM 29 89 1]
def uV:aj:=(.seq (.region qY) (.seq (.cond (.t 30) .skip (.exit 0)) (.seq (.block 1 (.seq (.region tU) (.seq (.region pX) (.seq (.seq (.draw Mo) (.cond (.t 56) (.seq (.region E6) (.exit 1)) .skip)) (.seq (.region uT) (.seq (.draw Mp) (.cond (.t 83) (.region E7) .skip))))))) (.region pY))))
def E8:Lc:=[cM 90 7 0,cM 4 90 1]
def xe:aj:=(.seq (.region RX) (.seq (.region RY) (.seq (.region RZ) (.seq (.region R1) (.seq (.region R2) (.seq (.region R3) (.seq (.region R4) (.seq (.seq (.region R5) (.block 0 (.loop uV))) (.seq (.region E8) .ret)))))))))
def v139:az:=⟨91,[.t 4],true,xe,fun i=>match i with|0=>[29,7,27,28]|_=>[],fun i=>match i with|0=>[7]|1=>[7,27,28,29]|_=>[]⟩
@[simp] theorem qib:v139.body=xe∧v139.results=[.t 4]∧v139.own=true∧v139.head 0=[29,7,27,28]∧v139.tail 0=[7]∧v139.tail 1=[7,27,28,29]:=⟨rfl,rfl,rfl,rfl,rfl,rfl⟩
def R8:Lc:=[⟨some 2,.m (.box (.t 0)),none,0⟩,cS 3 (.br (.c (.bool false))) 0]
def R9:Lc:=[cF 4 1 2 0,cL 5 4 1,cF 6 2 1 0,cL 7 6 4,cS 8 (.bin .gtr .no (.t 5) (.t 7)) 15,cM 3 8 31]
def xg:aj:=(.seq (.region R8) (.seq (.region R9) .ret))
def R7:az:=⟨9,[.t 3],true,xg,fe,fe⟩
@[simp] theorem qic:R7.body=xg∧R7.results=[.t 3]∧R7.own=true:=⟨rfl,rfl,rfl⟩
def Kk:Lc:=[⟨some 1,.m (.box (.t 0)),none,0⟩,cS 2 (.br (.c (.int .u64 0))) 0]
def Kl:Lc:=[cF 3 5 1 0,cL 4 3 1,cS 5 (.len 1 (.t 4)) 3,cS 6 (.bin .eql .int (.t 5) (.c (.int .i64 0))) 7]
def Sa:Lc:=[cF 7 2 1 0,cL 8 7 1,cM 2 8 3]
def Sb:Lc:=[cF 9 1 1 0,cL 10 9 1,cM 2 10 3]
def su:aj:=(.seq (.region Kk) (.seq (.seq (.region Kl) (.cond (.t 6) (.seq (.region Sa) .ret) .skip)) (.seq (.region Sb) .ret)))
def v141:az:=⟨11,[.t 2],true,su,fe,fe⟩
@[simp] theorem qid:v141.body=su∧v141.results=[.t 2]∧v141.own=true:=⟨rfl,rfl,rfl⟩
def Sc:Lc:=[cS 4 (.br (.c (.ag [] 1 0 3))) 0,⟨some 5,.m (.alloc [.int .i64 0,.int .i64 0,.int .i64 0]),none,0⟩]
def Sd:Lc:=[cS 6 (.br (.c (.ag [] 1 0 3))) 0]
def Sf:Lc:=[cM 11 0 0,cN 12 11 1,cF 13 10 12 3,cS 14 (.load (some 3) (.t 13)) 7,⟨some 7,.m (.alloc [.int .i64 0,.int .i64 0,.int .i64 0]),none,0⟩,cH (.store 3 (.t 7) (.t 14)) 31]
def Sh:Lc:=[cM 15 1 0,cS 16 (.len 1 (.t 15)) 1,cS 17 (.br (.c (.int .i64 0))) 0]
def tV:Lc:=[cS 18 (.bin .lss .no (.t 17) (.t 16)) 0]
def xh:Lc:=[cS 19 (.indexAddr 3 (.t 15) (.t 17)) 0,cS 20 (.load (some 3) (.t 19)) 1,⟨some 9,.m (.alloc [.str [],.bool false,.ag [] 0 0 1]),none,0⟩,cH (.store 3 (.t 9) (.t 20)) 7]
def pZ:List Step:=[.small 0 (cM 21 0 0),.small 1 (cN 22 21 1),.small 2 (cF 23 9 22 3),.small 3 (cL 24 23 7),.small 4 (cF 25 0 9 0),.small 5 (cL 26 25 16),.small 6 (cS 27 (.lookup .str (.ag [] 0 0 3) false (.t 24) (.t 26)) 63),.small 7 (cM 10 27 127)]
def Si:Lc:=qS pZ
def uW:=fq Si pZ (by kernel_rfl)
def xk:Lc:=[cF 28 1 9 0,cL 29 28 1,cM 30 29 3,jV 31 10 30 true 7,cG 32 (.len 1 (.t 31)) 30 true 15,cG 33 (.bin .eql .int (.t 32) (.c (.int .i64 0))) 30 true 31,jV 34 33 30 true 63,jV 35 10 34 false 127,jV 36 10 34 false 127,cG 37 (.len 1 (.t 36)) 34 false 383,cG 38 (.bin .sub .no (.t 37) (.c (.int .i64 1))) 34 false 895,cG 39 (.indexAddr 3 (.t 35) (.t 38)) 34 false 2047,cG 40 (.fieldAddr 1 (.t 39)) 34 false 4095,cG 41 (.load none (.t 40)) 34 false 8191,cG 42 (.pick (.t 34) (.c (.bool true)) (.t 41)) 30 true 16383,cQ 43 30 42 32767]
def Fb:Lc:=[cM 44 6 0,cS 45 (.load (some 3) (.t 9)) 0,⟨some 46,.m (.buildSlice 3 1 [.str [],.bool false,.ag [] 0 0 1] [(0,3,.t 45)]),none,2⟩,⟨some 47,.h (.append 3 48 false (.t 44) (.t 46)),none,7⟩,cM 6 47 15]
def Fc:Lc:=[cF 48 1 7 0,cL 49 48 1,cS 50 (.bin .add .no (.t 49) (.c (.int .i64 1))) 3,cF 51 1 7 7,cH (.store 1 (.t 51) (.t 50)) 15]
def zD:Lc:=[cF 52 2 7 0,cL 53 52 1,cF 54 2 9 0,cL 55 54 4,cS 56 (.len 1 (.t 55)) 12,cS 57 (.bin .add .no (.t 53) (.t 56)) 31,cF 58 2 7 63,cH (.store 1 (.t 58) (.t 57)) 127]
def zF:Lc:=[cM 59 10 0,cS 60 (.len 1 (.t 59)) 1,cS 61 (.bin .eql .int (.t 60) (.c (.int .i64 0))) 3]
def Mr:Lc:=[cF 62 0 7 0,cL 63 62 1,cS 64 (.bin .add .no (.t 63) (.c (.int .i64 1))) 3,cF 65 0 7 7,cH (.store 1 (.t 65) (.t 64)) 15]
def Ms:Lc:=[cF 66 2 7 0,cL 67 66 1,cF 68 0 9 0,cL 69 68 4,cS 70 (.len 0 (.t 69)) 12,cS 71 (.bin .add .no (.t 67) (.t 70)) 31,cF 72 2 7 63,cH (.store 1 (.t 72) (.t 71)) 127]
def sA:Lc:=[cS 73 (.bin .add .no (.t 17) (.c (.int .i64 1))) 0,cM 17 73 1]
def uX:aj:=(.seq (.region tV) (.seq (.cond (.t 18) .skip (.exit 0)) (.seq (.block 1 (.seq (.region xh) (.seq (.draw Si) (.seq (.seq (.region xk) (.cond (.t 43) (.exit 1) .skip)) (.seq (.region Fb) (.seq (.region Fc) (.seq (.region zD) (.seq (.region zF) (.cond (.t 61) (.seq (.region Mr) (.region Ms)) .skip))))))))) (.region sA))))
def BB:List Step:=[.small 0 (cM 74 6 0),.small 1 (cS 75 (.load (some 3) (.t 7)) 0),.small 2 (cM 4 74 1),.aZ 3 (cH (.store 3 (.t 5) (.t 75)) 7)]
def Fa:Lc:=qS BB
def Se:=fq Fa BB (by kernel_rfl)
def xm:aj:=(.seq (.region Sc) (.seq (.region Sd) (.seq (.region Sf) (.seq (.seq (.region Sh) (.block 0 (.loop uX))) (.seq (.draw Fa) .ret)))))
def BA:az:=⟨76,[.t 4,.cell 5 (some 3)],true,xm,fun i=>match i with|0=>[17,7,6,0,15,5,16]|_=>[],fun i=>match i with|0=>[5,6,7]|1=>[7,6,0,15,5,16,17]|_=>[]⟩
@[simp] theorem qie:BA.body=xm∧BA.results=[.t 4,.cell 5 (some 3)]∧BA.own=true∧BA.head 0=[17,7,6,0,15,5,16]∧BA.tail 0=[5,6,7]∧BA.tail 1=[7,6,0,15,5,16,17]:=⟨rfl,rfl,rfl,rfl,rfl,rfl⟩
def Sj:Lc:=[⟨some 3,.m (.box (.t 1)),none,0⟩,cS 4 (.br (.c (.bool false))) 0]
def Fe:List Step:=[.small 0 (cF 5 0 3 0),.small 1 (cL 6 5 1),.small 2 (cM 7 0 0),.small 3 (cN 8 7 4),.small 4 (cF 9 0 8 12),.small 5 (cF 10 0 9 28),.small 6 (cL 11 10 60),.small 7 (cS 12 (.bin .leq .no (.t 6) (.t 11)) 127),.small 8 (cM 13 12 255),.small 9 (cG 14 (.fieldAddr 1 (.t 3)) 13 true 511),.small 10 (cG 15 (.load none (.t 14)) 13 true 1023),.small 11 (jV 16 0 13 true 511),.small 12 (cG 17 (.nilCheck (.t 16)) 13 true 2559),.small 13 (cG 18 (.fieldAddr 0 (.t 17)) 13 true 6655),.small 14 (cG 19 (.fieldAddr 1 (.t 18)) 13 true 14847),.small 15 (cG 20 (.load none (.t 19)) 13 true 31231),.small 16 (cG 21 (.bin .leq .no (.t 15) (.t 20)) 13 true 65535),.small 17 (cQ 22 13 21 131071),.small 18 (cM 23 22 262143),.small 19 (cG 24 (.fieldAddr 2 (.t 3)) 23 true 524287),.small 20 (cG 25 (.load none (.t 24)) 23 true 1048575),.small 21 (jV 26 0 23 true 524287),.small 22 (cG 27 (.nilCheck (.t 26)) 23 true 2621439),.small 23 (cG 28 (.fieldAddr 0 (.t 27)) 23 true 6815743),.small 24 (cG 29 (.fieldAddr 2 (.t 28)) 23 true 15204351),.small 25 (cG 30 (.load none (.t 29)) 23 true 31981567),.small 26 (cG 31 (.bin .leq .no (.t 25) (.t 30)) 23 true 67108863),.small 27 (cQ 32 23 31 134217727),.small 28 (cM 4 32 268435455)]
def Sk:Lc:=qS Fe
def Xt:=fq Sk Fe (by kernel_rfl)
def xq:aj:=(.seq (.region Sj) (.seq (.draw Sk) .ret))
def v143:az:=⟨33,[.t 4],true,xq,fe,fe⟩
@[simp] theorem qif:v143.body=xq∧v143.results=[.t 4]∧v143.own=true:=⟨rfl,rfl,rfl⟩
def BC:Lc:=[⟨some 3,.m (.box (.t 1)),none,0⟩,cS 4 (.br (.c (.ag [] 1 0 3))) 0,cS 5 (.br (.c (.int .i64 0))) 2]
def BD:Lc:=[cM 6 0 0,cC 7 193 [.t 6] 1,cS 8 (.un .not (.t 7)) 3,cM 9 8 7,cG 10 (.load (some 3) (.t 3)) 9 false 15,⟨some 11,.m (.buildSlice 3 1 [.int .u64 0,.bool false,.ag [] 0 0 1] [(0,3,.t 10)]),some (9,false),31⟩,O1 12 193 [.t 11] 9 false 63,cG 13 (.un .not (.t 12)) 9 false 127,cP 14 9 13 255]
def Km:Lc:=[cS 4 (.br (.c (.ag [] 1 0 3))) 0,cS 5 (.br (.c (.int .i64 1))) 1]
def zG:List Step:=[.small 0 (cF 15 0 3 0),.small 1 (cL 16 15 1),.small 2 (cM 17 0 0),.aZ 3 (cC 18 189 [.t 17] 4),.small 4 (cS 19 (.bin .leq .no (.t 16) (.t 18)) 15)]
def Sm:Lc:=qS zG
def Mt:=fq Sm zG (by kernel_rfl)
def Sn:Lc:=[cS 4 (.br (.c (.ag [] 1 0 3))) 0,cS 5 (.br (.c (.int .i64 70))) 1]
def Sp:Lc:=[cF 20 2 3 0,cL 21 20 1,cC 22 194 [.t 21] 3,cF 23 2 3 7,cH (.store 1 (.t 23) (.t 22)) 15]
def Sq:Lc:=[cM 24 0 0,cC 25 188 [.t 24] 1,cS 26 (.load (some 3) (.t 3)) 0,⟨some 27,.m (.buildSlice 3 1 [.int .u64 0,.bool false,.ag [] 0 0 1] [(0,3,.t 26)]),none,4⟩,⟨some 28,.h (.append 3 40 false (.t 25) (.t 27)),none,15⟩,cM 4 28 31,cS 5 (.br (.c (.int .i64 0))) 63]
def Mu:List Step:=[.small 0 (cM 24 0 0),.small 2 (cS 26 (.load (some 3) (.t 3)) 0),.small 3 ⟨some 27,.m (.buildSlice 3 1 [.int .u64 0,.bool false,.ag [] 0 0 1] [(0,3,.t 26)]),none,4⟩,.aZ 1 (cC 25 188 [.t 24] 1),.aZ 4 ⟨some 28,.h (.append 3 40 false (.t 25) (.t 27)),none,15⟩,.small 5 (cM 4 28 31),.small 6 (cS 5 (.br (.c (.int .i64 0))) 63)]
def Xu:=fq Sq Mu (by kernel_rfl)
def mA:aj:=(.seq (.region BC) (.seq (.seq (.region BD) (.cond (.t 14) (.seq (.region Km) .ret) .skip)) (.seq (.seq (.draw Sm) (.cond (.t 19) (.seq (.region Sn) .ret) .skip)) (.seq (.region Sp) (.seq (.draw Sq) .ret)))))
def Sl:az:=⟨29,[.t 4,.t 5],true,mA,fe,fe⟩
@[simp] theorem qig:Sl.body=mA∧Sl.results=[.t 4,.t 5]∧Sl.own=true:=⟨rfl,rfl,rfl⟩
def Sr:Lc:=[⟨some 3,.m (.box (.t 0)),none,0⟩,⟨some 4,.m (.box (.t 1)),none,0⟩,⟨some 6,.m (.alloc [.int .u64 0,.int .u64 0,.int .u64 0,.int .u64 0,.ag [] 0 0 2,.ag [] 0 0 2]),none,0⟩]
def Su:Lc:=[cF 7 0 3 0,cL 8 7 1,cF 9 0 4 0,cL 10 9 4,cS 11 (.min [.t 8,.t 10]) 15,cF 12 1 3 0,cL 13 12 32,cF 14 1 4 0,cL 15 14 128,cS 16 (.max [.t 13,.t 15]) 480,cF 17 2 3 0,cL 18 17 1024,cF 19 2 4 0,cL 20 19 4096,cS 21 (.max [.t 18,.t 20]) 15360,cF 22 3 3 0,cL 23 22 32768,cF 24 3 4 0,cL 25 24 131072,cC 26 197 [.t 23,.t 25] 491520,cF 27 4 3 0,cL 28 27 1048576,cF 29 4 4 0,cL 30 29 4194304,cC 31 139 [.t 28,.t 30] 16744448,cM 32 2 0,cC 33 101 [.t 31,.t 32] 67076096,cF 34 5 3 0,cL 35 34 134217728,cF 36 5 4 0,cL 37 36 536870912,cC 38 139 [.t 35,.t 37] 2147450880,cM 39 2 0,cC 40 101 [.t 38,.t 39] 8589901824,cS 41 (.build [.int .u64 0,.int .u64 0,.int .u64 0,.int .u64 0,.ag [] 0 0 2,.ag [] 0 0 2] [(0,1,.t 11),(1,1,.t 16),(2,1,.t 21),(3,1,.t 26),(4,1,.t 33),(5,1,.t 40)]) 17179869183,cH (.store 6 (.t 6) (.t 41)) 34359738367]
def Mv:List Step:=[.small 0 (cF 7 0 3 0),.small 1 (cL 8 7 1),.small 2 (cF 9 0 4 0),.small 3 (cL 10 9 4),.small 4 (cS 11 (.min [.t 8,.t 10]) 15),.small 5 (cF 12 1 3 0),.small 6 (cL 13 12 32),.small 7 (cF 14 1 4 0),.small 8 (cL 15 14 128),.small 9 (cS 16 (.max [.t 13,.t 15]) 480),.small 10 (cF 17 2 3 0),.small 11 (cL 18 17 1024),.small 12 (cF 19 2 4 0),.small 13 (cL 20 19 4096),.small 14 (cS 21 (.max [.t 18,.t 20]) 15360),.small 15 (cF 22 3 3 0),.small 16 (cL 23 22 32768),.small 17 (cF 24 3 4 0),.small 18 (cL 25 24 131072),.small 20 (cF 27 4 3 0),.small 21 (cL 28 27 1048576),.small 22 (cF 29 4 4 0),.small 23 (cL 30 29 4194304),.small 25 (cM 32 2 0),.small 27 (cF 34 5 3 0),.small 28 (cL 35 34 134217728),.small 29 (cF 36 5 4 0),.small 30 (cL 37 36 536870912),.small 32 (cM 39 2 0),.aZ 19 (cC 26 197 [.t 23,.t 25] 491520),.aZ 24 (cC 31 139 [.t 28,.t 30] 16744448),.aZ 26 (cC 33 101 [.t 31,.t 32] 67076096),.aZ 31 (cC 38 139 [.t 35,.t 37] 2147450880),.aZ 33 (cC 40 101 [.t 38,.t 39] 8589901824),.small 34 (cS 41 (.build [.int .u64 0,.int .u64 0,.int .u64 0,.int .u64 0,.ag [] 0 0 2,.ag [] 0 0 2] [(0,1,.t 11),(1,1,.t 16),(2,1,.t 21),(3,1,.t 26),(4,1,.t 33),(5,1,.t 40)]) 17179869183),.aZ 35 (cH (.store 6 (.t 6) (.t 41)) 34359738367)]
def Xv:=fq Su Mv (by kernel_rfl)
def xu:aj:=(.seq (.region Sr) (.seq (.draw Su) .ret))
def v146:az:=⟨42,[.cell 6 (some 6)],true,xu,fe,fe⟩
@[simp] theorem qih:v146.body=xu∧v146.results=[.cell 6 (some 6)]∧v146.own=true:=⟨rfl,rfl,rfl⟩
def Sv:Lc:=[cS 4 (.br (.c (.int .i64 0))) 0]
def Sw:Lc:=[cM 8 0 0,cS 5 (.br (.c (.int .i64 0))) 0,cM 6 8 3]
def Ff:Lc:=[cM 9 5 0,cM 10 6 0,cS 11 (.bin .lss .no (.t 9) (.t 10)) 3]
def Kn:Lc:=[cM 12 5 0,cM 13 6 0,cS 14 (.bin .add .no (.t 12) (.t 13)) 3,cS 15 (.ep .u64 (.t 14)) 7,cS 16 (.bin .shr .no (.t 15) (.c (.int .u64 1))) 15,cS 17 (.ep .i64 (.t 16)) 31,cM 7 17 63]
def Ko:Lc:=[cM 18 1 0,cM 19 7 0,⟨some 20,.call (.t 18) [.t 19],none,3⟩,cS 21 (.un .not (.t 20)) 7]
def Sx:Lc:=[cM 22 7 0,cS 23 (.bin .add .no (.t 22) (.c (.int .i64 1))) 1,cM 5 23 3]
def Sy:Lc:=[cM 24 7 0,cM 6 24 1]
def Fg:aj:=(.seq (.seq (.region Ff) (.cond (.t 11) .skip (.exit 0))) (.block 1 (.seq (.region Kn) (.seq (.region Ko) (.cond (.t 21) (.region Sx) (.region Sy))))))
def Kp:Lc:=[cM 25 5 0,cM 4 25 1]
def xw:aj:=(.seq (.region Sv) (.seq (.region Sw) (.seq (.block 0 (.loop Fg)) (.seq (.region Kp) .ret))))
def BE:az:=⟨26,[.t 4],true,xw,fun i=>match i with|0=>[1,6,5]|_=>[],fun i=>match i with|0=>[5]|1=>[1,6,5]|_=>[]⟩
@[simp] theorem qii:BE.body=xw∧BE.results=[.t 4]∧BE.own=true∧BE.head 0=[1,6,5]∧BE.tail 0=[5]∧BE.tail 1=[1,6,5]:=⟨rfl,rfl,rfl,rfl,rfl,rfl⟩
def SA:Lc:=[cS 4 (.br (.c (.bool false))) 0]
def Fh:List Step:=[.small 0 (cL 5 1 0),.small 1 (cM 6 0 0),.small 2 (cS 7 (.indexAddr 1 (.t 5) (.t 6)) 3),.small 3 (cL 8 7 7),.small 4 (cL 9 2 0),.small 5 (cS 10 (.bin .geq .no (.t 8) (.t 9)) 31),.small 6 (cM 4 10 63)]
def SB:Lc:=qS Fh
def Xw:=fq SB Fh (by kernel_rfl)
def xy:aj:=(.seq (.region SA) (.seq (.draw SB) .ret))
def v148:az:=⟨11,[.t 4],true,xy,fe,fe⟩
@[simp] theorem qij:v148.body=xy∧v148.results=[.t 4]∧v148.own=true:=⟨rfl,rfl,rfl⟩
def SD:Lc:=[cS 4 (.br (.c (.bool false))) 0]
def SE:Lc:=[cM 5 0 0,cM 6 1 0,cC 7 198 [.t 5,.t 6] 3,cS 8 (.bin .geq .no (.t 7) (.c (.int .i64 0))) 7,cM 4 8 15]
def xz:aj:=(.seq (.region SD) (.seq (.region SE) .ret))
def SC:az:=⟨9,[.t 4],true,xz,fe,fe⟩
@[simp] theorem qik:SC.body=xz∧SC.results=[.t 4]∧SC.own=true:=⟨rfl,rfl,rfl⟩
def SG:Lc:=[⟨some 2,.m (.box (.t 0)),none,0⟩,cS 3 (.br (.c (.bool false))) 0]
def SH:Lc:=[cL 4 1 0,cS 5 (.ji 151 [] [.t 2]) 0,cC 6 149 [.t 4,.t 5] 3,cM 3 6 7]
def xA:aj:=(.seq (.region SG) (.seq (.region SH) .ret))
def SF:az:=⟨7,[.t 3],true,xA,fe,fe⟩
@[simp] theorem qil:SF.body=xA∧SF.results=[.t 3]∧SF.own=true:=⟨rfl,rfl,rfl⟩
def SJ:Lc:=[⟨some 2,.m (.box (.t 0)),none,0⟩,cS 3 (.br (.c (.bool false))) 0]
def SK:Lc:=[cS 4 (.load (some 2) (.t 1)) 0,cS 5 (.load (some 2) (.t 2)) 0,cC 6 152 [.t 4,.t 5] 3,cM 3 6 7]
def xB:aj:=(.seq (.region SJ) (.seq (.region SK) .ret))
def SI:az:=⟨7,[.t 3],true,xB,fe,fe⟩
@[simp] theorem qim:SI.body=xB∧SI.results=[.t 3]∧SI.own=true:=⟨rfl,rfl,rfl⟩
def SL:Lc:=[⟨some 2,.m (.box (.t 0)),none,0⟩,⟨some 3,.m (.box (.t 1)),none,0⟩,cS 4 (.br (.c (.bool false))) 0]
def SM:Lc:=[cS 5 (.load (some 2) (.t 2)) 0,cC 6 78 [.t 5] 1,cM 7 6 3,cG 8 (.load (some 2) (.t 3)) 7 true 7,O1 9 78 [.t 8] 7 true 15,cQ 10 7 9 31,cM 11 10 63,cG 12 (.load (some 2) (.t 2)) 11 true 127,cG 13 (.fieldAddr 0 (.t 3)) 11 true 127,cG 14 (.load none (.t 13)) 11 true 383,O1 15 199 [.t 12,.t 14] 11 true 1023,cG 16 (.un .not (.t 15)) 11 true 2047,cQ 17 11 16 4095,cM 18 17 8191,cG 19 (.load (some 2) (.t 3)) 18 true 16383,cG 20 (.fieldAddr 0 (.t 2)) 18 true 16383,cG 21 (.load none (.t 20)) 18 true 49151,O1 22 199 [.t 19,.t 21] 18 true 131071,cG 23 (.un .not (.t 22)) 18 true 262143,cQ 24 18 23 524287,cM 4 24 1048575]
def xC:aj:=(.seq (.region SL) (.seq (.region SM) .ret))
def v152:az:=⟨25,[.t 4],true,xC,fe,fe⟩
@[simp] theorem qin:v152.body=xC∧v152.results=[.t 4]∧v152.own=true:=⟨rfl,rfl,rfl⟩
def Kq:Lc:=[⟨some 4,.m (.alloc [.int .u64 0,.bool false,.ag [] 0 0 1]),none,0⟩,cS 5 (.br (.c (.bool false))) 0]
def Kr:Lc:=[cM 8 0 0,cM 9 1 0,cC 10 187 [.t 8,.t 9] 3,cM 6 10 7]
def Ks:Lc:=[cM 11 6 0,cS 12 (.bin .eql .int (.t 11) (.c (.int .i64 0))) 1]
def SN:Lc:=[cS 13 (.build [.int .u64 0,.bool false,.ag [] 0 0 1] []) 0,cH (.store 3 (.t 4) (.t 13)) 1,cS 5 (.br (.c (.bool false))) 3]
def SO:Lc:=[cM 14 0 0,cM 15 6 0,cS 16 (.bin .sub .no (.t 15) (.c (.int .i64 1))) 2,cS 17 (.indexAddr 3 (.t 14) (.t 16)) 7,cS 18 (.load (some 3) (.t 17)) 15,⟨some 7,.m (.alloc [.int .u64 0,.bool false,.ag [] 0 0 1]),none,0⟩,cH (.store 3 (.t 7) (.t 18)) 63]
def SP:Lc:=[cF 19 2 7 0,cL 20 19 1,cC 21 194 [.t 20] 3,cF 22 2 7 7,cH (.store 1 (.t 22) (.t 21)) 15]
def SQ:Lc:=[cS 23 (.load (some 3) (.t 7)) 0,cH (.store 3 (.t 4) (.t 23)) 1,cS 5 (.br (.c (.bool true))) 3]
def sB:aj:=(.seq (.region Kq) (.seq (.region Kr) (.seq (.seq (.region Ks) (.cond (.t 12) (.seq (.region SN) .ret) .skip)) (.seq (.region SO) (.seq (.region SP) (.seq (.region SQ) .ret))))))
def v164:az:=⟨24,[.cell 4 (some 3),.t 5],true,sB,fe,fe⟩
@[simp] theorem qio:v164.body=sB∧v164.results=[.cell 4 (some 3),.t 5]∧v164.own=true:=⟨rfl,rfl,rfl⟩
def S5:Lc:=[⟨some 3,.m (.box (.t 1)),none,0⟩,cS 4 (.br (.c (.int .i64 0))) 0]
def S6:Lc:=[cM 5 0 0,cS 6 (.ji 222 [] [.t 3]) 0,cC 7 221 [.t 5,.t 6] 3,cM 4 7 7]
def xE:aj:=(.seq (.region S5) (.seq (.region S6) .ret))
def S4:az:=⟨8,[.t 4],true,xE,fe,fe⟩
@[simp] theorem qip:S4.body=xE∧S4.results=[.t 4]∧S4.own=true:=⟨rfl,rfl,rfl⟩
def S7:Lc:=[cS 2 (.br (.c (.ag [] 1 0 3))) 0]
def S8:Lc:=[cM 6 0 0,cS 7 (.len 1 (.t 6)) 1,cS 8 (.bin .add .no (.t 7) (.c (.int .i64 1))) 3,⟨some 9,.m (.makeSlice 3 40 [.int .u64 0,.bool false,.ag [] 0 0 1] (.c (.int .i64 0)) (.t 8)),none,7⟩,cM 3 9 15]
def S9:Lc:=[cM 10 0 0,cS 11 (.len 1 (.t 10)) 1,cS 12 (.br (.c (.int .i64 0))) 0]
def Ku:Lc:=[cS 13 (.bin .lss .no (.t 12) (.t 11)) 0]
def Ta:Lc:=[cS 14 (.indexAddr 3 (.t 10) (.t 12)) 0,cS 15 (.load (some 3) (.t 14)) 1,⟨some 5,.m (.alloc [.int .u64 0,.bool false,.ag [] 0 0 1]),none,0⟩,cH (.store 3 (.t 5) (.t 15)) 7]
def Tb:Lc:=[cF 16 2 5 0,cL 17 16 1,cC 18 194 [.t 17] 3,cF 19 2 5 7,cH (.store 1 (.t 19) (.t 18)) 15]
def Tc:Lc:=[cM 20 3 0,cS 21 (.load (some 3) (.t 5)) 0,⟨some 22,.m (.buildSlice 3 1 [.int .u64 0,.bool false,.ag [] 0 0 1] [(0,3,.t 21)]),none,2⟩,⟨some 23,.h (.append 3 40 false (.t 20) (.t 22)),none,7⟩,cM 3 23 15]
def Td:Lc:=[cS 24 (.bin .add .no (.t 12) (.c (.int .i64 1))) 0,cM 12 24 1]
def zH:aj:=(.seq (.region Ku) (.seq (.cond (.t 13) .skip (.exit 0)) (.seq (.block 1 (.seq (.region Ta) (.seq (.region Tb) (.region Tc)))) (.region Td))))
def Kv:Lc:=[cM 25 3 0,cM 2 25 1]
def xF:aj:=(.seq (.region S7) (.seq (.region S8) (.seq (.seq (.region S9) (.block 0 (.loop zH))) (.seq (.region Kv) .ret))))
def BK:az:=⟨26,[.t 2],true,xF,fun i=>match i with|0=>[12,3,10,11]|_=>[],fun i=>match i with|0=>[3]|1=>[3,10,11,12]|_=>[]⟩
@[simp] theorem qiq:BK.body=xF∧BK.results=[.t 2]∧BK.own=true∧BK.head 0=[12,3,10,11]∧BK.tail 0=[3]∧BK.tail 1=[3,10,11,12]:=⟨rfl,rfl,rfl,rfl,rfl,rfl⟩
def Kw:Lc:=[cS 2 (.br (.c (.int .u64 0))) 0]
def Kx:Lc:=[cM 3 0 0,cS 4 (.len 1 (.t 3)) 1,cS 5 (.bin .eql .int (.t 4) (.c (.int .i64 0))) 3]
def Tf:Lc:=[cS 2 (.br (.c (.int .u64 0))) 0]
def Th:Lc:=[cM 6 0 0,cM 7 0 0,cS 8 (.len 1 (.t 7)) 2,cS 9 (.bin .sub .no (.t 8) (.c (.int .i64 1))) 6,cS 10 (.indexAddr 3 (.t 6) (.t 9)) 15,cF 11 0 10 31,cL 12 11 63,cM 2 12 127]
def sC:aj:=(.seq (.region Kw) (.seq (.seq (.region Kx) (.cond (.t 5) (.seq (.region Tf) .ret) .skip)) (.seq (.region Th) .ret)))
def Te:az:=⟨13,[.t 2],true,sC,fe,fe⟩
@[simp] theorem qir:Te.body=sC∧Te.results=[.t 2]∧Te.own=true:=⟨rfl,rfl,rfl⟩
def Tk:Lc:=[cM 5 0 0,cS 6 (.len 1 (.t 5)) 1,cS 7 (.br (.c (.int .i64 0))) 0]
def Fk:Lc:=[cS 8 (.bin .lss .no (.t 7) (.t 6)) 0]
def Kz:Lc:=[cS 9 (.indexAddr 2 (.t 5) (.t 7)) 0,cS 10 (.load (some 2) (.t 9)) 1,⟨some 4,.m (.alloc [.str [],.str []]),none,0⟩,cH (.store 2 (.t 4) (.t 10)) 7]
def KA:Lc:=[cS 11 (.load (some 2) (.t 4)) 0,cC 12 78 [.t 11] 1]
def Tl:Lc:=[cL 13 1 0,cS 14 (.load (some 2) (.t 4)) 0,⟨some 15,.m (.buildSlice 2 1 [.str [],.str []] [(0,2,.t 14)]),none,2⟩,⟨some 16,.h (.append 2 32 false (.t 13) (.t 15)),none,7⟩,cH (.store 1 (.t 1) (.t 16)) 15]
def KB:Lc:=[cS 17 (.bin .add .no (.t 7) (.c (.int .i64 1))) 0,cM 7 17 1]
def zI:aj:=(.seq (.region Fk) (.seq (.cond (.t 8) .skip (.exit 0)) (.seq (.block 1 (.seq (.region Kz) (.seq (.region KA) (.cond (.t 12) (.region Tl) .skip)))) (.region KB))))
def xG:aj:=(.seq (.region Tk) (.block 0 (.loop zI)))
def CU:az:=⟨18,[],true,xG,fun i=>match i with|0=>[7,1,5,6]|_=>[],fun i=>match i with|0=>[]|1=>[1,5,6,7]|_=>[]⟩
@[simp] theorem qis:CU.body=xG∧CU.results=[]∧CU.own=true∧CU.head 0=[7,1,5,6]∧CU.tail 0=[]∧CU.tail 1=[1,5,6,7]:=⟨rfl,rfl,rfl,rfl,rfl,rfl⟩
def Tn:Lc:=[cM 4 0 0,cM 5 0 0,cS 6 (.len 1 (.t 5)) 2,cM 7 1 0,cC 8 223 [.t 4,.t 6,.t 7] 15]
def xH:aj:=(.region Tn)
def Tm:az:=⟨9,[],true,xH,fun _=>[0],fun _=>[0]⟩
@[simp] theorem qit:Tm.body=xH∧Tm.results=[]∧Tm.own=true:=⟨rfl,rfl,rfl⟩
def Tp:Lc:=[⟨some 2,.m (.box (.t 0)),none,0⟩,⟨some 3,.m (.box (.t 1)),none,0⟩,cS 4 (.br (.c (.int .i64 0))) 0]
def Tq:Lc:=[cF 5 0 2 0,cL 6 5 1,cF 7 0 3 0,cL 8 7 4,cC 9 83 [.t 6,.t 8] 15,cM 4 9 31]
def xI:aj:=(.seq (.region Tp) (.seq (.region Tq) .ret))
def To:az:=⟨10,[.t 4],true,xI,fe,fe⟩
@[simp] theorem qiu:To.body=xI∧To.results=[.t 4]∧To.own=true:=⟨rfl,rfl,rfl⟩
def Tr:Lc:=[cS 2 (.br (.c (.bool false))) 0]
def Ts:Lc:=[cS 3 (.br (.c (.int .u64 0))) 0]
def Tt:Lc:=[cM 6 0 0,cS 7 (.len 1 (.t 6)) 1,cS 8 (.br (.c (.int .i64 0))) 0]
def xJ:Lc:=[cS 9 (.bin .lss .no (.t 8) (.t 7)) 0]
def BL:Lc:=[cS 10 (.indexAddr 3 (.t 6) (.t 8)) 0,cS 11 (.load (some 3) (.t 10)) 1,⟨some 5,.m (.alloc [.int .u64 0,.bool false,.ag [] 0 0 1]),none,0⟩,cH (.store 3 (.t 5) (.t 11)) 7]
def BM:Lc:=[cF 12 0 5 0,cL 13 12 1,cM 14 3 0,cS 15 (.bin .leq .no (.t 13) (.t 14)) 7,cM 16 15 15,cG 17 (.fieldAddr 1 (.t 5)) 16 false 31,cG 18 (.load none (.t 17)) 16 false 63,jV 19 18 16 false 127,cG 20 (.fieldAddr 2 (.t 5)) 19 true 255,cG 21 (.load none (.t 20)) 19 true 511,cG 22 (.len 1 (.t 21)) 19 true 1023,cG 23 (.bin .gtr .no (.t 22) (.c (.int .i64 0))) 19 true 2047,cG 24 (.pick (.t 19) (.t 23) (.c (.bool false))) 16 false 4095,cP 25 16 24 8191]
def KC:Lc:=[cS 2 (.br (.c (.bool false))) 0]
def KD:Lc:=[cF 26 0 5 0,cL 27 26 1,cM 3 27 3]
def KE:Lc:=[cS 28 (.bin .add .no (.t 8) (.c (.int .i64 1))) 0,cM 8 28 1]
def zJ:aj:=(.seq (.region xJ) (.seq (.cond (.t 9) .skip (.exit 0)) (.seq (.block 1 (.seq (.region BL) (.seq (.seq (.region BM) (.cond (.t 25) (.seq (.region KC) .ret) .skip)) (.region KD)))) (.region KE))))
def Fm:Lc:=[cS 2 (.br (.c (.bool true))) 0]
def xK:aj:=(.seq (.region Tr) (.seq (.region Ts) (.seq (.seq (.region Tt) (.block 0 (.loop zJ))) (.seq (.region Fm) .ret))))
def v193:az:=⟨29,[.t 2],true,xK,fun i=>match i with|0=>[8,3,6,7]|_=>[],fun i=>match i with|0=>[]|1=>[3,6,7,8]|_=>[]⟩
@[simp] theorem qiv:v193.body=xK∧v193.results=[.t 2]∧v193.own=true∧v193.head 0=[8,3,6,7]∧v193.tail 0=[]∧v193.tail 1=[3,6,7,8]:=⟨rfl,rfl,rfl,rfl,rfl,rfl⟩
def Tu:Lc:=[cS 4 (.br (.c (.int .u64 0))) 0]
def Tv:Lc:=[cM 6 0 0,cS 7 (.bin .eql .int (.t 6) (.c (.int .u64 0))) 1,cM 5 7 3]
def Tw:Lc:=[cM 8 1 0,cM 4 8 1]
def Ty:Lc:=[cM 10 1 0,cS 11 (.bin .eql .int (.t 10) (.c (.int .u64 0))) 1,cM 12 11 3,jV 13 0 12 false 7,jV 14 1 12 false 7,cG 15 (.bin .lss .no (.t 13) (.t 14)) 12 false 31,cP 16 12 15 63,cM 9 16 127]
def Tz:Lc:=[cM 17 0 0,cM 4 17 1]
def TA:Lc:=[cM 18 1 0,cM 4 18 1]
def xL:aj:=(.seq (.region Tu) (.seq (.block 0 (.seq (.region Tv) (.cond (.t 5) (.seq (.region Tw) .ret) (.seq (.region Ty) (.cond (.t 9) (.seq (.region Tz) .ret) .skip))))) (.seq (.region TA) .ret)))
def On:az:=⟨19,[.t 4],true,xL,fe,fun i=>match i with|0=>[1]|_=>[]⟩
@[simp] theorem qiw:On.body=xL∧On.results=[.t 4]∧On.own=true∧On.tail 0=[1]:=⟨rfl,rfl,rfl,rfl⟩
def TB:Lc:=[cS 4 (.br (.c (.int .i64 0))) 0]
def TC:Lc:=[cM 6 0 0,cS 7 (.len 1 (.t 6)) 1,cS 8 (.br (.c (.int .i64 0))) 0]
def Fo:Lc:=[cS 9 (.bin .lss .no (.t 8) (.t 7)) 0]
def KF:Lc:=[cM 10 8 0,cM 5 10 1]
def KG:Lc:=[cM 11 1 0,cM 12 0 0,cM 13 5 0,cS 14 (.indexAddr 2 (.t 12) (.t 13)) 6,cS 15 (.load (some 2) (.t 14)) 14,⟨some 16,.call (.t 11) [.t 15],none,31⟩]
def TD:Lc:=[cM 17 5 0,cM 4 17 1]
def TE:Lc:=[cS 18 (.bin .add .no (.t 8) (.c (.int .i64 1))) 0,cM 8 18 1]
def u7:aj:=(.seq (.region Fo) (.seq (.cond (.t 9) .skip (.exit 0)) (.seq (.block 1 (.seq (.region KF) (.seq (.region KG) (.cond (.t 16) (.seq (.region TD) .ret) .skip)))) (.region TE))))
def KH:Lc:=[cS 4 (.br (.c (.int .i64 (-1)))) 0]
def xM:aj:=(.seq (.region TB) (.seq (.seq (.region TC) (.block 0 (.loop u7))) (.seq (.region KH) .ret)))
def v198:az:=⟨19,[.t 4],true,xM,fun i=>match i with|0=>[8,0,1,7]|_=>[],fun i=>match i with|0=>[]|1=>[0,1,7,8]|_=>[]⟩
@[simp] theorem qix:v198.body=xM∧v198.results=[.t 4]∧v198.own=true∧v198.head 0=[8,0,1,7]∧v198.tail 0=[]∧v198.tail 1=[0,1,7,8]:=⟨rfl,rfl,rfl,rfl,rfl,rfl⟩
def TG:Lc:=[⟨some 2,.m (.box (.t 0)),none,0⟩,cS 4 (.br (.c (.bool false))) 0]
def TH:Lc:=[cF 5 1 2 0,cL 6 5 1,cS 7 (.bin .neq .str (.t 6) (.c (.str []))) 3,cM 8 7 7,cG 9 (.fieldAddr 1 (.t 2)) 8 true 15,cG 10 (.load none (.t 9)) 8 true 31,jV 11 1 8 true 15,cG 12 (.bin .leq .no (.t 10) (.t 11)) 8 true 127,cQ 13 8 12 255,cM 4 13 511]
def xN:aj:=(.seq (.region TG) (.seq (.region TH) .ret))
def TF:az:=⟨14,[.t 4],true,xN,fe,fe⟩
@[simp] theorem qiy:TF.body=xN∧TF.results=[.t 4]∧TF.own=true:=⟨rfl,rfl,rfl⟩
def TT:Lc:=[cS 4 (.br (.c (.int .i64 0))) 0]
def TU:Lc:=[cM 8 0 0,cS 9 (.len 1 (.t 8)) 1,cS 5 (.br (.c (.int .i64 0))) 0,cM 6 9 7]
def Fu:Lc:=[cM 10 5 0,cM 11 6 0,cS 12 (.bin .lss .no (.t 10) (.t 11)) 3]
def KJ:Lc:=[cM 13 5 0,cM 14 6 0,cM 15 5 0,cS 16 (.bin .sub .no (.t 14) (.t 15)) 6,cS 17 (.bin .quo .no (.t 16) (.c (.int .i64 2))) 14,cS 18 (.bin .add .no (.t 13) (.t 17)) 31,cM 7 18 63]
def KK:Lc:=[cM 19 1 0,cM 20 0 0,cM 21 7 0,cS 22 (.indexAddr 3 (.t 20) (.t 21)) 6,cS 23 (.load (some 3) (.t 22)) 14,⟨some 24,.call (.t 19) [.t 23],none,31⟩]
def TV:Lc:=[cM 25 7 0,cS 26 (.bin .add .no (.t 25) (.c (.int .i64 1))) 1,cM 5 26 3]
def TW:Lc:=[cM 27 7 0,cM 6 27 1]
def Fv:aj:=(.seq (.seq (.region Fu) (.cond (.t 12) .skip (.exit 0))) (.block 1 (.seq (.region KJ) (.seq (.region KK) (.cond (.t 24) (.region TV) (.region TW))))))
def KL:Lc:=[cM 28 5 0,cM 4 28 1]
def xR:aj:=(.seq (.region TT) (.seq (.region TU) (.seq (.block 0 (.loop Fv)) (.seq (.region KL) .ret))))
def BR:az:=⟨29,[.t 4],true,xR,fun i=>match i with|0=>[0,1,5,6]|_=>[],fun i=>match i with|0=>[5]|1=>[0,1,5,6]|_=>[]⟩
@[simp] theorem qiz:BR.body=xR∧BR.results=[.t 4]∧BR.own=true∧BR.head 0=[0,1,5,6]∧BR.tail 0=[5]∧BR.tail 1=[0,1,5,6]:=⟨rfl,rfl,rfl,rfl,rfl,rfl⟩
def TX:Lc:=[⟨some 2,.m (.box (.t 0)),none,0⟩,cS 3 (.br (.c (.bool false))) 0]
def TY:Lc:=[cF 4 0 2 0,cL 5 4 1,cL 6 1 0,cS 7 (.bin .leq .no (.t 5) (.t 6)) 7,cM 3 7 15]
def xS:aj:=(.seq (.region TX) (.seq (.region TY) .ret))
def v222:az:=⟨8,[.t 3],true,xS,fe,fe⟩
@[simp] theorem qiA:v222.body=xS∧v222.results=[.t 3]∧v222.own=true:=⟨rfl,rfl,rfl⟩
def KM:Lc:=[cS 6 (.br (.c (.int .i64 20))) 0]
def KN:Lc:=[cM 10 6 0,cS 7 (.br (.c (.int .i64 0))) 0,cM 8 10 3]
def BS:Lc:=[cM 11 8 0,cM 12 1 0,cS 13 (.bin .leq .no (.t 11) (.t 12)) 3]
def TZ:Lc:=[cM 14 0 0,cM 15 7 0,cM 16 8 0,cM 17 2 0,cC 18 233 [.t 14,.t 15,.t 16,.t 17] 15]
def T0:Lc:=[cM 19 8 0,cM 7 19 1]
def T3:Lc:=[cM 20 8 0,cM 21 6 0,cS 22 (.bin .add .no (.t 20) (.t 21)) 3,cM 8 22 7]
def vg:aj:=(.seq (.seq (.region BS) (.cond (.t 13) .skip (.exit 0))) (.block 1 (.seq (.region TZ) (.seq (.region T0) (.region T3)))))
def KO:Lc:=[cM 23 0 0,cM 24 7 0,cM 25 1 0,cM 26 2 0,cC 27 233 [.t 23,.t 24,.t 25,.t 26] 15]
def BT:Lc:=[cM 28 6 0,cM 29 1 0,cS 30 (.bin .lss .no (.t 28) (.t 29)) 3]
def T4:Lc:=[cM 31 6 0,cS 32 (.bin .mul .no (.c (.int .i64 2)) (.t 31)) 1,cS 7 (.br (.c (.int .i64 0))) 0,cM 8 32 7]
def zK:Lc:=[cM 33 8 0,cM 34 1 0,cS 35 (.bin .leq .no (.t 33) (.t 34)) 3]
def MA:Lc:=[cM 36 0 0,cM 37 7 0,cM 38 7 0,cM 39 6 0,cS 40 (.bin .add .no (.t 38) (.t 39)) 12,cM 41 8 0,cM 42 2 0,cC 43 234 [.t 36,.t 37,.t 40,.t 41,.t 42] 127]
def MB:Lc:=[cM 44 8 0,cM 7 44 1]
def MC:Lc:=[cM 45 8 0,cM 46 6 0,cS 47 (.bin .mul .no (.c (.int .i64 2)) (.t 46)) 2,cS 48 (.bin .add .no (.t 45) (.t 47)) 7,cM 8 48 15]
def ve:aj:=(.seq (.seq (.region zK) (.cond (.t 35) .skip (.exit 4))) (.block 5 (.seq (.region MA) (.seq (.region MB) (.region MC)))))
def Fw:Lc:=[cM 49 7 0,cM 50 6 0,cS 51 (.bin .add .no (.t 49) (.t 50)) 3,cM 9 51 7]
def Fx:Lc:=[cM 52 9 0,cM 53 1 0,cS 54 (.bin .lss .no (.t 52) (.t 53)) 3]
def Fy:Lc:=[cM 55 0 0,cM 56 7 0,cM 57 9 0,cM 58 1 0,cM 59 2 0,cC 60 234 [.t 55,.t 56,.t 57,.t 58,.t 59] 31]
def Fz:Lc:=[cM 61 6 0,cS 62 (.bin .mul .no (.t 61) (.c (.int .i64 2))) 1,cM 6 62 3]
def q9:aj:=(.seq (.seq (.region BT) (.cond (.t 30) .skip (.exit 2))) (.block 3 (.seq (.region T4) (.seq (.block 4 (.loop ve)) (.seq (.seq (.region Fw) (.seq (.region Fx) (.cond (.t 54) (.region Fy) .skip))) (.region Fz))))))
def sD:aj:=(.seq (.region KM) (.seq (.region KN) (.seq (.block 0 (.loop vg)) (.seq (.region KO) (.block 2 (.loop q9))))))
def p7:az:=⟨63,[],true,sD,fun i=>match i with|0=>[6,8,2,7,0,1]|2=>[6,2,0,1]|4=>[6,8,2,7,0,1]|_=>[0],fun i=>match i with|0=>[6,2,0,1,7]|1=>[6,8,2,7,0,1]|2=>[0]|4=>[2,0,1,6,7]|5=>[6,8,2,7,0,1]|3=>[6,2,0,1]|_=>[0]⟩
@[simp] theorem qiB:p7.body=sD∧p7.results=[]∧p7.own=true∧p7.head 0=[6,8,2,7,0,1]∧p7.head 2=[6,2,0,1]∧p7.head 4=[6,8,2,7,0,1]∧p7.tail 0=[6,2,0,1,7]∧p7.tail 1=[6,8,2,7,0,1]∧p7.tail 2=[0]∧p7.tail 4=[2,0,1,6,7]∧p7.tail 5=[6,8,2,7,0,1]∧p7.tail 3=[6,2,0,1]:=⟨rfl,rfl,rfl,rfl,rfl,rfl,rfl,rfl,rfl,rfl,rfl,rfl⟩
def KP:Lc:=[cM 10 1 0,cS 11 (.bin .add .no (.t 10) (.c (.int .i64 1))) 1,cM 8 11 3]
def FA:Lc:=[cM 12 8 0,cM 13 2 0,cS 14 (.bin .lss .no (.t 12) (.t 13)) 3]
def T6:Lc:=[cM 17 8 0,cM 9 17 1]
def sE:List Step:=[.small 0 (cM 18 9 0),.small 1 (cM 19 1 0),.small 2 (cS 20 (.bin .gtr .no (.t 18) (.t 19)) 3),.small 3 (cM 21 20 7),.small 4 (jV 22 3 21 true 15),.small 5 (jV 23 0 21 true 15),.small 6 (jV 24 9 21 true 15),.small 7 (cG 25 (.indexAddr 2 (.t 23) (.t 24)) 21 true 111),.small 8 (cG 26 (.load (some 2) (.t 25)) 21 true 239),.small 9 (jV 27 0 21 true 15),.small 10 (jV 28 9 21 true 15),.small 11 (cG 29 (.bin .sub .no (.t 28) (.c (.int .i64 1))) 21 true 1039),.small 12 (cG 30 (.indexAddr 2 (.t 27) (.t 29)) 21 true 3599),.small 13 (cG 31 (.load (some 2) (.t 30)) 21 true 7695),.aZ 14 ⟨some 32,.call (.t 22) [.t 26,.t 31],some (21,true),16383⟩,.small 15 (cG 33 (.bin .lss .no (.t 32) (.c (.int .i64 0))) 21 true 32767),.small 16 (cQ 34 21 33 65535)]
def T7:Lc:=qS sE
def zL:=fq T7 sE (by kernel_rfl)
def FB:List Step:=[.small 0 (cM 37 0 0),.small 1 (cM 38 9 0),.small 2 (cM 39 0 0),.small 3 (cM 40 9 0),.small 4 (cS 41 (.bin .sub .no (.t 40) (.c (.int .i64 1))) 8),.small 5 (cM 42 0 0),.small 6 (cM 43 9 0),.small 7 (cS 44 (.bin .sub .no (.t 43) (.c (.int .i64 1))) 64),.small 8 (cS 45 (.indexAddr 2 (.t 42) (.t 44)) 224),.small 9 (cS 46 (.load (some 2) (.t 45)) 480),.small 10 (cM 47 0 0),.small 11 (cM 48 9 0),.small 12 (cS 49 (.indexAddr 2 (.t 47) (.t 48)) 3072),.small 13 (cS 50 (.load (some 2) (.t 49)) 7168),.small 14 (cS 51 (.indexAddr 2 (.t 37) (.t 38)) 16355),.aZ 15 (cH (.store 2 (.t 51) (.t 46)) 32739),.small 16 (cS 52 (.indexAddr 2 (.t 39) (.t 41)) 65535),.aZ 17 (cH (.store 2 (.t 52) (.t 50)) 131071)]
def T8:Lc:=qS FB
def Xx:=fq T8 FB (by kernel_rfl)
def T9:Lc:=[cM 35 9 0,cS 36 (.bin .sub .no (.t 35) (.c (.int .i64 1))) 1,cM 9 36 3]
def zM:aj:=(.seq (.seq (.draw T7) (.cond (.t 34) .skip (.exit 2))) (.seq (.block 3 (.draw T8)) (.region T9)))
def Ua:Lc:=[cM 15 8 0,cS 16 (.bin .add .no (.t 15) (.c (.int .i64 1))) 1,cM 8 16 3]
def vh:aj:=(.seq (.seq (.region FA) (.cond (.t 14) .skip (.exit 0))) (.seq (.block 1 (.seq (.region T6) (.block 2 (.loop zM)))) (.region Ua)))
def sF:aj:=(.seq (.region KP) (.block 0 (.loop vh)))
def v233:az:=⟨53,[],true,sF,fun i=>match i with|0=>[0,8,1,3,2]|2=>[9,0,1,3,2,8]|_=>[0],fun i=>match i with|0=>[0]|2=>[0,1,3,2,8]|3=>[0,1,3,2,8,9]|1=>[0,1,3,2,8]|_=>[0]⟩
@[simp] theorem qiC:v233.body=sF∧v233.results=[]∧v233.own=true∧v233.head 0=[0,8,1,3,2]∧v233.head 2=[9,0,1,3,2,8]∧v233.tail 0=[0]∧v233.tail 2=[0,1,3,2,8]∧v233.tail 3=[0,1,3,2,8,9]∧v233.tail 1=[0,1,3,2,8]:=⟨rfl,rfl,rfl,rfl,rfl,rfl,rfl,rfl,rfl⟩
def BU:Lc:=[cM 25 2 0,cM 26 1 0,cS 27 (.bin .sub .no (.t 25) (.t 26)) 3,cS 28 (.bin .eql .int (.t 27) (.c (.int .i64 1))) 7]
def Ub:Lc:=[cM 29 2 0,cM 10 29 1]
def Ud:Lc:=[cM 30 3 0,cM 11 30 1]
def BX:Lc:=[cM 31 10 0,cM 32 11 0,cS 33 (.bin .lss .no (.t 31) (.t 32)) 3]
def KQ:Lc:=[cM 34 10 0,cM 35 11 0,cS 36 (.bin .add .no (.t 34) (.t 35)) 3,cS 37 (.ep .u64 (.t 36)) 7,cS 38 (.bin .shr .no (.t 37) (.c (.int .u64 1))) 15,cS 39 (.ep .i64 (.t 38)) 31,cM 12 39 63]
def zO:List Step:=[.small 0 (cM 40 4 0),.small 1 (cM 41 0 0),.small 2 (cM 42 12 0),.small 3 (cS 43 (.indexAddr 2 (.t 41) (.t 42)) 6),.small 4 (cS 44 (.load (some 2) (.t 43)) 14),.small 5 (cM 45 0 0),.small 6 (cM 46 1 0),.small 7 (cS 47 (.indexAddr 2 (.t 45) (.t 46)) 96),.small 8 (cS 48 (.load (some 2) (.t 47)) 224),.aZ 9 ⟨some 49,.call (.t 40) [.t 44,.t 48],none,511⟩,.small 10 (cS 50 (.bin .lss .no (.t 49) (.c (.int .i64 0))) 1023)]
def Uf:Lc:=qS zO
def MV:=fq Uf zO (by kernel_rfl)
def Ug:Lc:=[cM 51 12 0,cS 52 (.bin .add .no (.t 51) (.c (.int .i64 1))) 1,cM 10 52 3]
def Uh:Lc:=[cM 53 12 0,cM 11 53 1]
def zP:aj:=(.seq (.seq (.region BX) (.cond (.t 33) .skip (.exit 0))) (.block 1 (.seq (.region KQ) (.seq (.draw Uf) (.cond (.t 50) (.region Ug) (.region Uh))))))
def Ui:Lc:=[cM 54 1 0,cM 13 54 1]
def FC:Lc:=[cM 55 13 0,cM 56 10 0,cS 57 (.bin .sub .no (.t 56) (.c (.int .i64 1))) 2,cS 58 (.bin .lss .no (.t 55) (.t 57)) 7]
def BV:List Step:=[.small 0 (cM 61 0 0),.small 1 (cM 62 13 0),.small 2 (cM 63 0 0),.small 3 (cM 64 13 0),.small 4 (cS 65 (.bin .add .no (.t 64) (.c (.int .i64 1))) 8),.small 5 (cM 66 0 0),.small 6 (cM 67 13 0),.small 7 (cS 68 (.bin .add .no (.t 67) (.c (.int .i64 1))) 64),.small 8 (cS 69 (.indexAddr 2 (.t 66) (.t 68)) 224),.small 9 (cS 70 (.load (some 2) (.t 69)) 480),.small 10 (cM 71 0 0),.small 11 (cM 72 13 0),.small 12 (cS 73 (.indexAddr 2 (.t 71) (.t 72)) 3072),.small 13 (cS 74 (.load (some 2) (.t 73)) 7168),.small 14 (cS 75 (.indexAddr 2 (.t 61) (.t 62)) 16355),.aZ 15 (cH (.store 2 (.t 75) (.t 70)) 32739),.small 16 (cS 76 (.indexAddr 2 (.t 63) (.t 65)) 65535),.aZ 17 (cH (.store 2 (.t 76) (.t 74)) 131071)]
def MD:Lc:=qS BV
def Uc:=fq MD BV (by kernel_rfl)
def MF:Lc:=[cM 59 13 0,cS 60 (.bin .add .no (.t 59) (.c (.int .i64 1))) 1,cM 13 60 3]
def vw:aj:=(.seq (.seq (.region FC) (.cond (.t 58) .skip (.exit 2))) (.seq (.block 3 (.draw MD)) (.region MF)))
def zN:Lc:=[cM 77 3 0,cM 78 2 0,cS 79 (.bin .sub .no (.t 77) (.t 78)) 3,cS 80 (.bin .eql .int (.t 79) (.c (.int .i64 1))) 7]
def MG:Lc:=[cM 81 1 0,cM 14 81 1]
def MH:Lc:=[cM 82 2 0,cM 15 82 1]
def vj:Lc:=[cM 83 14 0,cM 84 15 0,cS 85 (.bin .lss .no (.t 83) (.t 84)) 3]
def FD:Lc:=[cM 86 14 0,cM 87 15 0,cS 88 (.bin .add .no (.t 86) (.t 87)) 3,cS 89 (.ep .u64 (.t 88)) 7,cS 90 (.bin .shr .no (.t 89) (.c (.int .u64 1))) 15,cS 91 (.ep .i64 (.t 90)) 31,cM 16 91 63]
def vp:List Step:=[.small 0 (cM 92 4 0),.small 1 (cM 93 0 0),.small 2 (cM 94 2 0),.small 3 (cS 95 (.indexAddr 2 (.t 93) (.t 94)) 6),.small 4 (cS 96 (.load (some 2) (.t 95)) 14),.small 5 (cM 97 0 0),.small 6 (cM 98 16 0),.small 7 (cS 99 (.indexAddr 2 (.t 97) (.t 98)) 96),.small 8 (cS 100 (.load (some 2) (.t 99)) 224),.aZ 9 ⟨some 101,.call (.t 92) [.t 96,.t 100],none,511⟩,.small 10 (cS 102 (.bin .lss .no (.t 101) (.c (.int .i64 0))) 1023),.small 11 (cS 103 (.un .not (.t 102)) 2047)]
def MI:Lc:=qS vp
def Iq:=fq MI vp (by kernel_rfl)
def MJ:Lc:=[cM 104 16 0,cS 105 (.bin .add .no (.t 104) (.c (.int .i64 1))) 1,cM 14 105 3]
def MK:Lc:=[cM 106 16 0,cM 15 106 1]
def vz:aj:=(.seq (.seq (.region vj) (.cond (.t 85) .skip (.exit 4))) (.block 5 (.seq (.region FD) (.seq (.draw MI) (.cond (.t 103) (.region MJ) (.region MK))))))
def ML:Lc:=[cM 107 2 0,cM 17 107 1]
def FE:Lc:=[cM 108 17 0,cM 109 14 0,cS 110 (.bin .gtr .no (.t 108) (.t 109)) 3]
def BW:List Step:=[.small 0 (cM 113 0 0),.small 1 (cM 114 17 0),.small 2 (cM 115 0 0),.small 3 (cM 116 17 0),.small 4 (cS 117 (.bin .sub .no (.t 116) (.c (.int .i64 1))) 8),.small 5 (cM 118 0 0),.small 6 (cM 119 17 0),.small 7 (cS 120 (.bin .sub .no (.t 119) (.c (.int .i64 1))) 64),.small 8 (cS 121 (.indexAddr 2 (.t 118) (.t 120)) 224),.small 9 (cS 122 (.load (some 2) (.t 121)) 480),.small 10 (cM 123 0 0),.small 11 (cM 124 17 0),.small 12 (cS 125 (.indexAddr 2 (.t 123) (.t 124)) 3072),.small 13 (cS 126 (.load (some 2) (.t 125)) 7168),.small 14 (cS 127 (.indexAddr 2 (.t 113) (.t 114)) 16355),.aZ 15 (cH (.store 2 (.t 127) (.t 122)) 32739),.small 16 (cS 128 (.indexAddr 2 (.t 115) (.t 117)) 65535),.aZ 17 (cH (.store 2 (.t 128) (.t 126)) 131071)]
def MM:Lc:=qS BW
def Ue:=fq MM BW (by kernel_rfl)
def MN:Lc:=[cM 111 17 0,cS 112 (.bin .sub .no (.t 111) (.c (.int .i64 1))) 1,cM 17 112 3]
def vA:aj:=(.seq (.seq (.region FE) (.cond (.t 110) .skip (.exit 6))) (.seq (.block 7 (.draw MM)) (.region MN)))
def FF:Lc:=[cM 129 1 0,cM 130 3 0,cS 131 (.bin .add .no (.t 129) (.t 130)) 3,cS 132 (.ep .u64 (.t 131)) 7,cS 133 (.bin .shr .no (.t 132) (.c (.int .u64 1))) 15,cS 134 (.ep .i64 (.t 133)) 31,cM 18 134 63]
def FG:Lc:=[cM 135 18 0,cM 136 2 0,cS 137 (.bin .add .no (.t 135) (.t 136)) 3,cM 19 137 7]
def FH:Lc:=[cS 20 (.br (.c (.int .i64 0))) 0,cS 21 (.br (.c (.int .i64 0))) 1]
def FI:Lc:=[cM 138 2 0,cM 139 18 0,cS 140 (.bin .gtr .no (.t 138) (.t 139)) 3]
def MO:Lc:=[cM 141 19 0,cM 142 3 0,cS 143 (.bin .sub .no (.t 141) (.t 142)) 3,cM 20 143 7]
def MP:Lc:=[cM 144 18 0,cM 21 144 1]
def MQ:Lc:=[cM 145 1 0,cM 20 145 1]
def MR:Lc:=[cM 146 2 0,cM 21 146 1]
def FJ:Lc:=[cM 147 19 0,cS 148 (.bin .sub .no (.t 147) (.c (.int .i64 1))) 1,cM 22 148 3]
def vq:Lc:=[cM 149 20 0,cM 150 21 0,cS 151 (.bin .lss .no (.t 149) (.t 150)) 3]
def FK:Lc:=[cM 152 20 0,cM 153 21 0,cS 154 (.bin .add .no (.t 152) (.t 153)) 3,cS 155 (.ep .u64 (.t 154)) 7,cS 156 (.bin .shr .no (.t 155) (.c (.int .u64 1))) 15,cS 157 (.ep .i64 (.t 156)) 31,cM 23 157 63]
def vu:List Step:=[.small 0 (cM 158 4 0),.small 1 (cM 159 0 0),.small 2 (cM 160 22 0),.small 3 (cM 161 23 0),.small 4 (cS 162 (.bin .sub .no (.t 160) (.t 161)) 12),.small 5 (cS 163 (.indexAddr 2 (.t 159) (.t 162)) 30),.small 6 (cS 164 (.load (some 2) (.t 163)) 62),.small 7 (cM 165 0 0),.small 8 (cM 166 23 0),.small 9 (cS 167 (.indexAddr 2 (.t 165) (.t 166)) 384),.small 10 (cS 168 (.load (some 2) (.t 167)) 896),.aZ 11 ⟨some 169,.call (.t 158) [.t 164,.t 168],none,2047⟩,.small 12 (cS 170 (.bin .lss .no (.t 169) (.c (.int .i64 0))) 4095),.small 13 (cS 171 (.un .not (.t 170)) 8191)]
def MS:Lc:=qS vu
def Ir:=fq MS vu (by kernel_rfl)
def MT:Lc:=[cM 172 23 0,cS 173 (.bin .add .no (.t 172) (.c (.int .i64 1))) 1,cM 20 173 3]
def MU:Lc:=[cM 174 23 0,cM 21 174 1]
def vB:aj:=(.seq (.seq (.region vq) (.cond (.t 151) .skip (.exit 8))) (.block 9 (.seq (.region FK) (.seq (.draw MS) (.cond (.t 171) (.region MT) (.region MU))))))
def FL:Lc:=[cM 175 19 0,cM 176 20 0,cS 177 (.bin .sub .no (.t 175) (.t 176)) 3,cM 24 177 7]
def FM:Lc:=[cM 178 20 0,cM 179 2 0,cS 180 (.bin .lss .no (.t 178) (.t 179)) 3,cM 181 180 7,jV 182 2 181 true 15,jV 183 24 181 true 15,cG 184 (.bin .lss .no (.t 182) (.t 183)) 181 true 63,cQ 185 181 184 127]
def FN:Lc:=[cM 186 0 0,cM 187 20 0,cM 188 2 0,cM 189 24 0,cM 190 4 0,cC 191 237 [.t 186,.t 187,.t 188,.t 189,.t 190] 31]
def FO:Lc:=[cM 192 1 0,cM 193 20 0,cS 194 (.bin .lss .no (.t 192) (.t 193)) 3,cM 195 194 7,jV 196 20 195 true 15,jV 197 18 195 true 15,cG 198 (.bin .lss .no (.t 196) (.t 197)) 195 true 63,cQ 199 195 198 127]
def FP:Lc:=[cM 200 0 0,cM 201 1 0,cM 202 20 0,cM 203 18 0,cM 204 4 0,cC 205 234 [.t 200,.t 201,.t 202,.t 203,.t 204] 31]
def FQ:Lc:=[cM 206 18 0,cM 207 24 0,cS 208 (.bin .lss .no (.t 206) (.t 207)) 3,cM 209 208 7,jV 210 24 209 true 15,jV 211 3 209 true 15,cG 212 (.bin .lss .no (.t 210) (.t 211)) 209 true 63,cQ 213 209 212 127]
def FR:Lc:=[cM 214 0 0,cM 215 18 0,cM 216 24 0,cM 217 3 0,cM 218 4 0,cC 219 234 [.t 214,.t 215,.t 216,.t 217,.t 218] 31]
def mB:aj:=(.seq (.seq (.region BU) (.cond (.t 28) (.seq (.region Ub) (.seq (.region Ud) (.seq (.block 0 (.loop zP)) (.seq (.seq (.region Ui) (.block 2 (.loop vw))) .ret)))) .skip)) (.seq (.seq (.region zN) (.cond (.t 80) (.seq (.region MG) (.seq (.region MH) (.seq (.block 4 (.loop vz)) (.seq (.seq (.region ML) (.block 6 (.loop vA))) .ret)))) .skip)) (.seq (.region FF) (.seq (.region FG) (.seq (.region FH) (.seq (.seq (.region FI) (.cond (.t 140) (.seq (.region MO) (.region MP)) (.seq (.region MQ) (.region MR)))) (.seq (.region FJ) (.seq (.block 8 (.loop vB)) (.seq (.region FL) (.seq (.seq (.region FM) (.cond (.t 185) (.region FN) .skip)) (.seq (.seq (.region FO) (.cond (.t 199) (.region FP) .skip)) (.seq (.region FQ) (.cond (.t 213) (.region FR) .skip)))))))))))))
def v234:az:=⟨220,[],true,mB,fun i=>match i with|0=>[4,0,1,11,10]|2=>[13,0,10]|4=>[4,0,2,15,14]|6=>[17,0,14]|8=>[4,0,22,21,20,3,18,1,2,19]|_=>[0],fun i=>match i with|0=>[0,10,1]|1=>[4,0,1,11,10]|2=>[0]|3=>[0,10,13]|4=>[0,14,2]|5=>[4,0,2,15,14]|6=>[0]|7=>[0,14,17]|8=>[4,3,18,0,20,1,2,19]|9=>[4,0,22,21,20,3,18,1,2,19]|_=>[0]⟩
@[simp] theorem qiD:v234.body=mB∧v234.results=[]∧v234.own=true∧v234.head 0=[4,0,1,11,10]∧v234.head 2=[13,0,10]∧v234.head 4=[4,0,2,15,14]∧v234.head 6=[17,0,14]∧v234.head 8=[4,0,22,21,20,3,18,1,2,19]∧v234.tail 0=[0,10,1]∧v234.tail 1=[4,0,1,11,10]∧v234.tail 2=[0]∧v234.tail 3=[0,10,13]∧v234.tail 4=[0,14,2]∧v234.tail 5=[4,0,2,15,14]∧v234.tail 6=[0]∧v234.tail 7=[0,14,17]∧v234.tail 8=[4,3,18,0,20,1,2,19]∧v234.tail 9=[4,0,22,21,20,3,18,1,2,19]:=⟨rfl,rfl,rfl,rfl,rfl,rfl,rfl,rfl,rfl,rfl,rfl,rfl,rfl,rfl,rfl,rfl,rfl,rfl⟩
def Uj:Lc:=[cM 12 2 0,cM 13 1 0,cS 14 (.bin .sub .no (.t 12) (.t 13)) 3,cM 10 14 7]
def Uk:Lc:=[cM 15 3 0,cM 16 2 0,cS 17 (.bin .sub .no (.t 15) (.t 16)) 3,cM 11 17 7]
def FT:Lc:=[cM 18 10 0,cM 19 11 0,cS 20 (.bin .neq .int (.t 18) (.t 19)) 3]
def KS:Lc:=[cM 21 10 0,cM 22 11 0,cS 23 (.bin .gtr .no (.t 21) (.t 22)) 3]
def Ul:Lc:=[cM 24 0 0,cM 25 2 0,cM 26 10 0,cS 27 (.bin .sub .no (.t 25) (.t 26)) 6,cM 28 2 0,cM 29 11 0,cM 30 4 0,cC 31 238 [.t 24,.t 27,.t 28,.t 29,.t 30] 127]
def Um:Lc:=[cM 32 10 0,cM 33 11 0,cS 34 (.bin .sub .no (.t 32) (.t 33)) 3,cM 10 34 7]
def Un:Lc:=[cM 35 0 0,cM 36 2 0,cM 37 10 0,cS 38 (.bin .sub .no (.t 36) (.t 37)) 6,cM 39 2 0,cM 40 11 0,cS 41 (.bin .add .no (.t 39) (.t 40)) 48,cM 42 10 0,cS 43 (.bin .sub .no (.t 41) (.t 42)) 240,cM 44 10 0,cM 45 4 0,cC 46 238 [.t 35,.t 38,.t 43,.t 44,.t 45] 2047]
def Uq:Lc:=[cM 47 11 0,cM 48 10 0,cS 49 (.bin .sub .no (.t 47) (.t 48)) 3,cM 11 49 7]
def FV:aj:=(.seq (.seq (.region FT) (.cond (.t 20) .skip (.exit 0))) (.block 1 (.seq (.region KS) (.cond (.t 23) (.seq (.region Ul) (.region Um)) (.seq (.region Un) (.region Uq))))))
def KT:Lc:=[cM 50 0 0,cM 51 2 0,cM 52 10 0,cS 53 (.bin .sub .no (.t 51) (.t 52)) 6,cM 54 2 0,cM 55 10 0,cM 56 4 0,cC 57 238 [.t 50,.t 53,.t 54,.t 55,.t 56] 127]
def xT:aj:=(.seq (.region Uj) (.seq (.region Uk) (.seq (.block 0 (.loop FV)) (.region KT))))
def yM:az:=⟨58,[],true,xT,fun i=>match i with|0=>[11,10,4,2,0]|_=>[0],fun i=>match i with|0=>[4,10,2,0]|1=>[11,10,4,2,0]|_=>[0]⟩
@[simp] theorem qiE:yM.body=xT∧yM.results=[]∧yM.own=true∧yM.head 0=[11,10,4,2,0]∧yM.tail 0=[4,10,2,0]∧yM.tail 1=[11,10,4,2,0]:=⟨rfl,rfl,rfl,rfl,rfl,rfl⟩
def KU:Lc:=[cS 10 (.br (.c (.int .i64 0))) 0]
def FW:Lc:=[cM 11 10 0,cM 12 3 0,cS 13 (.bin .lss .no (.t 11) (.t 12)) 3]
def FX:List Step:=[.small 0 (cM 16 0 0),.small 1 (cM 17 1 0),.small 2 (cM 18 10 0),.small 3 (cS 19 (.bin .add .no (.t 17) (.t 18)) 6),.small 4 (cM 20 0 0),.small 5 (cM 21 2 0),.small 6 (cM 22 10 0),.small 7 (cS 23 (.bin .add .no (.t 21) (.t 22)) 96),.small 8 (cM 24 0 0),.small 9 (cM 25 2 0),.small 10 (cM 26 10 0),.small 11 (cS 27 (.bin .add .no (.t 25) (.t 26)) 1536),.small 12 (cS 28 (.indexAddr 2 (.t 24) (.t 27)) 3840),.small 13 (cS 29 (.load (some 2) (.t 28)) 7936),.small 14 (cM 30 0 0),.small 15 (cM 31 1 0),.small 16 (cM 32 10 0),.small 17 (cS 33 (.bin .add .no (.t 31) (.t 32)) 98304),.small 18 (cS 34 (.indexAddr 2 (.t 30) (.t 33)) 245760),.small 19 (cS 35 (.load (some 2) (.t 34)) 507904),.small 20 (cS 36 (.indexAddr 2 (.t 16) (.t 19)) 1048335),.aZ 21 (cH (.store 2 (.t 36) (.t 29)) 2096911),.small 22 (cS 37 (.indexAddr 2 (.t 20) (.t 23)) 4194303),.aZ 23 (cH (.store 2 (.t 37) (.t 35)) 8388607)]
def Ur:Lc:=qS FX
def Xy:=fq Ur FX (by kernel_rfl)
def Us:Lc:=[cM 14 10 0,cS 15 (.bin .add .no (.t 14) (.c (.int .i64 1))) 1,cM 10 15 3]
def vD:aj:=(.seq (.seq (.region FW) (.cond (.t 13) .skip (.exit 0))) (.seq (.block 1 (.draw Ur)) (.region Us)))
def sG:aj:=(.seq (.region KU) (.block 0 (.loop vD)))
def BY:az:=⟨38,[],true,sG,fun i=>match i with|0=>[10,0,1,2,3]|_=>[0],fun i=>match i with|0=>[0]|1=>[0,1,2,3,10]|_=>[0]⟩
@[simp] theorem qiF:BY.body=sG∧BY.results=[]∧BY.own=true∧BY.head 0=[10,0,1,2,3]∧BY.tail 0=[0]∧BY.tail 1=[0,1,2,3,10]:=⟨rfl,rfl,rfl,rfl,rfl,rfl⟩
def bq:Nat→Option az
 |4=>some v4
 |12=>some v12
 |13=>some RH
 |14=>some v14
 |15=>some v15
 |16=>some Ol
 |17=>some v17
 |18=>some v18
 |19=>some v19
 |20=>some v20
 |21=>some v21
 |23=>some v23
 |27=>some Ut
 |36=>some v36
 |37=>some v37
 |41=>some v41
 |50=>some v50
 |51=>some v51
 |52=>some v52
 |53=>some v53
 |54=>some v54
 |55=>some v55
 |56=>some v56
 |57=>some K4
 |59=>some v59
 |60=>some v60
 |64=>some v64
 |66=>some v66
 |75=>some v75
 |76=>some v76
 |77=>some v77
 |78=>some v78
 |79=>some v79
 |80=>some v80
 |86=>some Z6
 |98=>some Oy
 |99=>some v99
 |100=>some Bm
 |101=>some QO
 |102=>some mb
 |103=>some pW
 |104=>some qX
 |106=>some Rf
 |107=>some v107
 |108=>some Rj
 |112=>some Ro
 |113=>some Rr
 |114=>some Rt
 |136=>some RI
 |137=>some Bx
 |138=>some v138
 |139=>some v139
 |140=>some R7
 |141=>some v141
 |142=>some BA
 |143=>some v143
 |144=>some Sl
 |146=>some v146
 |147=>some BE
 |148=>some v148
 |149=>some SC
 |150=>some SF
 |151=>some SI
 |152=>some v152
 |164=>some v164
 |187=>some S4
 |188=>some BK
 |189=>some Te
 |190=>some CU
 |191=>some Tm
 |192=>some To
 |193=>some v193
 |197=>some On
 |198=>some v198
 |199=>some TF
 |221=>some BR
 |222=>some v222
 |223=>some p7
 |233=>some v233
 |234=>some v234
 |237=>some yM
 |238=>some BY
 |_=>none
end Go.RE
