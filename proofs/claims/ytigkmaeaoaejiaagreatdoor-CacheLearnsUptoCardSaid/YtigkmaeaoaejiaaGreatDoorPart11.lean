/- The code of the functions, as the second evaluator has it. Printed by wip/x/Vrint.lean.txt. -/
import Derived.Test.YtigkmaeaoaejiaaGreatDoorPart10
import Derived.KernelRfl
set_option linter.unusedVariables false
set_option linter.defProp false
set_option linter.unusedSimpArgs false
namespace Go.RE
abbrev Lc:=List aH
def unS:List Step→Lc
 |[]=>[]
 | .small _ o::r=>o::unS r
 | .aW _ o::r=>o::unS r
theorem X0(o:Lc)(s:List Step)(h:sched (o.length+1) (aC o 0) 0=some s):sched (o.length+1) (aC o 0) 0=some s:=h
def e8:Nat→List Nat:=fun i=>match i with|_=>[]
@[simp] def cS(d:Nat)(o:ga)(p:Nat):aH:=⟨some d,.s o,none,p⟩
@[simp] def cG(d:Nat)(o:ga)(g:Nat)(b:Bool)(p:Nat):aH:=⟨some d,.s o,some (g,b),p⟩
@[simp] def cM(d a p:Nat):aH:=⟨some d,.s (.aJ (.t a)),none,p⟩
@[simp] def kJ(d a g:Nat)(b:Bool)(p:Nat):aH:=⟨some d,.s (.aJ (.t a)),some (g,b),p⟩
@[simp] def cL(d a p:Nat):aH:=⟨some d,.s (.load none (.t a)),none,p⟩
@[simp] def cF(d k a p:Nat):aH:=⟨some d,.s (.fieldAddr k (.t a)),none,p⟩
@[simp] def cN(d a p:Nat):aH:=⟨some d,.s (.nilCheck (.t a)),none,p⟩
@[simp] def cE(d k a p:Nat):aH:=⟨some d,.s (.extract k (.t a)),none,p⟩
@[simp] def cC(d f:Nat)(a:List bB)(p:Nat):aH:=⟨some d,.call (.c (.func f [] [])) a,none,p⟩
@[simp] def G4(d f:Nat)(a:List bB)(g:Nat)(b:Bool)(p:Nat):aH:=⟨some d,.call (.c (.func f [] [])) a,some (g,b),p⟩
@[simp] def cP(d a b p:Nat):aH:=⟨some d,.s (.pick (.t a) (.c (.bool true)) (.t b)),none,p⟩
@[simp] def cQ(d a b p:Nat):aH:=⟨some d,.s (.pick (.t a) (.t b) (.c (.bool false))),none,p⟩
@[simp] def cH(o:xL)(p:Nat):aH:=⟨none,.h o,none,p⟩
def qpH:Lc:=[cS 4 (.aJ (.c (.bool false))) 0]
def qpI:Lc:=[cC 17 11 [] 0,cS 18 (.un .not (.t 17)) 1,cM 19 18 3,kJ 20 0 19 false 7,G4 21 12 [.t 20] 19 false 15,cG 22 (.un .not (.t 21)) 19 false 31,cP 23 19 22 63,cM 24 23 127,kJ 25 1 24 false 255,G4 26 32 [.t 25] 24 false 511,cG 27 (.un .not (.t 26)) 24 false 1023,cP 28 24 27 2047]
def qpJ:Lc:=[cC 29 11 [] 0,cM 4 29 1]
def qqs:Lc:=[cM 30 0 0,cC 31 13 [.t 30] 1,cM 5 31 3]
def qqu:Lc:=[cC 32 25 [] 0,cM 6 32 1]
def qqv:Lc:=[cM 33 1 0,cS 34 (.len 1 (.t 33)) 1,cS 35 (.bin .mul .no (.c (.int .i64 3)) (.t 34)) 3,cS 36 (.bin .add .no (.t 35) (.c (.int .i64 1))) 7,cS 37 (.aJ (.c (.int .i64 0))) 0]
def qqw:Lc:=[cS 38 (.bin .lss .no (.t 37) (.t 36)) 0]
def qqx:Lc:=[cM 39 6 0,cS 40 (.fm 58 (.t 39)) 1,cC 41 33 [.t 40] 3,cM 42 5 0,cS 43 (.fm 26 (.t 42)) 8,cC 44 33 [.t 43] 31,cM 7 41 63,cM 8 44 127]
def qqy:Lc:=[cM 45 7 0,cS 46 (.bin .eql .aT (.t 45) (.c .aT)) 1,cM 47 46 3,kJ 48 8 47 false 7,cG 49 (.bin .eql .aT (.t 48) (.c .aT)) 47 false 15,cP 50 47 49 31]
def qqK:Lc:=[cS 4 (.aJ (.c (.bool false))) 0]
def qp4:Lc:=[cS 51 (.build [.str [],.str []] []) 0,⟨some 9,.m (.alloc [.str [],.str []]),none,0⟩,cH (.store 2 (.t 9) (.t 51)) 3,cS 10 (.aJ (.c (.bool false))) 7]
def qp5:Lc:=[cM 52 1 0,cS 53 (.len 1 (.t 52)) 1,cS 54 (.aJ (.c (.int .i64 0))) 0]
def qoH:Lc:=[cS 55 (.bin .lss .no (.t 54) (.t 53)) 0]
def qpe:Lc:=[cS 56 (.indexAddr 27 (.t 52) (.t 54)) 0,cS 57 (.load (some 27) (.t 56)) 1,⟨some 12,.m (.alloc [.int .i64 0,.int .u8 0,.str [],.str [],.str [],.str [],.int .u64 0,.int .u64 0,.int .u64 0,.int .i64 0,.aj [] 0 0 1,.str [],.int .u64 0,.int .i64 0,.str [],.int .u64 0,.int .i64 0,.int .u64 0,.int .i64 0,.int .i64 0,.str [],.str [],.int .u64 0,.str [],.int .i64 0,.int .i64 0,.str []]),none,0⟩,cH (.store 27 (.t 12) (.t 57)) 7]
def qpf:Lc:=[cM 58 7 0,cS 59 (.load (some 27) (.t 12)) 0,cC 60 35 [.t 58,.t 59] 3,⟨some 13,.m (.alloc [.aj [] 0 0 1,.bool false,.aj [] 0 0 9,.int .u64 0,.str [],.int .u64 0,.int .i64 0,.str [],.int .u64 0,.int .i64 0,.int .u64 0,.int .i64 0,.int .i64 0,.str [],.str [],.int .u64 0,.int .i64 0,.int .i64 0,.str [],.bool false,.aj [] 0 0 1,.int .i64 0,.bool false,.str [],.str []]),none,0⟩,cH (.store 25 (.t 13) (.t 60)) 15]
def qpg:Lc:=[cF 61 19 13 0,cF 62 3 61 1,cL 63 62 3]
def qp6:Lc:=[cF 64 19 13 0,cF 65 4 64 1,cS 66 (.load (some 2) (.t 65)) 3,cH (.store 2 (.t 9) (.t 66)) 7,cS 10 (.aJ (.c (.bool true))) 15]
def qov:List Step:=[.small 0 (cS 67 (.load (some 25) (.t 13)) 0),.small 1 (cM 68 8 0),.small 2 (cS 69 (.load (some 27) (.t 12)) 0),.aW 3 (cC 70 35 [.t 68,.t 69] 6),.aW 4 (cC 71 34 [.t 67,.t 70] 15),.small 5 (cS 72 (.un .not (.t 71)) 31)]
def qp7:Lc:=unS qov
def qqm:=X0 qp7 qov (by kernel_rfl)
def qqr:Lc:=[cS 4 (.aJ (.c (.bool false))) 0]
def qp8:Lc:=[cS 73 (.bin .add .no (.t 54) (.c (.int .i64 1))) 0,cM 54 73 1]
def qn1:ag:=(.seq (.region qoH) (.seq (.cond (.t 55) .skip (.exit 2)) (.seq (.block 3 (.seq (.region qpe) (.seq (.region qpf) (.seq (.seq (.region qpg) (.cond (.t 63) (.seq (.region qp6) (.exit 2)) .skip)) (.seq (.draw qp7) (.cond (.t 72) (.seq (.region qqr) .ret) .skip)))))) (.region qp8))))
def qoI:Lc:=[cM 74 10 0,cS 75 (.un .not (.t 74)) 1]
def qp9:Lc:=[cM 76 7 0,cC 77 38 [.t 76] 1,cM 78 8 0,cC 79 38 [.t 78] 7,cC 80 37 [.t 77,.t 79] 15,cM 4 80 31]
def qph:Lc:=[cF 81 0 9 0,cL 82 81 1,cF 83 1 9 0,cL 84 83 4,cS 85 (.build [.str [],.str []] [(0,1,.t 82),(1,1,.t 84)]) 15,⟨some 14,.m (.alloc [.str [],.str []]),none,0⟩,cH (.store 2 (.t 14) (.t 85)) 63]
def qpi:Lc:=[cF 86 1 9 0,cL 87 86 1,cF 88 0 9 0,cL 89 88 4,cS 90 (.bin .eql .str (.t 87) (.t 89)) 15]
def qpj:Lc:=[cF 91 0 9 0,cL 92 91 1,cC 93 40 [.t 92] 3,cH (.store 2 (.t 14) (.t 93)) 7]
def qpk:Lc:=[cM 95 5 0,cF 96 0 14 0,cL 97 96 2,cF 98 1 14 0,cL 99 98 8,cC 100 21 [.t 95,.t 97,.t 99] 31,cM 94 100 63,cE 101 0 94 127,cE 102 1 94 127,cM 15 101 255,cM 16 102 1023]
def qpl:Lc:=[cM 103 6 0,cS 104 (.load (some 2) (.t 9)) 0,cM 105 15 0,cC 106 26 [.t 103,.t 104,.t 105] 7]
def qpm:Lc:=[cS 107 (.bin .add .no (.t 37) (.c (.int .i64 1))) 0,cM 37 107 1]
def qow:ag:=(.seq (.region qqw) (.seq (.cond (.t 38) .skip (.exit 0)) (.seq (.block 1 (.seq (.region qqx) (.seq (.seq (.region qqy) (.cond (.t 50) (.seq (.region qqK) .ret) .skip)) (.seq (.region qp4) (.seq (.seq (.region qp5) (.block 2 (.loop qn1))) (.seq (.seq (.region qoI) (.cond (.t 75) (.seq (.region qp9) .ret) .skip)) (.seq (.region qph) (.seq (.seq (.region qpi) (.cond (.t 90) (.region qpj) .skip)) (.seq (.region qpk) (.region qpl)))))))))) (.region qpm))))
def qqt:Lc:=[cS 4 (.aJ (.c (.bool false))) 0]
def qnQ:ag:=(.seq (.region qpH) (.seq (.seq (.region qpI) (.cond (.t 28) (.seq (.region qpJ) .ret) .skip)) (.seq (.region qqs) (.seq (.region qqu) (.seq (.seq (.region qqv) (.block 0 (.loop qow))) (.seq (.region qqt) .ret))))))
def v9:aA:=⟨108,[.t 4],true,qnQ,fun i=>match i with|0=>[37,6,5,1,36]|2=>[8,7,6,5,1,36,37,9,54,52,10,53]|_=>[],fun i=>match i with|0=>[]|2=>[8,7,6,5,1,36,37,9,10]|3=>[8,7,6,5,1,36,37,9,52,10,53,54]|1=>[6,5,1,36,37]|_=>[]⟩
@[simp] theorem qqT:v9.body=qnQ∧v9.results=[.t 4]∧v9.own=true∧v9.head 0=[37,6,5,1,36]∧v9.head 2=[8,7,6,5,1,36,37,9,54,52,10,53]∧v9.tail 0=[]∧v9.tail 2=[8,7,6,5,1,36,37,9,10]∧v9.tail 3=[8,7,6,5,1,36,37,9,52,10,53,54]∧v9.tail 1=[6,5,1,36,37]:=⟨rfl,rfl,rfl,rfl,rfl,rfl,rfl,rfl,rfl⟩
def qa4:Lc:=[cS 0 (.aJ (.c (.bool false))) 0]
def qcw:Lc:=[cC 8 25 [] 0,cS 9 (.fm 58 (.t 8)) 1,cC 10 33 [.t 9] 3,cM 1 10 7]
def qbS:Lc:=[cM 11 1 0,cS 12 (.bin .eql .aT (.t 11) (.c .aT)) 1]
def qhv:Lc:=[cS 0 (.aJ (.c (.bool false))) 0]
def qbf:Lc:=[cM 14 1 0,⟨some 15,.call (.c (.func 42 [] [])) [.t 14,(.c (.str [97]))],none,1⟩,cM 13 15 3,cE 16 0 13 7,cE 17 1 13 7,cE 18 2 13 7,⟨some 2,.m (.alloc [.str [],.int .u64 0,.int .i64 0,.str [],.int .u64 0]),none,0⟩,cH (.store 5 (.t 2) (.t 16)) 79,cM 3 17 223,cM 4 18 511]
def qcv:Lc:=[cM 20 4 0,cC 21 41 [.t 20] 1,cM 19 21 3,cE 22 0 19 7,cE 23 1 19 7,⟨some 5,.m (.alloc [.str [],.str []]),none,0⟩,cH (.store 2 (.t 5) (.t 22)) 47,cM 6 23 127]
def qbo:Lc:=[cM 24 4 0,cC 25 43 [.t 24] 1,cM 7 25 3]
def qbm:Lc:=[cM 26 6 0,cM 27 26 1,cG 28 (.load (some 2) (.t 5)) 27 true 3,cG 29 (.build [.str [],.str []] [(0,1,(.c (.str [105,97,0,1]))),(1,1,(.c (.str [105,97,0,1])))]) 27 true 3,cG 30 (.bin .eql (.flat [(0,.str),(1,.str)]) (.t 28) (.t 29)) 27 true 15,cQ 31 27 30 31,cM 32 31 63,kJ 33 7 32 true 127,cG 34 (.len 1 (.t 33)) 32 true 255,cG 35 (.bin .eql .int (.t 34) (.c (.int .i64 1))) 32 true 511,cQ 36 32 35 1023,cM 37 36 2047,kJ 38 7 37 true 4095,cG 39 (.indexAddr 1 (.t 38) (.c (.int .i64 0))) 37 true 8191,cG 40 (.load none (.t 39)) 37 true 16383,cG 41 (.bin .eql .str (.t 40) (.c (.str [105]))) 37 true 32767,cQ 42 37 41 65535,cM 0 42 131071]
def zU:ag:=(.seq (.region qa4) (.seq (.region qcw) (.seq (.seq (.region qbS) (.cond (.t 12) (.seq (.region qhv) .ret) .skip)) (.seq (.region qbf) (.seq (.region qcv) (.seq (.region qbo) (.seq (.region qbm) .ret)))))))
def v11:aA:=⟨43,[.t 0],true,zU,e8,e8⟩
@[simp] theorem qmT:v11.body=zU∧v11.results=[.t 0]∧v11.own=true:=⟨rfl,rfl,rfl⟩
def qbH:Lc:=[cS 2 (.aJ (.c (.bool false))) 0]
def qaA:Lc:=[cM 5 0 0,cS 6 (.len 1 (.t 5)) 1,cS 7 (.aJ (.c (.int .i64 0))) 0]
def Gp:Lc:=[cS 8 (.bin .lss .no (.t 7) (.t 6)) 0]
def OL:Lc:=[cS 9 (.indexAddr 2 (.t 5) (.t 7)) 0,cS 10 (.load (some 2) (.t 9)) 1,⟨some 4,.m (.alloc [.str [],.aj [] 0 0 1]),none,0⟩,cH (.store 2 (.t 4) (.t 10)) 7]
def OS:Lc:=[cF 11 0 4 0,cL 12 11 1,cS 13 (.len 0 (.t 12)) 3,cS 14 (.bin .gtr .no (.t 13) (.c (.int .i64 300))) 7,cM 15 14 15,cG 16 (.fieldAddr 1 (.t 4)) 15 false 31,cG 17 (.load none (.t 16)) 15 false 63,cG 18 (.len 1 (.t 17)) 15 false 127,cG 19 (.bin .gtr .no (.t 18) (.c (.int .i64 300))) 15 false 255,cP 20 15 19 511]
def M8:Lc:=[cS 2 (.aJ (.c (.bool false))) 0]
def qbR:Lc:=[cS 21 (.bin .add .no (.t 7) (.c (.int .i64 1))) 0,cM 7 21 1]
def DH:ag:=(.seq (.region Gp) (.seq (.cond (.t 8) .skip (.exit 0)) (.seq (.block 1 (.seq (.region OL) (.seq (.region OS) (.cond (.t 20) (.seq (.region M8) .ret) .skip)))) (.region qbR))))
def SJ:Lc:=[cM 22 0 0,cS 23 (.len 1 (.t 22)) 1,cS 24 (.bin .leq .no (.t 23) (.c (.int .i64 100))) 3,cM 2 24 7]
def AB:ag:=(.seq (.region qbH) (.seq (.seq (.region qaA) (.block 0 (.loop DH))) (.seq (.region SJ) .ret)))
def v12:aA:=⟨25,[.t 2],true,AB,fun i=>match i with|0=>[7,5,0,6]|_=>[],fun i=>match i with|0=>[0]|1=>[5,0,6,7]|_=>[]⟩
@[simp] theorem qnh:v12.body=AB∧v12.results=[.t 2]∧v12.own=true∧v12.head 0=[7,5,0,6]∧v12.tail 0=[0]∧v12.tail 1=[5,0,6,7]:=⟨rfl,rfl,rfl,rfl,rfl,rfl⟩
def qb4:Lc:=[cS 2 (.aJ (.c .aT)) 0]
def qbJ:Lc:=[cM 3 0 0,cC 4 44 [.t 3] 1,cM 2 4 3]
def BH:ag:=(.seq (.region qb4) (.seq (.region qbJ) .ret))
def v13:aA:=⟨5,[.t 2],true,BH,e8,e8⟩
@[simp] theorem qm7:v13.body=BH∧v13.results=[.t 2]∧v13.own=true:=⟨rfl,rfl,rfl⟩
def qbe:Lc:=[cS 4 (.aJ (.c (.aj [] 1 0 1))) 0,cS 5 (.aJ (.c (.bool false))) 1,cS 6 (.aJ (.c .aK)) 3]
def qca:Lc:=[cM 9 0 0,cS 10 (.bin .eql .aT (.t 9) (.c .aT)) 1]
def qiJ:Lc:=[cS 4 (.aJ (.c (.aj [] 1 0 1))) 0,cS 5 (.aJ (.c (.bool false))) 1,cS 6 (.aJ (.c .aK)) 3]
def qaU:Lc:=[cM 12 0 0,cN 13 12 1,cF 14 0 13 3,cL 15 14 7,cM 16 1 0,cS 17 (.lookup .str (.aj [] 0 0 1) true (.t 15) (.t 16)) 31,cM 11 17 63,cE 18 0 11 127,cE 19 1 11 127,cM 7 18 255,cM 8 19 1023]
def qcp:Lc:=[cM 20 7 0,cC 21 49 [.t 20] 1,cM 22 8 0,cM 4 21 3,cM 5 22 15,cS 6 (.aJ (.c .aK)) 31]
def AM:ag:=(.seq (.region qbe) (.seq (.seq (.region qca) (.cond (.t 10) (.seq (.region qiJ) .ret) .skip)) (.seq (.region qaU) (.seq (.region qcp) .ret))))
def v19:aA:=⟨23,[.t 4,.t 5,.t 6],true,AM,e8,e8⟩
@[simp] theorem qmL:v19.body=AM∧v19.results=[.t 4,.t 5,.t 6]∧v19.own=true:=⟨rfl,rfl,rfl⟩
def qcl:Lc:=[cS 6 (.aJ (.c (.aj [] 1 0 2))) 0,cS 7 (.aJ (.c .aK)) 1]
def qaR:Lc:=[cM 8 0 0,cM 9 1 0,cM 10 2 0,cS 11 (.build [.str [],.str []] [(0,1,.t 9),(1,1,.t 10)]) 6,cC 12 46 [.t 8,.t 11] 15,cM 6 12 31,cS 7 (.aJ (.c .aK)) 63]
def Ap:ag:=(.seq (.region qcl) (.seq (.region qaR) .ret))
def v21:aA:=⟨13,[.t 6,.t 7],true,Ap,e8,e8⟩
@[simp] theorem qnj:v21.body=Ap∧v21.results=[.t 6,.t 7]∧v21.own=true:=⟨rfl,rfl,rfl⟩
def qcs:Lc:=[cS 4 (.aJ (.c (.bool false))) 0]
def qcd:Lc:=[cM 5 0 0,cS 6 (.toStr (.t 5)) 1,cM 7 1 0,cS 8 (.toStr (.t 7)) 4,cS 9 (.bin .eql .str (.t 6) (.t 8)) 15,cM 4 9 31]
def Bb:ag:=(.seq (.region qcs) (.seq (.region qcd) .ret))
def v23:aA:=⟨10,[.t 4],true,Bb,e8,e8⟩
@[simp] theorem qm3:v23.body=Bb∧v23.results=[.t 4]∧v23.own=true:=⟨rfl,rfl,rfl⟩
def qbj:Lc:=[cS 0 (.aJ (.c .aT)) 0]
def qcx:Lc:=[⟨some 1,.call (.c (.func 44 [] [])) [(.c (.aj [] 0 0 2))],none,0⟩,⟨some 2,.m (.makeMap),none,0⟩,cS 3 (.build [.aT,.bK,.aj [] 3 0 2] [(0,1,.t 1),(1,1,.t 2)]) 3,⟨some 4,.m (.box (.t 3)),none,7⟩,cM 0 4 15]
def Aj:ag:=(.seq (.region qbj) (.seq (.region qcx) .ret))
def v25:aA:=⟨5,[.t 0],true,Aj,e8,e8⟩
@[simp] theorem qmQ:v25.body=Aj∧v25.results=[.t 0]∧v25.own=true:=⟨rfl,rfl,rfl⟩
def qoh:Lc:=[⟨some 4,.m (.box (.t 1)),none,0⟩]
def qoi:Lc:=[cM 11 0 0,cS 12 (.bin .eql .aT (.t 11) (.c .aT)) 1,cM 13 12 3,kJ 14 0 13 false 7,cG 15 (.nilCheck (.t 14)) 13 false 15,cG 16 (.fieldAddr 0 (.t 15)) 13 false 31,cG 17 (.load none (.t 16)) 13 false 63,cG 18 (.bin .eql .aT (.t 17) (.c .aT)) 13 false 127,cP 19 13 18 255]
def qoj:Lc:=[cF 20 0 4 0,cL 21 20 1,cF 22 1 4 0,cL 23 22 4,cS 24 (.build [.str [],.str []] [(0,1,.t 21),(1,1,.t 23)]) 15,⟨some 6,.m (.alloc [.str [],.str []]),none,0⟩,cH (.store 2 (.t 6) (.t 24)) 63]
def qol:Lc:=[cF 36 0 4 0,cL 37 36 1,cF 38 1 4 0,cL 39 38 4,cS 40 (.bin .eql .str (.t 37) (.t 39)) 15,cM 35 40 31]
def qpL:Lc:=[cF 41 0 4 0,cL 42 41 1,cC 43 56 [.t 42] 3,cH (.store 2 (.t 6) (.t 43)) 7]
def qor:List Step:=[.small 0 (cM 44 0 0),.small 1 (cN 45 44 1),.small 2 (cF 46 1 45 3),.small 3 (cL 47 46 7),.small 4 (cF 48 0 4 0),.small 5 (cL 49 48 16),.small 6 (cS 50 (.lookup .str (.int .i64 0) false (.t 47) (.t 49)) 63),.small 7 (cS 51 (.bin .add .no (.t 50) (.c (.int .i64 1))) 127),.aW 8 (cH (.mapUpdate .str (.t 47) (.t 49) (.t 51)) 255)]
def qpM:Lc:=unS qor
def qqi:=X0 qpM qor (by kernel_rfl)
def qoC:Lc:=[cS 53 (.load (some 2) (.t 6)) 0,cC 54 57 [.t 53] 1,cS 55 (.un .not (.t 54)) 3,cM 52 55 7]
def qn9:List Step:=[.small 0 (cM 25 0 0),.small 1 (cM 26 0 0),.small 2 (cN 27 26 2),.small 3 (cF 28 2 27 6),.small 4 (cL 29 28 14),.small 5 (cS 30 (.load (some 2) (.t 6)) 0),.small 6 ⟨some 31,.m (.buildSlice 2 1 [.str [],.str []] [(0,2,.t 30)]),none,32⟩,.aW 7 ⟨some 32,.h (.append 2 32 false (.t 29) (.t 31)),none,126⟩,.small 8 (cN 33 25 255),.small 9 (cF 34 2 33 511),.aW 10 (cH (.store 1 (.t 34) (.t 32)) 1023)]
def qpN:Lc:=unS qn9
def qo6:=X0 qpN qn9 (by kernel_rfl)
def qo7:Lc:=[cM 56 0 0,cN 57 56 1,cF 58 0 57 3,cL 59 58 7,cS 60 (.load (some 2) (.t 6)) 0,cC 61 46 [.t 59,.t 60] 31,cS 62 (.len 1 (.t 61)) 63,cS 63 (.aJ (.c (.int .i64 0))) 0]
def qo8:List Step:=[.small 0 (cM 56 0 0),.small 1 (cN 57 56 1),.small 2 (cF 58 0 57 3),.small 3 (cL 59 58 7),.small 4 (cS 60 (.load (some 2) (.t 6)) 0),.small 7 (cS 63 (.aJ (.c (.int .i64 0))) 0),.aW 5 (cC 61 46 [.t 59,.t 60] 31),.small 6 (cS 62 (.len 1 (.t 61)) 63)]
def qqj:=X0 qo7 qo8 (by kernel_rfl)
def qo9:Lc:=[cS 64 (.bin .lss .no (.t 63) (.t 62)) 0]
def qo2:Lc:=[cS 65 (.indexAddr 2 (.t 61) (.t 63)) 0,cS 66 (.load (some 2) (.t 65)) 1,⟨some 8,.m (.alloc [.str [],.aj [] 0 0 1]),none,0⟩,cH (.store 2 (.t 8) (.t 66)) 7]
def qn6:List Step:=[.small 0 (cM 67 0 0),.small 1 (cN 68 67 1),.small 2 (cF 69 0 68 3),.small 3 (cL 70 69 7),.small 4 (cN 71 70 15),.small 5 (cF 72 0 71 31),.small 6 (cL 73 72 63),.small 7 (cF 74 0 8 0),.small 8 (cL 75 74 128),.aW 9 (cH (.delete .str (.t 73) (.t 75)) 511)]
def qo3:Lc:=unS qn6
def qpF:=X0 qo3 qn6 (by kernel_rfl)
def qo4:Lc:=[cS 76 (.bin .add .no (.t 63) (.c (.int .i64 1))) 0,cM 63 76 1]
def qnN:ag:=(.seq (.region qo9) (.seq (.cond (.t 64) .skip (.exit 1)) (.seq (.block 2 (.seq (.region qo2) (.draw qo3))) (.region qo4))))
def qon:Lc:=[cM 77 2 0,cS 78 (.len 1 (.t 77)) 1,cS 79 (.aJ (.c (.int .i64 0))) 0]
def qn7:Lc:=[cS 80 (.bin .lss .no (.t 79) (.t 78)) 0]
def qoo:Lc:=[cS 81 (.indexAddr 2 (.t 77) (.t 79)) 0,cS 82 (.load (some 2) (.t 81)) 1,⟨some 10,.m (.alloc [.str [],.aj [] 0 0 1]),none,0⟩,cH (.store 2 (.t 10) (.t 82)) 7]
def qop:Lc:=[cS 83 (.load (some 2) (.t 6)) 0,cF 84 0 10 0,cL 85 84 2,cC 86 58 [.t 83,.t 85] 7]
def qn8:List Step:=[.small 0 (cM 87 0 0),.small 1 (cN 88 87 1),.small 2 (cF 89 0 88 3),.small 3 (cL 90 89 7),.small 4 (cN 91 90 15),.small 5 (cF 92 0 91 31),.small 6 (cL 93 92 63),.small 7 (cF 94 0 10 0),.small 8 (cL 95 94 128),.small 9 (cF 96 1 10 0),.small 10 (cL 97 96 512),.aW 11 (cC 98 49 [.t 97] 1536),.aW 12 (cH (.mapUpdate .str (.t 93) (.t 95) (.t 98)) 4095)]
def qo5:Lc:=unS qn8
def qpG:=X0 qo5 qn8 (by kernel_rfl)
def qoq:Lc:=[cS 99 (.bin .add .no (.t 79) (.c (.int .i64 1))) 0,cM 79 99 1]
def qnO:ag:=(.seq (.region qn7) (.seq (.cond (.t 80) .skip (.exit 3)) (.seq (.block 4 (.seq (.region qoo) (.seq (.region qop) (.cond (.t 86) (.draw qo5) .skip)))) (.region qoq))))
def qnF:ag:=(.seq (.region qoh) (.seq (.seq (.region qoi) (.cond (.t 19) .ret .skip)) (.seq (.region qoj) (.seq (.block 0 (.seq (.region qol) (.cond (.t 35) (.seq (.region qpL) (.draw qpM)) (.seq (.region qoC) (.cond (.t 52) .ret (.draw qpN)))))) (.seq (.seq (.draw qo7) (.block 1 (.loop qnN))) (.seq (.region qon) (.block 3 (.loop qnO))))))))
def v26:aA:=⟨100,[],true,qnF,fun i=>match i with|1=>[63,0,61,6,2,62]|3=>[79,0,6,77,78]|_=>[],fun i=>match i with|0=>[0,6,2]|1=>[0,6,2]|2=>[0,61,6,2,62,63]|3=>[]|4=>[0,6,77,78,79]|_=>[]⟩
@[simp] theorem qqN:v26.body=qnF∧v26.results=[]∧v26.own=true∧v26.head 1=[63,0,61,6,2,62]∧v26.head 3=[79,0,6,77,78]∧v26.tail 0=[0,6,2]∧v26.tail 1=[0,6,2]∧v26.tail 2=[0,61,6,2,62,63]∧v26.tail 3=[]∧v26.tail 4=[0,6,77,78,79]:=⟨rfl,rfl,rfl,rfl,rfl,rfl,rfl,rfl,rfl,rfl⟩
def qaD:Lc:=[cS 4 (.aJ (.c (.aj [] 1 0 1))) 0,cS 5 (.aJ (.c (.bool false))) 1,cS 6 (.aJ (.c .aK)) 3]
def qaO:Lc:=[cM 7 0 0,cS 8 (.bin .eql .aT (.t 7) (.c .aT)) 1,cM 9 8 3,kJ 10 0 9 false 7,cG 11 (.nilCheck (.t 10)) 9 false 15,cG 12 (.fieldAddr 1 (.t 11)) 9 false 31,cG 13 (.load none (.t 12)) 9 false 63,kJ 14 1 9 false 7,cG 15 (.lookup .str (.int .i64 0) false (.t 13) (.t 14)) 9 false 255,cG 16 (.bin .eql .int (.t 15) (.c (.int .i64 0))) 9 false 511,kJ 17 16 9 false 1023,kJ 18 0 17 true 2047,cG 19 (.nilCheck (.t 18)) 17 true 4095,cG 20 (.fieldAddr 2 (.t 19)) 17 true 8191,cG 21 (.load none (.t 20)) 17 true 16383,kJ 22 1 17 true 2047,G4 23 59 [.t 21,.t 22] 17 true 65535,cG 24 (.un .not (.t 23)) 17 true 131071,cG 25 (.pick (.t 17) (.t 24) (.c (.bool false))) 9 false 262143,cP 26 9 25 524287]
def qav:Lc:=[cM 27 1 0,cM 28 1 0,cC 29 60 [.t 27,.t 28] 3,cS 4 (.aJ (.c (.aj [] 1 0 1))) 7,cS 5 (.aJ (.c (.bool false))) 15,cM 6 29 31]
def qhz:Lc:=[cM 30 0 0,cN 31 30 1,cF 32 0 31 3,cL 33 32 7,cM 34 1 0,cC 35 19 [.t 33,.t 34] 31,cE 36 0 35 63,cE 37 1 35 63,cE 38 2 35 63,cM 4 36 511,cM 5 37 1023,cM 6 38 2047]
def BF:ag:=(.seq (.region qaD) (.seq (.seq (.region qaO) (.cond (.t 26) (.seq (.region qav) .ret) .skip)) (.seq (.region qhz) .ret)))
def v28:aA:=⟨39,[.t 4,.t 5,.t 6],true,BF,e8,e8⟩
@[simp] theorem qmH:v28.body=BF∧v28.results=[.t 4,.t 5,.t 6]∧v28.own=true:=⟨rfl,rfl,rfl⟩
def qoD:Lc:=[cS 6 (.aJ (.c (.aj [] 1 0 2))) 0,cS 7 (.aJ (.c .aK)) 1]
def qoE:Lc:=[cM 11 1 0,cM 12 2 0,cS 13 (.build [.str [],.str []] [(0,1,.t 11),(1,1,.t 12)]) 3,⟨some 8,.m (.alloc [.str [],.str []]),none,0⟩,cH (.store 2 (.t 8) (.t 13)) 15]
def qoF:Lc:=[cS 14 (.load (some 2) (.t 8)) 0,cC 15 57 [.t 14] 1,cS 16 (.un .not (.t 15)) 3]
def qpO:Lc:=[cS 6 (.aJ (.c (.aj [] 1 0 2))) 0,cS 7 (.aJ (.c .aK)) 1]
def qpb:Lc:=[cM 17 0 0,cS 18 (.bin .neq .aT (.t 17) (.c .aT)) 1]
def qpc:Lc:=[cM 19 0 0,cN 20 19 1,cF 21 2 20 3,cL 22 21 7,cS 23 (.len 1 (.t 22)) 15,cS 24 (.aJ (.c (.int .i64 0))) 0]
def qoG:Lc:=[cS 25 (.bin .lss .no (.t 24) (.t 23)) 0]
def qpP:Lc:=[cS 26 (.indexAddr 2 (.t 22) (.t 24)) 0,cS 27 (.load (some 2) (.t 26)) 1,⟨some 10,.m (.alloc [.str [],.str []]),none,0⟩,cH (.store 2 (.t 10) (.t 27)) 7]
def qpQ:Lc:=[cF 28 0 10 0,cL 29 28 1,cM 30 1 0,cS 31 (.bin .leq .no (.t 29) (.t 30)) 7,cM 32 31 15,cG 33 (.fieldAddr 1 (.t 10)) 32 true 31,cG 34 (.load none (.t 33)) 32 true 63,cG 35 (.bin .eql .str (.t 34) (.c (.str []))) 32 true 127,kJ 36 35 32 true 255,kJ 37 2 36 false 511,cG 38 (.bin .neq .str (.t 37) (.c (.str []))) 36 false 1023,kJ 39 38 36 false 2047,kJ 40 2 39 true 4095,cG 41 (.fieldAddr 1 (.t 10)) 39 true 4095,cG 42 (.load none (.t 41)) 39 true 12287,cG 43 (.bin .leq .no (.t 40) (.t 42)) 39 true 32767,cG 44 (.pick (.t 39) (.t 43) (.c (.bool false))) 36 false 65535,cG 45 (.pick (.t 36) (.c (.bool true)) (.t 44)) 32 true 131071,cQ 46 32 45 262143]
def qos:List Step:=[.small 0 (cM 47 0 0),.small 1 (cN 48 47 1),.small 2 (cF 49 0 48 3),.small 3 (cL 50 49 7),.small 4 (cS 51 (.load (some 2) (.t 8)) 0),.aW 5 (cC 52 46 [.t 50,.t 51] 31),.small 6 (cM 6 52 63),.small 7 (cS 7 (.aJ (.c .aK)) 127)]
def qpR:Lc:=unS qos
def qqk:=X0 qpR qos (by kernel_rfl)
def qpa:Lc:=[cS 53 (.bin .add .no (.t 24) (.c (.int .i64 1))) 0,cM 24 53 1]
def qnP:ag:=(.seq (.region qoG) (.seq (.cond (.t 25) .skip (.exit 0)) (.seq (.block 1 (.seq (.region qpP) (.seq (.region qpQ) (.cond (.t 46) (.seq (.draw qpR) .ret) .skip)))) (.region qpa))))
def qoa:Lc:=[cM 54 1 0,cM 55 2 0,cC 56 60 [.t 54,.t 55] 3,cS 6 (.aJ (.c (.aj [] 1 0 2))) 7,cM 7 56 15]
def qnK:ag:=(.seq (.region qoD) (.seq (.region qoE) (.seq (.seq (.region qoF) (.cond (.t 16) (.seq (.region qpO) .ret) .skip)) (.seq (.seq (.region qpb) (.cond (.t 18) (.seq (.region qpc) (.block 0 (.loop qnP))) .skip)) (.seq (.region qoa) .ret)))))
def v29:aA:=⟨57,[.t 6,.t 7],true,qnK,fun i=>match i with|0=>[0,8,24,2,1,22,23]|_=>[],fun i=>match i with|0=>[2,1]|1=>[0,8,2,1,22,23,24]|_=>[]⟩
@[simp] theorem qqO:v29.body=qnK∧v29.results=[.t 6,.t 7]∧v29.own=true∧v29.head 0=[0,8,24,2,1,22,23]∧v29.tail 0=[2,1]∧v29.tail 1=[0,8,2,1,22,23,24]:=⟨rfl,rfl,rfl,rfl,rfl,rfl⟩
def MI:Lc:=[⟨some 2,.m (.box (.t 0)),none,0⟩,⟨some 3,.m (.box (.t 1)),none,0⟩,cS 4 (.aJ (.c (.bool false))) 0]
def N7:Lc:=[cF 5 0 2 0,cL 6 5 1,cF 7 0 3 0,cL 8 7 4,cS 9 (.bin .eql .bool (.t 6) (.t 8)) 15,cM 10 9 31,cG 11 (.fieldAddr 2 (.t 2)) 10 true 63,cG 12 (.load none (.t 11)) 10 true 127,cG 13 (.fieldAddr 2 (.t 3)) 10 true 63,cG 14 (.load none (.t 13)) 10 true 319,cG 15 (.bin .eql .int (.t 12) (.t 14)) 10 true 1023,cQ 16 10 15 2047,cM 17 16 4095,cG 18 (.fieldAddr 3 (.t 2)) 17 true 8191,cG 19 (.load none (.t 18)) 17 true 16383,cG 20 (.fieldAddr 3 (.t 3)) 17 true 8191,cG 21 (.load none (.t 20)) 17 true 40959,cG 22 (.bin .eql .bool (.t 19) (.t 21)) 17 true 131071,cQ 23 17 22 262143,cM 24 23 524287,cG 25 (.fieldAddr 4 (.t 2)) 24 true 1048575,cG 26 (.load (some 2) (.t 25)) 24 true 2097151,cG 27 (.fieldAddr 4 (.t 3)) 24 true 1048575,cG 28 (.load (some 2) (.t 27)) 24 true 5242879,cG 29 (.bin .eql (.flat [(0,.str),(1,.str)]) (.t 26) (.t 28)) 24 true 16777215,cQ 30 24 29 33554431,cM 31 30 67108863,cG 32 (.fieldAddr 1 (.t 2)) 31 true 134217727,cG 33 (.load none (.t 32)) 31 true 268435455,cG 34 (.fieldAddr 1 (.t 3)) 31 true 134217727,cG 35 (.load none (.t 34)) 31 true 671088639,G4 36 61 [.t 33,.t 35] 31 true 2147483647,cQ 37 31 36 4294967295,cM 4 37 8589934591]
def sq:ag:=(.seq (.region MI) (.seq (.region N7) .ret))
def v30:aA:=⟨38,[.t 4],true,sq,e8,e8⟩
@[simp] theorem qmZ:v30.body=sq∧v30.results=[.t 4]∧v30.own=true:=⟨rfl,rfl,rfl⟩
def MA:Lc:=[⟨some 2,.m (.alloc [.bool false,.aj [] 0 0 1,.int .i64 0,.bool false,.str [],.str []]),none,0⟩]
def NS:Lc:=[cM 5 0 0,cS 6 (.bin .eql (.iface false) (.t 5) (.c .aK)) 1]
def qaH:Lc:=[cS 7 (.build [.bool false,.aj [] 0 0 1,.int .i64 0,.bool false,.str [],.str []] []) 0,cH (.store 6 (.t 2) (.t 7)) 1]
def XH:Lc:=[cM 9 0 0,cC 10 41 [.t 9] 1,cM 8 10 3,cE 11 0 8 7,cE 12 1 8 7,⟨some 3,.m (.alloc [.str [],.str []]),none,0⟩,cH (.store 2 (.t 3) (.t 11)) 47,cM 4 12 127]
def QB:Lc:=[cM 13 0 0,cC 14 43 [.t 13] 1,cM 15 0 0,cC 16 62 [.t 15] 7,cM 17 4 0,cS 18 (.load (some 2) (.t 3)) 0,cS 19 (.build [.bool false,.aj [] 0 0 1,.int .i64 0,.bool false,.str [],.str []] [(0,1,(.c (.bool true))),(1,1,.t 14),(2,1,.t 16),(3,1,.t 17),(4,2,.t 18)]) 63,cH (.store 6 (.t 2) (.t 19)) 127]
def L8:List Step:=[.small 0 (cM 13 0 0),.small 2 (cM 15 0 0),.small 4 (cM 17 4 0),.small 5 (cS 18 (.load (some 2) (.t 3)) 0),.aW 1 (cC 14 43 [.t 13] 1),.aW 3 (cC 16 62 [.t 15] 7),.small 6 (cS 19 (.build [.bool false,.aj [] 0 0 1,.int .i64 0,.bool false,.str [],.str []] [(0,1,(.c (.bool true))),(1,1,.t 14),(2,1,.t 16),(3,1,.t 17),(4,2,.t 18)]) 63),.aW 7 (cH (.store 6 (.t 2) (.t 19)) 127)]
def XB:=X0 QB L8 (by kernel_rfl)
def qZ:ag:=(.seq (.region MA) (.seq (.seq (.region NS) (.cond (.t 6) (.seq (.region qaH) .ret) .skip)) (.seq (.region XH) (.seq (.draw QB) .ret))))
def v31:aA:=⟨20,[.cell 2 (some 6)],true,qZ,e8,e8⟩
@[simp] theorem qnr:v31.body=qZ∧v31.results=[.cell 2 (some 6)]∧v31.own=true:=⟨rfl,rfl,rfl⟩
def qbl:Lc:=[cS 2 (.aJ (.c (.bool false))) 0]
def qbT:Lc:=[cM 6 0 0,cS 7 (.len 1 (.t 6)) 1,cS 8 (.aJ (.c (.int .i64 0))) 0]
def Sk:Lc:=[cS 9 (.bin .lss .no (.t 8) (.t 7)) 0]
def qcc:Lc:=[cS 10 (.indexAddr 27 (.t 6) (.t 8)) 0,cS 11 (.load (some 27) (.t 10)) 1,⟨some 4,.m (.alloc [.int .i64 0,.int .u8 0,.str [],.str [],.str [],.str [],.int .u64 0,.int .u64 0,.int .u64 0,.int .i64 0,.aj [] 0 0 1,.str [],.int .u64 0,.int .i64 0,.str [],.int .u64 0,.int .i64 0,.int .u64 0,.int .i64 0,.int .i64 0,.str [],.str [],.int .u64 0,.str [],.int .i64 0,.int .i64 0,.str []]),none,0⟩,cH (.store 27 (.t 4) (.t 11)) 7]
def qba:Lc:=[cF 12 1 4 0,cS 13 (.load (some 8) (.t 12)) 1,⟨some 5,.m (.alloc [.int .u8 0,.str [],.str [],.str [],.str [],.int .u64 0,.int .u64 0,.int .u64 0]),none,0⟩,cH (.store 8 (.t 5) (.t 13)) 7]
def qaS:Lc:=[cF 14 1 5 0,cL 15 14 1,cS 16 (.len 0 (.t 15)) 3,cF 17 2 5 0,cL 18 17 8,cS 19 (.len 0 (.t 18)) 24,cS 20 (.bin .add .no (.t 16) (.t 19)) 63,cF 21 3 5 0,cL 22 21 128,cS 23 (.len 0 (.t 22)) 384,cS 24 (.bin .add .no (.t 20) (.t 23)) 1023,cF 25 4 5 0,cL 26 25 2048,cS 27 (.len 0 (.t 26)) 6144,cS 28 (.bin .add .no (.t 24) (.t 27)) 16383,cF 29 10 4 0,cL 30 29 32768,cS 31 (.len 1 (.t 30)) 98304,cS 32 (.bin .add .no (.t 28) (.t 31)) 262143,cF 33 11 4 0,cF 34 0 33 524288,cL 35 34 1572864,cS 36 (.len 0 (.t 35)) 3670016,cS 37 (.bin .add .no (.t 32) (.t 36)) 8388607,cF 38 11 4 0,cF 39 3 38 16777216,cL 40 39 50331648,cS 41 (.len 0 (.t 40)) 117440512,cS 42 (.bin .add .no (.t 37) (.t 41)) 268435455,cF 43 19 4 0,cF 44 1 43 536870912,cL 45 44 1610612736,cS 46 (.len 0 (.t 45)) 3758096384,cS 47 (.bin .add .no (.t 42) (.t 46)) 8589934591,cF 48 19 4 0,cF 49 2 48 17179869184,cL 50 49 51539607552,cS 51 (.len 0 (.t 50)) 120259084288,cS 52 (.bin .add .no (.t 47) (.t 51)) 274877906943,cF 53 23 4 0,cF 54 0 53 549755813888,cL 55 54 1649267441664,cS 56 (.len 0 (.t 55)) 3848290697216,cS 57 (.bin .add .no (.t 52) (.t 56)) 8796093022207,cF 58 23 4 0,cF 59 1 58 17592186044416,cF 60 2 59 52776558133248,cL 61 60 123145302310912,cS 62 (.len 0 (.t 61)) 263882790666240,cS 63 (.bin .add .no (.t 57) (.t 62)) 562949953421311,cS 64 (.bin .gtr .no (.t 63) (.c (.int .i64 1000))) 1125899906842623]
def qcA:Lc:=[cS 2 (.aJ (.c (.bool false))) 0]
def qbO:Lc:=[cS 65 (.bin .add .no (.t 8) (.c (.int .i64 1))) 0,cM 8 65 1]
def EA:ag:=(.seq (.region Sk) (.seq (.cond (.t 9) .skip (.exit 0)) (.seq (.block 1 (.seq (.region qcc) (.seq (.region qba) (.seq (.region qaS) (.cond (.t 64) (.seq (.region qcA) .ret) .skip))))) (.region qbO))))
def Xr:Lc:=[cM 66 0 0,cS 67 (.len 1 (.t 66)) 1,cS 68 (.bin .leq .no (.t 67) (.c (.int .i64 60))) 3,cM 2 68 7]
def Ak:ag:=(.seq (.region qbl) (.seq (.seq (.region qbT) (.block 0 (.loop EA))) (.seq (.region Xr) .ret)))
def UC:aA:=⟨69,[.t 2],true,Ak,fun i=>match i with|0=>[8,6,0,7]|_=>[],fun i=>match i with|0=>[0]|1=>[6,0,7,8]|_=>[]⟩
@[simp] theorem qmR:UC.body=Ak∧UC.results=[.t 2]∧UC.own=true∧UC.head 0=[8,6,0,7]∧UC.tail 0=[0]∧UC.tail 1=[6,0,7,8]:=⟨rfl,rfl,rfl,rfl,rfl,rfl⟩
def W4:Lc:=[cS 2 (.aJ (.c .aT)) 0]
def W7:Lc:=[cM 3 0 0,cS 4 (.bin .eql (.iface false) (.t 3) (.c .aK)) 1]
def qhW:Lc:=[cS 2 (.aJ (.c .aT)) 0]
def Rv:Lc:=[cM 5 0 0,⟨some 6,.m (.makeMap),none,0⟩,cS 7 (.build [.aK,.bK] [(0,1,.t 5),(1,1,.t 6)]) 3,⟨some 8,.m (.box (.t 7)),none,7⟩,cM 2 8 15]
def uf:ag:=(.seq (.region W4) (.seq (.seq (.region W7) (.cond (.t 4) (.seq (.region qhW) .ret) .skip)) (.seq (.region Rv) .ret)))
def v33:aA:=⟨9,[.t 2],true,uf,e8,e8⟩
@[simp] theorem qmN:v33.body=uf∧v33.results=[.t 2]∧v33.own=true:=⟨rfl,rfl,rfl⟩
def qb8:Lc:=[⟨some 2,.m (.box (.t 0)),none,0⟩,⟨some 3,.m (.box (.t 1)),none,0⟩,cS 4 (.aJ (.c (.bool false))) 0]
def qbP:Lc:=[cF 5 0 2 0,cL 6 5 1,cF 7 0 3 0,cL 8 7 4,cC 9 23 [.t 6,.t 8] 15,cM 10 9 31,cG 11 (.fieldAddr 1 (.t 2)) 10 true 63,cG 12 (.load none (.t 11)) 10 true 127,cG 13 (.fieldAddr 1 (.t 3)) 10 true 63,cG 14 (.load none (.t 13)) 10 true 319,cG 15 (.bin .eql .bool (.t 12) (.t 14)) 10 true 1023,cQ 16 10 15 2047,cM 17 16 4095,cG 18 (.fieldAddr 2 (.t 2)) 17 true 8191,cG 19 (.load none (.t 18)) 17 true 16383,cG 20 (.fieldAddr 2 (.t 3)) 17 true 8191,cG 21 (.load none (.t 20)) 17 true 40959,G4 22 63 [.t 19,.t 21] 17 true 131071,cQ 23 17 22 262143,cM 24 23 524287,cG 25 (.fieldAddr 3 (.t 2)) 24 true 1048575,cG 26 (.load none (.t 25)) 24 true 2097151,cG 27 (.fieldAddr 3 (.t 3)) 24 true 1048575,cG 28 (.load none (.t 27)) 24 true 5242879,cG 29 (.bin .eql .int (.t 26) (.t 28)) 24 true 16777215,cQ 30 24 29 33554431,cM 31 30 67108863,cG 32 (.fieldAddr 4 (.t 2)) 31 true 134217727,cG 33 (.load (some 5) (.t 32)) 31 true 268435455,cG 34 (.fieldAddr 4 (.t 3)) 31 true 134217727,cG 35 (.load (some 5) (.t 34)) 31 true 671088639,cG 36 (.bin .eql (.flat [(0,.str),(1,.int),(2,.int),(3,.str),(4,.int)]) (.t 33) (.t 35)) 31 true 2147483647,cQ 37 31 36 4294967295,cM 38 37 8589934591,cG 39 (.fieldAddr 9 (.t 2)) 38 true 17179869183,cG 40 (.load (some 3) (.t 39)) 38 true 34359738367,cG 41 (.fieldAddr 9 (.t 3)) 38 true 17179869183,cG 42 (.load (some 3) (.t 41)) 38 true 85899345919,cG 43 (.bin .eql (.flat [(0,.int),(1,.int),(2,.int)]) (.t 40) (.t 42)) 38 true 274877906943,cQ 44 38 43 549755813887,cM 45 44 1099511627775,cG 46 (.fieldAddr 12 (.t 2)) 45 true 2199023255551,cG 47 (.load (some 4) (.t 46)) 45 true 4398046511103,cG 48 (.fieldAddr 12 (.t 3)) 45 true 2199023255551,cG 49 (.load (some 4) (.t 48)) 45 true 10995116277759,cG 50 (.bin .eql (.flat [(0,.int),(1,.str),(2,.str),(3,.int)]) (.t 47) (.t 49)) 45 true 35184372088831,cQ 51 45 50 70368744177663,cM 52 51 140737488355327,cG 53 (.fieldAddr 16 (.t 2)) 52 true 281474976710655,cG 54 (.load (some 3) (.t 53)) 52 true 562949953421311,cG 55 (.fieldAddr 16 (.t 3)) 52 true 281474976710655,cG 56 (.load (some 3) (.t 55)) 52 true 1407374883553279,cG 57 (.bin .eql (.flat [(0,.int),(1,.int),(2,.str)]) (.t 54) (.t 56)) 52 true 4503599627370495,cQ 58 52 57 9007199254740991,cM 59 58 18014398509481983,cG 60 (.fieldAddr 19 (.t 2)) 59 true 36028797018963967,cG 61 (.load (some 6) (.t 60)) 59 true 72057594037927935,cG 62 (.fieldAddr 19 (.t 3)) 59 true 36028797018963967,cG 63 (.load (some 6) (.t 62)) 59 true 180143985094819839,G4 64 30 [.t 61,.t 63] 59 true 576460752303423487,cQ 65 59 64 1152921504606846975,cM 4 65 2305843009213693951]
def AI:ag:=(.seq (.region qb8) (.seq (.region qbP) .ret))
def v34:aA:=⟨66,[.t 4],true,AI,e8,e8⟩
@[simp] theorem qm5:v34.body=AI∧v34.results=[.t 4]∧v34.own=true:=⟨rfl,rfl,rfl⟩
def qbi:Lc:=[⟨some 3,.m (.box (.t 1)),none,0⟩,⟨some 4,.m (.alloc [.aj [] 0 0 1,.bool false,.aj [] 0 0 9,.int .u64 0,.str [],.int .u64 0,.int .i64 0,.str [],.int .u64 0,.int .i64 0,.int .u64 0,.int .i64 0,.int .i64 0,.str [],.str [],.int .u64 0,.int .i64 0,.int .i64 0,.str [],.bool false,.aj [] 0 0 1,.int .i64 0,.bool false,.str [],.str []]),none,0⟩]
def qbG:Lc:=[⟨some 5,.m (.alloc [.aj [] 0 0 1,.bool false,.aj [] 0 0 9,.int .u64 0,.str [],.int .u64 0,.int .i64 0,.str [],.int .u64 0,.int .i64 0,.int .u64 0,.int .i64 0,.int .i64 0,.str [],.str [],.int .u64 0,.int .i64 0,.int .i64 0,.str [],.bool false,.aj [] 0 0 1,.int .i64 0,.bool false,.str [],.str []]),none,0⟩]
def qck:Lc:=[cS 6 (.aJ (.c .aK)) 0]
def qbn:Lc:=[cF 8 1 3 0,cS 9 (.load (some 8) (.t 8)) 1,⟨some 7,.m (.alloc [.int .u8 0,.str [],.str [],.str [],.str [],.int .u64 0,.int .u64 0,.int .u64 0]),none,0⟩,cH (.store 8 (.t 7) (.t 9)) 7]
def qb3:Lc:=[cF 10 0 3 0,cL 11 10 1]
def qaT:Lc:=[cS 13 (.bin .eql .int (.t 11) (.c (.int .i64 0))) 0,cM 12 13 1]
def Xw:Lc:=[cM 15 0 0,cS 16 (.load (some 8) (.t 7)) 0,cC 17 64 [.t 15,.t 16] 3,cM 14 17 7,cE 18 0 14 15,cE 19 1 14 15,cE 20 2 14 15,cF 21 0 5 31,cH (.store 1 (.t 21) (.t 18)) 159,cF 22 1 5 447,cH (.store 1 (.t 22) (.t 19)) 959,cM 6 20 2047]
def qbI:Lc:=[cS 24 (.bin .eql .int (.t 11) (.c (.int .i64 1))) 0,cM 23 24 1]
def R0:Lc:=[cM 26 0 0,cS 27 (.load (some 8) (.t 7)) 0,cF 28 9 3 0,cL 29 28 4,cC 30 65 [.t 26,.t 27,.t 29] 15,cM 25 30 31,cE 31 0 25 63,cE 32 1 25 63,cF 33 2 5 127,cH (.store 1 (.t 33) (.t 31)) 383,cM 6 32 1023]
def qbZ:Lc:=[cS 35 (.bin .eql .int (.t 11) (.c (.int .i64 2))) 0,cM 34 35 1]
def Lm:Lc:=[cM 36 0 0,cS 37 (.load (some 8) (.t 7)) 0,cF 38 10 3 0,cL 39 38 4,cC 40 66 [.t 36,.t 37,.t 39] 15,cM 6 40 31]
def S6:Lc:=[cS 42 (.bin .eql .int (.t 11) (.c (.int .i64 3))) 0,cM 41 42 1]
def IT:Lc:=[cM 43 0 0,cS 44 (.load (some 8) (.t 7)) 0,cC 45 67 [.t 43,.t 44] 3,cM 6 45 7]
def Vb:Lc:=[cS 47 (.bin .eql .int (.t 11) (.c (.int .i64 4))) 0,cM 46 47 1]
def E9:Lc:=[cM 49 0 0,cS 50 (.load (some 8) (.t 7)) 0,cC 51 68 [.t 49,.t 50] 3,cM 48 51 7,cE 52 0 48 15,cE 53 1 48 15,cE 54 2 48 15,cF 55 3 5 31,cH (.store 1 (.t 55) (.t 52)) 159,cF 56 1 5 447,cH (.store 1 (.t 56) (.t 53)) 959,cM 6 54 2047]
def Vo:Lc:=[cS 58 (.bin .eql .int (.t 11) (.c (.int .i64 5))) 0,cM 57 58 1]
def FB:Lc:=[cM 60 0 0,cF 61 4 7 0,cL 62 61 2,cC 63 42 [.t 60,.t 62] 7,cM 59 63 15,cE 64 0 59 31,cE 65 1 59 31,cE 66 2 59 31,cF 67 4 5 63,cH (.store 5 (.t 67) (.t 64)) 319,cF 68 1 5 895,cH (.store 1 (.t 68) (.t 65)) 1919,cM 6 66 4095]
def WX:Lc:=[cS 70 (.bin .eql .int (.t 11) (.c (.int .i64 6))) 0,cM 69 70 1]
def F2:Lc:=[cM 72 0 0,cF 73 4 7 0,cL 74 73 2,cF 75 5 7 0,cL 76 75 8,cC 77 69 [.t 72,.t 74,.t 76] 31,cM 71 77 63,cE 78 0 71 127,cE 79 1 71 127,cE 80 2 71 127,cF 81 9 5 255,cH (.store 3 (.t 81) (.t 78)) 1279,cF 82 1 5 3583,cH (.store 1 (.t 82) (.t 79)) 7679,cM 6 80 16383]
def UO:Lc:=[cS 84 (.bin .eql .int (.t 11) (.c (.int .i64 7))) 0,cM 83 84 1]
def F6:Lc:=[cM 86 0 0,cF 87 4 7 0,cL 88 87 2,cF 89 5 7 0,cL 90 89 8,cF 91 6 7 0,cL 92 91 32,cC 93 70 [.t 86,.t 88,.t 90,.t 92] 127,cM 85 93 255,cE 94 0 85 511,cE 95 1 85 511,cE 96 2 85 511,cF 97 12 5 1023,cH (.store 4 (.t 97) (.t 94)) 5119,cF 98 1 5 14335,cH (.store 1 (.t 98) (.t 95)) 30719,cM 6 96 65535]
def Xu:Lc:=[cS 100 (.bin .eql .int (.t 11) (.c (.int .i64 8))) 0,cM 99 100 1]
def EL:Lc:=[cM 102 0 0,cF 103 4 7 0,cL 104 103 2,cF 105 1 7 0,cL 106 105 8,cC 107 71 [.t 102,.t 104,.t 106] 31,cM 101 107 63,cE 108 0 101 127,cE 109 1 101 127,cE 110 2 101 127,cF 111 16 5 255,cH (.store 3 (.t 111) (.t 108)) 1279,cF 112 1 5 3583,cH (.store 1 (.t 112) (.t 109)) 7679,cM 6 110 16383]
def WL:Lc:=[cS 114 (.bin .eql .int (.t 11) (.c (.int .i64 9))) 0,cM 113 114 1]
def K2:Lc:=[cM 115 0 0,cF 116 4 7 0,cL 117 116 2,cF 118 11 3 0,cS 119 (.load (some 5) (.t 118)) 8,cC 120 72 [.t 115,.t 117,.t 119] 31,cM 6 120 63]
def VH:Lc:=[cS 122 (.bin .eql .int (.t 11) (.c (.int .i64 10))) 0,cM 121 122 1]
def Kv:Lc:=[cM 123 0 0,cF 124 4 7 0,cL 125 124 2,cF 126 5 7 0,cL 127 126 8,cF 128 16 3 0,cS 129 (.load (some 3) (.t 128)) 32,cC 130 73 [.t 123,.t 125,.t 127,.t 129] 127,cM 6 130 255]
def Xo:Lc:=[cS 132 (.bin .eql .int (.t 11) (.c (.int .i64 11))) 0,cM 131 132 1]
def JQ:Lc:=[cM 133 0 0,cF 134 4 7 0,cL 135 134 2,cF 136 23 3 0,cS 137 (.load (some 4) (.t 136)) 8,cC 138 74 [.t 133,.t 135,.t 137] 31,cM 6 138 63]
def QZ:Lc:=[cS 140 (.bin .eql .int (.t 11) (.c (.int .i64 12))) 0,cM 139 140 1]
def J9:Lc:=[cM 141 0 0,cF 142 4 7 0,cL 143 142 2,cF 144 5 7 0,cL 145 144 8,cF 146 6 7 0,cL 147 146 32,cF 148 19 3 0,cS 149 (.load (some 4) (.t 148)) 128,cC 150 75 [.t 141,.t 143,.t 145,.t 147,.t 149] 511,cM 6 150 1023]
def Sr:Lc:=[cS 152 (.bin .eql .int (.t 11) (.c (.int .i64 13))) 0,cM 151 152 1]
def KB:Lc:=[cM 153 0 0,cF 154 4 7 0,cL 155 154 2,cF 156 5 7 0,cL 157 156 8,cF 158 6 7 0,cL 159 158 32,cC 160 76 [.t 153,.t 155,.t 157,.t 159] 127,cM 6 160 255]
def R3:Lc:=[cM 161 6 0,cC 162 31 [.t 161] 1,cF 163 19 5 3,cH (.store 6 (.t 163) (.t 162)) 7]
def TM:Lc:=[cS 164 (.load (some 25) (.t 5)) 0,cH (.store 25 (.t 4) (.t 164)) 1]
def zb:ag:=(.seq (.region qbi) (.seq (.region qbG) (.seq (.region qck) (.seq (.region qbn) (.seq (.seq (.region qb3) (.block 0 (.seq (.region qaT) (.cond (.t 12) (.region Xw) (.seq (.region qbI) (.cond (.t 23) (.region R0) (.seq (.region qbZ) (.cond (.t 34) (.region Lm) (.seq (.region S6) (.cond (.t 41) (.region IT) (.seq (.region Vb) (.cond (.t 46) (.region E9) (.seq (.region Vo) (.cond (.t 57) (.region FB) (.seq (.region WX) (.cond (.t 69) (.region F2) (.seq (.region UO) (.cond (.t 83) (.region F6) (.seq (.region Xu) (.cond (.t 99) (.region EL) (.seq (.region WL) (.cond (.t 113) (.region K2) (.seq (.region VH) (.cond (.t 121) (.region Kv) (.seq (.region Xo) (.cond (.t 131) (.region JQ) (.seq (.region QZ) (.cond (.t 139) (.region J9) (.seq (.region Sr) (.cond (.t 151) (.region KB) .skip)))))))))))))))))))))))))))))) (.seq (.region R3) (.seq (.region TM) .ret)))))))
def v35:aA:=⟨165,[.cell 4 (some 25)],true,zb,e8,fun i=>match i with|0=>[4,5,6]|_=>[]⟩
@[simp] theorem qmP:v35.body=zb∧v35.results=[.cell 4 (some 25)]∧v35.own=true∧v35.tail 0=[4,5,6]:=⟨rfl,rfl,rfl,rfl⟩
def qpS:Lc:=[cS 4 (.aJ (.c (.bool false))) 0]
def qpT:Lc:=[cM 6 0 0,cS 7 (.len 1 (.t 6)) 1,cM 8 1 0,cS 9 (.len 1 (.t 8)) 4,cS 10 (.bin .neq .int (.t 7) (.t 9)) 15]
def qqp:Lc:=[cS 4 (.aJ (.c (.bool false))) 0]
def qpU:Lc:=[cM 11 0 0,cS 12 (.len 1 (.t 11)) 1,cS 13 (.aJ (.c (.int .i64 0))) 0]
def qpd:Lc:=[cS 14 (.bin .lss .no (.t 13) (.t 12)) 0]
def qpV:Lc:=[cM 15 13 0,cM 5 15 1]
def qou:List Step:=[.small 0 (cM 16 0 0),.small 1 (cM 17 5 0),.small 2 (cS 18 (.indexAddr 3 (.t 16) (.t 17)) 3),.small 3 (cF 19 0 18 7),.small 4 (cL 20 19 15),.small 5 (cM 21 1 0),.small 6 (cM 22 5 0),.small 7 (cS 23 (.indexAddr 3 (.t 21) (.t 22)) 96),.small 8 (cF 24 0 23 224),.small 9 (cL 25 24 480),.small 10 (cS 26 (.bin .neq .str (.t 20) (.t 25)) 1023),.small 11 (cM 27 26 2047),.small 12 (kJ 28 0 27 false 4095),.small 13 (kJ 29 5 27 false 4095),.small 14 (cG 30 (.indexAddr 3 (.t 28) (.t 29)) 27 false 16383),.small 15 (cG 31 (.fieldAddr 1 (.t 30)) 27 false 32767),.small 16 (cG 32 (.load none (.t 31)) 27 false 65535),.small 17 (kJ 33 1 27 false 4095),.small 18 (kJ 34 5 27 false 4095),.small 19 (cG 35 (.indexAddr 3 (.t 33) (.t 34)) 27 false 397311),.small 20 (cG 36 (.fieldAddr 1 (.t 35)) 27 false 921599),.small 21 (cG 37 (.load none (.t 36)) 27 false 1970175),.small 22 (cG 38 (.bin .neq .bool (.t 32) (.t 37)) 27 false 4194303),.small 23 (cP 39 27 38 8388607),.small 24 (cM 40 39 16777215),.small 25 (kJ 41 0 40 false 33554431),.small 26 (kJ 42 5 40 false 33554431),.small 27 (cG 43 (.indexAddr 3 (.t 41) (.t 42)) 40 false 134217727),.small 28 (cG 44 (.fieldAddr 2 (.t 43)) 40 false 268435455),.small 29 (cG 45 (.load none (.t 44)) 40 false 536870911),.small 30 (kJ 46 1 40 false 33554431),.small 31 (kJ 47 5 40 false 33554431),.small 32 (cG 48 (.indexAddr 3 (.t 46) (.t 47)) 40 false 3254779903),.small 33 (cG 49 (.fieldAddr 2 (.t 48)) 40 false 7549747199),.small 34 (cG 50 (.load none (.t 49)) 40 false 16139681791),.aW 35 (G4 51 23 [.t 45,.t 50] 40 false 34359738367),.small 36 (cG 52 (.un .not (.t 51)) 40 false 68719476735),.small 37 (cP 53 40 52 137438953471)]
def qpW:Lc:=unS qou
def qql:=X0 qpW qou (by kernel_rfl)
def qqq:Lc:=[cS 4 (.aJ (.c (.bool false))) 0]
def qpX:Lc:=[cS 54 (.bin .add .no (.t 13) (.c (.int .i64 1))) 0,cM 13 54 1]
def qob:ag:=(.seq (.region qpd) (.seq (.cond (.t 14) .skip (.exit 0)) (.seq (.block 1 (.seq (.region qpV) (.seq (.draw qpW) (.cond (.t 53) (.seq (.region qqq) .ret) .skip)))) (.region qpX))))
def qot:Lc:=[cS 4 (.aJ (.c (.bool true))) 0]
def qnX:ag:=(.seq (.region qpS) (.seq (.seq (.region qpT) (.cond (.t 10) (.seq (.region qqp) .ret) .skip)) (.seq (.seq (.region qpU) (.block 0 (.loop qob))) (.seq (.region qot) .ret))))
def v37:aA:=⟨55,[.t 4],true,qnX,fun i=>match i with|0=>[13,0,1,12]|_=>[],fun i=>match i with|0=>[]|1=>[0,1,12,13]|_=>[]⟩
@[simp] theorem qqP:v37.body=qnX∧v37.results=[.t 4]∧v37.own=true∧v37.head 0=[13,0,1,12]∧v37.tail 0=[]∧v37.tail 1=[0,1,12,13]:=⟨rfl,rfl,rfl,rfl,rfl,rfl⟩
def qcn:Lc:=[cS 2 (.aJ (.c (.aj [] 1 0 3))) 0]
def qbL:Lc:=[cM 8 0 0,cS 9 (.bin .eql .aT (.t 8) (.c .aT)) 1]
def qgu:Lc:=[cS 2 (.aJ (.c (.aj [] 1 0 3))) 0]
def qaN:Lc:=[cS 3 (.aJ (.c (.aj [] 1 0 1))) 0]
def qaQ:Lc:=[cM 10 0 0,cN 11 10 1,cF 12 1 11 3,cL 13 12 7,⟨some 14,.h (.range (.t 13)),none,15⟩]
def Xb:Lc:=[⟨some 15,.next (.t 14),none,0⟩,cE 16 0 15 1]
def qbd:Lc:=[cS 17 (.entry (.t 14)) 0,cE 18 0 17 1,cM 4 18 3]
def qbp:Lc:=[cM 19 3 0,cM 20 4 0,⟨some 21,.m (.buildSlice 1 1 [.str []] [(0,1,.t 20)]),none,2⟩,⟨some 22,.h (.append 1 16 false (.t 19) (.t 21)),none,7⟩,cM 3 22 15]
def DP:ag:=(.seq (.region Xb) (.seq (.cond (.t 16) .skip (.exit 0)) (.block 1 (.seq (.region qbd) (.region qbp)))))
def R4:Lc:=[cM 23 3 0,cC 24 90 [.t 23] 1]
def Js:Lc:=[cS 5 (.aJ (.c (.aj [] 1 0 3))) 0]
def I4:Lc:=[cM 25 3 0,cS 26 (.len 1 (.t 25)) 1,cS 27 (.aJ (.c (.int .i64 0))) 0]
def L3:Lc:=[cS 28 (.bin .lss .no (.t 27) (.t 26)) 0]
def R8:Lc:=[cS 29 (.indexAddr 1 (.t 25) (.t 27)) 0,cL 30 29 1,cM 7 30 3]
def Ov:List Step:=[.small 0 (cM 31 5 0),.small 1 (cM 32 7 0),.small 2 (cM 33 0 0),.small 3 (cN 34 33 4),.small 4 (cF 35 1 34 12),.small 5 (cL 36 35 28),.small 6 (cM 37 7 0),.small 7 (cS 38 (.lookup .str (.agg [.bool false,.aj [] 0 0 1]) false (.t 36) (.t 37)) 124),.small 8 (cS 39 (.field 0 none (.t 38)) 252),.small 9 (cM 40 0 0),.small 10 (cN 41 40 512),.small 11 (cF 42 1 41 1536),.small 12 (cL 43 42 3584),.small 13 (cM 44 7 0),.small 14 (cS 45 (.lookup .str (.agg [.bool false,.aj [] 0 0 1]) false (.t 43) (.t 44)) 15872),.small 15 (cS 46 (.field 1 none (.t 45)) 32256),.aW 16 (cC 47 49 [.t 46] 65024),.small 17 (cS 48 (.build [.str [],.bool false,.aj [] 0 0 1] [(0,1,.t 32),(1,1,.t 39),(2,1,.t 47)]) 131070),.small 18 ⟨some 49,.m (.buildSlice 3 1 [.str [],.bool false,.aj [] 0 0 1] [(0,3,.t 48)]),none,262142⟩,.aW 19 ⟨some 50,.h (.append 3 48 false (.t 31) (.t 49)),none,524287⟩,.small 20 (cM 5 50 1048575)]
def Kc:Lc:=unS Ov
def YM:=X0 Kc Ov (by kernel_rfl)
def Xv:Lc:=[cS 51 (.bin .add .no (.t 27) (.c (.int .i64 1))) 0,cM 27 51 1]
def vG:ag:=(.seq (.region L3) (.seq (.cond (.t 28) .skip (.exit 2)) (.seq (.block 3 (.seq (.region R8) (.draw Kc))) (.region Xv))))
def DW:Lc:=[cM 52 5 0,cM 2 52 1]
def A6:ag:=(.seq (.region qcn) (.seq (.seq (.region qbL) (.cond (.t 9) (.seq (.region qgu) .ret) .skip)) (.seq (.region qaN) (.seq (.seq (.region qaQ) (.block 0 (.loop DP))) (.seq (.region R4) (.seq (.region Js) (.seq (.seq (.region I4) (.block 2 (.loop vG))) (.seq (.region DW) .ret))))))))
def Is:aA:=⟨53,[.t 2],true,A6,fun i=>match i with|0=>[3,14,0]|2=>[27,0,25,5,26]|_=>[],fun i=>match i with|0=>[0,3]|1=>[3,14,0]|2=>[5]|3=>[0,25,5,26,27]|_=>[]⟩
@[simp] theorem qm2:Is.body=A6∧Is.results=[.t 2]∧Is.own=true∧Is.head 0=[3,14,0]∧Is.head 2=[27,0,25,5,26]∧Is.tail 0=[0,3]∧Is.tail 1=[3,14,0]∧Is.tail 2=[5]∧Is.tail 3=[0,25,5,26,27]:=⟨rfl,rfl,rfl,rfl,rfl,rfl,rfl,rfl,rfl⟩
def qpY:Lc:=[⟨some 2,.m (.alloc [.str [],.str []]),none,0⟩]
def qpZ:Lc:=[cM 3 0 0,cM 4 0 0,cS 5 (.bin .add .no (.t 4) (.c (.str [0]))) 2,cS 6 (.build [.str [],.str []] [(0,1,.t 3),(1,1,.t 5)]) 7,cH (.store 2 (.t 2) (.t 6)) 15]
def qnY:ag:=(.seq (.region qpY) (.seq (.region qpZ) .ret))
def v40:aA:=⟨7,[.cell 2 (some 2)],true,qnY,e8,e8⟩
@[simp] theorem qqQ:v40.body=qnY∧v40.results=[.cell 2 (some 2)]∧v40.own=true:=⟨rfl,rfl,rfl⟩
def MW:Lc:=[⟨some 2,.m (.alloc [.str [],.str []]),none,0⟩,cS 3 (.aJ (.c (.bool false))) 0]
def Oc:Lc:=[⟨some 4,.m (.alloc [.str [],.str []]),none,0⟩]
def Nw:Lc:=[cM 5 0 0,cS 6 (.bin .neq (.iface false) (.t 5) (.c .aK)) 1,cM 7 6 3,kJ 8 0 7 true 7,cG 9 (.fm 187 (.t 4)) 7 true 7,G4 10 97 [.t 8,.t 9] 7 true 31,cQ 11 7 10 63]
def OG:Lc:=[cS 12 (.load (some 2) (.t 4)) 0,cH (.store 2 (.t 2) (.t 12)) 1,cS 3 (.aJ (.c (.bool true))) 3]
def R9:Lc:=[cS 13 (.build [.str [],.str []] []) 0,cH (.store 2 (.t 2) (.t 13)) 1,cS 3 (.aJ (.c (.bool false))) 3]
def rW:ag:=(.seq (.region MW) (.seq (.region Oc) (.seq (.seq (.region Nw) (.cond (.t 11) (.seq (.region OG) .ret) .skip)) (.seq (.region R9) .ret))))
def v41:aA:=⟨14,[.cell 2 (some 2),.t 3],true,rW,e8,e8⟩
@[simp] theorem qnl:v41.body=rW∧v41.results=[.cell 2 (some 2),.t 3]∧v41.own=true:=⟨rfl,rfl,rfl⟩
def GD:Lc:=[⟨some 4,.m (.alloc [.str [],.int .u64 0,.int .i64 0,.str [],.int .u64 0]),none,0⟩,cS 5 (.aJ (.c (.bool false))) 0,cS 6 (.aJ (.c .aK)) 2]
def GK:Lc:=[cM 7 0 0,cM 8 1 0,cC 9 99 [.t 8] 2,⟨some 10,.call (.c (.func 98 [] [])) [.t 7,.t 9,(.c (.func 100 [] []))],none,7⟩,cE 11 0 10 15,cE 12 1 10 15,cE 13 2 10 15,cH (.store 5 (.t 4) (.t 11)) 127,cM 5 12 255,cM 6 13 511]
def p6:ag:=(.seq (.region GD) (.seq (.region GK) .ret))
def v42:aA:=⟨14,[.cell 4 (some 5),.t 5,.t 6],true,p6,e8,e8⟩
@[simp] theorem qmV:v42.body=p6∧v42.results=[.cell 4 (some 5),.t 5,.t 6]∧v42.own=true:=⟨rfl,rfl,rfl⟩
def Nh:Lc:=[cS 2 (.aJ (.c (.aj [] 1 0 1))) 0]
def NA:Lc:=[cS 3 (.aJ (.c (.aj [] 1 0 1))) 0]
def Nf:Lc:=[⟨some 4,.m (.alloc [.aT]),none,0⟩]
def BA:Lc:=[cM 5 0 0,cS 6 (.bin .neq (.iface false) (.t 5) (.c .aK)) 1,cM 7 6 3,kJ 8 0 7 true 7,cG 9 (.fm 192 (.t 4)) 7 true 7,G4 10 97 [.t 8,.t 9] 7 true 31,cQ 11 7 10 63,cM 12 11 127,cG 13 (.load none (.t 4)) 12 true 255,cG 14 (.bin .neq .aT (.t 13) (.c .aT)) 12 true 511,cQ 15 12 14 1023]
def Mo:Lc:=[cM 16 3 0,cL 17 4 0,cN 18 17 2,cF 19 0 18 6,cL 20 19 14,⟨some 21,.m (.buildSlice 1 1 [.str []] [(0,1,.t 20)]),none,30⟩,⟨some 22,.h (.append 1 16 false (.t 16) (.t 21)),none,63⟩,cM 3 22 127]
def Ns:Lc:=[cL 23 4 0,cN 24 23 1,cF 25 1 24 3,cL 26 25 7,cM 0 26 15]
def tP:ag:=(.seq (.seq (.region BA) (.cond (.t 15) .skip (.exit 0))) (.block 1 (.seq (.region Mo) (.region Ns))))
def Ol:Lc:=[cM 27 3 0,cM 2 27 1]
def qY:ag:=(.seq (.region Nh) (.seq (.region NA) (.seq (.region Nf) (.seq (.block 0 (.loop tP)) (.seq (.region Ol) .ret)))))
def v43:aA:=⟨28,[.t 2],true,qY,fun i=>match i with|0=>[4,3,0]|_=>[],fun i=>match i with|0=>[3]|1=>[4,3,0]|_=>[]⟩
@[simp] theorem qns:v43.body=qY∧v43.results=[.t 2]∧v43.own=true∧v43.head 0=[4,3,0]∧v43.tail 0=[3]∧v43.tail 1=[4,3,0]:=⟨rfl,rfl,rfl,rfl,rfl,rfl⟩
def qaM:Lc:=[cS 2 (.aJ (.c .aT)) 0]
def qaZ:Lc:=[⟨some 6,.m (.makeMap),none,0⟩,cS 7 (.build [.bK] [(0,1,.t 6)]) 1,⟨some 8,.m (.box (.t 7)),none,3⟩,cM 3 8 7]
def qbb:Lc:=[cM 9 0 0,cS 10 (.len 1 (.t 9)) 1,cS 11 (.aJ (.c (.int .i64 0))) 0]
def Ro:Lc:=[cS 12 (.bin .lss .no (.t 11) (.t 10)) 0]
def qby:Lc:=[cS 13 (.indexAddr 2 (.t 9) (.t 11)) 0,cS 14 (.load (some 2) (.t 13)) 1,⟨some 5,.m (.alloc [.str [],.aj [] 0 0 1]),none,0⟩,cH (.store 2 (.t 5) (.t 14)) 7]
def UK:List Step:=[.small 0 (cM 15 3 0),.small 1 (cN 16 15 1),.small 2 (cF 17 0 16 3),.small 3 (cL 18 17 7),.small 4 (cF 19 0 5 0),.small 5 (cL 20 19 16),.small 6 (cF 21 1 5 0),.small 7 (cL 22 21 64),.aW 8 (cC 23 49 [.t 22] 192),.aW 9 (cH (.mapUpdate .str (.t 18) (.t 20) (.t 23)) 511)]
def VT:Lc:=unS UK
def qc3:=X0 VT UK (by kernel_rfl)
def qcq:Lc:=[cS 24 (.bin .add .no (.t 11) (.c (.int .i64 1))) 0,cM 11 24 1]
def Ez:ag:=(.seq (.region Ro) (.seq (.cond (.t 12) .skip (.exit 0)) (.seq (.block 1 (.seq (.region qby) (.draw VT))) (.region qcq))))
def Rc:Lc:=[cM 25 3 0,cM 2 25 1]
def Ae:ag:=(.seq (.region qaM) (.seq (.region qaZ) (.seq (.seq (.region qbb) (.block 0 (.loop Ez))) (.seq (.region Rc) .ret))))
def XX:aA:=⟨26,[.t 2],true,Ae,fun i=>match i with|0=>[11,3,9,10]|_=>[],fun i=>match i with|0=>[3]|1=>[3,9,10,11]|_=>[]⟩
@[simp] theorem qnk:XX.body=Ae∧XX.results=[.t 2]∧XX.own=true∧XX.head 0=[11,3,9,10]∧XX.tail 0=[3]∧XX.tail 1=[3,9,10,11]:=⟨rfl,rfl,rfl,rfl,rfl,rfl⟩
def qcz:Lc:=[⟨some 3,.m (.box (.t 1)),none,0⟩,cS 4 (.aJ (.c (.aj [] 1 0 2))) 0]
def qaE:Lc:=[cS 5 (.aJ (.c (.aj [] 1 0 2))) 0]
def qaW:Lc:=[cM 8 0 0,cC 9 101 [.t 8] 1,cS 10 (.len 1 (.t 9)) 3,cS 11 (.aJ (.c (.int .i64 0))) 0]
def ON:Lc:=[cS 12 (.bin .lss .no (.t 11) (.t 10)) 0]
def Sn:Lc:=[cS 13 (.indexAddr 1 (.t 9) (.t 11)) 0,cL 14 13 1,cM 7 14 3]
def XK:Lc:=[cS 15 (.load (some 2) (.t 3)) 0,cM 16 7 0,cC 17 58 [.t 15,.t 16] 3]
def qa0:Lc:=[cM 18 5 0,cM 19 7 0,cM 20 0 0,cN 21 20 4,cF 22 0 21 12,cL 23 22 28,cM 24 7 0,cS 25 (.lookup .str (.aj [] 0 0 1) false (.t 23) (.t 24)) 124,cC 26 49 [.t 25] 252,cS 27 (.build [.str [],.aj [] 0 0 1] [(0,1,.t 19),(1,1,.t 26)]) 510,⟨some 28,.m (.buildSlice 2 1 [.str [],.aj [] 0 0 1] [(0,2,.t 27)]),none,1022⟩,⟨some 29,.h (.append 2 40 false (.t 18) (.t 28)),none,2047⟩,cM 5 29 4095]
def QE:Lc:=[cS 30 (.bin .add .no (.t 11) (.c (.int .i64 1))) 0,cM 11 30 1]
def FK:ag:=(.seq (.region ON) (.seq (.cond (.t 12) .skip (.exit 0)) (.seq (.block 1 (.seq (.region Sn) (.seq (.region XK) (.cond (.t 17) (.region qa0) .skip)))) (.region QE))))
def Ta:Lc:=[cM 31 5 0,cM 4 31 1]
def Bv:ag:=(.seq (.region qcz) (.seq (.region qaE) (.seq (.seq (.region qaW) (.block 0 (.loop FK))) (.seq (.region Ta) .ret))))
def v46:aA:=⟨32,[.t 4],true,Bv,fun i=>match i with|0=>[11,0,5,3,9,10]|_=>[],fun i=>match i with|0=>[5]|1=>[0,5,3,9,10,11]|_=>[]⟩
@[simp] theorem qm0:v46.body=Bv∧v46.results=[.t 4]∧v46.own=true∧v46.head 0=[11,0,5,3,9,10]∧v46.tail 0=[5]∧v46.tail 1=[0,5,3,9,10,11]:=⟨rfl,rfl,rfl,rfl,rfl,rfl⟩
def Rs:Lc:=[⟨some 5,.m (.box (.t 2)),none,0⟩]
def Uk:Lc:=[cF 6 0 5 0,cL 7 6 1]
def qbq:Lc:=[cM 8 0 0,cN 9 8 1,cF 10 0 9 3,cL 11 10 7,cM 12 1 0,cH (.delete .str (.t 11) (.t 12)) 31]
def We:List Step:=[.small 0 (cM 13 0 0),.small 1 (cN 14 13 1),.small 2 (cF 15 0 14 3),.small 3 (cL 16 15 7),.small 4 (cM 17 1 0),.small 5 (cF 18 1 5 0),.small 6 (cL 19 18 32),.aW 7 (cH (.mapUpdate .str (.t 16) (.t 17) (.t 19)) 127)]
def VY:Lc:=unS We
def qdj:=X0 VY We (by kernel_rfl)
def vh:ag:=(.seq (.region Rs) (.seq (.seq (.region Uk) (.cond (.t 7) (.seq (.region qbq) .ret) .skip)) (.draw VY)))
def v48:aA:=⟨20,[],true,vh,e8,e8⟩
@[simp] theorem qnq:v48.body=vh∧v48.results=[]∧v48.own=true:=⟨rfl,rfl,rfl⟩
def qiX:Lc:=[cS 2 (.aJ (.c (.aj [] 1 0 1))) 0]
def qi4:Lc:=[cM 3 0 0,cS 4 (.bin .eql .bu (.t 3) (.c .bu)) 1]
def qir:Lc:=[cS 2 (.aJ (.c (.aj [] 1 0 1))) 0]
def Gu:Lc:=[⟨some 5,.m (.buildSlice 1 0 [.int .u8 0] []),none,0⟩,cM 6 0 0,⟨some 7,.h (.append 1 1 false (.t 5) (.t 6)),none,3⟩,cM 2 7 7]
def He:ag:=(.seq (.region qiX) (.seq (.seq (.region qi4) (.cond (.t 4) (.seq (.region qir) .ret) .skip)) (.seq (.region Gu) .ret)))
def v49:aA:=⟨8,[.t 2],true,He,e8,e8⟩
@[simp] theorem qm1:v49.body=He∧v49.results=[.t 2]∧v49.own=true:=⟨rfl,rfl,rfl⟩
def qp0:Lc:=[⟨some 2,.m (.alloc [.str [],.str []]),none,0⟩]
def qp1:Lc:=[cM 3 0 0,cM 4 0 0,cS 5 (.bin .add .no (.t 4) (.c (.str [0]))) 2,cS 6 (.build [.str [],.str []] [(0,1,.t 3),(1,1,.t 5)]) 7,cH (.store 2 (.t 2) (.t 6)) 15]
def qnZ:ag:=(.seq (.region qp0) (.seq (.region qp1) .ret))
def v56:aA:=⟨7,[.cell 2 (some 2)],true,qnZ,e8,e8⟩
@[simp] theorem qqR:v56.body=qnZ∧v56.results=[.cell 2 (some 2)]∧v56.own=true:=⟨rfl,rfl,rfl⟩
def qp2:Lc:=[⟨some 1,.m (.box (.t 0)),none,0⟩,cS 2 (.aJ (.c (.bool false))) 0]
def qp3:Lc:=[cF 3 1 1 0,cL 4 3 1,cS 5 (.bin .eql .str (.t 4) (.c (.str []))) 3,cM 6 5 7,cG 7 (.fieldAddr 1 (.t 1)) 6 false 15,cG 8 (.load none (.t 7)) 6 false 31,cG 9 (.fieldAddr 0 (.t 1)) 6 false 15,cG 10 (.load none (.t 9)) 6 false 79,cG 11 (.bin .gtr .no (.t 8) (.t 10)) 6 false 255,cP 12 6 11 511,cM 2 12 1023]
def qn0:ag:=(.seq (.region qp2) (.seq (.region qp3) .ret))
def v57:aA:=⟨13,[.t 2],true,qn0,e8,e8⟩
@[simp] theorem qqS:v57.body=qn0∧v57.results=[.t 2]∧v57.own=true:=⟨rfl,rfl,rfl⟩
def qa5:Lc:=[⟨some 2,.m (.box (.t 0)),none,0⟩,cS 4 (.aJ (.c (.bool false))) 0]
def qaz:Lc:=[cF 5 0 2 0,cL 6 5 1,cM 7 1 0,cS 8 (.bin .leq .no (.t 6) (.t 7)) 7,cM 9 8 15,cG 10 (.fieldAddr 1 (.t 2)) 9 true 31,cG 11 (.load none (.t 10)) 9 true 63,cG 12 (.bin .eql .str (.t 11) (.c (.str []))) 9 true 127,kJ 13 12 9 true 255,kJ 14 1 13 false 511,cG 15 (.fieldAddr 1 (.t 2)) 13 false 511,cG 16 (.load none (.t 15)) 13 false 1535,cG 17 (.bin .lss .no (.t 14) (.t 16)) 13 false 4095,cG 18 (.pick (.t 13) (.c (.bool true)) (.t 17)) 9 true 8191,cQ 19 9 18 16383,cM 4 19 32767]
def zK:ag:=(.seq (.region qa5) (.seq (.region qaz) .ret))
def v58:aA:=⟨20,[.t 4],true,zK,e8,e8⟩
@[simp] theorem qmY:v58.body=zK∧v58.results=[.t 4]∧v58.own=true:=⟨rfl,rfl,rfl⟩
def qay:Lc:=[⟨some 3,.m (.box (.t 1)),none,0⟩,cS 4 (.aJ (.c (.bool false))) 0]
def qbw:Lc:=[cM 5 0 0,cS 6 (.lP 104 [] [.t 3]) 0,cC 7 103 [.t 5,.t 6] 3,cM 4 7 7]
def zm:ag:=(.seq (.region qay) (.seq (.region qbw) .ret))
def v59:aA:=⟨8,[.t 4],true,zm,e8,e8⟩
@[simp] theorem qnn:v59.body=zm∧v59.results=[.t 4]∧v59.own=true:=⟨rfl,rfl,rfl⟩
def qcy:Lc:=[cS 4 (.aJ (.c .aK)) 0]
def qa1:Lc:=[cM 5 0 0,cM 6 1 0,cS 7 (.build [.str [],.str []] [(0,1,.t 5),(1,1,.t 6)]) 3,cS 8 (.fm 45 (.t 7)) 7,cM 4 8 15]
def AP:ag:=(.seq (.region qcy) (.seq (.region qa1) .ret))
def v60:aA:=⟨9,[.t 4],true,AP,e8,e8⟩
@[simp] theorem qng:v60.body=AP∧v60.results=[.t 4]∧v60.own=true:=⟨rfl,rfl,rfl⟩
def Tc:Lc:=[cS 4 (.aJ (.c (.bool false))) 0]
def Wb:Lc:=[cM 6 0 0,cS 7 (.len 1 (.t 6)) 1,cM 8 1 0,cS 9 (.len 1 (.t 8)) 4,cS 10 (.bin .neq .int (.t 7) (.t 9)) 15]
def qhE:Lc:=[cS 4 (.aJ (.c (.bool false))) 0]
def Q8:Lc:=[cM 11 0 0,cS 12 (.len 1 (.t 11)) 1,cS 13 (.aJ (.c (.int .i64 0))) 0]
def Mj:Lc:=[cS 14 (.bin .lss .no (.t 13) (.t 12)) 0]
def qb7:Lc:=[cM 15 13 0,cM 5 15 1]
def S7:List Step:=[.small 0 (cM 16 0 0),.small 1 (cM 17 5 0),.small 2 (cS 18 (.indexAddr 1 (.t 16) (.t 17)) 3),.small 3 (cL 19 18 7),.small 4 (cM 20 1 0),.small 5 (cM 21 5 0),.small 6 (cS 22 (.indexAddr 1 (.t 20) (.t 21)) 48),.small 7 (cL 23 22 112),.small 8 (cS 24 (.bin .neq .str (.t 19) (.t 23)) 255)]
def SW:Lc:=unS S7
def qc8:=X0 SW S7 (by kernel_rfl)
def qhP:Lc:=[cS 4 (.aJ (.c (.bool false))) 0]
def qch:Lc:=[cS 25 (.bin .add .no (.t 13) (.c (.int .i64 1))) 0,cM 13 25 1]
def D0:ag:=(.seq (.region Mj) (.seq (.cond (.t 14) .skip (.exit 0)) (.seq (.block 1 (.seq (.region qb7) (.seq (.draw SW) (.cond (.t 24) (.seq (.region qhP) .ret) .skip)))) (.region qch))))
def BC:Lc:=[cS 4 (.aJ (.c (.bool true))) 0]
def uY:ag:=(.seq (.region Tc) (.seq (.seq (.region Wb) (.cond (.t 10) (.seq (.region qhE) .ret) .skip)) (.seq (.seq (.region Q8) (.block 0 (.loop D0))) (.seq (.region BC) .ret))))
def v61:aA:=⟨26,[.t 4],true,uY,fun i=>match i with|0=>[13,0,1,12]|_=>[],fun i=>match i with|0=>[]|1=>[0,1,12,13]|_=>[]⟩
@[simp] theorem qno:v61.body=uY∧v61.results=[.t 4]∧v61.own=true∧v61.head 0=[13,0,1,12]∧v61.tail 0=[]∧v61.tail 1=[0,1,12,13]:=⟨rfl,rfl,rfl,rfl,rfl,rfl⟩
def W5:Lc:=[cS 2 (.aJ (.c (.int .i64 0))) 0]
def TB:Lc:=[cM 4 0 0,cS 5 (.bin .eql (.iface false) (.t 4) (.c .aK)) 1]
def T0:Lc:=[cS 2 (.aJ (.c (.int .i64 0))) 0]
def Xp:Lc:=[⟨some 3,.m (.alloc [.int .i64 0]),none,0⟩]
def Wg:Lc:=[cM 6 0 0,cS 7 (.fm 197 (.t 3)) 0,cC 8 97 [.t 6,.t 7] 3]
def U6:Lc:=[cL 9 3 0,cM 2 9 1]
def V3:Lc:=[cS 2 (.aJ (.c (.int .i64 20))) 0]
def uG:ag:=(.seq (.region W5) (.seq (.seq (.region TB) (.cond (.t 5) (.seq (.region T0) .ret) .skip)) (.seq (.region Xp) (.seq (.seq (.region Wg) (.cond (.t 8) (.seq (.region U6) .ret) .skip)) (.seq (.region V3) .ret)))))
def v62:aA:=⟨10,[.t 2],true,uG,e8,e8⟩
@[simp] theorem qmD:v62.body=uG∧v62.results=[.t 2]∧v62.own=true:=⟨rfl,rfl,rfl⟩
def qbD:Lc:=[cS 4 (.aJ (.c (.bool false))) 0]
def qco:Lc:=[cM 6 0 0,cS 7 (.len 1 (.t 6)) 1,cM 8 1 0,cS 9 (.len 1 (.t 8)) 4,cS 10 (.bin .neq .int (.t 7) (.t 9)) 15]
def qiw:Lc:=[cS 4 (.aJ (.c (.bool false))) 0]
def qaV:Lc:=[cM 11 0 0,cS 12 (.len 1 (.t 11)) 1,cS 13 (.aJ (.c (.int .i64 0))) 0]
def Va:Lc:=[cS 14 (.bin .lss .no (.t 13) (.t 12)) 0]
def qcm:Lc:=[cM 15 13 0,cM 5 15 1]
def Um:List Step:=[.small 0 (cM 16 0 0),.small 1 (cM 17 5 0),.small 2 (cS 18 (.indexAddr 9 (.t 16) (.t 17)) 3),.small 3 (cF 19 0 18 7),.small 4 (cS 20 (.load (some 8) (.t 19)) 15),.small 5 (cM 21 1 0),.small 6 (cM 22 5 0),.small 7 (cS 23 (.indexAddr 9 (.t 21) (.t 22)) 96),.small 8 (cF 24 0 23 224),.small 9 (cS 25 (.load (some 8) (.t 24)) 480),.small 10 (cS 26 (.bin .neq (.flat [(0,.int),(1,.str),(2,.str),(3,.str),(4,.str),(5,.int),(6,.int),(7,.int)]) (.t 20) (.t 25)) 1023),.small 11 (cM 27 26 2047),.small 12 (kJ 28 0 27 false 4095),.small 13 (kJ 29 5 27 false 4095),.small 14 (cG 30 (.indexAddr 9 (.t 28) (.t 29)) 27 false 16383),.small 15 (cG 31 (.fieldAddr 8 (.t 30)) 27 false 32767),.small 16 (cG 32 (.load none (.t 31)) 27 false 65535),.small 17 (kJ 33 1 27 false 4095),.small 18 (kJ 34 5 27 false 4095),.small 19 (cG 35 (.indexAddr 9 (.t 33) (.t 34)) 27 false 397311),.small 20 (cG 36 (.fieldAddr 8 (.t 35)) 27 false 921599),.small 21 (cG 37 (.load none (.t 36)) 27 false 1970175),.aW 22 (G4 38 23 [.t 32,.t 37] 27 false 4194303),.small 23 (cG 39 (.un .not (.t 38)) 27 false 8388607),.small 24 (cP 40 27 39 16777215)]
def Qu:Lc:=unS Um
def qeJ:=X0 Qu Um (by kernel_rfl)
def qhI:Lc:=[cS 4 (.aJ (.c (.bool false))) 0]
def qci:Lc:=[cS 41 (.bin .add .no (.t 13) (.c (.int .i64 1))) 0,cM 13 41 1]
def DZ:ag:=(.seq (.region Va) (.seq (.cond (.t 14) .skip (.exit 0)) (.seq (.block 1 (.seq (.region qcm) (.seq (.draw Qu) (.cond (.t 40) (.seq (.region qhI) .ret) .skip)))) (.region qci))))
def IG:Lc:=[cS 4 (.aJ (.c (.bool true))) 0]
def AW:ag:=(.seq (.region qbD) (.seq (.seq (.region qco) (.cond (.t 10) (.seq (.region qiw) .ret) .skip)) (.seq (.seq (.region qaV) (.block 0 (.loop DZ))) (.seq (.region IG) .ret))))
def XY:aA:=⟨42,[.t 4],true,AW,fun i=>match i with|0=>[13,0,1,12]|_=>[],fun i=>match i with|0=>[]|1=>[0,1,12,13]|_=>[]⟩
@[simp] theorem qnf:XY.body=AW∧XY.results=[.t 4]∧XY.own=true∧XY.head 0=[13,0,1,12]∧XY.tail 0=[]∧XY.tail 1=[0,1,12,13]:=⟨rfl,rfl,rfl,rfl,rfl,rfl⟩
def A0:Lc:=[⟨some 3,.m (.box (.t 1)),none,0⟩,cS 4 (.aJ (.c (.aj [] 1 0 1))) 0,cS 5 (.aJ (.c (.bool false))) 2,cS 6 (.aJ (.c .aK)) 6]
def zC:Lc:=[cM 14 0 0,cS 15 (.load (some 8) (.t 3)) 0,cC 16 105 [.t 14,.t 15] 3,cM 13 16 7,cE 17 0 13 15,cE 18 1 13 15,cM 7 17 31,cM 8 18 127]
def Bf:Lc:=[cM 19 8 0,cS 20 (.bin .neq (.iface false) (.t 19) (.c .aK)) 1]
def qbV:Lc:=[cM 21 8 0,cS 4 (.aJ (.c (.aj [] 1 0 1))) 0,cS 5 (.aJ (.c (.bool false))) 2,cM 6 21 7]
def CF:Lc:=[cM 23 0 0,cN 24 23 1,cF 25 1 24 3,cL 26 25 7,cM 27 7 0,cS 28 (.lookup .str (.agg [.bool false,.aj [] 0 0 1]) true (.t 26) (.t 27)) 31,cM 22 28 63,cE 29 0 22 127,cE 30 1 22 127,⟨some 9,.m (.alloc [.bool false,.aj [] 0 0 1]),none,0⟩,cH (.store 2 (.t 9) (.t 29)) 767,cM 10 30 2047]
def CS:Lc:=[cM 31 10 0]
def XD:Lc:=[cF 32 1 9 0,cL 33 32 1,cC 34 49 [.t 33] 3,cF 35 0 9 0,cL 36 35 8,cS 37 (.un .not (.t 36)) 24,cM 4 34 7,cM 5 37 127,cS 6 (.aJ (.c .aK)) 255]
def Q2:List Step:=[.small 0 (cF 32 1 9 0),.small 1 (cL 33 32 1),.small 3 (cF 35 0 9 0),.small 4 (cL 36 35 8),.small 5 (cS 37 (.un .not (.t 36)) 24),.aW 2 (cC 34 49 [.t 33] 3),.small 6 (cM 4 34 7),.small 7 (cM 5 37 127),.small 8 (cS 6 (.aJ (.c .aK)) 255)]
def qcZ:=X0 XD Q2 (by kernel_rfl)
def GR:Lc:=[cM 39 0 0,cN 40 39 1,cF 41 0 40 3,cL 42 41 7,cM 43 7 0,⟨some 44,.invoke "Get" (.t 42) [.t 43],none,31⟩,cM 38 44 63,cE 45 0 38 127,cE 46 1 38 127,cE 47 2 38 127,cM 11 45 255,cM 12 46 1535,cM 8 47 4095]
def Hg:Lc:=[cM 48 8 0,cS 49 (.bin .neq (.iface false) (.t 48) (.c .aK)) 1]
def Q0:Lc:=[cF 50 0 3 0,cL 51 50 1,cM 52 8 0,cC 53 106 [.t 51,.t 52] 7,cS 4 (.aJ (.c (.aj [] 1 0 1))) 15,cS 5 (.aJ (.c (.bool false))) 31,cM 6 53 63]
def JU:Lc:=[cM 54 11 0,cM 55 12 0,cM 4 54 1,cM 5 55 7,cS 6 (.aJ (.c .aK)) 15]
def mg:ag:=(.seq (.region A0) (.seq (.region zC) (.seq (.seq (.region Bf) (.cond (.t 20) (.seq (.region qbV) .ret) .skip)) (.seq (.seq (.region CF) (.seq (.region CS) (.cond (.t 31) (.seq (.draw XD) .ret) .skip))) (.seq (.region GR) (.seq (.seq (.region Hg) (.cond (.t 49) (.seq (.region Q0) .ret) .skip)) (.seq (.region JU) .ret)))))))
def v64:aA:=⟨56,[.t 4,.t 5,.t 6],true,mg,e8,e8⟩
@[simp] theorem qm4:v64.body=mg∧v64.results=[.t 4,.t 5,.t 6]∧v64.own=true:=⟨rfl,rfl,rfl⟩
def MX:Lc:=[⟨some 4,.m (.box (.t 1)),none,0⟩,cS 6 (.aJ (.c (.aj [] 1 0 9))) 0,cS 7 (.aJ (.c .aK)) 2]
def Nr:Lc:=[cM 21 0 0,cS 22 (.bin .eql .aT (.t 21) (.c .aT)) 1,cM 23 22 3,kJ 24 0 23 false 7,cG 25 (.nilCheck (.t 24)) 23 false 15,cG 26 (.fieldAddr 1 (.t 25)) 23 false 31,cG 27 (.load none (.t 26)) 23 false 63,cG 28 (.bin .eql .bK (.t 27) (.c .bK)) 23 false 127,cP 29 23 28 255]
def qiP:Lc:=[cF 30 0 4 0,cL 31 30 1,cC 32 107 [(.c (.int .i64 2))] 0,cC 33 106 [.t 31,.t 32] 7,cS 6 (.aJ (.c (.aj [] 1 0 9))) 15,cM 7 33 31]
def ML:Lc:=[cS 35 (.load (some 8) (.t 4)) 0,cM 36 2 0,cC 37 108 [.t 35,.t 36] 3,cM 34 37 7,cE 38 0 34 15,cE 39 1 34 15,cM 8 38 31,cM 9 39 127]
def NH:Lc:=[cM 40 8 0,cS 41 (.bin .eql .str (.t 40) (.c (.str []))) 1]
def U5:List Step:=[.small 0 (cF 42 0 4 0),.small 1 (cL 43 42 1),.aW 2 (cC 44 107 [(.c (.int .i64 31))] 0),.aW 3 (cC 45 106 [.t 43,.t 44] 7),.small 4 (cS 6 (.aJ (.c (.aj [] 1 0 9))) 15),.small 5 (cM 7 45 31)]
def TY:Lc:=unS U5
def qdH:=X0 TY U5 (by kernel_rfl)
def WU:Lc:=[cM 47 0 0,cN 48 47 1,cF 49 0 48 3,cL 50 49 7,cM 51 8 0,cM 52 9 0,⟨some 53,.invoke "Scan" (.t 50) [.t 51,.t 52],none,63⟩,cM 46 53 127,cE 54 0 46 255,cE 55 1 46 255,cM 10 54 511,cM 11 55 2047]
def Wz:Lc:=[cM 56 11 0,cS 57 (.bin .neq (.iface false) (.t 56) (.c .aK)) 1]
def qb5:Lc:=[cF 58 0 4 0,cL 59 58 1,cM 60 11 0,cC 61 106 [.t 59,.t 60] 7,cS 6 (.aJ (.c (.aj [] 1 0 9))) 15,cM 7 61 31]
def qaw:Lc:=[cM 62 10 0,cC 63 44 [.t 62] 1,cM 12 63 3]
def Xg:Lc:=[cM 64 8 0,cM 65 9 0,cS 66 (.build [.str [],.str []] [(0,1,.t 64),(1,1,.t 65)]) 3,⟨some 13,.m (.alloc [.str [],.str []]),none,0⟩,cH (.store 2 (.t 13) (.t 66)) 15]
def Te:Lc:=[cM 67 0 0,cN 68 67 1,cF 69 1 68 3,cL 70 69 7,⟨some 71,.h (.range (.t 70)),none,15⟩]
def Ln:Lc:=[⟨some 72,.next (.t 71),none,0⟩,cE 73 0 72 1]
def KG:Lc:=[cS 74 (.entry (.t 71)) 0,cE 75 0 74 1,cE 76 1 74 1,⟨some 15,.m (.alloc [.bool false,.aj [] 0 0 1]),none,0⟩,cM 14 75 11,cH (.store 2 (.t 15) (.t 76)) 31]
def K9:Lc:=[cS 77 (.load (some 2) (.t 13)) 0,cM 78 14 0,cC 79 58 [.t 77,.t 78] 3]
def TD:Lc:=[cM 80 12 0,cM 81 14 0,cS 82 (.load (some 2) (.t 15)) 0,cC 83 48 [.t 80,.t 81,.t 82] 7]
def yo:ag:=(.seq (.region Ln) (.seq (.cond (.t 73) .skip (.exit 0)) (.block 1 (.seq (.region KG) (.seq (.region K9) (.cond (.t 79) (.region TD) .skip))))))
def Kk:Lc:=[cS 16 (.aJ (.c (.aj [] 1 0 9))) 0]
def Jk:Lc:=[cM 84 12 0,cC 85 101 [.t 84] 1,cS 86 (.len 1 (.t 85)) 3,cS 87 (.aJ (.c (.int .i64 0))) 0]
def Ek:Lc:=[cS 88 (.bin .lss .no (.t 87) (.t 86)) 0]
def Kw:Lc:=[cS 89 (.indexAddr 1 (.t 85) (.t 87)) 0,cL 90 89 1,cM 18 90 3]
def IA:Lc:=[cM 92 18 0,cC 93 109 [.t 92] 1,cM 91 93 3,cE 94 0 91 7,cE 95 1 91 7,⟨some 19,.m (.alloc [.int .u8 0,.str [],.str [],.str [],.str [],.int .u64 0,.int .u64 0,.int .u64 0]),none,0⟩,cH (.store 8 (.t 19) (.t 94)) 47,cM 20 95 127]
def Le:Lc:=[cM 96 20 0,cS 97 (.bin .neq .int (.t 96) (.c (.int .i64 0))) 1]
def MQ:List Step:=[.small 0 (cF 98 0 4 0),.small 1 (cL 99 98 1),.small 2 (cM 100 20 0),.aW 3 (cC 101 107 [.t 100] 4),.aW 4 (cC 102 106 [.t 99,.t 101] 15),.small 5 (cS 6 (.aJ (.c (.aj [] 1 0 9))) 31),.small 6 (cM 7 102 63)]
def Ld:Lc:=unS MQ
def Y1:=X0 Ld MQ (by kernel_rfl)
def Ox:List Step:=[.small 0 (cM 103 16 0),.small 1 (cS 104 (.load (some 8) (.t 19)) 0),.small 2 (cM 105 12 0),.small 3 (cN 106 105 4),.small 4 (cF 107 0 106 12),.small 5 (cL 108 107 28),.small 6 (cM 109 18 0),.small 7 (cS 110 (.lookup .str (.aj [] 0 0 1) false (.t 108) (.t 109)) 124),.aW 8 (cC 111 49 [.t 110] 252),.small 9 (cS 112 (.build [.int .u8 0,.str [],.str [],.str [],.str [],.int .u64 0,.int .u64 0,.int .u64 0,.aj [] 0 0 1] [(0,8,.t 104),(8,1,.t 111)]) 510),.small 10 ⟨some 113,.m (.buildSlice 9 1 [.int .u8 0,.str [],.str [],.str [],.str [],.int .u64 0,.int .u64 0,.int .u64 0,.aj [] 0 0 1] [(0,9,.t 112)]),none,1022⟩,.aW 11 ⟨some 114,.h (.append 9 120 false (.t 103) (.t 113)),none,2047⟩,.small 12 (cM 16 114 4095)]
def Lz:Lc:=unS Ox
def qao:=X0 Lz Ox (by kernel_rfl)
def Ty:Lc:=[cS 115 (.bin .add .no (.t 87) (.c (.int .i64 1))) 0,cM 87 115 1]
def uJ:ag:=(.seq (.region Ek) (.seq (.cond (.t 88) .skip (.exit 2)) (.seq (.block 3 (.seq (.region Kw) (.seq (.region IA) (.seq (.seq (.region Le) (.cond (.t 97) (.seq (.draw Ld) .ret) .skip)) (.draw Lz))))) (.region Ty))))
def zF:Lc:=[cM 116 16 0,cM 6 116 1,cS 7 (.aJ (.c .aK)) 3]
def qS:ag:=(.seq (.region MX) (.seq (.seq (.region Nr) (.cond (.t 29) (.seq (.draw qiP) .ret) .skip)) (.seq (.region ML) (.seq (.seq (.region NH) (.cond (.t 41) (.seq (.draw TY) .ret) .skip)) (.seq (.region WU) (.seq (.seq (.region Wz) (.cond (.t 57) (.seq (.region qb5) .ret) .skip)) (.seq (.region qaw) (.seq (.region Xg) (.seq (.seq (.region Te) (.block 0 (.loop yo))) (.seq (.region Kk) (.seq (.seq (.region Jk) (.block 2 (.loop uJ))) (.seq (.region zF) .ret))))))))))))
def F9:aA:=⟨117,[.t 6,.t 7],false,qS,fun i=>match i with|0=>[12,13,71,4]|2=>[4,87,12,85,16,86]|_=>[],fun i=>match i with|0=>[4,12]|1=>[12,13,71,4]|2=>[16]|3=>[4,12,85,16,86,87]|_=>[]⟩
@[simp] theorem qmS:F9.body=qS∧F9.results=[.t 6,.t 7]∧F9.own=false∧F9.head 0=[12,13,71,4]∧F9.head 2=[4,87,12,85,16,86]∧F9.tail 0=[4,12]∧F9.tail 1=[12,13,71,4]∧F9.tail 2=[16]∧F9.tail 3=[4,12,85,16,86,87]:=⟨rfl,rfl,rfl,rfl,rfl,rfl,rfl,rfl,rfl⟩
def QX:Lc:=[⟨some 4,.m (.box (.t 1)),none,0⟩,cS 6 (.aJ (.c .aK)) 0]
def Tp:Lc:=[cM 10 0 0,cS 11 (.load (some 8) (.t 4)) 0,cC 12 105 [.t 10,.t 11] 3,cM 9 12 7,cE 13 0 9 15,cE 14 1 9 15,cM 7 13 31,cM 8 14 127]
def Wy:Lc:=[cM 15 8 0,cS 16 (.bin .eql (.iface false) (.t 15) (.c .aK)) 1]
def QG:List Step:=[.small 0 (cM 17 0 0),.small 1 (cN 18 17 1),.small 2 (cF 19 1 18 3),.small 3 (cL 20 19 7),.small 4 (cM 21 7 0),.small 5 (cM 22 2 0),.aW 6 (cC 23 49 [.t 22] 32),.small 7 (cS 24 (.build [.bool false,.aj [] 0 0 1] [(1,1,.t 23)]) 96),.aW 8 (cH (.mapUpdate .str (.t 20) (.t 21) (.t 24)) 255)]
def Ub:Lc:=unS QG
def qeR:=X0 Ub QG (by kernel_rfl)
def TU:Lc:=[cM 25 8 0,cM 6 25 1]
def vp:ag:=(.seq (.region QX) (.seq (.region Tp) (.seq (.seq (.region Wy) (.cond (.t 16) (.draw Ub) .skip)) (.seq (.region TU) .ret))))
def v66:aA:=⟨26,[.t 6],true,vp,e8,e8⟩
@[simp] theorem qm8:v66.body=vp∧v66.results=[.t 6]∧v66.own=true:=⟨rfl,rfl,rfl⟩
def S2:Lc:=[⟨some 3,.m (.box (.t 1)),none,0⟩,cS 4 (.aJ (.c .aK)) 0]
def Uw:Lc:=[cM 8 0 0,cS 9 (.load (some 8) (.t 3)) 0,cC 10 105 [.t 8,.t 9] 3,cM 7 10 7,cE 11 0 7 15,cE 12 1 7 15,cM 5 11 31,cM 6 12 127]
def UF:Lc:=[cM 13 6 0,cS 14 (.bin .eql (.iface false) (.t 13) (.c .aK)) 1]
def qb1:Lc:=[cM 15 0 0,cN 16 15 1,cF 17 1 16 3,cL 18 17 7,cM 19 5 0,cS 20 (.build [.bool false,.aj [] 0 0 1] [(0,1,(.c (.bool true)))]) 0,cH (.mapUpdate .str (.t 18) (.t 19) (.t 20)) 63]
def VU:Lc:=[cM 21 6 0,cM 4 21 1]
def uk:ag:=(.seq (.region S2) (.seq (.region Uw) (.seq (.seq (.region UF) (.cond (.t 14) (.region qb1) .skip)) (.seq (.region VU) .ret))))
def v67:aA:=⟨22,[.t 4],true,uk,e8,e8⟩
@[simp] theorem qmC:v67.body=uk∧v67.results=[.t 4]∧v67.own=true:=⟨rfl,rfl,rfl⟩
def OC:Lc:=[⟨some 3,.m (.box (.t 1)),none,0⟩,cS 4 (.aJ (.c (.int .u64 0))) 0,cS 5 (.aJ (.c (.bool false))) 2,cS 6 (.aJ (.c .aK)) 6]
def OE:Lc:=[cM 7 0 0,cS 8 (.load (some 8) (.t 3)) 0,⟨some 9,.call (.c (.func 110 [] [])) [.t 7,.t 8,(.c (.func 111 [] []))],none,3⟩,cE 10 0 9 7,cE 11 1 9 7,cE 12 2 9 7,cM 4 10 63,cM 5 11 127,cM 6 12 255]
def sA:ag:=(.seq (.region OC) (.seq (.region OE) .ret))
def v68:aA:=⟨13,[.t 4,.t 5,.t 6],true,sA,e8,e8⟩
@[simp] theorem qnd:v68.body=sA∧v68.results=[.t 4,.t 5,.t 6]∧v68.own=true:=⟨rfl,rfl,rfl⟩
def MT:Lc:=[⟨some 6,.m (.alloc [.int .i64 0,.int .u64 0,.int .i64 0]),none,0⟩,cS 7 (.aJ (.c (.bool false))) 0,cS 8 (.aJ (.c .aK)) 2]
def MV:Lc:=[cM 9 0 0,cM 10 1 0,cM 11 2 0,cC 12 113 [.t 10,.t 11] 6,⟨some 13,.call (.c (.func 112 [] [])) [.t 9,.t 12,(.c (.func 114 [] []))],none,15⟩,cE 14 0 13 31,cE 15 1 13 31,cE 16 2 13 31,cH (.store 3 (.t 6) (.t 14)) 255,cM 7 15 511,cM 8 16 1023]
def sn:ag:=(.seq (.region MT) (.seq (.region MV) .ret))
def v69:aA:=⟨17,[.cell 6 (some 3),.t 7,.t 8],true,sn,e8,e8⟩
@[simp] theorem qnp:v69.body=sn∧v69.results=[.cell 6 (some 3),.t 7,.t 8]∧v69.own=true:=⟨rfl,rfl,rfl⟩
def Nv:Lc:=[⟨some 8,.m (.alloc [.int .i64 0,.str [],.str [],.int .u64 0]),none,0⟩,cS 9 (.aJ (.c (.bool false))) 0,cS 10 (.aJ (.c .aK)) 2]
def Na:Lc:=[cM 11 0 0,cM 12 1 0,cM 13 2 0,cM 14 3 0,cC 15 116 [.t 12,.t 13,.t 14] 14,⟨some 16,.call (.c (.func 115 [] [])) [.t 11,.t 15,(.c (.func 117 [] []))],none,31⟩,cE 17 0 16 63,cE 18 1 16 63,cE 19 2 16 63,cH (.store 4 (.t 8) (.t 17)) 511,cM 9 18 1023,cM 10 19 2047]
def rN:ag:=(.seq (.region Nv) (.seq (.region Na) .ret))
def v70:aA:=⟨20,[.cell 8 (some 4),.t 9,.t 10],true,rN,e8,e8⟩
@[simp] theorem qmI:v70.body=rN∧v70.results=[.cell 8 (some 4),.t 9,.t 10]∧v70.own=true:=⟨rfl,rfl,rfl⟩
def Nt:Lc:=[⟨some 6,.m (.alloc [.int .i64 0,.int .i64 0,.str []]),none,0⟩,cS 7 (.aJ (.c (.bool false))) 0,cS 8 (.aJ (.c .aK)) 2]
def Mz:Lc:=[cM 9 0 0,cM 10 1 0,cM 11 2 0,cC 12 119 [.t 10,.t 11] 6,⟨some 13,.call (.c (.func 118 [] [])) [.t 9,.t 12,(.c (.func 120 [] []))],none,15⟩,cE 14 0 13 31,cE 15 1 13 31,cE 16 2 13 31,cH (.store 3 (.t 6) (.t 14)) 255,cM 7 15 511,cM 8 16 1023]
def qQ:ag:=(.seq (.region Nt) (.seq (.region Mz) .ret))
def v71:aA:=⟨17,[.cell 6 (some 3),.t 7,.t 8],true,qQ,e8,e8⟩
@[simp] theorem qna:v71.body=qQ∧v71.results=[.cell 6 (some 3),.t 7,.t 8]∧v71.own=true:=⟨rfl,rfl,rfl⟩
def Vu:Lc:=[⟨some 5,.m (.box (.t 2)),none,0⟩,cS 6 (.aJ (.c .aK)) 0]
def Ve:Lc:=[cM 7 0 0,cM 8 1 0,cC 9 99 [.t 8] 2,cS 10 (.load (some 5) (.t 5)) 0,cC 11 123 [.t 10] 14,cC 12 122 [.t 7,.t 9,.t 11] 31,cM 6 12 63]
def KU:List Step:=[.small 0 (cM 7 0 0),.small 1 (cM 8 1 0),.small 3 (cS 10 (.load (some 5) (.t 5)) 0),.aW 2 (cC 9 99 [.t 8] 2),.aW 4 (cC 11 123 [.t 10] 14),.aW 5 (cC 12 122 [.t 7,.t 9,.t 11] 31),.small 6 (cM 6 12 63)]
def VE:=X0 Ve KU (by kernel_rfl)
def uQ:ag:=(.seq (.region Vu) (.seq (.draw Ve) .ret))
def v72:aA:=⟨13,[.t 6],true,uQ,e8,e8⟩
@[simp] theorem qm6:v72.body=uQ∧v72.results=[.t 6]∧v72.own=true:=⟨rfl,rfl,rfl⟩
def VL:Lc:=[⟨some 7,.m (.box (.t 3)),none,0⟩,cS 8 (.aJ (.c .aK)) 0]
def WS:Lc:=[cM 9 0 0,cM 10 1 0,cM 11 2 0,cC 12 113 [.t 10,.t 11] 6,cS 13 (.load (some 3) (.t 7)) 0,cC 14 124 [.t 13] 30,cC 15 122 [.t 9,.t 12,.t 14] 63,cM 8 15 127]
def Kd:List Step:=[.small 0 (cM 9 0 0),.small 1 (cM 10 1 0),.small 2 (cM 11 2 0),.small 4 (cS 13 (.load (some 3) (.t 7)) 0),.aW 3 (cC 12 113 [.t 10,.t 11] 6),.aW 5 (cC 14 124 [.t 13] 30),.aW 6 (cC 15 122 [.t 9,.t 12,.t 14] 63),.small 7 (cM 8 15 127)]
def UI:=X0 WS Kd (by kernel_rfl)
def vO:ag:=(.seq (.region VL) (.seq (.draw WS) .ret))
def v73:aA:=⟨16,[.t 8],true,vO,e8,e8⟩
@[simp] theorem qmO:v73.body=vO∧v73.results=[.t 8]∧v73.own=true:=⟨rfl,rfl,rfl⟩
def M4:Lc:=[⟨some 5,.m (.box (.t 2)),none,0⟩,cS 6 (.aJ (.c .aK)) 0]
def OO:Lc:=[cM 11 1 0,cF 12 0 5 0,cL 13 12 2,cC 14 119 [.t 11,.t 13] 7,⟨some 7,.m (.alloc [.int .u8 0,.str [],.str [],.str [],.str [],.int .u64 0,.int .u64 0,.int .u64 0]),none,0⟩,cH (.store 8 (.t 7) (.t 14)) 31]
def Mn:Lc:=[cM 16 0 0,cS 17 (.load (some 8) (.t 7)) 0,cC 18 105 [.t 16,.t 17] 3,cM 15 18 7,cE 19 0 15 15,cE 20 1 15 15,cM 8 19 31,cM 9 20 127]
def OD:Lc:=[cM 21 9 0,cS 22 (.bin .neq (.iface false) (.t 21) (.c .aK)) 1]
def qct:Lc:=[cM 23 9 0,cM 6 23 1]
def T5:Lc:=[cF 24 1 5 0,cS 25 (.load (some 3) (.t 24)) 1,cC 26 125 [.t 25] 3,cM 10 26 7]
def Sj:Lc:=[cM 27 10 0,cS 28 (.bin .neq .int (.t 27) (.c (.int .i64 0))) 1]
def WW:List Step:=[.small 0 (cF 29 0 7 0),.small 1 (cL 30 29 1),.small 2 (cM 31 10 0),.aW 3 (cC 32 107 [.t 31] 4),.aW 4 (cC 33 106 [.t 30,.t 32] 15),.small 5 (cM 6 33 31)]
def Wv:Lc:=unS WW
def qek:=X0 Wv WW (by kernel_rfl)
def Sd:List Step:=[.small 0 (cM 34 0 0),.small 1 (cS 35 (.load (some 8) (.t 7)) 0),.small 2 (cF 36 1 5 0),.small 3 (cS 37 (.load (some 3) (.t 36)) 4),.aW 4 (cC 38 126 [.t 37] 12),.aW 5 (cC 39 66 [.t 34,.t 35,.t 38] 31),.small 6 (cM 6 39 63)]
def SX:Lc:=unS Sd
def qeV:=X0 SX Sd (by kernel_rfl)
def si:ag:=(.seq (.region M4) (.seq (.region OO) (.seq (.seq (.region Mn) (.seq (.region OD) (.cond (.t 22) (.seq (.region qct) .ret) .skip))) (.seq (.seq (.region T5) (.seq (.region Sj) (.cond (.t 28) (.seq (.draw Wv) .ret) .skip))) (.seq (.draw SX) .ret)))))
def v74:aA:=⟨40,[.t 6],true,si,e8,e8⟩
@[simp] theorem qm9:v74.body=si∧v74.results=[.t 6]∧v74.own=true:=⟨rfl,rfl,rfl⟩
def M3:Lc:=[⟨some 9,.m (.box (.t 4)),none,0⟩,cS 10 (.aJ (.c .aK)) 0]
def Ow:Lc:=[cM 16 1 0,cM 17 2 0,cM 18 3 0,cC 19 116 [.t 16,.t 17,.t 18] 7,⟨some 11,.m (.alloc [.int .u8 0,.str [],.str [],.str [],.str [],.int .u64 0,.int .u64 0,.int .u64 0]),none,0⟩,cH (.store 8 (.t 11) (.t 19)) 31]
def Np:Lc:=[cM 21 0 0,cS 22 (.load (some 8) (.t 11)) 0,cC 23 105 [.t 21,.t 22] 3,cM 20 23 7,cE 24 0 20 15,cE 25 1 20 15,cM 12 24 31,cM 13 25 127]
def Ml:Lc:=[cM 26 13 0,cS 27 (.bin .neq (.iface false) (.t 26) (.c .aK)) 1]
def qge:Lc:=[cM 28 13 0,cM 10 28 1]
def Nx:Lc:=[cS 29 (.load (some 4) (.t 9)) 0,cC 30 127 [.t 29] 1,cM 14 30 3]
def NW:Lc:=[cM 31 14 0,cS 32 (.len 1 (.t 31)) 1,cS 33 (.bin .eql .int (.t 32) (.c (.int .i64 0))) 3]
def Qv:List Step:=[.small 0 (cF 34 0 11 0),.small 1 (cL 35 34 1),.aW 2 (cC 36 107 [(.c (.int .i64 1))] 0),.aW 3 (cC 37 106 [.t 35,.t 36] 7),.small 4 (cM 10 37 15)]
def Tq:Lc:=unS Qv
def qdU:=X0 Tq Qv (by kernel_rfl)
def RY:Lc:=[cM 38 0 0,cM 39 1 0,cM 40 2 0,cM 41 3 0,cC 42 76 [.t 38,.t 39,.t 40,.t 41] 15,cM 15 42 31]
def VQ:Lc:=[cM 43 15 0,cS 44 (.bin .neq (.iface false) (.t 43) (.c .aK)) 1]
def RH:Lc:=[cM 45 15 0,cM 10 45 1]
def Iv:Lc:=[cM 46 0 0,cS 47 (.load (some 8) (.t 11)) 0,cM 48 14 0,cC 49 66 [.t 46,.t 47,.t 48] 7,cM 50 0 0,cM 51 1 0,cM 52 2 0,cM 53 3 0,cS 54 (.load (some 4) (.t 9)) 0,cC 55 129 [.t 51,.t 52,.t 53,.t 54] 495,⟨some 56,.call (.c (.func 66 [] [])) [.t 50,.t 55,(.c (.aj [] 0 0 1))],none,1023⟩,⟨some 57,.m (.buildSlice 1 2 [.aK] [(0,1,.t 49),(1,1,.t 56)]),none,2047⟩,cC 58 128 [.t 57] 4095,cM 10 58 8191]
def M9:List Step:=[.small 0 (cM 46 0 0),.small 1 (cS 47 (.load (some 8) (.t 11)) 0),.small 2 (cM 48 14 0),.small 4 (cM 50 0 0),.small 5 (cM 51 1 0),.small 6 (cM 52 2 0),.small 7 (cM 53 3 0),.small 8 (cS 54 (.load (some 4) (.t 9)) 0),.aW 3 (cC 49 66 [.t 46,.t 47,.t 48] 7),.aW 9 (cC 55 129 [.t 51,.t 52,.t 53,.t 54] 495),.aW 10 ⟨some 56,.call (.c (.func 66 [] [])) [.t 50,.t 55,(.c (.aj [] 0 0 1))],none,1023⟩,.small 11 ⟨some 57,.m (.buildSlice 1 2 [.aK] [(0,1,.t 49),(1,1,.t 56)]),none,2047⟩,.aW 12 (cC 58 128 [.t 57] 4095),.small 13 (cM 10 58 8191)]
def Za:=X0 Iv M9 (by kernel_rfl)
def rT:ag:=(.seq (.region M3) (.seq (.region Ow) (.seq (.seq (.region Np) (.seq (.region Ml) (.cond (.t 27) (.seq (.region qge) .ret) .skip))) (.seq (.region Nx) (.seq (.seq (.region NW) (.cond (.t 33) (.seq (.draw Tq) .ret) .skip)) (.seq (.seq (.region RY) (.seq (.region VQ) (.cond (.t 44) (.seq (.region RH) .ret) .skip))) (.seq (.draw Iv) .ret)))))))
def v75:aA:=⟨59,[.t 10],true,rT,e8,e8⟩
@[simp] theorem qnm:v75.body=rT∧v75.results=[.t 10]∧v75.own=true:=⟨rfl,rfl,rfl⟩
def Ou:Lc:=[cS 8 (.aJ (.c .aK)) 0]
def OJ:Lc:=[cM 13 0 0,cM 14 1 0,cM 15 2 0,cM 16 3 0,cC 17 70 [.t 13,.t 14,.t 15,.t 16] 15,cM 12 17 31,cE 18 0 12 63,cE 19 1 12 63,cE 20 2 12 63,⟨some 9,.m (.alloc [.int .i64 0,.str [],.str [],.int .u64 0]),none,0⟩,cH (.store 4 (.t 9) (.t 18)) 639,cM 10 19 1791,cM 11 20 4095]
def Nd:Lc:=[cM 21 11 0,cS 22 (.bin .neq (.iface false) (.t 21) (.c .aK)) 1,cM 23 22 3,kJ 24 10 23 false 7,cG 25 (.un .not (.t 24)) 23 false 15,cP 26 23 25 31]
def T9:Lc:=[cM 27 11 0,cM 8 27 1]
def SC:Lc:=[cM 28 0 0,cM 29 1 0,cM 30 2 0,cM 31 3 0,cC 32 116 [.t 29,.t 30,.t 31] 14,cC 33 67 [.t 28,.t 32] 31,cM 34 0 0,cM 35 1 0,cM 36 2 0,cM 37 3 0,cS 38 (.load (some 4) (.t 9)) 0,cC 39 129 [.t 35,.t 36,.t 37,.t 38] 1983,cC 40 67 [.t 34,.t 39] 4095,⟨some 41,.m (.buildSlice 1 2 [.aK] [(0,1,.t 33),(1,1,.t 40)]),none,8191⟩,cC 42 128 [.t 41] 16383,cM 8 42 32767]
def Vq:List Step:=[.small 0 (cM 28 0 0),.small 1 (cM 29 1 0),.small 2 (cM 30 2 0),.small 3 (cM 31 3 0),.small 6 (cM 34 0 0),.small 7 (cM 35 1 0),.small 8 (cM 36 2 0),.small 9 (cM 37 3 0),.small 10 (cS 38 (.load (some 4) (.t 9)) 0),.aW 4 (cC 32 116 [.t 29,.t 30,.t 31] 14),.aW 5 (cC 33 67 [.t 28,.t 32] 31),.aW 11 (cC 39 129 [.t 35,.t 36,.t 37,.t 38] 1983),.aW 12 (cC 40 67 [.t 34,.t 39] 4095),.small 13 ⟨some 41,.m (.buildSlice 1 2 [.aK] [(0,1,.t 33),(1,1,.t 40)]),none,8191⟩,.aW 14 (cC 42 128 [.t 41] 16383),.small 15 (cM 8 42 32767)]
def qdP:=X0 SC Vq (by kernel_rfl)
def rX:ag:=(.seq (.region Ou) (.seq (.region OJ) (.seq (.seq (.region Nd) (.cond (.t 26) (.seq (.region T9) .ret) .skip)) (.seq (.draw SC) .ret))))
def v76:aA:=⟨43,[.t 8],true,rX,e8,e8⟩
@[simp] theorem qmG:v76.body=rX∧v76.results=[.t 8]∧v76.own=true:=⟨rfl,rfl,rfl⟩
def Dz:Lc:=[⟨some 4,.m (.box (.t 1)),none,0⟩,⟨some 6,.m (.alloc [.str [],.int .u64 0,.int .i64 0,.str [],.int .u64 0]),none,0⟩,cS 7 (.aJ (.c (.bool false))) 0,cS 8 (.aJ (.c .aK)) 4]
def CT:Lc:=[⟨some 9,.m (.alloc [.str [],.int .u64 0,.int .i64 0,.str [],.int .u64 0]),none,0⟩]
def C8:Lc:=[cM 16 0 0,cS 17 (.load (some 8) (.t 4)) 0,cC 18 64 [.t 16,.t 17] 3,cM 15 18 7,cE 19 0 15 15,cE 20 1 15 15,cE 21 2 15 15,cM 10 19 31,cM 11 20 191,cM 12 21 511]
def DA:Lc:=[cM 22 12 0,cS 23 (.bin .neq (.iface false) (.t 22) (.c .aK)) 1,cM 24 23 3,kJ 25 11 24 false 7,cG 26 (.un .not (.t 25)) 24 false 15,cP 27 24 26 31]
def Oa:Lc:=[cS 28 (.load (some 5) (.t 9)) 0,cM 29 12 0,cH (.store 5 (.t 6) (.t 28)) 1,cS 7 (.aJ (.c (.bool false))) 5,cM 8 29 15]
def SF:Lc:=[cM 31 2 0,cM 32 10 0,⟨some 33,.call (.t 31) [.t 32],none,3⟩,cM 30 33 7,cE 34 0 30 15,cE 35 1 30 15,⟨some 13,.m (.alloc [.str [],.int .u64 0,.int .i64 0,.str [],.int .u64 0]),none,0⟩,cH (.store 5 (.t 13) (.t 34)) 95,cM 14 35 255]
def VA:Lc:=[cM 36 14 0,cS 37 (.bin .neq .int (.t 36) (.c (.int .i64 0))) 1]
def QJ:List Step:=[.small 0 (cS 38 (.load (some 5) (.t 9)) 0),.small 1 (cF 39 0 4 0),.small 2 (cL 40 39 2),.small 3 (cM 41 14 0),.aW 4 (cC 42 107 [.t 41] 8),.aW 5 (cC 43 106 [.t 40,.t 42] 30),.aW 6 (cH (.store 5 (.t 6) (.t 38)) 63),.small 7 (cS 7 (.aJ (.c (.bool false))) 127),.small 8 (cM 8 43 255)]
def Rt:Lc:=unS QJ
def qdE:=X0 Rt QJ (by kernel_rfl)
def qcu:Lc:=[cS 44 (.load (some 5) (.t 13)) 0,cH (.store 5 (.t 6) (.t 44)) 1,cS 7 (.aJ (.c (.bool true))) 3,cS 8 (.aJ (.c .aK)) 7]
def og:ag:=(.seq (.region Dz) (.seq (.region CT) (.seq (.region C8) (.seq (.seq (.region DA) (.cond (.t 27) (.seq (.region Oa) .ret) .skip)) (.seq (.region SF) (.seq (.seq (.region VA) (.cond (.t 37) (.seq (.draw Rt) .ret) .skip)) (.seq (.region qcu) .ret)))))))
def v98:aA:=⟨45,[.cell 6 (some 5),.t 7,.t 8],true,og,e8,e8⟩
@[simp] theorem qmW:v98.body=og∧v98.results=[.cell 6 (some 5),.t 7,.t 8]∧v98.own=true:=⟨rfl,rfl,rfl⟩
def qbE:Lc:=[⟨some 2,.m (.alloc [.int .u8 0,.str [],.str [],.str [],.str [],.int .u64 0,.int .u64 0,.int .u64 0]),none,0⟩]
def qa3:Lc:=[cM 3 0 0,cS 4 (.build [.int .u8 0,.str [],.str [],.str [],.str [],.int .u64 0,.int .u64 0,.int .u64 0] [(0,1,(.c (.int .u8 105))),(4,1,.t 3)]) 1,cH (.store 8 (.t 2) (.t 4)) 3]
def A1:ag:=(.seq (.region qbE) (.seq (.region qa3) .ret))
def v99:aA:=⟨5,[.cell 2 (some 8)],true,A1,e8,e8⟩
@[simp] theorem qne:v99.body=A1∧v99.results=[.cell 2 (some 8)]∧v99.own=true:=⟨rfl,rfl,rfl⟩
def Rr:Lc:=[⟨some 2,.m (.alloc [.str [],.int .u64 0,.int .i64 0,.str [],.int .u64 0]),none,0⟩,cS 3 (.aJ (.c (.int .i64 0))) 0]
def Uy:Lc:=[cM 5 0 0,cC 6 161 [.t 5] 1,cS 7 (.build [.aT] [(0,1,.t 6)]) 3,⟨some 4,.m (.alloc [.aT]),none,0⟩,cH (.store 1 (.t 4) (.t 7)) 15]
def U3:Lc:=[cS 8 (.load (some 1) (.t 4)) 0,cS 9 (.load (some 1) (.t 4)) 0,cS 10 (.lP 163 [.t 9] []) 2,⟨some 11,.call (.c (.func 162 [] [])) [.t 8,.t 10,(.c (.func 164 [] []))],none,7⟩,cE 12 0 11 15,cE 13 1 11 15,cH (.store 5 (.t 2) (.t 12)) 63,cM 3 13 127]
def wA:ag:=(.seq (.region Rr) (.seq (.region Uy) (.seq (.region U3) .ret)))
def ZE:aA:=⟨14,[.cell 2 (some 5),.t 3],true,wA,e8,e8⟩
@[simp] theorem qmg:ZE.body=wA∧ZE.results=[.cell 2 (some 5),.t 3]∧ZE.own=true:=⟨rfl,rfl,rfl⟩
def S8:Lc:=[cS 2 (.aJ (.c (.aj [] 1 0 1))) 0]
def WE:Lc:=[cS 3 (.aJ (.c (.aj [] 1 0 1))) 0]
def TH:Lc:=[cM 5 0 0,cS 6 (.bin .neq .aT (.t 5) (.c .aT)) 1]
def Vz:Lc:=[cM 7 0 0,cN 8 7 1,cF 9 0 8 3,cL 10 9 7,⟨some 11,.h (.range (.t 10)),none,15⟩]
def JE:Lc:=[⟨some 12,.next (.t 11),none,0⟩,cE 13 0 12 1]
def U0:Lc:=[cS 14 (.entry (.t 11)) 0,cE 15 0 14 1,cM 4 15 3]
def WC:Lc:=[cM 16 3 0,cM 17 4 0,⟨some 18,.m (.buildSlice 1 1 [.str []] [(0,1,.t 17)]),none,2⟩,⟨some 19,.h (.append 1 16 false (.t 16) (.t 18)),none,7⟩,cM 3 19 15]
def yp:ag:=(.seq (.region JE) (.seq (.cond (.t 13) .skip (.exit 0)) (.block 1 (.seq (.region U0) (.region WC)))))
def JZ:Lc:=[cM 20 3 0,cC 21 90 [.t 20] 1]
def Jy:Lc:=[cM 22 3 0,cM 2 22 1]
def xz:ag:=(.seq (.region S8) (.seq (.region WE) (.seq (.seq (.region TH) (.cond (.t 6) (.seq (.region Vz) (.block 0 (.loop yp))) .skip)) (.seq (.region JZ) (.seq (.region Jy) .ret)))))
def B2:aA:=⟨23,[.t 2],true,xz,fun i=>match i with|0=>[3,11]|_=>[],fun i=>match i with|0=>[3]|1=>[3,11]|_=>[]⟩
@[simp] theorem qlp:B2.body=xz∧B2.results=[.t 2]∧B2.own=true∧B2.head 0=[3,11]∧B2.tail 0=[3]∧B2.tail 1=[3,11]:=⟨rfl,rfl,rfl,rfl,rfl,rfl⟩
def QK:Lc:=[cS 4 (.aJ (.c (.bool false))) 0]
def Tw:Lc:=[cM 5 0 0,cM 6 1 0,cC 7 165 [.t 5,.t 6] 3,cS 8 (.bin .geq .no (.t 7) (.c (.int .i64 0))) 7,cM 4 8 15]
def wV:ag:=(.seq (.region QK) (.seq (.region Tw) .ret))
def YS:aA:=⟨9,[.t 4],true,wV,e8,e8⟩
@[simp] theorem qkM:YS.body=wV∧YS.results=[.t 4]∧YS.own=true:=⟨rfl,rfl,rfl⟩
def Sy:Lc:=[⟨some 2,.m (.box (.t 0)),none,0⟩,cS 3 (.aJ (.c (.bool false))) 0]
def Xt:Lc:=[cS 4 (.load (some 2) (.t 2)) 0,cL 5 1 0,cC 6 58 [.t 4,.t 5] 3,cM 3 6 7]
def vV:ag:=(.seq (.region Sy) (.seq (.region Xt) .ret))
def Yn:aA:=⟨7,[.t 3],true,vV,e8,e8⟩
@[simp] theorem qlZ:Yn.body=vV∧Yn.results=[.t 3]∧Yn.own=true:=⟨rfl,rfl,rfl⟩
def EY:Lc:=[⟨some 3,.m (.box (.t 1)),none,0⟩,cS 4 (.aJ (.c (.str []))) 0,cS 5 (.aJ (.c .aK)) 2]
def Fc:Lc:=[cM 8 0 0,cS 9 (.bin .eql .aT (.t 8) (.c .aT)) 1,cM 10 9 3,kJ 11 0 10 false 7,cG 12 (.nilCheck (.t 11)) 10 false 15,cG 13 (.fieldAddr 1 (.t 12)) 10 false 31,cG 14 (.load none (.t 13)) 10 false 63,cG 15 (.bin .eql .bK (.t 14) (.c .bK)) 10 false 127,cP 16 10 15 255]
def qdR:Lc:=[cF 17 0 3 0,cL 18 17 1,cC 19 107 [(.c (.int .i64 2))] 0,cC 20 106 [.t 18,.t 19] 7,cS 4 (.aJ (.c (.str []))) 15,cM 5 20 31]
def ET:Lc:=[cS 22 (.load (some 8) (.t 3)) 0,cC 23 166 [.t 22] 1,cM 21 23 3,cE 24 0 21 7,cE 25 1 21 7,cM 6 24 15,cM 7 25 63]
def yf:List Step:=[.small 0 (cM 26 6 0),.small 1 (cF 27 0 3 0),.small 2 (cL 28 27 2),.small 3 (cM 29 7 0),.aW 4 (cC 30 107 [.t 29] 8),.aW 5 (cC 31 106 [.t 28,.t 30] 30),.small 6 (cM 4 26 63),.small 7 (cM 5 31 127)]
def JK:Lc:=unS yf
def EC:=X0 JK yf (by kernel_rfl)
def p8:ag:=(.seq (.region EY) (.seq (.seq (.region Fc) (.cond (.t 16) (.seq (.draw qdR) .ret) .skip)) (.seq (.region ET) (.seq (.draw JK) .ret))))
def v105:aA:=⟨32,[.t 4,.t 5],true,p8,e8,e8⟩
@[simp] theorem qlC:v105.body=p8∧v105.results=[.t 4,.t 5]∧v105.own=true:=⟨rfl,rfl,rfl⟩
def Aq:Lc:=[cS 4 (.aJ (.c .aK)) 0]
def Ah:Lc:=[cM 5 0 0,⟨some 6,.m (.buildSlice 1 1 [.int .u8 0] [(0,1,.t 5)]),none,1⟩,cS 7 (.toStr (.t 6)) 3,cM 8 1 0,cC 9 167 [.t 7,.t 8] 15,cM 4 9 31]
def nv:ag:=(.seq (.region Aq) (.seq (.region Ah) .ret))
def YE:aA:=⟨10,[.t 4],true,nv,e8,e8⟩
@[simp] theorem qki:YE.body=nv∧YE.results=[.t 4]∧YE.own=true:=⟨rfl,rfl,rfl⟩
def KJ:Lc:=[cS 2 (.aJ (.c .aK)) 0]
def Mf:Lc:=[cM 3 0 0,cS 4 (.bin .eql .int (.t 3) (.c (.int .i64 0))) 1]
def VC:Lc:=[cS 2 (.aJ (.c .aK)) 0]
def QF:Lc:=[cM 5 0 0,cS 6 (.fm 43 (.t 5)) 1,cM 2 6 3]
def sD:ag:=(.seq (.region KJ) (.seq (.seq (.region Mf) (.cond (.t 4) (.seq (.region VC) .ret) .skip)) (.seq (.region QF) .ret)))
def v107:aA:=⟨7,[.t 2],true,sD,e8,e8⟩
@[simp] theorem qkP:v107.body=sD∧v107.results=[.t 2]∧v107.own=true:=⟨rfl,rfl,rfl⟩
def Jd:Lc:=[⟨some 2,.m (.box (.t 0)),none,0⟩,cS 4 (.aJ (.c (.str []))) 0,cS 5 (.aJ (.c (.str []))) 2]
def JT:Lc:=[cS 10 (.load (some 8) (.t 2)) 0,cC 11 168 [.t 10] 1,cM 9 11 3,cE 12 0 9 7,cE 13 1 9 7,cE 14 2 9 7,⟨some 7,.m (.alloc [.int .u8 0,.str [],.str [],.str [],.str [],.int .u64 0,.int .u64 0,.int .u64 0]),none,0⟩,cM 6 12 79,cH (.store 8 (.t 7) (.t 13)) 223,cM 8 14 511]
def LO:Lc:=[cM 15 8 0,cS 16 (.bin .neq .int (.t 15) (.c (.int .i64 0))) 1]
def WA:Lc:=[cS 4 (.aJ (.c (.str []))) 0,cS 5 (.aJ (.c (.str []))) 1]
def OM:List Step:=[.small 0 (cF 17 0 2 0),.small 1 (cL 18 17 1),.small 2 (cM 19 6 0),.small 3 (cM 20 1 0),.small 4 (cS 21 (.max [.t 20,(.c (.int .i64 0))]) 8),.small 5 (cM 22 6 0),.small 6 (cS 23 (.len 1 (.t 22)) 32),.small 7 (cS 24 (.min [.t 21,.t 23]) 120),.small 8 (cS 25 (.slice 1 (.t 19) none (some (.t 24)) none) 252),.aW 9 (cC 26 169 [.t 18,.t 25] 511),.small 10 (cE 27 0 26 1023),.small 11 (cE 28 1 26 1023),.small 12 (cM 4 27 4095),.small 13 (cM 5 28 8191)]
def Ll:Lc:=unS OM
def ZT:=X0 Ll OM (by kernel_rfl)
def sS:ag:=(.seq (.region Jd) (.seq (.region JT) (.seq (.seq (.region LO) (.cond (.t 16) (.seq (.region WA) .ret) .skip)) (.seq (.draw Ll) .ret))))
def Rw:aA:=⟨29,[.t 4,.t 5],true,sS,e8,e8⟩
@[simp] theorem qlH:Rw.body=sS∧Rw.results=[.t 4,.t 5]∧Rw.own=true:=⟨rfl,rfl,rfl⟩
def BE:Lc:=[⟨some 2,.m (.alloc [.int .u8 0,.str [],.str [],.str [],.str [],.int .u64 0,.int .u64 0,.int .u64 0]),none,0⟩,cS 3 (.aJ (.c (.int .i64 0))) 0]
def zp:Lc:=[cM 16 0 0,cC 17 170 [.t 16] 1,cM 15 17 3,cE 18 0 15 7,cE 19 1 15 7,cE 20 2 15 7,cM 4 18 15,cM 5 19 95,cM 6 20 255]
def BJ:Lc:=[cM 21 6 0,cS 22 (.bin .neq .int (.t 21) (.c (.int .i64 0))) 1]
def Uf:Lc:=[cS 23 (.build [.int .u8 0,.str [],.str [],.str [],.str [],.int .u64 0,.int .u64 0,.int .u64 0] []) 0,cM 24 6 0,cH (.store 8 (.t 2) (.t 23)) 1,cM 3 24 7]
def DM:Lc:=[cM 26 4 0,cC 27 171 [.t 26] 1,cM 25 27 3,cE 28 0 25 7,cE 29 1 25 7,cM 7 28 15,cM 8 29 63]
def Fg:Lc:=[cM 30 4 0,cS 31 (.build [.int .u8 0,.str [],.str [],.str [],.str [],.int .u64 0,.int .u64 0,.int .u64 0] [(0,1,.t 30)]) 1,⟨some 9,.m (.alloc [.int .u8 0,.str [],.str [],.str [],.str [],.int .u64 0,.int .u64 0,.int .u64 0]),none,0⟩,cH (.store 8 (.t 9) (.t 31)) 7]
def EK:Lc:=[cM 32 8 0,cS 33 (.un .not (.t 32)) 1,cM 34 33 3,kJ 35 7 34 false 7,cG 36 (.len 0 (.t 35)) 34 false 15,kJ 37 5 34 false 7,cG 38 (.len 1 (.t 37)) 34 false 39,cG 39 (.bin .neq .int (.t 36) (.t 38)) 34 false 127,cP 40 34 39 255,cM 10 40 511]
def D2:Lc:=[cS 11 (.aJ (.c (.int .i64 0))) 0]
def mJ:Lc:=[cM 41 10 0,cS 42 (.un .not (.t 41)) 1,cM 43 42 3,kJ 44 11 43 true 7,kJ 45 5 43 true 7,cG 46 (.len 1 (.t 45)) 43 true 23,cG 47 (.bin .lss .no (.t 44) (.t 46)) 43 true 63,cQ 48 43 47 127]
def qn:Lc:=[cM 51 7 0,cM 52 11 0,cS 53 (.index (.t 51) (.t 52)) 3,cC 54 172 [.t 9,.t 53] 7,cM 12 54 15]
def m6:Lc:=[cM 55 12 0,cS 56 (.bin .neq .aT (.t 55) (.c .aT)) 1]
def vq:Lc:=[cM 57 12 0,cM 58 5 0,cM 59 11 0,cS 60 (.indexAddr 1 (.t 58) (.t 59)) 6,cL 61 60 14,cN 62 57 31,cH (.store 1 (.t 62) (.t 61)) 63]
def um:Lc:=[cM 64 5 0,cM 65 11 0,cS 66 (.indexAddr 1 (.t 64) (.t 65)) 3,cL 67 66 7,cC 68 173 [.t 67] 15,cM 63 68 31,cE 69 0 63 63,cE 70 1 63 63,cM 13 69 127,cM 14 70 511]
def vt:Lc:=[cM 71 14 0,cS 72 (.bin .neq .int (.t 71) (.c (.int .i64 0))) 1]
def NO:Lc:=[cS 10 (.aJ (.c (.bool true))) 0]
def yy:Lc:=[cM 73 7 0,cM 74 11 0,cS 75 (.index (.t 73) (.t 74)) 3,cC 76 174 [.t 9,.t 75] 7,cM 77 13 0,cN 78 76 31,cH (.store 1 (.t 78) (.t 77)) 63]
def oX:Lc:=[cM 49 11 0,cS 50 (.bin .add .no (.t 49) (.c (.int .i64 1))) 1,cM 11 50 3]
def qc:ag:=(.seq (.seq (.region mJ) (.cond (.t 48) .skip (.exit 0))) (.seq (.block 1 (.seq (.seq (.region qn) (.seq (.region m6) (.cond (.t 56) (.seq (.region vq) (.exit 1)) .skip))) (.seq (.region um) (.seq (.seq (.region vt) (.cond (.t 72) (.seq (.region NO) (.exit 0)) .skip)) (.region yy))))) (.region oX)))
def yz:Lc:=[cM 79 10 0]
def FR:Lc:=[cS 80 (.build [.int .u8 0,.str [],.str [],.str [],.str [],.int .u64 0,.int .u64 0,.int .u64 0] []) 0,cH (.store 8 (.t 2) (.t 80)) 1,cS 3 (.aJ (.c (.int .i64 31))) 3]
def Fh:Lc:=[cS 81 (.load (some 8) (.t 9)) 0,cH (.store 8 (.t 2) (.t 81)) 1,cS 3 (.aJ (.c (.int .i64 0))) 3]
def nw:ag:=(.seq (.region BE) (.seq (.seq (.region zp) (.seq (.seq (.region BJ) (.cond (.t 22) (.seq (.region Uf) .ret) .skip)) (.seq (.region DM) (.seq (.region Fg) (.seq (.region EK) (.seq .skip (.seq (.seq (.region D2) (.block 0 (.loop qc))) (.seq (.seq (.region yz) (.cond (.t 79) (.seq (.region FR) .ret) .skip)) (.seq (.region Fh) .ret))))))))) .skip))
def v109:aA:=⟨82,[.cell 2 (some 8),.t 3],true,nw,fun i=>match i with|0=>[11,5,2,9,7,10]|_=>[],fun i=>match i with|0=>[2,9,10]|1=>[5,2,9,7,10,11]|_=>[]⟩
@[simp] theorem qj8:v109.body=nw∧v109.results=[.cell 2 (some 8),.t 3]∧v109.own=true∧v109.head 0=[11,5,2,9,7,10]∧v109.tail 0=[2,9,10]∧v109.tail 1=[5,2,9,7,10,11]:=⟨rfl,rfl,rfl,rfl,rfl,rfl⟩
def zq:Lc:=[⟨some 4,.m (.box (.t 1)),none,0⟩,cS 6 (.aJ (.c (.int .u64 0))) 0,cS 7 (.aJ (.c (.bool false))) 2,cS 8 (.aJ (.c .aK)) 6]
def AS:Lc:=[cS 9 (.aJ (.c (.int .u64 0))) 0]
def Af:Lc:=[cM 16 0 0,cS 17 (.load (some 8) (.t 4)) 0,cC 18 64 [.t 16,.t 17] 3,cM 15 18 7,cE 19 0 15 15,cE 20 1 15 15,cE 21 2 15 15,cM 10 19 31,cM 11 20 191,cM 12 21 511]
def zV:Lc:=[cM 22 12 0,cS 23 (.bin .neq (.iface false) (.t 22) (.c .aK)) 1,cM 24 23 3,kJ 25 11 24 false 7,cG 26 (.un .not (.t 25)) 24 false 15,cP 27 24 26 31]
def Lh:Lc:=[cM 28 9 0,cM 29 12 0,cM 6 28 1,cS 7 (.aJ (.c (.bool false))) 5,cM 8 29 15]
def LI:Lc:=[cM 31 2 0,cM 32 10 0,⟨some 33,.call (.t 31) [.t 32],none,3⟩,cM 30 33 7,cE 34 0 30 15,cE 35 1 30 15,cM 13 34 31,cM 14 35 127]
def LN:Lc:=[cM 36 14 0,cS 37 (.bin .neq .int (.t 36) (.c (.int .i64 0))) 1]
def Oh:List Step:=[.small 0 (cM 38 9 0),.small 1 (cF 39 0 4 0),.small 2 (cL 40 39 2),.small 3 (cM 41 14 0),.aW 4 (cC 42 107 [.t 41] 8),.aW 5 (cC 43 106 [.t 40,.t 42] 30),.small 6 (cM 6 38 63),.small 7 (cS 7 (.aJ (.c (.bool false))) 127),.small 8 (cM 8 43 255)]
def Jn:Lc:=unS Oh
def Z6:=X0 Jn Oh (by kernel_rfl)
def Vc:Lc:=[cM 44 13 0,cM 6 44 1,cS 7 (.aJ (.c (.bool true))) 3,cS 8 (.aJ (.c .aK)) 7]
def m9:ag:=(.seq (.region zq) (.seq (.region AS) (.seq (.region Af) (.seq (.seq (.region zV) (.cond (.t 27) (.seq (.region Lh) .ret) .skip)) (.seq (.region LI) (.seq (.seq (.region LN) (.cond (.t 37) (.seq (.draw Jn) .ret) .skip)) (.seq (.region Vc) .ret)))))))
def Zp:aA:=⟨45,[.t 6,.t 7,.t 8],true,m9,e8,e8⟩
@[simp] theorem qmy:Zp.body=m9∧Zp.results=[.t 6,.t 7,.t 8]∧Zp.own=true:=⟨rfl,rfl,rfl⟩
def IX:Lc:=[cS 2 (.aJ (.c (.int .u64 0))) 0,cS 3 (.aJ (.c (.int .i64 0))) 1]
def Lb:Lc:=[cM 7 0 0,cC 8 161 [.t 7] 1,cM 4 8 3]
def Jr:Lc:=[cM 9 4 0,cC 10 175 [.t 9,(.c (.int .u64 18446744073709551615))] 1,cM 5 10 3]
def Jl:Lc:=[cM 11 4 0,cC 12 176 [.t 11] 1,cM 6 12 3]
def IV:Lc:=[cM 13 6 0,cS 14 (.bin .neq .int (.t 13) (.c (.int .i64 0))) 1]
def Vm:Lc:=[cM 15 6 0,cS 2 (.aJ (.c (.int .u64 0))) 0,cM 3 15 3]
def UJ:Lc:=[cM 16 5 0,cM 2 16 1,cS 3 (.aJ (.c (.int .i64 0))) 3]
def sK:ag:=(.seq (.region IX) (.seq (.region Lb) (.seq (.region Jr) (.seq (.seq (.region Jl) (.seq (.region IV) (.cond (.t 14) (.seq (.region Vm) .ret) .skip))) (.seq (.region UJ) .ret)))))
def RG:aA:=⟨17,[.t 2,.t 3],true,sK,e8,e8⟩
@[simp] theorem qkh:RG.body=sK∧RG.results=[.t 2,.t 3]∧RG.own=true:=⟨rfl,rfl,rfl⟩
def zk:Lc:=[⟨some 4,.m (.box (.t 1)),none,0⟩,⟨some 6,.m (.alloc [.int .i64 0,.int .u64 0,.int .i64 0]),none,0⟩,cS 7 (.aJ (.c (.bool false))) 0,cS 8 (.aJ (.c .aK)) 4]
def A4:Lc:=[⟨some 9,.m (.alloc [.int .i64 0,.int .u64 0,.int .i64 0]),none,0⟩]
def z8:Lc:=[cM 16 0 0,cS 17 (.load (some 8) (.t 4)) 0,cC 18 64 [.t 16,.t 17] 3,cM 15 18 7,cE 19 0 15 15,cE 20 1 15 15,cE 21 2 15 15,cM 10 19 31,cM 11 20 191,cM 12 21 511]
def Bx:Lc:=[cM 22 12 0,cS 23 (.bin .neq (.iface false) (.t 22) (.c .aK)) 1,cM 24 23 3,kJ 25 11 24 false 7,cG 26 (.un .not (.t 25)) 24 false 15,cP 27 24 26 31]
def Ku:Lc:=[cS 28 (.load (some 3) (.t 9)) 0,cM 29 12 0,cH (.store 3 (.t 6) (.t 28)) 1,cS 7 (.aJ (.c (.bool false))) 5,cM 8 29 15]
def KA:Lc:=[cM 31 2 0,cM 32 10 0,⟨some 33,.call (.t 31) [.t 32],none,3⟩,cM 30 33 7,cE 34 0 30 15,cE 35 1 30 15,⟨some 13,.m (.alloc [.int .i64 0,.int .u64 0,.int .i64 0]),none,0⟩,cH (.store 3 (.t 13) (.t 34)) 95,cM 14 35 255]
def JY:Lc:=[cM 36 14 0,cS 37 (.bin .neq .int (.t 36) (.c (.int .i64 0))) 1]
def Od:List Step:=[.small 0 (cS 38 (.load (some 3) (.t 9)) 0),.small 1 (cF 39 0 4 0),.small 2 (cL 40 39 2),.small 3 (cM 41 14 0),.aW 4 (cC 42 107 [.t 41] 8),.aW 5 (cC 43 106 [.t 40,.t 42] 30),.aW 6 (cH (.store 3 (.t 6) (.t 38)) 63),.small 7 (cS 7 (.aJ (.c (.bool false))) 127),.small 8 (cM 8 43 255)]
def KN:Lc:=unS Od
def YB:=X0 KN Od (by kernel_rfl)
def Xz:Lc:=[cS 44 (.load (some 3) (.t 13)) 0,cH (.store 3 (.t 6) (.t 44)) 1,cS 7 (.aJ (.c (.bool true))) 3,cS 8 (.aJ (.c .aK)) 7]
def nh:ag:=(.seq (.region zk) (.seq (.region A4) (.seq (.region z8) (.seq (.seq (.region Bx) (.cond (.t 27) (.seq (.region Ku) .ret) .skip)) (.seq (.region KA) (.seq (.seq (.region JY) (.cond (.t 37) (.seq (.draw KN) .ret) .skip)) (.seq (.region Xz) .ret)))))))
def Zy:aA:=⟨45,[.cell 6 (some 3),.t 7,.t 8],true,nh,e8,e8⟩
@[simp] theorem qkz:Zy.body=nh∧Zy.results=[.cell 6 (some 3),.t 7,.t 8]∧Zy.own=true:=⟨rfl,rfl,rfl⟩
def WM:Lc:=[⟨some 4,.m (.alloc [.int .u8 0,.str [],.str [],.str [],.str [],.int .u64 0,.int .u64 0,.int .u64 0]),none,0⟩]
def Wc:Lc:=[cM 5 0 0,cM 6 1 0,cS 7 (.build [.int .u8 0,.str [],.str [],.str [],.str [],.int .u64 0,.int .u64 0,.int .u64 0] [(0,1,(.c (.int .u8 116))),(4,1,.t 5),(5,1,.t 6)]) 3,cH (.store 8 (.t 4) (.t 7)) 7]
def xA:ag:=(.seq (.region WM) (.seq (.region Wc) .ret))
def Zu:aA:=⟨8,[.cell 4 (some 8)],true,xA,e8,e8⟩
@[simp] theorem qml:Zu.body=xA∧Zu.results=[.cell 4 (some 8)]∧Zu.own=true:=⟨rfl,rfl,rfl⟩
def Wt:Lc:=[⟨some 2,.m (.alloc [.int .i64 0,.int .u64 0,.int .i64 0]),none,0⟩,cS 3 (.aJ (.c (.int .i64 0))) 0]
def S9:Lc:=[cM 5 0 0,cC 6 161 [.t 5] 1,cS 7 (.build [.aT] [(0,1,.t 6)]) 3,⟨some 4,.m (.alloc [.aT]),none,0⟩,cH (.store 1 (.t 4) (.t 7)) 15]
def VN:Lc:=[cS 8 (.load (some 1) (.t 4)) 0,cS 9 (.load (some 1) (.t 4)) 0,cS 10 (.lP 178 [.t 9] []) 2,⟨some 11,.call (.c (.func 177 [] [])) [.t 8,.t 10,(.c (.func 179 [] []))],none,7⟩,cE 12 0 11 15,cE 13 1 11 15,cH (.store 3 (.t 2) (.t 12)) 63,cM 3 13 127]
def vY:ag:=(.seq (.region Wt) (.seq (.region S9) (.seq (.region VN) .ret)))
def qau:aA:=⟨14,[.cell 2 (some 3),.t 3],true,vY,e8,e8⟩
@[simp] theorem qkg:qau.body=vY∧qau.results=[.cell 2 (some 3),.t 3]∧qau.own=true:=⟨rfl,rfl,rfl⟩
def AR:Lc:=[⟨some 4,.m (.box (.t 1)),none,0⟩,⟨some 6,.m (.alloc [.int .i64 0,.str [],.str [],.int .u64 0]),none,0⟩,cS 7 (.aJ (.c (.bool false))) 0,cS 8 (.aJ (.c .aK)) 4]
def AK:Lc:=[⟨some 9,.m (.alloc [.int .i64 0,.str [],.str [],.int .u64 0]),none,0⟩]
def Bu:Lc:=[cM 16 0 0,cS 17 (.load (some 8) (.t 4)) 0,cC 18 64 [.t 16,.t 17] 3,cM 15 18 7,cE 19 0 15 15,cE 20 1 15 15,cE 21 2 15 15,cM 10 19 31,cM 11 20 191,cM 12 21 511]
def AE:Lc:=[cM 22 12 0,cS 23 (.bin .neq (.iface false) (.t 22) (.c .aK)) 1,cM 24 23 3,kJ 25 11 24 false 7,cG 26 (.un .not (.t 25)) 24 false 15,cP 27 24 26 31]
def Mc:Lc:=[cS 28 (.load (some 4) (.t 9)) 0,cM 29 12 0,cH (.store 4 (.t 6) (.t 28)) 1,cS 7 (.aJ (.c (.bool false))) 5,cM 8 29 15]
def I5:Lc:=[cM 31 2 0,cM 32 10 0,⟨some 33,.call (.t 31) [.t 32],none,3⟩,cM 30 33 7,cE 34 0 30 15,cE 35 1 30 15,⟨some 13,.m (.alloc [.int .i64 0,.str [],.str [],.int .u64 0]),none,0⟩,cH (.store 4 (.t 13) (.t 34)) 95,cM 14 35 255]
def Jg:Lc:=[cM 36 14 0,cS 37 (.bin .neq .int (.t 36) (.c (.int .i64 0))) 1]
def MC:List Step:=[.small 0 (cS 38 (.load (some 4) (.t 9)) 0),.small 1 (cF 39 0 4 0),.small 2 (cL 40 39 2),.small 3 (cM 41 14 0),.aW 4 (cC 42 107 [.t 41] 8),.aW 5 (cC 43 106 [.t 40,.t 42] 30),.aW 6 (cH (.store 4 (.t 6) (.t 38)) 63),.small 7 (cS 7 (.aJ (.c (.bool false))) 127),.small 8 (cM 8 43 255)]
def Ix:Lc:=unS MC
def Y3:=X0 Ix MC (by kernel_rfl)
def R6:Lc:=[cS 44 (.load (some 4) (.t 13)) 0,cH (.store 4 (.t 6) (.t 44)) 1,cS 7 (.aJ (.c (.bool true))) 3,cS 8 (.aJ (.c .aK)) 7]
def nk:ag:=(.seq (.region AR) (.seq (.region AK) (.seq (.region Bu) (.seq (.seq (.region AE) (.cond (.t 27) (.seq (.region Mc) .ret) .skip)) (.seq (.region I5) (.seq (.seq (.region Jg) (.cond (.t 37) (.seq (.draw Ix) .ret) .skip)) (.seq (.region R6) .ret)))))))
def Yi:aA:=⟨45,[.cell 6 (some 4),.t 7,.t 8],true,nk,e8,e8⟩
@[simp] theorem qmb:Yi.body=nk∧Yi.results=[.cell 6 (some 4),.t 7,.t 8]∧Yi.own=true:=⟨rfl,rfl,rfl⟩
def SE:Lc:=[⟨some 6,.m (.alloc [.int .u8 0,.str [],.str [],.str [],.str [],.int .u64 0,.int .u64 0,.int .u64 0]),none,0⟩]
def RB:Lc:=[cM 7 0 0,cM 8 1 0,cM 9 2 0,cS 10 (.build [.int .u8 0,.str [],.str [],.str [],.str [],.int .u64 0,.int .u64 0,.int .u64 0] [(0,1,(.c (.int .u8 97))),(4,1,.t 7),(5,1,.t 8),(6,1,.t 9)]) 7,cH (.store 8 (.t 6) (.t 10)) 15]
def we:ag:=(.seq (.region SE) (.seq (.region RB) .ret))
def Yo:aA:=⟨11,[.cell 6 (some 8)],true,we,e8,e8⟩
@[simp] theorem qkL:Yo.body=we∧Yo.results=[.cell 6 (some 8)]∧Yo.own=true:=⟨rfl,rfl,rfl⟩
def BM:Lc:=[⟨some 2,.m (.alloc [.int .i64 0,.str [],.str [],.int .u64 0]),none,0⟩,cS 3 (.aJ (.c (.int .i64 0))) 0]
def zi:Lc:=[cM 5 0 0,cS 6 (.len 1 (.t 5)) 1,cS 7 (.bin .gtr .no (.t 6) (.c (.int .i64 0))) 3,cM 8 7 7,kJ 9 0 8 true 15,cG 10 (.indexAddr 1 (.t 9) (.c (.int .i64 0))) 8 true 31,cG 11 (.load none (.t 10)) 8 true 63,cG 12 (.bin .lss .no (.t 11) (.c (.int .u8 1))) 8 true 127,kJ 13 12 8 true 255,kJ 14 0 13 false 511,cG 15 (.indexAddr 1 (.t 14) (.c (.int .i64 0))) 13 false 1023,cG 16 (.load none (.t 15)) 13 false 2047,cG 17 (.bin .gtr .no (.t 16) (.c (.int .u8 3))) 13 false 4095,cG 18 (.pick (.t 13) (.c (.bool true)) (.t 17)) 8 true 8191,cQ 19 8 18 16383]
def Je:Lc:=[cS 20 (.build [.int .i64 0,.str [],.str [],.int .u64 0] []) 0,cH (.store 4 (.t 2) (.t 20)) 1,cS 3 (.aJ (.c (.int .i64 1))) 3]
def Jb:Lc:=[cM 21 0 0,cC 22 161 [.t 21] 1,cS 23 (.build [.aT] [(0,1,.t 22)]) 3,⟨some 4,.m (.alloc [.aT]),none,0⟩,cH (.store 1 (.t 4) (.t 23)) 15]
def IB:Lc:=[cS 24 (.load (some 1) (.t 4)) 0,cS 25 (.load (some 1) (.t 4)) 0,cS 26 (.lP 181 [.t 25] []) 2,⟨some 27,.call (.c (.func 180 [] [])) [.t 24,.t 26,(.c (.func 182 [] []))],none,7⟩,cE 28 0 27 15,cE 29 1 27 15,cH (.store 4 (.t 2) (.t 28)) 63,cM 3 29 127]
def nu:ag:=(.seq (.region BM) (.seq (.seq (.region zi) (.cond (.t 19) (.seq (.region Je) .ret) .skip)) (.seq (.region Jb) (.seq (.region IB) .ret))))
def v117:aA:=⟨30,[.cell 2 (some 4),.t 3],true,nu,e8,e8⟩
@[simp] theorem qk4:v117.body=nu∧v117.results=[.cell 2 (some 4),.t 3]∧v117.own=true:=⟨rfl,rfl,rfl⟩
def AU:Lc:=[⟨some 4,.m (.box (.t 1)),none,0⟩,⟨some 6,.m (.alloc [.int .i64 0,.int .i64 0,.str []]),none,0⟩,cS 7 (.aJ (.c (.bool false))) 0,cS 8 (.aJ (.c .aK)) 4]
def BO:Lc:=[⟨some 9,.m (.alloc [.int .i64 0,.int .i64 0,.str []]),none,0⟩]
def zu:Lc:=[cM 16 0 0,cS 17 (.load (some 8) (.t 4)) 0,cC 18 64 [.t 16,.t 17] 3,cM 15 18 7,cE 19 0 15 15,cE 20 1 15 15,cE 21 2 15 15,cM 10 19 31,cM 11 20 191,cM 12 21 511]
def zv:Lc:=[cM 22 12 0,cS 23 (.bin .neq (.iface false) (.t 22) (.c .aK)) 1,cM 24 23 3,kJ 25 11 24 false 7,cG 26 (.un .not (.t 25)) 24 false 15,cP 27 24 26 31]
def KW:Lc:=[cS 28 (.load (some 3) (.t 9)) 0,cM 29 12 0,cH (.store 3 (.t 6) (.t 28)) 1,cS 7 (.aJ (.c (.bool false))) 5,cM 8 29 15]
def Ky:Lc:=[cM 31 2 0,cM 32 10 0,⟨some 33,.call (.t 31) [.t 32],none,3⟩,cM 30 33 7,cE 34 0 30 15,cE 35 1 30 15,⟨some 13,.m (.alloc [.int .i64 0,.int .i64 0,.str []]),none,0⟩,cH (.store 3 (.t 13) (.t 34)) 95,cM 14 35 255]
def Jv:Lc:=[cM 36 14 0,cS 37 (.bin .neq .int (.t 36) (.c (.int .i64 0))) 1]
def NR:List Step:=[.small 0 (cS 38 (.load (some 3) (.t 9)) 0),.small 1 (cF 39 0 4 0),.small 2 (cL 40 39 2),.small 3 (cM 41 14 0),.aW 4 (cC 42 107 [.t 41] 8),.aW 5 (cC 43 106 [.t 40,.t 42] 30),.aW 6 (cH (.store 3 (.t 6) (.t 38)) 63),.small 7 (cS 7 (.aJ (.c (.bool false))) 127),.small 8 (cM 8 43 255)]
def Iy:Lc:=unS NR
def Yk:=X0 Iy NR (by kernel_rfl)
def Rg:Lc:=[cS 44 (.load (some 3) (.t 13)) 0,cH (.store 3 (.t 6) (.t 44)) 1,cS 7 (.aJ (.c (.bool true))) 3,cS 8 (.aJ (.c .aK)) 7]
def nq:ag:=(.seq (.region AU) (.seq (.region BO) (.seq (.region zu) (.seq (.seq (.region zv) (.cond (.t 27) (.seq (.region KW) .ret) .skip)) (.seq (.region Ky) (.seq (.seq (.region Jv) (.cond (.t 37) (.seq (.draw Iy) .ret) .skip)) (.seq (.region Rg) .ret)))))))
def qai:aA:=⟨45,[.cell 6 (some 3),.t 7,.t 8],true,nq,e8,e8⟩
@[simp] theorem qmu:qai.body=nq∧qai.results=[.cell 6 (some 3),.t 7,.t 8]∧qai.own=true:=⟨rfl,rfl,rfl⟩
def Xf:Lc:=[⟨some 4,.m (.alloc [.int .u8 0,.str [],.str [],.str [],.str [],.int .u64 0,.int .u64 0,.int .u64 0]),none,0⟩]
def Sh:Lc:=[cM 5 0 0,cM 6 1 0,cS 7 (.build [.int .u8 0,.str [],.str [],.str [],.str [],.int .u64 0,.int .u64 0,.int .u64 0] [(0,1,(.c (.int .u8 118))),(4,1,.t 5),(1,1,.t 6)]) 3,cH (.store 8 (.t 4) (.t 7)) 7]
def wF:ag:=(.seq (.region Xf) (.seq (.region Sh) .ret))
def qab:aA:=⟨8,[.cell 4 (some 8)],true,wF,e8,e8⟩
@[simp] theorem qkj:qab.body=wF∧qab.results=[.cell 4 (some 8)]∧qab.own=true:=⟨rfl,rfl,rfl⟩
def FD:Lc:=[⟨some 2,.m (.alloc [.int .i64 0,.int .i64 0,.str []]),none,0⟩,cS 3 (.aJ (.c (.int .i64 0))) 0]
def E8:Lc:=[cM 8 0 0,cC 9 121 [.t 8] 1,cM 7 9 3,cE 10 0 7 7,cE 11 1 7 7,cE 12 2 7 7,⟨some 4,.m (.alloc [.int .i64 0,.int .i64 0,.str []]),none,0⟩,cH (.store 3 (.t 4) (.t 10)) 79,cM 5 11 223,cM 6 12 511]
def FI:Lc:=[cM 13 6 0,cS 14 (.bin .eql .int (.t 13) (.c (.int .i64 0))) 1,cM 15 14 3,kJ 16 5 15 true 7,kJ 17 0 15 true 7,cG 18 (.len 1 (.t 17)) 15 true 23,cG 19 (.bin .lss .no (.t 16) (.t 18)) 15 true 63,cQ 20 15 19 127]
def Ti:Lc:=[cS 6 (.aJ (.c (.int .i64 10))) 0]
def F4:Lc:=[cS 21 (.load (some 3) (.t 4)) 0,cM 22 6 0,cH (.store 3 (.t 2) (.t 21)) 1,cM 3 22 7]
def qe:ag:=(.seq (.region FD) (.seq (.region E8) (.seq (.seq (.region FI) (.cond (.t 20) (.region Ti) .skip)) (.seq (.region F4) .ret))))
def Zh:aA:=⟨23,[.cell 2 (some 3),.t 3],true,qe,e8,e8⟩
@[simp] theorem qlj:Zh.body=qe∧Zh.results=[.cell 2 (some 3),.t 3]∧Zh.own=true:=⟨rfl,rfl,rfl⟩
def wU:Lc:=[⟨some 2,.m (.alloc [.int .i64 0,.int .i64 0,.str []]),none,0⟩,cS 3 (.aJ (.c (.int .i64 0))) 0,cS 4 (.aJ (.c (.int .i64 0))) 2]
def w9:Lc:=[cM 9 0 0,cS 10 (.len 1 (.t 9)) 1,cS 11 (.bin .eql .int (.t 10) (.c (.int .i64 0))) 3]
def QI:Lc:=[cS 12 (.build [.int .i64 0,.int .i64 0,.str []] []) 0,cH (.store 3 (.t 2) (.t 12)) 1,cS 3 (.aJ (.c (.int .i64 0))) 3,cS 4 (.aJ (.c (.int .i64 6))) 7]
def AV:Lc:=[⟨some 5,.m (.alloc [.int .i64 0,.int .i64 0,.str []]),none,0⟩]
def Ag:Lc:=[cM 13 0 0,cS 14 (.slice 1 (.t 13) (some (.c (.int .i64 1))) none none) 1,cC 15 161 [.t 14] 3,cM 6 15 7]
def BD:Lc:=[cM 16 0 0,cS 17 (.indexAddr 1 (.t 16) (.c (.int .i64 0))) 1,cL 18 17 3]
def Ad:Lc:=[cS 21 (.bin .eql .int (.t 18) (.c (.int .u8 1))) 0,cM 20 21 1]
def TT:Lc:=[cM 22 6 0,cC 23 184 [.t 22] 1,cC 24 183 [.t 23] 3,cH (.store 3 (.t 5) (.t 24)) 7]
def Fi:Lc:=[cS 26 (.bin .eql .int (.t 18) (.c (.int .u8 2))) 0,cM 25 26 1]
def VD:Lc:=[cM 27 6 0,cC 28 184 [.t 27] 1,cS 29 (.build [.int .i64 0,.int .i64 0,.str []] [(0,1,(.c (.int .i64 2))),(1,1,.t 28)]) 3,cH (.store 3 (.t 5) (.t 29)) 7]
def E5:Lc:=[cS 31 (.bin .eql .int (.t 18) (.c (.int .u8 3))) 0,cM 30 31 1]
def MD:Lc:=[cM 32 6 0,cC 33 186 [.t 32,(.c (.int .i64 64))] 1,cC 34 185 [.t 33] 3,cH (.store 3 (.t 5) (.t 34)) 7]
def Oo:Lc:=[cS 19 (.build [.int .i64 0,.int .i64 0,.str []] []) 0,cH (.store 3 (.t 2) (.t 19)) 1,cS 3 (.aJ (.c (.int .i64 0))) 3,cS 4 (.aJ (.c (.int .i64 40))) 7]
def uI:Lc:=[cM 35 6 0,cC 36 187 [.t 35] 1,cM 7 36 3]
def uN:Lc:=[cM 37 7 0,cS 38 (.bin .neq .int (.t 37) (.c (.int .i64 0))) 1]
def Ft:Lc:=[cS 39 (.build [.int .i64 0,.int .i64 0,.str []] []) 0,cM 40 7 0,cH (.store 3 (.t 2) (.t 39)) 1,cS 3 (.aJ (.c (.int .i64 0))) 5,cM 4 40 15]
def yI:Lc:=[cS 41 (.load (some 3) (.t 5)) 0,cC 42 125 [.t 41] 1,cM 8 42 3]
def yj:Lc:=[cM 43 8 0,cS 44 (.bin .neq .int (.t 43) (.c (.int .i64 0))) 1]
def FN:Lc:=[cS 45 (.build [.int .i64 0,.int .i64 0,.str []] []) 0,cM 46 8 0,cH (.store 3 (.t 2) (.t 45)) 1,cS 3 (.aJ (.c (.int .i64 0))) 5,cM 4 46 15]
def Ii:List Step:=[.small 0 (cS 47 (.load (some 3) (.t 5)) 0),.small 1 (cM 48 0 0),.small 2 (cS 49 (.len 1 (.t 48)) 2),.small 3 (cM 50 6 0),.aW 4 (cC 51 188 [.t 50] 8),.small 5 (cS 52 (.bin .sub .no (.t 49) (.t 51)) 30),.aW 6 (cH (.store 3 (.t 2) (.t 47)) 25),.small 7 (cM 3 52 127),.small 8 (cS 4 (.aJ (.c (.int .i64 0))) 255)]
def yF:Lc:=unS Ii
def Ry:=X0 yF Ii (by kernel_rfl)
def lS:ag:=(.seq (.region wU) (.seq (.seq (.region w9) (.cond (.t 11) (.seq (.region QI) .ret) .skip)) (.seq (.region AV) (.seq (.region Ag) (.seq (.seq (.region BD) (.block 0 (.seq (.region Ad) (.cond (.t 20) (.region TT) (.seq (.region Fi) (.cond (.t 25) (.region VD) (.seq (.region E5) (.cond (.t 30) (.region MD) (.seq (.region Oo) .ret))))))))) (.seq (.seq (.region uI) (.seq (.region uN) (.cond (.t 38) (.seq (.region Ft) .ret) .skip))) (.seq (.seq (.region yI) (.seq (.region yj) (.cond (.t 44) (.seq (.region FN) .ret) .skip))) (.seq (.draw yF) .ret))))))))
def Hw:aA:=⟨53,[.cell 2 (some 3),.t 3,.t 4],true,lS,e8,fun i=>match i with|0=>[2,5,0,6]|_=>[]⟩
@[simp] theorem qkB:Hw.body=lS∧Hw.results=[.cell 2 (some 3),.t 3,.t 4]∧Hw.own=true∧Hw.tail 0=[2,5,0,6]:=⟨rfl,rfl,rfl,rfl⟩
def Es:Lc:=[⟨some 4,.m (.box (.t 1)),none,0⟩,cS 6 (.aJ (.c .aK)) 0]
def Ed:Lc:=[cM 10 0 0,cS 11 (.load (some 8) (.t 4)) 0,cC 12 105 [.t 10,.t 11] 3,cM 9 12 7,cE 13 0 9 15,cE 14 1 9 15,cM 7 13 31,cM 8 14 127]
def DL:Lc:=[cM 15 8 0,cS 16 (.bin .neq (.iface false) (.t 15) (.c .aK)) 1]
def Uv:Lc:=[cM 17 8 0,cM 6 17 1]
def KC:Lc:=[cM 18 2 0,cS 19 (.len 1 (.t 18)) 1,cS 20 (.bin .eql .int (.t 19) (.c (.int .i64 0))) 3]
def M0:List Step:=[.small 0 (cF 21 0 4 0),.small 1 (cL 22 21 1),.aW 2 (cC 23 107 [(.c (.int .i64 1))] 0),.aW 3 (cC 24 106 [.t 22,.t 23] 7),.small 4 (cM 6 24 15)]
def JI:Lc:=unS M0
def qam:=X0 JI M0 (by kernel_rfl)
def SI:Lc:=[cM 25 0 0,cS 26 (.load (some 8) (.t 4)) 0,cM 27 2 0,cC 28 66 [.t 25,.t 26,.t 27] 7,cM 6 28 15]
def pR:ag:=(.seq (.region Es) (.seq (.seq (.region Ed) (.seq (.region DL) (.cond (.t 16) (.seq (.region Uv) .ret) .skip))) (.seq (.seq (.region KC) (.cond (.t 20) (.seq (.draw JI) .ret) .skip)) (.seq (.region SI) .ret))))
def Y2:aA:=⟨29,[.t 6],true,pR,e8,e8⟩
@[simp] theorem qlk:Y2.body=pR∧Y2.results=[.t 6]∧Y2.own=true:=⟨rfl,rfl,rfl⟩
def J7:Lc:=[⟨some 1,.m (.box (.t 0)),none,0⟩,cS 2 (.aJ (.c (.aj [] 1 0 1))) 0]
def Jm:Lc:=[cS 3 (.load (some 5) (.t 1)) 0,cC 4 164 [.t 3] 1,cS 5 (.bin .neq .int (.t 4) (.c (.int .i64 0))) 3]
def QH:Lc:=[cS 2 (.aJ (.c (.aj [] 1 0 1))) 0]
def Lu:Lc:=[cF 6 0 1 0,cL 7 6 1,cC 8 190 [.t 7] 3,cF 9 1 1 0,cL 10 9 8,cC 11 191 [.t 10] 31,cF 12 2 1 0,cL 13 12 64,cS 14 (.bI .u8 (.t 13)) 192,⟨some 15,.m (.buildSlice 1 1 [.int .u8 0] [(0,1,.t 14)]),none,448⟩,cF 16 3 1 0,cL 17 16 1024,cC 18 190 [.t 17] 3135,cF 19 4 1 0,cL 20 19 8192,cC 21 191 [.t 20] 31807,⟨some 22,.m (.buildSlice 1 5 [.aj [] 0 0 1] [(0,1,.t 8),(1,1,.t 11),(2,1,.t 15),(3,1,.t 18),(4,1,.t 21)]),none,65535⟩,cC 23 189 [.t 22] 131071,cM 2 23 262143]
def Oy:List Step:=[.small 0 (cF 6 0 1 0),.small 1 (cL 7 6 1),.small 3 (cF 9 1 1 0),.small 4 (cL 10 9 8),.small 6 (cF 12 2 1 0),.small 7 (cL 13 12 64),.small 8 (cS 14 (.bI .u8 (.t 13)) 192),.small 9 ⟨some 15,.m (.buildSlice 1 1 [.int .u8 0] [(0,1,.t 14)]),none,448⟩,.small 10 (cF 16 3 1 0),.small 11 (cL 17 16 1024),.small 13 (cF 19 4 1 0),.small 14 (cL 20 19 8192),.aW 2 (cC 8 190 [.t 7] 3),.aW 5 (cC 11 191 [.t 10] 31),.aW 12 (cC 18 190 [.t 17] 3135),.aW 15 (cC 21 191 [.t 20] 31807),.small 16 ⟨some 22,.m (.buildSlice 1 5 [.aj [] 0 0 1] [(0,1,.t 8),(1,1,.t 11),(2,1,.t 15),(3,1,.t 18),(4,1,.t 21)]),none,65535⟩,.aW 17 (cC 23 189 [.t 22] 131071),.small 18 (cM 2 23 262143)]
def Zo:=X0 Lu Oy (by kernel_rfl)
def sN:ag:=(.seq (.region J7) (.seq (.seq (.region Jm) (.cond (.t 5) (.seq (.region QH) .ret) .skip)) (.seq (.draw Lu) .ret)))
def Zk:aA:=⟨24,[.t 2],true,sN,e8,e8⟩
@[simp] theorem qmw:Zk.body=sN∧Zk.results=[.t 2]∧Zk.own=true:=⟨rfl,rfl,rfl⟩
def LR:Lc:=[⟨some 1,.m (.box (.t 0)),none,0⟩,cS 2 (.aJ (.c (.aj [] 1 0 1))) 0]
def Jw:Lc:=[cS 3 (.load (some 3) (.t 1)) 0,cC 4 179 [.t 3] 1,cS 5 (.bin .neq .int (.t 4) (.c (.int .i64 0))) 3]
def UA:Lc:=[cS 2 (.aJ (.c (.aj [] 1 0 1))) 0]
def IC:Lc:=[cF 6 0 1 0,cL 7 6 1,cS 8 (.bI .u64 (.t 7)) 3,cC 9 191 [.t 8] 7,cF 10 1 1 0,cL 11 10 16,cC 12 191 [.t 11] 63,cF 13 2 1 0,cL 14 13 128,cS 15 (.bin .add .no (.t 14) (.c (.int .i64 1))) 384,cS 16 (.bI .u64 (.t 15)) 896,cC 17 191 [.t 16] 2047,⟨some 18,.m (.buildSlice 1 3 [.aj [] 0 0 1] [(0,1,.t 9),(1,1,.t 12),(2,1,.t 17)]),none,4095⟩,cC 19 189 [.t 18] 8191,cM 2 19 16383]
def Ny:List Step:=[.small 0 (cF 6 0 1 0),.small 1 (cL 7 6 1),.small 2 (cS 8 (.bI .u64 (.t 7)) 3),.small 4 (cF 10 1 1 0),.small 5 (cL 11 10 16),.small 7 (cF 13 2 1 0),.small 8 (cL 14 13 128),.small 9 (cS 15 (.bin .add .no (.t 14) (.c (.int .i64 1))) 384),.small 10 (cS 16 (.bI .u64 (.t 15)) 896),.aW 3 (cC 9 191 [.t 8] 7),.aW 6 (cC 12 191 [.t 11] 63),.aW 11 (cC 17 191 [.t 16] 2047),.small 12 ⟨some 18,.m (.buildSlice 1 3 [.aj [] 0 0 1] [(0,1,.t 9),(1,1,.t 12),(2,1,.t 17)]),none,4095⟩,.aW 13 (cC 19 189 [.t 18] 8191),.small 14 (cM 2 19 16383)]
def qaj:=X0 IC Ny (by kernel_rfl)
def sL:ag:=(.seq (.region LR) (.seq (.seq (.region Jw) (.cond (.t 5) (.seq (.region UA) .ret) .skip)) (.seq (.draw IC) .ret)))
def v124:aA:=⟨20,[.t 2],true,sL,e8,e8⟩
@[simp] theorem qkV:v124.body=sL∧v124.results=[.t 2]∧v124.own=true:=⟨rfl,rfl,rfl⟩
def iq:Lc:=[⟨some 1,.m (.box (.t 0)),none,0⟩,cS 2 (.aJ (.c (.int .i64 0))) 0]
def iC:Lc:=[cS 3 (.aJ (.c (.bool false))) 0]
def iB:Lc:=[cF 4 0 1 0,cL 5 4 1]
def ij:Lc:=[cS 7 (.bin .eql .int (.t 5) (.c (.int .i64 3))) 0,cM 6 7 1]
def nL:Lc:=[cS 9 (.bin .eql .int (.t 5) (.c (.int .i64 2))) 0,cM 8 9 1]
def AZ:Lc:=[cS 11 (.bin .eql .int (.t 5) (.c (.int .i64 1))) 0,cM 10 11 1]
def tS:Lc:=[cF 12 2 1 0,cL 13 12 1,cS 14 (.len 0 (.t 13)) 3,cS 15 (.bin .gtr .no (.t 14) (.c (.int .i64 64))) 7]
def Kb:Lc:=[cS 2 (.aJ (.c (.int .i64 3))) 0]
def BT:Lc:=[cF 16 1 1 0,cL 17 16 1,cS 18 (.bin .neq .int (.t 17) (.c (.int .i64 0))) 3,cM 3 18 7]
def tE:Lc:=[cF 19 1 1 0,cL 20 19 1,cS 21 (.bin .neq .int (.t 20) (.c (.int .i64 0))) 3,cM 22 21 7,cG 23 (.fieldAddr 1 (.t 1)) 22 true 15,cG 24 (.load none (.t 23)) 22 true 31,cG 25 (.bin .neq .int (.t 24) (.c (.int .i64 1))) 22 true 63,cQ 26 22 25 127,cM 3 26 255]
def m8:Lc:=[cM 27 3 0,cM 28 27 1,cG 29 (.fieldAddr 2 (.t 1)) 28 false 3,cG 30 (.load none (.t 29)) 28 false 7,cG 31 (.bin .neq .str (.t 30) (.c (.str []))) 28 false 15,cP 32 28 31 31,cM 3 32 63]
def D1:Lc:=[cS 2 (.aJ (.c (.int .i64 40))) 0]
def iV:Lc:=[cM 33 3 0]
def oK:Lc:=[cS 2 (.aJ (.c (.int .i64 1))) 0]
def sI:Lc:=[cS 2 (.aJ (.c (.int .i64 0))) 0]
def c6:ag:=(.seq (.region iq) (.seq (.region iC) (.seq (.seq (.region iB) (.block 0 (.seq (.block 4 (.seq (.block 3 (.seq (.block 2 (.seq (.block 1 (.seq (.seq (.seq (.region ij) (.cond (.t 6) (.exit 1) .skip)) (.seq (.seq (.region nL) (.cond (.t 8) (.exit 2) .skip)) (.seq (.region AZ) (.cond (.t 10) (.exit 3) .skip)))) (.exit 4))) (.seq (.seq (.seq (.region tS) (.cond (.t 15) (.seq (.region Kb) .ret) .skip)) (.region BT)) (.exit 0)))) (.region tE))) (.seq (.region m8) (.exit 0)))) (.seq (.seq (.region D1) .ret) (.exit 0))))) (.seq (.seq (.region iV) (.cond (.t 33) (.seq (.region oK) .ret) .skip)) (.seq (.region sI) .ret)))))
def B0:aA:=⟨34,[.t 2],true,c6,e8,fun i=>match i with|1=>[1]|2=>[1]|3=>[1,3]|4=>[]|0=>[3]|_=>[]⟩
@[simp] theorem qk5:B0.body=c6∧B0.results=[.t 2]∧B0.own=true∧B0.tail 1=[1]∧B0.tail 2=[1]∧B0.tail 3=[1,3]∧B0.tail 4=[]∧B0.tail 0=[3]:=⟨rfl,rfl,rfl,rfl,rfl,rfl,rfl,rfl⟩
def E4:Lc:=[⟨some 1,.m (.box (.t 0)),none,0⟩,cS 2 (.aJ (.c (.aj [] 1 0 1))) 0]
def EB:Lc:=[cS 4 (.load (some 3) (.t 1)) 0,cC 5 125 [.t 4] 1,cS 6 (.bin .neq .int (.t 5) (.c (.int .i64 0))) 3]
def Xl:Lc:=[cS 2 (.aJ (.c (.aj [] 1 0 1))) 0]
def Km:Lc:=[cF 7 0 1 0,cL 8 7 1,cS 9 (.bI .u8 (.t 8)) 3,⟨some 10,.m (.buildSlice 1 1 [.int .u8 0] [(0,1,.t 9)]),none,7⟩,cM 3 10 15]
def K5:Lc:=[cF 11 0 1 0,cL 12 11 1,cS 13 (.bin .eql .int (.t 12) (.c (.int .i64 3))) 3]
def QU:Lc:=[cM 14 3 0,cF 15 2 1 0,cL 16 15 2,cC 17 190 [.t 16] 6,⟨some 18,.h (.append 1 1 false (.t 14) (.t 17)),none,15⟩,cM 2 18 31]
def RM:Lc:=[cM 19 3 0,cF 20 1 1 0,cL 21 20 2,cC 22 192 [.t 21] 6,⟨some 23,.h (.append 1 1 false (.t 19) (.t 22)),none,15⟩,cM 2 23 31]
def pT:ag:=(.seq (.region E4) (.seq (.seq (.region EB) (.cond (.t 6) (.seq (.region Xl) .ret) .skip)) (.seq (.region Km) (.seq (.seq (.region K5) (.cond (.t 13) (.seq (.region QU) .ret) .skip)) (.seq (.region RM) .ret)))))
def qak:aA:=⟨24,[.t 2],true,pT,e8,e8⟩
@[simp] theorem qlN:qak.body=pT∧qak.results=[.t 2]∧qak.own=true:=⟨rfl,rfl,rfl⟩
def AL:Lc:=[⟨some 1,.m (.box (.t 0)),none,0⟩,cS 2 (.aJ (.c (.aj [] 1 0 1))) 0]
def zB:Lc:=[cS 4 (.load (some 4) (.t 1)) 0,cC 5 182 [.t 4] 1,cS 6 (.bin .neq .int (.t 5) (.c (.int .i64 0))) 3]
def UE:Lc:=[cS 2 (.aJ (.c (.aj [] 1 0 1))) 0]
def Er:Lc:=[cF 7 0 1 0,cL 8 7 1,cS 9 (.bI .u8 (.t 8)) 3,⟨some 10,.m (.buildSlice 1 1 [.int .u8 0] [(0,1,.t 9)]),none,7⟩,cM 3 10 15]
def E7:Lc:=[cF 11 0 1 0,cL 12 11 1,cS 13 (.bin .eql .int (.t 12) (.c (.int .i64 1))) 3]
def W6:Lc:=[cM 14 3 0,cF 15 3 1 0,cL 16 15 2,cC 17 191 [.t 16] 6,⟨some 18,.h (.append 1 1 false (.t 14) (.t 17)),none,15⟩,cM 2 18 31]
def Ls:Lc:=[cM 19 3 0,cF 20 1 1 0,cL 21 20 2,cC 22 190 [.t 21] 6,⟨some 23,.h (.append 1 1 false (.t 19) (.t 22)),none,15⟩,cM 3 23 31]
def L1:Lc:=[cF 24 0 1 0,cL 25 24 1,cS 26 (.bin .eql .int (.t 25) (.c (.int .i64 2))) 3]
def Rp:Lc:=[cM 27 3 0,cF 28 2 1 0,cL 29 28 2,cC 30 190 [.t 29] 6,⟨some 31,.h (.append 1 1 false (.t 27) (.t 30)),none,15⟩,cM 3 31 31]
def JF:Lc:=[cM 32 3 0,cM 2 32 1]
def ny:ag:=(.seq (.region AL) (.seq (.seq (.region zB) (.cond (.t 6) (.seq (.region UE) .ret) .skip)) (.seq (.region Er) (.seq (.seq (.region E7) (.cond (.t 13) (.seq (.region W6) .ret) .skip)) (.seq (.region Ls) (.seq (.seq (.region L1) (.cond (.t 26) (.region Rp) .skip)) (.seq (.region JF) .ret)))))))
def v127:aA:=⟨33,[.t 2],true,ny,e8,e8⟩
@[simp] theorem qlz:v127.body=ny∧v127.results=[.t 2]∧v127.own=true:=⟨rfl,rfl,rfl⟩
def Vw:Lc:=[cS 2 (.aJ (.c .aK)) 0]
def VK:Lc:=[cM 5 0 0,cS 6 (.len 1 (.t 5)) 1,cS 7 (.aJ (.c (.int .i64 0))) 0]
def F8:Lc:=[cS 8 (.bin .lss .no (.t 7) (.t 6)) 0]
def Md:Lc:=[cS 9 (.indexAddr 1 (.t 5) (.t 7)) 0,cL 10 9 1,cM 4 10 3]
def KT:Lc:=[cM 11 4 0,cS 12 (.bin .neq (.iface false) (.t 11) (.c .aK)) 1]
def qdT:Lc:=[cM 13 4 0,cM 2 13 1]
def KH:Lc:=[cS 14 (.bin .add .no (.t 7) (.c (.int .i64 1))) 0,cM 7 14 1]
def yS:ag:=(.seq (.region F8) (.seq (.cond (.t 8) .skip (.exit 0)) (.seq (.block 1 (.seq (.region Md) (.seq (.region KT) (.cond (.t 12) (.seq (.region qdT) .ret) .skip)))) (.region KH))))
def SK:Lc:=[cS 2 (.aJ (.c .aK)) 0]
def wT:ag:=(.seq (.region Vw) (.seq (.seq (.region VK) (.block 0 (.loop yS))) (.seq (.region SK) .ret)))
def L2:aA:=⟨15,[.t 2],true,wT,fun i=>match i with|0=>[7,5,6]|_=>[],fun i=>match i with|0=>[]|1=>[5,6,7]|_=>[]⟩
@[simp] theorem qlL:L2.body=wT∧L2.results=[.t 2]∧L2.own=true∧L2.head 0=[7,5,6]∧L2.tail 0=[]∧L2.tail 1=[5,6,7]:=⟨rfl,rfl,rfl,rfl,rfl,rfl⟩
def Fq:Lc:=[⟨some 7,.m (.box (.t 3)),none,0⟩,⟨some 8,.m (.alloc [.int .u8 0,.str [],.str [],.str [],.str [],.int .u64 0,.int .u64 0,.int .u64 0]),none,0⟩]
def FX:Lc:=[cM 10 0 0,cM 11 1 0,cM 12 2 0,cS 13 (.build [.int .u8 0,.str [],.str [],.str [],.str [],.int .u64 0,.int .u64 0,.int .u64 0] [(4,1,.t 10),(5,1,.t 11),(6,1,.t 12)]) 7,⟨some 9,.m (.alloc [.int .u8 0,.str [],.str [],.str [],.str [],.int .u64 0,.int .u64 0,.int .u64 0]),none,0⟩,cH (.store 8 (.t 9) (.t 13)) 31]
def Eg:Lc:=[cF 14 0 7 0,cL 15 14 1]
def Ff:Lc:=[cS 18 (.bin .eql .int (.t 15) (.c (.int .i64 1))) 0,cM 17 18 1]
def Mx:List Step:=[.small 0 (cF 19 3 7 0),.small 1 (cL 20 19 1),.small 2 (cF 21 0 9 0),.aW 3 (cH (.store 1 (.t 21) (.c (.int .u8 122))) 4),.small 4 (cF 22 7 9 15),.aW 5 (cH (.store 1 (.t 22) (.t 20)) 31)]
def Kh:Lc:=unS Mx
def Yx:=X0 Kh Mx (by kernel_rfl)
def KO:Lc:=[cS 24 (.bin .eql .int (.t 15) (.c (.int .i64 2))) 0,cM 23 24 1]
def NX:List Step:=[.small 0 (cF 25 2 7 0),.small 1 (cL 26 25 1),.small 2 (cF 27 0 9 0),.aW 3 (cH (.store 1 (.t 27) (.c (.int .u8 109))) 4),.small 4 (cF 28 2 9 15),.aW 5 (cH (.store 1 (.t 28) (.t 26)) 31)]
def Kl:Lc:=unS NX
def Yt:=X0 Kl NX (by kernel_rfl)
def WN:Lc:=[cF 29 1 7 0,cL 30 29 1,cF 31 1 9 3,cH (.store 1 (.t 31) (.t 30)) 7]
def WH:Lc:=[cS 33 (.bin .eql .int (.t 15) (.c (.int .i64 3))) 0,cM 32 33 1]
def NT:List Step:=[.small 0 (cF 34 1 7 0),.small 1 (cL 35 34 1),.small 2 (cF 36 0 9 0),.aW 3 (cH (.store 1 (.t 36) (.c (.int .u8 115))) 4),.small 4 (cF 37 1 9 15),.aW 5 (cH (.store 1 (.t 37) (.t 35)) 31)]
def Iu:Lc:=unS NT
def Ym:=X0 Iu NT (by kernel_rfl)
def YQ:Lc:=[cS 16 (.build [.int .u8 0,.str [],.str [],.str [],.str [],.int .u64 0,.int .u64 0,.int .u64 0] []) 0,cH (.store 8 (.t 8) (.t 16)) 1]
def yG:Lc:=[cS 38 (.load (some 8) (.t 9)) 0,cH (.store 8 (.t 8) (.t 38)) 1]
def pZ:ag:=(.seq (.region Fq) (.seq (.region FX) (.seq (.seq (.region Eg) (.block 0 (.seq (.region Ff) (.cond (.t 17) (.draw Kh) (.seq (.region KO) (.cond (.t 23) (.seq (.draw Kl) (.region WN)) (.seq (.region WH) (.cond (.t 32) (.draw Iu) (.seq (.region YQ) .ret))))))))) (.seq (.region yG) .ret))))
def U9:aA:=⟨39,[.cell 8 (some 8)],true,pZ,e8,fun i=>match i with|0=>[8,9]|_=>[]⟩
@[simp] theorem qkE:U9.body=pZ∧U9.results=[.cell 8 (some 8)]∧U9.own=true∧U9.tail 0=[8,9]:=⟨rfl,rfl,rfl,rfl⟩
def Tv:Lc:=[cS 2 (.aJ (.c .aT)) 0]
def V6:Lc:=[cM 3 0 0,⟨some 4,.m (.buildSlice 1 1 [.aj [] 0 0 1] [(0,1,.t 3)]),none,1⟩,cC 5 189 [.t 4] 3,cS 6 (.build [.bool false,.aj [] 0 0 1,.int .i64 0,.int .i64 0] [(0,1,(.c (.bool true))),(1,1,.t 5)]) 7,⟨some 7,.m (.box (.t 6)),none,15⟩,cM 2 7 31]
def vU:ag:=(.seq (.region Tv) (.seq (.region V6) .ret))
def Yv:aA:=⟨8,[.t 2],true,vU,e8,e8⟩
@[simp] theorem ql6:Yv.body=vU∧Yv.results=[.t 2]∧Yv.own=true:=⟨rfl,rfl,rfl⟩
def FA:Lc:=[⟨some 3,.m (.box (.t 0)),none,0⟩,⟨some 6,.m (.alloc [.str [],.int .u64 0,.int .i64 0,.str [],.int .u64 0]),none,0⟩,cS 7 (.aJ (.c (.int .i64 0))) 0]
def Fb:Lc:=[⟨some 8,.m (.alloc [.str [],.int .u64 0,.int .i64 0,.str [],.int .u64 0]),none,0⟩]
def F5:Lc:=[cM 11 1 0,⟨some 12,.call (.t 11) [],none,1⟩,⟨some 9,.m (.alloc [.str [],.int .u64 0,.int .i64 0,.str [],.int .u64 0]),none,0⟩,cH (.store 5 (.t 9) (.t 12)) 7]
def Fp:Lc:=[cF 13 0 3 0,cL 14 13 1,cC 15 176 [.t 14] 3,cM 10 15 7]
def DG:Lc:=[cM 16 10 0,cS 17 (.bin .eql .int (.t 16) (.c (.int .i64 0))) 1]
def Jc:Lc:=[cM 18 2 0,cS 19 (.load (some 5) (.t 9)) 0,⟨some 20,.call (.t 18) [.t 19],none,3⟩,cM 10 20 7]
def DC:Lc:=[cM 21 10 0,cS 22 (.bin .neq .int (.t 21) (.c (.int .i64 0))) 1]
def Kx:Lc:=[cS 23 (.load (some 5) (.t 8)) 0,cM 24 10 0,cH (.store 5 (.t 6) (.t 23)) 1,cM 7 24 7]
def RT:Lc:=[cS 25 (.load (some 5) (.t 9)) 0,cH (.store 5 (.t 6) (.t 25)) 1,cS 7 (.aJ (.c (.int .i64 0))) 3]
def pO:ag:=(.seq (.region FA) (.seq (.region Fb) (.seq (.region F5) (.seq (.region Fp) (.seq (.seq (.region DG) (.cond (.t 17) (.region Jc) .skip)) (.seq (.seq (.region DC) (.cond (.t 22) (.seq (.region Kx) .ret) .skip)) (.seq (.region RT) .ret)))))))
def v162:aA:=⟨26,[.cell 6 (some 5),.t 7],true,pO,e8,e8⟩
@[simp] theorem qlI:v162.body=pO∧v162.results=[.cell 6 (some 5),.t 7]∧v162.own=true:=⟨rfl,rfl,rfl⟩
def Sa:Lc:=[⟨some 1,.m (.box (.t 0)),none,0⟩,⟨some 2,.m (.alloc [.str [],.int .u64 0,.int .i64 0,.str [],.int .u64 0]),none,0⟩]
def VS:Lc:=[⟨some 3,.m (.alloc [.str [],.int .u64 0,.int .i64 0,.str [],.int .u64 0]),none,0⟩]
def WB:Lc:=[cF 4 0 1 0,cL 5 4 1,cC 6 186 [.t 5,(.c (.int .i64 16))] 3,cF 7 0 3 7,cH (.store 1 (.t 7) (.t 6)) 15]
def Sb:Lc:=[cF 8 0 1 0,cL 9 8 1,cC 10 175 [.t 9,(.c (.int .u64 18446744073709551615))] 3,cF 11 1 3 7,cH (.store 1 (.t 11) (.t 10)) 15]
def S5:Lc:=[cF 12 0 1 0,cL 13 12 1,cC 14 225 [.t 13] 3,cS 15 (.bI .i64 (.t 14)) 7,cF 16 2 3 15,cH (.store 1 (.t 16) (.t 15)) 31]
def VP:Lc:=[cF 17 0 1 0,cL 18 17 1,cC 19 186 [.t 18,(.c (.int .i64 16))] 3,cF 20 3 3 7,cH (.store 1 (.t 20) (.t 19)) 15]
def Vf:Lc:=[cF 21 0 1 0,cL 22 21 1,cC 23 175 [.t 22,(.c (.int .u64 18446744073709551615))] 3,cF 24 4 3 7,cH (.store 1 (.t 24) (.t 23)) 15]
def Vk:Lc:=[cS 25 (.load (some 5) (.t 3)) 0,cH (.store 5 (.t 2) (.t 25)) 1]
def xp:ag:=(.seq (.region Sa) (.seq (.region VS) (.seq (.region WB) (.seq (.region Sb) (.seq (.region S5) (.seq (.region VP) (.seq (.region Vf) (.seq (.region Vk) .ret))))))))
def Ru:aA:=⟨26,[.cell 2 (some 5)],true,xp,e8,e8⟩
@[simp] theorem qlA:Ru.body=xp∧Ru.results=[.cell 2 (some 5)]∧Ru.own=true:=⟨rfl,rfl,rfl⟩
def KZ:Lc:=[⟨some 1,.m (.box (.t 0)),none,0⟩,cS 2 (.aJ (.c (.int .i64 0))) 0]
def Lq:Lc:=[cF 4 3 1 0,cL 5 4 1,cS 6 (.bin .eql .str (.t 5) (.c (.str []))) 3,cM 3 6 7]
def KL:Lc:=[cF 7 2 1 0,cL 8 7 1,cS 9 (.bin .eql .int (.t 8) (.c (.int .i64 3))) 3]
def Xi:Lc:=[cF 10 3 1 0,cL 11 10 1,cC 12 226 [.t 11] 3,cM 3 12 7]
def Iz:Lc:=[cM 13 3 0,cS 14 (.un .not (.t 13)) 1,cM 15 14 3,cG 16 (.fieldAddr 0 (.t 1)) 15 false 7,cG 17 (.load none (.t 16)) 15 false 15,G4 18 226 [.t 17] 15 false 31,cG 19 (.un .not (.t 18)) 15 false 63,cP 20 15 19 127,cM 21 20 255,cG 22 (.fieldAddr 1 (.t 1)) 21 false 511,cG 23 (.load none (.t 22)) 21 false 1023,cG 24 (.bin .eql .int (.t 23) (.c (.int .u64 0))) 21 false 2047,cP 25 21 24 4095,cM 26 25 8191,cG 27 (.fieldAddr 4 (.t 1)) 26 false 16383,cG 28 (.load none (.t 27)) 26 false 32767,cG 29 (.bin .eql .int (.t 28) (.c (.int .u64 0))) 26 false 65535,cP 30 26 29 131071,cM 31 30 262143,cG 32 (.fieldAddr 2 (.t 1)) 31 false 524287,cG 33 (.load none (.t 32)) 31 false 1048575,cG 34 (.bin .lss .no (.t 33) (.c (.int .i64 1))) 31 false 2097151,cP 35 31 34 4194303,cM 36 35 8388607,cG 37 (.fieldAddr 2 (.t 1)) 36 false 16777215,cG 38 (.load none (.t 37)) 36 false 33554431,cG 39 (.bin .gtr .no (.t 38) (.c (.int .i64 4))) 36 false 67108863,cP 40 36 39 134217727]
def KP:Lc:=[cS 2 (.aJ (.c (.int .i64 1))) 0]
def Ka:Lc:=[cS 2 (.aJ (.c (.int .i64 0))) 0]
def sJ:ag:=(.seq (.region KZ) (.seq (.region Lq) (.seq (.seq (.region KL) (.cond (.t 9) (.region Xi) .skip)) (.seq (.seq (.region Iz) (.cond (.t 40) (.seq (.region KP) .ret) .skip)) (.seq (.region Ka) .ret)))))
def v164:aA:=⟨41,[.t 2],true,sJ,e8,e8⟩
@[simp] theorem qlM:v164.body=sJ∧v164.results=[.t 2]∧v164.own=true:=⟨rfl,rfl,rfl⟩
def Un:Lc:=[cS 4 (.aJ (.c (.int .i64 0))) 0]
def Vv:Lc:=[cM 6 0 0,cS 7 (.len 1 (.t 6)) 1,cS 8 (.aJ (.c (.int .i64 0))) 0]
def Ee:Lc:=[cS 9 (.bin .lss .no (.t 8) (.t 7)) 0]
def Kf:Lc:=[cM 10 8 0,cM 5 10 1]
def I0:Lc:=[cM 11 1 0,cM 12 0 0,cM 13 5 0,cS 14 (.indexAddr 2 (.t 12) (.t 13)) 6,cS 15 (.load (some 2) (.t 14)) 14,⟨some 16,.call (.t 11) [.t 15],none,31⟩]
def RS:Lc:=[cM 17 5 0,cM 4 17 1]
def Xk:Lc:=[cS 18 (.bin .add .no (.t 8) (.c (.int .i64 1))) 0,cM 8 18 1]
def yP:ag:=(.seq (.region Ee) (.seq (.cond (.t 9) .skip (.exit 0)) (.seq (.block 1 (.seq (.region Kf) (.seq (.region I0) (.cond (.t 16) (.seq (.region RS) .ret) .skip)))) (.region Xk))))
def Ao:Lc:=[cS 4 (.aJ (.c (.int .i64 (-1)))) 0]
def wX:ag:=(.seq (.region Un) (.seq (.seq (.region Vv) (.block 0 (.loop yP))) (.seq (.region Ao) .ret)))
def Ci:aA:=⟨19,[.t 4],true,wX,fun i=>match i with|0=>[8,0,1,7]|_=>[],fun i=>match i with|0=>[]|1=>[0,1,7,8]|_=>[]⟩
@[simp] theorem ql0:Ci.body=wX∧Ci.results=[.t 4]∧Ci.own=true∧Ci.head 0=[8,0,1,7]∧Ci.tail 0=[]∧Ci.tail 1=[0,1,7,8]:=⟨rfl,rfl,rfl,rfl,rfl,rfl⟩
def mD:Lc:=[⟨some 1,.m (.box (.t 0)),none,0⟩,cS 2 (.aJ (.c (.str []))) 0,cS 3 (.aJ (.c (.int .i64 0))) 2]
def mB:Lc:=[cS 8 (.load (some 8) (.t 1)) 0,cC 9 168 [.t 8] 1,cM 7 9 3,cE 10 0 7 7,cE 11 1 7 7,cE 12 2 7 7,⟨some 5,.m (.alloc [.int .u8 0,.str [],.str [],.str [],.str [],.int .u64 0,.int .u64 0,.int .u64 0]),none,0⟩,cM 4 10 79,cH (.store 8 (.t 5) (.t 11)) 223,cM 6 12 511]
def mM:Lc:=[cM 13 6 0,cS 14 (.bin .neq .int (.t 13) (.c (.int .i64 0))) 1]
def Vj:Lc:=[cM 15 6 0,cS 2 (.aJ (.c (.str []))) 0,cM 3 15 3]
def nW:Lc:=[cS 16 (.load (some 8) (.t 5)) 0,cF 17 0 1 0,cL 18 17 2,cS 19 (.build [.int .u8 0,.str [],.str [],.str [],.str [],.int .u64 0,.int .u64 0,.int .u64 0] [(0,1,.t 18)]) 6,cS 20 (.bin .neq (.flat [(0,.int),(1,.str),(2,.str),(3,.str),(4,.str),(5,.int),(6,.int),(7,.int)]) (.t 16) (.t 19)) 15]
def qI:Lc:=[cS 2 (.aJ (.c (.str []))) 0,cS 3 (.aJ (.c (.int .i64 1))) 1]
def D8:Lc:=[cF 21 0 1 0,cL 22 21 1,cM 23 4 0,cC 24 227 [.t 22,.t 23] 7,cM 2 24 15,cS 3 (.aJ (.c (.int .i64 0))) 31]
def eW:ag:=(.seq (.region mD) (.seq (.region mB) (.seq (.seq (.region mM) (.cond (.t 14) (.seq (.region Vj) .ret) .skip)) (.seq (.seq (.region nW) (.cond (.t 20) (.seq (.region qI) .ret) .skip)) (.seq (.region D8) .ret)))))
def Wk:aA:=⟨25,[.t 2,.t 3],true,eW,e8,e8⟩
@[simp] theorem qlx:Wk.body=eW∧Wk.results=[.t 2,.t 3]∧Wk.own=true:=⟨rfl,rfl,rfl⟩
def KK:Lc:=[cS 4 (.aJ (.c .aK)) 0]
def L4:Lc:=[cM 5 1 0,cS 6 (.bin .eql (.iface false) (.t 5) (.c .aK)) 1]
def Tz:Lc:=[cS 4 (.aJ (.c .aK)) 0]
def QV:Lc:=[cM 7 0 0,cM 8 1 0,cS 9 (.build [.str [],.aK] [(0,1,.t 7),(1,1,.t 8)]) 3,⟨some 10,.m (.box (.t 9)),none,7⟩,cS 11 (.fm 191 (.t 10)) 15,cM 4 11 31]
def sX:ag:=(.seq (.region KK) (.seq (.seq (.region L4) (.cond (.t 6) (.seq (.region Tz) .ret) .skip)) (.seq (.region QV) .ret)))
def v167:aA:=⟨12,[.t 4],true,sX,e8,e8⟩
@[simp] theorem qkv:v167.body=sX∧v167.results=[.t 4]∧v167.own=true:=⟨rfl,rfl,rfl⟩
def rQ:Lc:=[⟨some 1,.m (.box (.t 0)),none,0⟩,cS 2 (.aJ (.c (.aj [] 1 0 1))) 0,⟨some 3,.m (.alloc [.int .u8 0,.str [],.str [],.str [],.str [],.int .u64 0,.int .u64 0,.int .u64 0]),none,0⟩,cS 4 (.aJ (.c (.int .i64 0))) 2]
def q9:Lc:=[cF 12 0 1 0,cL 13 12 1,cC 14 171 [.t 13] 3,cM 11 14 7,cE 15 0 11 15,cE 16 1 11 15,cM 5 15 31,cM 6 16 127]
def rZ:Lc:=[cM 17 6 0,cS 18 (.un .not (.t 17)) 1]
def NY:List Step:=[.small 0 (cS 19 (.load (some 8) (.t 1)) 0),.small 1 (cS 2 (.aJ (.c (.aj [] 1 0 1))) 0),.aW 2 (cH (.store 8 (.t 3) (.t 19)) 3),.small 3 (cS 4 (.aJ (.c (.int .i64 31))) 7)]
def J4:Lc:=unS NY
def YW:=X0 J4 NY (by kernel_rfl)
def tG:Lc:=[cS 7 (.aJ (.c (.aj [] 1 0 1))) 0]
def tV:Lc:=[cM 20 5 0,cS 21 (.len 0 (.t 20)) 1,cS 22 (.aJ (.c (.int .i64 0))) 0]
def dc:Lc:=[cS 23 (.bin .lss .no (.t 22) (.t 21)) 0]
def ej:Lc:=[cM 24 22 0,cM 8 24 1]
def eu:Lc:=[cM 25 5 0,cM 26 8 0,cS 27 (.index (.t 25) (.t 26)) 3,cC 28 172 [.t 1,.t 27] 7,cM 9 28 15]
def eo:Lc:=[cM 29 9 0,cS 30 (.bin .neq .aT (.t 29) (.c .aT)) 1]
def iR:Lc:=[cM 31 7 0,cM 32 9 0,cN 33 32 2,cL 34 33 6,⟨some 35,.m (.buildSlice 1 1 [.str []] [(0,1,.t 34)]),none,14⟩,⟨some 36,.h (.append 1 16 false (.t 31) (.t 35)),none,31⟩,cM 7 36 63]
def jl:Lc:=[cM 37 9 0,cN 38 37 1,cH (.store 1 (.t 38) (.c (.str []))) 3]
def jk:Lc:=[cM 39 5 0,cM 40 8 0,cS 41 (.index (.t 39) (.t 40)) 3,cC 42 174 [.t 1,.t 41] 7,cM 10 42 15]
def je:Lc:=[cM 43 7 0,cM 44 10 0,cN 45 44 2,cL 46 45 6,cC 47 228 [.t 46] 14,⟨some 48,.m (.buildSlice 1 1 [.str []] [(0,1,.t 47)]),none,30⟩,⟨some 49,.h (.append 1 16 false (.t 43) (.t 48)),none,63⟩,cM 7 49 127]
def iY:Lc:=[cM 50 10 0,cN 51 50 1,cH (.store 1 (.t 51) (.c (.int .u64 0))) 3]
def c9:Lc:=[cS 52 (.bin .add .no (.t 22) (.c (.int .i64 1))) 0,cM 22 52 1]
def b8:ag:=(.seq (.region dc) (.seq (.cond (.t 23) .skip (.exit 0)) (.seq (.block 1 (.seq (.region ej) (.seq (.seq (.region eu) (.seq (.region eo) (.cond (.t 30) (.seq (.region iR) (.seq (.region jl) (.exit 1))) .skip))) (.seq (.region jk) (.seq (.region je) (.region iY)))))) (.region c9))))
def nE:List Step:=[.small 0 (cM 53 7 0),.small 1 (cS 54 (.load (some 8) (.t 1)) 0),.small 2 (cM 2 53 1),.aW 3 (cH (.store 8 (.t 3) (.t 54)) 7),.small 4 (cS 4 (.aJ (.c (.int .i64 0))) 15)]
def yE:Lc:=unS nE
def p9:=X0 yE nE (by kernel_rfl)
def jd:ag:=(.seq (.region rQ) (.seq (.region q9) (.seq (.seq (.region rZ) (.cond (.t 18) (.seq (.draw J4) .ret) .skip)) (.seq (.region tG) (.seq (.seq (.region tV) (.block 0 (.loop b8))) (.seq (.draw yE) .ret))))))
def v168:aA:=⟨55,[.t 2,.cell 3 (some 8),.t 4],true,jd,fun i=>match i with|0=>[22,7,1,5,3,21]|_=>[],fun i=>match i with|0=>[3,7,1]|1=>[7,1,5,3,21,22]|_=>[]⟩
@[simp] theorem ql8:v168.body=jd∧v168.results=[.t 2,.cell 3 (some 8),.t 4]∧v168.own=true∧v168.head 0=[22,7,1,5,3,21]∧v168.tail 0=[3,7,1]∧v168.tail 1=[7,1,5,3,21,22]:=⟨rfl,rfl,rfl,rfl,rfl,rfl⟩
def Xh:Lc:=[cS 4 (.aJ (.c (.str []))) 0,cS 5 (.aJ (.c (.str []))) 1]
def V7:Lc:=[cM 7 0 0,cM 8 1 0,cC 9 227 [.t 7,.t 8] 3,cM 6 9 7]
def UZ:Lc:=[cM 10 6 0,cM 11 6 0,cC 12 229 [.t 11] 2,cM 4 10 7,cM 5 12 15]
def xl:ag:=(.seq (.region Xh) (.seq (.region V7) (.seq (.region UZ) .ret)))
def Yu:aA:=⟨13,[.t 4,.t 5],true,xl,e8,e8⟩
@[simp] theorem qmo:Yu.body=xl∧Yu.results=[.t 4,.t 5]∧Yu.own=true:=⟨rfl,rfl,rfl⟩
def LK:Lc:=[cS 2 (.aJ (.c (.int .u8 0))) 0,cS 3 (.aJ (.c (.aj [] 1 0 1))) 1,cS 4 (.aJ (.c (.int .i64 0))) 3]
def LH:Lc:=[cM 9 0 0,cS 10 (.bin .eql .str (.t 9) (.c (.str []))) 1]
def RK:Lc:=[cS 2 (.aJ (.c (.int .u8 0))) 0,cS 3 (.aJ (.c (.aj [] 1 0 1))) 1,cS 4 (.aJ (.c (.int .i64 31))) 3]
def V2:Lc:=[cS 5 (.aJ (.c (.aj [] 1 0 1))) 0]
def Q1:Lc:=[cS 6 (.aJ (.c (.aj [] 1 0 1))) 0]
def XG:Lc:=[cS 7 (.aJ (.c (.bool false))) 0]
def TG:Lc:=[cS 8 (.aJ (.c (.int .i64 1))) 0]
def sC:Lc:=[cM 11 8 0,cM 12 0 0,cS 13 (.len 0 (.t 12)) 2,cS 14 (.bin .lss .no (.t 11) (.t 13)) 7]
def wL:Lc:=[cS 7 (.aJ (.c (.bool true))) 0]
def vZ:Lc:=[cM 17 0 0,cM 18 8 0,cS 19 (.index (.t 17) (.t 18)) 3,cS 20 (.bin .neq .int (.t 19) (.c (.int .u8 0))) 7]
def OK:Lc:=[cM 21 6 0,cM 22 0 0,cM 23 8 0,cS 24 (.index (.t 22) (.t 23)) 6,⟨some 25,.m (.buildSlice 1 1 [.int .u8 0] [(0,1,.t 24)]),none,14⟩,⟨some 26,.h (.append 1 1 false (.t 21) (.t 25)),none,31⟩,cM 6 26 63]
def u6:Lc:=[cM 27 8 0,cS 28 (.bin .add .no (.t 27) (.c (.int .i64 1))) 1,cM 8 28 3]
def uw:Lc:=[cM 30 8 0,cM 31 0 0,cS 32 (.len 0 (.t 31)) 2,cS 33 (.bin .eql .int (.t 30) (.t 32)) 7,cM 29 33 15]
def yZ:Lc:=[cM 35 0 0,cM 36 8 0,cS 37 (.index (.t 35) (.t 36)) 3,cS 38 (.bin .eql .int (.t 37) (.c (.int .u8 255))) 7,cM 34 38 15]
def M6:Lc:=[cM 39 6 0,⟨some 40,.m (.buildSlice 1 1 [.int .u8 0] [(0,1,(.c (.int .u8 0)))]),none,0⟩,⟨some 41,.h (.append 1 1 false (.t 39) (.t 40)),none,3⟩,cM 6 41 7]
def EV:Lc:=[cM 43 0 0,cM 44 8 0,cS 45 (.index (.t 43) (.t 44)) 3,cS 46 (.bin .eql .int (.t 45) (.c (.int .u8 1))) 7,cM 42 46 15]
def My:Lc:=[cM 47 5 0,cM 48 6 0,cS 49 (.toStr (.t 48)) 2,⟨some 50,.m (.buildSlice 1 1 [.str []] [(0,1,.t 49)]),none,6⟩,⟨some 51,.h (.append 1 16 false (.t 47) (.t 50)),none,15⟩,cM 5 51 31]
def MZ:Lc:=[cS 6 (.aJ (.c (.aj [] 1 0 1))) 0,cS 7 (.aJ (.c (.bool false))) 1]
def yl:Lc:=[cM 15 8 0,cS 16 (.bin .add .no (.t 15) (.c (.int .i64 1))) 1,cM 8 16 3]
def rG:ag:=(.seq (.seq (.region sC) (.cond (.t 14) .skip (.exit 0))) (.seq (.block 1 (.seq (.region wL) (.seq (.seq (.region vZ) (.cond (.t 20) (.seq (.region OK) (.exit 1)) .skip)) (.seq (.region u6) (.block 2 (.seq (.region uw) (.cond (.t 29) (.exit 0) (.seq (.region yZ) (.cond (.t 34) (.region M6) (.seq (.region EV) (.cond (.t 42) (.seq (.region My) (.region MZ)) (.exit 0)))))))))))) (.region yl)))
def y7:Lc:=[cM 52 7 0]
def EZ:Lc:=[cS 2 (.aJ (.c (.int .u8 0))) 0,cS 3 (.aJ (.c (.aj [] 1 0 1))) 1,cS 4 (.aJ (.c (.int .i64 31))) 3]
def Fz:Lc:=[cM 53 0 0,cS 54 (.index (.t 53) (.c (.int .i64 0))) 1,cM 55 5 0,cM 2 54 3,cM 3 55 15,cS 4 (.aJ (.c (.int .i64 0))) 31]
def sZ:ag:=(.seq (.region LK) (.seq (.seq (.seq (.region LH) (.cond (.t 10) (.seq (.region RK) .ret) .skip)) (.seq (.region V2) (.seq (.region Q1) (.seq (.region XG) (.seq .skip (.seq (.seq (.region TG) (.block 0 (.loop rG))) (.seq (.seq (.region y7) (.cond (.t 52) (.seq (.region EZ) .ret) .skip)) (.seq (.region Fz) .ret)))))))) .skip))
def vR:aA:=⟨56,[.t 2,.t 3,.t 4],true,sZ,fun i=>match i with|0=>[8,0,6,5,7]|_=>[],fun i=>match i with|0=>[5,0,7]|2=>[0,6,5,7,8]|1=>[0,6,5,7,8]|_=>[]⟩
@[simp] theorem qmc:vR.body=sZ∧vR.results=[.t 2,.t 3,.t 4]∧vR.own=true∧vR.head 0=[8,0,6,5,7]∧vR.tail 0=[5,0,7]∧vR.tail 2=[0,6,5,7,8]∧vR.tail 1=[0,6,5,7,8]:=⟨rfl,rfl,rfl,rfl,rfl,rfl,rfl⟩
def jX:Lc:=[cS 2 (.aJ (.c (.str []))) 0,cS 3 (.aJ (.c (.bool false))) 1]
def jP:Lc:=[cS 4 (.aJ (.c (.str []))) 0]
def jW:Lc:=[cM 5 0 0]
def jU:Lc:=[cS 7 (.bin .eql .int (.t 5) (.c (.int .u8 109))) 0,cM 6 7 1]
def j3:Lc:=[cS 9 (.bin .eql .int (.t 5) (.c (.int .u8 115))) 0,cM 8 9 1]
def jQ:Lc:=[cS 11 (.bin .eql .int (.t 5) (.c (.int .u8 122))) 0,cM 10 11 1]
def jO:Lc:=[cS 13 (.bin .eql .int (.t 5) (.c (.int .u8 97))) 0,cM 12 13 1]
def kf:Lc:=[cS 15 (.bin .eql .int (.t 5) (.c (.int .u8 107))) 0,cM 14 15 1]
def j0:Lc:=[cS 17 (.bin .eql .int (.t 5) (.c (.int .u8 116))) 0,cM 16 17 1]
def ke:Lc:=[cS 19 (.bin .eql .int (.t 5) (.c (.int .u8 105))) 0,cM 18 19 1]
def gu:Lc:=[cS 21 (.bin .eql .int (.t 5) (.c (.int .u8 118))) 0,cM 20 21 1]
def gj:Lc:=[cS 23 (.bin .eql .int (.t 5) (.c (.int .u8 98))) 0,cM 22 23 1]
def gh:Lc:=[cS 25 (.bin .eql .int (.t 5) (.c (.int .u8 101))) 0,cM 24 25 1]
def gp:Lc:=[cS 27 (.bin .eql .int (.t 5) (.c (.int .u8 100))) 0,cM 26 27 1]
def gl:Lc:=[cS 29 (.bin .eql .int (.t 5) (.c (.int .u8 99))) 0,cM 28 29 1]
def jc:Lc:=[cS 4 (.aJ (.c (.str [110,107]))) 0]
def jo:Lc:=[cM 30 4 0,cS 31 (.bin .eql .str (.t 30) (.c (.str []))) 1]
def jb:Lc:=[cS 4 (.aJ (.c (.str [110]))) 0]
def iX:Lc:=[cM 32 4 0,cS 33 (.bin .eql .str (.t 32) (.c (.str []))) 1]
def jr:Lc:=[cS 4 (.aJ (.c (.str [97]))) 0]
def jf:Lc:=[cM 34 4 0,cS 35 (.bin .add .no (.t 34) (.c (.str [105,116,111]))) 1,cM 2 35 3,cS 3 (.aJ (.c (.bool true))) 7]
def iU:Lc:=[cS 4 (.aJ (.c (.str [110]))) 0]
def jj:Lc:=[cM 36 4 0,cS 37 (.bin .add .no (.t 36) (.c (.str [105,116]))) 1,cM 2 37 3,cS 3 (.aJ (.c (.bool true))) 7]
def gR:Lc:=[cS 2 (.aJ (.c (.str [105]))) 0,cS 3 (.aJ (.c (.bool true))) 1]
def jg:Lc:=[cS 2 (.aJ (.c (.str [105,110]))) 0,cS 3 (.aJ (.c (.bool true))) 1]
def iZ:Lc:=[cS 2 (.aJ (.c (.str [110,107,100]))) 0,cS 3 (.aJ (.c (.bool true))) 1]
def ji:Lc:=[cS 2 (.aJ (.c (.str [110,97]))) 0,cS 3 (.aJ (.c (.bool true))) 1]
def iP:Lc:=[cS 2 (.aJ (.c (.str [110]))) 0,cS 3 (.aJ (.c (.bool true))) 1]
def jh:Lc:=[cS 2 (.aJ (.c (.str []))) 0,cS 3 (.aJ (.c (.bool true))) 1]
def gV:Lc:=[cS 2 (.aJ (.c (.str []))) 0,cS 3 (.aJ (.c (.bool false))) 1]
def dH:ag:=(.seq (.region jX) (.seq (.region jP) (.seq (.seq (.region jW) (.block 0 (.seq (.block 12 (.seq (.block 11 (.seq (.block 10 (.seq (.block 9 (.seq (.block 8 (.seq (.block 7 (.seq (.block 6 (.seq (.block 5 (.seq (.block 4 (.seq (.block 3 (.seq (.block 2 (.seq (.block 1 (.seq (.seq (.seq (.region jU) (.cond (.t 6) (.exit 1) .skip)) (.seq (.seq (.region j3) (.cond (.t 8) (.exit 2) .skip)) (.seq (.seq (.region jQ) (.cond (.t 10) (.exit 3) .skip)) (.seq (.seq (.region jO) (.cond (.t 12) (.exit 4) .skip)) (.seq (.seq (.region kf) (.cond (.t 14) (.exit 5) .skip)) (.seq (.seq (.region j0) (.cond (.t 16) (.exit 6) .skip)) (.seq (.seq (.region ke) (.cond (.t 18) (.exit 7) .skip)) (.seq (.seq (.region gu) (.cond (.t 20) (.exit 8) .skip)) (.seq (.seq (.region gj) (.cond (.t 22) (.exit 9) .skip)) (.seq (.seq (.region gh) (.cond (.t 24) (.exit 10) .skip)) (.seq (.seq (.region gp) (.cond (.t 26) (.exit 11) .skip)) (.seq (.region gl) (.cond (.t 28) (.exit 12) .skip))))))))))))) (.exit 0))) (.region jc))) (.seq (.region jo) (.cond (.t 31) (.region jb) .skip)))) (.seq (.region iX) (.cond (.t 33) (.region jr) .skip)))) (.seq (.seq (.region jf) .ret) (.exit 0)))) (.region iU))) (.seq (.seq (.region jj) .ret) (.exit 0)))) (.seq (.seq (.region gR) .ret) (.exit 0)))) (.seq (.seq (.region jg) .ret) (.exit 0)))) (.seq (.seq (.region iZ) .ret) (.exit 0)))) (.seq (.seq (.region ji) .ret) (.exit 0)))) (.seq (.seq (.region iP) .ret) (.exit 0)))) (.seq (.seq (.region jh) .ret) (.exit 0))))) (.seq (.region gV) .ret))))
def v171:aA:=⟨38,[.t 2,.t 3],true,dH,e8,fun i=>match i with|1=>[]|2=>[4]|3=>[4]|4=>[4]|5=>[]|6=>[4]|7=>[]|8=>[]|9=>[]|10=>[]|11=>[]|12=>[]|0=>[]|_=>[]⟩
@[simp] theorem qlv:v171.body=dH∧v171.results=[.t 2,.t 3]∧v171.own=true∧v171.tail 1=[]∧v171.tail 2=[4]∧v171.tail 3=[4]∧v171.tail 4=[4]∧v171.tail 5=[]∧v171.tail 6=[4]∧v171.tail 7=[]∧v171.tail 8=[]∧v171.tail 9=[]∧v171.tail 10=[]∧v171.tail 11=[]∧v171.tail 12=[]∧v171.tail 0=[]:=⟨rfl,rfl,rfl,rfl,rfl,rfl,rfl,rfl,rfl,rfl,rfl,rfl,rfl,rfl,rfl,rfl⟩
def pe:Lc:=[cS 4 (.aJ (.c .aT)) 0]
def o8:Lc:=[cM 5 1 0]
def o6:Lc:=[cS 7 (.bin .eql .int (.t 5) (.c (.int .u8 110))) 0,cM 6 7 1]
def Uz:Lc:=[cM 8 0 0,cN 9 8 1,cF 10 1 9 3,cM 4 10 7]
def qz:Lc:=[cS 12 (.bin .eql .int (.t 5) (.c (.int .u8 107))) 0,cM 11 12 1]
def TN:Lc:=[cM 13 0 0,cN 14 13 1,cF 15 2 14 3,cM 4 15 7]
def r9:Lc:=[cS 17 (.bin .eql .int (.t 5) (.c (.int .u8 100))) 0,cM 16 17 1]
def Wi:Lc:=[cM 18 0 0,cN 19 18 1,cF 20 3 19 3,cM 4 20 7]
def tW:Lc:=[cS 22 (.bin .eql .int (.t 5) (.c (.int .u8 105))) 0,cM 21 22 1]
def KX:Lc:=[cM 23 0 0,cN 24 23 1,cF 25 4 24 3,cM 4 25 7]
def uB:Lc:=[cS 4 (.aJ (.c .aT)) 0]
def fV:ag:=(.seq (.region pe) (.seq (.seq (.region o8) (.block 0 (.seq (.region o6) (.cond (.t 6) (.seq (.region Uz) .ret) (.seq (.region qz) (.cond (.t 11) (.seq (.region TN) .ret) (.seq (.region r9) (.cond (.t 16) (.seq (.region Wi) .ret) (.seq (.region tW) (.cond (.t 21) (.seq (.region KX) .ret) .skip)))))))))) (.seq (.region uB) .ret)))
def UY:aA:=⟨26,[.t 4],true,fV,e8,fun i=>match i with|0=>[]|_=>[]⟩
@[simp] theorem qlT:UY.body=fV∧UY.results=[.t 4]∧UY.own=true∧UY.tail 0=[]:=⟨rfl,rfl,rfl,rfl⟩
def Ki:Lc:=[cS 2 (.aJ (.c (.int .u64 0))) 0,cS 3 (.aJ (.c (.int .i64 0))) 1]
def JR:Lc:=[cM 7 0 0,cS 8 (.len 0 (.t 7)) 1,cS 9 (.bin .neq .int (.t 8) (.c (.int .i64 16))) 3]
def Rq:Lc:=[cS 2 (.aJ (.c (.int .u64 0))) 0,cS 3 (.aJ (.c (.int .i64 31))) 1]
def WO:Lc:=[cS 4 (.aJ (.c (.int .u64 0))) 0]
def UP:Lc:=[cS 10 (.aJ (.c (.int .i64 0))) 0]
def tH:Lc:=[cS 11 (.bin .lss .no (.t 10) (.c (.int .i64 16))) 0]
def xg:Lc:=[cM 12 10 0,cM 5 12 1]
def wW:Lc:=[cM 13 0 0,cM 14 5 0,cS 15 (.index (.t 13) (.t 14)) 3,cM 6 15 7]
def wh:Lc:=[cM 17 6 0,cS 18 (.bin .geq .no (.t 17) (.c (.int .u8 48))) 1,cM 19 18 3,kJ 20 6 19 true 7,cG 21 (.bin .leq .no (.t 20) (.c (.int .u8 57))) 19 true 15,cQ 22 19 21 31,cM 16 22 63]
def U8:Lc:=[cM 23 4 0,cS 24 (.bin .shl .no (.t 23) (.c (.int .u64 4))) 1,cM 25 6 0,cS 26 (.bin .sub .no (.t 25) (.c (.int .u8 48))) 4,cS 27 (.bI .u64 (.t 26)) 12,cS 28 (.bin .or .no (.t 24) (.t 27)) 31,cM 4 28 63]
def uU:Lc:=[cM 30 6 0,cS 31 (.bin .geq .no (.t 30) (.c (.int .u8 97))) 1,cM 32 31 3,kJ 33 6 32 true 7,cG 34 (.bin .leq .no (.t 33) (.c (.int .u8 102))) 32 true 15,cQ 35 32 34 31,cM 29 35 63]
def Nn:Lc:=[cM 36 4 0,cS 37 (.bin .shl .no (.t 36) (.c (.int .u64 4))) 1,cM 38 6 0,cS 39 (.bin .sub .no (.t 38) (.c (.int .u8 97))) 4,cS 40 (.bin .add .no (.t 39) (.c (.int .u8 10))) 12,cS 41 (.bI .u64 (.t 40)) 28,cS 42 (.bin .or .no (.t 37) (.t 41)) 63,cM 4 42 127]
def yT:Lc:=[cS 2 (.aJ (.c (.int .u64 0))) 0,cS 3 (.aJ (.c (.int .i64 31))) 1]
def Ej:Lc:=[cS 43 (.bin .add .no (.t 10) (.c (.int .i64 1))) 0,cM 10 43 1]
def vu:ag:=(.seq (.region tH) (.seq (.cond (.t 11) .skip (.exit 0)) (.seq (.block 1 (.seq (.region xg) (.seq (.region wW) (.block 2 (.seq (.region wh) (.cond (.t 16) (.region U8) (.seq (.region uU) (.cond (.t 29) (.region Nn) (.seq (.region yT) .ret))))))))) (.region Ej))))
def M5:Lc:=[cM 44 4 0,cM 2 44 1,cS 3 (.aJ (.c (.int .i64 0))) 3]
def sM:ag:=(.seq (.region Ki) (.seq (.seq (.region JR) (.cond (.t 9) (.seq (.region Rq) .ret) .skip)) (.seq (.region WO) (.seq (.seq (.region UP) (.block 0 (.loop vu))) (.seq (.region M5) .ret)))))
def v173:aA:=⟨45,[.t 2,.t 3],true,sM,fun i=>match i with|0=>[10,4,0]|_=>[],fun i=>match i with|0=>[4]|2=>[4,0,10]|1=>[4,0,10]|_=>[]⟩
@[simp] theorem qmk:v173.body=sM∧v173.results=[.t 2,.t 3]∧v173.own=true∧v173.head 0=[10,4,0]∧v173.tail 0=[4]∧v173.tail 2=[4,0,10]∧v173.tail 1=[4,0,10]:=⟨rfl,rfl,rfl,rfl,rfl,rfl,rfl⟩
def Aa:Lc:=[cS 4 (.aJ (.c .aT)) 0]
def Bt:Lc:=[cM 5 1 0]
def zl:Lc:=[cS 7 (.bin .eql .int (.t 5) (.c (.int .u8 116))) 0,cM 6 7 1]
def VV:Lc:=[cM 8 0 0,cN 9 8 1,cF 10 5 9 3,cM 4 10 7]
def Ei:Lc:=[cS 12 (.bin .eql .int (.t 5) (.c (.int .u8 111))) 0,cM 11 12 1]
def Re:Lc:=[cM 13 0 0,cN 14 13 1,cF 15 6 14 3,cM 4 15 7]
def LB:Lc:=[cM 16 0 0,cN 17 16 1,cF 18 7 17 3,cM 4 18 7]
def nC:ag:=(.seq (.region Aa) (.seq (.seq (.region Bt) (.block 0 (.seq (.region zl) (.cond (.t 6) (.seq (.region VV) .ret) (.seq (.region Ei) (.cond (.t 11) (.seq (.region Re) .ret) .skip)))))) (.seq (.region LB) .ret)))
def Tu:aA:=⟨19,[.t 4],true,nC,e8,fun i=>match i with|0=>[0]|_=>[]⟩
@[simp] theorem qli:Tu.body=nC∧Tu.results=[.t 4]∧Tu.own=true∧Tu.tail 0=[0]:=⟨rfl,rfl,rfl,rfl⟩
def zj:Lc:=[cS 4 (.aJ (.c (.int .u64 0))) 0]
def AG:Lc:=[cM 8 0 0,cC 9 187 [.t 8] 1,cS 10 (.bin .neq .int (.t 9) (.c (.int .i64 0))) 3]
def SS:Lc:=[cS 4 (.aJ (.c (.int .u64 0))) 0]
def FL:Lc:=[cM 12 0 0,cC 13 230 [.t 12] 1,cM 11 13 3,cE 14 0 11 7,cE 15 1 11 7,cE 16 2 11 7,cM 5 14 15,cM 6 15 95,cM 7 16 255]
def F7:Lc:=[cM 17 7 0,cS 18 (.bin .eql .int (.t 17) (.c (.int .i64 0))) 1,cM 19 18 3,kJ 20 5 19 true 7,kJ 21 1 19 true 7,cG 22 (.bin .gtr .no (.t 20) (.t 21)) 19 true 31,cQ 23 19 22 63]
def Rj:Lc:=[cS 7 (.aJ (.c (.int .i64 3))) 0]
def Fy:Lc:=[cM 24 7 0,cS 25 (.bin .neq .int (.t 24) (.c (.int .i64 0))) 1]
def JB:Lc:=[cM 26 0 0,cM 27 7 0,cN 28 26 3,cF 29 3 28 7,cH (.store 1 (.t 29) (.t 27)) 15]
def ID:Lc:=[cS 4 (.aJ (.c (.int .u64 0))) 0]
def Xq:Lc:=[cM 30 0 0,cN 31 30 1,cF 32 2 31 3,cL 33 32 7,cM 34 6 0,cS 35 (.bin .add .no (.t 33) (.t 34)) 31,cN 36 30 63,cF 37 2 36 127,cH (.store 1 (.t 37) (.t 35)) 255]
def MS:Lc:=[cM 38 5 0,cM 4 38 1]
def nB:ag:=(.seq (.region zj) (.seq (.seq (.region AG) (.cond (.t 10) (.seq (.region SS) .ret) .skip)) (.seq (.region FL) (.seq (.seq (.region F7) (.cond (.t 23) (.region Rj) .skip)) (.seq (.seq (.region Fy) (.cond (.t 25) (.seq (.region JB) (.seq (.region ID) .ret)) .skip)) (.seq (.region Xq) (.seq (.region MS) .ret)))))))
def v175:aA:=⟨39,[.t 4],true,nB,e8,e8⟩
@[simp] theorem qmf:v175.body=nB∧v175.results=[.t 4]∧v175.own=true:=⟨rfl,rfl,rfl⟩
def DR:Lc:=[cS 2 (.aJ (.c (.int .i64 0))) 0]
def Fv:Lc:=[cM 4 0 0,cC 5 187 [.t 4] 1,cM 3 5 3]
def DD:Lc:=[cM 6 3 0,cS 7 (.bin .neq .int (.t 6) (.c (.int .i64 0))) 1,cM 8 7 3,kJ 9 0 8 false 7,G4 10 188 [.t 9] 8 false 15,cG 11 (.bin .eql .int (.t 10) (.c (.int .i64 0))) 8 false 31,cP 12 8 11 63]
def Me:Lc:=[cM 13 3 0,cM 2 13 1]
def Uj:Lc:=[cS 2 (.aJ (.c (.int .i64 10))) 0]
def pN:ag:=(.seq (.region DR) (.seq (.seq (.region Fv) (.seq (.region DD) (.cond (.t 12) (.seq (.region Me) .ret) .skip))) (.seq (.region Uj) .ret)))
def qaf:aA:=⟨14,[.t 2],true,pN,e8,e8⟩
@[simp] theorem qkH:qaf.body=pN∧qaf.results=[.t 2]∧qaf.own=true:=⟨rfl,rfl,rfl⟩
def DT:Lc:=[⟨some 3,.m (.box (.t 0)),none,0⟩,⟨some 6,.m (.alloc [.int .i64 0,.int .u64 0,.int .i64 0]),none,0⟩,cS 7 (.aJ (.c (.int .i64 0))) 0]
def Em:Lc:=[⟨some 8,.m (.alloc [.int .i64 0,.int .u64 0,.int .i64 0]),none,0⟩]
def DO:Lc:=[cM 11 1 0,⟨some 12,.call (.t 11) [],none,1⟩,⟨some 9,.m (.alloc [.int .i64 0,.int .u64 0,.int .i64 0]),none,0⟩,cH (.store 3 (.t 9) (.t 12)) 7]
def EH:Lc:=[cF 13 0 3 0,cL 14 13 1,cC 15 176 [.t 14] 3,cM 10 15 7]
def F1:Lc:=[cM 16 10 0,cS 17 (.bin .eql .int (.t 16) (.c (.int .i64 0))) 1]
def JV:Lc:=[cM 18 2 0,cS 19 (.load (some 3) (.t 9)) 0,⟨some 20,.call (.t 18) [.t 19],none,3⟩,cM 10 20 7]
def ES:Lc:=[cM 21 10 0,cS 22 (.bin .neq .int (.t 21) (.c (.int .i64 0))) 1]
def LS:Lc:=[cS 23 (.load (some 3) (.t 8)) 0,cM 24 10 0,cH (.store 3 (.t 6) (.t 23)) 1,cM 7 24 7]
def Sp:Lc:=[cS 25 (.load (some 3) (.t 9)) 0,cH (.store 3 (.t 6) (.t 25)) 1,cS 7 (.aJ (.c (.int .i64 0))) 3]
def pV:ag:=(.seq (.region DT) (.seq (.region Em) (.seq (.region DO) (.seq (.region EH) (.seq (.seq (.region F1) (.cond (.t 17) (.region JV) .skip)) (.seq (.seq (.region ES) (.cond (.t 22) (.seq (.region LS) .ret) .skip)) (.seq (.region Sp) .ret)))))))
def S4:aA:=⟨26,[.cell 6 (some 3),.t 7],true,pV,e8,e8⟩
@[simp] theorem qmr:S4.body=pV∧S4.results=[.cell 6 (some 3),.t 7]∧S4.own=true:=⟨rfl,rfl,rfl⟩
def Wo:Lc:=[⟨some 1,.m (.box (.t 0)),none,0⟩,⟨some 2,.m (.alloc [.int .i64 0,.int .u64 0,.int .i64 0]),none,0⟩]
def SP:Lc:=[⟨some 3,.m (.alloc [.int .i64 0,.int .u64 0,.int .i64 0]),none,0⟩]
def Wx:Lc:=[cF 4 0 1 0,cL 5 4 1,cC 6 175 [.t 5,(.c (.int .u64 255))] 3,cS 7 (.bI .i64 (.t 6)) 7,cF 8 0 3 15,cH (.store 1 (.t 8) (.t 7)) 31]
def SL:Lc:=[cF 9 0 1 0,cL 10 9 1,cC 11 175 [.t 10,(.c (.int .u64 18446744073709551615))] 3,cF 12 1 3 7,cH (.store 1 (.t 12) (.t 11)) 15]
def Tn:Lc:=[cF 13 0 1 0,cL 14 13 1,cC 15 175 [.t 14,(.c (.int .u64 255))] 3,cS 16 (.bI .i64 (.t 15)) 7,cS 17 (.bin .sub .no (.t 16) (.c (.int .i64 1))) 15,cF 18 2 3 31,cH (.store 1 (.t 18) (.t 17)) 63]
def S1:Lc:=[cS 19 (.load (some 3) (.t 3)) 0,cH (.store 3 (.t 2) (.t 19)) 1]
def xC:ag:=(.seq (.region Wo) (.seq (.region SP) (.seq (.region Wx) (.seq (.region SL) (.seq (.region Tn) (.seq (.region S1) .ret))))))
def Ud:aA:=⟨20,[.cell 2 (some 3)],true,xC,e8,e8⟩
@[simp] theorem qkZ:Ud.body=xC∧Ud.results=[.cell 2 (some 3)]∧Ud.own=true:=⟨rfl,rfl,rfl⟩
def xj:Lc:=[⟨some 1,.m (.box (.t 0)),none,0⟩,cS 2 (.aJ (.c (.int .i64 0))) 0]
def wJ:Lc:=[cF 3 0 1 0,cL 4 3 1,cS 5 (.bin .lss .no (.t 4) (.c (.int .i64 0))) 3,cM 6 5 7,cG 7 (.fieldAddr 0 (.t 1)) 6 false 15,cG 8 (.load none (.t 7)) 6 false 31,cG 9 (.bin .geq .no (.t 8) (.c (.int .i64 40))) 6 false 63,cP 10 6 9 127,cM 11 10 255,cG 12 (.fieldAddr 2 (.t 1)) 11 false 511,cG 13 (.load none (.t 12)) 11 false 1023,cG 14 (.bin .lss .no (.t 13) (.c (.int .i64 (-1)))) 11 false 2047,cP 15 11 14 4095,cM 16 15 8191,cG 17 (.fieldAddr 2 (.t 1)) 16 false 16383,cG 18 (.load none (.t 17)) 16 false 32767,cG 19 (.bin .geq .no (.t 18) (.c (.int .i64 80))) 16 false 65535,cP 20 16 19 131071]
def Bl:Lc:=[cS 2 (.aJ (.c (.int .i64 1))) 0]
def Wl:Lc:=[cS 2 (.aJ (.c (.int .i64 0))) 0]
def lV:ag:=(.seq (.region xj) (.seq (.seq (.region wJ) (.cond (.t 20) (.seq (.region Bl) .ret) .skip)) (.seq (.region Wl) .ret)))
def qac:aA:=⟨21,[.t 2],true,lV,e8,e8⟩
@[simp] theorem qk9:qac.body=lV∧qac.results=[.t 2]∧qac.own=true:=⟨rfl,rfl,rfl⟩
def Fw:Lc:=[⟨some 3,.m (.box (.t 0)),none,0⟩,⟨some 6,.m (.alloc [.int .i64 0,.str [],.str [],.int .u64 0]),none,0⟩,cS 7 (.aJ (.c (.int .i64 0))) 0]
def DK:Lc:=[⟨some 8,.m (.alloc [.int .i64 0,.str [],.str [],.int .u64 0]),none,0⟩]
def Fx:Lc:=[cM 11 1 0,⟨some 12,.call (.t 11) [],none,1⟩,⟨some 9,.m (.alloc [.int .i64 0,.str [],.str [],.int .u64 0]),none,0⟩,cH (.store 4 (.t 9) (.t 12)) 7]
def Fk:Lc:=[cF 13 0 3 0,cL 14 13 1,cC 15 176 [.t 14] 3,cM 10 15 7]
def Fe:Lc:=[cM 16 10 0,cS 17 (.bin .eql .int (.t 16) (.c (.int .i64 0))) 1]
def JW:Lc:=[cM 18 2 0,cS 19 (.load (some 4) (.t 9)) 0,⟨some 20,.call (.t 18) [.t 19],none,3⟩,cM 10 20 7]
def ED:Lc:=[cM 21 10 0,cS 22 (.bin .neq .int (.t 21) (.c (.int .i64 0))) 1]
def Jo:Lc:=[cS 23 (.load (some 4) (.t 8)) 0,cM 24 10 0,cH (.store 4 (.t 6) (.t 23)) 1,cM 7 24 7]
def Sz:Lc:=[cS 25 (.load (some 4) (.t 9)) 0,cH (.store 4 (.t 6) (.t 25)) 1,cS 7 (.aJ (.c (.int .i64 0))) 3]
def pz:ag:=(.seq (.region Fw) (.seq (.region DK) (.seq (.region Fx) (.seq (.region Fk) (.seq (.seq (.region Fe) (.cond (.t 17) (.region JW) .skip)) (.seq (.seq (.region ED) (.cond (.t 22) (.seq (.region Jo) .ret) .skip)) (.seq (.region Sz) .ret)))))))
def RX:aA:=⟨26,[.cell 6 (some 4),.t 7],true,pz,e8,e8⟩
@[simp] theorem qkp:RX.body=pz∧RX.results=[.cell 6 (some 4),.t 7]∧RX.own=true:=⟨rfl,rfl,rfl⟩
def zT:Lc:=[⟨some 1,.m (.box (.t 0)),none,0⟩,⟨some 2,.m (.alloc [.int .i64 0,.str [],.str [],.int .u64 0]),none,0⟩]
def zY:Lc:=[cF 4 0 1 0,cL 5 4 1,cC 6 225 [.t 5] 3,cS 7 (.bI .i64 (.t 6)) 7,cS 8 (.build [.int .i64 0,.str [],.str [],.int .u64 0] [(0,1,.t 7)]) 15,⟨some 3,.m (.alloc [.int .i64 0,.str [],.str [],.int .u64 0]),none,0⟩,cH (.store 4 (.t 3) (.t 8)) 63]
def AQ:Lc:=[cF 9 0 3 0,cL 10 9 1]
def zJ:Lc:=[cS 12 (.bin .eql .int (.t 10) (.c (.int .i64 1))) 0,cM 11 12 1]
def S0:Lc:=[cF 13 0 1 0,cL 14 13 1,cC 15 175 [.t 14,(.c (.int .u64 18446744073709551615))] 3,cF 16 3 3 7,cH (.store 1 (.t 16) (.t 15)) 15]
def FW:Lc:=[cS 18 (.bin .eql .int (.t 10) (.c (.int .i64 2))) 0,cM 17 18 1]
def Mb:Lc:=[cS 19 (.bin .eql .int (.t 10) (.c (.int .i64 3))) 0,cM 17 19 1]
def IU:Lc:=[cF 20 0 1 0,cL 21 20 1,cC 22 186 [.t 21,(.c (.int .i64 16))] 3,cF 23 1 3 7,cH (.store 1 (.t 23) (.t 22)) 15]
def I6:Lc:=[cF 24 0 3 0,cL 25 24 1,cS 26 (.bin .eql .int (.t 25) (.c (.int .i64 2))) 3]
def QC:Lc:=[cF 27 0 1 0,cL 28 27 1,cC 29 186 [.t 28,(.c (.int .i64 64))] 3,cF 30 2 3 7,cH (.store 1 (.t 30) (.t 29)) 15]
def uV:Lc:=[cS 31 (.load (some 4) (.t 3)) 0,cH (.store 4 (.t 2) (.t 31)) 1]
def ni:ag:=(.seq (.region zT) (.seq (.region zY) (.seq (.seq (.region AQ) (.block 0 (.seq (.region zJ) (.cond (.t 11) (.region S0) (.seq (.seq (.region FW) (.cond (.t 17) .skip (.region Mb))) (.cond (.t 17) (.seq (.region IU) (.seq (.region I6) (.cond (.t 26) (.region QC) .skip))) .skip)))))) (.seq (.region uV) .ret))))
def PR:aA:=⟨32,[.cell 2 (some 4)],true,ni,e8,fun i=>match i with|0=>[2,3]|_=>[]⟩
@[simp] theorem qmt:PR.body=ni∧PR.results=[.cell 2 (some 4)]∧PR.own=true∧PR.tail 0=[2,3]:=⟨rfl,rfl,rfl,rfl⟩
def lY:Lc:=[⟨some 1,.m (.box (.t 0)),none,0⟩,cS 2 (.aJ (.c (.int .i64 0))) 0]
def lB:Lc:=[cS 3 (.aJ (.c (.bool false))) 0]
def lM:Lc:=[cF 4 0 1 0,cL 5 4 1]
def lu:Lc:=[cS 7 (.bin .eql .int (.t 5) (.c (.int .i64 1))) 0,cM 6 7 1]
def Ec:Lc:=[cF 8 1 1 0,cL 9 8 1,cS 10 (.bin .eql .str (.t 9) (.c (.str []))) 3,cM 11 10 7,cG 12 (.fieldAddr 2 (.t 1)) 11 true 15,cG 13 (.load none (.t 12)) 11 true 31,cG 14 (.bin .eql .str (.t 13) (.c (.str []))) 11 true 63,cQ 15 11 14 127,cM 3 15 255]
def pg:Lc:=[cS 17 (.bin .eql .int (.t 5) (.c (.int .i64 2))) 0,cM 16 17 1]
def Be:Lc:=[cF 18 1 1 0,cL 19 18 1,cC 20 226 [.t 19] 3,cM 21 20 7,cG 22 (.fieldAddr 2 (.t 1)) 21 true 15,cG 23 (.load none (.t 22)) 21 true 31,cG 24 (.len 0 (.t 23)) 21 true 63,cG 25 (.bin .leq .no (.t 24) (.c (.int .i64 64))) 21 true 127,cQ 26 21 25 255,cM 27 26 511,cG 28 (.fieldAddr 3 (.t 1)) 27 true 1023,cG 29 (.load none (.t 28)) 27 true 2047,cG 30 (.bin .eql .int (.t 29) (.c (.int .u64 0))) 27 true 4095,cQ 31 27 30 8191,cM 3 31 16383]
def w8:Lc:=[cS 33 (.bin .eql .int (.t 5) (.c (.int .i64 3))) 0,cM 32 33 1]
def BK:Lc:=[cF 34 1 1 0,cL 35 34 1,cC 36 226 [.t 35] 3,cM 37 36 7,cG 38 (.fieldAddr 2 (.t 1)) 37 true 15,cG 39 (.load none (.t 38)) 37 true 31,cG 40 (.bin .eql .str (.t 39) (.c (.str []))) 37 true 63,cQ 41 37 40 127,cM 42 41 255,cG 43 (.fieldAddr 3 (.t 1)) 42 true 511,cG 44 (.load none (.t 43)) 42 true 1023,cG 45 (.bin .eql .int (.t 44) (.c (.int .u64 0))) 42 true 2047,cQ 46 42 45 4095,cM 3 46 8191]
def lK:Lc:=[cM 47 3 0,cS 48 (.un .not (.t 47)) 1]
def lZ:Lc:=[cS 2 (.aJ (.c (.int .i64 1))) 0]
def yC:Lc:=[cS 2 (.aJ (.c (.int .i64 0))) 0]
def dY:ag:=(.seq (.region lY) (.seq (.region lB) (.seq (.seq (.region lM) (.block 0 (.seq (.region lu) (.cond (.t 6) (.region Ec) (.seq (.region pg) (.cond (.t 16) (.region Be) (.seq (.region w8) (.cond (.t 32) (.region BK) .skip)))))))) (.seq (.seq (.region lK) (.cond (.t 48) (.seq (.region lZ) .ret) .skip)) (.seq (.region yC) .ret)))))
def v182:aA:=⟨49,[.t 2],true,dY,e8,fun i=>match i with|0=>[3]|_=>[]⟩
@[simp] theorem qkS:v182.body=dY∧v182.results=[.t 2]∧v182.own=true∧v182.tail 0=[3]:=⟨rfl,rfl,rfl,rfl⟩
def Vn:Lc:=[⟨some 2,.m (.alloc [.int .i64 0,.int .i64 0,.str []]),none,0⟩]
def SU:Lc:=[cM 3 0 0,cS 4 (.build [.int .i64 0,.int .i64 0,.str []] [(0,1,(.c (.int .i64 1))),(1,1,.t 3)]) 1,cH (.store 3 (.t 2) (.t 4)) 3]
def wP:ag:=(.seq (.region Vn) (.seq (.region SU) .ret))
def v183:aA:=⟨5,[.cell 2 (some 3)],true,wP,e8,e8⟩
@[simp] theorem qmq:v183.body=wP∧v183.results=[.cell 2 (some 3)]∧v183.own=true:=⟨rfl,rfl,rfl⟩
def XJ:Lc:=[cS 2 (.aJ (.c (.int .i64 0))) 0]
def SZ:Lc:=[cM 4 0 0,cC 5 175 [.t 4,(.c (.int .u64 18446744073709551615))] 1,cM 3 5 3]
def Uh:Lc:=[cM 6 3 0,cS 7 (.bin .shr .no (.t 6) (.c (.int .u64 1))) 1,cS 8 (.bI .i64 (.t 7)) 3,cM 9 3 0,cS 10 (.bin .and .no (.t 9) (.c (.int .u64 1))) 8,cS 11 (.bI .i64 (.t 10)) 24,cS 12 (.un .neg (.t 11)) 56,cS 13 (.bin .xor .no (.t 8) (.t 12)) 127,cM 2 13 255]
def wq:ag:=(.seq (.region XJ) (.seq (.region SZ) (.seq (.region Uh) .ret)))
def VG:aA:=⟨14,[.t 2],true,wq,e8,e8⟩
@[simp] theorem qmA:VG.body=wq∧VG.results=[.t 2]∧VG.own=true:=⟨rfl,rfl,rfl⟩
def Wu:Lc:=[⟨some 2,.m (.alloc [.int .i64 0,.int .i64 0,.str []]),none,0⟩]
def VI:Lc:=[cM 3 0 0,cS 4 (.build [.int .i64 0,.int .i64 0,.str []] [(0,1,(.c (.int .i64 3))),(2,1,.t 3)]) 1,cH (.store 3 (.t 2) (.t 4)) 3]
def wK:ag:=(.seq (.region Wu) (.seq (.region VI) .ret))
def YC:aA:=⟨5,[.cell 2 (some 3)],true,wK,e8,e8⟩
@[simp] theorem ql9:YC.body=wK∧YC.results=[.cell 2 (some 3)]∧YC.own=true:=⟨rfl,rfl,rfl⟩
def wY:Lc:=[cS 4 (.aJ (.c (.str []))) 0]
def xy:Lc:=[cM 8 0 0,cC 9 187 [.t 8] 1,cS 10 (.bin .neq .int (.t 9) (.c (.int .i64 0))) 3]
def U7:Lc:=[cS 4 (.aJ (.c (.str []))) 0]
def y9:Lc:=[cM 12 0 0,cC 13 230 [.t 12] 1,cM 11 13 3,cE 14 0 11 7,cE 15 1 11 7,cE 16 2 11 7,cM 5 14 15,cM 6 15 95,cM 7 16 255]
def ze:Lc:=[cM 18 7 0,cS 19 (.bin .neq .int (.t 18) (.c (.int .i64 0))) 1,cM 17 19 3]
def FY:Lc:=[cM 21 1 0,cS 22 (.bin .lss .no (.t 21) (.c (.int .i64 0))) 1,cM 23 22 3,kJ 24 5 23 false 7,kJ 25 1 23 false 7,cG 26 (.bI .u64 (.t 25)) 23 false 23,cG 27 (.bin .gtr .no (.t 24) (.t 26)) 23 false 63,cP 28 23 27 127,cM 20 28 255]
def Wa:Lc:=[cS 7 (.aJ (.c (.int .i64 3))) 0]
def IE:Lc:=[cM 30 5 0,cM 31 0 0,cC 32 188 [.t 31] 2,cM 33 6 0,cS 34 (.bin .sub .no (.t 32) (.t 33)) 14,cS 35 (.bI .u64 (.t 34)) 30,cS 36 (.bin .gtr .no (.t 30) (.t 35)) 63,cM 29 36 127]
def Uu:Lc:=[cS 7 (.aJ (.c (.int .i64 6))) 0]
def zH:Lc:=[cM 37 7 0,cS 38 (.bin .neq .int (.t 37) (.c (.int .i64 0))) 1]
def yL:Lc:=[cM 39 0 0,cM 40 7 0,cN 41 39 3,cF 42 3 41 7,cH (.store 1 (.t 42) (.t 40)) 15]
def yN:Lc:=[cS 4 (.aJ (.c (.str []))) 0]
def MM:Lc:=[cM 43 0 0,cN 44 43 1,cF 45 2 44 3,cL 46 45 7,cM 47 6 0,cM 48 5 0,cS 49 (.bI .i64 (.t 48)) 32,cS 50 (.bin .add .no (.t 47) (.t 49)) 112,cS 51 (.bin .add .no (.t 46) (.t 50)) 255,cN 52 43 511,cF 53 2 52 1023,cH (.store 1 (.t 53) (.t 51)) 2047]
def Hx:List Step:=[.small 0 (cM 54 0 0),.small 1 (cN 55 54 1),.small 2 (cF 56 1 55 3),.small 3 (cL 57 56 7),.small 4 (cM 58 0 0),.small 5 (cN 59 58 16),.small 6 (cF 60 2 59 48),.small 7 (cL 61 60 112),.small 8 (cM 62 5 0),.small 9 (cS 63 (.bI .i64 (.t 62)) 256),.small 10 (cS 64 (.bin .sub .no (.t 61) (.t 63)) 1008),.small 11 (cM 65 0 0),.small 12 (cN 66 65 2048),.small 13 (cF 67 2 66 6144),.small 14 (cL 68 67 14336),.small 15 (cS 69 (.slice 1 (.t 57) (some (.t 64)) (some (.t 68)) none) 32767),.small 16 (cS 70 (.toStr (.t 69)) 65535),.small 17 (cM 4 70 131071)]
def Fu:Lc:=unS Hx
def Sq:=X0 Fu Hx (by kernel_rfl)
def lQ:ag:=(.seq (.region wY) (.seq (.seq (.region xy) (.cond (.t 10) (.seq (.region U7) .ret) .skip)) (.seq (.region y9) (.seq (.block 0 (.seq (.region ze) (.cond (.t 17) .skip (.seq (.region FY) (.cond (.t 20) (.region Wa) (.seq (.region IE) (.cond (.t 29) (.region Uu) .skip))))))) (.seq (.seq (.region zH) (.cond (.t 38) (.seq (.region yL) (.seq (.region yN) .ret)) .skip)) (.seq (.region MM) (.seq (.draw Fu) .ret)))))))
def OW:aA:=⟨71,[.t 4],true,lQ,e8,fun i=>match i with|0=>[7,0,5,6]|_=>[]⟩
@[simp] theorem qkI:OW.body=lQ∧OW.results=[.t 4]∧OW.own=true∧OW.tail 0=[7,0,5,6]:=⟨rfl,rfl,rfl,rfl⟩
def W3:Lc:=[cS 2 (.aJ (.c (.int .i64 0))) 0]
def Rb:Lc:=[cM 3 0 0,cS 4 (.bin .eql .aT (.t 3) (.c .aT)) 1,cM 5 4 3,kJ 6 0 5 false 7,cG 7 (.nilCheck (.t 6)) 5 false 15,cG 8 (.fieldAddr 0 (.t 7)) 5 false 31,cG 9 (.load none (.t 8)) 5 false 63,cG 10 (.un .not (.t 9)) 5 false 127,cP 11 5 10 255]
def qep:Lc:=[cS 2 (.aJ (.c (.int .i64 2))) 0]
def TC:Lc:=[cM 12 0 0,cN 13 12 1,cF 14 3 13 3,cL 15 14 7,cM 2 15 15]
def vX:ag:=(.seq (.region W3) (.seq (.seq (.region Rb) (.cond (.t 11) (.seq (.region qep) .ret) .skip)) (.seq (.region TC) .ret)))
def ZC:aA:=⟨16,[.t 2],true,vX,e8,e8⟩
@[simp] theorem ql5:ZC.body=vX∧ZC.results=[.t 2]∧ZC.own=true:=⟨rfl,rfl,rfl⟩
def Xm:Lc:=[cS 2 (.aJ (.c (.int .i64 0))) 0]
def TK:Lc:=[cM 3 0 0,cS 4 (.bin .eql .aT (.t 3) (.c .aT)) 1]
def qeM:Lc:=[cS 2 (.aJ (.c (.int .i64 0))) 0]
def Oi:List Step:=[.small 0 (cM 5 0 0),.small 1 (cN 6 5 1),.small 2 (cF 7 1 6 3),.small 3 (cL 8 7 7),.small 4 (cS 9 (.len 1 (.t 8)) 15),.small 5 (cM 10 0 0),.small 6 (cN 11 10 32),.small 7 (cF 12 2 11 96),.small 8 (cL 13 12 224),.small 9 (cS 14 (.bin .sub .no (.t 9) (.t 13)) 511),.small 10 (cM 2 14 1023)]
def Kj:Lc:=unS Oi
def ZU:=X0 Kj Oi (by kernel_rfl)
def wv:ag:=(.seq (.region Xm) (.seq (.seq (.region TK) (.cond (.t 4) (.seq (.region qeM) .ret) .skip)) (.seq (.draw Kj) .ret)))
def Y6:aA:=⟨15,[.t 2],true,wv,e8,e8⟩
@[simp] theorem qkK:Y6.body=wv∧Y6.results=[.t 2]∧Y6.own=true:=⟨rfl,rfl,rfl⟩
def Wh:Lc:=[cS 2 (.aJ (.c (.aj [] 1 0 1))) 0]
def TO:Lc:=[cS 3 (.aJ (.c (.int .i64 0))) 0]
def QD:Lc:=[cM 9 0 0,cS 10 (.len 1 (.t 9)) 1,cS 11 (.aJ (.c (.int .i64 0))) 0]
def Kp:Lc:=[cS 12 (.bin .lss .no (.t 11) (.t 10)) 0]
def RQ:Lc:=[cS 13 (.indexAddr 1 (.t 9) (.t 11)) 0,cL 14 13 1,cM 5 14 3]
def Rz:Lc:=[cM 15 3 0,cM 16 5 0,cS 17 (.len 1 (.t 16)) 2,cS 18 (.bin .add .no (.t 15) (.t 17)) 7,cM 3 18 15]
def Tm:Lc:=[cS 19 (.bin .add .no (.t 11) (.c (.int .i64 1))) 0,cM 11 19 1]
def yV:ag:=(.seq (.region Kp) (.seq (.cond (.t 12) .skip (.exit 0)) (.seq (.block 1 (.seq (.region RQ) (.region Rz))) (.region Tm))))
def IP:Lc:=[cM 20 3 0,⟨some 21,.m (.makeSlice 1 1 [.int .u8 0] (.c (.int .i64 0)) (.t 20)),none,1⟩,cM 6 21 3]
def Ks:Lc:=[cM 22 0 0,cS 23 (.len 1 (.t 22)) 1,cS 24 (.aJ (.c (.int .i64 0))) 0]
def FC:Lc:=[cS 25 (.bin .lss .no (.t 24) (.t 23)) 0]
def Ni:Lc:=[cS 26 (.indexAddr 1 (.t 22) (.t 24)) 0,cL 27 26 1,cM 8 27 3]
def Mt:Lc:=[cM 28 6 0,cM 29 8 0,⟨some 30,.h (.append 1 1 false (.t 28) (.t 29)),none,3⟩,cM 6 30 7]
def MU:Lc:=[cS 31 (.bin .add .no (.t 24) (.c (.int .i64 1))) 0,cM 24 31 1]
def rA:ag:=(.seq (.region FC) (.seq (.cond (.t 25) .skip (.exit 2)) (.seq (.block 3 (.seq (.region Ni) (.region Mt))) (.region MU))))
def yM:Lc:=[cM 32 6 0,cM 2 32 1]
def wm:ag:=(.seq (.region Wh) (.seq (.region TO) (.seq (.seq (.region QD) (.block 0 (.loop yV))) (.seq (.region IP) (.seq (.seq (.region Ks) (.block 2 (.loop rA))) (.seq (.region yM) .ret))))))
def tc:aA:=⟨33,[.t 2],true,wm,fun i=>match i with|0=>[11,3,9,0,10]|2=>[24,6,22,23]|_=>[],fun i=>match i with|0=>[0,3]|1=>[3,9,0,10,11]|2=>[6]|3=>[6,22,23,24]|_=>[]⟩
@[simp] theorem qlW:tc.body=wm∧tc.results=[.t 2]∧tc.own=true∧tc.head 0=[11,3,9,0,10]∧tc.head 2=[24,6,22,23]∧tc.tail 0=[0,3]∧tc.tail 1=[3,9,0,10,11]∧tc.tail 2=[6]∧tc.tail 3=[6,22,23,24]:=⟨rfl,rfl,rfl,rfl,rfl,rfl,rfl,rfl,rfl⟩
def WI:Lc:=[cS 2 (.aJ (.c (.aj [] 1 0 1))) 0]
def TJ:Lc:=[cM 3 0 0,cS 4 (.len 0 (.t 3)) 1,cS 5 (.bI .u64 (.t 4)) 3,cC 6 191 [.t 5] 7,cM 7 0 0,⟨some 8,.h (.append 1 1 true (.t 6) (.t 7)),none,31⟩,cM 2 8 63]
def wC:ag:=(.seq (.region WI) (.seq (.region TJ) .ret))
def Zd:aA:=⟨9,[.t 2],true,wC,e8,e8⟩
@[simp] theorem qkw:Zd.body=wC∧Zd.results=[.t 2]∧Zd.own=true:=⟨rfl,rfl,rfl⟩
def Q3:Lc:=[cS 2 (.aJ (.c (.aj [] 1 0 1))) 0]
def Ue:Lc:=[⟨some 4,.m (.makeSlice 1 1 [.int .u8 0] (.c (.int .i64 0)) (.c (.int .i64 10))),none,0⟩,cM 3 4 1]
def EX:Lc:=[cM 5 0 0,cS 6 (.bin .geq .no (.t 5) (.c (.int .u64 128))) 1]
def TW:Lc:=[cM 9 3 0,cM 10 0 0,cS 11 (.bI .u8 (.t 10)) 2,cS 12 (.bin .or .no (.t 11) (.c (.int .u8 128))) 6,⟨some 13,.m (.buildSlice 1 1 [.int .u8 0] [(0,1,.t 12)]),none,14⟩,⟨some 14,.h (.append 1 1 false (.t 9) (.t 13)),none,31⟩,cM 3 14 63]
def WZ:Lc:=[cM 7 0 0,cS 8 (.bin .shr .no (.t 7) (.c (.int .u64 7))) 1,cM 0 8 3]
def yA:ag:=(.seq (.seq (.region EX) (.cond (.t 6) .skip (.exit 0))) (.seq (.block 1 (.region TW)) (.region WZ)))
def Jj:Lc:=[cM 15 3 0,cM 16 0 0,cS 17 (.bI .u8 (.t 16)) 2,⟨some 18,.m (.buildSlice 1 1 [.int .u8 0] [(0,1,.t 17)]),none,6⟩,⟨some 19,.h (.append 1 1 false (.t 15) (.t 18)),none,15⟩,cM 2 19 31]
def wD:ag:=(.seq (.region Q3) (.seq (.region Ue) (.seq (.block 0 (.loop yA)) (.seq (.region Jj) .ret))))
def B4:aA:=⟨20,[.t 2],true,wD,fun i=>match i with|0=>[0,3]|_=>[],fun i=>match i with|0=>[0,3]|1=>[3,0]|_=>[]⟩
@[simp] theorem qmp:B4.body=wD∧B4.results=[.t 2]∧B4.own=true∧B4.head 0=[0,3]∧B4.tail 0=[0,3]∧B4.tail 1=[3,0]:=⟨rfl,rfl,rfl,rfl,rfl,rfl⟩
def TZ:Lc:=[cS 2 (.aJ (.c (.aj [] 1 0 1))) 0]
def Th:Lc:=[cM 3 0 0,cS 4 (.bin .shl .no (.t 3) (.c (.int .u64 1))) 1,cS 5 (.bI .u64 (.t 4)) 3,cM 6 0 0,cS 7 (.bin .shr .no (.t 6) (.c (.int .u64 63))) 8,cS 8 (.bI .u64 (.t 7)) 24,cS 9 (.bin .xor .no (.t 5) (.t 8)) 63,cC 10 191 [.t 9] 127,cM 2 10 255]
def v8:ag:=(.seq (.region TZ) (.seq (.region Th) .ret))
def Zf:aA:=⟨11,[.t 2],true,v8,e8,e8⟩
@[simp] theorem qkk:Zf.body=v8∧Zf.results=[.t 2]∧Zf.own=true:=⟨rfl,rfl,rfl⟩
def EI:Lc:=[cS 2 (.aJ (.c (.int .u8 0))) 0]
def ER:Lc:=[cM 3 0 0,cC 4 187 [.t 3] 1,cS 5 (.bin .neq .int (.t 4) (.c (.int .i64 0))) 3]
def Q7:Lc:=[cS 2 (.aJ (.c (.int .u8 0))) 0]
def KI:Lc:=[cM 6 0 0,cC 7 188 [.t 6] 1,cS 8 (.bin .eql .int (.t 7) (.c (.int .i64 0))) 3]
def VM:Lc:=[cM 9 0 0,cN 10 9 1,cF 11 3 10 3,cH (.store 1 (.t 11) (.c (.int .i64 6))) 7]
def R5:Lc:=[cS 2 (.aJ (.c (.int .u8 0))) 0]
def Ua:Lc:=[cM 12 0 0,cN 13 12 1,cF 14 2 13 3,cL 15 14 7,cS 16 (.bin .add .no (.t 15) (.c (.int .i64 1))) 15,cN 17 12 31,cF 18 2 17 63,cH (.store 1 (.t 18) (.t 16)) 127]
def MN:List Step:=[.small 0 (cM 19 0 0),.small 1 (cN 20 19 1),.small 2 (cF 21 1 20 3),.small 3 (cL 22 21 7),.small 4 (cM 23 0 0),.small 5 (cN 24 23 16),.small 6 (cF 25 2 24 48),.small 7 (cL 26 25 112),.small 8 (cS 27 (.bin .sub .no (.t 26) (.c (.int .i64 1))) 240),.small 9 (cS 28 (.indexAddr 1 (.t 22) (.t 27)) 511),.small 10 (cL 29 28 1023),.small 11 (cM 2 29 2047)]
def LX:Lc:=unS MN
def ZQ:=X0 LX MN (by kernel_rfl)
def pX:ag:=(.seq (.region EI) (.seq (.seq (.region ER) (.cond (.t 5) (.seq (.region Q7) .ret) .skip)) (.seq (.seq (.region KI) (.cond (.t 8) (.seq (.region VM) (.seq (.region R5) .ret)) .skip)) (.seq (.region Ua) (.seq (.draw LX) .ret)))))
def ZS:aA:=⟨30,[.t 2],true,pX,e8,e8⟩
@[simp] theorem qmn:ZS.body=pX∧ZS.results=[.t 2]∧ZS.own=true:=⟨rfl,rfl,rfl⟩
def wN:Lc:=[cS 2 (.aJ (.c (.bool false))) 0]
def wB:Lc:=[cM 5 0 0,cS 6 (.bin .eql .str (.t 5) (.c (.str []))) 1,cM 7 6 3,kJ 8 0 7 false 7,cG 9 (.len 0 (.t 8)) 7 false 15,cG 10 (.bin .gtr .no (.t 9) (.c (.int .i64 16))) 7 false 31,cP 11 7 10 63,cM 12 11 127,kJ 13 0 12 false 255,cG 14 (.index (.t 13) (.c (.int .i64 0))) 12 false 511,cG 15 (.bin .lss .no (.t 14) (.c (.int .u8 97))) 12 false 1023,cP 16 12 15 2047,cM 17 16 4095,kJ 18 0 17 false 8191,cG 19 (.index (.t 18) (.c (.int .i64 0))) 17 false 16383,cG 20 (.bin .gtr .no (.t 19) (.c (.int .u8 122))) 17 false 32767,cP 21 17 20 65535]
def zD:Lc:=[cS 2 (.aJ (.c (.bool false))) 0]
def Vx:Lc:=[cM 22 0 0,cS 23 (.len 0 (.t 22)) 1,cS 24 (.aJ (.c (.int .i64 0))) 0]
def Lx:Lc:=[cS 25 (.bin .lss .no (.t 24) (.t 23)) 0]
def VZ:Lc:=[cM 26 24 0,cM 3 26 1]
def R7:Lc:=[cM 27 0 0,cM 28 3 0,cS 29 (.index (.t 27) (.t 28)) 3,cM 4 29 7]
def Q5:Lc:=[cM 31 4 0,cS 32 (.bin .geq .no (.t 31) (.c (.int .u8 97))) 1,cM 33 32 3,kJ 34 4 33 true 7,cG 35 (.bin .leq .no (.t 34) (.c (.int .u8 122))) 33 true 15,cQ 36 33 35 31,cM 30 36 63]
def Xe:Lc:=[cM 37 4 0,cS 38 (.bin .geq .no (.t 37) (.c (.int .u8 48))) 1,cM 39 38 3,kJ 40 4 39 true 7,cG 41 (.bin .leq .no (.t 40) (.c (.int .u8 57))) 39 true 15,cQ 42 39 41 31,cM 30 42 63]
def T6:Lc:=[cM 43 4 0,cS 44 (.bin .eql .int (.t 43) (.c (.int .u8 45))) 1,cM 30 44 3]
def NM:Lc:=[cS 2 (.aJ (.c (.bool false))) 0]
def MR:Lc:=[cS 45 (.bin .add .no (.t 24) (.c (.int .i64 1))) 0,cM 24 45 1]
def uS:ag:=(.seq (.region Lx) (.seq (.cond (.t 25) .skip (.exit 0)) (.seq (.block 1 (.seq (.region VZ) (.seq (.region R7) (.block 2 (.seq (.seq (.region Q5) (.cond (.t 30) .skip (.seq (.region Xe) (.cond (.t 30) .skip (.region T6))))) (.cond (.t 30) .skip (.seq (.region NM) .ret))))))) (.region MR))))
def yx:Lc:=[cS 2 (.aJ (.c (.bool true))) 0]
def lz:ag:=(.seq (.region wN) (.seq (.seq (.region wB) (.cond (.t 21) (.seq (.region zD) .ret) .skip)) (.seq (.seq (.region Vx) (.block 0 (.loop uS))) (.seq (.region yx) .ret))))
def v226:aA:=⟨46,[.t 2],true,lz,fun i=>match i with|0=>[24,0,23]|_=>[],fun i=>match i with|0=>[]|2=>[0,23,24]|1=>[0,23,24]|_=>[]⟩
@[simp] theorem qle:v226.body=lz∧v226.results=[.t 2]∧v226.own=true∧v226.head 0=[24,0,23]∧v226.tail 0=[]∧v226.tail 2=[0,23,24]∧v226.tail 1=[0,23,24]:=⟨rfl,rfl,rfl,rfl,rfl,rfl,rfl⟩
def QT:Lc:=[cS 4 (.aJ (.c (.str []))) 0]
def Xn:Lc:=[cM 9 0 0,⟨some 10,.m (.buildSlice 1 1 [.int .u8 0] [(0,1,.t 9)]),none,1⟩,cM 5 10 3]
def Sw:Lc:=[cM 11 1 0,cS 12 (.len 1 (.t 11)) 1,cS 13 (.aJ (.c (.int .i64 0))) 0]
def L6:Lc:=[cS 14 (.bin .lss .no (.t 13) (.t 12)) 0]
def Sf:Lc:=[cS 15 (.indexAddr 1 (.t 11) (.t 13)) 0,cL 16 15 1,cM 7 16 3]
def Ts:Lc:=[cM 17 7 0,cS 18 (.len 0 (.t 17)) 1,cS 19 (.aJ (.c (.int .i64 0))) 0]
def FH:Lc:=[cS 20 (.bin .lss .no (.t 19) (.t 18)) 0]
def JS:Lc:=[cM 21 19 0,cM 8 21 1]
def K4:Lc:=[cM 22 5 0,cM 23 7 0,cM 24 8 0,cS 25 (.index (.t 23) (.t 24)) 6,⟨some 26,.m (.buildSlice 1 1 [.int .u8 0] [(0,1,.t 25)]),none,14⟩,⟨some 27,.h (.append 1 1 false (.t 22) (.t 26)),none,31⟩,cM 5 27 63]
def Lj:Lc:=[cM 28 7 0,cM 29 8 0,cS 30 (.index (.t 28) (.t 29)) 3,cS 31 (.bin .eql .int (.t 30) (.c (.int .u8 0))) 7]
def NZ:Lc:=[cM 32 5 0,⟨some 33,.m (.buildSlice 1 1 [.int .u8 0] [(0,1,(.c (.int .u8 255)))]),none,0⟩,⟨some 34,.h (.append 1 1 false (.t 32) (.t 33)),none,3⟩,cM 5 34 7]
def FT:Lc:=[cS 35 (.bin .add .no (.t 19) (.c (.int .i64 1))) 0,cM 19 35 1]
def uC:ag:=(.seq (.region FH) (.seq (.cond (.t 20) .skip (.exit 2)) (.seq (.block 3 (.seq (.region JS) (.seq (.region K4) (.seq (.region Lj) (.cond (.t 31) (.region NZ) .skip))))) (.region FT))))
def Oj:Lc:=[cM 36 5 0,⟨some 37,.m (.buildSlice 1 2 [.int .u8 0] [(0,1,(.c (.int .u8 0))),(1,1,(.c (.int .u8 1)))]),none,0⟩,⟨some 38,.h (.append 1 1 false (.t 36) (.t 37)),none,3⟩,cM 5 38 7]
def Nz:Lc:=[cS 39 (.bin .add .no (.t 13) (.c (.int .i64 1))) 0,cM 13 39 1]
def vj:ag:=(.seq (.region L6) (.seq (.cond (.t 14) .skip (.exit 0)) (.seq (.block 1 (.seq (.region Sf) (.seq (.seq (.region Ts) (.block 2 (.loop uC))) (.region Oj)))) (.region Nz))))
def FF:Lc:=[cM 40 5 0,cS 41 (.toStr (.t 40)) 1,cM 4 41 3]
def wg:ag:=(.seq (.region QT) (.seq (.region Xn) (.seq (.seq (.region Sw) (.block 0 (.loop vj))) (.seq (.region FF) .ret))))
def v227:aA:=⟨42,[.t 4],true,wg,fun i=>match i with|0=>[5,13,11,12]|2=>[19,7,5,11,12,13,18]|_=>[],fun i=>match i with|0=>[5]|2=>[11,12,13,5]|3=>[7,5,11,12,13,18,19]|1=>[5,11,12,13]|_=>[]⟩
@[simp] theorem qk0:v227.body=wg∧v227.results=[.t 4]∧v227.own=true∧v227.head 0=[5,13,11,12]∧v227.head 2=[19,7,5,11,12,13,18]∧v227.tail 0=[5]∧v227.tail 2=[11,12,13,5]∧v227.tail 3=[7,5,11,12,13,18,19]∧v227.tail 1=[5,11,12,13]:=⟨rfl,rfl,rfl,rfl,rfl,rfl,rfl,rfl,rfl⟩
def WV:Lc:=[cS 2 (.aJ (.c (.str []))) 0]
def Wf:Lc:=[⟨some 3,.m (.alloc [.int .u8 0,.int .u8 0,.int .u8 0,.int .u8 0,.int .u8 0,.int .u8 0,.int .u8 0,.int .u8 0,.int .u8 0,.int .u8 0,.int .u8 0,.int .u8 0,.int .u8 0,.int .u8 0,.int .u8 0,.int .u8 0]),none,0⟩]
def TF:Lc:=[cS 5 (.aJ (.c (.int .i64 0))) 0]
def gK:Lc:=[cS 6 (.bin .lss .no (.t 5) (.c (.int .i64 16))) 0]
def iD:Lc:=[cM 7 5 0,cM 4 7 1]
def iw:Lc:=[cM 8 4 0,cM 9 0 0,cM 10 4 0,cS 11 (.bin .mul .no (.c (.int .i64 4)) (.t 10)) 4,cS 12 (.bin .sub .no (.c (.int .i64 60)) (.t 11)) 12,cS 13 (.bI .u64 (.t 12)) 28,cS 14 (.bin .shr .no (.t 9) (.t 13)) 62,cS 15 (.bin .and .no (.t 14) (.c (.int .u64 15))) 126,cS 16 (.index (.c (.str [48,49,50,51,52,53,54,55,56,57,97,98,99,100,101,102])) (.t 15)) 254,cS 17 (.kM 16 1 (.t 3) (.t 8)) 511,cH (.store 1 (.t 17) (.t 16)) 1023]
def iK:Lc:=[cS 18 (.bin .add .no (.t 5) (.c (.int .i64 1))) 0,cM 5 18 1]
def fz:ag:=(.seq (.region gK) (.seq (.cond (.t 6) .skip (.exit 0)) (.seq (.block 1 (.seq (.region iD) (.region iw))) (.region iK))))
def Tr:Lc:=[cS 19 (.ir 16 1 (.t 3) none none) 0,cS 20 (.toStr (.t 19)) 1,cM 2 20 3]
def wR:ag:=(.seq (.region WV) (.seq (.region Wf) (.seq (.seq (.region TF) (.block 0 (.loop fz))) (.seq (.region Tr) .ret))))
def v228:aA:=⟨21,[.t 2],true,wR,fun i=>match i with|0=>[5,3,0]|_=>[],fun i=>match i with|0=>[3]|1=>[3,0,5]|_=>[]⟩
@[simp] theorem qly:v228.body=wR∧v228.results=[.t 2]∧v228.own=true∧v228.head 0=[5,3,0]∧v228.tail 0=[3]∧v228.tail 1=[3,0,5]:=⟨rfl,rfl,rfl,rfl,rfl,rfl⟩
def UG:Lc:=[cS 2 (.aJ (.c (.str []))) 0]
def TX:Lc:=[cM 5 0 0,cS 6 (.len 0 (.t 5)) 1,cM 3 6 3]
def DE:Lc:=[cM 7 3 0,cS 8 (.bin .gtr .no (.t 7) (.c (.int .i64 0))) 1]
def KF:Lc:=[cM 11 0 0,cM 12 3 0,cS 13 (.bin .sub .no (.t 12) (.c (.int .i64 1))) 2,cS 14 (.index (.t 11) (.t 13)) 7,cM 4 14 15]
def Lg:Lc:=[cM 15 4 0,cS 16 (.bin .lss .no (.t 15) (.c (.int .u8 255))) 1]
def OQ:List Step:=[.small 0 (cM 17 0 0),.small 1 (cM 18 3 0),.small 2 (cS 19 (.bin .sub .no (.t 18) (.c (.int .i64 1))) 2),.small 3 (cS 20 (.jJ (.t 17) none (some (.t 19))) 7),.small 4 (cM 21 4 0),.small 5 (cS 22 (.bin .add .no (.t 21) (.c (.int .u8 1))) 16),.small 6 ⟨some 23,.m (.buildSlice 1 1 [.int .u8 0] [(0,1,.t 22)]),none,48⟩,.small 7 (cS 24 (.toStr (.t 23)) 112),.small 8 (cS 25 (.bin .add .no (.t 20) (.t 24)) 255),.small 9 (cM 2 25 511)]
def I7:Lc:=unS OQ
def Yl:=X0 I7 OQ (by kernel_rfl)
def Tx:Lc:=[cM 9 3 0,cS 10 (.bin .sub .no (.t 9) (.c (.int .i64 1))) 1,cM 3 10 3]
def yQ:ag:=(.seq (.seq (.region DE) (.cond (.t 8) .skip (.exit 0))) (.seq (.block 1 (.seq (.region KF) (.seq (.region Lg) (.cond (.t 16) (.seq (.draw I7) .ret) .skip)))) (.region Tx)))
def RI:Lc:=[cS 2 (.aJ (.c (.str []))) 0]
def wE:ag:=(.seq (.region UG) (.seq (.seq (.region TX) (.block 0 (.loop yQ))) (.seq (.region RI) .ret)))
def v229:aA:=⟨26,[.t 2],true,wE,fun i=>match i with|0=>[0,3]|_=>[],fun i=>match i with|0=>[]|1=>[0,3]|_=>[]⟩
@[simp] theorem qlD:v229.body=wE∧v229.results=[.t 2]∧v229.own=true∧v229.head 0=[0,3]∧v229.tail 0=[]∧v229.tail 1=[0,3]:=⟨rfl,rfl,rfl,rfl,rfl,rfl⟩
def Tl:Lc:=[cS 2 (.aJ (.c (.int .u64 0))) 0,cS 3 (.aJ (.c (.int .i64 0))) 1,cS 4 (.aJ (.c (.int .i64 0))) 3]
def VW:Lc:=[cS 5 (.aJ (.c (.int .u64 0))) 0]
def WY:Lc:=[cM 8 0 0,cC 9 188 [.t 8] 1,cS 10 (.aJ (.c (.int .i64 0))) 0]
def qj:Lc:=[cS 11 (.bin .lss .no (.t 10) (.t 9)) 0]
def qV:Lc:=[cM 12 10 0,cM 6 12 1]
def oR:List Step:=[.small 0 (cM 13 0 0),.small 1 (cN 14 13 1),.small 2 (cF 15 1 14 3),.small 3 (cL 16 15 7),.small 4 (cM 17 0 0),.small 5 (cN 18 17 16),.small 6 (cF 19 2 18 48),.small 7 (cL 20 19 112),.small 8 (cM 21 6 0),.small 9 (cS 22 (.bin .add .no (.t 20) (.t 21)) 496),.small 10 (cS 23 (.indexAddr 1 (.t 16) (.t 22)) 1023),.small 11 (cL 24 23 2047),.small 12 (cM 7 24 4095)]
def KD:Lc:=unS oR
def ql:=X0 KD oR (by kernel_rfl)
def rK:Lc:=[cM 25 6 0,cS 26 (.bin .eql .int (.t 25) (.c (.int .i64 9))) 1,cM 27 26 3,kJ 28 7 27 true 7,cG 29 (.bin .gtr .no (.t 28) (.c (.int .u8 1))) 27 true 15,cQ 30 27 29 31]
def RN:Lc:=[cS 2 (.aJ (.c (.int .u64 0))) 0,cS 3 (.aJ (.c (.int .i64 0))) 1,cS 4 (.aJ (.c (.int .i64 9))) 3]
def tJ:Lc:=[cM 31 5 0,cM 32 7 0,cS 33 (.bin .and .no (.t 32) (.c (.int .u8 127))) 2,cS 34 (.bI .u64 (.t 33)) 6,cM 35 6 0,cS 36 (.bin .mul .no (.c (.int .i64 7)) (.t 35)) 16,cS 37 (.bI .u64 (.t 36)) 48,cS 38 (.bin .shl .no (.t 34) (.t 37)) 126,cS 39 (.bin .or .no (.t 31) (.t 38)) 255,cM 5 39 511]
def tI:Lc:=[cM 41 7 0,cS 42 (.bin .eql .int (.t 41) (.c (.int .u8 0))) 1,cM 43 42 3,kJ 44 6 43 true 7,cG 45 (.bin .gtr .no (.t 44) (.c (.int .i64 0))) 43 true 15,cQ 46 43 45 31,cM 40 46 63]
def uF:Lc:=[cM 48 7 0,cS 49 (.bin .eql .int (.t 48) (.c (.int .u8 0))) 1,cM 47 49 3]
def yw:Lc:=[cM 51 7 0,cS 52 (.bin .lss .no (.t 51) (.c (.int .u8 128))) 1,cM 50 52 3]
def EO:Lc:=[cS 2 (.aJ (.c (.int .u64 0))) 0,cS 3 (.aJ (.c (.int .i64 0))) 1,cS 4 (.aJ (.c (.int .i64 8))) 3]
def yh:Lc:=[cM 53 5 0,cM 54 6 0,cS 55 (.bin .add .no (.t 54) (.c (.int .i64 1))) 2,cM 2 53 1,cM 3 55 15,cS 4 (.aJ (.c (.int .i64 0))) 31]
def Oq:Lc:=[cS 56 (.bin .add .no (.t 10) (.c (.int .i64 1))) 0,cM 10 56 1]
def vM:ag:=(.seq (.region qj) (.seq (.cond (.t 11) .skip (.exit 0)) (.seq (.block 1 (.seq (.region qV) (.seq (.draw KD) (.seq (.seq (.region rK) (.cond (.t 30) (.seq (.region RN) .ret) .skip)) (.seq (.region tJ) (.block 2 (.seq (.block 5 (.block 4 (.seq (.block 3 (.seq (.seq (.seq (.region tI) (.cond (.t 40) (.exit 3) .skip)) (.seq (.seq (.region uF) (.cond (.t 47) (.exit 4) .skip)) (.seq (.region yw) (.cond (.t 50) (.exit 5) .skip)))) (.exit 2))) (.seq (.seq (.region EO) .ret) (.exit 2))))) (.seq (.seq (.region yh) .ret) (.exit 2))))))))) (.region Oq))))
def Of:Lc:=[cS 2 (.aJ (.c (.int .u64 0))) 0,cS 3 (.aJ (.c (.int .i64 0))) 1,cS 4 (.aJ (.c (.int .i64 6))) 3]
def xB:ag:=(.seq (.region Tl) (.seq (.region VW) (.seq (.seq (.region WY) (.block 0 (.loop vM))) (.seq (.region Of) .ret))))
def v7:aA:=⟨57,[.t 2,.t 3,.t 4],true,xB,fun i=>match i with|0=>[10,5,0,9]|_=>[],fun i=>match i with|0=>[]|3=>[]|4=>[6,5]|5=>[6,5]|2=>[5,0,9,10]|1=>[5,0,9,10]|_=>[]⟩
@[simp] theorem qky:v7.body=xB∧v7.results=[.t 2,.t 3,.t 4]∧v7.own=true∧v7.head 0=[10,5,0,9]∧v7.tail 0=[]∧v7.tail 3=[]∧v7.tail 4=[6,5]∧v7.tail 5=[6,5]∧v7.tail 2=[5,0,9,10]∧v7.tail 1=[5,0,9,10]:=⟨rfl,rfl,rfl,rfl,rfl,rfl,rfl,rfl,rfl,rfl⟩
def ah:Nat→Option aA
 |9=>some v9
 |11=>some v11
 |12=>some v12
 |13=>some v13
 |19=>some v19
 |21=>some v21
 |23=>some v23
 |25=>some v25
 |26=>some v26
 |28=>some v28
 |29=>some v29
 |30=>some v30
 |31=>some v31
 |32=>some UC
 |33=>some v33
 |34=>some v34
 |35=>some v35
 |37=>some v37
 |38=>some Is
 |40=>some v40
 |41=>some v41
 |42=>some v42
 |43=>some v43
 |44=>some XX
 |46=>some v46
 |48=>some v48
 |49=>some v49
 |56=>some v56
 |57=>some v57
 |58=>some v58
 |59=>some v59
 |60=>some v60
 |61=>some v61
 |62=>some v62
 |63=>some XY
 |64=>some v64
 |65=>some F9
 |66=>some v66
 |67=>some v67
 |68=>some v68
 |69=>some v69
 |70=>some v70
 |71=>some v71
 |72=>some v72
 |73=>some v73
 |74=>some v74
 |75=>some v75
 |76=>some v76
 |98=>some v98
 |99=>some v99
 |100=>some ZE
 |101=>some B2
 |103=>some YS
 |104=>some Yn
 |105=>some v105
 |106=>some YE
 |107=>some v107
 |108=>some Rw
 |109=>some v109
 |110=>some Zp
 |111=>some RG
 |112=>some Zy
 |113=>some Zu
 |114=>some qau
 |115=>some Yi
 |116=>some Yo
 |117=>some v117
 |118=>some qai
 |119=>some qab
 |120=>some Zh
 |121=>some Hw
 |122=>some Y2
 |123=>some Zk
 |124=>some v124
 |125=>some B0
 |126=>some qak
 |127=>some v127
 |128=>some L2
 |129=>some U9
 |161=>some Yv
 |162=>some v162
 |163=>some Ru
 |164=>some v164
 |165=>some Ci
 |166=>some Wk
 |167=>some v167
 |168=>some v168
 |169=>some Yu
 |170=>some vR
 |171=>some v171
 |172=>some UY
 |173=>some v173
 |174=>some Tu
 |175=>some v175
 |176=>some qaf
 |177=>some S4
 |178=>some Ud
 |179=>some qac
 |180=>some RX
 |181=>some PR
 |182=>some v182
 |183=>some v183
 |184=>some VG
 |185=>some YC
 |186=>some OW
 |187=>some ZC
 |188=>some Y6
 |189=>some tc
 |190=>some Zd
 |191=>some B4
 |192=>some Zf
 |225=>some ZS
 |226=>some v226
 |227=>some v227
 |228=>some v228
 |229=>some v229
 |230=>some v7
 |_=>none
end Go.RE
