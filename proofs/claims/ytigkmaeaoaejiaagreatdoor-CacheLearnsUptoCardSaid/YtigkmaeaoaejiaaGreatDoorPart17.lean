/- errors.As at three targets, on chains of faults: one round of errors.as's loop at a time. Printed by wip/x/genas.py. -/
import Derived.Test.YtigkmaeaoaejiaaGreatDoorProg
import Derived.WalkKit
import Derived.LaidEql
import Derived.Stop.Asserts
import Derived.RowKitTokens
set_option linter.unusedVariables false
set_option linter.unusedSimpArgs false
namespace Go.Proofs.YtigkmaeaoaejiaaGreatDoor
open Go.RowKit Go.Extern.Stop Go.Stop Go.Extern
set_option maxRecDepth 10000
noncomputable def dr:Code:=match Tryz.f160.body with
 |some (.seq _ (.block _ (.loop b)))=>b
 |_=> .skip
set_option linter.defProp false
def uZ:= @run_callFunc_extern Tryz.prog 157 _ (fun args=>ReflectliteValue.unpack (args.getD 0 (.tuple #[]))) Tryz.func157 (by kernel_rfl) (by kernel_rfl) (by kernel_rfl) (by kernel_rfl)
def CM:= @run_callFunc_extern Tryz.prog 158 _ (ReflectliteValue.methodAny (ReflectliteValue.valueError "reflectlite.Value.Type" 0) (fun t _ _ _=>ReflectliteType.toType t)) Tryz.func158 (by kernel_rfl) (by kernel_rfl) (by kernel_rfl) (by kernel_rfl)
def Di:= @run_callFunc_extern Tryz.prog 159 _ (ReflectliteValue.method (ReflectliteValue.valueError "reflectlite.Value.IsNil" 0) ReflectliteValue.isNil) Tryz.func159 (by kernel_rfl) (by kernel_rfl) (by kernel_rfl) (by kernel_rfl)
def rz:= @run_callFunc_extern Tryz.prog 222 _ ReflectliteType.typeOf Tryz.func222 (by kernel_rfl) (by kernel_rfl) (by kernel_rfl) (by kernel_rfl)
def Su:= @run_callFunc_extern Tryz.prog 223 _ (ReflectliteValue.method (ReflectliteValue.valueError "reflectlite.Value.Elem" 0) ReflectliteValue.elem) Tryz.func223 (by kernel_rfl) (by kernel_rfl) (by kernel_rfl) (by kernel_rfl)
def T7:= @run_callFunc_extern Tryz.prog 224 _ ReflectliteValue.set Tryz.func224 (by kernel_rfl) (by kernel_rfl) (by kernel_rfl) (by kernel_rfl)
def Dr:= @run_callFunc_extern Tryz.prog 255 _ (ReflectliteType.abiMethod fun t=>do pure (.int .u8 (←Rtype.kind t))) Tryz.func255 (by kernel_rfl) (by kernel_rfl) (by kernel_rfl) (by kernel_rfl)
def qR:= @run_callFunc_extern Tryz.prog 266 _ (ReflectliteType.relation "AssignableTo" ReflectliteType.assignableTo) Tryz.func266 (by kernel_rfl) (by kernel_rfl) (by kernel_rfl) (by kernel_rfl)
def Dy:= @run_callFunc_extern Tryz.prog 268 _ (ReflectliteType.method ReflectliteType.elem) Tryz.func268 (by kernel_rfl) (by kernel_rfl) (by kernel_rfl) (by kernel_rfl)
def CX:= @run_callFunc_extern Tryz.prog 269 _ (ReflectliteType.relation "Implements" ReflectliteType.implements_) Tryz.func269 (by kernel_rfl) (by kernel_rfl) (by kernel_rfl) (by kernel_rfl)
theorem Tryz.mW(v:Value)(w:World):(Go.method 488 191 v "Unwrap").run Tryz.prog w=.ok (261,v) w:=by kernel_rfl
theorem Tryz.FQ(pb po:Nat)(v:Value)(w:World)(h1:w.cell? ⟨pb,po+1,none⟩=some v):Calls Tryz.prog 261 #[.pointer (some ⟨pb,po,none⟩)] w fun e w' =>e=.returned v∧w' =w:=by
 go_enter Tryz.func261,Tryz.ntmps261
 go_wp2
 go_ret
 exact⟨rfl,rfl⟩
theorem Tryz.qcE(v:Value)(w:World):(ReflectliteType.typeOf #[.iface 45 v]).run Tryz.prog w=.ok (.iface 330 (.agg #[.pointer (some ⟨1,45,none⟩)])) w:=by kernel_rfl
theorem Tryz.qgA(v:Value)(xT:TypeId)(w:World):(Instr.typeAssert (.iface 45 v) xT 335 true).run Tryz.prog w=.ok (.tuple #[.nilIface,.bool false]) w:=run_typeAssert_lacksB Tryz.underlying335 (by kernel_rfl) (by kernel_rfl) v xT w
theorem Tryz.qiA(v:Value)(xT:TypeId)(w:World):(Instr.typeAssert (.iface 45 v) xT 338 true).run Tryz.prog w=.ok (.tuple #[.nilIface,.bool false]) w:=run_typeAssert_lacksB Tryz.underlying338 (by kernel_rfl) (by kernel_rfl) v xT w
theorem Tryz.qif(v:Value)(xT:TypeId)(w:World):(Instr.typeAssert (.iface 45 v) xT 340 true).run Tryz.prog w=.ok (.tuple #[.nilIface,.bool false]) w:=run_typeAssert_lacksB Tryz.underlying340 (by kernel_rfl) (by kernel_rfl) v xT w
theorem Tryz.ZJ(w:World):(ReflectliteType.relation "AssignableTo" ReflectliteType.assignableTo #[.agg #[.pointer (some ⟨1,45,none⟩)],.iface 330 (.agg #[.pointer (some ⟨1,45,none⟩)])]).run Tryz.prog w=.ok (.bool true) w:=by kernel_rfl
theorem Tryz.qah(w:World):(ReflectliteType.relation "AssignableTo" ReflectliteType.assignableTo #[.agg #[.pointer (some ⟨1,45,none⟩)],.iface 330 (.agg #[.pointer (some ⟨1,43,none⟩)])]).run Tryz.prog w=.ok (.bool false) w:=by kernel_rfl
theorem Tryz.V4(w:World):(ReflectliteType.relation "AssignableTo" ReflectliteType.assignableTo #[.agg #[.pointer (some ⟨1,45,none⟩)],.iface 330 (.agg #[.pointer (some ⟨1,191,none⟩)])]).run Tryz.prog w=.ok (.bool false) w:=by kernel_rfl
theorem Tryz.qdY(v:Value)(w:World):(ReflectliteType.typeOf #[.iface 43 v]).run Tryz.prog w=.ok (.iface 330 (.agg #[.pointer (some ⟨1,43,none⟩)])) w:=by kernel_rfl
theorem Tryz.qgV(v:Value)(xT:TypeId)(w:World):(Instr.typeAssert (.iface 43 v) xT 335 true).run Tryz.prog w=.ok (.tuple #[.nilIface,.bool false]) w:=run_typeAssert_lacksB Tryz.underlying335 (by kernel_rfl) (by kernel_rfl) v xT w
theorem Tryz.qgd(v:Value)(xT:TypeId)(w:World):(Instr.typeAssert (.iface 43 v) xT 338 true).run Tryz.prog w=.ok (.tuple #[.nilIface,.bool false]) w:=run_typeAssert_lacksB Tryz.underlying338 (by kernel_rfl) (by kernel_rfl) v xT w
theorem Tryz.qhw(v:Value)(xT:TypeId)(w:World):(Instr.typeAssert (.iface 43 v) xT 340 true).run Tryz.prog w=.ok (.tuple #[.nilIface,.bool false]) w:=run_typeAssert_lacksB Tryz.underlying340 (by kernel_rfl) (by kernel_rfl) v xT w
theorem Tryz.YU(w:World):(ReflectliteType.relation "AssignableTo" ReflectliteType.assignableTo #[.agg #[.pointer (some ⟨1,43,none⟩)],.iface 330 (.agg #[.pointer (some ⟨1,45,none⟩)])]).run Tryz.prog w=.ok (.bool false) w:=by kernel_rfl
theorem Tryz.Yh(w:World):(ReflectliteType.relation "AssignableTo" ReflectliteType.assignableTo #[.agg #[.pointer (some ⟨1,43,none⟩)],.iface 330 (.agg #[.pointer (some ⟨1,43,none⟩)])]).run Tryz.prog w=.ok (.bool true) w:=by kernel_rfl
theorem Tryz.UW(w:World):(ReflectliteType.relation "AssignableTo" ReflectliteType.assignableTo #[.agg #[.pointer (some ⟨1,43,none⟩)],.iface 330 (.agg #[.pointer (some ⟨1,191,none⟩)])]).run Tryz.prog w=.ok (.bool false) w:=by kernel_rfl
theorem Tryz.G5(v:Value)(w:World):(ReflectliteType.typeOf #[.iface 191 v]).run Tryz.prog w=.ok (.iface 330 (.agg #[.pointer (some ⟨1,191,none⟩)])) w:=by kernel_rfl
theorem Tryz.NG(v:Value)(xT:TypeId)(w:World):(Instr.typeAssert (.iface 191 v) xT 335 true).run Tryz.prog w=.ok (.tuple #[.nilIface,.bool false]) w:=run_typeAssert_lacksB Tryz.underlying335 (by kernel_rfl) (by kernel_rfl) v xT w
theorem Tryz.Mv(v:Value)(xT:TypeId)(w:World):(Instr.typeAssert (.iface 191 v) xT 338 true).run Tryz.prog w=.ok (.tuple #[.iface 191 v,.bool true]) w:=run_typeAssert_hasB Tryz.underlying338 (by kernel_rfl) v xT w
theorem Tryz.H7(w:World):(ReflectliteType.relation "AssignableTo" ReflectliteType.assignableTo #[.agg #[.pointer (some ⟨1,191,none⟩)],.iface 330 (.agg #[.pointer (some ⟨1,45,none⟩)])]).run Tryz.prog w=.ok (.bool false) w:=by kernel_rfl
theorem Tryz.HO(w:World):(ReflectliteType.relation "AssignableTo" ReflectliteType.assignableTo #[.agg #[.pointer (some ⟨1,191,none⟩)],.iface 330 (.agg #[.pointer (some ⟨1,43,none⟩)])]).run Tryz.prog w=.ok (.bool false) w:=by kernel_rfl
theorem Tryz.O9(w:World):(ReflectliteType.relation "AssignableTo" ReflectliteType.assignableTo #[.agg #[.pointer (some ⟨1,191,none⟩)],.iface 330 (.agg #[.pointer (some ⟨1,191,none⟩)])]).run Tryz.prog w=.ok (.bool true) w:=by kernel_rfl
theorem Tryz.lD(h:Value)(w:World):(Go.method 488 330 (.agg #[h]) "Kind").run Tryz.prog w=.ok (255,h) w:=by kernel_rfl
theorem Tryz.lN(h:Value)(w:World):(Go.method 488 330 (.agg #[h]) "Elem").run Tryz.prog w=.ok (268,.agg #[h]) w:=by kernel_rfl
theorem Tryz.eX(h:Value)(w:World):(Go.method 488 330 (.agg #[h]) "Implements").run Tryz.prog w=.ok (269,.agg #[h]) w:=by kernel_rfl
theorem Tryz.bF(h:Value)(w:World):(Go.method 488 330 (.agg #[h]) "AssignableTo").run Tryz.prog w=.ok (266,.agg #[h]) w:=by kernel_rfl
theorem rlm(z:Sem Value)(f:TypeId→Addr→Nat→Nat→Sem Value)(v:Value):
  ReflectliteValue.method z f #[v]=(do match←ReflectliteValue.parts v with|none=>z|some (t,a,fl)=>f t a fl (fl % 32)):=rfl
theorem rls(v x:Value):ReflectliteValue.set #[v,x]=(do
  let(some (dst,a,fl),some (src,b,_)):=(←ReflectliteValue.parts v,←ReflectliteValue.parts x)
   |unsupported (.noEntry "extern/(internal/reflectlite.Value).Set.zeroValue")
  if fl / ReflectliteValue.flagAddr % 2==0 then unsupported (.noEntry "extern/(internal/reflectlite.Value).Set.unaddressable")
  let val←loadVar src b
  if←Rtype.directlyAssignable dst src then storeVar dst a val
  else if←Rtype.implements dst src then
   if(←Rtype.kind src)==20 then
    match val with
    | .nilIface => unsupported (.noEntry "extern/reflectlite: a nil value of one interface type handed on as a value of another")
    |_=>storeVar dst a val
   else storeVar dst a (.iface src val)
  else panicString ("reflectlite.Set: value of type " ++ (← Rtype.spelt src) ++ " is not assignable to type " ++ (← Rtype.spelt dst))
  pure (.tuple #[])):=rfl
theorem Tryz.xP(t:Addr)(w:World):(ReflectliteValue.unpack (.iface 187 (.pointer (some t)))).run Tryz.prog w
  =.ok (.agg #[.pointer (some ⟨1,187,none⟩),.pointer (some ⟨w.heap.size,0,none⟩),.int .u64 150]) (w.alloc (.cells #[.pointer (some t)] 187)):=by kernel_rfl
theorem Tryz.Hi(a:Addr)(w:World):(ReflectliteValue.methodAny (ReflectliteValue.valueError "reflectlite.Value.Type" 0) (fun t _ _ _=>ReflectliteType.toType t) #[.agg #[.pointer (some ⟨1,187,none⟩),.pointer (some a),.int .u64 150]]).run Tryz.prog w
  =.ok (.iface 330 (.agg #[.pointer (some ⟨1,187,none⟩)])) w:=by kernel_rfl
theorem Tryz.Gr(w:World):((ReflectliteType.abiMethod fun t=>(fun a:Nat=>Value.int IntKind.u8 (a:Int))<$>Rtype.kind t) #[.pointer (some ⟨1,187,none⟩)]).run Tryz.prog w=.ok (.int .u8 22) w:=by kernel_rfl
theorem Tryz.Mm(w:World):((ReflectliteType.abiMethod fun t=>(fun a:Nat=>Value.int IntKind.u8 (a:Int))<$>Rtype.kind t) #[.pointer (some ⟨1,45,none⟩)]).run Tryz.prog w=.ok (.int .u8 25) w:=by kernel_rfl
theorem Tryz.CD(a:Addr)(w:World):(ReflectliteValue.parts (.agg #[.pointer (some ⟨1,187,none⟩),.pointer (some a),.int .u64 150])).run Tryz.prog w=.ok (some (187,a,150)) w:=by kernel_rfl
theorem Tryz.Db(a p:Addr)(W:World)(ha:W.cell? a=some (.pointer (some p))):
  (ReflectliteValue.method (ReflectliteValue.valueError "reflectlite.Value.IsNil" 0) ReflectliteValue.isNil #[.agg #[.pointer (some ⟨1,187,none⟩),.pointer (some a),.int .u64 150]]).run Tryz.prog W=.ok (.bool false) W:=by
 rw[rlm];simp only[Sem.run_bind,Tryz.CD,Result.andThen];simp[ReflectliteValue.isNil,loadVar,isAgg,underlying,Tryz.underlying187,ha,Result.andThen]
theorem Tryz.CY(w:World):(ReflectliteType.method ReflectliteType.elem #[.agg #[.pointer (some ⟨1,187,none⟩)]]).run Tryz.prog w=.ok (.iface 330 (.agg #[.pointer (some ⟨1,45,none⟩)])) w:=by kernel_rfl
theorem Tryz.vB(w:World):(ReflectliteType.relation "Implements" ReflectliteType.implements_ #[.agg #[.pointer (some ⟨1,45,none⟩)],.iface 330 (.agg #[.pointer (some ⟨1,39,none⟩)])]).run Tryz.prog w=.ok (.bool true) w:=by kernel_rfl
theorem Tryz.Qd(w:World):(Rtype.elem? 187).run Tryz.prog w=.ok (some 45) w:=by kernel_rfl
theorem Tryz.qmz(p:Addr)(w:World):(ReflectliteValue.mk 45 p ReflectliteValue.flagAddr).run Tryz.prog w=.ok (.agg #[.pointer (some ⟨1,45,none⟩),.pointer (some p),.int .u64 409]) w:=by kernel_rfl
theorem Tryz.SN(a p:Addr)(W:World)(ha:W.cell? a=some (.pointer (some p))):
  (ReflectliteValue.method (ReflectliteValue.valueError "reflectlite.Value.Elem" 0) ReflectliteValue.elem #[.agg #[.pointer (some ⟨1,187,none⟩),.pointer (some a),.int .u64 150]]).run Tryz.prog W
   =.ok (.agg #[.pointer (some ⟨1,45,none⟩),.pointer (some p),.int .u64 409]) W:=by
 rw[rlm];simp only[Sem.run_bind,Tryz.CD,Result.andThen];simp[ReflectliteValue.elem,loadVar,isAgg,underlying,Tryz.underlying187,ha,Result.andThen,Tryz.Qd,Tryz.qmz]
theorem Tryz.Ur(a:Addr)(w:World):(ReflectliteValue.parts (.agg #[.pointer (some ⟨1,45,none⟩),.pointer (some a),.int .u64 409])).run Tryz.prog w=.ok (some (45,a,409)) w:=by kernel_rfl
theorem Tryz.Yw(a:Addr)(w:World):(ReflectliteValue.parts (.agg #[.pointer (some ⟨1,45,none⟩),.pointer (some a),.int .u64 153])).run Tryz.prog w=.ok (some (45,a,153)) w:=by kernel_rfl
theorem Tryz.WR(w:World):(Rtype.directlyAssignable 45 45).run Tryz.prog w=.ok true w:=by kernel_rfl
theorem Tryz.JA(x0 x1:Value)(w:World):(ReflectliteValue.unpack (.iface 45 (.agg #[x0,x1]))).run Tryz.prog w
  =.ok (.agg #[.pointer (some ⟨1,45,none⟩),.pointer (some ⟨w.heap.size,0,none⟩),.int .u64 153]) (w.alloc (.cells #[x0,x1] 45)):=by kernel_rfl
theorem Tryz.xJ(t:Addr)(w:World):(ReflectliteValue.unpack (.iface 197 (.pointer (some t)))).run Tryz.prog w
  =.ok (.agg #[.pointer (some ⟨1,197,none⟩),.pointer (some ⟨w.heap.size,0,none⟩),.int .u64 150]) (w.alloc (.cells #[.pointer (some t)] 197)):=by kernel_rfl
theorem Tryz.Gv(a:Addr)(w:World):(ReflectliteValue.methodAny (ReflectliteValue.valueError "reflectlite.Value.Type" 0) (fun t _ _ _=>ReflectliteType.toType t) #[.agg #[.pointer (some ⟨1,197,none⟩),.pointer (some a),.int .u64 150]]).run Tryz.prog w
  =.ok (.iface 330 (.agg #[.pointer (some ⟨1,197,none⟩)])) w:=by kernel_rfl
theorem Tryz.Ib(w:World):((ReflectliteType.abiMethod fun t=>(fun a:Nat=>Value.int IntKind.u8 (a:Int))<$>Rtype.kind t) #[.pointer (some ⟨1,197,none⟩)]).run Tryz.prog w=.ok (.int .u8 22) w:=by kernel_rfl
theorem Tryz.N9(w:World):((ReflectliteType.abiMethod fun t=>(fun a:Nat=>Value.int IntKind.u8 (a:Int))<$>Rtype.kind t) #[.pointer (some ⟨1,43,none⟩)]).run Tryz.prog w=.ok (.int .u8 2) w:=by kernel_rfl
theorem Tryz.C9(a:Addr)(w:World):(ReflectliteValue.parts (.agg #[.pointer (some ⟨1,197,none⟩),.pointer (some a),.int .u64 150])).run Tryz.prog w=.ok (some (197,a,150)) w:=by kernel_rfl
theorem Tryz.C0(a p:Addr)(W:World)(ha:W.cell? a=some (.pointer (some p))):
  (ReflectliteValue.method (ReflectliteValue.valueError "reflectlite.Value.IsNil" 0) ReflectliteValue.isNil #[.agg #[.pointer (some ⟨1,197,none⟩),.pointer (some a),.int .u64 150]]).run Tryz.prog W=.ok (.bool false) W:=by
 rw[rlm];simp only[Sem.run_bind,Tryz.C9,Result.andThen];simp[ReflectliteValue.isNil,loadVar,isAgg,underlying,Tryz.underlying197,ha,Result.andThen]
theorem Tryz.Dd(w:World):(ReflectliteType.method ReflectliteType.elem #[.agg #[.pointer (some ⟨1,197,none⟩)]]).run Tryz.prog w=.ok (.iface 330 (.agg #[.pointer (some ⟨1,43,none⟩)])) w:=by kernel_rfl
theorem Tryz.uX(w:World):(ReflectliteType.relation "Implements" ReflectliteType.implements_ #[.agg #[.pointer (some ⟨1,43,none⟩)],.iface 330 (.agg #[.pointer (some ⟨1,39,none⟩)])]).run Tryz.prog w=.ok (.bool true) w:=by kernel_rfl
theorem Tryz.PZ(w:World):(Rtype.elem? 197).run Tryz.prog w=.ok (some 43) w:=by kernel_rfl
theorem Tryz.qlt(p:Addr)(w:World):(ReflectliteValue.mk 43 p ReflectliteValue.flagAddr).run Tryz.prog w=.ok (.agg #[.pointer (some ⟨1,43,none⟩),.pointer (some p),.int .u64 386]) w:=by kernel_rfl
theorem Tryz.Sv(a p:Addr)(W:World)(ha:W.cell? a=some (.pointer (some p))):
  (ReflectliteValue.method (ReflectliteValue.valueError "reflectlite.Value.Elem" 0) ReflectliteValue.elem #[.agg #[.pointer (some ⟨1,197,none⟩),.pointer (some a),.int .u64 150]]).run Tryz.prog W
   =.ok (.agg #[.pointer (some ⟨1,43,none⟩),.pointer (some p),.int .u64 386]) W:=by
 rw[rlm];simp only[Sem.run_bind,Tryz.C9,Result.andThen];simp[ReflectliteValue.elem,loadVar,isAgg,underlying,Tryz.underlying197,ha,Result.andThen,Tryz.PZ,Tryz.qlt]
theorem Tryz.Ra(a:Addr)(w:World):(ReflectliteValue.parts (.agg #[.pointer (some ⟨1,43,none⟩),.pointer (some a),.int .u64 386])).run Tryz.prog w=.ok (some (43,a,386)) w:=by kernel_rfl
theorem Tryz.qat(a:Addr)(w:World):(ReflectliteValue.parts (.agg #[.pointer (some ⟨1,43,none⟩),.pointer (some a),.int .u64 130])).run Tryz.prog w=.ok (some (43,a,130)) w:=by kernel_rfl
theorem Tryz.QY(w:World):(Rtype.directlyAssignable 43 43).run Tryz.prog w=.ok true w:=by kernel_rfl
theorem Tryz.LZ(n:Int)(w:World):(ReflectliteValue.unpack (.iface 43 (.int .i64 n))).run Tryz.prog w
  =.ok (.agg #[.pointer (some ⟨1,43,none⟩),.pointer (some ⟨w.heap.size,0,none⟩),.int .u64 130]) (w.alloc (.cells #[.int .i64 n] 43)):=by kernel_rfl
theorem Tryz.qhH(ta b:Addr)(n:Int)(old:Value)(W:World)(hb:W.cell? b=some (.int .i64 n))(ht:W.cell? ta=some old)(hf:W.frozen? ta=false):
  (ReflectliteValue.set #[.agg #[.pointer (some ⟨1,43,none⟩),.pointer (some ta),.int .u64 386],.agg #[.pointer (some ⟨1,43,none⟩),.pointer (some b),.int .u64 130]]).run Tryz.prog W
   =.ok (.tuple #[]) (W.setCell ta (.int .i64 n)):=by
 rw[rls];simp only[Sem.run_bind,Tryz.Ra,Tryz.qat,Result.andThen];simp[ReflectliteValue.flagAddr,loadVar,isAgg,underlying,Tryz.underlying43,hb,Result.andThen,Tryz.QY,storeVar,Value.cells,storeCells,Addr.add];rw[run_store Tryz.prog W ta _ _ (by rfl)];simp[ht,hf]
theorem Tryz.xF(t:Addr)(w:World):(ReflectliteValue.unpack (.iface 192 (.pointer (some t)))).run Tryz.prog w
  =.ok (.agg #[.pointer (some ⟨1,192,none⟩),.pointer (some ⟨w.heap.size,0,none⟩),.int .u64 150]) (w.alloc (.cells #[.pointer (some t)] 192)):=by kernel_rfl
theorem Tryz.G6(a:Addr)(w:World):(ReflectliteValue.methodAny (ReflectliteValue.valueError "reflectlite.Value.Type" 0) (fun t _ _ _=>ReflectliteType.toType t) #[.agg #[.pointer (some ⟨1,192,none⟩),.pointer (some a),.int .u64 150]]).run Tryz.prog w
  =.ok (.iface 330 (.agg #[.pointer (some ⟨1,192,none⟩)])) w:=by kernel_rfl
theorem Tryz.Gi(w:World):((ReflectliteType.abiMethod fun t=>(fun a:Nat=>Value.int IntKind.u8 (a:Int))<$>Rtype.kind t) #[.pointer (some ⟨1,192,none⟩)]).run Tryz.prog w=.ok (.int .u8 22) w:=by kernel_rfl
theorem Tryz.HJ(w:World):((ReflectliteType.abiMethod fun t=>(fun a:Nat=>Value.int IntKind.u8 (a:Int))<$>Rtype.kind t) #[.pointer (some ⟨1,191,none⟩)]).run Tryz.prog w=.ok (.int .u8 22) w:=by kernel_rfl
theorem Tryz.Dj(a:Addr)(w:World):(ReflectliteValue.parts (.agg #[.pointer (some ⟨1,192,none⟩),.pointer (some a),.int .u64 150])).run Tryz.prog w=.ok (some (192,a,150)) w:=by kernel_rfl
theorem Tryz.CA(a p:Addr)(W:World)(ha:W.cell? a=some (.pointer (some p))):
  (ReflectliteValue.method (ReflectliteValue.valueError "reflectlite.Value.IsNil" 0) ReflectliteValue.isNil #[.agg #[.pointer (some ⟨1,192,none⟩),.pointer (some a),.int .u64 150]]).run Tryz.prog W=.ok (.bool false) W:=by
 rw[rlm];simp only[Sem.run_bind,Tryz.Dj,Result.andThen];simp[ReflectliteValue.isNil,loadVar,isAgg,underlying,Tryz.underlying192,ha,Result.andThen]
theorem Tryz.Dc(w:World):(ReflectliteType.method ReflectliteType.elem #[.agg #[.pointer (some ⟨1,192,none⟩)]]).run Tryz.prog w=.ok (.iface 330 (.agg #[.pointer (some ⟨1,191,none⟩)])) w:=by kernel_rfl
theorem Tryz.tB(w:World):(ReflectliteType.relation "Implements" ReflectliteType.implements_ #[.agg #[.pointer (some ⟨1,191,none⟩)],.iface 330 (.agg #[.pointer (some ⟨1,39,none⟩)])]).run Tryz.prog w=.ok (.bool true) w:=by kernel_rfl
theorem Tryz.OX(w:World):(Rtype.elem? 192).run Tryz.prog w=.ok (some 191) w:=by kernel_rfl
theorem Tryz.qiE(p:Addr)(w:World):(ReflectliteValue.mk 191 p ReflectliteValue.flagAddr).run Tryz.prog w=.ok (.agg #[.pointer (some ⟨1,191,none⟩),.pointer (some p),.int .u64 406]) w:=by kernel_rfl
theorem Tryz.SO(a p:Addr)(W:World)(ha:W.cell? a=some (.pointer (some p))):
  (ReflectliteValue.method (ReflectliteValue.valueError "reflectlite.Value.Elem" 0) ReflectliteValue.elem #[.agg #[.pointer (some ⟨1,192,none⟩),.pointer (some a),.int .u64 150]]).run Tryz.prog W
   =.ok (.agg #[.pointer (some ⟨1,191,none⟩),.pointer (some p),.int .u64 406]) W:=by
 rw[rlm];simp only[Sem.run_bind,Tryz.Dj,Result.andThen];simp[ReflectliteValue.elem,loadVar,isAgg,underlying,Tryz.underlying192,ha,Result.andThen,Tryz.OX,Tryz.qiE]
theorem Tryz.Po(a:Addr)(w:World):(ReflectliteValue.parts (.agg #[.pointer (some ⟨1,191,none⟩),.pointer (some a),.int .u64 406])).run Tryz.prog w=.ok (some (191,a,406)) w:=by kernel_rfl
theorem Tryz.Vy(a:Addr)(w:World):(ReflectliteValue.parts (.agg #[.pointer (some ⟨1,191,none⟩),.pointer (some a),.int .u64 150])).run Tryz.prog w=.ok (some (191,a,150)) w:=by kernel_rfl
theorem Tryz.P4(w:World):(Rtype.directlyAssignable 191 191).run Tryz.prog w=.ok true w:=by kernel_rfl
theorem Tryz.Ir(e:Addr)(w:World):(ReflectliteValue.unpack (.iface 191 (.pointer (some e)))).run Tryz.prog w
  =.ok (.agg #[.pointer (some ⟨1,191,none⟩),.pointer (some ⟨w.heap.size,0,none⟩),.int .u64 150]) (w.alloc (.cells #[.pointer (some e)] 191)):=by kernel_rfl
theorem Tryz.qd2(ta b:Addr)(e:Addr)(old:Value)(W:World)(hb:W.cell? b=some (.pointer (some e)))(ht:W.cell? ta=some old)(hf:W.frozen? ta=false):
  (ReflectliteValue.set #[.agg #[.pointer (some ⟨1,191,none⟩),.pointer (some ta),.int .u64 406],.agg #[.pointer (some ⟨1,191,none⟩),.pointer (some b),.int .u64 150]]).run Tryz.prog W
   =.ok (.tuple #[]) (W.setCell ta (.pointer (some e))):=by
 rw[rls];simp only[Sem.run_bind,Tryz.Po,Tryz.Vy,Result.andThen];simp[ReflectliteValue.flagAddr,loadVar,isAgg,underlying,Tryz.underlying191,hb,Result.andThen,Tryz.P4,storeVar,Value.cells,storeCells,Addr.add];rw[run_store Tryz.prog W ta _ _ (by rfl)];simp[ht,hf]
set_option maxHeartbeats 4000000 in
theorem Pk(v b:Value)(t:Addr)(w:World)(Q:Exit→Act→World→Prop)(j2 j4 j5 j7 j8 j9 j10 j11 j12 j13 j14 j15 j16 j17 j18 j19 j20 j21 j22 j23 j24 j25 j26 j27 j28 j29 j30 j31 j32 j33 j34 j35 j36 j37 j38 j39 j40 j41 j42 j43 j44 j45 j46 j47 j48 j49 j50 j51 j52 j53 j54 j55 j56 j57 j58 j59 j60 j61:Value)
  (hQ:∀ a:Act,a.tmps[8]? =some (.bool false)→a.defers=[]→Q .ret a w):
  Code.rounds Tryz.prog dr Q 1 ⟨#[.iface 43 v,.iface 187 (.pointer (some t)),j2,.iface 330 (.agg #[.pointer (some ⟨1,45,none⟩)]),j4,j5,b,j7,j8,j9,j10,j11,j12,j13,j14,j15,j16,j17,j18,j19,j20,j21,j22,j23,j24,j25,j26,j27,j28,j29,j30,j31,j32,j33,j34,j35,j36,j37,j38,j39,j40,j41,j42,j43,j44,j45,j46,j47,j48,j49,j50,j51,j52,j53,j54,j55,j56,j57,j58,j59,j60,j61],[]⟩ w:=by
 rw[rounds_succ];simp only[dr,Tryz.f160];have h10:=rz;have h35:=qR;have mA:=Tryz.bF;have tO:=Tryz.qdY;have nA:=Tryz.qgV;have nU:=Tryz.qgd;have nV:=Tryz.qhw;have aN:=Tryz.YU
 go_wp2
 exact hQ _ rfl rfl
set_option maxHeartbeats 4000000 in
theorem qdf(pb po:Nat)(b:Value)(t:Addr)(w:World)(Q:Exit→Act→World→Prop)(j2 j4 j5 j7 j8 j9 j10 j11 j12 j13 j14 j15 j16 j17 j18 j19 j20 j21 j22 j23 j24 j25 j26 j27 j28 j29 j30 j31 j32 j33 j34 j35 j36 j37 j38 j39 j40 j41 j42 j43 j44 j45 j46 j47 j48 j49 j50 j51 j52 j53 j54 j55 j56 j57 j58 j59 j60 j61:Value)(hp:w.cell? ⟨pb,po+1,none⟩=some .nilIface)
  (hQ:∀ a:Act,a.tmps[8]? =some (.bool false)→a.defers=[]→Q .ret a w):
  Code.rounds Tryz.prog dr Q 1 ⟨#[.iface 191 (.pointer (some ⟨pb,po,none⟩)),.iface 187 (.pointer (some t)),j2,.iface 330 (.agg #[.pointer (some ⟨1,45,none⟩)]),j4,j5,b,j7,j8,j9,j10,j11,j12,j13,j14,j15,j16,j17,j18,j19,j20,j21,j22,j23,j24,j25,j26,j27,j28,j29,j30,j31,j32,j33,j34,j35,j36,j37,j38,j39,j40,j41,j42,j43,j44,j45,j46,j47,j48,j49,j50,j51,j52,j53,j54,j55,j56,j57,j58,j59,j60,j61],[]⟩ w:=by
 rw[rounds_succ];simp only[dr,Tryz.f160];have h10:=rz;have h35:=qR;have mA:=Tryz.bF;have tO:=Tryz.G5;have nA:=Tryz.NG;have hU:=Tryz.Mv;have aN:=Tryz.H7;have mU:=Tryz.mW
 go_wp2_with (go_at_call 261;refine(Tryz.FQ pb po _ w hp).mono ?_;rintro e w' ⟨rfl,rfl⟩)
 exact hQ _ rfl rfl
set_option maxHeartbeats 4000000 in
theorem Nk(pb po:Nat)(t' :TypeId)(v' :Value)(b:Value)(t:Addr)(w:World)(Q:Exit→Act→World→Prop)(j2 j4 j5 j7 j8 j9 j10 j11 j12 j13 j14 j15 j16 j17 j18 j19 j20 j21 j22 j23 j24 j25 j26 j27 j28 j29 j30 j31 j32 j33 j34 j35 j36 j37 j38 j39 j40 j41 j42 j43 j44 j45 j46 j47 j48 j49 j50 j51 j52 j53 j54 j55 j56 j57 j58 j59 j60 j61:Value)(hp:w.cell? ⟨pb,po+1,none⟩=some (.iface t' v'))
  (k:Nat) (hk:∀ j2 j4 j5 j7 j8 j9 j10 j11 j12 j13 j14 j15 j16 j17 j18 j19 j20 j21 j22 j23 j24 j25 j26 j27 j28 j29 j30 j31 j32 j33 j34 j35 j36 j37 j38 j39 j40 j41 j42 j43 j44 j45 j46 j47 j48 j49 j50 j51 j52 j53 j54 j55 j56 j57 j58 j59 j60 j61:Value,Code.rounds Tryz.prog dr Q k ⟨#[.iface t' v',.iface 187 (.pointer (some t)),j2,.iface 330 (.agg #[.pointer (some ⟨1,45,none⟩)]),j4,j5,b,j7,j8,j9,j10,j11,j12,j13,j14,j15,j16,j17,j18,j19,j20,j21,j22,j23,j24,j25,j26,j27,j28,j29,j30,j31,j32,j33,j34,j35,j36,j37,j38,j39,j40,j41,j42,j43,j44,j45,j46,j47,j48,j49,j50,j51,j52,j53,j54,j55,j56,j57,j58,j59,j60,j61],[]⟩ w):
  Code.rounds Tryz.prog dr Q (k+1) ⟨#[.iface 191 (.pointer (some ⟨pb,po,none⟩)),.iface 187 (.pointer (some t)),j2,.iface 330 (.agg #[.pointer (some ⟨1,45,none⟩)]),j4,j5,b,j7,j8,j9,j10,j11,j12,j13,j14,j15,j16,j17,j18,j19,j20,j21,j22,j23,j24,j25,j26,j27,j28,j29,j30,j31,j32,j33,j34,j35,j36,j37,j38,j39,j40,j41,j42,j43,j44,j45,j46,j47,j48,j49,j50,j51,j52,j53,j54,j55,j56,j57,j58,j59,j60,j61],[]⟩ w:=by
 rw[rounds_succ];simp only[dr,Tryz.f160];have h10:=rz;have h35:=qR;have mA:=Tryz.bF;have tO:=Tryz.G5;have nA:=Tryz.NG;have hU:=Tryz.Mv;have aN:=Tryz.H7;have mU:=Tryz.mW
 go_wp2_with (go_at_call 261;refine(Tryz.FQ pb po _ w hp).mono ?_;rintro e w' ⟨rfl,rfl⟩)
 exact hk ..
set_option maxHeartbeats 4000000 in
theorem PD(v b:Value)(t:Addr)(w:World)(Q:Exit→Act→World→Prop)(j2 j4 j5 j7 j8 j9 j10 j11 j12 j13 j14 j15 j16 j17 j18 j19 j20 j21 j22 j23 j24 j25 j26 j27 j28 j29 j30 j31 j32 j33 j34 j35 j36 j37 j38 j39 j40 j41 j42 j43 j44 j45 j46 j47 j48 j49 j50 j51 j52 j53 j54 j55 j56 j57 j58 j59 j60 j61:Value)
  (hQ:∀ a:Act,a.tmps[8]? =some (.bool false)→a.defers=[]→Q .ret a w):
  Code.rounds Tryz.prog dr Q 1 ⟨#[.iface 45 v,.iface 197 (.pointer (some t)),j2,.iface 330 (.agg #[.pointer (some ⟨1,43,none⟩)]),j4,j5,b,j7,j8,j9,j10,j11,j12,j13,j14,j15,j16,j17,j18,j19,j20,j21,j22,j23,j24,j25,j26,j27,j28,j29,j30,j31,j32,j33,j34,j35,j36,j37,j38,j39,j40,j41,j42,j43,j44,j45,j46,j47,j48,j49,j50,j51,j52,j53,j54,j55,j56,j57,j58,j59,j60,j61],[]⟩ w:=by
 rw[rounds_succ];simp only[dr,Tryz.f160];have h10:=rz;have h35:=qR;have mA:=Tryz.bF;have tO:=Tryz.qcE;have nA:=Tryz.qgA;have nU:=Tryz.qiA;have nV:=Tryz.qif;have aN:=Tryz.qah
 go_wp2
 exact hQ _ rfl rfl
set_option maxHeartbeats 4000000 in
theorem qcL(pb po:Nat)(b:Value)(t:Addr)(w:World)(Q:Exit→Act→World→Prop)(j2 j4 j5 j7 j8 j9 j10 j11 j12 j13 j14 j15 j16 j17 j18 j19 j20 j21 j22 j23 j24 j25 j26 j27 j28 j29 j30 j31 j32 j33 j34 j35 j36 j37 j38 j39 j40 j41 j42 j43 j44 j45 j46 j47 j48 j49 j50 j51 j52 j53 j54 j55 j56 j57 j58 j59 j60 j61:Value)(hp:w.cell? ⟨pb,po+1,none⟩=some .nilIface)
  (hQ:∀ a:Act,a.tmps[8]? =some (.bool false)→a.defers=[]→Q .ret a w):
  Code.rounds Tryz.prog dr Q 1 ⟨#[.iface 191 (.pointer (some ⟨pb,po,none⟩)),.iface 197 (.pointer (some t)),j2,.iface 330 (.agg #[.pointer (some ⟨1,43,none⟩)]),j4,j5,b,j7,j8,j9,j10,j11,j12,j13,j14,j15,j16,j17,j18,j19,j20,j21,j22,j23,j24,j25,j26,j27,j28,j29,j30,j31,j32,j33,j34,j35,j36,j37,j38,j39,j40,j41,j42,j43,j44,j45,j46,j47,j48,j49,j50,j51,j52,j53,j54,j55,j56,j57,j58,j59,j60,j61],[]⟩ w:=by
 rw[rounds_succ];simp only[dr,Tryz.f160];have h10:=rz;have h35:=qR;have mA:=Tryz.bF;have tO:=Tryz.G5;have nA:=Tryz.NG;have hU:=Tryz.Mv;have aN:=Tryz.HO;have mU:=Tryz.mW
 go_wp2_with (go_at_call 261;refine(Tryz.FQ pb po _ w hp).mono ?_;rintro e w' ⟨rfl,rfl⟩)
 exact hQ _ rfl rfl
set_option maxHeartbeats 4000000 in
theorem MG(pb po:Nat)(t' :TypeId)(v' :Value)(b:Value)(t:Addr)(w:World)(Q:Exit→Act→World→Prop)(j2 j4 j5 j7 j8 j9 j10 j11 j12 j13 j14 j15 j16 j17 j18 j19 j20 j21 j22 j23 j24 j25 j26 j27 j28 j29 j30 j31 j32 j33 j34 j35 j36 j37 j38 j39 j40 j41 j42 j43 j44 j45 j46 j47 j48 j49 j50 j51 j52 j53 j54 j55 j56 j57 j58 j59 j60 j61:Value)(hp:w.cell? ⟨pb,po+1,none⟩=some (.iface t' v'))
  (k:Nat) (hk:∀ j2 j4 j5 j7 j8 j9 j10 j11 j12 j13 j14 j15 j16 j17 j18 j19 j20 j21 j22 j23 j24 j25 j26 j27 j28 j29 j30 j31 j32 j33 j34 j35 j36 j37 j38 j39 j40 j41 j42 j43 j44 j45 j46 j47 j48 j49 j50 j51 j52 j53 j54 j55 j56 j57 j58 j59 j60 j61:Value,Code.rounds Tryz.prog dr Q k ⟨#[.iface t' v',.iface 197 (.pointer (some t)),j2,.iface 330 (.agg #[.pointer (some ⟨1,43,none⟩)]),j4,j5,b,j7,j8,j9,j10,j11,j12,j13,j14,j15,j16,j17,j18,j19,j20,j21,j22,j23,j24,j25,j26,j27,j28,j29,j30,j31,j32,j33,j34,j35,j36,j37,j38,j39,j40,j41,j42,j43,j44,j45,j46,j47,j48,j49,j50,j51,j52,j53,j54,j55,j56,j57,j58,j59,j60,j61],[]⟩ w):
  Code.rounds Tryz.prog dr Q (k+1) ⟨#[.iface 191 (.pointer (some ⟨pb,po,none⟩)),.iface 197 (.pointer (some t)),j2,.iface 330 (.agg #[.pointer (some ⟨1,43,none⟩)]),j4,j5,b,j7,j8,j9,j10,j11,j12,j13,j14,j15,j16,j17,j18,j19,j20,j21,j22,j23,j24,j25,j26,j27,j28,j29,j30,j31,j32,j33,j34,j35,j36,j37,j38,j39,j40,j41,j42,j43,j44,j45,j46,j47,j48,j49,j50,j51,j52,j53,j54,j55,j56,j57,j58,j59,j60,j61],[]⟩ w:=by
 rw[rounds_succ];simp only[dr,Tryz.f160];have h10:=rz;have h35:=qR;have mA:=Tryz.bF;have tO:=Tryz.G5;have nA:=Tryz.NG;have hU:=Tryz.Mv;have aN:=Tryz.HO;have mU:=Tryz.mW
 go_wp2_with (go_at_call 261;refine(Tryz.FQ pb po _ w hp).mono ?_;rintro e w' ⟨rfl,rfl⟩)
 exact hk ..
set_option maxHeartbeats 4000000 in
theorem Lr(v b:Value)(t:Addr)(w:World)(Q:Exit→Act→World→Prop)(j2 j4 j5 j7 j8 j9 j10 j11 j12 j13 j14 j15 j16 j17 j18 j19 j20 j21 j22 j23 j24 j25 j26 j27 j28 j29 j30 j31 j32 j33 j34 j35 j36 j37 j38 j39 j40 j41 j42 j43 j44 j45 j46 j47 j48 j49 j50 j51 j52 j53 j54 j55 j56 j57 j58 j59 j60 j61:Value)
  (hQ:∀ a:Act,a.tmps[8]? =some (.bool false)→a.defers=[]→Q .ret a w):
  Code.rounds Tryz.prog dr Q 1 ⟨#[.iface 45 v,.iface 192 (.pointer (some t)),j2,.iface 330 (.agg #[.pointer (some ⟨1,191,none⟩)]),j4,j5,b,j7,j8,j9,j10,j11,j12,j13,j14,j15,j16,j17,j18,j19,j20,j21,j22,j23,j24,j25,j26,j27,j28,j29,j30,j31,j32,j33,j34,j35,j36,j37,j38,j39,j40,j41,j42,j43,j44,j45,j46,j47,j48,j49,j50,j51,j52,j53,j54,j55,j56,j57,j58,j59,j60,j61],[]⟩ w:=by
 rw[rounds_succ];simp only[dr,Tryz.f160];have h10:=rz;have h35:=qR;have mA:=Tryz.bF;have tO:=Tryz.qcE;have nA:=Tryz.qgA;have nU:=Tryz.qiA;have nV:=Tryz.qif;have aN:=Tryz.V4
 go_wp2
 exact hQ _ rfl rfl
set_option maxHeartbeats 4000000 in
theorem Ko(v b:Value)(t:Addr)(w:World)(Q:Exit→Act→World→Prop)(j2 j4 j5 j7 j8 j9 j10 j11 j12 j13 j14 j15 j16 j17 j18 j19 j20 j21 j22 j23 j24 j25 j26 j27 j28 j29 j30 j31 j32 j33 j34 j35 j36 j37 j38 j39 j40 j41 j42 j43 j44 j45 j46 j47 j48 j49 j50 j51 j52 j53 j54 j55 j56 j57 j58 j59 j60 j61:Value)
  (hQ:∀ a:Act,a.tmps[8]? =some (.bool false)→a.defers=[]→Q .ret a w):
  Code.rounds Tryz.prog dr Q 1 ⟨#[.iface 43 v,.iface 192 (.pointer (some t)),j2,.iface 330 (.agg #[.pointer (some ⟨1,191,none⟩)]),j4,j5,b,j7,j8,j9,j10,j11,j12,j13,j14,j15,j16,j17,j18,j19,j20,j21,j22,j23,j24,j25,j26,j27,j28,j29,j30,j31,j32,j33,j34,j35,j36,j37,j38,j39,j40,j41,j42,j43,j44,j45,j46,j47,j48,j49,j50,j51,j52,j53,j54,j55,j56,j57,j58,j59,j60,j61],[]⟩ w:=by
 rw[rounds_succ];simp only[dr,Tryz.f160];have h10:=rz;have h35:=qR;have mA:=Tryz.bF;have tO:=Tryz.qdY;have nA:=Tryz.qgV;have nU:=Tryz.qgd;have nV:=Tryz.qhw;have aN:=Tryz.UW
 go_wp2
 exact hQ _ rfl rfl
end Go.Proofs.YtigkmaeaoaejiaaGreatDoor
