/- errors.As at three targets: a hit; errors.as; errors.As. Printed by wip/x/genas2.py. -/
import Derived.Test.YtigkmaeaoaejiaaGreatDoorPart17
import Derived.Test.YtigkmaeaoaejiaaGreatDoorPart1
set_option linter.unusedVariables false
set_option linter.unusedSimpArgs false
namespace Go.Proofs.YtigkmaeaoaejiaaGreatDoor
open Go.RowKit Go.Extern.Stop Go.Stop Go.Extern
set_option maxRecDepth 10000
theorem qib{P:Program}{W:World}{b:Addr}{x0 x1:Value}(hb:W.cell? b=some x0)(hb1:W.cell? (b.add 1)=some x1):(loadCells b 2).run P W=.ok #[x0,x1] W:=by
 have:=run_loadCells_list (P:=P) W b [x0,x1] (fun j v hv=>by
  cases j with
  |zero=>simp at hv;subst hv;simpa[Addr.add]using hb
  |succ j=>
   cases j with
   |zero=>simp at hv;subst hv;exact hb1
   |succ j=>simp at hv)
 simpa using this
theorem Tryz.qgb(ta b:Addr)(x0 x1 o0 o1:Value)(W:World)(h0:x0.oneCell' =true)(h1:x1.oneCell' =true)(hb:W.cell? b=some x0)(hb1:W.cell? (b.add 1)=some x1)(ht:W.cell? ta=some o0)(ht1:(W.setCell ta x0).cell? (ta.add 1)=some o1)(hf:W.frozen? ta=false)(hf1:W.frozen? (ta.add 1)=false):
  (ReflectliteValue.set #[.agg #[.pointer (some ⟨1,45,none⟩),.pointer (some ta),.int .u64 409],.agg #[.pointer (some ⟨1,45,none⟩),.pointer (some b),.int .u64 153]]).run Tryz.prog W
   =.ok (.tuple #[]) ((W.setCell ta x0).setCell (ta.add 1) x1):=by
 rw[rls];simp only[Sem.run_bind,Tryz.Ur,Tryz.Yw,Result.andThen];have hl:=qib (P:=Tryz.prog) hb hb1;have s0:=run_store Tryz.prog W ta x0 .plain h0;rw[ht]at s0;have s1:=run_store Tryz.prog (W.setCell ta x0) (ta.add 1) x1 .plain h1;rw[ht1]at s1;simp[hf]at s0;simp[hf1]at s1;simp[ReflectliteValue.flagAddr,loadVar,isAgg,underlying,Tryz.underlying45,hl,Result.andThen,Tryz.WR,storeVar,Value.cells,storeCells];have e0:ta.add 0=ta:=by simp[Addr.add]
 rw[e0,s0];simp only;rw[s1]
set_option maxHeartbeats 4000000 in
theorem Zn(e:Addr)(tb to vb:Nat)(o0:Value)(W:World)(Q:Exit→Act→World→Prop)(j2 j4 j5 j7 j8 j9 j10 j11 j12 j13 j14 j15 j16 j17 j18 j19 j20 j21 j22 j23 j24 j25 j26 j27 j28 j29 j30 j31 j32 j33 j34 j35 j36 j37 j38 j39 j40 j41 j42 j43 j44 j45 j46 j47 j48 j49 j50 j51 j52 j53 j54 j55 j56 j57 j58 j59 j60 j61:Value)(hv:W.cell? ⟨vb,0,none⟩=some (.pointer (some ⟨tb,to,none⟩)))(ht:W.cell? ⟨tb,to,none⟩=some o0)(hf:W.frozen? ⟨tb,to,none⟩=false)
  (hQ:∀ a:Act,a.tmps[8]? =some (.bool true)→a.defers=[]→Q .ret a (((W.setCell ⟨tb,to,none⟩ (.pointer (some e))).alloc (.cells #[.pointer (some ⟨1,192,none⟩),.pointer (some ⟨vb,0,none⟩),.int .u64 150] 257)).alloc (.cells #[.pointer (some e)] 191))):
  Code.rounds Tryz.prog dr Q 1 ⟨#[.iface 191 (.pointer (some e)),.iface 192 (.pointer (some ⟨tb,to,none⟩)),j2,.iface 330 (.agg #[.pointer (some ⟨1,191,none⟩)]),j4,j5,.pointer (some ⟨W.heap.size,0,none⟩),j7,j8,j9,j10,j11,j12,j13,j14,j15,j16,j17,j18,j19,j20,j21,j22,j23,j24,j25,j26,j27,j28,j29,j30,j31,j32,j33,j34,j35,j36,j37,j38,j39,j40,j41,j42,j43,j44,j45,j46,j47,j48,j49,j50,j51,j52,j53,j54,j55,j56,j57,j58,j59,j60,j61],[]⟩ (W.alloc (.cells #[.pointer (some ⟨1,192,none⟩),.pointer (some ⟨vb,0,none⟩),.int .u64 150] 257)):=by
 rw[rounds_succ];simp only[dr,Tryz.f160];have h10:=rz;have h35:=qR;have mA:=Tryz.bF;have h6:=uZ;have h11:=Su;have h12:=T7;have tO:=Tryz.G5;have aY:=Tryz.O9;have hvl:vb<W.heap.size:=by
  rcases Nat.lt_or_ge vb W.heap.size with h|h
  ·exact h
  ·simp[World.cell?,Array.getElem?_eq_none h]at hv
 have eV:=Tryz.SO ⟨vb,0,none⟩ ⟨tb,to,none⟩ (W.alloc (.cells #[.pointer (some ⟨1,192,none⟩),.pointer (some ⟨vb,0,none⟩),.int .u64 150] 257)) (by rw[World.cell?_alloc_lt _ _ _ hvl];exact hv);have v25:=Tryz.Ir e;have htl:tb<W.heap.size:=by
  rcases Nat.lt_or_ge tb W.heap.size with h|h
  ·exact h
  ·simp[World.cell?,Array.getElem?_eq_none h]at ht
 have st:=Tryz.qd2 ⟨tb,to,none⟩ ⟨W.heap.size+1,0,none⟩ e o0 ((W.alloc (.cells #[.pointer (some ⟨1,192,none⟩),.pointer (some ⟨vb,0,none⟩),.int .u64 150] 257)).alloc (.cells #[.pointer (some e)] 191))
  (by rw[World.cell?_alloc_at _ _ _ _ (by simp)];rfl)
  (by rw[World.cell?_alloc_lt _ _ _ (by simp;omega),World.cell?_alloc_lt _ _ _ htl];exact ht)
  (by rw[World.frozen?_alloc_old _ _ _ (by simp;omega),World.frozen?_alloc_old _ _ _ (Nat.ne_of_lt htl)];exact hf)
 go_wp2
 exact hQ _ rfl rfl
set_option maxHeartbeats 4000000 in
theorem qec(n:Int)(tb to vb:Nat)(o0:Value)(W:World)(Q:Exit→Act→World→Prop)(j2 j4 j5 j7 j8 j9 j10 j11 j12 j13 j14 j15 j16 j17 j18 j19 j20 j21 j22 j23 j24 j25 j26 j27 j28 j29 j30 j31 j32 j33 j34 j35 j36 j37 j38 j39 j40 j41 j42 j43 j44 j45 j46 j47 j48 j49 j50 j51 j52 j53 j54 j55 j56 j57 j58 j59 j60 j61:Value)(hv:W.cell? ⟨vb,0,none⟩=some (.pointer (some ⟨tb,to,none⟩)))(ht:W.cell? ⟨tb,to,none⟩=some o0)(hf:W.frozen? ⟨tb,to,none⟩=false)
  (hQ:∀ a:Act,a.tmps[8]? =some (.bool true)→a.defers=[]→Q .ret a (((W.setCell ⟨tb,to,none⟩ (.int .i64 n)).alloc (.cells #[.pointer (some ⟨1,197,none⟩),.pointer (some ⟨vb,0,none⟩),.int .u64 150] 257)).alloc (.cells #[.int .i64 n] 43))):
  Code.rounds Tryz.prog dr Q 1 ⟨#[.iface 43 (.int .i64 n),.iface 197 (.pointer (some ⟨tb,to,none⟩)),j2,.iface 330 (.agg #[.pointer (some ⟨1,43,none⟩)]),j4,j5,.pointer (some ⟨W.heap.size,0,none⟩),j7,j8,j9,j10,j11,j12,j13,j14,j15,j16,j17,j18,j19,j20,j21,j22,j23,j24,j25,j26,j27,j28,j29,j30,j31,j32,j33,j34,j35,j36,j37,j38,j39,j40,j41,j42,j43,j44,j45,j46,j47,j48,j49,j50,j51,j52,j53,j54,j55,j56,j57,j58,j59,j60,j61],[]⟩ (W.alloc (.cells #[.pointer (some ⟨1,197,none⟩),.pointer (some ⟨vb,0,none⟩),.int .u64 150] 257)):=by
 rw[rounds_succ];simp only[dr,Tryz.f160];have h10:=rz;have h35:=qR;have mA:=Tryz.bF;have h6:=uZ;have h11:=Su;have h12:=T7;have tO:=Tryz.qdY;have aY:=Tryz.Yh;have hvl:vb<W.heap.size:=by
  rcases Nat.lt_or_ge vb W.heap.size with h|h
  ·exact h
  ·simp[World.cell?,Array.getElem?_eq_none h]at hv
 have eV:=Tryz.Sv ⟨vb,0,none⟩ ⟨tb,to,none⟩ (W.alloc (.cells #[.pointer (some ⟨1,197,none⟩),.pointer (some ⟨vb,0,none⟩),.int .u64 150] 257)) (by rw[World.cell?_alloc_lt _ _ _ hvl];exact hv);have v25:=Tryz.LZ n;have htl:tb<W.heap.size:=by
  rcases Nat.lt_or_ge tb W.heap.size with h|h
  ·exact h
  ·simp[World.cell?,Array.getElem?_eq_none h]at ht
 have st:=Tryz.qhH ⟨tb,to,none⟩ ⟨W.heap.size+1,0,none⟩ n o0 ((W.alloc (.cells #[.pointer (some ⟨1,197,none⟩),.pointer (some ⟨vb,0,none⟩),.int .u64 150] 257)).alloc (.cells #[.int .i64 n] 43))
  (by rw[World.cell?_alloc_at _ _ _ _ (by simp)];rfl)
  (by rw[World.cell?_alloc_lt _ _ _ (by simp;omega),World.cell?_alloc_lt _ _ _ htl];exact ht)
  (by rw[World.frozen?_alloc_old _ _ _ (by simp;omega),World.frozen?_alloc_old _ _ _ (Nat.ne_of_lt htl)];exact hf)
 go_wp2
 exact hQ _ rfl rfl
set_option maxHeartbeats 4000000 in
theorem qef(x0 x1:Value)(tb to vb:Nat)(o0 o1:Value)(W:World)(Q:Exit→Act→World→Prop)(j2 j4 j5 j7 j8 j9 j10 j11 j12 j13 j14 j15 j16 j17 j18 j19 j20 j21 j22 j23 j24 j25 j26 j27 j28 j29 j30 j31 j32 j33 j34 j35 j36 j37 j38 j39 j40 j41 j42 j43 j44 j45 j46 j47 j48 j49 j50 j51 j52 j53 j54 j55 j56 j57 j58 j59 j60 j61:Value)(h0:x0.oneCell' =true)(h1:x1.oneCell' =true)(hv:W.cell? ⟨vb,0,none⟩=some (.pointer (some ⟨tb,to,none⟩)))(ht:W.cell? ⟨tb,to,none⟩=some o0)(ht1:W.cell? ⟨tb,to+1,none⟩=some o1)(hf:W.frozen? ⟨tb,to,none⟩=false)(hf1:W.frozen? ⟨tb,to+1,none⟩=false)
  (hQ:∀ a:Act,a.tmps[8]? =some (.bool true)→a.defers=[]→Q .ret a ((((W.setCell ⟨tb,to,none⟩ x0).setCell ⟨tb,to+1,none⟩ x1).alloc (.cells #[.pointer (some ⟨1,187,none⟩),.pointer (some ⟨vb,0,none⟩),.int .u64 150] 257)).alloc (.cells #[x0,x1] 45))):
  Code.rounds Tryz.prog dr Q 1 ⟨#[.iface 45 (.agg #[x0,x1]),.iface 187 (.pointer (some ⟨tb,to,none⟩)),j2,.iface 330 (.agg #[.pointer (some ⟨1,45,none⟩)]),j4,j5,.pointer (some ⟨W.heap.size,0,none⟩),j7,j8,j9,j10,j11,j12,j13,j14,j15,j16,j17,j18,j19,j20,j21,j22,j23,j24,j25,j26,j27,j28,j29,j30,j31,j32,j33,j34,j35,j36,j37,j38,j39,j40,j41,j42,j43,j44,j45,j46,j47,j48,j49,j50,j51,j52,j53,j54,j55,j56,j57,j58,j59,j60,j61],[]⟩ (W.alloc (.cells #[.pointer (some ⟨1,187,none⟩),.pointer (some ⟨vb,0,none⟩),.int .u64 150] 257)):=by
 rw[rounds_succ];simp only[dr,Tryz.f160];have h10:=rz;have h35:=qR;have mA:=Tryz.bF;have h6:=uZ;have h11:=Su;have h12:=T7;have tO:=Tryz.qcE;have aY:=Tryz.ZJ;have hvl:vb<W.heap.size:=by
  rcases Nat.lt_or_ge vb W.heap.size with h|h
  ·exact h
  ·simp[World.cell?,Array.getElem?_eq_none h]at hv
 have eV:=Tryz.SN ⟨vb,0,none⟩ ⟨tb,to,none⟩ (W.alloc (.cells #[.pointer (some ⟨1,187,none⟩),.pointer (some ⟨vb,0,none⟩),.int .u64 150] 257)) (by rw[World.cell?_alloc_lt _ _ _ hvl];exact hv);have v25:=Tryz.JA x0 x1;have htl:tb<W.heap.size:=by
  rcases Nat.lt_or_ge tb W.heap.size with h|h
  ·exact h
  ·simp[World.cell?,Array.getElem?_eq_none h]at ht
 have st:=Tryz.qgb ⟨tb,to,none⟩ ⟨W.heap.size+1,0,none⟩ x0 x1 o0 o1 ((W.alloc (.cells #[.pointer (some ⟨1,187,none⟩),.pointer (some ⟨vb,0,none⟩),.int .u64 150] 257)).alloc (.cells #[x0,x1] 45)) h0 h1
  (by rw[World.cell?_alloc_at _ _ _ _ (by simp)];rfl) (by show World.cell? _ ⟨W.heap.size+1,0+1,none⟩=_;rw[World.cell?_alloc_at _ _ _ _ (by simp)];rfl)
  (by rw[World.cell?_alloc_lt _ _ _ (by simp;omega),World.cell?_alloc_lt _ _ _ htl];exact ht)
  (by
   show World.cell? _ ⟨tb,to+1,none⟩=some o1;rw[show ∀ (w:World) (v:Value),(w.setCell ⟨tb,to,none⟩ v).cell? ⟨tb,to+1,none⟩=w.cell? ⟨tb,to+1,none⟩from fun w v=>World.cell?_setCell_other w _ _ v (by simp),World.cell?_alloc_lt _ _ _ (by simp;omega),World.cell?_alloc_lt _ _ _ htl];exact ht1)
  (by rw[World.frozen?_alloc_old _ _ _ (by simp;omega),World.frozen?_alloc_old _ _ _ (Nat.ne_of_lt htl)];exact hf)
  (by show World.frozen? _ ⟨tb,to+1,none⟩=_;rw[World.frozen?_alloc_old _ _ _ (by simp;omega),World.frozen?_alloc_old _ _ _ (Nat.ne_of_lt htl)];exact hf1)
 go_wp2
 exact hQ _ rfl rfl
end Go.Proofs.YtigkmaeaoaejiaaGreatDoor
