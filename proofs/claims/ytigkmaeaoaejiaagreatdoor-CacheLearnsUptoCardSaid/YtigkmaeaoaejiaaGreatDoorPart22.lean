/- errors.As in the model; its contract for the first evaluator. Printed by wip/x/genas5.py. -/
import Derived.Test.YtigkmaeaoaejiaaGreatDoorPart21
set_option linter.unusedVariables false
set_option linter.unusedSimpArgs false
namespace Go.Proofs.YtigkmaeaoaejiaaGreatDoor
open Go.RowKit Go.Extern.Stop Go.Stop Go.Extern Go.RE
set_option maxRecDepth 10000
abbrev kU(w:World):Prop:=w.cell? ⟨0,0,none⟩=some (.iface 330 (.agg #[.pointer (some ⟨1,39,none⟩)]))
theorem qdt(t:Value)(w:World):Calls Tryz.prog 97 #[.nilIface,t] w fun e w' =>e=.returned (.bool false)∧w' =w:=by
 go_enter Tryz.func97,Tryz.ntmps97
 go_wp2
 go_ret
 exact⟨rfl,rfl⟩
def vP(tp tb to:Nat)(w:World):World:=(w.alloc (.cells #[.pointer (some ⟨tb,to,none⟩)] tp)).alloc (.cells #[.pointer (some ⟨1,tp,none⟩),.pointer (some ⟨w.heap.size,0,none⟩),.int .u64 150] 257)
theorem u5{tp tb to:Nat}{w:World}{a:Addr}{x:Value}(h:w.cell? a=some x):(vP tp tb to w).cell? a=some x:=by
 have hlt:a.block<w.heap.size:=by
  rcases Nat.lt_or_ge a.block w.heap.size with h1|h1
  ·exact h1
  ·simp[World.cell?,zo h1]at h
 unfold vP;rw[World.cell?_alloc_lt _ _ _ (by simp;omega),World.cell?_alloc_lt _ _ _ hlt];exact h
theorem qG{tp tb to:Nat}{w:World}{a:Addr}(h:a.block<w.heap.size):(vP tp tb to w).frozen? a=w.frozen? a:=by
 unfold vP;rw[World.frozen?_alloc_old _ _ _ (by simp;omega),World.frozen?_alloc_old _ _ _ (Nat.ne_of_lt h)]
theorem EN{tp tb to:Nat}{w:World}:(vP tp tb to w).cell? ⟨w.heap.size,0,none⟩=some (.pointer (some ⟨tb,to,none⟩)):=by
 unfold vP;rw[World.cell?_alloc_lt _ _ _ (by simp),World.cell?_alloc_at _ _ _ _ (by simp)];rfl
set_option maxHeartbeats 4000000 in
theorem Pw{w0:World}{ρ:RE.Ren}{s:St}{w:World}(hR:Rel w0 ρ s w){n:Nat}{v v' :V}{x:Value}(hv:aE w0 ρ v x)(hw:aQ s 45 n v=some (some v'))(hg:kU w)(tb to:Nat){o0 o1:Value}(ht:w.cell? ⟨tb,to,none⟩=some o0)(hf:w.frozen? ⟨tb,to,none⟩=false)(ht1:w.cell? ⟨tb,to+1,none⟩=some o1)(hf1:w.frozen? ⟨tb,to+1,none⟩=false):
  ∃ ys:List Value,aX w0 ρ v'.cells ys∧Calls Tryz.prog 97 #[x,.iface 187 (.pointer (some ⟨tb,to,none⟩))] w fun ev w' =>ev=.returned (.bool true)∧w' =AA 45 187 tb to w.heap.size (vP 187 tb to w) ys:=by
 have htl:tb<w.heap.size:=by
  rcases Nat.lt_or_ge tb w.heap.size with h1|h1
  ·exact h1
  ·simp[World.cell?,zo h1]at ht
 obtain⟨ys,k1,c160⟩:=FE (W:=vP 187 tb to w) (fQ (fQ hR _) _) hv hw tb to w.heap.size EN (u5 ht) (u5 ht1) ((qG htl).trans hf) ((qG htl).trans hf1);refine⟨ys,k1,?_⟩;obtain⟨xt,xv,hxe⟩:∃ xt xv,x=.iface xt xv:=by
  cases n with
  |zero=>simp[aQ]at hw
  |succ n=>cases v<;>simp[aQ]at hw;cases hv;exact⟨_,_,rfl⟩
 subst hxe;unfold vP at c160;have h6:=uZ;have h7:=CM;have h8:=Di;have h27:=Dr;have h37:=Dy;have h38:=CX;have f6:=Tryz.xP;have f7:=Tryz.Hi;have mK:=Tryz.lD;have mE:=Tryz.lN;have mI:=Tryz.eX;have kP:=Tryz.Gr;have kE:=Tryz.Mm;have eT:=Tryz.CY;have iE:=Tryz.vB;have n8:=Tryz.Db ⟨w.heap.size,0,none⟩ ⟨tb,to,none⟩ ((w.alloc (.cells #[.pointer (some ⟨tb,to,none⟩)] 187)).alloc (.cells #[.pointer (some ⟨1,187,none⟩),.pointer (some ⟨w.heap.size,0,none⟩),.int .u64 150] 257)) (by simp);have hlt:0<w.heap.size:=by
  rcases Nat.eq_zero_or_pos w.heap.size with h0|h
  ·simp[kU,World.cell?,h0]at hg
  ·exact h
 have hg2:((w.alloc (.cells #[.pointer (some ⟨tb,to,none⟩)] 187)).alloc (.cells #[.pointer (some ⟨1,187,none⟩),.pointer (some ⟨w.heap.size,0,none⟩),.int .u64 150] 257)).cell? ⟨0,0,none⟩=some (.iface 330 (.agg #[.pointer (some ⟨1,39,none⟩)])):=by
  rw[World.cell?_alloc_lt _ _ ⟨0,0,none⟩ (by simp),World.cell?_alloc_lt _ _ ⟨0,0,none⟩ hlt];exact hg
 go_enter Tryz.func97,Tryz.ntmps97
 go_wp2_with (go_at_call 160;refine c160.mono ?_;rintro e w' ⟨rfl,rfl⟩)
 go_ret
 exact⟨rfl,rfl⟩
set_option maxHeartbeats 4000000 in
theorem K6{w0:World}{ρ:RE.Ren}{s:St}{w:World}(hR:Rel w0 ρ s w){n:Nat}{v:V}{x:Value}(hv:aE w0 ρ v x)(hw:aQ s 45 n v=some none)(hg:kU w)(tb to:Nat):
  Calls Tryz.prog 97 #[x,.iface 187 (.pointer (some ⟨tb,to,none⟩))] w fun ev w' =>ev=.returned (.bool false)∧w' =(vP 187 tb to w).alloc (xY 187 w.heap.size):=by
 have c160:=Co (W:=vP 187 tb to w) (fQ (fQ hR _) _) hv hw tb to w.heap.size;obtain⟨xt,xv,hxe⟩:∃ xt xv,x=.iface xt xv:=by
  cases n with
  |zero=>simp[aQ]at hw
  |succ n=>cases v<;>simp[aQ]at hw;cases hv;exact⟨_,_,rfl⟩
 subst hxe;unfold vP at c160;have h6:=uZ;have h7:=CM;have h8:=Di;have h27:=Dr;have h37:=Dy;have h38:=CX;have f6:=Tryz.xP;have f7:=Tryz.Hi;have mK:=Tryz.lD;have mE:=Tryz.lN;have mI:=Tryz.eX;have kP:=Tryz.Gr;have kE:=Tryz.Mm;have eT:=Tryz.CY;have iE:=Tryz.vB;have n8:=Tryz.Db ⟨w.heap.size,0,none⟩ ⟨tb,to,none⟩ ((w.alloc (.cells #[.pointer (some ⟨tb,to,none⟩)] 187)).alloc (.cells #[.pointer (some ⟨1,187,none⟩),.pointer (some ⟨w.heap.size,0,none⟩),.int .u64 150] 257)) (by simp);have hlt:0<w.heap.size:=by
  rcases Nat.eq_zero_or_pos w.heap.size with h0|h
  ·simp[kU,World.cell?,h0]at hg
  ·exact h
 have hg2:((w.alloc (.cells #[.pointer (some ⟨tb,to,none⟩)] 187)).alloc (.cells #[.pointer (some ⟨1,187,none⟩),.pointer (some ⟨w.heap.size,0,none⟩),.int .u64 150] 257)).cell? ⟨0,0,none⟩=some (.iface 330 (.agg #[.pointer (some ⟨1,39,none⟩)])):=by
  rw[World.cell?_alloc_lt _ _ ⟨0,0,none⟩ (by simp),World.cell?_alloc_lt _ _ ⟨0,0,none⟩ hlt];exact hg
 go_enter Tryz.func97,Tryz.ntmps97
 go_wp2_with (go_at_call 160;refine c160.mono ?_;rintro e w' ⟨rfl,rfl⟩)
 go_ret
 exact⟨rfl,rfl⟩
set_option maxHeartbeats 4000000 in
theorem P8{w0:World}{ρ:RE.Ren}{s:St}{w:World}(hR:Rel w0 ρ s w){n:Nat}{v v' :V}{x:Value}(hv:aE w0 ρ v x)(hw:aQ s 43 n v=some (some v'))(hg:kU w)(tb to:Nat){o0:Value}(ht:w.cell? ⟨tb,to,none⟩=some o0)(hf:w.frozen? ⟨tb,to,none⟩=false):
  ∃ ys:List Value,aX w0 ρ v'.cells ys∧Calls Tryz.prog 97 #[x,.iface 197 (.pointer (some ⟨tb,to,none⟩))] w fun ev w' =>ev=.returned (.bool true)∧w' =AA 43 197 tb to w.heap.size (vP 197 tb to w) ys:=by
 have htl:tb<w.heap.size:=by
  rcases Nat.lt_or_ge tb w.heap.size with h1|h1
  ·exact h1
  ·simp[World.cell?,zo h1]at ht
 obtain⟨ys,k1,c160⟩:=DQ (W:=vP 197 tb to w) (fQ (fQ hR _) _) hv hw tb to w.heap.size EN (u5 ht) ((qG htl).trans hf);refine⟨ys,k1,?_⟩;obtain⟨xt,xv,hxe⟩:∃ xt xv,x=.iface xt xv:=by
  cases n with
  |zero=>simp[aQ]at hw
  |succ n=>cases v<;>simp[aQ]at hw;cases hv;exact⟨_,_,rfl⟩
 subst hxe;unfold vP at c160;have h6:=uZ;have h7:=CM;have h8:=Di;have h27:=Dr;have h37:=Dy;have h38:=CX;have f6:=Tryz.xJ;have f7:=Tryz.Gv;have mK:=Tryz.lD;have mE:=Tryz.lN;have mI:=Tryz.eX;have kP:=Tryz.Ib;have kE:=Tryz.N9;have eT:=Tryz.Dd;have iE:=Tryz.uX;have n8:=Tryz.C0 ⟨w.heap.size,0,none⟩ ⟨tb,to,none⟩ ((w.alloc (.cells #[.pointer (some ⟨tb,to,none⟩)] 197)).alloc (.cells #[.pointer (some ⟨1,197,none⟩),.pointer (some ⟨w.heap.size,0,none⟩),.int .u64 150] 257)) (by simp);have hlt:0<w.heap.size:=by
  rcases Nat.eq_zero_or_pos w.heap.size with h0|h
  ·simp[kU,World.cell?,h0]at hg
  ·exact h
 have hg2:((w.alloc (.cells #[.pointer (some ⟨tb,to,none⟩)] 197)).alloc (.cells #[.pointer (some ⟨1,197,none⟩),.pointer (some ⟨w.heap.size,0,none⟩),.int .u64 150] 257)).cell? ⟨0,0,none⟩=some (.iface 330 (.agg #[.pointer (some ⟨1,39,none⟩)])):=by
  rw[World.cell?_alloc_lt _ _ ⟨0,0,none⟩ (by simp),World.cell?_alloc_lt _ _ ⟨0,0,none⟩ hlt];exact hg
 go_enter Tryz.func97,Tryz.ntmps97
 go_wp2_with (go_at_call 160;refine c160.mono ?_;rintro e w' ⟨rfl,rfl⟩)
 go_ret
 exact⟨rfl,rfl⟩
set_option maxHeartbeats 4000000 in
theorem JG{w0:World}{ρ:RE.Ren}{s:St}{w:World}(hR:Rel w0 ρ s w){n:Nat}{v:V}{x:Value}(hv:aE w0 ρ v x)(hw:aQ s 43 n v=some none)(hg:kU w)(tb to:Nat):
  Calls Tryz.prog 97 #[x,.iface 197 (.pointer (some ⟨tb,to,none⟩))] w fun ev w' =>ev=.returned (.bool false)∧w' =(vP 197 tb to w).alloc (xY 197 w.heap.size):=by
 have c160:=Cp (W:=vP 197 tb to w) (fQ (fQ hR _) _) hv hw tb to w.heap.size;obtain⟨xt,xv,hxe⟩:∃ xt xv,x=.iface xt xv:=by
  cases n with
  |zero=>simp[aQ]at hw
  |succ n=>cases v<;>simp[aQ]at hw;cases hv;exact⟨_,_,rfl⟩
 subst hxe;unfold vP at c160;have h6:=uZ;have h7:=CM;have h8:=Di;have h27:=Dr;have h37:=Dy;have h38:=CX;have f6:=Tryz.xJ;have f7:=Tryz.Gv;have mK:=Tryz.lD;have mE:=Tryz.lN;have mI:=Tryz.eX;have kP:=Tryz.Ib;have kE:=Tryz.N9;have eT:=Tryz.Dd;have iE:=Tryz.uX;have n8:=Tryz.C0 ⟨w.heap.size,0,none⟩ ⟨tb,to,none⟩ ((w.alloc (.cells #[.pointer (some ⟨tb,to,none⟩)] 197)).alloc (.cells #[.pointer (some ⟨1,197,none⟩),.pointer (some ⟨w.heap.size,0,none⟩),.int .u64 150] 257)) (by simp);have hlt:0<w.heap.size:=by
  rcases Nat.eq_zero_or_pos w.heap.size with h0|h
  ·simp[kU,World.cell?,h0]at hg
  ·exact h
 have hg2:((w.alloc (.cells #[.pointer (some ⟨tb,to,none⟩)] 197)).alloc (.cells #[.pointer (some ⟨1,197,none⟩),.pointer (some ⟨w.heap.size,0,none⟩),.int .u64 150] 257)).cell? ⟨0,0,none⟩=some (.iface 330 (.agg #[.pointer (some ⟨1,39,none⟩)])):=by
  rw[World.cell?_alloc_lt _ _ ⟨0,0,none⟩ (by simp),World.cell?_alloc_lt _ _ ⟨0,0,none⟩ hlt];exact hg
 go_enter Tryz.func97,Tryz.ntmps97
 go_wp2_with (go_at_call 160;refine c160.mono ?_;rintro e w' ⟨rfl,rfl⟩)
 go_ret
 exact⟨rfl,rfl⟩
set_option maxHeartbeats 4000000 in
theorem JO{w0:World}{ρ:RE.Ren}{s:St}{w:World}(hR:Rel w0 ρ s w){n:Nat}{v v' :V}{x:Value}(hv:aE w0 ρ v x)(hw:aQ s 191 n v=some (some v'))(hg:kU w)(tb to:Nat){o0:Value}(ht:w.cell? ⟨tb,to,none⟩=some o0)(hf:w.frozen? ⟨tb,to,none⟩=false):
  ∃ ys:List Value,aX w0 ρ v'.cells ys∧Calls Tryz.prog 97 #[x,.iface 192 (.pointer (some ⟨tb,to,none⟩))] w fun ev w' =>ev=.returned (.bool true)∧w' =AA 191 192 tb to w.heap.size (vP 192 tb to w) ys:=by
 have htl:tb<w.heap.size:=by
  rcases Nat.lt_or_ge tb w.heap.size with h1|h1
  ·exact h1
  ·simp[World.cell?,zo h1]at ht
 obtain⟨ys,k1,c160⟩:=Cd (W:=vP 192 tb to w) (fQ (fQ hR _) _) hv hw tb to w.heap.size EN (u5 ht) ((qG htl).trans hf);refine⟨ys,k1,?_⟩;obtain⟨xt,xv,hxe⟩:∃ xt xv,x=.iface xt xv:=by
  cases n with
  |zero=>simp[aQ]at hw
  |succ n=>cases v<;>simp[aQ]at hw;cases hv;exact⟨_,_,rfl⟩
 subst hxe;unfold vP at c160;have h6:=uZ;have h7:=CM;have h8:=Di;have h27:=Dr;have h37:=Dy;have h38:=CX;have f6:=Tryz.xF;have f7:=Tryz.G6;have mK:=Tryz.lD;have mE:=Tryz.lN;have mI:=Tryz.eX;have kP:=Tryz.Gi;have kE:=Tryz.HJ;have eT:=Tryz.Dc;have iE:=Tryz.tB;have n8:=Tryz.CA ⟨w.heap.size,0,none⟩ ⟨tb,to,none⟩ ((w.alloc (.cells #[.pointer (some ⟨tb,to,none⟩)] 192)).alloc (.cells #[.pointer (some ⟨1,192,none⟩),.pointer (some ⟨w.heap.size,0,none⟩),.int .u64 150] 257)) (by simp);have hlt:0<w.heap.size:=by
  rcases Nat.eq_zero_or_pos w.heap.size with h0|h
  ·simp[kU,World.cell?,h0]at hg
  ·exact h
 have hg2:((w.alloc (.cells #[.pointer (some ⟨tb,to,none⟩)] 192)).alloc (.cells #[.pointer (some ⟨1,192,none⟩),.pointer (some ⟨w.heap.size,0,none⟩),.int .u64 150] 257)).cell? ⟨0,0,none⟩=some (.iface 330 (.agg #[.pointer (some ⟨1,39,none⟩)])):=by
  rw[World.cell?_alloc_lt _ _ ⟨0,0,none⟩ (by simp),World.cell?_alloc_lt _ _ ⟨0,0,none⟩ hlt];exact hg
 go_enter Tryz.func97,Tryz.ntmps97
 go_wp2_with (go_at_call 160;refine c160.mono ?_;rintro e w' ⟨rfl,rfl⟩)
 go_ret
 exact⟨rfl,rfl⟩
set_option maxHeartbeats 4000000 in
theorem G1{w0:World}{ρ:RE.Ren}{s:St}{w:World}(hR:Rel w0 ρ s w){n:Nat}{v:V}{x:Value}(hv:aE w0 ρ v x)(hw:aQ s 191 n v=some none)(hg:kU w)(tb to:Nat):
  Calls Tryz.prog 97 #[x,.iface 192 (.pointer (some ⟨tb,to,none⟩))] w fun ev w' =>ev=.returned (.bool false)∧w' =(vP 192 tb to w).alloc (xY 192 w.heap.size):=by
 have c160:=Au (W:=vP 192 tb to w) (fQ (fQ hR _) _) hv hw tb to w.heap.size;obtain⟨xt,xv,hxe⟩:∃ xt xv,x=.iface xt xv:=by
  cases n with
  |zero=>simp[aQ]at hw
  |succ n=>cases v<;>simp[aQ]at hw;cases hv;exact⟨_,_,rfl⟩
 subst hxe;unfold vP at c160;have h6:=uZ;have h7:=CM;have h8:=Di;have h27:=Dr;have h37:=Dy;have h38:=CX;have f6:=Tryz.xF;have f7:=Tryz.G6;have mK:=Tryz.lD;have mE:=Tryz.lN;have mI:=Tryz.eX;have kP:=Tryz.Gi;have kE:=Tryz.HJ;have eT:=Tryz.Dc;have iE:=Tryz.tB;have n8:=Tryz.CA ⟨w.heap.size,0,none⟩ ⟨tb,to,none⟩ ((w.alloc (.cells #[.pointer (some ⟨tb,to,none⟩)] 192)).alloc (.cells #[.pointer (some ⟨1,192,none⟩),.pointer (some ⟨w.heap.size,0,none⟩),.int .u64 150] 257)) (by simp);have hlt:0<w.heap.size:=by
  rcases Nat.eq_zero_or_pos w.heap.size with h0|h
  ·simp[kU,World.cell?,h0]at hg
  ·exact h
 have hg2:((w.alloc (.cells #[.pointer (some ⟨tb,to,none⟩)] 192)).alloc (.cells #[.pointer (some ⟨1,192,none⟩),.pointer (some ⟨w.heap.size,0,none⟩),.int .u64 150] 257)).cell? ⟨0,0,none⟩=some (.iface 330 (.agg #[.pointer (some ⟨1,39,none⟩)])):=by
  rw[World.cell?_alloc_lt _ _ ⟨0,0,none⟩ (by simp),World.cell?_alloc_lt _ _ ⟨0,0,none⟩ hlt];exact hg
 go_enter Tryz.func97,Tryz.ntmps97
 go_wp2_with (go_at_call 160;refine c160.mono ?_;rintro e w' ⟨rfl,rfl⟩)
 go_ret
 exact⟨rfl,rfl⟩
end Go.Proofs.YtigkmaeaoaejiaaGreatDoor
