/- errors.as and errors.As, whatever chain comes. Printed by wip/x/genas4.py. -/
import Derived.Test.YtigkmaeaoaejiaaGreatDoorPart20
set_option linter.unusedVariables false
set_option linter.unusedSimpArgs false
namespace Go.Proofs.YtigkmaeaoaejiaaGreatDoor
open Go.RowKit Go.Extern.Stop Go.Stop Go.Extern Go.RE
set_option maxRecDepth 10000
def xY(tp vb:Nat):Obj:=.cells #[.pointer (some ⟨1,tp,none⟩),.pointer (some ⟨vb,0,none⟩),.int .u64 150] 257
def AA(el tp tb to vb:Nat)(W:World):List Value→World
 |[x]=>((W.setCell ⟨tb,to,none⟩ x).alloc (.cells #[.pointer (some ⟨1,tp,none⟩),.pointer (some ⟨vb,0,none⟩),.int .u64 150] 257)).alloc (.cells #[x] el)
 |[x0,x1]=>(((W.setCell ⟨tb,to,none⟩ x0).setCell ⟨tb,to+1,none⟩ x1).alloc (.cells #[.pointer (some ⟨1,tp,none⟩),.pointer (some ⟨vb,0,none⟩),.int .u64 150] 257)).alloc (.cells #[x0,x1] el)
 |_=>W
theorem Kt{P:Program}{R:Ending→World→Prop}{a:Act}{w:World}{v:Value}(h:a.tmps[8]? =some v)(hd:a.defers=[])(hR:R (.returned v) w):bodyPost P Tryz.f160 R .ret a w:=by
 refine bodyPost_ret (results_tmp (t:=8) rfl _ _ _) hd ?_;have:a.tmps.getD 8 undef=v:=by rw[x9,h];rfl
 rw[this];exact hR
theorem Fs{w0:World}{ρ:RE.Ren}{l:List UInt8}{y:Value}(h:aE w0 ρ (.str l) y):y.oneCell' =true:=by cases h;rfl
theorem fQ{w0:World}{ρ:RE.Ren}{s:St}{W:World}(hR:Rel w0 ρ s W)(o:Obj):Rel w0 ρ s (W.alloc o):=by
 rw[Go.Sort.alloc_eq_grow];exact(Bo hR _).1
set_option maxHeartbeats 4000000 in
theorem FE{w0:World}{ρ:RE.Ren}{s:St}{W:World}(hR:Rel w0 ρ s W){n:Nat}{v v' :V}{x:Value}(hv:aE w0 ρ v x)(hw:aQ s 45 n v=some (some v'))(tb to vb:Nat){o0 o1:Value}(hv0:W.cell? ⟨vb,0,none⟩=some (.pointer (some ⟨tb,to,none⟩)))(ht:W.cell? ⟨tb,to,none⟩=some o0)(ht1:W.cell? ⟨tb,to+1,none⟩=some o1)(hf:W.frozen? ⟨tb,to,none⟩=false)(hf1:W.frozen? ⟨tb,to+1,none⟩=false):
  ∃ ys:List Value,aX w0 ρ v'.cells ys∧Calls Tryz.prog 160 #[x,.iface 187 (.pointer (some ⟨tb,to,none⟩)),.agg #[.pointer (some ⟨1,187,none⟩),.pointer (some ⟨vb,0,none⟩),.int .u64 150],.iface 330 (.agg #[.pointer (some ⟨1,45,none⟩)])] W fun ev w' =>ev=.returned (.bool true)∧w' =AA 45 187 tb to vb W ys:=by
 obtain⟨xv,k1,k2,k,k3⟩:=DV (fQ hR (xY 187 vb)) (.pointer (some ⟨W.heap.size,0,none⟩)) ⟨tb,to,none⟩ n v x hv hw;obtain⟨x0,x1,ys,e1,e2,hx0,hx1⟩:∃ x0 x1,∃ ys:List Value,xv=.agg #[x0,x1]∧aX w0 ρ v'.cells [x0,x1]∧x0.oneCell' =true∧x1.oneCell' =true:=by
  cases v' <;>simp[dS]at k2;rename_i cs
  match cs,k2,k1 with
  |[.str l0,.str l1],_,k1=>
   cases k1 with
   |agg ha va=>
   rename_i a';have h2:a'.size=2:=by simpa using ha.symm
   have g0:=va 0 (by simp) (by omega);have g1:=va 1 (by simp) (by omega);refine⟨a'[0],a'[1],[],?_,aX.cons g0 (aX.cons g1 .nil),?_,?_⟩
   ·congr 1;apply Array.ext
    ·simpa using h2
    ·intro i h1 h3
     match i,h1,h3 with
     |0,_,_=>rfl
     |1,_,_=>rfl
     |i+2,h1,_=>omega
   ·exact Fs g0
   ·exact Fs g1
 subst e1;refine⟨[x0,x1],e2,?_⟩
 go_enter Tryz.func160,Tryz.ntmps160
 go_wp2
 refine wp_loop_rounds k ?_;refine k3 _ ?_ ..;refine fun j2 j4 j5 j7 j8 j9 j10 j11 j12 j13 j14 j15 j16 j17 j18 j19 j20 j21 j22 j23 j24 j25 j26 j27 j28 j29 j30 j31 j32 j33 j34 j35 j36 j37 j38 j39 j40 j41 j42 j43 j44 j45 j46 j47 j48 j49 j50 j51 j52 j53 j54 j55 j56 j57 j58 j59 j60 j61=>qef x0 x1 tb to vb o0 o1 W _ j2 j4 j5 j7 j8 j9 j10 j11 j12 j13 j14 j15 j16 j17 j18 j19 j20 j21 j22 j23 j24 j25 j26 j27 j28 j29 j30 j31 j32 j33 j34 j35 j36 j37 j38 j39 j40 j41 j42 j43 j44 j45 j46 j47 j48 j49 j50 j51 j52 j53 j54 j55 j56 j57 j58 j59 j60 j61 hx0 hx1 hv0 ht ht1 hf hf1 ?_;intro a h8 hd;simp only[Exit.inBlock];refine Kt h8 hd ?_;exact⟨rfl,rfl⟩
set_option maxHeartbeats 4000000 in
theorem Co{w0:World}{ρ:RE.Ren}{s:St}{W:World}(hR:Rel w0 ρ s W){n:Nat}{v:V}{x:Value}(hv:aE w0 ρ v x)(hw:aQ s 45 n v=some none)(tb to vb:Nat):
  Calls Tryz.prog 160 #[x,.iface 187 (.pointer (some ⟨tb,to,none⟩)),.agg #[.pointer (some ⟨1,187,none⟩),.pointer (some ⟨vb,0,none⟩),.int .u64 150],.iface 330 (.agg #[.pointer (some ⟨1,45,none⟩)])] W fun ev w' =>ev=.returned (.bool false)∧w' =W.alloc (xY 187 vb):=by
 obtain⟨k,k3⟩:=Ck (fQ hR (xY 187 vb)) (.pointer (some ⟨W.heap.size,0,none⟩)) ⟨tb,to,none⟩ n v x hv hw
 go_enter Tryz.func160,Tryz.ntmps160
 go_wp2
 refine wp_loop_rounds k ?_;refine k3 _ ?_ ..;intro a h8 hd;simp only[Exit.inBlock];refine Kt h8 hd ?_;exact⟨rfl,rfl⟩
set_option maxHeartbeats 4000000 in
theorem DQ{w0:World}{ρ:RE.Ren}{s:St}{W:World}(hR:Rel w0 ρ s W){n:Nat}{v v' :V}{x:Value}(hv:aE w0 ρ v x)(hw:aQ s 43 n v=some (some v'))(tb to vb:Nat){o0:Value}(hv0:W.cell? ⟨vb,0,none⟩=some (.pointer (some ⟨tb,to,none⟩)))(ht:W.cell? ⟨tb,to,none⟩=some o0)(hf:W.frozen? ⟨tb,to,none⟩=false):
  ∃ ys:List Value,aX w0 ρ v'.cells ys∧Calls Tryz.prog 160 #[x,.iface 197 (.pointer (some ⟨tb,to,none⟩)),.agg #[.pointer (some ⟨1,197,none⟩),.pointer (some ⟨vb,0,none⟩),.int .u64 150],.iface 330 (.agg #[.pointer (some ⟨1,43,none⟩)])] W fun ev w' =>ev=.returned (.bool true)∧w' =AA 43 197 tb to vb W ys:=by
 obtain⟨xv,k1,k2,k,k3⟩:=D4 (fQ hR (xY 197 vb)) (.pointer (some ⟨W.heap.size,0,none⟩)) ⟨tb,to,none⟩ n v x hv hw;obtain⟨n0,rfl,e2⟩:∃ n0,xv=.int .i64 n0∧aX w0 ρ v'.cells [.int .i64 n0]:=by
  cases v' <;>simp[dS]at k2;rename_i k m;cases k<;>simp[dS]at k2;cases k1;exact⟨m,rfl,aX.cons (.int .i64 m) .nil⟩
 refine⟨[.int .i64 n0],e2,?_⟩
 go_enter Tryz.func160,Tryz.ntmps160
 go_wp2
 refine wp_loop_rounds k ?_;refine k3 _ ?_ ..;refine fun j2 j4 j5 j7 j8 j9 j10 j11 j12 j13 j14 j15 j16 j17 j18 j19 j20 j21 j22 j23 j24 j25 j26 j27 j28 j29 j30 j31 j32 j33 j34 j35 j36 j37 j38 j39 j40 j41 j42 j43 j44 j45 j46 j47 j48 j49 j50 j51 j52 j53 j54 j55 j56 j57 j58 j59 j60 j61=>qec n0 tb to vb o0 W _ j2 j4 j5 j7 j8 j9 j10 j11 j12 j13 j14 j15 j16 j17 j18 j19 j20 j21 j22 j23 j24 j25 j26 j27 j28 j29 j30 j31 j32 j33 j34 j35 j36 j37 j38 j39 j40 j41 j42 j43 j44 j45 j46 j47 j48 j49 j50 j51 j52 j53 j54 j55 j56 j57 j58 j59 j60 j61 hv0 ht hf ?_;intro a h8 hd;simp only[Exit.inBlock];refine Kt h8 hd ?_;exact⟨rfl,rfl⟩
set_option maxHeartbeats 4000000 in
theorem Cp{w0:World}{ρ:RE.Ren}{s:St}{W:World}(hR:Rel w0 ρ s W){n:Nat}{v:V}{x:Value}(hv:aE w0 ρ v x)(hw:aQ s 43 n v=some none)(tb to vb:Nat):
  Calls Tryz.prog 160 #[x,.iface 197 (.pointer (some ⟨tb,to,none⟩)),.agg #[.pointer (some ⟨1,197,none⟩),.pointer (some ⟨vb,0,none⟩),.int .u64 150],.iface 330 (.agg #[.pointer (some ⟨1,43,none⟩)])] W fun ev w' =>ev=.returned (.bool false)∧w' =W.alloc (xY 197 vb):=by
 obtain⟨k,k3⟩:=B6 (fQ hR (xY 197 vb)) (.pointer (some ⟨W.heap.size,0,none⟩)) ⟨tb,to,none⟩ n v x hv hw
 go_enter Tryz.func160,Tryz.ntmps160
 go_wp2
 refine wp_loop_rounds k ?_;refine k3 _ ?_ ..;intro a h8 hd;simp only[Exit.inBlock];refine Kt h8 hd ?_;exact⟨rfl,rfl⟩
set_option maxHeartbeats 4000000 in
theorem Cd{w0:World}{ρ:RE.Ren}{s:St}{W:World}(hR:Rel w0 ρ s W){n:Nat}{v v' :V}{x:Value}(hv:aE w0 ρ v x)(hw:aQ s 191 n v=some (some v'))(tb to vb:Nat){o0:Value}(hv0:W.cell? ⟨vb,0,none⟩=some (.pointer (some ⟨tb,to,none⟩)))(ht:W.cell? ⟨tb,to,none⟩=some o0)(hf:W.frozen? ⟨tb,to,none⟩=false):
  ∃ ys:List Value,aX w0 ρ v'.cells ys∧Calls Tryz.prog 160 #[x,.iface 192 (.pointer (some ⟨tb,to,none⟩)),.agg #[.pointer (some ⟨1,192,none⟩),.pointer (some ⟨vb,0,none⟩),.int .u64 150],.iface 330 (.agg #[.pointer (some ⟨1,191,none⟩)])] W fun ev w' =>ev=.returned (.bool true)∧w' =AA 191 192 tb to vb W ys:=by
 obtain⟨xv,hxe,k1,k2⟩:∃ xv,x=.iface 191 xv∧aE w0 ρ v' xv∧dS 191 v' =true:=by
  cases n with
  |zero=>simp[aQ]at hw
  |succ n=>
   cases v with
   |iface tt u=>
    cases hv with
    |iface hu=>
    rename_i xu;simp only[aQ]at hw;cases h1:Nat.beq tt 191 with
    |true=>
     rw[h1]at hw;simp only[cond_true]at hw;have:=bS h1;subst this;cases h2:dS 191 u with
     |false=>rw[h2]at hw;simp at hw
     |true=>rw[h2]at hw;simp only[cond_true,ay]at hw;subst hw;exact⟨xu,rfl,hu,h2⟩
    |false=>
     rw[h1]at hw;simp only[cond_false]at hw;cases h3:Nat.beq tt 43<;>cases h4:Nat.beq tt 45<;>rw[h3,h4]at hw<;>simp at hw
   |_=>simp[aQ]at hw
 subst hxe;obtain⟨e0,rfl,e2⟩:∃ e0,xv=.pointer (some e0)∧aX w0 ρ v'.cells [.pointer (some e0)]:=by
  cases v' <;>simp[dS]at k2;cases k1 with
  |ptr h=>exact⟨_,rfl,aX.cons (.ptr h) .nil⟩
 refine⟨[.pointer (some e0)],e2,?_⟩
 go_enter Tryz.func160,Tryz.ntmps160
 go_wp2
 refine wp_loop_rounds 1 ?_;refine Zn e0 tb to vb o0 W _ _ _ _ _ _ _ _ _ _ _ _ _ _ _ _ _ _ _ _ _ _ _ _ _ _ _ _ _ _ _ _ _ _ _ _ _ _ _ _ _ _ _ _ _ _ _ _ _ _ _ _ _ _ _ _ _ _ _ hv0 ht hf ?_;intro a h8 hd;simp only[Exit.inBlock];refine Kt h8 hd ?_;exact⟨rfl,rfl⟩
set_option maxHeartbeats 4000000 in
theorem Au{w0:World}{ρ:RE.Ren}{s:St}{W:World}(hR:Rel w0 ρ s W){n:Nat}{v:V}{x:Value}(hv:aE w0 ρ v x)(hw:aQ s 191 n v=some none)(tb to vb:Nat):
  Calls Tryz.prog 160 #[x,.iface 192 (.pointer (some ⟨tb,to,none⟩)),.agg #[.pointer (some ⟨1,192,none⟩),.pointer (some ⟨vb,0,none⟩),.int .u64 150],.iface 330 (.agg #[.pointer (some ⟨1,191,none⟩)])] W fun ev w' =>ev=.returned (.bool false)∧w' =W.alloc (xY 192 vb):=by
 obtain⟨tt,xu,hxe,htt⟩:∃ tt xu,x=.iface tt xu∧(tt=45∨tt=43):=by
  cases n with
  |zero=>simp[aQ]at hw
  |succ n=>
   cases v with
   |iface tt u=>
    cases hv with
    |iface hu=>
    rename_i xu;simp only[aQ]at hw;cases h1:Nat.beq tt 191 with
    |true=>
     rw[h1]at hw;simp only[cond_true]at hw;cases h2:dS 191 u<;>rw[h2]at hw<;>simp at hw
    |false=>
     rw[h1]at hw;simp only[cond_false]at hw;cases h3:Nat.beq tt 43 with
     |true=>exact⟨tt,xu,rfl,.inr (bS h3)⟩
     |false=>
      cases h4:Nat.beq tt 45 with
      |true=>exact⟨tt,xu,rfl,.inl (bS h4)⟩
      |false=>rw[h3,h4]at hw;simp at hw
   |_=>simp[aQ]at hw
 subst hxe
 go_enter Tryz.func160,Tryz.ntmps160
 go_wp2
 refine wp_loop_rounds 1 ?_;rcases htt with rfl|rfl
 ·refine Lr xu _ _ _ _ _ _ _ _ _ _ _ _ _ _ _ _ _ _ _ _ _ _ _ _ _ _ _ _ _ _ _ _ _ _ _ _ _ _ _ _ _ _ _ _ _ _ _ _ _ _ _ _ _ _ _ _ _ _ _ _ _ _ ?_;intro a h8 hd;simp only[Exit.inBlock];refine Kt h8 hd ?_;exact⟨rfl,rfl⟩
 ·refine Ko xu _ _ _ _ _ _ _ _ _ _ _ _ _ _ _ _ _ _ _ _ _ _ _ _ _ _ _ _ _ _ _ _ _ _ _ _ _ _ _ _ _ _ _ _ _ _ _ _ _ _ _ _ _ _ _ _ _ _ _ _ _ _ ?_;intro a h8 hd;simp only[Exit.inBlock];refine Kt h8 hd ?_;exact⟨rfl,rfl⟩
end Go.Proofs.YtigkmaeaoaejiaaGreatDoor
