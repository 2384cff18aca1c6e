/- For every two lists of operations, every write and every data, together of bulk at most 1048576, TxnFirst returns true, and its arguments read behind the call as they read before. Conditions: the bound. -/
import Derived.Test.YtmpopachilfinaaGreatPart20
import Derived.Test.YtmpopachilfinaaGreatPart21
import Derived.WalkKit
import Derived.ProofKit
import Derived.OpenShut
import Derived.ChangeOld
import Derived.Below
import Derived.JoinedCond
namespace Go.Proofs.YtmpopachilfinaaGreat.FirstDone
open Go.ChangeShapes Go.WideShapes Go.ChangeAt Go.RowKit Go.RE
set_option linter.unusedVariables false
theorem own:ownKnob Tryz.prog.godebug=Option.none:=by kernel_rfl
theorem laidOut:laidOutB Tryz.prog=true:=by kernel_rfl
theorem bulk_of{H:Type}{l:List (DataW H)}(hk:Rows.uptoSmall H l=true):Rows.uptoBulkAll l≤1048576:=of_decide_eq_true hk
theorem walk{H:Type}{enc:TypeId×Value→H}{W:World}{v0 v1 v3:Value}{a2:Array Value}{d0 d1 d2 d3:DataW H}{p0 p1 p2 p3:List MemPlace}(hc0:v0.cells.toList=[v0])(hc1:v1.cells.toList=[v1])(hc3:v3.cells.toList=[v3])
    (h0:DataW.Trod enc Tryz.prog W 0 (fun _=>true) true 22 v0 d0 p0) (h1:DataW.Trod enc Tryz.prog W 0 (fun _=>true) true 22 v1 d1 p1) (h2:DataW.Trod enc Tryz.prog W 0 (fun _=>true) true 25 (.agg a2) d2 p2) (h3:DataW.Trod enc Tryz.prog W 0 (fun _=>true) true 23 v3 d3 p3)
    (b0:Rows.uptoBulk d0≤1048576) (b1:Rows.uptoBulk d1≤1048576) (b2:Rows.uptoBulk d2≤1048576) (b3:Rows.uptoBulk d3≤1048576):
    Calls Tryz.prog 3 #[v0,v1,.agg a2,v3] W fun e W' =>e=.returned (.bool true)∧Kept W W' :=by
  obtain⟨f0,k0⟩:=h0;obtain⟨f1,k1⟩:=h1;obtain⟨f2,k2⟩:=h2;obtain⟨f3,k3⟩:=h3;obtain⟨vs0,us0,l0,⟨l,rfl,hl⟩,u0⟩:=X4 Wl f0 _ _ k0 b0;obtain⟨vs1,us1,l1,⟨m,rfl,hm⟩,u1⟩:=X4 Wl f1 _ _ k1 b1;obtain⟨vs2,us2,l2,⟨w,rfl⟩,u2⟩:=Mo Wl f2 _ _ k2 b2;obtain⟨vs3,us3,l3,⟨d,rfl,hd⟩,u3⟩:=Mn Wl f3 _ _ k3 b3;rw[hc0]at l0;rw[hc1]at l1;rw[hc3]at l3;have la:aR W qg [.agg vs2] [.agg a2]:=aR.cons (.agg (by simpa[Value.cells]using l2.1) (fun i h h' =>l2.2 i h (by simpa[Value.cells]using h'))) .nil;have ua:gw [.agg (dI w)] [.agg vs2]:=gw.one fun σ Z=> .agg (u2 σ Z).1 (u2 σ Z).2;have hl4:aR W qg (vs0++(vs1++([.agg vs2]++vs3))) (#[v0,v1,.agg a2,v3]:Array Value).toList:=l0.append (l1.append (la.append l3));obtain⟨h',fl',hrun⟩:=t3' l m w d (by unfold small;omega) (by unfold small;omega);exact qa0 hrun (u0.append (u1.append (ua.append u3))) hl4
set_option maxRecDepth 100000 in
theorem lifted(os:Os)(started:os.Started)(H:Type)(enc:TypeId×Value→H)(F:Stop.Interp):
    ReturnsInHanded {} Tryz.checked os 3 .any ((Rows.OpenSpec.upto Rows.txnFirstSpec).pre6 enc Tryz.prog Tryz.f3 Rows.txnFirstUptoRow.domain false) (((Rows.OpenSpec.upto Rows.txnFirstSpec).at F).post enc Tryz.prog Tryz.f3 false true false false):=by
  refine returnsInHanded_of_cond (C:=Tryz.checked) (s:=Rows.OpenSpec.upto Rows.txnFirstSpec) (k:=Rows.uptoSmall) rfl own started (by kernel_rfl) Tryz.func3
    (OpenSpec.witness (enc:=enc) (C:=Tryz.checked) (s:=Rows.OpenSpec.upto Rows.txnFirstSpec) (k:=Rows.uptoSmall) rfl false ⟨#[],#[.slice Option.none 0 0,.slice Option.none 0 0,.agg #[.string ⟨#[]⟩,.bool false,.slice Option.none 0 0],.slice Option.none 0 0],[]⟩ 8 (by kernel_rfl) (by kernel_rfl) (by kernel_rfl)
      (x:=([.nil,.nil,.agg [.lit (.string []),.lit (.bool false),.nil],.nil],[],[])) (by kernel_rfl) rfl (by kernel_rfl)) ?_
  intro W base args ds gs before hval0 hW _ hk _;have hb:=bulk_of hk;have hval:∀ (j:Nat) t v,Tryz.f3.params[j]? =some t→args[j]? =some v→Value.okWide Tryz.prog W .any base t v:=hval0;have hW' :=hW;obtain⟨p,q,hA0,hV,rfl,hfz,hnd⟩:=hW;have hA:DataW.TrodAll enc Tryz.prog W 0 (fun _=>true) true Tryz.f3.params.toList args.toList ds p:=hA0;rw[Tryz.params3]at hA hval;obtain⟨v0,vs0,d0,ds0,p0,q0,hargs,rfl,rfl,h0,r0⟩:=trodAll_cons hA;obtain⟨v1,vs1,d1,ds1,p1,q1,rfl,rfl,rfl,h1,r1⟩:=trodAll_cons r0;obtain⟨v2,vs2,d2,ds2,p2,q2,rfl,rfl,rfl,h2,r2⟩:=trodAll_cons r1;obtain⟨v3,vs3,d3,ds3,p3,q3,rfl,rfl,rfl,h3,r3⟩:=trodAll_cons r2;obtain⟨rfl,rfl,rfl⟩:=trodAll_nil r3;obtain rfl:args= #[v0,v1,v2,v3]:=by cases args;simp_all
  obtain⟨rfl,rfl⟩:=trodVars_none hV;obtain⟨a0,len0,cap0,rfl⟩:=okWide_slice Tryz.underlying22 (hval 0 22 v0 rfl rfl);obtain⟨a1,len1,cap1,rfl⟩:=okWide_slice Tryz.underlying22 (hval 1 22 v1 rfl rfl);obtain⟨a2,rfl,_⟩:=okWide_struct Tryz.underlying25 (hval 2 25 v2 rfl rfl);obtain⟨a3,len3,cap3,rfl⟩:=okWide_slice Tryz.underlying23 (hval 3 23 v3 rfl rfl);have k0:=h0;have lt0:∀ x∈p0,x.block<W.heap.size:=by obtain⟨m,hm⟩:=k0;exact DataW.trod_lt m _ _ _ hm
  have k1:=h1;have lt1:∀ x∈p1,x.block<W.heap.size:=by obtain⟨m,hm⟩:=k1;exact DataW.trod_lt m _ _ _ hm
  have k2:=h2;have lt2:∀ x∈p2,x.block<W.heap.size:=by obtain⟨m,hm⟩:=k2;exact DataW.trod_lt m _ _ _ hm
  have k3:=h3;have lt3:∀ x∈p3,x.block<W.heap.size:=by obtain⟨m,hm⟩:=k3;exact DataW.trod_lt m _ _ _ hm
  clear hA0 hval0;simp only[List.append_nil,Rows.uptoBulkAll]at hb;refine(walk (by simp[Value.cells]) (by simp[Value.cells]) (by simp[Value.cells]) h0 h1 h2 h3 (by omega) (by omega) (by omega) (by omega)).mono fun e W' ⟨he,bel⟩=> ?_;subst he;exact⟨_,rfl,_,_,_,[],_,[],hW',trodAll_mk1 (shut_bool Tryz.underlying4 _),(trodAll_cons_mk (Kept.trod laidOut (by kernel_rfl) (of_decide_eq_true (by kernel_rfl)) k0 bel lt0) (trodAll_cons_mk (Kept.trod laidOut (by kernel_rfl) (of_decide_eq_true (by kernel_rfl)) k1 bel lt1) (trodAll_cons_mk (Kept.trod laidOut (by kernel_rfl) (of_decide_eq_true (by kernel_rfl)) k2 bel lt2) (trodAll_cons_mk (Kept.trod laidOut (by kernel_rfl) (of_decide_eq_true (by kernel_rfl)) k3 bel lt3) trodAll_mk0)))),rfl,bel.frame _,fun h=>by cases h⟩
set_option maxHeartbeats 4000000 in
theorem over:Rows.txnFirstUptoRow.holds Tryz.pinned (Rows.OpenSpec.upto Rows.txnFirstSpec):=
  OpenClaim.holds_of_cond 3 Tryz.f3 rfl rfl rfl rfl rfl rfl rfl ⟨rfl,rfl,rfl,rfl,rfl⟩ rfl rfl rfl rfl rfl (by as_aux_lemma=>kernel_rfl) Tryz.func3 (by as_aux_lemma=>kernel_rfl)
    (of_decide_eq_true (by as_aux_lemma=>kernel_rfl)) (by as_aux_lemma=>unfold Func.isWrapper;first|(rw[if_pos (by decide+kernel)];kernel_rfl)|(rw[if_neg (by decide+kernel)];exact⟨rfl,rfl⟩))
    (fun os started H enc _ F=>lifted os started H enc F)
theorem proved:Rows.TxnFirstUptoSaid:=
  over
#print axioms proved
end Go.Proofs.YtmpopachilfinaaGreat.FirstDone
