/- TxnNoEffect returns true of all limits and every list of operations, and leaves them. Condition: bulk at most 1048576. -/
import Derived.Test.YtmpopachilfinaaGreatPart15
import Derived.ProofKit
import Derived.OpenShut
import Derived.ChangeOld
import Derived.Below
import Derived.JoinedCond
namespace Go.Proofs.YtmpopachilfinaaGreat.EffectDone
open Go.ChangeShapes Go.WideShapes Go.ChangeAt Go.RowKit Go.RE
set_option linter.unusedVariables false
theorem own:ownKnob Tryz.prog.godebug=Option.none:=by kernel_rfl
theorem laidOut:laidOutB Tryz.prog=true:=by kernel_rfl
theorem bulk_of{H:Type}{l:List (DataW H)}(hk:Rows.uptoSmall H l=true):Rows.uptoBulkAll l≤1048576:=of_decide_eq_true hk
theorem walk{H:Type}{enc:TypeId×Value→H}{W:World}{v1:Value}{a0:Array Value}{d0 d1:DataW H}{p0 p1:List MemPlace}(hc1:v1.cells.toList=[v1])
    (h0:DataW.Trod enc Tryz.prog W 0 (fun _=>true) true 32 (.agg a0) d0 p0) (h1:DataW.Trod enc Tryz.prog W 0 (fun _=>true) true 22 v1 d1 p1) (b0:Rows.uptoBulk d0≤1048576) (b1:Rows.uptoBulk d1≤1048576):
    Calls Tryz.prog 5 #[.agg a0,v1] W fun e W' =>e=.returned (.bool true)∧Kept W W' :=by
  obtain⟨f0,k0⟩:=h0;obtain⟨f1,k1⟩:=h1;obtain⟨vs0,us0,l0,⟨m,rfl⟩,u0⟩:=S4 qgZ f0 _ _ k0 b0;obtain⟨vs1,us1,l1,⟨l,rfl,hl⟩,u1⟩:=qh5 qgZ f1 _ _ k1 b1;rw[hc1]at l1;have la:aV W sj [.agg vs0] [.agg a0]:=aV.cons (.agg (by simpa[Value.cells]using l0.1) (fun i h h' =>l0.2 i h (by simpa[Value.cells]using h'))) .nil;have ua:gQ [.agg (pE m)] [.agg vs0]:=gQ.one fun σ Z=> .agg (u0 σ Z).1 (u0 σ Z).2;obtain⟨h',fl',hrun⟩:=t5 m l (by unfold small;omega);exact qdX hrun (ua.append u1) (la.append l1)
set_option maxRecDepth 100000 in
theorem lifted(os:Os)(started:os.Started)(H:Type)(enc:TypeId×Value→H)(F:Stop.Interp):
    ReturnsInHanded {} Tryz.checked os 5 .any ((Rows.OpenSpec.upto Rows.txnNoEffectSpec).pre6 enc Tryz.prog Tryz.f5 Rows.txnNoEffectUptoRow.domain false) (((Rows.OpenSpec.upto Rows.txnNoEffectSpec).at F).post enc Tryz.prog Tryz.f5 false true false false):=by
  refine returnsInHanded_of_cond (C:=Tryz.checked) (s:=Rows.OpenSpec.upto Rows.txnNoEffectSpec) (k:=Rows.uptoSmall) rfl own started (by kernel_rfl) Tryz.func5
    (OpenSpec.witness (enc:=enc) (C:=Tryz.checked) (s:=Rows.OpenSpec.upto Rows.txnNoEffectSpec) (k:=Rows.uptoSmall) rfl false ⟨#[],#[.agg #[.int .i64 0,.int .i64 0,.int .i64 0,.int .i64 0,.int .i64 0,.int .i64 0,.int .u64 0],.slice Option.none 0 0],[]⟩ 8 (by kernel_rfl) (by kernel_rfl) (by kernel_rfl)
      (x:=([.agg [.lit (.int .i64 0),.lit (.int .i64 0),.lit (.int .i64 0),.lit (.int .i64 0),.lit (.int .i64 0),.lit (.int .i64 0),.lit (.int .u64 0)],.nil],[],[])) (by kernel_rfl) rfl (by kernel_rfl)) ?_
  intro W base args ds gs before hval0 hW _ hk _;have hb:=bulk_of hk;have hval:∀ (j:Nat) t v,Tryz.f5.params[j]? =some t→args[j]? =some v→Value.okWide Tryz.prog W .any base t v:=hval0;have hW' :=hW;obtain⟨p,q,hA0,hV,rfl,hfz,hnd⟩:=hW;have hA:DataW.TrodAll enc Tryz.prog W 0 (fun _=>true) true Tryz.f5.params.toList args.toList ds p:=hA0;rw[Tryz.params5]at hA hval;obtain⟨v0,vs0,d0,ds0,p0,q0,hargs,rfl,rfl,h0,r0⟩:=trodAll_cons hA;obtain⟨v1,vs1,d1,ds1,p1,q1,rfl,rfl,rfl,h1,r1⟩:=trodAll_cons r0;obtain⟨rfl,rfl,rfl⟩:=trodAll_nil r1;obtain rfl:args= #[v0,v1]:=by cases args;simp_all
  obtain⟨rfl,rfl⟩:=trodVars_none hV;obtain⟨a0,rfl,_⟩:=okWide_struct Tryz.underlying32 (hval 0 32 v0 rfl rfl);obtain⟨a1,len1,cap1,rfl⟩:=okWide_slice Tryz.underlying22 (hval 1 22 v1 rfl rfl);have k0:=h0;have lt0:∀ x∈p0,x.block<W.heap.size:=by obtain⟨m,hm⟩:=k0;exact DataW.trod_lt m _ _ _ hm
  have k1:=h1;have lt1:∀ x∈p1,x.block<W.heap.size:=by obtain⟨m,hm⟩:=k1;exact DataW.trod_lt m _ _ _ hm
  clear hA0 hval0;simp only[List.append_nil,Rows.uptoBulkAll]at hb;refine(walk (by simp[Value.cells]) h0 h1 (by omega) (by omega)).mono fun e W' ⟨he,bel⟩=> ?_;subst he;exact⟨_,rfl,_,_,_,[],_,[],hW',trodAll_mk1 (shut_bool Tryz.underlying4 _),(trodAll_cons_mk (Kept.trod laidOut (by kernel_rfl) (of_decide_eq_true (by kernel_rfl)) k0 bel lt0) (trodAll_cons_mk (Kept.trod laidOut (by kernel_rfl) (of_decide_eq_true (by kernel_rfl)) k1 bel lt1) trodAll_mk0)),rfl,bel.frame _,fun h=>by cases h⟩
set_option maxHeartbeats 4000000 in
theorem over:Rows.txnNoEffectUptoRow.holds Tryz.pinned (Rows.OpenSpec.upto Rows.txnNoEffectSpec):=
  OpenClaim.holds_of_cond 5 Tryz.f5 rfl rfl rfl rfl rfl rfl rfl ⟨rfl,rfl,rfl,rfl,rfl⟩ rfl rfl rfl rfl rfl (by as_aux_lemma=>kernel_rfl) Tryz.func5 (by as_aux_lemma=>kernel_rfl)
    (of_decide_eq_true (by as_aux_lemma=>kernel_rfl)) (by as_aux_lemma=>unfold Func.isWrapper;first|(rw[if_pos (by decide+kernel)];kernel_rfl)|(rw[if_neg (by decide+kernel)];exact⟨rfl,rfl⟩))
    (fun os started H enc _ F=>lifted os started H enc F)
theorem proved:Rows.TxnNoEffectUptoSaid:=
  over
#print axioms proved
end Go.Proofs.YtmpopachilfinaaGreat.EffectDone
