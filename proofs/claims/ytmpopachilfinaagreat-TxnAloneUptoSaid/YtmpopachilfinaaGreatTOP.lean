/- TxnAlone returns true of every list of operations, and leaves it. Condition: bulk at most 1048576. -/
import Derived.Test.YtmpopachilfinaaGreatPart15
import Derived.ProofKit
import Derived.OpenShut
import Derived.ChangeOld
import Derived.Below
import Derived.JoinedCond
namespace Go.Proofs.YtmpopachilfinaaGreat.AloneDone
open Go.ChangeShapes Go.WideShapes Go.ChangeAt Go.RowKit Go.RE
set_option linter.unusedVariables false
theorem own:ownKnob Tryz.prog.godebug=Option.none:=by kernel_rfl
theorem laidOut:laidOutB Tryz.prog=true:=by kernel_rfl
theorem bulk_of{H:Type}{l:List (DataW H)}(hk:Rows.uptoSmall H l=true):Rows.uptoBulkAll l≤1048576:=of_decide_eq_true hk
theorem walk{H:Type}{enc:TypeId×Value→H}{W:World}{v0:Value}{d0:DataW H}{p0:List MemPlace}(hc0:v0.cells.toList=[v0])
    (h0:DataW.Trod enc Tryz.prog W 0 (fun _=>true) true 22 v0 d0 p0) (b0:Rows.uptoBulk d0≤1048576):
    Calls Tryz.prog 4 #[v0] W fun e W' =>e=.returned (.bool true)∧Kept W W' :=by
  obtain⟨f0,k0⟩:=h0;obtain⟨vs0,us0,l0,⟨l,rfl,hl⟩,u0⟩:=qe7 qhr f0 _ _ k0 b0;rw[hc0]at l0;obtain⟨h',fl',hrun⟩:=t4 l (by unfold small;omega);exact qa2 hrun u0 l0
set_option maxRecDepth 100000 in
theorem lifted(os:Os)(started:os.Started)(H:Type)(enc:TypeId×Value→H)(F:Stop.Interp):
    ReturnsInHanded {} Tryz.checked os 4 .any ((Rows.OpenSpec.upto Rows.txnAloneSpec).pre6 enc Tryz.prog Tryz.f4 Rows.txnAloneUptoRow.domain false) (((Rows.OpenSpec.upto Rows.txnAloneSpec).at F).post enc Tryz.prog Tryz.f4 false true false false):=by
  refine returnsInHanded_of_cond (C:=Tryz.checked) (s:=Rows.OpenSpec.upto Rows.txnAloneSpec) (k:=Rows.uptoSmall) rfl own started (by kernel_rfl) Tryz.func4
    (OpenSpec.witness (enc:=enc) (C:=Tryz.checked) (s:=Rows.OpenSpec.upto Rows.txnAloneSpec) (k:=Rows.uptoSmall) rfl false ⟨#[],#[.slice Option.none 0 0],[]⟩ 8 (by kernel_rfl) (by kernel_rfl) (by kernel_rfl)
      (x:=([.nil],[],[])) (by kernel_rfl) rfl (by kernel_rfl)) ?_
  intro W base args ds gs before hval0 hW _ hk _;have hb:=bulk_of hk;have hval:∀ (j:Nat) t v,Tryz.f4.params[j]? =some t→args[j]? =some v→Value.okWide Tryz.prog W .any base t v:=hval0;have hW' :=hW;obtain⟨p,q,hA0,hV,rfl,hfz,hnd⟩:=hW;have hA:DataW.TrodAll enc Tryz.prog W 0 (fun _=>true) true Tryz.f4.params.toList args.toList ds p:=hA0;rw[Tryz.params4]at hA hval;obtain⟨v0,vs0,d0,ds0,p0,q0,hargs,rfl,rfl,h0,r0⟩:=trodAll_cons hA;obtain⟨rfl,rfl,rfl⟩:=trodAll_nil r0;obtain rfl:args= #[v0]:=by cases args;simp_all
  obtain⟨rfl,rfl⟩:=trodVars_none hV;obtain⟨a0,len0,cap0,rfl⟩:=okWide_slice Tryz.underlying22 (hval 0 22 v0 rfl rfl);have k0:=h0;have lt0:∀ x∈p0,x.block<W.heap.size:=by obtain⟨m,hm⟩:=k0;exact DataW.trod_lt m _ _ _ hm
  clear hA0 hval0;simp only[List.append_nil,Rows.uptoBulkAll]at hb;refine(walk (by simp[Value.cells]) h0 (by omega)).mono fun e W' ⟨he,bel⟩=> ?_;subst he;exact⟨_,rfl,_,_,_,[],_,[],hW',trodAll_mk1 (shut_bool Tryz.underlying4 _),(trodAll_cons_mk (Kept.trod laidOut (by kernel_rfl) (of_decide_eq_true (by kernel_rfl)) k0 bel lt0) trodAll_mk0),rfl,bel.frame _,fun h=>by cases h⟩
set_option maxHeartbeats 4000000 in
theorem over:Rows.txnAloneUptoRow.holds Tryz.pinned (Rows.OpenSpec.upto Rows.txnAloneSpec):=
  OpenClaim.holds_of_cond 4 Tryz.f4 rfl rfl rfl rfl rfl rfl rfl ⟨rfl,rfl,rfl,rfl,rfl⟩ rfl rfl rfl rfl rfl (by as_aux_lemma=>kernel_rfl) Tryz.func4 (by as_aux_lemma=>kernel_rfl)
    (of_decide_eq_true (by as_aux_lemma=>kernel_rfl)) (by as_aux_lemma=>unfold Func.isWrapper;first|(rw[if_pos (by decide+kernel)];kernel_rfl)|(rw[if_neg (by decide+kernel)];exact⟨rfl,rfl⟩))
    (fun os started H enc _ F=>lifted os started H enc F)
theorem proved:Rows.TxnAloneUptoSaid:=
  over
#print axioms proved
end Go.Proofs.YtmpopachilfinaaGreat.AloneDone
