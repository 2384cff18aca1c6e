/- For every list of pairs and every list of operations, together of bulk at most 1048576, CacheLearns returns true, and its arguments read behind the call as they read before. Conditions: the bound; errors.errorType holds what the program's text lays (the card ties it). -/
import Derived.Test.YtigkmaeaoaejiaaGreatDoorPart25
namespace Go.Proofs.YtigkmaeaoaejiaaGreatDoor.LearnsDone
open Go.ChangeShapes Go.WideShapes Go.ChangeAt Go.RowKit Go.RE Go.Proofs.YtigkmaeaoaejiaaGreatDoor.Ends
set_option linter.unusedVariables false
set_option maxHeartbeats 4000000 in
theorem said:Rows.CacheLearnsUptoSaid:=
  OpenClaim.holds_of_cond 9 Tryz.f9 rfl rfl rfl rfl rfl rfl rfl ⟨rfl,rfl,rfl,rfl,rfl⟩ rfl rfl rfl rfl rfl (by as_aux_lemma=>kernel_rfl) Tryz.func9 (by as_aux_lemma=>kernel_rfl)
    (of_decide_eq_true (by as_aux_lemma=>kernel_rfl)) (by as_aux_lemma=>unfold Func.isWrapper;first|(rw[if_pos (by decide+kernel)];kernel_rfl)|(rw[if_neg (by decide+kernel)];exact⟨rfl,rfl⟩))
    (fun os started H enc _ F=>by rw[OpenClaim.pre_eq_preRow];exact lifted os started H enc F)
theorem plain(f:FuncId)(fn:Func)(hf:Tryz.pinned.checked.prog.funcNamed "conductor/conductorlaw16.CacheLearns" =some f)(hfn:Tryz.pinned.checked.prog.funcs[f]? =some fn):
    true=Tryz.pinned.checked.prog.looks []∧∀ (j:Nat) t,fn.params[j]? =some t→Tryz.pinned.checked.prog.wantsStandIn t=false:=by
  obtain rfl:f=9:=Option.some.inj ((show Tryz.prog.funcNamed "conductor/conductorlaw16.CacheLearns" =some 9 by kernel_rfl).symm.trans hf)|>.symm;obtain rfl:fn=Tryz.f9:=(Option.some.inj (Tryz.func9.symm.trans hfn)).symm;refine⟨by kernel_rfl,fun j t ht=> ?_⟩;rw[Tryz.params9]at ht;have hm:t=22∨t=66:=by simpa using Array.mem_of_getElem? ht
  rcases hm with rfl|rfl
  · exact(show Tryz.prog.wantsStandIn 22=false by kernel_rfl)
  · exact(show Tryz.prog.wantsStandIn 66=false by kernel_rfl)
theorem proved:Rows.CacheLearnsUptoCardSaid:=
  Claim7.holds_tied_plain_at .later [] _ _ _ _ said (fun _ h=>by cases h) (by kernel_rfl) (fun _ h=>by cases h) cacheLearnsUpto_row_tie rfl ⟨rfl,rfl⟩ (by kernel_rfl) rfl plain (by kernel_rfl)
#print axioms proved
end Go.Proofs.YtigkmaeaoaejiaaGreatDoor.LearnsDone
