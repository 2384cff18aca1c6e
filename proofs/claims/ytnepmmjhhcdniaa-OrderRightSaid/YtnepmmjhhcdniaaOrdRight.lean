/- For every list of those that committed, OrderRight returns true, and its argument reads behind the call as it read before. Conditions: none. -/
import Derived.Test.YtnepmmjhhcdniaaOrdP
import Derived.Test.YtnepmmjhhcdniaaOrdZ
import Derived.WalkKit
import Derived.ProofKit
import Derived.OpenShut
import Derived.ChangeOld
import Derived.Below
namespace Go.Proofs.Ytnepmmjhhcdniaa.RightDone
open Go.ChangeShapes Go.WideShapes Go.ChangeAt Go.RowKit Go.RE
set_option linter.unusedVariables false
theorem own : ownKnob Try.prog.godebug = none := by kernel_rfl
theorem laidOut : laidOutB Try.prog = true := by kernel_rfl

theorem walk {H : Type} {enc : TypeId × Value → H} {W : World} {v0 : Value} {d : DataW H} {ps : List MemPlace} (hc : v0.cells.toList = [v0]) (h0 : DataW.Trod enc Try.prog W 0 (fun _ => true) true 22 v0 d ps) :
    Calls Try.prog 6 #[v0] W fun e W' => e = .returned (.bool true) ∧ Kept W W' := by
  obtain ⟨fuel, hf⟩ := h0
  obtain ⟨vs, hl, v, l, rfl, hd⟩ := op22 fuel _ _ hf
  rw [hc] at hl
  obtain ⟨B, hB⟩ : ∃ B : Nat, B = maxLen := ⟨_, rfl⟩
  rw [← hB] at hd
  have hB' : B ≤ 9223372036854775807 := by rw [hB]; exact Nat.le_of_eq rfl
  have hrun : ∃ n, callP cTab noM n 6 [v] noSt fun v _ => v = .bool true := ⟨4000 + (B + B), ok6 hd hB' (by omega) fun _ _ => rfl⟩
  obtain ⟨n, hrun⟩ := hrun
  refine (law_calls (args := #[v0]) cTab_sound noM_sound mixed hl hrun).mono fun e W' h => ?_
  obtain ⟨⟨x, ρ', rfl, hx⟩, hk⟩ := h
  cases hx
  exact ⟨rfl, hk⟩

set_option maxRecDepth 100000 in
theorem lifted (os : Os) (started : os.Started) (H : Type) (enc : TypeId × Value → H) :
    ReturnsInHanded {} Try.checked os 6 .any (Rows.orderRightSpec.pre6 enc Try.prog Try.f6 Rows.orderRightRow.domain false) (Rows.orderRightSpec.post enc Try.prog Try.f6 false true false false) := by
  refine returnsInHanded_of_change (C := Try.checked) own started (by kernel_rfl) Try.func6
    (ChangeSpec.witness6 (enc := enc) (C := Try.checked) false ⟨#[], #[.slice none 0 0], []⟩ 8 (by kernel_rfl) (by kernel_rfl) (by kernel_rfl) (by kernel_rfl)) ?_
  intro W base args ds gs before hval0 hW hcnd _
  have hval : ∀ (j : Nat) t v, Try.f6.params[j]? = some t → args[j]? = some v → Value.okWide Try.prog W .any base t v := hval0
  have hW' := hW
  obtain ⟨p, q, hA0, hV, rfl, hfz, hnd⟩ := hW
  have hA : DataW.TrodAll enc Try.prog W 0 (fun _ => true) true Try.f6.params.toList args.toList ds p := hA0
  rw [Try.params6] at hA hval
  obtain ⟨v0, vs0, d0, ds0, p0, q0, hargs, rfl, rfl, h0, r0⟩ := trodAll_cons hA
  obtain ⟨rfl, rfl, rfl⟩ := trodAll_nil r0
  obtain rfl : args = #[v0] := by cases args; simp_all
  obtain ⟨rfl, rfl⟩ := trodVars_none hV
  obtain ⟨a0, len0, cap0, rfl⟩ := okWide_slice Try.underlying22 (hval 0 22 v0 rfl rfl)
  have k0 := h0
  have lt0 : ∀ x ∈ p0, x.block < W.heap.size := by obtain ⟨m, hm⟩ := k0; exact DataW.trod_lt m _ _ _ hm
  clear hA0 hval0
  refine (walk (by simp [Value.cells]) h0).mono fun e W' ⟨he, bel⟩ => ?_
  subst he
  exact ⟨_, rfl, _, _, _, [], _, [], hW', trodAll_mk1 (shut_bool Try.underlying4 _), (trodAll_cons_mk (Kept.trod laidOut (by kernel_rfl) (of_decide_eq_true (by kernel_rfl)) k0 bel lt0) trodAll_mk0), rfl, bel.frame _, fun h => by cases h⟩

theorem over : Rows.orderRightRow.holds Try.pinned (OpenSpec.ofChange Rows.orderRightSpec) :=
  OpenClaim.holds_of_wide 6 Try.f6 rfl rfl rfl rfl rfl rfl rfl ⟨rfl, rfl, rfl, rfl, rfl⟩ rfl rfl rfl rfl rfl (by kernel_rfl) Try.func6 (by kernel_rfl)
    (of_decide_eq_true (by kernel_rfl)) (by unfold Func.isWrapper; first | (rw [if_pos (by decide +kernel)]; kernel_rfl) | (rw [if_neg (by decide +kernel)]; exact ⟨rfl, rfl⟩))
    (fun os started H enc _ => lifted os started H enc)

theorem proved : Rows.OrderRightSaid := over
#print axioms proved
end Go.Proofs.Ytnepmmjhhcdniaa.RightDone
