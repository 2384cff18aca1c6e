/- For every list of those that committed and every list of numbers, OrderEdges returns true, and its arguments read behind the call as they read before. Conditions: none. -/
import Derived.Test.YtnepmmjhhcdniaaOrdP
import Derived.Test.YtnepmmjhhcdniaaOrdT
import Derived.WalkKit
import Derived.ProofKit
import Derived.OpenShut
import Derived.ChangeOld
import Derived.Below
namespace Go.Proofs.Ytnepmmjhhcdniaa.EdgesDone
open Go.ChangeShapes Go.WideShapes Go.ChangeAt Go.RowKit Go.RE
set_option linter.unusedVariables false
theorem own : ownKnob Try.prog.godebug = none := by kernel_rfl
theorem laidOut : laidOutB Try.prog = true := by kernel_rfl
theorem op25 {H : Type} {enc : TypeId × Value → H} {W : World} : Opens enc Try.prog W 25 fun vs => ∃ (v : V) (l : List Int), vs = [v] ∧ SlA 1 v (l.map ic) := by
  intro fuel cs x h
  obtain ⟨vs, h1, h2⟩ := opens_slice (c := 1) Try.underlying25 (by kernel_rfl) (by decide) (opens_int Try.underlying3) fuel cs x h
  rcases h2 with rfl | ⟨rows, hr, hm, rfl⟩
  · exact ⟨_, h1, .nils, [], rfl, .inl ⟨rfl, rfl⟩⟩
  · obtain ⟨l, rfl, _⟩ := rows_map (f := ic) (p := fun _ => True) (rows := rows) fun r hx => let ⟨p, hp, _⟩ := (hr r hx).1; ⟨p, hp, trivial⟩
    exact ⟨_, h1, _, l, rfl, .inr ⟨_, 0, rfl, rowsAt_flatten fun r hx => (hr r hx).2⟩⟩
theorem walk {H : Type} {enc : TypeId × Value → H} {W : World} {v0 v1 : Value} {d d1 : DataW H} {ps ps1 : List MemPlace} (hc : v0.cells.toList = [v0]) (hc1 : v1.cells.toList = [v1])
    (h0 : DataW.Trod enc Try.prog W 0 (fun _ => true) true 22 v0 d ps) (h1 : DataW.Trod enc Try.prog W 0 (fun _ => true) true 25 v1 d1 ps1) :
    Calls Try.prog 5 #[v0, v1] W fun e W' => e = .returned (.bool true) ∧ Kept W W' := by
  obtain ⟨fuel, hf⟩ := h0
  obtain ⟨fuel1, hf1⟩ := h1
  obtain ⟨vs, hl, v, l, rfl, hd⟩ := op22 fuel _ _ hf
  obtain ⟨us, hl1, u, pl, rfl, hu⟩ := op25 fuel1 _ _ hf1
  rw [hc] at hl
  rw [hc1] at hl1
  have hl3 : LRel W noRen [v, u] [v0, v1] := hl.append hl1
  obtain ⟨B, hB⟩ : ∃ B : Nat, B = maxLen := ⟨_, rfl⟩
  rw [← hB] at hd
  have hB' : B ≤ 9223372036854775807 := by rw [hB]; exact Nat.le_of_eq rfl
  have hrun : ∃ n, callP cTab noM n 5 [v, u] noSt fun v _ => v = .bool true := ⟨4000 + (B + B), ok5 hd hu hB' (by omega) fun _ _ => rfl⟩
  obtain ⟨n, hrun⟩ := hrun
  refine (law_calls (args := #[v0, v1]) cTab_sound noM_sound mixed hl3 hrun).mono fun e W' h => ?_
  obtain ⟨⟨x, ρ', rfl, hx⟩, hk⟩ := h
  cases hx
  exact ⟨rfl, hk⟩

set_option maxRecDepth 100000 in
theorem lifted (os : Os) (started : os.Started) (H : Type) (enc : TypeId × Value → H) :
    ReturnsInHanded {} Try.checked os 5 .any (Rows.orderEdgesSpec.pre6 enc Try.prog Try.f5 Rows.orderEdgesRow.domain false) (Rows.orderEdgesSpec.post enc Try.prog Try.f5 false true false false) := by
  refine returnsInHanded_of_change (C := Try.checked) own started (by kernel_rfl) Try.func5
    (ChangeSpec.witness6 (enc := enc) (C := Try.checked) false ⟨#[], #[.slice none 0 0, .slice none 0 0], []⟩ 8 (by kernel_rfl) (by kernel_rfl) (by kernel_rfl) (by kernel_rfl)) ?_
  intro W base args ds gs before hval0 hW hcnd _
  have hval : ∀ (j : Nat) t v, Try.f5.params[j]? = some t → args[j]? = some v → Value.okWide Try.prog W .any base t v := hval0
  have hW' := hW
  obtain ⟨p, q, hA0, hV, rfl, hfz, hnd⟩ := hW
  have hA : DataW.TrodAll enc Try.prog W 0 (fun _ => true) true Try.f5.params.toList args.toList ds p := hA0
  rw [Try.params5] at hA hval
  obtain ⟨v0, vs0, d0, ds0, p0, q0, hargs, rfl, rfl, h0, r0⟩ := trodAll_cons hA
  obtain ⟨v1, vs1, d1, ds1, p1, q1, rfl, rfl, rfl, h1, r1⟩ := trodAll_cons r0
  obtain ⟨rfl, rfl, rfl⟩ := trodAll_nil r1
  obtain rfl : args = #[v0, v1] := by cases args; simp_all
  obtain ⟨rfl, rfl⟩ := trodVars_none hV
  obtain ⟨a0, len0, cap0, rfl⟩ := okWide_slice Try.underlying22 (hval 0 22 v0 rfl rfl)
  obtain ⟨a1, len1, cap1, rfl⟩ := okWide_slice Try.underlying25 (hval 1 25 v1 rfl rfl)
  have k0 := h0
  have k1 := h1
  have lt0 : ∀ x ∈ p0, x.block < W.heap.size := by obtain ⟨m, hm⟩ := k0; exact DataW.trod_lt m _ _ _ hm
  have lt1 : ∀ x ∈ p1, x.block < W.heap.size := by obtain ⟨m, hm⟩ := k1; exact DataW.trod_lt m _ _ _ hm
  clear hA0 hval0
  refine (walk (by simp [Value.cells]) (by simp [Value.cells]) h0 h1).mono fun e W' ⟨he, bel⟩ => ?_
  subst he
  exact ⟨_, rfl, _, _, _, [], _, [], hW', trodAll_mk1 (shut_bool Try.underlying4 _), (trodAll_cons_mk (Kept.trod laidOut (by kernel_rfl) (of_decide_eq_true (by kernel_rfl)) k0 bel lt0) (trodAll_cons_mk (Kept.trod laidOut (by kernel_rfl) (of_decide_eq_true (by kernel_rfl)) k1 bel lt1) trodAll_mk0)), rfl, bel.frame _, fun h => by cases h⟩

theorem over : Rows.orderEdgesRow.holds Try.pinned (OpenSpec.ofChange Rows.orderEdgesSpec) :=
  OpenClaim.holds_of_wide 5 Try.f5 rfl rfl rfl rfl rfl rfl rfl ⟨rfl, rfl, rfl, rfl, rfl⟩ rfl rfl rfl rfl rfl (by kernel_rfl) Try.func5 (by kernel_rfl)
    (of_decide_eq_true (by kernel_rfl)) (by unfold Func.isWrapper; first | (rw [if_pos (by decide +kernel)]; kernel_rfl) | (rw [if_neg (by decide +kernel)]; exact ⟨rfl, rfl⟩))
    (fun os started H enc _ => lifted os started H enc)

theorem proved : Rows.OrderEdgesSaid := over
#print axioms proved
end Go.Proofs.Ytnepmmjhhcdniaa.EdgesDone
