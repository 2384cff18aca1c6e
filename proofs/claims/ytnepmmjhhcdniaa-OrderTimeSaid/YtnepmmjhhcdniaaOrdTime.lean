/- For every list of those that committed and any two numbers, OrderTime returns true, and its arguments read behind the call as they read before. Conditions: none. -/
import Derived.Test.YtnepmmjhhcdniaaOrdP
import Derived.Test.YtnepmmjhhcdniaaOrdJ
import Derived.WalkKit
import Derived.ProofKit
import Derived.OpenShut
import Derived.ChangeOld
import Derived.Below
namespace Go.Proofs.Ytnepmmjhhcdniaa.TimeDone
open Go.ChangeShapes Go.WideShapes Go.ChangeAt Go.RowKit Go.RE
set_option linter.unusedVariables false
theorem own : ownKnob Try.prog.godebug = none := by kernel_rfl
theorem laidOut : laidOutB Try.prog = true := by kernel_rfl

theorem walk {H : Type} {enc : TypeId × Value → H} {W : World} {v0 : Value} {d : DataW H} {ps : List MemPlace} (i k : Int) (hc : v0.cells.toList = [v0]) (h0 : DataW.Trod enc Try.prog W 0 (fun _ => true) true 22 v0 d ps) :
    Calls Try.prog 4 #[v0, .int .i64 i, .int .i64 k] W fun e W' => e = .returned (.bool true) ∧ Kept W W' := by
  obtain ⟨fuel, hf⟩ := h0
  obtain ⟨vs, hl, v, l, rfl, hd⟩ := op22 fuel _ _ hf
  rw [hc] at hl
  obtain ⟨x0, xs, e, hx0, _⟩ := hl.inv_cons
  obtain rfl : v0 = x0 := by simpa using (List.cons.inj e).1
  have hl3 : LRel W noRen [v, .int .i64 i, .int .i64 k] [v0, .int .i64 i, .int .i64 k] := LRel.cons hx0 (LRel.cons (.int _ _) (LRel.cons (.int _ _) .nil))
  obtain ⟨B, hB⟩ : ∃ B : Nat, B = maxLen := ⟨_, rfl⟩
  rw [← hB] at hd
  have hB' : B ≤ 9223372036854775807 := by rw [hB]; exact Nat.le_of_eq rfl
  have hrun : ∃ n, callP cTab noM n 4 [v, .int .i64 i, .int .i64 k] noSt fun v _ => v = .bool true := ⟨4000 + (B + B), ok4 hd hB' (by omega) fun _ _ => rfl⟩
  obtain ⟨n, hrun⟩ := hrun
  refine (law_calls (args := #[v0, .int .i64 i, .int .i64 k]) cTab_sound noM_sound mixed hl3 hrun).mono fun e W' h => ?_
  obtain ⟨⟨x, ρ', rfl, hx⟩, hk⟩ := h
  cases hx
  exact ⟨rfl, hk⟩

set_option maxRecDepth 100000 in
theorem lifted (os : Os) (started : os.Started) (H : Type) (enc : TypeId × Value → H) :
    ReturnsInHanded {} Try.checked os 4 .any (Rows.orderTimeSpec.pre6 enc Try.prog Try.f4 Rows.orderTimeRow.domain false) (Rows.orderTimeSpec.post enc Try.prog Try.f4 false true false false) := by
  refine returnsInHanded_of_change (C := Try.checked) own started (by kernel_rfl) Try.func4
    (ChangeSpec.witness6 (enc := enc) (C := Try.checked) false ⟨#[], #[.slice none 0 0, .int .i64 0, .int .i64 0], []⟩ 8 (by kernel_rfl) (by kernel_rfl) (by kernel_rfl) (by kernel_rfl)) ?_
  intro W base args ds gs before hval0 hW hcnd _
  have hval : ∀ (j : Nat) t v, Try.f4.params[j]? = some t → args[j]? = some v → Value.okWide Try.prog W .any base t v := hval0
  have hW' := hW
  obtain ⟨p, q, hA0, hV, rfl, hfz, hnd⟩ := hW
  have hA : DataW.TrodAll enc Try.prog W 0 (fun _ => true) true Try.f4.params.toList args.toList ds p := hA0
  rw [Try.params4] at hA hval
  obtain ⟨v0, vs0, d0, ds0, p0, q0, hargs, rfl, rfl, h0, r0⟩ := trodAll_cons hA
  obtain ⟨v1, vs1, d1, ds1, p1, q1, rfl, rfl, rfl, h1, r1⟩ := trodAll_cons r0
  obtain ⟨v2, vs2, d2, ds2, p2, q2, rfl, rfl, rfl, h2, r2⟩ := trodAll_cons r1
  obtain ⟨rfl, rfl, rfl⟩ := trodAll_nil r2
  obtain rfl : args = #[v0, v1, v2] := by cases args; simp_all
  obtain ⟨rfl, rfl⟩ := trodVars_none hV
  obtain ⟨a0, len0, cap0, rfl⟩ := okWide_slice Try.underlying22 (hval 0 22 v0 rfl rfl)
  have k0 := h0
  have lt0 : ∀ x ∈ p0, x.block < W.heap.size := by obtain ⟨m, hm⟩ := k0; exact DataW.trod_lt m _ _ _ hm
  obtain ⟨a1, rfl, rfl, rfl, w1⟩ := open_int Try.underlying3 (hval 1 3 v1 rfl rfl) h1
  obtain ⟨a2, rfl, rfl, rfl, w2⟩ := open_int Try.underlying3 (hval 2 3 v2 rfl rfl) h2
  clear hA0 hval0
  refine (walk a1 a2 (by simp [Value.cells]) h0).mono fun e W' ⟨he, bel⟩ => ?_
  subst he
  exact ⟨_, rfl, _, _, _, [], _, [], hW', trodAll_mk1 (shut_bool Try.underlying4 _), (trodAll_cons_mk (Kept.trod laidOut (by kernel_rfl) (of_decide_eq_true (by kernel_rfl)) k0 bel lt0) (trodAll_cons_mk (shut_int Try.underlying3 w1) (trodAll_cons_mk (shut_int Try.underlying3 w2) trodAll_mk0))), rfl, bel.frame _, fun h => by cases h⟩

theorem over : Rows.orderTimeRow.holds Try.pinned (OpenSpec.ofChange Rows.orderTimeSpec) :=
  OpenClaim.holds_of_wide 4 Try.f4 rfl rfl rfl rfl rfl rfl rfl ⟨rfl, rfl, rfl, rfl, rfl⟩ rfl rfl rfl rfl rfl (by kernel_rfl) Try.func4 (by kernel_rfl)
    (of_decide_eq_true (by kernel_rfl)) (by unfold Func.isWrapper; first | (rw [if_pos (by decide +kernel)]; kernel_rfl) | (rw [if_neg (by decide +kernel)]; exact ⟨rfl, rfl⟩))
    (fun os started H enc _ => lifted os started H enc)

theorem proved : Rows.OrderTimeSaid := over
#print axioms proved
end Go.Proofs.Ytnepmmjhhcdniaa.TimeDone
