/- For every list of lessons and every two texts, CacheKnows returns true, and its arguments read behind the call as they read before. Conditions: errors.errorType holds what the program's text lays (the card ties it). -/
import Derived.Test.YtigkmaeaoaejiaaGreatDoorPart14
import Derived.Test.YtigkmaeaoaejiaaGreatDoorPart23
namespace Go.Proofs.YtigkmaeaoaejiaaGreatDoor.KnowsDone
open Go.ChangeShapes Go.WideShapes Go.ChangeAt Go.RowKit Go.RE Go.Proofs.YtigkmaeaoaejiaaGreatDoor.Ends
set_option linter.unusedVariables false
theorem laid_met (os : Os) : laidMetH Tryz.prog Rows.cacheKnowsRow.laid ((laidWorld os).forCall (fun _ _ => 0) ⟨#[], #[.slice Option.none 0 0, .string ⟨#[]⟩, .string ⟨#[]⟩], []⟩).memory :=
  laidMetH_of_parts (laidMet_nil _ _) (by kernel_rfl)
theorem reads (os : Os) {H : Type} (enc : TypeId × Value → H) : ∃ places, DataW.whole enc Tryz.prog ((laidWorld os).forCall (fun _ _ => 0) ⟨#[], #[.slice Option.none 0 0, .string ⟨#[]⟩, .string ⟨#[]⟩], []⟩).memory Tryz.f4.params.toList Rows.cacheKnowsSpec.vars false #[Value.slice Option.none 0 0, .string ⟨#[]⟩, .string ⟨#[]⟩].toList 8 = some ([.nil, .lit (.string []), .lit (.string [])], [], places) :=
  ⟨[], by kernel_rfl⟩
theorem opLesson {H : Type} {enc : TypeId × Value → H} {w : World} {B : Nat} : OpU enc Tryz.prog w Rows.uptoBulk B 61 fun us => ∃ x : Les, us = lesC x ∧ x.2.length ≤ maxLen := by
  refine (opU_struct bkOk Tryz.underlying61 (Ss := [_, _]) (by kernel_rfl) ⟨opNeed bkOk, opPairs bkOk, trivial⟩).imp fun us h => ?_
  obtain ⟨a, b, rfl, ⟨s, rfl⟩, a2, b2, rfl, ⟨l, rfl, _, _, hl⟩, rfl⟩ := h
  exact ⟨(s, l), rfl, hl⟩
theorem opLessons {H : Type} {enc : TypeId × Value → H} {w : World} {B : Nat} : OpU enc Tryz.prog w Rows.uptoBulk B 56 fun us => ∃ l : List Les, us = [.sl 3 (l.map lesC)] ∧ (∀ x ∈ l, x.2.length ≤ maxLen) ∧ l.length ≤ maxLen := by
  refine (opU_slice bkOk Tryz.underlying56 (c := 3) (by kernel_rfl) (by omega) opLesson).imp fun us h => ?_
  obtain ⟨rows, rfl, h1, h2, h3⟩ := h
  obtain ⟨l, rfl, hl⟩ := rows_map (f := lesC) (D := fun x => x.2.length ≤ maxLen) (S := fun us => ∃ x : Les, us = lesC x ∧ x.2.length ≤ maxLen) (fun r hr => hr) fun r hr => (h1 r hr).1
  exact ⟨l, rfl, hl, by simpa using h3⟩
theorem walk {H : Type} {enc : TypeId × Value → H} {W : World} {v0 : Value} {s2 s3 : ByteArray} {d0 d2 d3 : DataW H} {p0 p2 p3 : List MemPlace} (hL : laidMetH Tryz.prog Rows.cacheKnowsRow.laid W) (hc0 : v0.cells.toList = [v0])
    (h0 : DataW.Trod enc Tryz.prog W 0 (fun _ => true) true 56 v0 d0 p0) (h2 : DataW.Trod enc Tryz.prog W 0 (fun _ => true) true 9 (.string s2) d2 p2) (h3 : DataW.Trod enc Tryz.prog W 0 (fun _ => true) true 9 (.string s3) d3 p3) :
    Calls Tryz.prog 4 #[v0, .string s2, .string s3] W fun e W' => e = .returned (.bool true) ∧ Kept W W' := by
  obtain ⟨f0, k0⟩ := h0
  obtain ⟨f2, k2⟩ := h2
  obtain ⟨f3, k3⟩ := h3
  obtain ⟨vs0, us0, l0, ⟨l, rfl, hl, hll⟩, u0⟩ := opLessons f0 _ _ k0 (Nat.le_refl _)
  obtain ⟨vs2, us2, l2, ⟨key, rfl, hk⟩, u2⟩ := opU_string bkOk Tryz.underlying9 f2 _ _ k2 (Nat.le_refl (Rows.uptoBulk d2))
  obtain ⟨vs3, us3, l3, ⟨hi, rfl, hh⟩, u3⟩ := opU_string bkOk Tryz.underlying9 f3 _ _ k3 (Nat.le_refl (Rows.uptoBulk d3))
  rw [hc0] at l0
  have hl4 : LRel W noRen (vs0 ++ (vs2 ++ vs3)) (#[v0, .string s2, .string s3] : Array Value).toList := l0.append (l2.append l3)
  exact law_ve (errTy hL) (law4 (M := meths) (Q := muts) (Pm := prims) noPm noQ rfl rfl rfl rfl l key hi hll hl) (u0.append (u2.append u3)) hl4
set_option maxRecDepth 100000 in
theorem lifted (os : Os) (started : os.Started) (H : Type) (enc : TypeId × Value → H) (F : Stop.Interp) :
    ReturnsInHanded {} Tryz.checked os 4 .any ((OpenSpec.ofChange Rows.cacheKnowsSpec).preRow enc Tryz.prog Tryz.f4 Rows.cacheKnowsRow.domain false Rows.cacheKnowsRow.laid) (((OpenSpec.ofChange Rows.cacheKnowsSpec).at F).post enc Tryz.prog Tryz.f4 false true false false) := by
  obtain ⟨places, hx⟩ := reads os enc
  refine returnsInHanded_of_row (C := Tryz.checked) (s := OpenSpec.ofChange Rows.cacheKnowsSpec) own started (by kernel_rfl) Tryz.func4
    (witness_row_at (enc := enc) (C := Tryz.checked) false (laidWorld os) #[.slice Option.none 0 0, .string ⟨#[]⟩, .string ⟨#[]⟩] rfl (by kernel_rfl) (by kernel_rfl) (by kernel_rfl)
      (OpenSpec.preRow_of_cond 8 hx (by kernel_rfl) (fun k hk => by cases hk) (by kernel_rfl) (laid_met os))) ?_
  intro W base args ds gs before hval0 hW _ _ _ hL _ _
  have hval : ∀ (j : Nat) t v, Tryz.f4.params[j]? = some t → args[j]? = some v → Value.okWide Tryz.prog W .any base t v := hval0
  have hW' := hW
  obtain ⟨p, q, hA0, hV, rfl, hfz, hnd⟩ := hW
  have hA : DataW.TrodAll enc Tryz.prog W 0 (fun _ => true) true Tryz.f4.params.toList args.toList ds p := hA0
  rw [Tryz.params4] at hA hval
  obtain ⟨v0, vs0, d0, ds0, p0, q0, hargs, rfl, rfl, h0, r0⟩ := trodAll_cons hA
  obtain ⟨v2, vs2, d2, ds2, p2, q2, rfl, rfl, rfl, h2, r2⟩ := trodAll_cons r0
  obtain ⟨v3, vs3, d3, ds3, p3, q3, rfl, rfl, rfl, h3, r3⟩ := trodAll_cons r2
  obtain ⟨rfl, rfl, rfl⟩ := trodAll_nil r3
  obtain rfl : args = #[v0, v2, v3] := by cases args; simp_all
  obtain ⟨rfl, rfl⟩ := trodVars_none hV
  obtain ⟨a0, len0, cap0, rfl⟩ := okWide_slice Tryz.underlying56 (hval 0 56 v0 rfl rfl)
  obtain ⟨s2, rfl⟩ := okWide_string Tryz.underlying9 (hval 1 9 v2 rfl rfl)
  obtain ⟨s3, rfl⟩ := okWide_string Tryz.underlying9 (hval 2 9 v3 rfl rfl)
  have k0 := h0
  have lt0 : ∀ x ∈ p0, x.block < W.heap.size := by obtain ⟨m, hm⟩ := k0; exact DataW.trod_lt m _ _ _ hm
  have k2 := h2
  have lt2 : ∀ x ∈ p2, x.block < W.heap.size := by obtain ⟨m, hm⟩ := k2; exact DataW.trod_lt m _ _ _ hm
  have k3 := h3
  have lt3 : ∀ x ∈ p3, x.block < W.heap.size := by obtain ⟨m, hm⟩ := k3; exact DataW.trod_lt m _ _ _ hm
  clear hA0 hval0
  refine (walk hL (by simp [Value.cells]) h0 h2 h3).mono fun e W' ⟨he, bel⟩ => ?_
  subst he
  exact ⟨_, rfl, _, _, _, [], _, [], hW', trodAll_mk1 (shut_bool Tryz.underlying4 _), (trodAll_cons_mk (Kept.trod laidOut (by kernel_rfl) (of_decide_eq_true (by kernel_rfl)) k0 bel lt0) (trodAll_cons_mk (Kept.trod laidOut (by kernel_rfl) (of_decide_eq_true (by kernel_rfl)) k2 bel lt2) (trodAll_cons_mk (Kept.trod laidOut (by kernel_rfl) (of_decide_eq_true (by kernel_rfl)) k3 bel lt3) trodAll_mk0))), rfl, bel.frame _, fun h => by cases h⟩
theorem said : Rows.CacheKnowsSaid :=
  OpenClaim.holds_of_cond 4 Tryz.f4 rfl rfl rfl rfl rfl rfl rfl ⟨rfl, rfl, rfl, rfl, rfl⟩ rfl rfl rfl rfl rfl (by kernel_rfl) Tryz.func4 (by kernel_rfl)
    (of_decide_eq_true (by kernel_rfl)) (by unfold Func.isWrapper; first | (rw [if_pos (by decide +kernel)]; kernel_rfl) | (rw [if_neg (by decide +kernel)]; exact ⟨rfl, rfl⟩))
    (fun os started H enc _ F => by rw [OpenClaim.pre_eq_preRow]; exact lifted os started H enc F)
/-- No parameter wants a stand-in; the program looks at its own fields: what the card asks. -/
theorem plain (f : FuncId) (fn : Func) (hf : Tryz.pinned.checked.prog.funcNamed "conductor/conductorlaw16.CacheKnows" = some f) (hfn : Tryz.pinned.checked.prog.funcs[f]? = some fn) :
    true = Tryz.pinned.checked.prog.looks [] ∧ ∀ (j : Nat) t, fn.params[j]? = some t → Tryz.pinned.checked.prog.wantsStandIn t = false := by
  obtain rfl : f = 4 := Option.some.inj ((show Tryz.prog.funcNamed "conductor/conductorlaw16.CacheKnows" = some 4 by kernel_rfl).symm.trans hf) |>.symm
  obtain rfl : fn = Tryz.f4 := (Option.some.inj (Tryz.func4.symm.trans hfn)).symm
  refine ⟨by kernel_rfl, fun j t ht => ?_⟩
  rw [Tryz.params4] at ht
  have hm : t = 56 ∨ t = 9 := by simpa using Array.mem_of_getElem? ht
  rcases hm with rfl | rfl
  · exact (show Tryz.prog.wantsStandIn 56 = false by kernel_rfl)
  · exact (show Tryz.prog.wantsStandIn 9 = false by kernel_rfl)
theorem proved : Rows.CacheKnowsCardSaid :=
  Claim7.holds_tied_plain_at .later [] _ _ _ _ said (fun _ h => by cases h) (by kernel_rfl) (fun _ h => by cases h) cacheKnows_row_tie rfl ⟨rfl, rfl⟩ (by kernel_rfl) rfl plain (by kernel_rfl)
#print axioms proved
end Go.Proofs.YtigkmaeaoaejiaaGreatDoor.KnowsDone
