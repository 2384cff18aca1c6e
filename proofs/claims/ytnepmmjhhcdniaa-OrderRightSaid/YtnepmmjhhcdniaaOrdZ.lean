/- OrderRight, whole, in the evaluator. -/
import Derived.Test.YtnepmmjhhcdniaaOrdY
import Derived.Test.YtnepmmjhhcdniaaOrdJ
namespace Go.RE
set_option linter.unusedSimpArgs false
set_option linter.unusedVariables false
variable {M : Nat → String → Option Nat}
theorem inc_ic : (fun x : Nat => inc x) = fun x : Nat => ic (x : Int) := by funext x; rfl
theorem ring_laid {n : Nat} {E : Nat → Nat → Bool} {en : Nat → Int} {out : List Nat} (h : lay n E en n [] = some out) : rings E n (List.range n) = [] := by
  obtain ⟨h1, h2, h3, _⟩ := lay_perm h (by simp) (by simp)
  have hf := lay_free h (by simp)
  have hlen : out.length = n := by simpa using h1
  refine List.eq_nil_iff_forall_not_mem.2 fun b hb => ?_
  have hb' := rings_none hlen h2 h3 hf (t := n) (m := 0) (idx := List.range n) (by omega) (fun c hc => by
    rw [List.drop_zero]
    have hc' := List.mem_range.1 hc
    refine Classical.byContradiction fun hno => ?_
    have := len_le (l := out ++ [c]) (m := List.range n) (by rw [List.nodup_append]; exact ⟨h2, by simp, fun a ha d hd => by simp at hd; subst hd; exact fun e => hno (e ▸ ha)⟩)
      (fun x hx => by rcases List.mem_append.1 hx with h | h
                      · exact List.mem_range.2 (h3 x h)
                      · simp at h; subst h; exact hc)
    simp at this; omega) b hb
  rw [show 0 + n = out.length by omega, List.drop_length] at hb'
  simp at hb'
theorem ring_stuck {n : Nat} {E : Nat → Nat → Bool} {en : Nat → Int} (h : lay n E en n [] = none) : rings E n (List.range n) ≠ [] := by
  obtain ⟨S, h1, ⟨b, hb⟩, h3⟩ := lay_stuck h (by simp) (by simp) (by simp)
  have := rings_keep h3 (t := n) (idx := List.range n) (fun b hb => List.mem_range.2 (h1 b hb)) b hb
  intro e
  rw [e] at this; simp at this
theorem right_laid {n : Nat} {E : Nat → Nat → Bool} {en : Nat → Int} {out : List Nat} (h : lay n E en n [] = some out) : RightP n E (out.map fun (x : Nat) => (x : Int)) := by
  obtain ⟨h1, h2, h3, _⟩ := lay_perm h (by simp) (by simp)
  have hf := lay_free h (by simp)
  have hlen : out.length = n := by simpa using h1
  refine ⟨by simpa using hlen, fun j hj => ?_⟩
  have hj' : j < out.length := by simpa using hj
  have hjn := h3 _ (List.getElem_mem hj')
  have hpw := List.pairwise_iff_getElem.1 h2
  simp only [List.getElem_map]
  refine ⟨by omega, by omega, ?_, fun i hi => ?_⟩
  · rw [← List.map_take]
    intro hm
    obtain ⟨x, hx, hxe⟩ := List.mem_map.1 hm
    obtain ⟨i, hi, rfl⟩ := List.mem_iff_getElem.1 hx
    simp only [List.length_take] at hi
    rw [List.getElem_take] at hxe
    exact hpw i j (by omega) hj' (by omega) (by omega)
  · simp only [Int.toNat_natCast]
    have hi' : i < out.length := by omega
    refine free_not (hf i hi') hjn (fun e => hpw i j hi' hj' hi e.symm) fun hm => ?_
    obtain ⟨a, ha, he⟩ := List.mem_iff_getElem.1 hm
    simp only [List.length_take] at ha
    rw [List.getElem_take] at he
    exact hpw a j (by omega) hj' (by omega) he

theorem ok6 {v : V} {l : List D} {B : Nat} {s : St} {n : Nat} {k : V → St → Prop} (hv : DLB s B v l) (hB : B ≤ 9223372036854775807) (hn : B + B + 4000 ≤ n)
    (h : ∀ s', Grew s s' → k (.bool true) s') : callP cTab M n 6 [v] s k := by
  obtain ⟨m, rfl⟩ : ∃ m, n = m + 20 := ⟨n - 20, by omega⟩
  rw [callP_at (show cTab _ = some c6 from rfl) (by simp)]
  simp [c6_0, c6_1, evC_seq, evC_region, evC_ret, evC_exit, evC_skip, evC_block, c_cond, kSeq_normal, kSeq_exit, kSeq_ret, kBlock_normal, kBlock_exit, kBlock_ret, seq_s, seq_m, seq_h, seq_g, seq_nil, seq_call, kRest_ap, st_nil, st_s, st_m, st_h, st_gs, st_gb, st_call, kStep_ap, calleeOf, s_mov, s_load, s_indexAddr, s_fieldAddr, s_len, s_bin, s_un, s_mkFunc, s_build, s_extract, s_max, s_field, s_pick, ld_ptr, ld_cptr, fa_ptr, fa_cptr, ln_str, ln_slice, ln_cslice, ln_nils, evM, Opd.ev, evL, putD, initEnv, PT.get_set, isB_bool, isB_tup, ble_dec, beq_dec, LoopK_exit, LoopK_ret, loadRow, row_alloc, cells_agg, cells_bool, cells_int, cells_str, cells_ptr, cells_nilp, cells_nils, cells_slice, cells_map, cells_nilm, cells_iface, cells_nili, cells_func, cells_nilf, binV, int_add, int_sub, int_mul, int_eql, int_neq, int_lss, int_leq, int_gtr, int_geq, strBin, eqV, plainEq, unV, kRes_ret, kRes_normal, resAll, resL, resV, recheck, keepRecs, SOp.impure, Nat.testBit_eq_decide_div_mod_eq, chk_prop, fail_prop, foldV, max2V, h_store, h_append, fillV, repZero, write_row, one_bool, one_int, one_str, one_nilp, one_ptr, one_cptr, one_nils, one_slice, one_cslice, one_nilm, one_map, one_nilf, one_func, one_nili, one_iface]
  refine ok7 ?_ fun s1 g1 => ?_
  · omega
  simp [evC_seq, evC_region, evC_ret, evC_exit, evC_skip, evC_block, c_cond, kSeq_normal, kSeq_exit, kSeq_ret, kBlock_normal, kBlock_exit, kBlock_ret, seq_s, seq_m, seq_h, seq_g, seq_nil, seq_call, kRest_ap, st_nil, st_s, st_m, st_h, st_gs, st_gb, st_call, kStep_ap, calleeOf, s_mov, s_load, s_indexAddr, s_fieldAddr, s_len, s_bin, s_un, s_mkFunc, s_build, s_extract, s_max, s_field, s_pick, ld_ptr, ld_cptr, fa_ptr, fa_cptr, ln_str, ln_slice, ln_cslice, ln_nils, evM, Opd.ev, evL, putD, initEnv, PT.get_set, isB_bool, isB_tup, ble_dec, beq_dec, LoopK_exit, LoopK_ret, loadRow, row_alloc, cells_agg, cells_bool, cells_int, cells_str, cells_ptr, cells_nilp, cells_nils, cells_slice, cells_map, cells_nilm, cells_iface, cells_nili, cells_func, cells_nilf, binV, int_add, int_sub, int_mul, int_eql, int_neq, int_lss, int_leq, int_gtr, int_geq, strBin, eqV, plainEq, unV, kRes_ret, kRes_normal, resAll, resL, resV, recheck, keepRecs, SOp.impure, Nat.testBit_eq_decide_div_mod_eq, chk_prop, fail_prop, foldV, max2V, h_store, h_append, fillV, repZero, write_row, one_bool, one_int, one_str, one_nilp, one_ptr, one_cptr, one_nils, one_slice, one_cslice, one_nilm, one_map, one_nilf, one_func, one_nili, one_iface]
  have hv1 := hv.grew g1
  refine ok8 hv1.1 hv1.2.1 hv1.2.2 hB ?_ fun s2 g2 => ?_
  · omega
  cases hf : fewL l with
  | false =>
    simp [c6_2, evC_seq, evC_region, evC_ret, evC_exit, evC_skip, evC_block, c_cond, kSeq_normal, kSeq_exit, kSeq_ret, kBlock_normal, kBlock_exit, kBlock_ret, seq_s, seq_m, seq_h, seq_g, seq_nil, seq_call, kRest_ap, st_nil, st_s, st_m, st_h, st_gs, st_gb, st_call, kStep_ap, calleeOf, s_mov, s_load, s_indexAddr, s_fieldAddr, s_len, s_bin, s_un, s_mkFunc, s_build, s_extract, s_max, s_field, s_pick, ld_ptr, ld_cptr, fa_ptr, fa_cptr, ln_str, ln_slice, ln_cslice, ln_nils, evM, Opd.ev, evL, putD, initEnv, PT.get_set, isB_bool, isB_tup, ble_dec, beq_dec, LoopK_exit, LoopK_ret, loadRow, row_alloc, cells_agg, cells_bool, cells_int, cells_str, cells_ptr, cells_nilp, cells_nils, cells_slice, cells_map, cells_nilm, cells_iface, cells_nili, cells_func, cells_nilf, binV, int_add, int_sub, int_mul, int_eql, int_neq, int_lss, int_leq, int_gtr, int_geq, strBin, eqV, plainEq, unV, kRes_ret, kRes_normal, resAll, resL, resV, recheck, keepRecs, SOp.impure, Nat.testBit_eq_decide_div_mod_eq, chk_prop, fail_prop, foldV, max2V, h_store, h_append, fillV, repZero, write_row, one_bool, one_int, one_str, one_nilp, one_ptr, one_cptr, one_nils, one_slice, one_cslice, one_nilm, one_map, one_nilf, one_func, one_nili, one_iface]
    refine ok7 ?_ fun s3 g3 => ?_
    · omega
    have hk := h s3 (g1.trans (g2.trans g3))
    simp [evC_seq, evC_region, evC_ret, evC_exit, evC_skip, evC_block, c_cond, kSeq_normal, kSeq_exit, kSeq_ret, kBlock_normal, kBlock_exit, kBlock_ret, seq_s, seq_m, seq_h, seq_g, seq_nil, seq_call, kRest_ap, st_nil, st_s, st_m, st_h, st_gs, st_gb, st_call, kStep_ap, calleeOf, s_mov, s_load, s_indexAddr, s_fieldAddr, s_len, s_bin, s_un, s_mkFunc, s_build, s_extract, s_max, s_field, s_pick, ld_ptr, ld_cptr, fa_ptr, fa_cptr, ln_str, ln_slice, ln_cslice, ln_nils, evM, Opd.ev, evL, putD, initEnv, PT.get_set, isB_bool, isB_tup, ble_dec, beq_dec, LoopK_exit, LoopK_ret, loadRow, row_alloc, cells_agg, cells_bool, cells_int, cells_str, cells_ptr, cells_nilp, cells_nils, cells_slice, cells_map, cells_nilm, cells_iface, cells_nili, cells_func, cells_nilf, binV, int_add, int_sub, int_mul, int_eql, int_neq, int_lss, int_leq, int_gtr, int_geq, strBin, eqV, plainEq, unV, kRes_ret, kRes_normal, resAll, resL, resV, recheck, keepRecs, SOp.impure, Nat.testBit_eq_decide_div_mod_eq, chk_prop, fail_prop, foldV, max2V, h_store, h_append, fillV, repZero, write_row, one_bool, one_int, one_str, one_nilp, one_ptr, one_cptr, one_nils, one_slice, one_cslice, one_nilm, one_map, one_nilf, one_func, one_nili, one_iface, hk]
  | true =>
  have hd := (hv1.grew g2).few hf
  have hlen := hd.2.2
  simp [c6_3, evC_seq, evC_region, evC_ret, evC_exit, evC_skip, evC_block, c_cond, kSeq_normal, kSeq_exit, kSeq_ret, kBlock_normal, kBlock_exit, kBlock_ret, seq_s, seq_m, seq_h, seq_g, seq_nil, seq_call, kRest_ap, st_nil, st_s, st_m, st_h, st_gs, st_gb, st_call, kStep_ap, calleeOf, s_mov, s_load, s_indexAddr, s_fieldAddr, s_len, s_bin, s_un, s_mkFunc, s_build, s_extract, s_max, s_field, s_pick, ld_ptr, ld_cptr, fa_ptr, fa_cptr, ln_str, ln_slice, ln_cslice, ln_nils, evM, Opd.ev, evL, putD, initEnv, PT.get_set, isB_bool, isB_tup, ble_dec, beq_dec, LoopK_exit, LoopK_ret, loadRow, row_alloc, cells_agg, cells_bool, cells_int, cells_str, cells_ptr, cells_nilp, cells_nils, cells_slice, cells_map, cells_nilm, cells_iface, cells_nili, cells_func, cells_nilf, binV, int_add, int_sub, int_mul, int_eql, int_neq, int_lss, int_leq, int_gtr, int_geq, strBin, eqV, plainEq, unV, kRes_ret, kRes_normal, resAll, resL, resV, recheck, keepRecs, SOp.impure, Nat.testBit_eq_decide_div_mod_eq, chk_prop, fail_prop, foldV, max2V, h_store, h_append, fillV, repZero, write_row, one_bool, one_int, one_str, one_nilp, one_ptr, one_cptr, one_nils, one_slice, one_cslice, one_nilm, one_map, one_nilf, one_func, one_nili, one_iface]
  refine ok9 hd ?_ (fun h0 s3 g3 => ?_) (fun out ho hol s3 u g3 hu => ?_)
  · omega
  · simp [c6_4, c6_5, evC_seq, evC_region, evC_ret, evC_exit, evC_skip, evC_block, c_cond, kSeq_normal, kSeq_exit, kSeq_ret, kBlock_normal, kBlock_exit, kBlock_ret, seq_s, seq_m, seq_h, seq_g, seq_nil, seq_call, kRest_ap, st_nil, st_s, st_m, st_h, st_gs, st_gb, st_call, kStep_ap, calleeOf, s_mov, s_load, s_indexAddr, s_fieldAddr, s_len, s_bin, s_un, s_mkFunc, s_build, s_extract, s_max, s_field, s_pick, ld_ptr, ld_cptr, fa_ptr, fa_cptr, ln_str, ln_slice, ln_cslice, ln_nils, evM, Opd.ev, evL, putD, initEnv, PT.get_set, isB_bool, isB_tup, ble_dec, beq_dec, LoopK_exit, LoopK_ret, loadRow, row_alloc, cells_agg, cells_bool, cells_int, cells_str, cells_ptr, cells_nilp, cells_nils, cells_slice, cells_map, cells_nilm, cells_iface, cells_nili, cells_func, cells_nilf, binV, int_add, int_sub, int_mul, int_eql, int_neq, int_lss, int_leq, int_gtr, int_geq, strBin, eqV, plainEq, unV, kRes_ret, kRes_normal, resAll, resL, resV, recheck, keepRecs, SOp.impure, Nat.testBit_eq_decide_div_mod_eq, chk_prop, fail_prop, foldV, max2V, h_store, h_append, fillV, repZero, write_row, one_bool, one_int, one_str, one_nilp, one_ptr, one_cptr, one_nils, one_slice, one_cslice, one_nilm, one_map, one_nilf, one_func, one_nili, one_iface]
    refine ok16 (hd.grew g3) ?_ fun s4 g4 => ?_
    · omega
    have hk := h s4 (g1.trans (g2.trans (g3.trans g4)))
    have hr := ring_stuck h0
    simp [evC_seq, evC_region, evC_ret, evC_exit, evC_skip, evC_block, c_cond, kSeq_normal, kSeq_exit, kSeq_ret, kBlock_normal, kBlock_exit, kBlock_ret, seq_s, seq_m, seq_h, seq_g, seq_nil, seq_call, kRest_ap, st_nil, st_s, st_m, st_h, st_gs, st_gb, st_call, kStep_ap, calleeOf, s_mov, s_load, s_indexAddr, s_fieldAddr, s_len, s_bin, s_un, s_mkFunc, s_build, s_extract, s_max, s_field, s_pick, ld_ptr, ld_cptr, fa_ptr, fa_cptr, ln_str, ln_slice, ln_cslice, ln_nils, evM, Opd.ev, evL, putD, initEnv, PT.get_set, isB_bool, isB_tup, ble_dec, beq_dec, LoopK_exit, LoopK_ret, loadRow, row_alloc, cells_agg, cells_bool, cells_int, cells_str, cells_ptr, cells_nilp, cells_nils, cells_slice, cells_map, cells_nilm, cells_iface, cells_nili, cells_func, cells_nilf, binV, int_add, int_sub, int_mul, int_eql, int_neq, int_lss, int_leq, int_gtr, int_geq, strBin, eqV, plainEq, unV, kRes_ret, kRes_normal, resAll, resL, resV, recheck, keepRecs, SOp.impure, Nat.testBit_eq_decide_div_mod_eq, chk_prop, fail_prop, foldV, max2V, h_store, h_append, fillV, repZero, write_row, one_bool, one_int, one_str, one_nilp, one_ptr, one_cptr, one_nils, one_slice, one_cslice, one_nilm, one_map, one_nilf, one_func, one_nili, one_iface, hr, hk]
  · rw [inc_map] at hu
    simp [c6_4, c6_6, evC_seq, evC_region, evC_ret, evC_exit, evC_skip, evC_block, c_cond, kSeq_normal, kSeq_exit, kSeq_ret, kBlock_normal, kBlock_exit, kBlock_ret, seq_s, seq_m, seq_h, seq_g, seq_nil, seq_call, kRest_ap, st_nil, st_s, st_m, st_h, st_gs, st_gb, st_call, kStep_ap, calleeOf, s_mov, s_load, s_indexAddr, s_fieldAddr, s_len, s_bin, s_un, s_mkFunc, s_build, s_extract, s_max, s_field, s_pick, ld_ptr, ld_cptr, fa_ptr, fa_cptr, ln_str, ln_slice, ln_cslice, ln_nils, evM, Opd.ev, evL, putD, initEnv, PT.get_set, isB_bool, isB_tup, ble_dec, beq_dec, LoopK_exit, LoopK_ret, loadRow, row_alloc, cells_agg, cells_bool, cells_int, cells_str, cells_ptr, cells_nilp, cells_nils, cells_slice, cells_map, cells_nilm, cells_iface, cells_nili, cells_func, cells_nilf, binV, int_add, int_sub, int_mul, int_eql, int_neq, int_lss, int_leq, int_gtr, int_geq, strBin, eqV, plainEq, unV, kRes_ret, kRes_normal, resAll, resL, resV, recheck, keepRecs, SOp.impure, Nat.testBit_eq_decide_div_mod_eq, chk_prop, fail_prop, foldV, max2V, h_store, h_append, fillV, repZero, write_row, one_bool, one_int, one_str, one_nilp, one_ptr, one_cptr, one_nils, one_slice, one_cslice, one_nilm, one_map, one_nilf, one_func, one_nili, one_iface]
    refine ok14 (hd.grew g3) hu ?_ (by simp; omega) fun s4 b g4 hb => ?_
    · omega
    obtain rfl : b = true := hb.2 (right_laid ho)
    simp [evC_seq, evC_region, evC_ret, evC_exit, evC_skip, evC_block, c_cond, kSeq_normal, kSeq_exit, kSeq_ret, kBlock_normal, kBlock_exit, kBlock_ret, seq_s, seq_m, seq_h, seq_g, seq_nil, seq_call, kRest_ap, st_nil, st_s, st_m, st_h, st_gs, st_gb, st_call, kStep_ap, calleeOf, s_mov, s_load, s_indexAddr, s_fieldAddr, s_len, s_bin, s_un, s_mkFunc, s_build, s_extract, s_max, s_field, s_pick, ld_ptr, ld_cptr, fa_ptr, fa_cptr, ln_str, ln_slice, ln_cslice, ln_nils, evM, Opd.ev, evL, putD, initEnv, PT.get_set, isB_bool, isB_tup, ble_dec, beq_dec, LoopK_exit, LoopK_ret, loadRow, row_alloc, cells_agg, cells_bool, cells_int, cells_str, cells_ptr, cells_nilp, cells_nils, cells_slice, cells_map, cells_nilm, cells_iface, cells_nili, cells_func, cells_nilf, binV, int_add, int_sub, int_mul, int_eql, int_neq, int_lss, int_leq, int_gtr, int_geq, strBin, eqV, plainEq, unV, kRes_ret, kRes_normal, resAll, resL, resV, recheck, keepRecs, SOp.impure, Nat.testBit_eq_decide_div_mod_eq, chk_prop, fail_prop, foldV, max2V, h_store, h_append, fillV, repZero, write_row, one_bool, one_int, one_str, one_nilp, one_ptr, one_cptr, one_nils, one_slice, one_cslice, one_nilm, one_map, one_nilf, one_func, one_nili, one_iface]
    refine ok16 (hd.grew (g3.trans g4)) ?_ fun s5 g5 => ?_
    · omega
    have hk := h s5 (g1.trans (g2.trans (g3.trans (g4.trans g5))))
    have hr := ring_laid ho
    simp [evC_seq, evC_region, evC_ret, evC_exit, evC_skip, evC_block, c_cond, kSeq_normal, kSeq_exit, kSeq_ret, kBlock_normal, kBlock_exit, kBlock_ret, seq_s, seq_m, seq_h, seq_g, seq_nil, seq_call, kRest_ap, st_nil, st_s, st_m, st_h, st_gs, st_gb, st_call, kStep_ap, calleeOf, s_mov, s_load, s_indexAddr, s_fieldAddr, s_len, s_bin, s_un, s_mkFunc, s_build, s_extract, s_max, s_field, s_pick, ld_ptr, ld_cptr, fa_ptr, fa_cptr, ln_str, ln_slice, ln_cslice, ln_nils, evM, Opd.ev, evL, putD, initEnv, PT.get_set, isB_bool, isB_tup, ble_dec, beq_dec, LoopK_exit, LoopK_ret, loadRow, row_alloc, cells_agg, cells_bool, cells_int, cells_str, cells_ptr, cells_nilp, cells_nils, cells_slice, cells_map, cells_nilm, cells_iface, cells_nili, cells_func, cells_nilf, binV, int_add, int_sub, int_mul, int_eql, int_neq, int_lss, int_leq, int_gtr, int_geq, strBin, eqV, plainEq, unV, kRes_ret, kRes_normal, resAll, resL, resV, recheck, keepRecs, SOp.impure, Nat.testBit_eq_decide_div_mod_eq, chk_prop, fail_prop, foldV, max2V, h_store, h_append, fillV, repZero, write_row, one_bool, one_int, one_str, one_nilp, one_ptr, one_cptr, one_nils, one_slice, one_cslice, one_nilm, one_map, one_nilf, one_func, one_nili, one_iface, hr, hk]
end Go.RE
