/- The program's order: who is picked; who is laid. -/
import Derived.Test.YtnepmmjhhcdniaaOrdF
namespace Go.RE
set_option linter.unusedSimpArgs false
set_option linter.unusedVariables false
variable {M : Nat → String → Option Nat}

theorem ixA_own {b n i : Nat} {k : IntKind} (h : i < n) : ixA 1 (some (.slice b 0 n n 1 true)) (some (.int k (i : Int))) = some (.ptr b i) := by
  have hc : (0 : Int) ≤ (i : Int) ∧ (i : Int) < (n : Int) := ⟨by omega, by omega⟩
  simp only [ixA, if_pos hc]
  simp [Nat.beq_refl]
theorem get_map {α : Type} {f : Nat → α} {n i : Nat} (h : i < n) : ((List.range n).map f)[i]? = some (f i) := by
  rw [List.getElem?_map, List.getElem?_range h]; rfl

theorem loop27 {s s1 : St} {v x8 x9 x56 : V} {l : List D} {out : List Nat} {env : PT V} {N : Nat} {k : Ex → PT V → St → Prop} (hv : DL s v l) (hN : 300 ≤ N)
    (hO : OM s v l.length (fun x => cnt (byPlace l edge) out x l.length) (fun x => out.contains x) s1)
    (e : Has env [(1, .ptr s.next 0), (4, .ptr (s.next + 2) 0), (5, .ptr (s.next + 4) 0), (8, x8), (9, x9), (10, .int .i64 (-1)), (55, .int .i64 l.length), (56, x56), (59, .int .i64 l.length), (60, .int .i64 0)])
    (hk : ∀ env', Has env' [(1, .ptr s.next 0), (4, .ptr (s.next + 2) 0), (5, .ptr (s.next + 4) 0), (8, x8), (9, x9), (10, .int .i64 (bi (pick l.length (byPlace l edge) (enOf l) out l.length))), (55, .int .i64 l.length), (56, x56)] → k (.exit 6) env' s1) :
    evC cTab M N (.loop c9_b27) env s1 k := by
  obtain ⟨N1, hN1⟩ : ∃ N : Nat, N = 100 := ⟨_, rfl⟩
  have hl := fun s' => hv.len (s' := s')
  have hlen := hv.2.2
  generalize hE : byPlace l edge = E at hk hO
  generalize hen : enOf l = en at hk
  refine loop (fun j env s' => ∃ i, j = l.length - i ∧ i ≤ l.length ∧ s' = s1 ∧
      Has env [(1, .ptr s.next 0), (4, .ptr (s.next + 2) 0), (5, .ptr (s.next + 4) 0), (8, x8), (9, x9), (10, .int .i64 (bi (pick l.length E en out i))), (55, .int .i64 l.length), (56, x56), (59, .int .i64 l.length), (60, .int .i64 i)]) (N1 + 20) ?_
    l.length (by omega) ⟨0, by omega, by omega, rfl, by simpa [pick_zero, bi] using e⟩
  rintro I hI j env s2 ⟨i, rfl, hi, rfl, e⟩
  simp only [Has] at e
  by_cases hlt : i < l.length
  · have hlt' : (i : Int) < (l.length : Int) := by omega
    have next : ∀ env' (b : Option Nat), pickStep l.length E en out (pick l.length E en out i) i = b →
        Has env' [(1, .ptr s.next 0), (4, .ptr (s.next + 2) 0), (5, .ptr (s.next + 4) 0), (8, x8), (9, x9), (10, .int .i64 (bi b)), (55, .int .i64 l.length), (56, x56), (59, .int .i64 l.length), (60, .int .i64 ((i + 1 : Nat) : Int))] → I (l.length - (i + 1)) env' s2 := by
      intro env' b hp he
      refine hI _ _ _ ⟨i + 1, rfl, by omega, rfl, ?_⟩
      rw [pick_succ, hp]; exact he
    generalize hbest : pick l.length E en out i = best at e next
    have hgL := get_map (f := fun x => V.bool (out.contains x)) hlt
    have hgA := get_map (f := fun x => icell (cnt E out x l.length)) hlt
    have hrA := hO.rA
    have hrL := hO.rL
    simp only [icell] at hgA hrA
    have ix1 := ixA_own (b := s2.next + 1) (k := .i64) hlt
    cases hc : out.contains i with
    | true =>
      have hm : i ∈ out := by simpa using hc
      simp [c9_b27, c9_21, c9_22, c9_23, c9_26, evC_seq, evC_region, evC_ret, evC_exit, evC_skip, evC_block, c_cond, kSeq_normal, kSeq_exit, kSeq_ret, kBlock_normal, kBlock_exit, kBlock_ret, seq_s, seq_m, seq_h, seq_g, seq_nil, seq_call, kRest_ap, st_nil, st_s, st_m, st_h, st_gs, st_gb, st_call, kStep_ap, calleeOf, s_mov, s_load, s_indexAddr, s_fieldAddr, s_len, s_bin, s_un, s_mkFunc, s_build, s_extract, s_max, s_field, s_pick, ld_ptr, ld_cptr, fa_ptr, fa_cptr, ln_str, ln_slice, ln_cslice, ln_nils, evM, Opd.ev, evL, putD, initEnv, PT.get_set, isB_bool, isB_tup, ble_dec, beq_dec, LoopK_exit, LoopK_ret, loadRow, row_alloc, cells_agg, cells_bool, cells_int, cells_str, cells_ptr, cells_nilp, cells_nils, cells_slice, cells_map, cells_nilm, cells_iface, cells_nili, cells_func, cells_nilf, binV, int_add, int_sub, int_mul, int_eql, int_neq, int_lss, int_leq, int_gtr, int_geq, strBin, eqV, plainEq, unV, kRes_ret, kRes_normal, resAll, resL, resV, recheck, keepRecs, SOp.impure, Nat.testBit_eq_decide_div_mod_eq, chk_prop, fail_prop, foldV, max2V, h_store, h_append, fillV, repZero, write_row, one_bool, one_int, one_str, one_nilp, one_ptr, one_cptr, one_nils, one_slice, one_cslice, one_nilm, one_map, one_nilf, one_func, one_nili, one_iface, e, hlt, hlt', hO.r5, hrL, hgL, ixA_own hlt, hm, wrap_succ (n := i) (by omega)]
      exact LoopK.go (l.length - (i + 1)) (by omega) (next _ best (pickStep_in hc) (by simp [Has, evC_seq, evC_region, evC_ret, evC_exit, evC_skip, evC_block, c_cond, kSeq_normal, kSeq_exit, kSeq_ret, kBlock_normal, kBlock_exit, kBlock_ret, seq_s, seq_m, seq_h, seq_g, seq_nil, seq_call, kRest_ap, st_nil, st_s, st_m, st_h, st_gs, st_gb, st_call, kStep_ap, calleeOf, s_mov, s_load, s_indexAddr, s_fieldAddr, s_len, s_bin, s_un, s_mkFunc, s_build, s_extract, s_max, s_field, s_pick, ld_ptr, ld_cptr, fa_ptr, fa_cptr, ln_str, ln_slice, ln_cslice, ln_nils, evM, Opd.ev, evL, putD, initEnv, PT.get_set, isB_bool, isB_tup, ble_dec, beq_dec, LoopK_exit, LoopK_ret, loadRow, row_alloc, cells_agg, cells_bool, cells_int, cells_str, cells_ptr, cells_nilp, cells_nils, cells_slice, cells_map, cells_nilm, cells_iface, cells_nili, cells_func, cells_nilf, binV, int_add, int_sub, int_mul, int_eql, int_neq, int_lss, int_leq, int_gtr, int_geq, strBin, eqV, plainEq, unV, kRes_ret, kRes_normal, resAll, resL, resV, recheck, keepRecs, SOp.impure, Nat.testBit_eq_decide_div_mod_eq, chk_prop, fail_prop, foldV, max2V, h_store, h_append, fillV, repZero, write_row, one_bool, one_int, one_str, one_nilp, one_ptr, one_cptr, one_nils, one_slice, one_cslice, one_nilm, one_map, one_nilf, one_func, one_nili, one_iface, e]))
    | false =>
    have hm : ¬ i ∈ out := by simpa using hc
    cases hf : freeN l.length E out i with
    | false =>
      have h0 : 0 < cnt E out i l.length := by rw [free_cnt] at hf; simp at hf; omega
      simp [c9_b27, c9_21, c9_22, c9_23, c9_26, evC_seq, evC_region, evC_ret, evC_exit, evC_skip, evC_block, c_cond, kSeq_normal, kSeq_exit, kSeq_ret, kBlock_normal, kBlock_exit, kBlock_ret, seq_s, seq_m, seq_h, seq_g, seq_nil, seq_call, kRest_ap, st_nil, st_s, st_m, st_h, st_gs, st_gb, st_call, kStep_ap, calleeOf, s_mov, s_load, s_indexAddr, s_fieldAddr, s_len, s_bin, s_un, s_mkFunc, s_build, s_extract, s_max, s_field, s_pick, ld_ptr, ld_cptr, fa_ptr, fa_cptr, ln_str, ln_slice, ln_cslice, ln_nils, evM, Opd.ev, evL, putD, initEnv, PT.get_set, isB_bool, isB_tup, ble_dec, beq_dec, LoopK_exit, LoopK_ret, loadRow, row_alloc, cells_agg, cells_bool, cells_int, cells_str, cells_ptr, cells_nilp, cells_nils, cells_slice, cells_map, cells_nilm, cells_iface, cells_nili, cells_func, cells_nilf, binV, int_add, int_sub, int_mul, int_eql, int_neq, int_lss, int_leq, int_gtr, int_geq, strBin, eqV, plainEq, unV, kRes_ret, kRes_normal, resAll, resL, resV, recheck, keepRecs, SOp.impure, Nat.testBit_eq_decide_div_mod_eq, chk_prop, fail_prop, foldV, max2V, h_store, h_append, fillV, repZero, write_row, one_bool, one_int, one_str, one_nilp, one_ptr, one_cptr, one_nils, one_slice, one_cslice, one_nilm, one_map, one_nilf, one_func, one_nili, one_iface, e, hlt, hlt', hO.r5, hO.r4, hrL, hrA, hgL, hgA, ixA_own hlt, hm, h0, wrap_succ (n := i) (by omega)]
      exact LoopK.go (l.length - (i + 1)) (by omega) (next _ best (pickStep_held hf) (by simp [Has, evC_seq, evC_region, evC_ret, evC_exit, evC_skip, evC_block, c_cond, kSeq_normal, kSeq_exit, kSeq_ret, kBlock_normal, kBlock_exit, kBlock_ret, seq_s, seq_m, seq_h, seq_g, seq_nil, seq_call, kRest_ap, st_nil, st_s, st_m, st_h, st_gs, st_gb, st_call, kStep_ap, calleeOf, s_mov, s_load, s_indexAddr, s_fieldAddr, s_len, s_bin, s_un, s_mkFunc, s_build, s_extract, s_max, s_field, s_pick, ld_ptr, ld_cptr, fa_ptr, fa_cptr, ln_str, ln_slice, ln_cslice, ln_nils, evM, Opd.ev, evL, putD, initEnv, PT.get_set, isB_bool, isB_tup, ble_dec, beq_dec, LoopK_exit, LoopK_ret, loadRow, row_alloc, cells_agg, cells_bool, cells_int, cells_str, cells_ptr, cells_nilp, cells_nils, cells_slice, cells_map, cells_nilm, cells_iface, cells_nili, cells_func, cells_nilf, binV, int_add, int_sub, int_mul, int_eql, int_neq, int_lss, int_leq, int_gtr, int_geq, strBin, eqV, plainEq, unV, kRes_ret, kRes_normal, resAll, resL, resV, recheck, keepRecs, SOp.impure, Nat.testBit_eq_decide_div_mod_eq, chk_prop, fail_prop, foldV, max2V, h_store, h_append, fillV, repZero, write_row, one_bool, one_int, one_str, one_nilp, one_ptr, one_cptr, one_nils, one_slice, one_cslice, one_nilm, one_map, one_nilf, one_func, one_nili, one_iface, e]))
    | true =>
    have h0 : ¬ 0 < cnt E out i l.length := by rw [free_cnt] at hf; simp at hf; omega
    simp [c9_b27, c9_21, c9_22, c9_23, c9_26, evC_seq, evC_region, evC_ret, evC_exit, evC_skip, evC_block, c_cond, kSeq_normal, kSeq_exit, kSeq_ret, kBlock_normal, kBlock_exit, kBlock_ret, seq_s, seq_m, seq_h, seq_g, seq_nil, seq_call, kRest_ap, st_nil, st_s, st_m, st_h, st_gs, st_gb, st_call, kStep_ap, calleeOf, s_mov, s_load, s_indexAddr, s_fieldAddr, s_len, s_bin, s_un, s_mkFunc, s_build, s_extract, s_max, s_field, s_pick, ld_ptr, ld_cptr, fa_ptr, fa_cptr, ln_str, ln_slice, ln_cslice, ln_nils, evM, Opd.ev, evL, putD, initEnv, PT.get_set, isB_bool, isB_tup, ble_dec, beq_dec, LoopK_exit, LoopK_ret, loadRow, row_alloc, cells_agg, cells_bool, cells_int, cells_str, cells_ptr, cells_nilp, cells_nils, cells_slice, cells_map, cells_nilm, cells_iface, cells_nili, cells_func, cells_nilf, binV, int_add, int_sub, int_mul, int_eql, int_neq, int_lss, int_leq, int_gtr, int_geq, strBin, eqV, plainEq, unV, kRes_ret, kRes_normal, resAll, resL, resV, recheck, keepRecs, SOp.impure, Nat.testBit_eq_decide_div_mod_eq, chk_prop, fail_prop, foldV, max2V, h_store, h_append, fillV, repZero, write_row, one_bool, one_int, one_str, one_nilp, one_ptr, one_cptr, one_nils, one_slice, one_cslice, one_nilm, one_map, one_nilf, one_func, one_nili, one_iface, e, hlt, hlt', hO.r5, hO.r4, hrL, hrA, hgL, hgA, ixA_own hlt, hm, h0]
    refine evC_sched c9_24h ?_
    cases best with
    | none =>
      simp [c9_24s, c9_25, c9_26, evC_seq, evC_region, evC_ret, evC_exit, evC_skip, evC_block, c_cond, kSeq_normal, kSeq_exit, kSeq_ret, kBlock_normal, kBlock_exit, kBlock_ret, seq_s, seq_m, seq_h, seq_g, seq_nil, seq_call, kRest_ap, st_nil, st_s, st_m, st_h, st_gs, st_gb, st_call, kStep_ap, calleeOf, s_mov, s_load, s_indexAddr, s_fieldAddr, s_len, s_bin, s_un, s_mkFunc, s_build, s_extract, s_max, s_field, s_pick, ld_ptr, ld_cptr, fa_ptr, fa_cptr, ln_str, ln_slice, ln_cslice, ln_nils, evM, Opd.ev, evL, putD, initEnv, PT.get_set, isB_bool, isB_tup, ble_dec, beq_dec, LoopK_exit, LoopK_ret, loadRow, row_alloc, cells_agg, cells_bool, cells_int, cells_str, cells_ptr, cells_nilp, cells_nils, cells_slice, cells_map, cells_nilm, cells_iface, cells_nili, cells_func, cells_nilf, binV, int_add, int_sub, int_mul, int_eql, int_neq, int_lss, int_leq, int_gtr, int_geq, strBin, eqV, plainEq, unV, kRes_ret, kRes_normal, resAll, resL, resV, recheck, keepRecs, SOp.impure, Nat.testBit_eq_decide_div_mod_eq, chk_prop, fail_prop, foldV, max2V, h_store, h_append, fillV, repZero, write_row, one_bool, one_int, one_str, one_nilp, one_ptr, one_cptr, one_nils, one_slice, one_cslice, one_nilm, one_map, one_nilf, one_func, one_nili, one_iface, e, bi, wrap_succ (n := i) (by omega)]
      exact LoopK.go (l.length - (i + 1)) (by omega) (next _ (some i) (pickStep_first hc hf) (by simp [Has, evC_seq, evC_region, evC_ret, evC_exit, evC_skip, evC_block, c_cond, kSeq_normal, kSeq_exit, kSeq_ret, kBlock_normal, kBlock_exit, kBlock_ret, seq_s, seq_m, seq_h, seq_g, seq_nil, seq_call, kRest_ap, st_nil, st_s, st_m, st_h, st_gs, st_gb, st_call, kStep_ap, calleeOf, s_mov, s_load, s_indexAddr, s_fieldAddr, s_len, s_bin, s_un, s_mkFunc, s_build, s_extract, s_max, s_field, s_pick, ld_ptr, ld_cptr, fa_ptr, fa_cptr, ln_str, ln_slice, ln_cslice, ln_nils, evM, Opd.ev, evL, putD, initEnv, PT.get_set, isB_bool, isB_tup, ble_dec, beq_dec, LoopK_exit, LoopK_ret, loadRow, row_alloc, cells_agg, cells_bool, cells_int, cells_str, cells_ptr, cells_nilp, cells_nils, cells_slice, cells_map, cells_nilm, cells_iface, cells_nili, cells_func, cells_nilf, binV, int_add, int_sub, int_mul, int_eql, int_neq, int_lss, int_leq, int_gtr, int_geq, strBin, eqV, plainEq, unV, kRes_ret, kRes_normal, resAll, resL, resV, recheck, keepRecs, SOp.impure, Nat.testBit_eq_decide_div_mod_eq, chk_prop, fail_prop, foldV, max2V, h_store, h_append, fillV, repZero, write_row, one_bool, one_int, one_str, one_nilp, one_ptr, one_cptr, one_nils, one_slice, one_cslice, one_nilm, one_map, one_nilf, one_func, one_nili, one_iface, e, bi]))
    | some b =>
      have hbo := pick_lt hbest
      obtain ⟨p, q, hp, hpq, hq⟩ := hv.en hlt
      obtain ⟨p', q', hp', hpq', hq'⟩ := hv.en (i := b) (by omega)
      rw [hen] at hq hq'
      have ld1 := hq s2 hO.g
      have ld2 := hq' s2 hO.g
      have hbn : ¬ ((b : Int) < 0) := by omega
      by_cases hlt2 : en i < en b
      · simp [c9_24s, c9_25, c9_26, evC_seq, evC_region, evC_ret, evC_exit, evC_skip, evC_block, c_cond, kSeq_normal, kSeq_exit, kSeq_ret, kBlock_normal, kBlock_exit, kBlock_ret, seq_s, seq_m, seq_h, seq_g, seq_nil, seq_call, kRest_ap, st_nil, st_s, st_m, st_h, st_gs, st_gb, st_call, kStep_ap, calleeOf, s_mov, s_load, s_indexAddr, s_fieldAddr, s_len, s_bin, s_un, s_mkFunc, s_build, s_extract, s_max, s_field, s_pick, ld_ptr, ld_cptr, fa_ptr, fa_cptr, ln_str, ln_slice, ln_cslice, ln_nils, evM, Opd.ev, evL, putD, initEnv, PT.get_set, isB_bool, isB_tup, ble_dec, beq_dec, LoopK_exit, LoopK_ret, loadRow, row_alloc, cells_agg, cells_bool, cells_int, cells_str, cells_ptr, cells_nilp, cells_nils, cells_slice, cells_map, cells_nilm, cells_iface, cells_nili, cells_func, cells_nilf, binV, int_add, int_sub, int_mul, int_eql, int_neq, int_lss, int_leq, int_gtr, int_geq, strBin, eqV, plainEq, unV, kRes_ret, kRes_normal, resAll, resL, resV, recheck, keepRecs, SOp.impure, Nat.testBit_eq_decide_div_mod_eq, chk_prop, fail_prop, foldV, max2V, h_store, h_append, fillV, repZero, write_row, one_bool, one_int, one_str, one_nilp, one_ptr, one_cptr, one_nils, one_slice, one_cslice, one_nilm, one_map, one_nilf, one_func, one_nili, one_iface, e, bi, hbn, hO.r1, hp, hp', hpq, hpq', ld1, ld2, hlt2, wrap_succ (n := i) (by omega)]
        exact LoopK.go (l.length - (i + 1)) (by omega) (next _ (some i) (pickStep_lt hc hf hlt2) (by simp [Has, evC_seq, evC_region, evC_ret, evC_exit, evC_skip, evC_block, c_cond, kSeq_normal, kSeq_exit, kSeq_ret, kBlock_normal, kBlock_exit, kBlock_ret, seq_s, seq_m, seq_h, seq_g, seq_nil, seq_call, kRest_ap, st_nil, st_s, st_m, st_h, st_gs, st_gb, st_call, kStep_ap, calleeOf, s_mov, s_load, s_indexAddr, s_fieldAddr, s_len, s_bin, s_un, s_mkFunc, s_build, s_extract, s_max, s_field, s_pick, ld_ptr, ld_cptr, fa_ptr, fa_cptr, ln_str, ln_slice, ln_cslice, ln_nils, evM, Opd.ev, evL, putD, initEnv, PT.get_set, isB_bool, isB_tup, ble_dec, beq_dec, LoopK_exit, LoopK_ret, loadRow, row_alloc, cells_agg, cells_bool, cells_int, cells_str, cells_ptr, cells_nilp, cells_nils, cells_slice, cells_map, cells_nilm, cells_iface, cells_nili, cells_func, cells_nilf, binV, int_add, int_sub, int_mul, int_eql, int_neq, int_lss, int_leq, int_gtr, int_geq, strBin, eqV, plainEq, unV, kRes_ret, kRes_normal, resAll, resL, resV, recheck, keepRecs, SOp.impure, Nat.testBit_eq_decide_div_mod_eq, chk_prop, fail_prop, foldV, max2V, h_store, h_append, fillV, repZero, write_row, one_bool, one_int, one_str, one_nilp, one_ptr, one_cptr, one_nils, one_slice, one_cslice, one_nilm, one_map, one_nilf, one_func, one_nili, one_iface, e, bi]))
      · simp [c9_24s, c9_25, c9_26, evC_seq, evC_region, evC_ret, evC_exit, evC_skip, evC_block, c_cond, kSeq_normal, kSeq_exit, kSeq_ret, kBlock_normal, kBlock_exit, kBlock_ret, seq_s, seq_m, seq_h, seq_g, seq_nil, seq_call, kRest_ap, st_nil, st_s, st_m, st_h, st_gs, st_gb, st_call, kStep_ap, calleeOf, s_mov, s_load, s_indexAddr, s_fieldAddr, s_len, s_bin, s_un, s_mkFunc, s_build, s_extract, s_max, s_field, s_pick, ld_ptr, ld_cptr, fa_ptr, fa_cptr, ln_str, ln_slice, ln_cslice, ln_nils, evM, Opd.ev, evL, putD, initEnv, PT.get_set, isB_bool, isB_tup, ble_dec, beq_dec, LoopK_exit, LoopK_ret, loadRow, row_alloc, cells_agg, cells_bool, cells_int, cells_str, cells_ptr, cells_nilp, cells_nils, cells_slice, cells_map, cells_nilm, cells_iface, cells_nili, cells_func, cells_nilf, binV, int_add, int_sub, int_mul, int_eql, int_neq, int_lss, int_leq, int_gtr, int_geq, strBin, eqV, plainEq, unV, kRes_ret, kRes_normal, resAll, resL, resV, recheck, keepRecs, SOp.impure, Nat.testBit_eq_decide_div_mod_eq, chk_prop, fail_prop, foldV, max2V, h_store, h_append, fillV, repZero, write_row, one_bool, one_int, one_str, one_nilp, one_ptr, one_cptr, one_nils, one_slice, one_cslice, one_nilm, one_map, one_nilf, one_func, one_nili, one_iface, e, bi, hbn, hO.r1, hp, hp', hpq, hpq', ld1, ld2, hlt2, wrap_succ (n := i) (by omega)]
        exact LoopK.go (l.length - (i + 1)) (by omega) (next _ (some b) (pickStep_ge hc hf hlt2) (by simp [Has, evC_seq, evC_region, evC_ret, evC_exit, evC_skip, evC_block, c_cond, kSeq_normal, kSeq_exit, kSeq_ret, kBlock_normal, kBlock_exit, kBlock_ret, seq_s, seq_m, seq_h, seq_g, seq_nil, seq_call, kRest_ap, st_nil, st_s, st_m, st_h, st_gs, st_gb, st_call, kStep_ap, calleeOf, s_mov, s_load, s_indexAddr, s_fieldAddr, s_len, s_bin, s_un, s_mkFunc, s_build, s_extract, s_max, s_field, s_pick, ld_ptr, ld_cptr, fa_ptr, fa_cptr, ln_str, ln_slice, ln_cslice, ln_nils, evM, Opd.ev, evL, putD, initEnv, PT.get_set, isB_bool, isB_tup, ble_dec, beq_dec, LoopK_exit, LoopK_ret, loadRow, row_alloc, cells_agg, cells_bool, cells_int, cells_str, cells_ptr, cells_nilp, cells_nils, cells_slice, cells_map, cells_nilm, cells_iface, cells_nili, cells_func, cells_nilf, binV, int_add, int_sub, int_mul, int_eql, int_neq, int_lss, int_leq, int_gtr, int_geq, strBin, eqV, plainEq, unV, kRes_ret, kRes_normal, resAll, resL, resV, recheck, keepRecs, SOp.impure, Nat.testBit_eq_decide_div_mod_eq, chk_prop, fail_prop, foldV, max2V, h_store, h_append, fillV, repZero, write_row, one_bool, one_int, one_str, one_nilp, one_ptr, one_cptr, one_nils, one_slice, one_cslice, one_nilm, one_map, one_nilf, one_func, one_nili, one_iface, e, bi]))
  · have hlt' : ¬ (i : Int) < (l.length : Int) := by omega
    obtain rfl : i = l.length := by omega
    have hk := hk (env.set 61 (.bool false)) (by simp [Has, evC_seq, evC_region, evC_ret, evC_exit, evC_skip, evC_block, c_cond, kSeq_normal, kSeq_exit, kSeq_ret, kBlock_normal, kBlock_exit, kBlock_ret, seq_s, seq_m, seq_h, seq_g, seq_nil, seq_call, kRest_ap, st_nil, st_s, st_m, st_h, st_gs, st_gb, st_call, kStep_ap, calleeOf, s_mov, s_load, s_indexAddr, s_fieldAddr, s_len, s_bin, s_un, s_mkFunc, s_build, s_extract, s_max, s_field, s_pick, ld_ptr, ld_cptr, fa_ptr, fa_cptr, ln_str, ln_slice, ln_cslice, ln_nils, evM, Opd.ev, evL, putD, initEnv, PT.get_set, isB_bool, isB_tup, ble_dec, beq_dec, LoopK_exit, LoopK_ret, loadRow, row_alloc, cells_agg, cells_bool, cells_int, cells_str, cells_ptr, cells_nilp, cells_nils, cells_slice, cells_map, cells_nilm, cells_iface, cells_nili, cells_func, cells_nilf, binV, int_add, int_sub, int_mul, int_eql, int_neq, int_lss, int_leq, int_gtr, int_geq, strBin, eqV, plainEq, unV, kRes_ret, kRes_normal, resAll, resL, resV, recheck, keepRecs, SOp.impure, Nat.testBit_eq_decide_div_mod_eq, chk_prop, fail_prop, foldV, max2V, h_store, h_append, fillV, repZero, write_row, one_bool, one_int, one_str, one_nilp, one_ptr, one_cptr, one_nils, one_slice, one_cslice, one_nilm, one_map, one_nilf, one_func, one_nili, one_iface, e])
    simp [c9_b27, c9_21, evC_seq, evC_region, evC_ret, evC_exit, evC_skip, evC_block, c_cond, kSeq_normal, kSeq_exit, kSeq_ret, kBlock_normal, kBlock_exit, kBlock_ret, seq_s, seq_m, seq_h, seq_g, seq_nil, seq_call, kRest_ap, st_nil, st_s, st_m, st_h, st_gs, st_gb, st_call, kStep_ap, calleeOf, s_mov, s_load, s_indexAddr, s_fieldAddr, s_len, s_bin, s_un, s_mkFunc, s_build, s_extract, s_max, s_field, s_pick, ld_ptr, ld_cptr, fa_ptr, fa_cptr, ln_str, ln_slice, ln_cslice, ln_nils, evM, Opd.ev, evL, putD, initEnv, PT.get_set, isB_bool, isB_tup, ble_dec, beq_dec, LoopK_exit, LoopK_ret, loadRow, row_alloc, cells_agg, cells_bool, cells_int, cells_str, cells_ptr, cells_nilp, cells_nils, cells_slice, cells_map, cells_nilm, cells_iface, cells_nili, cells_func, cells_nilf, binV, int_add, int_sub, int_mul, int_eql, int_neq, int_lss, int_leq, int_gtr, int_geq, strBin, eqV, plainEq, unV, kRes_ret, kRes_normal, resAll, resL, resV, recheck, keepRecs, SOp.impure, Nat.testBit_eq_decide_div_mod_eq, chk_prop, fail_prop, foldV, max2V, h_store, h_append, fillV, repZero, write_row, one_bool, one_int, one_str, one_nilp, one_ptr, one_cptr, one_nils, one_slice, one_cslice, one_nilm, one_map, one_nilf, one_func, one_nili, one_iface, e, hk]

/-- What is laid, and room for the rest. -/
def outRow (n : Nat) (out : List Nat) : List V := (List.range n).map fun x => icell (out.getD x 0)
theorem outRow_push {n : Nat} {out : List Nat} {b : Nat} (h : out.length < n) : (outRow n out).set out.length (icell b) = outRow n (out ++ [b]) := by
  unfold outRow
  rw [set_map]
  apply List.map_congr_left
  intro x hx
  by_cases h1 : x = out.length
  · subst h1; simp [List.getD]
  · rw [if_neg h1]
    by_cases h2 : x < out.length
    · simp [List.getD, h2, List.getElem?_append_left]
    · have : ¬ x < (out ++ [b]).length := by simp; omega
      simp only [List.getD]
      rw [List.getElem?_eq_none (by omega), List.getElem?_eq_none (by omega)]

/-- Memory while it lays. -/
structure OL (s : St) (v : V) (n : Nat) (c : Nat → Nat) (ld : Nat → Bool) (o : Nat) (out : List Nat) (s' : St) : Prop where
  om : OM s v n c ld s'
  lo : s.next + 5 ≤ o
  hi : o + 2 ≤ s'.next
  rO : s'.row o = some (outRow n out)
  rS : s'.row (o + 1) = some [.slice o 0 out.length n 1 true]
theorem OL.grew {s : St} {v : V} {n : Nat} {c : Nat → Nat} {ld : Nat → Bool} {o : Nat} {out : List Nat} {s' s'' : St} (h : OL s v n c ld o out s') (g : Grew s' s'') : OL s v n c ld o out s'' where
  om := h.om.grew g
  lo := h.lo
  hi := Nat.le_trans h.hi g.next
  rO := (g.row (by have := h.hi; omega)).trans h.rO
  rS := (g.row (by have := h.hi; omega)).trans h.rS
theorem OL.setA {s : St} {v : V} {n : Nat} {c : Nat → Nat} {ld : Nat → Bool} {o : Nat} {out : List Nat} {s' : St} (h : OL s v n c ld o out s') (i y : Nat) :
    OL s v n (fun x => if x = i then y else c x) ld o out (s'.put (s.next + 1) (.row (((List.range n).map fun x => icell (c x)).set i (icell y)))) where
  om := h.om.setA i y
  lo := h.lo
  hi := h.hi
  rO := by have := h.lo; rw [row_put, if_neg (by omega)]; exact h.rO
  rS := by have := h.lo; rw [row_put, if_neg (by omega)]; exact h.rS
theorem OL.setL {s : St} {v : V} {n : Nat} {c : Nat → Nat} {ld : Nat → Bool} {o : Nat} {out : List Nat} {s' : St} (h : OL s v n c ld o out s') (i : Nat) (y : Bool) :
    OL s v n c (fun x => if x = i then y else ld x) o out (s'.put (s.next + 3) (.row (((List.range n).map fun x => V.bool (ld x)).set i (.bool y)))) where
  om := h.om.setL i y
  lo := h.lo
  hi := h.hi
  rO := by have := h.lo; rw [row_put, if_neg (by omega)]; exact h.rO
  rS := by have := h.lo; rw [row_put, if_neg (by omega)]; exact h.rS
theorem OL.congr {s : St} {v : V} {n : Nat} {c c' : Nat → Nat} {ld ld' : Nat → Bool} {o : Nat} {out : List Nat} {s' : St} (h : OL s v n c ld o out s') (hc : ∀ x, x < n → c x = c' x) (hl : ∀ x, x < n → ld x = ld' x) :
    OL s v n c' ld' o out s' := { h with om := h.om.congr hc hl }
theorem OM.far {s : St} {v : V} {n : Nat} {c : Nat → Nat} {ld : Nat → Bool} {s' : St} (h : OM s v n c ld s') {b : Nat} (hb : s.next + 5 ≤ b) (o : Ob) : OM s v n c ld (s'.put b o) where
  g := h.g.put (by omega) _
  nx := h.nx
  r1 := by simp only [St.row, St.get_put]; rw [if_neg (by omega)]; exact h.r1
  rA := by simp only [St.row, St.get_put]; rw [if_neg (by omega)]; exact h.rA
  r4 := by simp only [St.row, St.get_put]; rw [if_neg (by omega)]; exact h.r4
  rL := by simp only [St.row, St.get_put]; rw [if_neg (by omega)]; exact h.rL
  r5 := by simp only [St.row, St.get_put]; rw [if_neg (by omega)]; exact h.r5

theorem spl_one1 {x y : V} : spl [x] 0 [y] = [y] := rfl
theorem OL.push {s : St} {v : V} {n : Nat} {c : Nat → Nat} {ld : Nat → Bool} {o b : Nat} {out : List Nat} {s' : St} (h : OL s v n c ld o out s') :
    OL s v n c ld o (out ++ [b]) ((s'.put o (.row (outRow n (out ++ [b])))).put (o + 1) (.row [.slice o 0 (out.length + 1) n 1 true])) where
  om := (h.om.far h.lo _).far (by have := h.lo; omega) _
  lo := h.lo
  hi := h.hi
  rO := by rw [row_put, if_neg (by omega), row_put, if_pos rfl]
  rS := by rw [row_put, if_pos rfl]; simp
theorem ok19 {s s1 : St} {v : V} {l : List D} {out : List Nat} {o b : Nat} {n : Nat} {k : V → St → Prop} (hv : DL s v l) (hn : 1300 ≤ n)
    (hO : OL s v l.length (fun x => cnt (byPlace l edge) out x l.length) (fun x => out.contains x) o out s1) (hb : b < l.length) (hbo : out.contains b = false) (hlo : out.length < l.length)
    (hk : ∀ s', OL s v l.length (fun x => cnt (byPlace l edge) (out ++ [b]) x l.length) (fun x => (out ++ [b]).contains x) o (out ++ [b]) s' → k (.tup []) s') :
    callP cTab M n 19 [.int .i64 b, .ptr (o + 1) 0, .ptr (s.next + 4) 0, .ptr s.next 0, .ptr (s.next + 2) 0] s1 k := by
  obtain ⟨m, rfl⟩ : ∃ m, n = m + 20 := ⟨n - 20, by omega⟩
  obtain ⟨N1, hN1⟩ : ∃ N : Nat, N = 900 := ⟨_, rfl⟩
  rw [callP_at (show cTab _ = some c19 from rfl) (by simp)]
  have hl := fun s' => hv.len (s' := s')
  have hlen := hv.2.2
  generalize hE : byPlace l edge = E at hk hO
  have happ : appendV (s1.alloc (.row [.int .i64 b])) 1 8 false (.slice o 0 out.length l.length 1 true) (.slice s1.next 0 1 1 1 true) =
      some (.slice o 0 (out ++ [b]).length l.length 1 true, (s1.alloc (.row [.int .i64 b])).put o (.row (outRow l.length (out ++ [b])))) := by
    have hr : (s1.alloc (.row [.int .i64 b])).row s1.next = some [.int .i64 b] := by rw [row_alloc]; simp
    have hro : (s1.alloc (.row [.int .i64 b])).row o = some (outRow l.length out) := by
      rw [row_alloc, if_neg (by have := hO.hi; omega)]; exact hO.rO
    have hol : (outRow l.length out).length = l.length := by simp [outRow]
    have h1 : (out.length + 1) * 8 ≤ big := by simp [big]; omega
    have h2 : out.length + 1 ≤ big := by simp [big]; omega
    have h3 : out.length + 1 ≤ l.length := by omega
    have h4 := spl_set (y := V.int .i64 b) (cs := outRow l.length out) (i := out.length) (by rw [hol]; exact hlo)
    have h5 := outRow_push (b := b) hlo
    simp only [icell] at h5
    simp [appendV, srcCells, sliceCells, hr, lenV, ble_dec, beq_dec, one_int, h1, h2, h3, write_row, hro, hol, h4, h5]
  rw [List.length_append, List.length_singleton] at happ
  have ne1 : ¬ (o + 1 = s1.next) := by have := hO.hi; omega
  have O2 := (hO.grew (Grew.alloc s1 (.row [.int .i64 b]))).push (b := b)
  have rS := hO.rS
  simp [c19_0, evC_seq, evC_region, evC_ret, evC_exit, evC_skip, evC_block, c_cond, kSeq_normal, kSeq_exit, kSeq_ret, kBlock_normal, kBlock_exit, kBlock_ret, seq_s, seq_m, seq_h, seq_g, seq_nil, seq_call, kRest_ap, st_nil, st_s, st_m, st_h, st_gs, st_gb, st_call, kStep_ap, calleeOf, s_mov, s_load, s_indexAddr, s_fieldAddr, s_len, s_bin, s_un, s_mkFunc, s_build, s_extract, s_max, s_field, s_pick, ld_ptr, ld_cptr, fa_ptr, fa_cptr, ln_str, ln_slice, ln_cslice, ln_nils, evM, Opd.ev, evL, putD, initEnv, PT.get_set, isB_bool, isB_tup, ble_dec, beq_dec, LoopK_exit, LoopK_ret, loadRow, row_alloc, cells_agg, cells_bool, cells_int, cells_str, cells_ptr, cells_nilp, cells_nils, cells_slice, cells_map, cells_nilm, cells_iface, cells_nili, cells_func, cells_nilf, binV, int_add, int_sub, int_mul, int_eql, int_neq, int_lss, int_leq, int_gtr, int_geq, strBin, eqV, plainEq, unV, kRes_ret, kRes_normal, resAll, resL, resV, recheck, keepRecs, SOp.impure, Nat.testBit_eq_decide_div_mod_eq, chk_prop, fail_prop, foldV, max2V, h_store, h_append, fillV, repZero, write_row, one_bool, one_int, one_str, one_nilp, one_ptr, one_cptr, one_nils, one_slice, one_cslice, one_nilm, one_map, one_nilf, one_func, one_nili, one_iface, spl_one1, rS, happ, ne1, row_put]
  generalize ((s1.alloc (.row [.int .i64 b])).put o (.row (outRow l.length (out ++ [b])))).put (o + 1) (.row [.slice o 0 (out.length + 1) l.length 1 true]) = S2 at O2 ⊢
  have hsetL : ∀ y, spl ((List.range l.length).map fun x => V.bool (out.contains x)) b [y] = ((List.range l.length).map fun x => V.bool (out.contains x)).set b y := fun y => spl_set (by simpa using hb)
  have hcon : ∀ x, (if x = b then true else out.contains x) = (out ++ [b]).contains x := by
    intro x
    rw [List.contains_append]
    by_cases h : x = b
    · subst h; simp
    · simp [h]
  have O3 := (O2.setL b true).congr (c' := fun x => cnt E out x l.length) (ld' := fun x => (out ++ [b]).contains x) (fun _ _ => rfl) (fun x _ => hcon x)
  have rL := O2.om.rL
  have r5 := O2.om.r5
  have hbi : (b : Int) < (l.length : Int) := by omega
  have r1 := O2.om.r1
  simp only [List.contains_eq_mem] at rL hsetL O3
  simp [c19_1, c19_2, evC_seq, evC_region, evC_ret, evC_exit, evC_skip, evC_block, c_cond, kSeq_normal, kSeq_exit, kSeq_ret, kBlock_normal, kBlock_exit, kBlock_ret, seq_s, seq_m, seq_h, seq_g, seq_nil, seq_call, kRest_ap, st_nil, st_s, st_m, st_h, st_gs, st_gb, st_call, kStep_ap, calleeOf, s_mov, s_load, s_indexAddr, s_fieldAddr, s_len, s_bin, s_un, s_mkFunc, s_build, s_extract, s_max, s_field, s_pick, ld_ptr, ld_cptr, fa_ptr, fa_cptr, ln_str, ln_slice, ln_cslice, ln_nils, evM, Opd.ev, evL, putD, initEnv, PT.get_set, isB_bool, isB_tup, ble_dec, beq_dec, LoopK_exit, LoopK_ret, loadRow, row_alloc, cells_agg, cells_bool, cells_int, cells_str, cells_ptr, cells_nilp, cells_nils, cells_slice, cells_map, cells_nilm, cells_iface, cells_nili, cells_func, cells_nilf, binV, int_add, int_sub, int_mul, int_eql, int_neq, int_lss, int_leq, int_gtr, int_geq, strBin, eqV, plainEq, unV, kRes_ret, kRes_normal, resAll, resL, resV, recheck, keepRecs, SOp.impure, Nat.testBit_eq_decide_div_mod_eq, chk_prop, fail_prop, foldV, max2V, h_store, h_append, fillV, repZero, write_row, one_bool, one_int, one_str, one_nilp, one_ptr, one_cptr, one_nils, one_slice, one_cslice, one_nilm, one_map, one_nilf, one_func, one_nili, one_iface, r5, rL, ixA_own hb, hsetL, Nat.succ_le_of_lt hb, r1, hl, row_put]
  refine loop (fun j env s' => ∃ i, j = l.length - i ∧ i ≤ l.length ∧ OL s v l.length (fun x => if x < i then cnt E (out ++ [b]) x l.length else cnt E out x l.length) (fun x => (out ++ [b]).contains x) o (out ++ [b]) s' ∧
      Has env [(0, .int .i64 b), (3, .ptr s.next 0), (4, .ptr (s.next + 2) 0), (15, .int .i64 l.length), (16, .int .i64 i)]) (N1 + 20) ?_
    l.length (by omega) ⟨0, by omega, by omega, by simpa using O3, by simp [Has, evC_seq, evC_region, evC_ret, evC_exit, evC_skip, evC_block, c_cond, kSeq_normal, kSeq_exit, kSeq_ret, kBlock_normal, kBlock_exit, kBlock_ret, seq_s, seq_m, seq_h, seq_g, seq_nil, seq_call, kRest_ap, st_nil, st_s, st_m, st_h, st_gs, st_gb, st_call, kStep_ap, calleeOf, s_mov, s_load, s_indexAddr, s_fieldAddr, s_len, s_bin, s_un, s_mkFunc, s_build, s_extract, s_max, s_field, s_pick, ld_ptr, ld_cptr, fa_ptr, fa_cptr, ln_str, ln_slice, ln_cslice, ln_nils, evM, Opd.ev, evL, putD, initEnv, PT.get_set, isB_bool, isB_tup, ble_dec, beq_dec, LoopK_exit, LoopK_ret, loadRow, row_alloc, cells_agg, cells_bool, cells_int, cells_str, cells_ptr, cells_nilp, cells_nils, cells_slice, cells_map, cells_nilm, cells_iface, cells_nili, cells_func, cells_nilf, binV, int_add, int_sub, int_mul, int_eql, int_neq, int_lss, int_leq, int_gtr, int_geq, strBin, eqV, plainEq, unV, kRes_ret, kRes_normal, resAll, resL, resV, recheck, keepRecs, SOp.impure, Nat.testBit_eq_decide_div_mod_eq, chk_prop, fail_prop, foldV, max2V, h_store, h_append, fillV, repZero, write_row, one_bool, one_int, one_str, one_nilp, one_ptr, one_cptr, one_nils, one_slice, one_cslice, one_nilm, one_map, one_nilf, one_func, one_nili, one_iface]⟩
  rintro I hI j env s2 ⟨i, rfl, hi, O, e⟩
  simp only [Has] at e
  by_cases hlt : i < l.length
  · have hlt' : (i : Int) < (l.length : Int) := by omega
    have next : ∀ env' s', OL s v l.length (fun x => if x < i + 1 then cnt E (out ++ [b]) x l.length else cnt E out x l.length) (fun x => (out ++ [b]).contains x) o (out ++ [b]) s' →
        Has env' [(0, .int .i64 b), (3, .ptr s.next 0), (4, .ptr (s.next + 2) 0), (15, .int .i64 l.length), (16, .int .i64 ((i + 1 : Nat) : Int))] → I (l.length - (i + 1)) env' s' :=
      fun env' s' hO he => hI _ _ _ ⟨i + 1, rfl, by omega, hO, he⟩
    have hpush : cnt E out i l.length = cnt E (out ++ [b]) i l.length + (if b < l.length ∧ ¬ b = i ∧ E b i = true then 1 else 0) := cnt_push hbo
    have same : cnt E (out ++ [b]) i l.length = cnt E out i l.length → ∀ s', OL s v l.length (fun x => if x < i then cnt E (out ++ [b]) x l.length else cnt E out x l.length) (fun x => (out ++ [b]).contains x) o (out ++ [b]) s' →
        OL s v l.length (fun x => if x < i + 1 then cnt E (out ++ [b]) x l.length else cnt E out x l.length) (fun x => (out ++ [b]).contains x) o (out ++ [b]) s' := by
      intro hno s' h
      refine h.congr (fun x hx => ?_) (fun _ _ => rfl)
      by_cases h1 : x < i
      · have : x < i + 1 := by omega
        simp [h1, this]
      · by_cases h2 : x = i
        · subst h2; simp [hno]
        · have : ¬ x < i + 1 := by omega
          simp [h1, this]
    simp [c19_b8, c19_3, c19_4, evC_seq, evC_region, evC_ret, evC_exit, evC_skip, evC_block, c_cond, kSeq_normal, kSeq_exit, kSeq_ret, kBlock_normal, kBlock_exit, kBlock_ret, seq_s, seq_m, seq_h, seq_g, seq_nil, seq_call, kRest_ap, st_nil, st_s, st_m, st_h, st_gs, st_gb, st_call, kStep_ap, calleeOf, s_mov, s_load, s_indexAddr, s_fieldAddr, s_len, s_bin, s_un, s_mkFunc, s_build, s_extract, s_max, s_field, s_pick, ld_ptr, ld_cptr, fa_ptr, fa_cptr, ln_str, ln_slice, ln_cslice, ln_nils, evM, Opd.ev, evL, putD, initEnv, PT.get_set, isB_bool, isB_tup, ble_dec, beq_dec, LoopK_exit, LoopK_ret, loadRow, row_alloc, cells_agg, cells_bool, cells_int, cells_str, cells_ptr, cells_nilp, cells_nils, cells_slice, cells_map, cells_nilm, cells_iface, cells_nili, cells_func, cells_nilf, binV, int_add, int_sub, int_mul, int_eql, int_neq, int_lss, int_leq, int_gtr, int_geq, strBin, eqV, plainEq, unV, kRes_ret, kRes_normal, resAll, resL, resV, recheck, keepRecs, SOp.impure, Nat.testBit_eq_decide_div_mod_eq, chk_prop, fail_prop, foldV, max2V, h_store, h_append, fillV, repZero, write_row, one_bool, one_int, one_str, one_nilp, one_ptr, one_cptr, one_nils, one_slice, one_cslice, one_nilm, one_map, one_nilf, one_func, one_nili, one_iface, e, hlt, hlt']
    refine evC_sched c19_5h ?_
    by_cases hib : i = b
    · subst hib
      simp [c19_5s, c19_7, evC_seq, evC_region, evC_ret, evC_exit, evC_skip, evC_block, c_cond, kSeq_normal, kSeq_exit, kSeq_ret, kBlock_normal, kBlock_exit, kBlock_ret, seq_s, seq_m, seq_h, seq_g, seq_nil, seq_call, kRest_ap, st_nil, st_s, st_m, st_h, st_gs, st_gb, st_call, kStep_ap, calleeOf, s_mov, s_load, s_indexAddr, s_fieldAddr, s_len, s_bin, s_un, s_mkFunc, s_build, s_extract, s_max, s_field, s_pick, ld_ptr, ld_cptr, fa_ptr, fa_cptr, ln_str, ln_slice, ln_cslice, ln_nils, evM, Opd.ev, evL, putD, initEnv, PT.get_set, isB_bool, isB_tup, ble_dec, beq_dec, LoopK_exit, LoopK_ret, loadRow, row_alloc, cells_agg, cells_bool, cells_int, cells_str, cells_ptr, cells_nilp, cells_nils, cells_slice, cells_map, cells_nilm, cells_iface, cells_nili, cells_func, cells_nilf, binV, int_add, int_sub, int_mul, int_eql, int_neq, int_lss, int_leq, int_gtr, int_geq, strBin, eqV, plainEq, unV, kRes_ret, kRes_normal, resAll, resL, resV, recheck, keepRecs, SOp.impure, Nat.testBit_eq_decide_div_mod_eq, chk_prop, fail_prop, foldV, max2V, h_store, h_append, fillV, repZero, write_row, one_bool, one_int, one_str, one_nilp, one_ptr, one_cptr, one_nils, one_slice, one_cslice, one_nilm, one_map, one_nilf, one_func, one_nili, one_iface, e, wrap_succ (n := i) (by omega)]
      exact LoopK.go (l.length - (i + 1)) (by omega) (next _ _ (same (by rw [hpush]; simp) _ O) (by simp [Has, evC_seq, evC_region, evC_ret, evC_exit, evC_skip, evC_block, c_cond, kSeq_normal, kSeq_exit, kSeq_ret, kBlock_normal, kBlock_exit, kBlock_ret, seq_s, seq_m, seq_h, seq_g, seq_nil, seq_call, kRest_ap, st_nil, st_s, st_m, st_h, st_gs, st_gb, st_call, kStep_ap, calleeOf, s_mov, s_load, s_indexAddr, s_fieldAddr, s_len, s_bin, s_un, s_mkFunc, s_build, s_extract, s_max, s_field, s_pick, ld_ptr, ld_cptr, fa_ptr, fa_cptr, ln_str, ln_slice, ln_cslice, ln_nils, evM, Opd.ev, evL, putD, initEnv, PT.get_set, isB_bool, isB_tup, ble_dec, beq_dec, LoopK_exit, LoopK_ret, loadRow, row_alloc, cells_agg, cells_bool, cells_int, cells_str, cells_ptr, cells_nilp, cells_nils, cells_slice, cells_map, cells_nilm, cells_iface, cells_nili, cells_func, cells_nilf, binV, int_add, int_sub, int_mul, int_eql, int_neq, int_lss, int_leq, int_gtr, int_geq, strBin, eqV, plainEq, unV, kRes_ret, kRes_normal, resAll, resL, resV, recheck, keepRecs, SOp.impure, Nat.testBit_eq_decide_div_mod_eq, chk_prop, fail_prop, foldV, max2V, h_store, h_append, fillV, repZero, write_row, one_bool, one_int, one_str, one_nilp, one_ptr, one_cptr, one_nils, one_slice, one_cslice, one_nilm, one_map, one_nilf, one_func, one_nili, one_iface, e]))
    · have hib' : ¬ (i : Int) = (b : Int) := by omega
      have hbi2 : ¬ b = i := fun e => hib e.symm
      obtain ⟨p, hp, hq⟩ := hv.at hb
      obtain ⟨p', hp', hq'⟩ := hv.at hlt
      simp [c19_5s, evC_seq, evC_region, evC_ret, evC_exit, evC_skip, evC_block, c_cond, kSeq_normal, kSeq_exit, kSeq_ret, kBlock_normal, kBlock_exit, kBlock_ret, seq_s, seq_m, seq_h, seq_g, seq_nil, seq_call, kRest_ap, st_nil, st_s, st_m, st_h, st_gs, st_gb, st_call, kStep_ap, calleeOf, s_mov, s_load, s_indexAddr, s_fieldAddr, s_len, s_bin, s_un, s_mkFunc, s_build, s_extract, s_max, s_field, s_pick, ld_ptr, ld_cptr, fa_ptr, fa_cptr, ln_str, ln_slice, ln_cslice, ln_nils, evM, Opd.ev, evL, putD, initEnv, PT.get_set, isB_bool, isB_tup, ble_dec, beq_dec, LoopK_exit, LoopK_ret, loadRow, row_alloc, cells_agg, cells_bool, cells_int, cells_str, cells_ptr, cells_nilp, cells_nils, cells_slice, cells_map, cells_nilm, cells_iface, cells_nili, cells_func, cells_nilf, binV, int_add, int_sub, int_mul, int_eql, int_neq, int_lss, int_leq, int_gtr, int_geq, strBin, eqV, plainEq, unV, kRes_ret, kRes_normal, resAll, resL, resV, recheck, keepRecs, SOp.impure, Nat.testBit_eq_decide_div_mod_eq, chk_prop, fail_prop, foldV, max2V, h_store, h_append, fillV, repZero, write_row, one_bool, one_int, one_str, one_nilp, one_ptr, one_cptr, one_nils, one_slice, one_cslice, one_nilm, one_map, one_nilf, one_func, one_nili, one_iface, e, hib', O.om.r1, hp, hp', (hq s2 O.om.g).2.1, (hq' s2 O.om.g).2.1]
      refine ok12 (hq s2 O.om.g).2.2 (hq' s2 O.om.g).2.2 ?_ fun s4 g4 => ?_
      · omega
      have O4 := O.grew g4
      have hEE : E b i = edge l[b] l[i] := by rw [← hE, byPlace_at hb hlt]
      cases he : edge l[b] l[i] with
      | false =>
        simp [c19_7, evC_seq, evC_region, evC_ret, evC_exit, evC_skip, evC_block, c_cond, kSeq_normal, kSeq_exit, kSeq_ret, kBlock_normal, kBlock_exit, kBlock_ret, seq_s, seq_m, seq_h, seq_g, seq_nil, seq_call, kRest_ap, st_nil, st_s, st_m, st_h, st_gs, st_gb, st_call, kStep_ap, calleeOf, s_mov, s_load, s_indexAddr, s_fieldAddr, s_len, s_bin, s_un, s_mkFunc, s_build, s_extract, s_max, s_field, s_pick, ld_ptr, ld_cptr, fa_ptr, fa_cptr, ln_str, ln_slice, ln_cslice, ln_nils, evM, Opd.ev, evL, putD, initEnv, PT.get_set, isB_bool, isB_tup, ble_dec, beq_dec, LoopK_exit, LoopK_ret, loadRow, row_alloc, cells_agg, cells_bool, cells_int, cells_str, cells_ptr, cells_nilp, cells_nils, cells_slice, cells_map, cells_nilm, cells_iface, cells_nili, cells_func, cells_nilf, binV, int_add, int_sub, int_mul, int_eql, int_neq, int_lss, int_leq, int_gtr, int_geq, strBin, eqV, plainEq, unV, kRes_ret, kRes_normal, resAll, resL, resV, recheck, keepRecs, SOp.impure, Nat.testBit_eq_decide_div_mod_eq, chk_prop, fail_prop, foldV, max2V, h_store, h_append, fillV, repZero, write_row, one_bool, one_int, one_str, one_nilp, one_ptr, one_cptr, one_nils, one_slice, one_cslice, one_nilm, one_map, one_nilf, one_func, one_nili, one_iface, e, wrap_succ (n := i) (by omega)]
        exact LoopK.go (l.length - (i + 1)) (by omega) (next _ _ (same (by rw [hpush, hEE, he]; simp) _ O4) (by simp [Has, evC_seq, evC_region, evC_ret, evC_exit, evC_skip, evC_block, c_cond, kSeq_normal, kSeq_exit, kSeq_ret, kBlock_normal, kBlock_exit, kBlock_ret, seq_s, seq_m, seq_h, seq_g, seq_nil, seq_call, kRest_ap, st_nil, st_s, st_m, st_h, st_gs, st_gb, st_call, kStep_ap, calleeOf, s_mov, s_load, s_indexAddr, s_fieldAddr, s_len, s_bin, s_un, s_mkFunc, s_build, s_extract, s_max, s_field, s_pick, ld_ptr, ld_cptr, fa_ptr, fa_cptr, ln_str, ln_slice, ln_cslice, ln_nils, evM, Opd.ev, evL, putD, initEnv, PT.get_set, isB_bool, isB_tup, ble_dec, beq_dec, LoopK_exit, LoopK_ret, loadRow, row_alloc, cells_agg, cells_bool, cells_int, cells_str, cells_ptr, cells_nilp, cells_nils, cells_slice, cells_map, cells_nilm, cells_iface, cells_nili, cells_func, cells_nilf, binV, int_add, int_sub, int_mul, int_eql, int_neq, int_lss, int_leq, int_gtr, int_geq, strBin, eqV, plainEq, unV, kRes_ret, kRes_normal, resAll, resL, resV, recheck, keepRecs, SOp.impure, Nat.testBit_eq_decide_div_mod_eq, chk_prop, fail_prop, foldV, max2V, h_store, h_append, fillV, repZero, write_row, one_bool, one_int, one_str, one_nilp, one_ptr, one_cptr, one_nils, one_slice, one_cslice, one_nilm, one_map, one_nilf, one_func, one_nili, one_iface, e]))
      | true =>
        have hp1 : cnt E out i l.length = cnt E (out ++ [b]) i l.length + 1 := by rw [hpush, hEE, he]; simp [hb, hbi2]
        have hc : cnt E out i l.length ≤ l.length := cnt_le
        have hget := get_map (f := fun x => icell (if x < i then cnt E (out ++ [b]) x l.length else cnt E out x l.length)) hlt
        have hset : ∀ y, spl ((List.range l.length).map fun x => icell (if x < i then cnt E (out ++ [b]) x l.length else cnt E out x l.length)) i [y] = ((List.range l.length).map fun x => icell (if x < i then cnt E (out ++ [b]) x l.length else cnt E out x l.length)).set i y := fun y => spl_set (by simpa using hlt)
        simp only [Nat.lt_irrefl, if_false] at hget
        have O6 := (O4.setA i (cnt E out i l.length - 1)).congr (c' := fun x => if x < i + 1 then cnt E (out ++ [b]) x l.length else cnt E out x l.length) (fun x hx => by
          by_cases h1 : x < i
          · have h2 : ¬ x = i := by omega
            have h3 : x < i + 1 := by omega
            simp [h1, h2, h3]
          · by_cases h2 : x = i
            · subst h2
              simp; omega
            · have h3 : ¬ x < i + 1 := by omega
              simp [h1, h2, h3]) (fun _ _ => rfl)
        have hrA := O4.om.rA
        have hr4 := O4.om.r4
        simp only [icell] at hget hset O6 hrA
        simp [c19_6, c19_7, evC_seq, evC_region, evC_ret, evC_exit, evC_skip, evC_block, c_cond, kSeq_normal, kSeq_exit, kSeq_ret, kBlock_normal, kBlock_exit, kBlock_ret, seq_s, seq_m, seq_h, seq_g, seq_nil, seq_call, kRest_ap, st_nil, st_s, st_m, st_h, st_gs, st_gb, st_call, kStep_ap, calleeOf, s_mov, s_load, s_indexAddr, s_fieldAddr, s_len, s_bin, s_un, s_mkFunc, s_build, s_extract, s_max, s_field, s_pick, ld_ptr, ld_cptr, fa_ptr, fa_cptr, ln_str, ln_slice, ln_cslice, ln_nils, evM, Opd.ev, evL, putD, initEnv, PT.get_set, isB_bool, isB_tup, ble_dec, beq_dec, LoopK_exit, LoopK_ret, loadRow, row_alloc, cells_agg, cells_bool, cells_int, cells_str, cells_ptr, cells_nilp, cells_nils, cells_slice, cells_map, cells_nilm, cells_iface, cells_nili, cells_func, cells_nilf, binV, int_add, int_sub, int_mul, int_eql, int_neq, int_lss, int_leq, int_gtr, int_geq, strBin, eqV, plainEq, unV, kRes_ret, kRes_normal, resAll, resL, resV, recheck, keepRecs, SOp.impure, Nat.testBit_eq_decide_div_mod_eq, chk_prop, fail_prop, foldV, max2V, h_store, h_append, fillV, repZero, write_row, one_bool, one_int, one_str, one_nilp, one_ptr, one_cptr, one_nils, one_slice, one_cslice, one_nilm, one_map, one_nilf, one_func, one_nili, one_iface, e, hr4, ixA_own hlt, hrA, hget, hset, wrap_pred (n := cnt E out i l.length) (by omega) (by omega), wrap_succ (n := i) (by omega), Nat.succ_le_of_lt hlt]
        exact LoopK.go (l.length - (i + 1)) (by omega) (next _ _ O6 (by simp [Has, evC_seq, evC_region, evC_ret, evC_exit, evC_skip, evC_block, c_cond, kSeq_normal, kSeq_exit, kSeq_ret, kBlock_normal, kBlock_exit, kBlock_ret, seq_s, seq_m, seq_h, seq_g, seq_nil, seq_call, kRest_ap, st_nil, st_s, st_m, st_h, st_gs, st_gb, st_call, kStep_ap, calleeOf, s_mov, s_load, s_indexAddr, s_fieldAddr, s_len, s_bin, s_un, s_mkFunc, s_build, s_extract, s_max, s_field, s_pick, ld_ptr, ld_cptr, fa_ptr, fa_cptr, ln_str, ln_slice, ln_cslice, ln_nils, evM, Opd.ev, evL, putD, initEnv, PT.get_set, isB_bool, isB_tup, ble_dec, beq_dec, LoopK_exit, LoopK_ret, loadRow, row_alloc, cells_agg, cells_bool, cells_int, cells_str, cells_ptr, cells_nilp, cells_nils, cells_slice, cells_map, cells_nilm, cells_iface, cells_nili, cells_func, cells_nilf, binV, int_add, int_sub, int_mul, int_eql, int_neq, int_lss, int_leq, int_gtr, int_geq, strBin, eqV, plainEq, unV, kRes_ret, kRes_normal, resAll, resL, resV, recheck, keepRecs, SOp.impure, Nat.testBit_eq_decide_div_mod_eq, chk_prop, fail_prop, foldV, max2V, h_store, h_append, fillV, repZero, write_row, one_bool, one_int, one_str, one_nilp, one_ptr, one_cptr, one_nils, one_slice, one_cslice, one_nilm, one_map, one_nilf, one_func, one_nili, one_iface, e]))
  · have hlt' : ¬ (i : Int) < (l.length : Int) := by omega
    obtain rfl : i = l.length := by omega
    have hk := hk s2 (O.congr (fun x hx => by simp [hx]) (fun _ _ => rfl))
    simp [c19_b8, c19_3, evC_seq, evC_region, evC_ret, evC_exit, evC_skip, evC_block, c_cond, kSeq_normal, kSeq_exit, kSeq_ret, kBlock_normal, kBlock_exit, kBlock_ret, seq_s, seq_m, seq_h, seq_g, seq_nil, seq_call, kRest_ap, st_nil, st_s, st_m, st_h, st_gs, st_gb, st_call, kStep_ap, calleeOf, s_mov, s_load, s_indexAddr, s_fieldAddr, s_len, s_bin, s_un, s_mkFunc, s_build, s_extract, s_max, s_field, s_pick, ld_ptr, ld_cptr, fa_ptr, fa_cptr, ln_str, ln_slice, ln_cslice, ln_nils, evM, Opd.ev, evL, putD, initEnv, PT.get_set, isB_bool, isB_tup, ble_dec, beq_dec, LoopK_exit, LoopK_ret, loadRow, row_alloc, cells_agg, cells_bool, cells_int, cells_str, cells_ptr, cells_nilp, cells_nils, cells_slice, cells_map, cells_nilm, cells_iface, cells_nili, cells_func, cells_nilf, binV, int_add, int_sub, int_mul, int_eql, int_neq, int_lss, int_leq, int_gtr, int_geq, strBin, eqV, plainEq, unV, kRes_ret, kRes_normal, resAll, resL, resV, recheck, keepRecs, SOp.impure, Nat.testBit_eq_decide_div_mod_eq, chk_prop, fail_prop, foldV, max2V, h_store, h_append, fillV, repZero, write_row, one_bool, one_int, one_str, one_nilp, one_ptr, one_cptr, one_nils, one_slice, one_cslice, one_nilm, one_map, one_nilf, one_func, one_nili, one_iface, e, hk]
end Go.RE
