/- Lists of numbers; the plain answer's order. -/
import Derived.Test.YtnepmmjhhcdniaaOrdB
import Derived.Test.YtnepmmjhhcdniaaRe17
namespace Go.RE
set_option linter.unusedSimpArgs false
set_option linter.unusedVariables false
variable {M : Nat → String → Option Nat}
def ic (x : Int) : List V := [.int .i64 x]
theorem ic_len (x : Int) : (ic x).length = 1 := rfl

theorem ok20 {v : V} {l : List Int} {x : Int} {s : St} (hv : Sl s 1 v (l.map ic)) (hb : l.length ≤ 100000)
    {n : Nat} {k : V → St → Prop} (hn : l.length + 60 ≤ n) (h : ∀ s', Grew s s' → k (.bool (l.contains x)) s') :
    callP cTab M n 20 [v, .int .i64 x] s k := by
  obtain ⟨m, rfl⟩ : ∃ m, n = m + 20 := ⟨n - 20, by omega⟩
  obtain ⟨N1, hN1⟩ : ∃ N : Nat, N = 10 := ⟨_, rfl⟩
  rw [callP_at (show cTab _ = some c20 from rfl) (by simp)]
  have hl := fun s' => hv.len (s' := s')
  simp only [List.length_map] at hl
  simp [c20_0, c20_1, evC_seq, evC_region, evC_ret, evC_exit, evC_skip, evC_block, c_cond, kSeq_normal, kSeq_exit, kSeq_ret, kBlock_normal, kBlock_exit, kBlock_ret, seq_s, seq_m, seq_h, seq_g, seq_nil, seq_call, kRest_ap, st_nil, st_s, st_m, st_h, st_gs, st_gb, st_call, kStep_ap, calleeOf, s_mov, s_load, s_indexAddr, s_fieldAddr, s_len, s_bin, s_un, s_mkFunc, s_build, s_extract, s_max, s_field, s_pick, ld_ptr, ld_cptr, fa_ptr, fa_cptr, ln_str, ln_slice, ln_cslice, ln_nils, evM, Opd.ev, evL, putD, initEnv, PT.get_set, isB_bool, isB_tup, ble_dec, beq_dec, LoopK_exit, LoopK_ret, loadRow, row_alloc, cells_agg, cells_bool, cells_int, cells_str, cells_ptr, cells_nilp, cells_nils, cells_slice, cells_map, cells_nilm, cells_iface, cells_nili, cells_func, cells_nilf, binV, int_add, int_sub, int_mul, int_eql, int_neq, int_lss, int_leq, int_gtr, int_geq, strBin, eqV, plainEq, unV, kRes_ret, kRes_normal, resAll, resL, resV, recheck, keepRecs, SOp.impure, Nat.testBit_eq_decide_div_mod_eq, chk_prop, fail_prop, foldV, max2V, h_store, h_append, fillV, repZero, write_row, one_bool, one_int, one_str, one_nilp, one_ptr, one_cptr, one_nils, one_slice, one_cslice, one_nilm, one_map, one_nilf, one_func, one_nili, one_iface, hl]
  refine loop (fun j env s' => ∃ i, j = l.length - i ∧ i ≤ l.length ∧ Grew s s' ∧ (l.take i).contains x = false ∧ Has env [(1, .int .i64 x), (7, v), (8, .int .i64 l.length), (9, .int .i64 i)]) (N1 + 20) ?_
    l.length (by omega) ⟨0, by omega, by omega, Grew.refl _, by simp, by simp [Has, evC_seq, evC_region, evC_ret, evC_exit, evC_skip, evC_block, c_cond, kSeq_normal, kSeq_exit, kSeq_ret, kBlock_normal, kBlock_exit, kBlock_ret, seq_s, seq_m, seq_h, seq_g, seq_nil, seq_call, kRest_ap, st_nil, st_s, st_m, st_h, st_gs, st_gb, st_call, kStep_ap, calleeOf, s_mov, s_load, s_indexAddr, s_fieldAddr, s_len, s_bin, s_un, s_mkFunc, s_build, s_extract, s_max, s_field, s_pick, ld_ptr, ld_cptr, fa_ptr, fa_cptr, ln_str, ln_slice, ln_cslice, ln_nils, evM, Opd.ev, evL, putD, initEnv, PT.get_set, isB_bool, isB_tup, ble_dec, beq_dec, LoopK_exit, LoopK_ret, loadRow, row_alloc, cells_agg, cells_bool, cells_int, cells_str, cells_ptr, cells_nilp, cells_nils, cells_slice, cells_map, cells_nilm, cells_iface, cells_nili, cells_func, cells_nilf, binV, int_add, int_sub, int_mul, int_eql, int_neq, int_lss, int_leq, int_gtr, int_geq, strBin, eqV, plainEq, unV, kRes_ret, kRes_normal, resAll, resL, resV, recheck, keepRecs, SOp.impure, Nat.testBit_eq_decide_div_mod_eq, chk_prop, fail_prop, foldV, max2V, h_store, h_append, fillV, repZero, write_row, one_bool, one_int, one_str, one_nilp, one_ptr, one_cptr, one_nils, one_slice, one_cslice, one_nilm, one_map, one_nilf, one_func, one_nili, one_iface]⟩
  rintro I hI j env s1 ⟨i, rfl, hi, G, hf, e⟩
  simp only [Has] at e
  by_cases hlt : i < l.length
  · obtain ⟨p, hp, hq⟩ := hv.at (k := .i64) (i := i) (by simpa using hlt)
    have hq1 := hq s1 G
    simp only [List.getElem_map, ic] at hq1
    have hld := hq1.ld1
    have hlt' : (i : Int) < (l.length : Int) := by omega
    by_cases hx : l[i] = x
    · have hk := h s1 G
      have hc : l.contains x = true := by rw [List.contains_iff_mem]; exact hx ▸ List.getElem_mem hlt
      rw [hc] at hk
      simp [c20_b7, c20_2, c20_3, c20_4, c20_5, evC_seq, evC_region, evC_ret, evC_exit, evC_skip, evC_block, c_cond, kSeq_normal, kSeq_exit, kSeq_ret, kBlock_normal, kBlock_exit, kBlock_ret, seq_s, seq_m, seq_h, seq_g, seq_nil, seq_call, kRest_ap, st_nil, st_s, st_m, st_h, st_gs, st_gb, st_call, kStep_ap, calleeOf, s_mov, s_load, s_indexAddr, s_fieldAddr, s_len, s_bin, s_un, s_mkFunc, s_build, s_extract, s_max, s_field, s_pick, ld_ptr, ld_cptr, fa_ptr, fa_cptr, ln_str, ln_slice, ln_cslice, ln_nils, evM, Opd.ev, evL, putD, initEnv, PT.get_set, isB_bool, isB_tup, ble_dec, beq_dec, LoopK_exit, LoopK_ret, loadRow, row_alloc, cells_agg, cells_bool, cells_int, cells_str, cells_ptr, cells_nilp, cells_nils, cells_slice, cells_map, cells_nilm, cells_iface, cells_nili, cells_func, cells_nilf, binV, int_add, int_sub, int_mul, int_eql, int_neq, int_lss, int_leq, int_gtr, int_geq, strBin, eqV, plainEq, unV, kRes_ret, kRes_normal, resAll, resL, resV, recheck, keepRecs, SOp.impure, Nat.testBit_eq_decide_div_mod_eq, chk_prop, fail_prop, foldV, max2V, h_store, h_append, fillV, repZero, write_row, one_bool, one_int, one_str, one_nilp, one_ptr, one_cptr, one_nils, one_slice, one_cslice, one_nilm, one_map, one_nilf, one_func, one_nili, one_iface, e, hlt, hlt', hp, hld, hx, hk]
    · simp [c20_b7, c20_2, c20_3, c20_4, c20_6, evC_seq, evC_region, evC_ret, evC_exit, evC_skip, evC_block, c_cond, kSeq_normal, kSeq_exit, kSeq_ret, kBlock_normal, kBlock_exit, kBlock_ret, seq_s, seq_m, seq_h, seq_g, seq_nil, seq_call, kRest_ap, st_nil, st_s, st_m, st_h, st_gs, st_gb, st_call, kStep_ap, calleeOf, s_mov, s_load, s_indexAddr, s_fieldAddr, s_len, s_bin, s_un, s_mkFunc, s_build, s_extract, s_max, s_field, s_pick, ld_ptr, ld_cptr, fa_ptr, fa_cptr, ln_str, ln_slice, ln_cslice, ln_nils, evM, Opd.ev, evL, putD, initEnv, PT.get_set, isB_bool, isB_tup, ble_dec, beq_dec, LoopK_exit, LoopK_ret, loadRow, row_alloc, cells_agg, cells_bool, cells_int, cells_str, cells_ptr, cells_nilp, cells_nils, cells_slice, cells_map, cells_nilm, cells_iface, cells_nili, cells_func, cells_nilf, binV, int_add, int_sub, int_mul, int_eql, int_neq, int_lss, int_leq, int_gtr, int_geq, strBin, eqV, plainEq, unV, kRes_ret, kRes_normal, resAll, resL, resV, recheck, keepRecs, SOp.impure, Nat.testBit_eq_decide_div_mod_eq, chk_prop, fail_prop, foldV, max2V, h_store, h_append, fillV, repZero, write_row, one_bool, one_int, one_str, one_nilp, one_ptr, one_cptr, one_nils, one_slice, one_cslice, one_nilm, one_map, one_nilf, one_func, one_nili, one_iface, e, hlt, hlt', hp, hld, hx, wrap_succ (n := i) (by omega)]
      refine LoopK.go (l.length - (i + 1)) (by omega) (hI _ _ _ ⟨i + 1, rfl, by omega, G, ?_, ?_⟩)
      · rw [List.take_succ_eq_append_getElem hlt, List.contains_append, hf]; simp; exact fun e => hx e.symm
      · simp [Has, evC_seq, evC_region, evC_ret, evC_exit, evC_skip, evC_block, c_cond, kSeq_normal, kSeq_exit, kSeq_ret, kBlock_normal, kBlock_exit, kBlock_ret, seq_s, seq_m, seq_h, seq_g, seq_nil, seq_call, kRest_ap, st_nil, st_s, st_m, st_h, st_gs, st_gb, st_call, kStep_ap, calleeOf, s_mov, s_load, s_indexAddr, s_fieldAddr, s_len, s_bin, s_un, s_mkFunc, s_build, s_extract, s_max, s_field, s_pick, ld_ptr, ld_cptr, fa_ptr, fa_cptr, ln_str, ln_slice, ln_cslice, ln_nils, evM, Opd.ev, evL, putD, initEnv, PT.get_set, isB_bool, isB_tup, ble_dec, beq_dec, LoopK_exit, LoopK_ret, loadRow, row_alloc, cells_agg, cells_bool, cells_int, cells_str, cells_ptr, cells_nilp, cells_nils, cells_slice, cells_map, cells_nilm, cells_iface, cells_nili, cells_func, cells_nilf, binV, int_add, int_sub, int_mul, int_eql, int_neq, int_lss, int_leq, int_gtr, int_geq, strBin, eqV, plainEq, unV, kRes_ret, kRes_normal, resAll, resL, resV, recheck, keepRecs, SOp.impure, Nat.testBit_eq_decide_div_mod_eq, chk_prop, fail_prop, foldV, max2V, h_store, h_append, fillV, repZero, write_row, one_bool, one_int, one_str, one_nilp, one_ptr, one_cptr, one_nils, one_slice, one_cslice, one_nilm, one_map, one_nilf, one_func, one_nili, one_iface, e]
  · have hlt' : ¬ (i : Int) < (l.length : Int) := by omega
    obtain rfl : i = l.length := by omega
    rw [List.take_length] at hf
    have hk := h s1 G
    rw [hf] at hk
    simp [c20_b7, c20_2, c20_8, evC_seq, evC_region, evC_ret, evC_exit, evC_skip, evC_block, c_cond, kSeq_normal, kSeq_exit, kSeq_ret, kBlock_normal, kBlock_exit, kBlock_ret, seq_s, seq_m, seq_h, seq_g, seq_nil, seq_call, kRest_ap, st_nil, st_s, st_m, st_h, st_gs, st_gb, st_call, kStep_ap, calleeOf, s_mov, s_load, s_indexAddr, s_fieldAddr, s_len, s_bin, s_un, s_mkFunc, s_build, s_extract, s_max, s_field, s_pick, ld_ptr, ld_cptr, fa_ptr, fa_cptr, ln_str, ln_slice, ln_cslice, ln_nils, evM, Opd.ev, evL, putD, initEnv, PT.get_set, isB_bool, isB_tup, ble_dec, beq_dec, LoopK_exit, LoopK_ret, loadRow, row_alloc, cells_agg, cells_bool, cells_int, cells_str, cells_ptr, cells_nilp, cells_nils, cells_slice, cells_map, cells_nilm, cells_iface, cells_nili, cells_func, cells_nilf, binV, int_add, int_sub, int_mul, int_eql, int_neq, int_lss, int_leq, int_gtr, int_geq, strBin, eqV, plainEq, unV, kRes_ret, kRes_normal, resAll, resL, resV, recheck, keepRecs, SOp.impure, Nat.testBit_eq_decide_div_mod_eq, chk_prop, fail_prop, foldV, max2V, h_store, h_append, fillV, repZero, write_row, one_bool, one_int, one_str, one_nilp, one_ptr, one_cptr, one_nils, one_slice, one_cslice, one_nilm, one_map, one_nilf, one_func, one_nili, one_iface, e, hk]

/-- A list of those that committed. -/
def DL (s : St) (v : V) (l : List D) : Prop := Sl s 7 v (l.map dC) ∧ (∀ d ∈ l, d.ok s) ∧ l.length ≤ 100
theorem DL.grew {s s' : St} {v : V} {l : List D} (h : DL s v l) (g : Grew s s') : DL s' v l := ⟨h.1.grew g, fun d hd => (h.2.1 d hd).grew g, h.2.2⟩
theorem DL.len {s s' : St} {v : V} {l : List D} (h : DL s v l) : lnA s' 1 (some v) = some (.int .i64 l.length) := by simpa using h.1.len (s' := s')
theorem DL.at {s : St} {v : V} {l : List D} (h : DL s v l) {i : Nat} (hi : i < l.length) :
    ∃ p, ixA 7 (some v) (some (.int .i64 (i : Int))) = some p ∧ ∀ s', Grew s s' → PtrTo s' p (dC l[i]) ∧ ldA s' (some 7) (some p) = some (.agg (dC l[i])) ∧ l[i].ok s' := by
  obtain ⟨p, hp, hq⟩ := h.1.at (k := .i64) (i := i) (by simpa using hi)
  refine ⟨p, hp, fun s' g => ?_⟩
  have := hq s' g
  simp only [List.getElem_map] at this
  exact ⟨this, this.ld rfl, (h.2.1 _ (List.getElem_mem hi)).grew g⟩

/-- Who must stand ahead of whom, by place. -/
def byPlace (l : List D) (e : D → D → Bool) (a b : Nat) : Bool := match l[a]?, l[b]? with
  | some x, some y => e x y
  | _, _ => false
theorem byPlace_at {l : List D} {e : D → D → Bool} {a b : Nat} (ha : a < l.length) (hb : b < l.length) : byPlace l e a b = e l[a] l[b] := by
  simp [byPlace, ha, hb]

/-- None that is not laid must stand ahead of a place. -/
def freeB (n : Nat) (E : Nat → Nat → Bool) (laid : List Int) (i : Nat) : Bool := (List.range n).all fun k => !((((k : Int) != (i : Int)) && !laid.contains (k : Int)) && E k i)

theorem ok21 {v u : V} {l : List D} {laid : List Int} {i : Nat} {s : St} (hv : DL s v l) (hu : Sl s 1 u (laid.map ic)) (hb : laid.length ≤ 100) (hi : i < l.length)
    {n : Nat} {k : V → St → Prop} (hn : 1000 ≤ n) (h : ∀ s', Grew s s' → k (.bool (freeB l.length (byPlace l refEdge) laid i)) s') :
    callP cTab M n 21 [v, u, .int .i64 i] s k := by
  obtain ⟨m, rfl⟩ : ∃ m, n = m + 20 := ⟨n - 20, by omega⟩
  obtain ⟨N1, hN1⟩ : ∃ N : Nat, N = 700 := ⟨_, rfl⟩
  rw [callP_at (show cTab _ = some c21 from rfl) (by simp)]
  have hl := fun s' => hv.len (s' := s')
  have hlen := hv.2.2
  simp [c21_0, c21_1, evC_seq, evC_region, evC_ret, evC_exit, evC_skip, evC_block, c_cond, kSeq_normal, kSeq_exit, kSeq_ret, kBlock_normal, kBlock_exit, kBlock_ret, seq_s, seq_m, seq_h, seq_g, seq_nil, seq_call, kRest_ap, st_nil, st_s, st_m, st_h, st_gs, st_gb, st_call, kStep_ap, calleeOf, s_mov, s_load, s_indexAddr, s_fieldAddr, s_len, s_bin, s_un, s_mkFunc, s_build, s_extract, s_max, s_field, s_pick, ld_ptr, ld_cptr, fa_ptr, fa_cptr, ln_str, ln_slice, ln_cslice, ln_nils, evM, Opd.ev, evL, putD, initEnv, PT.get_set, isB_bool, isB_tup, ble_dec, beq_dec, LoopK_exit, LoopK_ret, loadRow, row_alloc, cells_agg, cells_bool, cells_int, cells_str, cells_ptr, cells_nilp, cells_nils, cells_slice, cells_map, cells_nilm, cells_iface, cells_nili, cells_func, cells_nilf, binV, int_add, int_sub, int_mul, int_eql, int_neq, int_lss, int_leq, int_gtr, int_geq, strBin, eqV, plainEq, unV, kRes_ret, kRes_normal, resAll, resL, resV, recheck, keepRecs, SOp.impure, Nat.testBit_eq_decide_div_mod_eq, chk_prop, fail_prop, foldV, max2V, h_store, h_append, fillV, repZero, write_row, one_bool, one_int, one_str, one_nilp, one_ptr, one_cptr, one_nils, one_slice, one_cslice, one_nilm, one_map, one_nilf, one_func, one_nili, one_iface, hl]
  refine loop (fun j env s' => ∃ o, j = l.length - o ∧ o ≤ l.length ∧ Grew s s' ∧ (∀ k, k < o → ((((k : Int) != (i : Int)) && !laid.contains (k : Int)) && byPlace l refEdge k i) = false) ∧
    Has env [(0, v), (1, u), (2, .int .i64 i), (8, v), (9, .int .i64 l.length), (10, .int .i64 o)]) (N1 + 20) ?_
    l.length (by omega) ⟨0, by omega, by omega, Grew.refl _, by simp, by simp [Has, evC_seq, evC_region, evC_ret, evC_exit, evC_skip, evC_block, c_cond, kSeq_normal, kSeq_exit, kSeq_ret, kBlock_normal, kBlock_exit, kBlock_ret, seq_s, seq_m, seq_h, seq_g, seq_nil, seq_call, kRest_ap, st_nil, st_s, st_m, st_h, st_gs, st_gb, st_call, kStep_ap, calleeOf, s_mov, s_load, s_indexAddr, s_fieldAddr, s_len, s_bin, s_un, s_mkFunc, s_build, s_extract, s_max, s_field, s_pick, ld_ptr, ld_cptr, fa_ptr, fa_cptr, ln_str, ln_slice, ln_cslice, ln_nils, evM, Opd.ev, evL, putD, initEnv, PT.get_set, isB_bool, isB_tup, ble_dec, beq_dec, LoopK_exit, LoopK_ret, loadRow, row_alloc, cells_agg, cells_bool, cells_int, cells_str, cells_ptr, cells_nilp, cells_nils, cells_slice, cells_map, cells_nilm, cells_iface, cells_nili, cells_func, cells_nilf, binV, int_add, int_sub, int_mul, int_eql, int_neq, int_lss, int_leq, int_gtr, int_geq, strBin, eqV, plainEq, unV, kRes_ret, kRes_normal, resAll, resL, resV, recheck, keepRecs, SOp.impure, Nat.testBit_eq_decide_div_mod_eq, chk_prop, fail_prop, foldV, max2V, h_store, h_append, fillV, repZero, write_row, one_bool, one_int, one_str, one_nilp, one_ptr, one_cptr, one_nils, one_slice, one_cslice, one_nilm, one_map, one_nilf, one_func, one_nili, one_iface]⟩
  rintro I hI j env s1 ⟨o, rfl, ho, G, hf, e⟩
  simp only [Has] at e
  by_cases hlt : o < l.length
  · have hlt' : (o : Int) < (l.length : Int) := by omega
    have next : ∀ env' s', Grew s1 s' → ((((o : Int) != (i : Int)) && !laid.contains (o : Int)) && byPlace l refEdge o i) = false →
        Has env' [(0, v), (1, u), (2, .int .i64 i), (8, v), (9, .int .i64 l.length), (10, .int .i64 ((o + 1 : Nat) : Int))] → I (l.length - (o + 1)) env' s' := by
      intro env' s' g hno he
      refine hI _ _ _ ⟨o + 1, rfl, by omega, G.trans g, fun k hk => ?_, he⟩
      by_cases hko : k < o
      · exact hf k hko
      · obtain rfl : k = o := by omega
        exact hno
    simp [c21_b7, c21_2, c21_3, evC_seq, evC_region, evC_ret, evC_exit, evC_skip, evC_block, c_cond, kSeq_normal, kSeq_exit, kSeq_ret, kBlock_normal, kBlock_exit, kBlock_ret, seq_s, seq_m, seq_h, seq_g, seq_nil, seq_call, kRest_ap, st_nil, st_s, st_m, st_h, st_gs, st_gb, st_call, kStep_ap, calleeOf, s_mov, s_load, s_indexAddr, s_fieldAddr, s_len, s_bin, s_un, s_mkFunc, s_build, s_extract, s_max, s_field, s_pick, ld_ptr, ld_cptr, fa_ptr, fa_cptr, ln_str, ln_slice, ln_cslice, ln_nils, evM, Opd.ev, evL, putD, initEnv, PT.get_set, isB_bool, isB_tup, ble_dec, beq_dec, LoopK_exit, LoopK_ret, loadRow, row_alloc, cells_agg, cells_bool, cells_int, cells_str, cells_ptr, cells_nilp, cells_nils, cells_slice, cells_map, cells_nilm, cells_iface, cells_nili, cells_func, cells_nilf, binV, int_add, int_sub, int_mul, int_eql, int_neq, int_lss, int_leq, int_gtr, int_geq, strBin, eqV, plainEq, unV, kRes_ret, kRes_normal, resAll, resL, resV, recheck, keepRecs, SOp.impure, Nat.testBit_eq_decide_div_mod_eq, chk_prop, fail_prop, foldV, max2V, h_store, h_append, fillV, repZero, write_row, one_bool, one_int, one_str, one_nilp, one_ptr, one_cptr, one_nils, one_slice, one_cslice, one_nilm, one_map, one_nilf, one_func, one_nili, one_iface, e, hlt, hlt']
    refine evC_sched c21_4h ?_
    by_cases hoi' : o = i
    · subst hoi'
      simp [c21_4s, c21_6, evC_seq, evC_region, evC_ret, evC_exit, evC_skip, evC_block, c_cond, kSeq_normal, kSeq_exit, kSeq_ret, kBlock_normal, kBlock_exit, kBlock_ret, seq_s, seq_m, seq_h, seq_g, seq_nil, seq_call, kRest_ap, st_nil, st_s, st_m, st_h, st_gs, st_gb, st_call, kStep_ap, calleeOf, s_mov, s_load, s_indexAddr, s_fieldAddr, s_len, s_bin, s_un, s_mkFunc, s_build, s_extract, s_max, s_field, s_pick, ld_ptr, ld_cptr, fa_ptr, fa_cptr, ln_str, ln_slice, ln_cslice, ln_nils, evM, Opd.ev, evL, putD, initEnv, PT.get_set, isB_bool, isB_tup, ble_dec, beq_dec, LoopK_exit, LoopK_ret, loadRow, row_alloc, cells_agg, cells_bool, cells_int, cells_str, cells_ptr, cells_nilp, cells_nils, cells_slice, cells_map, cells_nilm, cells_iface, cells_nili, cells_func, cells_nilf, binV, int_add, int_sub, int_mul, int_eql, int_neq, int_lss, int_leq, int_gtr, int_geq, strBin, eqV, plainEq, unV, kRes_ret, kRes_normal, resAll, resL, resV, recheck, keepRecs, SOp.impure, Nat.testBit_eq_decide_div_mod_eq, chk_prop, fail_prop, foldV, max2V, h_store, h_append, fillV, repZero, write_row, one_bool, one_int, one_str, one_nilp, one_ptr, one_cptr, one_nils, one_slice, one_cslice, one_nilm, one_map, one_nilf, one_func, one_nili, one_iface, e, wrap_succ (n := o) (by omega)]
      exact LoopK.go (l.length - (o + 1)) (by omega) (next _ _ (Grew.refl _) (by simp) (by simp [Has, evC_seq, evC_region, evC_ret, evC_exit, evC_skip, evC_block, c_cond, kSeq_normal, kSeq_exit, kSeq_ret, kBlock_normal, kBlock_exit, kBlock_ret, seq_s, seq_m, seq_h, seq_g, seq_nil, seq_call, kRest_ap, st_nil, st_s, st_m, st_h, st_gs, st_gb, st_call, kStep_ap, calleeOf, s_mov, s_load, s_indexAddr, s_fieldAddr, s_len, s_bin, s_un, s_mkFunc, s_build, s_extract, s_max, s_field, s_pick, ld_ptr, ld_cptr, fa_ptr, fa_cptr, ln_str, ln_slice, ln_cslice, ln_nils, evM, Opd.ev, evL, putD, initEnv, PT.get_set, isB_bool, isB_tup, ble_dec, beq_dec, LoopK_exit, LoopK_ret, loadRow, row_alloc, cells_agg, cells_bool, cells_int, cells_str, cells_ptr, cells_nilp, cells_nils, cells_slice, cells_map, cells_nilm, cells_iface, cells_nili, cells_func, cells_nilf, binV, int_add, int_sub, int_mul, int_eql, int_neq, int_lss, int_leq, int_gtr, int_geq, strBin, eqV, plainEq, unV, kRes_ret, kRes_normal, resAll, resL, resV, recheck, keepRecs, SOp.impure, Nat.testBit_eq_decide_div_mod_eq, chk_prop, fail_prop, foldV, max2V, h_store, h_append, fillV, repZero, write_row, one_bool, one_int, one_str, one_nilp, one_ptr, one_cptr, one_nils, one_slice, one_cslice, one_nilm, one_map, one_nilf, one_func, one_nili, one_iface, e]))
    · have hoi : ¬ (o : Int) = (i : Int) := by omega
      simp [c21_4s, evC_seq, evC_region, evC_ret, evC_exit, evC_skip, evC_block, c_cond, kSeq_normal, kSeq_exit, kSeq_ret, kBlock_normal, kBlock_exit, kBlock_ret, seq_s, seq_m, seq_h, seq_g, seq_nil, seq_call, kRest_ap, st_nil, st_s, st_m, st_h, st_gs, st_gb, st_call, kStep_ap, calleeOf, s_mov, s_load, s_indexAddr, s_fieldAddr, s_len, s_bin, s_un, s_mkFunc, s_build, s_extract, s_max, s_field, s_pick, ld_ptr, ld_cptr, fa_ptr, fa_cptr, ln_str, ln_slice, ln_cslice, ln_nils, evM, Opd.ev, evL, putD, initEnv, PT.get_set, isB_bool, isB_tup, ble_dec, beq_dec, LoopK_exit, LoopK_ret, loadRow, row_alloc, cells_agg, cells_bool, cells_int, cells_str, cells_ptr, cells_nilp, cells_nils, cells_slice, cells_map, cells_nilm, cells_iface, cells_nili, cells_func, cells_nilf, binV, int_add, int_sub, int_mul, int_eql, int_neq, int_lss, int_leq, int_gtr, int_geq, strBin, eqV, plainEq, unV, kRes_ret, kRes_normal, resAll, resL, resV, recheck, keepRecs, SOp.impure, Nat.testBit_eq_decide_div_mod_eq, chk_prop, fail_prop, foldV, max2V, h_store, h_append, fillV, repZero, write_row, one_bool, one_int, one_str, one_nilp, one_ptr, one_cptr, one_nils, one_slice, one_cslice, one_nilm, one_map, one_nilf, one_func, one_nili, one_iface, e, hoi]
      refine ok20 (hu.grew G) (by omega) ?_ fun s2 g2 => ?_
      · omega
      cases hc : laid.contains (o : Int) with
      | true =>
        simp only [List.contains_iff_mem] at hc
        simp [c21_6, evC_seq, evC_region, evC_ret, evC_exit, evC_skip, evC_block, c_cond, kSeq_normal, kSeq_exit, kSeq_ret, kBlock_normal, kBlock_exit, kBlock_ret, seq_s, seq_m, seq_h, seq_g, seq_nil, seq_call, kRest_ap, st_nil, st_s, st_m, st_h, st_gs, st_gb, st_call, kStep_ap, calleeOf, s_mov, s_load, s_indexAddr, s_fieldAddr, s_len, s_bin, s_un, s_mkFunc, s_build, s_extract, s_max, s_field, s_pick, ld_ptr, ld_cptr, fa_ptr, fa_cptr, ln_str, ln_slice, ln_cslice, ln_nils, evM, Opd.ev, evL, putD, initEnv, PT.get_set, isB_bool, isB_tup, ble_dec, beq_dec, LoopK_exit, LoopK_ret, loadRow, row_alloc, cells_agg, cells_bool, cells_int, cells_str, cells_ptr, cells_nilp, cells_nils, cells_slice, cells_map, cells_nilm, cells_iface, cells_nili, cells_func, cells_nilf, binV, int_add, int_sub, int_mul, int_eql, int_neq, int_lss, int_leq, int_gtr, int_geq, strBin, eqV, plainEq, unV, kRes_ret, kRes_normal, resAll, resL, resV, recheck, keepRecs, SOp.impure, Nat.testBit_eq_decide_div_mod_eq, chk_prop, fail_prop, foldV, max2V, h_store, h_append, fillV, repZero, write_row, one_bool, one_int, one_str, one_nilp, one_ptr, one_cptr, one_nils, one_slice, one_cslice, one_nilm, one_map, one_nilf, one_func, one_nili, one_iface, e, hc, wrap_succ (n := o) (by omega)]
        exact LoopK.go (l.length - (o + 1)) (by omega) (next _ _ g2 (by simp [hc]) (by simp [Has, evC_seq, evC_region, evC_ret, evC_exit, evC_skip, evC_block, c_cond, kSeq_normal, kSeq_exit, kSeq_ret, kBlock_normal, kBlock_exit, kBlock_ret, seq_s, seq_m, seq_h, seq_g, seq_nil, seq_call, kRest_ap, st_nil, st_s, st_m, st_h, st_gs, st_gb, st_call, kStep_ap, calleeOf, s_mov, s_load, s_indexAddr, s_fieldAddr, s_len, s_bin, s_un, s_mkFunc, s_build, s_extract, s_max, s_field, s_pick, ld_ptr, ld_cptr, fa_ptr, fa_cptr, ln_str, ln_slice, ln_cslice, ln_nils, evM, Opd.ev, evL, putD, initEnv, PT.get_set, isB_bool, isB_tup, ble_dec, beq_dec, LoopK_exit, LoopK_ret, loadRow, row_alloc, cells_agg, cells_bool, cells_int, cells_str, cells_ptr, cells_nilp, cells_nils, cells_slice, cells_map, cells_nilm, cells_iface, cells_nili, cells_func, cells_nilf, binV, int_add, int_sub, int_mul, int_eql, int_neq, int_lss, int_leq, int_gtr, int_geq, strBin, eqV, plainEq, unV, kRes_ret, kRes_normal, resAll, resL, resV, recheck, keepRecs, SOp.impure, Nat.testBit_eq_decide_div_mod_eq, chk_prop, fail_prop, foldV, max2V, h_store, h_append, fillV, repZero, write_row, one_bool, one_int, one_str, one_nilp, one_ptr, one_cptr, one_nils, one_slice, one_cslice, one_nilm, one_map, one_nilf, one_func, one_nili, one_iface, e]))
      | false =>
        have hc' : ¬ (o : Int) ∈ laid := by simpa using hc
        obtain ⟨p, hp, hq⟩ := hv.at hlt
        obtain ⟨p', hp', hq'⟩ := hv.at hi
        simp [evC_seq, evC_region, evC_ret, evC_exit, evC_skip, evC_block, c_cond, kSeq_normal, kSeq_exit, kSeq_ret, kBlock_normal, kBlock_exit, kBlock_ret, seq_s, seq_m, seq_h, seq_g, seq_nil, seq_call, kRest_ap, st_nil, st_s, st_m, st_h, st_gs, st_gb, st_call, kStep_ap, calleeOf, s_mov, s_load, s_indexAddr, s_fieldAddr, s_len, s_bin, s_un, s_mkFunc, s_build, s_extract, s_max, s_field, s_pick, ld_ptr, ld_cptr, fa_ptr, fa_cptr, ln_str, ln_slice, ln_cslice, ln_nils, evM, Opd.ev, evL, putD, initEnv, PT.get_set, isB_bool, isB_tup, ble_dec, beq_dec, LoopK_exit, LoopK_ret, loadRow, row_alloc, cells_agg, cells_bool, cells_int, cells_str, cells_ptr, cells_nilp, cells_nils, cells_slice, cells_map, cells_nilm, cells_iface, cells_nili, cells_func, cells_nilf, binV, int_add, int_sub, int_mul, int_eql, int_neq, int_lss, int_leq, int_gtr, int_geq, strBin, eqV, plainEq, unV, kRes_ret, kRes_normal, resAll, resL, resV, recheck, keepRecs, SOp.impure, Nat.testBit_eq_decide_div_mod_eq, chk_prop, fail_prop, foldV, max2V, h_store, h_append, fillV, repZero, write_row, one_bool, one_int, one_str, one_nilp, one_ptr, one_cptr, one_nils, one_slice, one_cslice, one_nilm, one_map, one_nilf, one_func, one_nili, one_iface, e, hc', hp, hp', (hq s2 (G.trans g2)).2.1, (hq' s2 (G.trans g2)).2.1]
        refine ok13 (hq s2 (G.trans g2)).2.2 (hq' s2 (G.trans g2)).2.2 ?_ fun s3 g3 => ?_
        · omega
        cases he : refEdge l[o] l[i] with
        | true =>
          have hk := h s3 (G.trans (g2.trans g3))
          have : freeB l.length (byPlace l refEdge) laid i = false := by
            rw [freeB, List.all_eq_false]
            refine ⟨o, List.mem_range.2 hlt, ?_⟩
            rw [byPlace_at hlt hi, he]
            simp [hoi, hc']
          rw [this] at hk
          simp [c21_5, evC_seq, evC_region, evC_ret, evC_exit, evC_skip, evC_block, c_cond, kSeq_normal, kSeq_exit, kSeq_ret, kBlock_normal, kBlock_exit, kBlock_ret, seq_s, seq_m, seq_h, seq_g, seq_nil, seq_call, kRest_ap, st_nil, st_s, st_m, st_h, st_gs, st_gb, st_call, kStep_ap, calleeOf, s_mov, s_load, s_indexAddr, s_fieldAddr, s_len, s_bin, s_un, s_mkFunc, s_build, s_extract, s_max, s_field, s_pick, ld_ptr, ld_cptr, fa_ptr, fa_cptr, ln_str, ln_slice, ln_cslice, ln_nils, evM, Opd.ev, evL, putD, initEnv, PT.get_set, isB_bool, isB_tup, ble_dec, beq_dec, LoopK_exit, LoopK_ret, loadRow, row_alloc, cells_agg, cells_bool, cells_int, cells_str, cells_ptr, cells_nilp, cells_nils, cells_slice, cells_map, cells_nilm, cells_iface, cells_nili, cells_func, cells_nilf, binV, int_add, int_sub, int_mul, int_eql, int_neq, int_lss, int_leq, int_gtr, int_geq, strBin, eqV, plainEq, unV, kRes_ret, kRes_normal, resAll, resL, resV, recheck, keepRecs, SOp.impure, Nat.testBit_eq_decide_div_mod_eq, chk_prop, fail_prop, foldV, max2V, h_store, h_append, fillV, repZero, write_row, one_bool, one_int, one_str, one_nilp, one_ptr, one_cptr, one_nils, one_slice, one_cslice, one_nilm, one_map, one_nilf, one_func, one_nili, one_iface, hk]
        | false =>
          simp [c21_6, evC_seq, evC_region, evC_ret, evC_exit, evC_skip, evC_block, c_cond, kSeq_normal, kSeq_exit, kSeq_ret, kBlock_normal, kBlock_exit, kBlock_ret, seq_s, seq_m, seq_h, seq_g, seq_nil, seq_call, kRest_ap, st_nil, st_s, st_m, st_h, st_gs, st_gb, st_call, kStep_ap, calleeOf, s_mov, s_load, s_indexAddr, s_fieldAddr, s_len, s_bin, s_un, s_mkFunc, s_build, s_extract, s_max, s_field, s_pick, ld_ptr, ld_cptr, fa_ptr, fa_cptr, ln_str, ln_slice, ln_cslice, ln_nils, evM, Opd.ev, evL, putD, initEnv, PT.get_set, isB_bool, isB_tup, ble_dec, beq_dec, LoopK_exit, LoopK_ret, loadRow, row_alloc, cells_agg, cells_bool, cells_int, cells_str, cells_ptr, cells_nilp, cells_nils, cells_slice, cells_map, cells_nilm, cells_iface, cells_nili, cells_func, cells_nilf, binV, int_add, int_sub, int_mul, int_eql, int_neq, int_lss, int_leq, int_gtr, int_geq, strBin, eqV, plainEq, unV, kRes_ret, kRes_normal, resAll, resL, resV, recheck, keepRecs, SOp.impure, Nat.testBit_eq_decide_div_mod_eq, chk_prop, fail_prop, foldV, max2V, h_store, h_append, fillV, repZero, write_row, one_bool, one_int, one_str, one_nilp, one_ptr, one_cptr, one_nils, one_slice, one_cslice, one_nilm, one_map, one_nilf, one_func, one_nili, one_iface, e, wrap_succ (n := o) (by omega)]
          exact LoopK.go (l.length - (o + 1)) (by omega) (next _ _ (g2.trans g3) (by rw [byPlace_at hlt hi, he]; simp) (by simp [Has, evC_seq, evC_region, evC_ret, evC_exit, evC_skip, evC_block, c_cond, kSeq_normal, kSeq_exit, kSeq_ret, kBlock_normal, kBlock_exit, kBlock_ret, seq_s, seq_m, seq_h, seq_g, seq_nil, seq_call, kRest_ap, st_nil, st_s, st_m, st_h, st_gs, st_gb, st_call, kStep_ap, calleeOf, s_mov, s_load, s_indexAddr, s_fieldAddr, s_len, s_bin, s_un, s_mkFunc, s_build, s_extract, s_max, s_field, s_pick, ld_ptr, ld_cptr, fa_ptr, fa_cptr, ln_str, ln_slice, ln_cslice, ln_nils, evM, Opd.ev, evL, putD, initEnv, PT.get_set, isB_bool, isB_tup, ble_dec, beq_dec, LoopK_exit, LoopK_ret, loadRow, row_alloc, cells_agg, cells_bool, cells_int, cells_str, cells_ptr, cells_nilp, cells_nils, cells_slice, cells_map, cells_nilm, cells_iface, cells_nili, cells_func, cells_nilf, binV, int_add, int_sub, int_mul, int_eql, int_neq, int_lss, int_leq, int_gtr, int_geq, strBin, eqV, plainEq, unV, kRes_ret, kRes_normal, resAll, resL, resV, recheck, keepRecs, SOp.impure, Nat.testBit_eq_decide_div_mod_eq, chk_prop, fail_prop, foldV, max2V, h_store, h_append, fillV, repZero, write_row, one_bool, one_int, one_str, one_nilp, one_ptr, one_cptr, one_nils, one_slice, one_cslice, one_nilm, one_map, one_nilf, one_func, one_nili, one_iface, e]))
  · have hlt' : ¬ (o : Int) < (l.length : Int) := by omega
    obtain rfl : o = l.length := by omega
    have hk := h s1 G
    have : freeB l.length (byPlace l refEdge) laid i = true := by
      rw [freeB, List.all_eq_true]
      intro k hk
      rw [hf k (List.mem_range.1 hk)]; rfl
    rw [this] at hk
    simp [c21_b7, c21_2, c21_8, evC_seq, evC_region, evC_ret, evC_exit, evC_skip, evC_block, c_cond, kSeq_normal, kSeq_exit, kSeq_ret, kBlock_normal, kBlock_exit, kBlock_ret, seq_s, seq_m, seq_h, seq_g, seq_nil, seq_call, kRest_ap, st_nil, st_s, st_m, st_h, st_gs, st_gb, st_call, kStep_ap, calleeOf, s_mov, s_load, s_indexAddr, s_fieldAddr, s_len, s_bin, s_un, s_mkFunc, s_build, s_extract, s_max, s_field, s_pick, ld_ptr, ld_cptr, fa_ptr, fa_cptr, ln_str, ln_slice, ln_cslice, ln_nils, evM, Opd.ev, evL, putD, initEnv, PT.get_set, isB_bool, isB_tup, ble_dec, beq_dec, LoopK_exit, LoopK_ret, loadRow, row_alloc, cells_agg, cells_bool, cells_int, cells_str, cells_ptr, cells_nilp, cells_nils, cells_slice, cells_map, cells_nilm, cells_iface, cells_nili, cells_func, cells_nilf, binV, int_add, int_sub, int_mul, int_eql, int_neq, int_lss, int_leq, int_gtr, int_geq, strBin, eqV, plainEq, unV, kRes_ret, kRes_normal, resAll, resL, resV, recheck, keepRecs, SOp.impure, Nat.testBit_eq_decide_div_mod_eq, chk_prop, fail_prop, foldV, max2V, h_store, h_append, fillV, repZero, write_row, one_bool, one_int, one_str, one_nilp, one_ptr, one_cptr, one_nils, one_slice, one_cslice, one_nilm, one_map, one_nilf, one_func, one_nili, one_iface, e, hk]

theorem ok11 {v u : V} {l : List Int} {s : St} (hv : Sl s 1 v (l.map ic)) (hu : Sl s 1 u (l.map ic)) (hb : l.length ≤ 100000)
    {n : Nat} {k : V → St → Prop} (hn : l.length + 60 ≤ n) (h : ∀ s', Grew s s' → k (.bool true) s') :
    callP cTab M n 11 [v, u] s k := by
  obtain ⟨m, rfl⟩ : ∃ m, n = m + 20 := ⟨n - 20, by omega⟩
  obtain ⟨N1, hN1⟩ : ∃ N : Nat, N = 10 := ⟨_, rfl⟩
  rw [callP_at (show cTab _ = some c11 from rfl) (by simp)]
  have hl := fun s' => hv.len (s' := s')
  have hl2 := fun s' => hu.len (s' := s')
  simp only [List.length_map] at hl hl2
  simp [c11_0, c11_1, c11_3, evC_seq, evC_region, evC_ret, evC_exit, evC_skip, evC_block, c_cond, kSeq_normal, kSeq_exit, kSeq_ret, kBlock_normal, kBlock_exit, kBlock_ret, seq_s, seq_m, seq_h, seq_g, seq_nil, seq_call, kRest_ap, st_nil, st_s, st_m, st_h, st_gs, st_gb, st_call, kStep_ap, calleeOf, s_mov, s_load, s_indexAddr, s_fieldAddr, s_len, s_bin, s_un, s_mkFunc, s_build, s_extract, s_max, s_field, s_pick, ld_ptr, ld_cptr, fa_ptr, fa_cptr, ln_str, ln_slice, ln_cslice, ln_nils, evM, Opd.ev, evL, putD, initEnv, PT.get_set, isB_bool, isB_tup, ble_dec, beq_dec, LoopK_exit, LoopK_ret, loadRow, row_alloc, cells_agg, cells_bool, cells_int, cells_str, cells_ptr, cells_nilp, cells_nils, cells_slice, cells_map, cells_nilm, cells_iface, cells_nili, cells_func, cells_nilf, binV, int_add, int_sub, int_mul, int_eql, int_neq, int_lss, int_leq, int_gtr, int_geq, strBin, eqV, plainEq, unV, kRes_ret, kRes_normal, resAll, resL, resV, recheck, keepRecs, SOp.impure, Nat.testBit_eq_decide_div_mod_eq, chk_prop, fail_prop, foldV, max2V, h_store, h_append, fillV, repZero, write_row, one_bool, one_int, one_str, one_nilp, one_ptr, one_cptr, one_nils, one_slice, one_cslice, one_nilm, one_map, one_nilf, one_func, one_nili, one_iface, hl, hl2]
  refine loop (fun j env s' => ∃ i, j = l.length - i ∧ i ≤ l.length ∧ Grew s s' ∧ Has env [(0, v), (1, u), (12, .int .i64 l.length), (13, .int .i64 i)]) (N1 + 20) ?_
    l.length (by omega) ⟨0, by omega, by omega, Grew.refl _, by simp [Has, evC_seq, evC_region, evC_ret, evC_exit, evC_skip, evC_block, c_cond, kSeq_normal, kSeq_exit, kSeq_ret, kBlock_normal, kBlock_exit, kBlock_ret, seq_s, seq_m, seq_h, seq_g, seq_nil, seq_call, kRest_ap, st_nil, st_s, st_m, st_h, st_gs, st_gb, st_call, kStep_ap, calleeOf, s_mov, s_load, s_indexAddr, s_fieldAddr, s_len, s_bin, s_un, s_mkFunc, s_build, s_extract, s_max, s_field, s_pick, ld_ptr, ld_cptr, fa_ptr, fa_cptr, ln_str, ln_slice, ln_cslice, ln_nils, evM, Opd.ev, evL, putD, initEnv, PT.get_set, isB_bool, isB_tup, ble_dec, beq_dec, LoopK_exit, LoopK_ret, loadRow, row_alloc, cells_agg, cells_bool, cells_int, cells_str, cells_ptr, cells_nilp, cells_nils, cells_slice, cells_map, cells_nilm, cells_iface, cells_nili, cells_func, cells_nilf, binV, int_add, int_sub, int_mul, int_eql, int_neq, int_lss, int_leq, int_gtr, int_geq, strBin, eqV, plainEq, unV, kRes_ret, kRes_normal, resAll, resL, resV, recheck, keepRecs, SOp.impure, Nat.testBit_eq_decide_div_mod_eq, chk_prop, fail_prop, foldV, max2V, h_store, h_append, fillV, repZero, write_row, one_bool, one_int, one_str, one_nilp, one_ptr, one_cptr, one_nils, one_slice, one_cslice, one_nilm, one_map, one_nilf, one_func, one_nili, one_iface]⟩
  rintro I hI j env s1 ⟨i, rfl, hi, G, e⟩
  simp only [Has] at e
  by_cases hlt : i < l.length
  · obtain ⟨p, hp, hq⟩ := hv.at (k := .i64) (i := i) (by simpa using hlt)
    obtain ⟨p', hp', hq'⟩ := hu.at (k := .i64) (i := i) (by simpa using hlt)
    have hq1 := hq s1 G
    have hq2 := hq' s1 G
    simp only [List.getElem_map, ic] at hq1 hq2
    have hld := hq1.ld1
    have hld' := hq2.ld1
    have hlt' : (i : Int) < (l.length : Int) := by omega
    simp [c11_b9, c11_4, c11_5, evC_seq, evC_region, evC_ret, evC_exit, evC_skip, evC_block, c_cond, kSeq_normal, kSeq_exit, kSeq_ret, kBlock_normal, kBlock_exit, kBlock_ret, seq_s, seq_m, seq_h, seq_g, seq_nil, seq_call, kRest_ap, st_nil, st_s, st_m, st_h, st_gs, st_gb, st_call, kStep_ap, calleeOf, s_mov, s_load, s_indexAddr, s_fieldAddr, s_len, s_bin, s_un, s_mkFunc, s_build, s_extract, s_max, s_field, s_pick, ld_ptr, ld_cptr, fa_ptr, fa_cptr, ln_str, ln_slice, ln_cslice, ln_nils, evM, Opd.ev, evL, putD, initEnv, PT.get_set, isB_bool, isB_tup, ble_dec, beq_dec, LoopK_exit, LoopK_ret, loadRow, row_alloc, cells_agg, cells_bool, cells_int, cells_str, cells_ptr, cells_nilp, cells_nils, cells_slice, cells_map, cells_nilm, cells_iface, cells_nili, cells_func, cells_nilf, binV, int_add, int_sub, int_mul, int_eql, int_neq, int_lss, int_leq, int_gtr, int_geq, strBin, eqV, plainEq, unV, kRes_ret, kRes_normal, resAll, resL, resV, recheck, keepRecs, SOp.impure, Nat.testBit_eq_decide_div_mod_eq, chk_prop, fail_prop, foldV, max2V, h_store, h_append, fillV, repZero, write_row, one_bool, one_int, one_str, one_nilp, one_ptr, one_cptr, one_nils, one_slice, one_cslice, one_nilm, one_map, one_nilf, one_func, one_nili, one_iface, e, hlt, hlt']
    refine evC_sched c11_6h ?_
    simp [c11_6s, c11_8, evC_seq, evC_region, evC_ret, evC_exit, evC_skip, evC_block, c_cond, kSeq_normal, kSeq_exit, kSeq_ret, kBlock_normal, kBlock_exit, kBlock_ret, seq_s, seq_m, seq_h, seq_g, seq_nil, seq_call, kRest_ap, st_nil, st_s, st_m, st_h, st_gs, st_gb, st_call, kStep_ap, calleeOf, s_mov, s_load, s_indexAddr, s_fieldAddr, s_len, s_bin, s_un, s_mkFunc, s_build, s_extract, s_max, s_field, s_pick, ld_ptr, ld_cptr, fa_ptr, fa_cptr, ln_str, ln_slice, ln_cslice, ln_nils, evM, Opd.ev, evL, putD, initEnv, PT.get_set, isB_bool, isB_tup, ble_dec, beq_dec, LoopK_exit, LoopK_ret, loadRow, row_alloc, cells_agg, cells_bool, cells_int, cells_str, cells_ptr, cells_nilp, cells_nils, cells_slice, cells_map, cells_nilm, cells_iface, cells_nili, cells_func, cells_nilf, binV, int_add, int_sub, int_mul, int_eql, int_neq, int_lss, int_leq, int_gtr, int_geq, strBin, eqV, plainEq, unV, kRes_ret, kRes_normal, resAll, resL, resV, recheck, keepRecs, SOp.impure, Nat.testBit_eq_decide_div_mod_eq, chk_prop, fail_prop, foldV, max2V, h_store, h_append, fillV, repZero, write_row, one_bool, one_int, one_str, one_nilp, one_ptr, one_cptr, one_nils, one_slice, one_cslice, one_nilm, one_map, one_nilf, one_func, one_nili, one_iface, e, hp, hp', hld, hld', wrap_succ (n := i) (by omega)]
    exact LoopK.go (l.length - (i + 1)) (by omega) (hI _ _ _ ⟨i + 1, rfl, by omega, G, by simp [Has, evC_seq, evC_region, evC_ret, evC_exit, evC_skip, evC_block, c_cond, kSeq_normal, kSeq_exit, kSeq_ret, kBlock_normal, kBlock_exit, kBlock_ret, seq_s, seq_m, seq_h, seq_g, seq_nil, seq_call, kRest_ap, st_nil, st_s, st_m, st_h, st_gs, st_gb, st_call, kStep_ap, calleeOf, s_mov, s_load, s_indexAddr, s_fieldAddr, s_len, s_bin, s_un, s_mkFunc, s_build, s_extract, s_max, s_field, s_pick, ld_ptr, ld_cptr, fa_ptr, fa_cptr, ln_str, ln_slice, ln_cslice, ln_nils, evM, Opd.ev, evL, putD, initEnv, PT.get_set, isB_bool, isB_tup, ble_dec, beq_dec, LoopK_exit, LoopK_ret, loadRow, row_alloc, cells_agg, cells_bool, cells_int, cells_str, cells_ptr, cells_nilp, cells_nils, cells_slice, cells_map, cells_nilm, cells_iface, cells_nili, cells_func, cells_nilf, binV, int_add, int_sub, int_mul, int_eql, int_neq, int_lss, int_leq, int_gtr, int_geq, strBin, eqV, plainEq, unV, kRes_ret, kRes_normal, resAll, resL, resV, recheck, keepRecs, SOp.impure, Nat.testBit_eq_decide_div_mod_eq, chk_prop, fail_prop, foldV, max2V, h_store, h_append, fillV, repZero, write_row, one_bool, one_int, one_str, one_nilp, one_ptr, one_cptr, one_nils, one_slice, one_cslice, one_nilm, one_map, one_nilf, one_func, one_nili, one_iface, e]⟩)
  · have hlt' : ¬ (i : Int) < (l.length : Int) := by omega
    have hk := h s1 G
    simp [c11_b9, c11_4, c11_10, evC_seq, evC_region, evC_ret, evC_exit, evC_skip, evC_block, c_cond, kSeq_normal, kSeq_exit, kSeq_ret, kBlock_normal, kBlock_exit, kBlock_ret, seq_s, seq_m, seq_h, seq_g, seq_nil, seq_call, kRest_ap, st_nil, st_s, st_m, st_h, st_gs, st_gb, st_call, kStep_ap, calleeOf, s_mov, s_load, s_indexAddr, s_fieldAddr, s_len, s_bin, s_un, s_mkFunc, s_build, s_extract, s_max, s_field, s_pick, ld_ptr, ld_cptr, fa_ptr, fa_cptr, ln_str, ln_slice, ln_cslice, ln_nils, evM, Opd.ev, evL, putD, initEnv, PT.get_set, isB_bool, isB_tup, ble_dec, beq_dec, LoopK_exit, LoopK_ret, loadRow, row_alloc, cells_agg, cells_bool, cells_int, cells_str, cells_ptr, cells_nilp, cells_nils, cells_slice, cells_map, cells_nilm, cells_iface, cells_nili, cells_func, cells_nilf, binV, int_add, int_sub, int_mul, int_eql, int_neq, int_lss, int_leq, int_gtr, int_geq, strBin, eqV, plainEq, unV, kRes_ret, kRes_normal, resAll, resL, resV, recheck, keepRecs, SOp.impure, Nat.testBit_eq_decide_div_mod_eq, chk_prop, fail_prop, foldV, max2V, h_store, h_append, fillV, repZero, write_row, one_bool, one_int, one_str, one_nilp, one_ptr, one_cptr, one_nils, one_slice, one_cslice, one_nilm, one_map, one_nilf, one_func, one_nili, one_iface, e, hlt', hk]

/-- With numbers of places. -/
def inc (n : Nat) : List V := [.int .i64 n]
def freeN (n : Nat) (E : Nat → Nat → Bool) (out : List Nat) (i : Nat) : Bool := (List.range n).all fun k => !((!decide (k = i) && !out.contains k) && E k i)
theorem contains_cast (out : List Nat) (k : Nat) : (out.map fun n : Nat => (n : Int)).contains (k : Int) = out.contains k := by
  rw [Bool.eq_iff_iff, List.contains_iff_mem, List.contains_iff_mem, List.mem_map]
  constructor
  · rintro ⟨a, h, e⟩
    have : a = k := by omega
    exact this ▸ h
  · intro h; exact ⟨k, h, rfl⟩
theorem freeB_cast (n : Nat) (E : Nat → Nat → Bool) (out : List Nat) (i : Nat) : freeB n E (out.map fun n : Nat => (n : Int)) i = freeN n E out i := by
  unfold freeB freeN
  congr 1
  funext k
  rw [contains_cast]
  by_cases h : k = i
  · subst h; simp
  · have : ((k : Int) != (i : Int)) = true := by rw [bne_iff_ne]; omega
    simp [h, this]
theorem inc_map (out : List Nat) : out.map inc = (out.map fun n : Nat => (n : Int)).map ic := by rw [List.map_map]; rfl
theorem ok21n {v u : V} {l : List D} {out : List Nat} {i : Nat} {s : St} (hv : DL s v l) (hu : Sl s 1 u (out.map inc)) (hb : out.length ≤ 100) (hi : i < l.length)
    {n : Nat} {k : V → St → Prop} (hn : 1000 ≤ n) (h : ∀ s', Grew s s' → k (.bool (freeN l.length (byPlace l refEdge) out i)) s') :
    callP cTab M n 21 [v, u, .int .i64 i] s k := by
  rw [inc_map] at hu
  refine ok21 hv hu (by simpa using hb) hi hn ?_
  rw [freeB_cast]; exact h
theorem ok20n {u : V} {out : List Nat} {i : Nat} {s : St} (hu : Sl s 1 u (out.map inc)) (hb : out.length ≤ 100)
    {n : Nat} {k : V → St → Prop} (hn : 200 ≤ n) (h : ∀ s', Grew s s' → k (.bool (out.contains i)) s') :
    callP cTab M n 20 [u, .int .i64 i] s k := by
  rw [inc_map] at hu
  refine ok20 hu (by simpa using Nat.le_trans hb (by omega)) (by simp; omega) ?_
  rw [contains_cast]; exact h

/-- The next that is laid. -/
def pickStep (n : Nat) (E : Nat → Nat → Bool) (en : Nat → Int) (out : List Nat) (best : Option Nat) (i : Nat) : Option Nat :=
  if ((!out.contains i && freeN n E out i) && (match best with | none => true | some b => decide (en i < en b))) = true then some i else best
def pick (n : Nat) (E : Nat → Nat → Bool) (en : Nat → Int) (out : List Nat) (k : Nat) : Option Nat := (List.range k).foldl (pickStep n E en out) none
theorem pick_zero {n : Nat} {E : Nat → Nat → Bool} {en : Nat → Int} {out : List Nat} : pick n E en out 0 = none := rfl
theorem pick_succ {n : Nat} {E : Nat → Nat → Bool} {en : Nat → Int} {out : List Nat} {k : Nat} : pick n E en out (k + 1) = pickStep n E en out (pick n E en out k) k := by
  unfold pick
  rw [List.range_succ, List.foldl_append]; rfl
theorem pickStep_or {n : Nat} {E : Nat → Nat → Bool} {en : Nat → Int} {out : List Nat} (best : Option Nat) (k : Nat) : pickStep n E en out best k = some k ∨ pickStep n E en out best k = best := by
  unfold pickStep
  generalize ((!out.contains k && freeN n E out k) && _) = c
  cases c <;> simp
theorem pick_lt {n : Nat} {E : Nat → Nat → Bool} {en : Nat → Int} {out : List Nat} : ∀ {k b : Nat}, pick n E en out k = some b → b < k := by
  intro k
  induction k with
  | zero => intro b h; simp [pick_zero] at h
  | succ k ih =>
    intro b h
    rw [pick_succ] at h
    rcases pickStep_or (n := n) (E := E) (en := en) (out := out) (pick n E en out k) k with h1 | h1
    · rw [h1] at h; simp only [Option.some.injEq] at h; omega
    · rw [h1] at h; have := ih h; omega
def bi : Option Nat → Int
  | none => -1
  | some b => b
/-- Who is laid, one by one, in so many steps; nothing: none may be. -/
def lay (n : Nat) (E : Nat → Nat → Bool) (en : Nat → Int) : Nat → List Nat → Option (List Nat)
  | 0, out => some out
  | t + 1, out => match pick n E en out n with
    | none => none
    | some b => lay n E en t (out ++ [b])
end Go.RE
