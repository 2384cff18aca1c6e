/- The program's order: what it counts. -/
import Derived.Test.YtnepmmjhhcdniaaOrdE
namespace Go.RE
set_option linter.unusedSimpArgs false
set_option linter.unusedVariables false
variable {M : Nat → String → Option Nat}

/-- How many of the first k that are not laid must stand ahead of x. -/
def cnt (E : Nat → Nat → Bool) (out : List Nat) (x k : Nat) : Nat := ((List.range k).filter fun j => (!decide (j = x) && !out.contains j) && E j x).length
theorem cnt_zero {E : Nat → Nat → Bool} {out : List Nat} {x : Nat} : cnt E out x 0 = 0 := rfl
theorem cnt_succ {E : Nat → Nat → Bool} {out : List Nat} {x k : Nat} : cnt E out x (k + 1) = cnt E out x k + (if ((!decide (k = x) && !out.contains k) && E k x) = true then 1 else 0) := by
  unfold cnt
  rw [List.range_succ, List.filter_append, List.length_append]
  congr 1
  rw [List.filter_cons]
  split <;> simp
theorem cnt_le {E : Nat → Nat → Bool} {out : List Nat} {x k : Nat} : cnt E out x k ≤ k := by
  unfold cnt
  exact Nat.le_trans (List.length_filter_le _ _) (by simp)
theorem free_cnt {n : Nat} {E : Nat → Nat → Bool} {out : List Nat} {x : Nat} : freeN n E out x = decide (cnt E out x n = 0) := by
  rw [Bool.eq_iff_iff, decide_eq_true_iff]
  unfold freeN cnt
  rw [List.all_eq_true, List.length_eq_zero_iff, List.filter_eq_nil_iff]
  constructor
  · intro h a ha hc
    have := h a ha
    rw [hc] at this
    simp at this
  · intro h a ha
    have := h a ha
    cases hc : ((!decide (a = x) && !out.contains a) && E a x) with
    | true => exact absurd hc this
    | false => rfl
theorem cnt_push {E : Nat → Nat → Bool} {out : List Nat} {x b : Nat} (hb : out.contains b = false) : ∀ {k : Nat},
    cnt E out x k = cnt E (out ++ [b]) x k + (if b < k ∧ ¬ b = x ∧ E b x = true then 1 else 0) := by
  intro k
  induction k with
  | zero => simp [cnt_zero]
  | succ k ih =>
    rw [cnt_succ, cnt_succ, ih]
    have hc : (out ++ [b]).contains k = (out.contains k || decide (k = b)) := by
      rw [List.contains_append]
      congr 1
      by_cases h : k = b
      · subst h; simp
      · simp [h]
    rw [hc]
    by_cases hkb : k = b
    · subst hkb
      rw [hb]
      by_cases hx : k = x
      · simp [hx]
      · cases hE : E k x <;> simp [hx, hE]
    · have hiff : (b < k + 1) ↔ (b < k) := by omega
      simp only [hkb, decide_false, Bool.or_false, hiff]
      omega

def icell (n : Nat) : V := .int .i64 n
theorem set_map {α : Type} {f : Nat → α} {n i : Nat} {y : α} : ((List.range n).map f).set i y = (List.range n).map (fun x => if x = i then y else f x) := by
  apply List.ext_getElem
  · simp
  · intro j h1 h2
    simp only [List.getElem_set, List.getElem_map, List.getElem_range]
    by_cases h : i = j
    · subst h; simp
    · have : ¬ j = i := fun e => h e.symm
      simp [h, this]
theorem spl_set {cs : List V} {i : Nat} {y : V} (h : i < cs.length) : spl cs i [y] = cs.set i y := by
  unfold spl
  rw [List.set_eq_take_append_cons_drop, if_pos h]; simp
theorem rep_range {z : V} : ∀ {n : Nat}, repZero [z] n = (List.range n).map fun _ => z := by
  intro n
  induction n with
  | zero => rfl
  | succ n ih =>
    rw [List.range_succ_eq_map, List.map_cons, List.map_map]
    simp only [repZero, ih, List.singleton_append]
    rfl

/-- Memory while it orders. -/
structure OM (s : St) (v : V) (n : Nat) (c : Nat → Nat) (ld : Nat → Bool) (s' : St) : Prop where
  g : Grew s s'
  nx : s.next + 5 ≤ s'.next
  r1 : s'.row s.next = some [v]
  rA : s'.row (s.next + 1) = some ((List.range n).map fun x => icell (c x))
  r4 : s'.row (s.next + 2) = some [.slice (s.next + 1) 0 n n 1 true]
  rL : s'.row (s.next + 3) = some ((List.range n).map fun x => .bool (ld x))
  r5 : s'.row (s.next + 4) = some [.slice (s.next + 3) 0 n n 1 true]
theorem OM.grew {s : St} {v : V} {n : Nat} {c : Nat → Nat} {ld : Nat → Bool} {s' s'' : St} (h : OM s v n c ld s') (g : Grew s' s'') : OM s v n c ld s'' where
  g := h.g.trans g
  nx := Nat.le_trans h.nx g.next
  r1 := (g.row (by have := h.nx; omega)).trans h.r1
  rA := (g.row (by have := h.nx; omega)).trans h.rA
  r4 := (g.row (by have := h.nx; omega)).trans h.r4
  rL := (g.row (by have := h.nx; omega)).trans h.rL
  r5 := (g.row (by have := h.nx; omega)).trans h.r5
theorem OM.setA {s : St} {v : V} {n : Nat} {c : Nat → Nat} {ld : Nat → Bool} {s' : St} (h : OM s v n c ld s') (i y : Nat) :
    OM s v n (fun x => if x = i then y else c x) ld (s'.put (s.next + 1) (.row (((List.range n).map fun x => icell (c x)).set i (icell y)))) where
  g := h.g.put (by omega) _
  nx := h.nx
  r1 := by rw [row_put, if_neg (by omega)]; exact h.r1
  rA := by
    rw [row_put, if_pos rfl, set_map]
    congr 2
    funext x
    split <;> rfl
  r4 := by rw [row_put, if_neg (by omega)]; exact h.r4
  rL := by rw [row_put, if_neg (by omega)]; exact h.rL
  r5 := by rw [row_put, if_neg (by omega)]; exact h.r5
theorem OM.setL {s : St} {v : V} {n : Nat} {c : Nat → Nat} {ld : Nat → Bool} {s' : St} (h : OM s v n c ld s') (i : Nat) (y : Bool) :
    OM s v n c (fun x => if x = i then y else ld x) (s'.put (s.next + 3) (.row (((List.range n).map fun x => V.bool (ld x)).set i (.bool y)))) where
  g := h.g.put (by omega) _
  nx := h.nx
  r1 := by rw [row_put, if_neg (by omega)]; exact h.r1
  rA := by rw [row_put, if_neg (by omega)]; exact h.rA
  r4 := by rw [row_put, if_neg (by omega)]; exact h.r4
  rL := by
    rw [row_put, if_pos rfl, set_map]
    congr 2
    funext x
    split <;> rfl
  r5 := by rw [row_put, if_neg (by omega)]; exact h.r5
theorem OM.congr {s : St} {v : V} {n : Nat} {c c' : Nat → Nat} {ld ld' : Nat → Bool} {s' : St} (h : OM s v n c ld s') (hc : ∀ x, x < n → c x = c' x) (hl : ∀ x, x < n → ld x = ld' x) : OM s v n c' ld' s' where
  g := h.g
  nx := h.nx
  r1 := h.r1
  rA := by
    rw [h.rA]; congr 1
    apply List.map_congr_left
    intro x hx; rw [hc x (List.mem_range.1 hx)]
  r4 := h.r4
  rL := by
    rw [h.rL]; congr 1
    apply List.map_congr_left
    intro x hx; rw [hl x (List.mem_range.1 hx)]
  r5 := h.r5
theorem wrap_pred {n : Nat} (h : n ≤ 9223372036854775807) (h1 : 1 ≤ n) : wrapA .i64 ((n : Int) - 1) = ((n - 1 : Nat) : Int) := by
  have : (n : Int) - 1 = ((n - 1 : Nat) : Int) := by omega
  rw [this]; exact wrap_nat (by omega)

/-- The first two loops: who is ahead of whom is counted. -/
theorem loop14 {s s1 : St} {v : V} {l : List D} {ld : Nat → Bool} {env : PT V} {N : Nat} {k : Ex → PT V → St → Prop} (hv : DL s v l) (hN : 1200 ≤ N)
    (hO : OM s v l.length (fun _ => 0) ld s1)
    (e : Has env [(1, .ptr s.next 0), (4, .ptr (s.next + 2) 0), (5, .ptr (s.next + 4) 0), (19, .int .i64 l.length), (20, .int .i64 0)])
    (hk : ∀ env' s', OM s v l.length (fun x => cnt (byPlace l edge) [] x l.length) ld s' → Has env' [(1, .ptr s.next 0), (4, .ptr (s.next + 2) 0), (5, .ptr (s.next + 4) 0)] → k (.exit 0) env' s') :
    evC cTab M N (.loop c9_b14) env s1 k := by
  obtain ⟨N1, hN1⟩ : ∃ N : Nat, N = 900 := ⟨_, rfl⟩
  obtain ⟨N2, hN2⟩ : ∃ N : Nat, N = 700 := ⟨_, rfl⟩
  have hl := fun s' => hv.len (s' := s')
  have hlen := hv.2.2
  generalize hE : byPlace l edge = E at hk
  refine loop (fun j env s' => ∃ i, j = l.length - i ∧ i ≤ l.length ∧ OM s v l.length (fun x => if x < i then cnt E [] x l.length else 0) ld s' ∧
      Has env [(1, .ptr s.next 0), (4, .ptr (s.next + 2) 0), (5, .ptr (s.next + 4) 0), (19, .int .i64 l.length), (20, .int .i64 i)]) (N1 + 20) ?_
    l.length (by omega) ⟨0, by omega, by omega, by simpa using hO, by simpa using e⟩
  rintro I hI j env s2 ⟨i, rfl, hi, O, e⟩
  simp only [Has] at e
  by_cases hlt : i < l.length
  · have hlt' : (i : Int) < (l.length : Int) := by omega
    simp [c9_b14, c9_4, c9_5, c9_6, evC_seq, evC_region, evC_ret, evC_exit, evC_skip, evC_block, c_cond, kSeq_normal, kSeq_exit, kSeq_ret, kBlock_normal, kBlock_exit, kBlock_ret, seq_s, seq_m, seq_h, seq_g, seq_nil, seq_call, kRest_ap, st_nil, st_s, st_m, st_h, st_gs, st_gb, st_call, kStep_ap, calleeOf, s_mov, s_load, s_indexAddr, s_fieldAddr, s_len, s_bin, s_un, s_mkFunc, s_build, s_extract, s_max, s_field, s_pick, ld_ptr, ld_cptr, fa_ptr, fa_cptr, ln_str, ln_slice, ln_cslice, ln_nils, evM, Opd.ev, evL, putD, initEnv, PT.get_set, isB_bool, isB_tup, ble_dec, beq_dec, LoopK_exit, LoopK_ret, loadRow, row_alloc, cells_agg, cells_bool, cells_int, cells_str, cells_ptr, cells_nilp, cells_nils, cells_slice, cells_map, cells_nilm, cells_iface, cells_nili, cells_func, cells_nilf, binV, int_add, int_sub, int_mul, int_eql, int_neq, int_lss, int_leq, int_gtr, int_geq, strBin, eqV, plainEq, unV, kRes_ret, kRes_normal, resAll, resL, resV, recheck, keepRecs, SOp.impure, Nat.testBit_eq_decide_div_mod_eq, chk_prop, fail_prop, foldV, max2V, h_store, h_append, fillV, repZero, write_row, one_bool, one_int, one_str, one_nilp, one_ptr, one_cptr, one_nils, one_slice, one_cslice, one_nilm, one_map, one_nilf, one_func, one_nili, one_iface, e, hlt, hlt', hl, O.r1]
    refine loop (fun j env s' => ∃ o, j = l.length - o ∧ o ≤ l.length ∧ OM s v l.length (fun x => if x < i then cnt E [] x l.length else if x = i then cnt E [] x o else 0) ld s' ∧
        Has env [(1, .ptr s.next 0), (4, .ptr (s.next + 2) 0), (5, .ptr (s.next + 4) 0), (6, .int .i64 i), (19, .int .i64 l.length), (20, .int .i64 i), (24, .int .i64 l.length), (25, .int .i64 o)]) (N2 + 20) ?_
      l.length (by omega) ⟨0, by omega, by omega, ?_, by simp [Has, evC_seq, evC_region, evC_ret, evC_exit, evC_skip, evC_block, c_cond, kSeq_normal, kSeq_exit, kSeq_ret, kBlock_normal, kBlock_exit, kBlock_ret, seq_s, seq_m, seq_h, seq_g, seq_nil, seq_call, kRest_ap, st_nil, st_s, st_m, st_h, st_gs, st_gb, st_call, kStep_ap, calleeOf, s_mov, s_load, s_indexAddr, s_fieldAddr, s_len, s_bin, s_un, s_mkFunc, s_build, s_extract, s_max, s_field, s_pick, ld_ptr, ld_cptr, fa_ptr, fa_cptr, ln_str, ln_slice, ln_cslice, ln_nils, evM, Opd.ev, evL, putD, initEnv, PT.get_set, isB_bool, isB_tup, ble_dec, beq_dec, LoopK_exit, LoopK_ret, loadRow, row_alloc, cells_agg, cells_bool, cells_int, cells_str, cells_ptr, cells_nilp, cells_nils, cells_slice, cells_map, cells_nilm, cells_iface, cells_nili, cells_func, cells_nilf, binV, int_add, int_sub, int_mul, int_eql, int_neq, int_lss, int_leq, int_gtr, int_geq, strBin, eqV, plainEq, unV, kRes_ret, kRes_normal, resAll, resL, resV, recheck, keepRecs, SOp.impure, Nat.testBit_eq_decide_div_mod_eq, chk_prop, fail_prop, foldV, max2V, h_store, h_append, fillV, repZero, write_row, one_bool, one_int, one_str, one_nilp, one_ptr, one_cptr, one_nils, one_slice, one_cslice, one_nilm, one_map, one_nilf, one_func, one_nili, one_iface, e]⟩
    · rintro J hJ j env s3 ⟨o, rfl, ho, O3, e3⟩
      simp only [Has] at e3
      by_cases hlo : o < l.length
      · have hlo' : (o : Int) < (l.length : Int) := by omega
        have next : ∀ env' s', OM s v l.length (fun x => if x < i then cnt E [] x l.length else if x = i then cnt E [] x (o + 1) else 0) ld s' →
            Has env' [(1, .ptr s.next 0), (4, .ptr (s.next + 2) 0), (5, .ptr (s.next + 4) 0), (6, .int .i64 i), (19, .int .i64 l.length), (20, .int .i64 i), (24, .int .i64 l.length), (25, .int .i64 ((o + 1 : Nat) : Int))] →
            J (l.length - (o + 1)) env' s' := fun env' s' hO he => hJ _ _ _ ⟨o + 1, rfl, by omega, hO, he⟩
        have same : ((!decide (o = i) && !([] : List Nat).contains o) && E o i) = false → ∀ s', OM s v l.length (fun x => if x < i then cnt E [] x l.length else if x = i then cnt E [] x o else 0) ld s' →
            OM s v l.length (fun x => if x < i then cnt E [] x l.length else if x = i then cnt E [] x (o + 1) else 0) ld s' := by
          intro hno s' h
          refine h.congr (fun x hx => ?_) (fun _ _ => rfl)
          by_cases h1 : x < i
          · simp [h1]
          · by_cases h2 : x = i
            · subst h2
              simp only [Nat.lt_irrefl, if_false, if_true]
              rw [cnt_succ, if_neg (by rw [hno]; simp)]; omega
            · simp [h1, h2]
        simp [c9_b12, c9_7, c9_8, evC_seq, evC_region, evC_ret, evC_exit, evC_skip, evC_block, c_cond, kSeq_normal, kSeq_exit, kSeq_ret, kBlock_normal, kBlock_exit, kBlock_ret, seq_s, seq_m, seq_h, seq_g, seq_nil, seq_call, kRest_ap, st_nil, st_s, st_m, st_h, st_gs, st_gb, st_call, kStep_ap, calleeOf, s_mov, s_load, s_indexAddr, s_fieldAddr, s_len, s_bin, s_un, s_mkFunc, s_build, s_extract, s_max, s_field, s_pick, ld_ptr, ld_cptr, fa_ptr, fa_cptr, ln_str, ln_slice, ln_cslice, ln_nils, evM, Opd.ev, evL, putD, initEnv, PT.get_set, isB_bool, isB_tup, ble_dec, beq_dec, LoopK_exit, LoopK_ret, loadRow, row_alloc, cells_agg, cells_bool, cells_int, cells_str, cells_ptr, cells_nilp, cells_nils, cells_slice, cells_map, cells_nilm, cells_iface, cells_nili, cells_func, cells_nilf, binV, int_add, int_sub, int_mul, int_eql, int_neq, int_lss, int_leq, int_gtr, int_geq, strBin, eqV, plainEq, unV, kRes_ret, kRes_normal, resAll, resL, resV, recheck, keepRecs, SOp.impure, Nat.testBit_eq_decide_div_mod_eq, chk_prop, fail_prop, foldV, max2V, h_store, h_append, fillV, repZero, write_row, one_bool, one_int, one_str, one_nilp, one_ptr, one_cptr, one_nils, one_slice, one_cslice, one_nilm, one_map, one_nilf, one_func, one_nili, one_iface, e3, hlo, hlo']
        refine evC_sched c9_9h ?_
        by_cases hoi : o = i
        · subst hoi
          simp [c9_9s, c9_11, evC_seq, evC_region, evC_ret, evC_exit, evC_skip, evC_block, c_cond, kSeq_normal, kSeq_exit, kSeq_ret, kBlock_normal, kBlock_exit, kBlock_ret, seq_s, seq_m, seq_h, seq_g, seq_nil, seq_call, kRest_ap, st_nil, st_s, st_m, st_h, st_gs, st_gb, st_call, kStep_ap, calleeOf, s_mov, s_load, s_indexAddr, s_fieldAddr, s_len, s_bin, s_un, s_mkFunc, s_build, s_extract, s_max, s_field, s_pick, ld_ptr, ld_cptr, fa_ptr, fa_cptr, ln_str, ln_slice, ln_cslice, ln_nils, evM, Opd.ev, evL, putD, initEnv, PT.get_set, isB_bool, isB_tup, ble_dec, beq_dec, LoopK_exit, LoopK_ret, loadRow, row_alloc, cells_agg, cells_bool, cells_int, cells_str, cells_ptr, cells_nilp, cells_nils, cells_slice, cells_map, cells_nilm, cells_iface, cells_nili, cells_func, cells_nilf, binV, int_add, int_sub, int_mul, int_eql, int_neq, int_lss, int_leq, int_gtr, int_geq, strBin, eqV, plainEq, unV, kRes_ret, kRes_normal, resAll, resL, resV, recheck, keepRecs, SOp.impure, Nat.testBit_eq_decide_div_mod_eq, chk_prop, fail_prop, foldV, max2V, h_store, h_append, fillV, repZero, write_row, one_bool, one_int, one_str, one_nilp, one_ptr, one_cptr, one_nils, one_slice, one_cslice, one_nilm, one_map, one_nilf, one_func, one_nili, one_iface, e3, wrap_succ (n := o) (by omega)]
          exact LoopK.go (l.length - (o + 1)) (by omega) (next _ _ (same (by simp) _ O3) (by simp [Has, evC_seq, evC_region, evC_ret, evC_exit, evC_skip, evC_block, c_cond, kSeq_normal, kSeq_exit, kSeq_ret, kBlock_normal, kBlock_exit, kBlock_ret, seq_s, seq_m, seq_h, seq_g, seq_nil, seq_call, kRest_ap, st_nil, st_s, st_m, st_h, st_gs, st_gb, st_call, kStep_ap, calleeOf, s_mov, s_load, s_indexAddr, s_fieldAddr, s_len, s_bin, s_un, s_mkFunc, s_build, s_extract, s_max, s_field, s_pick, ld_ptr, ld_cptr, fa_ptr, fa_cptr, ln_str, ln_slice, ln_cslice, ln_nils, evM, Opd.ev, evL, putD, initEnv, PT.get_set, isB_bool, isB_tup, ble_dec, beq_dec, LoopK_exit, LoopK_ret, loadRow, row_alloc, cells_agg, cells_bool, cells_int, cells_str, cells_ptr, cells_nilp, cells_nils, cells_slice, cells_map, cells_nilm, cells_iface, cells_nili, cells_func, cells_nilf, binV, int_add, int_sub, int_mul, int_eql, int_neq, int_lss, int_leq, int_gtr, int_geq, strBin, eqV, plainEq, unV, kRes_ret, kRes_normal, resAll, resL, resV, recheck, keepRecs, SOp.impure, Nat.testBit_eq_decide_div_mod_eq, chk_prop, fail_prop, foldV, max2V, h_store, h_append, fillV, repZero, write_row, one_bool, one_int, one_str, one_nilp, one_ptr, one_cptr, one_nils, one_slice, one_cslice, one_nilm, one_map, one_nilf, one_func, one_nili, one_iface, e3]))
        · have hoi' : ¬ (i : Int) = (o : Int) := by omega
          obtain ⟨p, hp, hq⟩ := hv.at hlo
          obtain ⟨p', hp', hq'⟩ := hv.at hlt
          simp [c9_9s, evC_seq, evC_region, evC_ret, evC_exit, evC_skip, evC_block, c_cond, kSeq_normal, kSeq_exit, kSeq_ret, kBlock_normal, kBlock_exit, kBlock_ret, seq_s, seq_m, seq_h, seq_g, seq_nil, seq_call, kRest_ap, st_nil, st_s, st_m, st_h, st_gs, st_gb, st_call, kStep_ap, calleeOf, s_mov, s_load, s_indexAddr, s_fieldAddr, s_len, s_bin, s_un, s_mkFunc, s_build, s_extract, s_max, s_field, s_pick, ld_ptr, ld_cptr, fa_ptr, fa_cptr, ln_str, ln_slice, ln_cslice, ln_nils, evM, Opd.ev, evL, putD, initEnv, PT.get_set, isB_bool, isB_tup, ble_dec, beq_dec, LoopK_exit, LoopK_ret, loadRow, row_alloc, cells_agg, cells_bool, cells_int, cells_str, cells_ptr, cells_nilp, cells_nils, cells_slice, cells_map, cells_nilm, cells_iface, cells_nili, cells_func, cells_nilf, binV, int_add, int_sub, int_mul, int_eql, int_neq, int_lss, int_leq, int_gtr, int_geq, strBin, eqV, plainEq, unV, kRes_ret, kRes_normal, resAll, resL, resV, recheck, keepRecs, SOp.impure, Nat.testBit_eq_decide_div_mod_eq, chk_prop, fail_prop, foldV, max2V, h_store, h_append, fillV, repZero, write_row, one_bool, one_int, one_str, one_nilp, one_ptr, one_cptr, one_nils, one_slice, one_cslice, one_nilm, one_map, one_nilf, one_func, one_nili, one_iface, e3, hoi', O3.r1, hp, hp', (hq s3 O3.g).2.1, (hq' s3 O3.g).2.1]
          refine ok12 (hq s3 O3.g).2.2 (hq' s3 O3.g).2.2 ?_ fun s4 g4 => ?_
          · omega
          have O4 := O3.grew g4
          have hEE : E o i = edge l[o] l[i] := by rw [← hE, byPlace_at hlo hlt]
          cases he : edge l[o] l[i] with
          | false =>
            simp [c9_11, evC_seq, evC_region, evC_ret, evC_exit, evC_skip, evC_block, c_cond, kSeq_normal, kSeq_exit, kSeq_ret, kBlock_normal, kBlock_exit, kBlock_ret, seq_s, seq_m, seq_h, seq_g, seq_nil, seq_call, kRest_ap, st_nil, st_s, st_m, st_h, st_gs, st_gb, st_call, kStep_ap, calleeOf, s_mov, s_load, s_indexAddr, s_fieldAddr, s_len, s_bin, s_un, s_mkFunc, s_build, s_extract, s_max, s_field, s_pick, ld_ptr, ld_cptr, fa_ptr, fa_cptr, ln_str, ln_slice, ln_cslice, ln_nils, evM, Opd.ev, evL, putD, initEnv, PT.get_set, isB_bool, isB_tup, ble_dec, beq_dec, LoopK_exit, LoopK_ret, loadRow, row_alloc, cells_agg, cells_bool, cells_int, cells_str, cells_ptr, cells_nilp, cells_nils, cells_slice, cells_map, cells_nilm, cells_iface, cells_nili, cells_func, cells_nilf, binV, int_add, int_sub, int_mul, int_eql, int_neq, int_lss, int_leq, int_gtr, int_geq, strBin, eqV, plainEq, unV, kRes_ret, kRes_normal, resAll, resL, resV, recheck, keepRecs, SOp.impure, Nat.testBit_eq_decide_div_mod_eq, chk_prop, fail_prop, foldV, max2V, h_store, h_append, fillV, repZero, write_row, one_bool, one_int, one_str, one_nilp, one_ptr, one_cptr, one_nils, one_slice, one_cslice, one_nilm, one_map, one_nilf, one_func, one_nili, one_iface, e3, wrap_succ (n := o) (by omega)]
            exact LoopK.go (l.length - (o + 1)) (by omega) (next _ _ (same (by rw [hEE, he]; simp) _ O4) (by simp [Has, evC_seq, evC_region, evC_ret, evC_exit, evC_skip, evC_block, c_cond, kSeq_normal, kSeq_exit, kSeq_ret, kBlock_normal, kBlock_exit, kBlock_ret, seq_s, seq_m, seq_h, seq_g, seq_nil, seq_call, kRest_ap, st_nil, st_s, st_m, st_h, st_gs, st_gb, st_call, kStep_ap, calleeOf, s_mov, s_load, s_indexAddr, s_fieldAddr, s_len, s_bin, s_un, s_mkFunc, s_build, s_extract, s_max, s_field, s_pick, ld_ptr, ld_cptr, fa_ptr, fa_cptr, ln_str, ln_slice, ln_cslice, ln_nils, evM, Opd.ev, evL, putD, initEnv, PT.get_set, isB_bool, isB_tup, ble_dec, beq_dec, LoopK_exit, LoopK_ret, loadRow, row_alloc, cells_agg, cells_bool, cells_int, cells_str, cells_ptr, cells_nilp, cells_nils, cells_slice, cells_map, cells_nilm, cells_iface, cells_nili, cells_func, cells_nilf, binV, int_add, int_sub, int_mul, int_eql, int_neq, int_lss, int_leq, int_gtr, int_geq, strBin, eqV, plainEq, unV, kRes_ret, kRes_normal, resAll, resL, resV, recheck, keepRecs, SOp.impure, Nat.testBit_eq_decide_div_mod_eq, chk_prop, fail_prop, foldV, max2V, h_store, h_append, fillV, repZero, write_row, one_bool, one_int, one_str, one_nilp, one_ptr, one_cptr, one_nils, one_slice, one_cslice, one_nilm, one_map, one_nilf, one_func, one_nili, one_iface, e3]))
          | true =>
            have hc : cnt E [] i o ≤ o := cnt_le
            have hget : (((List.range l.length).map fun x => icell (if x < i then cnt E [] x l.length else if x = i then cnt E [] x o else 0)))[i]? = some (.int .i64 (cnt E [] i o)) := by
              rw [List.getElem?_map, List.getElem?_range hlt]
              simp [icell]
            have hset : ∀ y, spl ((List.range l.length).map fun x => icell (if x < i then cnt E [] x l.length else if x = i then cnt E [] x o else 0)) i [y] = ((List.range l.length).map fun x => icell (if x < i then cnt E [] x l.length else if x = i then cnt E [] x o else 0)).set i y := fun y => spl_set (by simpa using hlt)
            have hixA : ixA 1 (some (.slice (s.next + 1) 0 l.length l.length 1 true)) (some (.int .i64 (i : Int))) = some (.ptr (s.next + 1) i) := by
              have hc : (0 : Int) ≤ (i : Int) ∧ (i : Int) < (l.length : Int) := ⟨by omega, hlt'⟩
              simp only [ixA, if_pos hc]
              simp [Nat.beq_refl]
            have O5 := O4.setA i (cnt E [] i o + 1)
            have hrA := O4.rA
            have hr4 := O4.r4
            simp only [icell] at hget hset O5 hrA
            simp [c9_10, c9_11, evC_seq, evC_region, evC_ret, evC_exit, evC_skip, evC_block, c_cond, kSeq_normal, kSeq_exit, kSeq_ret, kBlock_normal, kBlock_exit, kBlock_ret, seq_s, seq_m, seq_h, seq_g, seq_nil, seq_call, kRest_ap, st_nil, st_s, st_m, st_h, st_gs, st_gb, st_call, kStep_ap, calleeOf, s_mov, s_load, s_indexAddr, s_fieldAddr, s_len, s_bin, s_un, s_mkFunc, s_build, s_extract, s_max, s_field, s_pick, ld_ptr, ld_cptr, fa_ptr, fa_cptr, ln_str, ln_slice, ln_cslice, ln_nils, evM, Opd.ev, evL, putD, initEnv, PT.get_set, isB_bool, isB_tup, ble_dec, beq_dec, LoopK_exit, LoopK_ret, loadRow, row_alloc, cells_agg, cells_bool, cells_int, cells_str, cells_ptr, cells_nilp, cells_nils, cells_slice, cells_map, cells_nilm, cells_iface, cells_nili, cells_func, cells_nilf, binV, int_add, int_sub, int_mul, int_eql, int_neq, int_lss, int_leq, int_gtr, int_geq, strBin, eqV, plainEq, unV, kRes_ret, kRes_normal, resAll, resL, resV, recheck, keepRecs, SOp.impure, Nat.testBit_eq_decide_div_mod_eq, chk_prop, fail_prop, foldV, max2V, h_store, h_append, fillV, repZero, write_row, one_bool, one_int, one_str, one_nilp, one_ptr, one_cptr, one_nils, one_slice, one_cslice, one_nilm, one_map, one_nilf, one_func, one_nili, one_iface, e3, hr4, hixA, hrA, hget, hset, wrap_succ (n := cnt E [] i o) (by omega), wrap_succ (n := o) (by omega), Nat.succ_le_of_lt hlt]
            have O6 := O5.congr (c' := fun x => if x < i then cnt E [] x l.length else if x = i then cnt E [] x (o + 1) else 0) (fun x hx => by
              by_cases h1 : x < i
              · have h2 : ¬ x = i := by omega
                simp [h1, h2]
              · by_cases h2 : x = i
                · subst h2
                  simp only [Nat.lt_irrefl, if_false, if_true]
                  rw [cnt_succ, hEE, he]
                  simp [hoi]
                · simp [h1, h2]) (fun _ _ => rfl)
            push_cast at O6
            exact LoopK.go (l.length - (o + 1)) (by omega) (next _ _ O6 (by simp [Has, evC_seq, evC_region, evC_ret, evC_exit, evC_skip, evC_block, c_cond, kSeq_normal, kSeq_exit, kSeq_ret, kBlock_normal, kBlock_exit, kBlock_ret, seq_s, seq_m, seq_h, seq_g, seq_nil, seq_call, kRest_ap, st_nil, st_s, st_m, st_h, st_gs, st_gb, st_call, kStep_ap, calleeOf, s_mov, s_load, s_indexAddr, s_fieldAddr, s_len, s_bin, s_un, s_mkFunc, s_build, s_extract, s_max, s_field, s_pick, ld_ptr, ld_cptr, fa_ptr, fa_cptr, ln_str, ln_slice, ln_cslice, ln_nils, evM, Opd.ev, evL, putD, initEnv, PT.get_set, isB_bool, isB_tup, ble_dec, beq_dec, LoopK_exit, LoopK_ret, loadRow, row_alloc, cells_agg, cells_bool, cells_int, cells_str, cells_ptr, cells_nilp, cells_nils, cells_slice, cells_map, cells_nilm, cells_iface, cells_nili, cells_func, cells_nilf, binV, int_add, int_sub, int_mul, int_eql, int_neq, int_lss, int_leq, int_gtr, int_geq, strBin, eqV, plainEq, unV, kRes_ret, kRes_normal, resAll, resL, resV, recheck, keepRecs, SOp.impure, Nat.testBit_eq_decide_div_mod_eq, chk_prop, fail_prop, foldV, max2V, h_store, h_append, fillV, repZero, write_row, one_bool, one_int, one_str, one_nilp, one_ptr, one_cptr, one_nils, one_slice, one_cslice, one_nilm, one_map, one_nilf, one_func, one_nili, one_iface, e3]))
      · have hlo' : ¬ (o : Int) < (l.length : Int) := by omega
        obtain rfl : o = l.length := by omega
        simp [c9_b12, c9_7, c9_13, evC_seq, evC_region, evC_ret, evC_exit, evC_skip, evC_block, c_cond, kSeq_normal, kSeq_exit, kSeq_ret, kBlock_normal, kBlock_exit, kBlock_ret, seq_s, seq_m, seq_h, seq_g, seq_nil, seq_call, kRest_ap, st_nil, st_s, st_m, st_h, st_gs, st_gb, st_call, kStep_ap, calleeOf, s_mov, s_load, s_indexAddr, s_fieldAddr, s_len, s_bin, s_un, s_mkFunc, s_build, s_extract, s_max, s_field, s_pick, ld_ptr, ld_cptr, fa_ptr, fa_cptr, ln_str, ln_slice, ln_cslice, ln_nils, evM, Opd.ev, evL, putD, initEnv, PT.get_set, isB_bool, isB_tup, ble_dec, beq_dec, LoopK_exit, LoopK_ret, loadRow, row_alloc, cells_agg, cells_bool, cells_int, cells_str, cells_ptr, cells_nilp, cells_nils, cells_slice, cells_map, cells_nilm, cells_iface, cells_nili, cells_func, cells_nilf, binV, int_add, int_sub, int_mul, int_eql, int_neq, int_lss, int_leq, int_gtr, int_geq, strBin, eqV, plainEq, unV, kRes_ret, kRes_normal, resAll, resL, resV, recheck, keepRecs, SOp.impure, Nat.testBit_eq_decide_div_mod_eq, chk_prop, fail_prop, foldV, max2V, h_store, h_append, fillV, repZero, write_row, one_bool, one_int, one_str, one_nilp, one_ptr, one_cptr, one_nils, one_slice, one_cslice, one_nilm, one_map, one_nilf, one_func, one_nili, one_iface, e3, wrap_succ (n := i) (by omega)]
        refine LoopK.go (l.length - (i + 1)) (by omega) (hI _ _ _ ⟨i + 1, rfl, by omega, O3.congr (fun x hx => ?_) (fun _ _ => rfl), by simp [Has, evC_seq, evC_region, evC_ret, evC_exit, evC_skip, evC_block, c_cond, kSeq_normal, kSeq_exit, kSeq_ret, kBlock_normal, kBlock_exit, kBlock_ret, seq_s, seq_m, seq_h, seq_g, seq_nil, seq_call, kRest_ap, st_nil, st_s, st_m, st_h, st_gs, st_gb, st_call, kStep_ap, calleeOf, s_mov, s_load, s_indexAddr, s_fieldAddr, s_len, s_bin, s_un, s_mkFunc, s_build, s_extract, s_max, s_field, s_pick, ld_ptr, ld_cptr, fa_ptr, fa_cptr, ln_str, ln_slice, ln_cslice, ln_nils, evM, Opd.ev, evL, putD, initEnv, PT.get_set, isB_bool, isB_tup, ble_dec, beq_dec, LoopK_exit, LoopK_ret, loadRow, row_alloc, cells_agg, cells_bool, cells_int, cells_str, cells_ptr, cells_nilp, cells_nils, cells_slice, cells_map, cells_nilm, cells_iface, cells_nili, cells_func, cells_nilf, binV, int_add, int_sub, int_mul, int_eql, int_neq, int_lss, int_leq, int_gtr, int_geq, strBin, eqV, plainEq, unV, kRes_ret, kRes_normal, resAll, resL, resV, recheck, keepRecs, SOp.impure, Nat.testBit_eq_decide_div_mod_eq, chk_prop, fail_prop, foldV, max2V, h_store, h_append, fillV, repZero, write_row, one_bool, one_int, one_str, one_nilp, one_ptr, one_cptr, one_nils, one_slice, one_cslice, one_nilm, one_map, one_nilf, one_func, one_nili, one_iface, e3]⟩)
        by_cases h1 : x < i
        · have : x < i + 1 := by omega
          simp [h1, this]
        · by_cases h2 : x = i
          · subst h2; simp
          · have : ¬ x < i + 1 := by omega
            simp [h1, h2, this]
    · refine O.congr (fun x hx => ?_) (fun _ _ => rfl)
      by_cases h1 : x < i
      · simp [h1]
      · by_cases h2 : x = i
        · subst h2; simp [cnt_zero]
        · simp [h1, h2]
  · have hlt' : ¬ (i : Int) < (l.length : Int) := by omega
    obtain rfl : i = l.length := by omega
    have hk := hk (env.set 21 (.bool false)) s2 (O.congr (fun x hx => by simp [hx]) (fun _ _ => rfl)) (by simp [Has, evC_seq, evC_region, evC_ret, evC_exit, evC_skip, evC_block, c_cond, kSeq_normal, kSeq_exit, kSeq_ret, kBlock_normal, kBlock_exit, kBlock_ret, seq_s, seq_m, seq_h, seq_g, seq_nil, seq_call, kRest_ap, st_nil, st_s, st_m, st_h, st_gs, st_gb, st_call, kStep_ap, calleeOf, s_mov, s_load, s_indexAddr, s_fieldAddr, s_len, s_bin, s_un, s_mkFunc, s_build, s_extract, s_max, s_field, s_pick, ld_ptr, ld_cptr, fa_ptr, fa_cptr, ln_str, ln_slice, ln_cslice, ln_nils, evM, Opd.ev, evL, putD, initEnv, PT.get_set, isB_bool, isB_tup, ble_dec, beq_dec, LoopK_exit, LoopK_ret, loadRow, row_alloc, cells_agg, cells_bool, cells_int, cells_str, cells_ptr, cells_nilp, cells_nils, cells_slice, cells_map, cells_nilm, cells_iface, cells_nili, cells_func, cells_nilf, binV, int_add, int_sub, int_mul, int_eql, int_neq, int_lss, int_leq, int_gtr, int_geq, strBin, eqV, plainEq, unV, kRes_ret, kRes_normal, resAll, resL, resV, recheck, keepRecs, SOp.impure, Nat.testBit_eq_decide_div_mod_eq, chk_prop, fail_prop, foldV, max2V, h_store, h_append, fillV, repZero, write_row, one_bool, one_int, one_str, one_nilp, one_ptr, one_cptr, one_nils, one_slice, one_cslice, one_nilm, one_map, one_nilf, one_func, one_nili, one_iface, e])
    simp [c9_b14, c9_4, evC_seq, evC_region, evC_ret, evC_exit, evC_skip, evC_block, c_cond, kSeq_normal, kSeq_exit, kSeq_ret, kBlock_normal, kBlock_exit, kBlock_ret, seq_s, seq_m, seq_h, seq_g, seq_nil, seq_call, kRest_ap, st_nil, st_s, st_m, st_h, st_gs, st_gb, st_call, kStep_ap, calleeOf, s_mov, s_load, s_indexAddr, s_fieldAddr, s_len, s_bin, s_un, s_mkFunc, s_build, s_extract, s_max, s_field, s_pick, ld_ptr, ld_cptr, fa_ptr, fa_cptr, ln_str, ln_slice, ln_cslice, ln_nils, evM, Opd.ev, evL, putD, initEnv, PT.get_set, isB_bool, isB_tup, ble_dec, beq_dec, LoopK_exit, LoopK_ret, loadRow, row_alloc, cells_agg, cells_bool, cells_int, cells_str, cells_ptr, cells_nilp, cells_nils, cells_slice, cells_map, cells_nilm, cells_iface, cells_nili, cells_func, cells_nilf, binV, int_add, int_sub, int_mul, int_eql, int_neq, int_lss, int_leq, int_gtr, int_geq, strBin, eqV, plainEq, unV, kRes_ret, kRes_normal, resAll, resL, resV, recheck, keepRecs, SOp.impure, Nat.testBit_eq_decide_div_mod_eq, chk_prop, fail_prop, foldV, max2V, h_store, h_append, fillV, repZero, write_row, one_bool, one_int, one_str, one_nilp, one_ptr, one_cptr, one_nils, one_slice, one_cslice, one_nilm, one_map, one_nilf, one_func, one_nili, one_iface, e, hk]
end Go.RE
