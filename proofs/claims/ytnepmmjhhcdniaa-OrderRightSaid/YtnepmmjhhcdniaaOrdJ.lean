/- OrderTime. -/
import Derived.Test.YtnepmmjhhcdniaaOrdI
namespace Go.RE
set_option linter.unusedSimpArgs false
set_option linter.unusedVariables false
variable {M : Nat → String → Option Nat}

theorem lay_perm {n : Nat} {E : Nat → Nat → Bool} {en : Nat → Int} : ∀ {t : Nat} {out res : List Nat}, lay n E en t out = some res → out.Nodup → (∀ x ∈ out, x < n) →
    res.length = out.length + t ∧ res.Nodup ∧ (∀ x ∈ res, x < n) ∧ ∃ more, res = out ++ more := by
  intro t
  induction t with
  | zero => intro out res h hn hx; simp only [lay, Option.some.injEq] at h; subst h; exact ⟨rfl, hn, hx, [], by simp⟩
  | succ t ih =>
    intro out res h hn hx
    simp only [lay] at h
    cases hp : pick n E en out n with
    | none => rw [hp] at h; cases h
    | some b =>
      rw [hp] at h
      have hg := pick_good hp
      have hb : ¬ b ∈ out := by simpa using hg.1
      obtain ⟨h1, h2, h3, more, h4⟩ := ih h (by rw [List.nodup_append]; exact ⟨hn, by simp, fun a ha c hc => by simp at hc; subst hc; exact fun e => hb (e ▸ ha)⟩) (fun x hx' => by
        rcases List.mem_append.1 hx' with h | h
        · exact hx x h
        · simp at h; subst h; exact pick_lt hp)
      exact ⟨by rw [h1]; simp; omega, h2, h3, b :: more, by rw [h4]; simp⟩
/-- Who must stand ahead of another one is laid ahead of it. -/
theorem lay_ahead {n : Nat} {E : Nat → Nat → Bool} {en : Nat → Int} {i k : Nat} (hi : i < n) (hE : E i k = true) (hik : i ≠ k) : ∀ {t : Nat} {out res : List Nat}, lay n E en t out = some res →
    (∀ a b, out = a ++ k :: b → i ∈ a) → ∀ a b, res = a ++ k :: b → i ∈ a := by
  intro t
  induction t with
  | zero => intro out res h ho; simp only [lay, Option.some.injEq] at h; subst h; exact ho
  | succ t ih =>
    intro out res h ho
    simp only [lay] at h
    cases hp : pick n E en out n with
    | none => rw [hp] at h; cases h
    | some b =>
      rw [hp] at h
      refine ih h fun a c e => ?_
      rcases List.append_eq_append_iff.1 e with ⟨a', h1, h2⟩ | ⟨c', h1, h2⟩
      · cases a' with
        | nil =>
          simp at h2
          obtain ⟨rfl, _⟩ := h2
          have hf := (pick_good hp).2
          unfold freeN at hf
          rw [List.all_eq_true] at hf
          have := hf i (List.mem_range.2 hi)
          rw [hE] at this
          have hm : i ∈ out := by simpa [hik] using this
          rw [h1]; simpa using hm
        | cons x a' => simp at h2
      · cases c' with
        | nil =>
          simp at h2
          obtain ⟨rfl, _⟩ := h2
          have hf := (pick_good hp).2
          unfold freeN at hf
          rw [List.all_eq_true] at hf
          have := hf i (List.mem_range.2 hi)
          rw [hE] at this
          have hm : i ∈ out := by simpa [hik] using this
          rw [h1] at hm; simpa using hm
        | cons x c' =>
          simp at h2
          obtain ⟨rfl, _⟩ := h2
          exact ho a c' h1

theorem all_in : ∀ {n : Nat} {l : List Nat}, l.Nodup → (∀ x ∈ l, x < n) → l.length ≤ n ∧ (l.length = n → ∀ i, i < n → i ∈ l) := by
  intro n
  induction n with
  | zero =>
    intro l _ hx
    cases l with
    | nil => exact ⟨by simp, fun _ i hi => absurd hi (by omega)⟩
    | cons a l => exact absurd (hx a (by simp)) (by omega)
  | succ n ih =>
    intro l hn hx
    have hen : (l.erase n).Nodup := hn.erase n
    have hex : ∀ x ∈ l.erase n, x < n := by
      intro x hx'
      have h1 := (hn.mem_erase_iff).1 hx'
      have := hx x h1.2
      omega
    obtain ⟨h1, h2⟩ := ih hen hex
    by_cases hm : n ∈ l
    · have hl := List.length_erase_of_mem hm
      have hp : 0 < l.length := List.length_pos_of_mem hm
      refine ⟨by omega, fun he i hi => ?_⟩
      by_cases hin : i = n
      · subst hin; exact hm
      · exact ((hn.mem_erase_iff).1 (h2 (by omega) i (by omega))).2
    · have hl : l.erase n = l := List.erase_of_not_mem hm
      rw [hl] at h1
      exact ⟨by omega, fun he => absurd he (by omega)⟩

/-- Where a place stands. -/
def At (out : List Nat) (i m : Nat) (z : Int) : Prop := (z = -1 ∧ ∀ j (h : j < out.length), j < m → out[j] ≠ i) ∨ ∃ a : Nat, z = (a : Int) ∧ a < m ∧ ∃ h : a < out.length, out[a] = i
theorem At.zero {out : List Nat} {i : Nat} : At out i 0 (-1) := .inl ⟨rfl, fun j h hj => absurd hj (by omega)⟩
theorem At.same {out : List Nat} {i m : Nat} {z : Int} (h : At out i m z) (hm : m < out.length) (hne : out[m] ≠ i) : At out i (m + 1) z := by
  rcases h with ⟨rfl, h⟩ | ⟨a, rfl, h1, h2⟩
  · refine .inl ⟨rfl, fun j hj hjm => ?_⟩
    by_cases e : j = m
    · subst e; exact hne
    · exact h j hj (by omega)
  · exact .inr ⟨a, rfl, by omega, h2⟩
theorem At.here {out : List Nat} {i m : Nat} (hm : m < out.length) (he : out[m] = i) : At out i (m + 1) (m : Int) := .inr ⟨m, rfl, by omega, hm, he⟩
theorem At.fin {n : Nat} {E : Nat → Nat → Bool} {en : Nat → Int} {out : List Nat} (h : lay n E en n [] = some out) {i k : Nat} (hi : i < n) (hk : k < n) (hE : E i k = true) (hik : i ≠ k) {a b : Int} (ha : At out i out.length a) (hb : At out k out.length b) :
    0 ≤ a ∧ a < b := by
  obtain ⟨h1, h2, h3, _⟩ := lay_perm h (by simp) (by simp)
  simp only [List.length_nil, Nat.zero_add] at h1
  have hall := (all_in h2 h3).2 h1
  have mem : ∀ {x : Nat} {z : Int}, x < n → At out x out.length z → ∃ a : Nat, z = (a : Int) ∧ ∃ h : a < out.length, out[a] = x := by
    intro x z hx hz
    rcases hz with ⟨rfl, hz⟩ | ⟨a, rfl, _, hz⟩
    · obtain ⟨j, hj, e⟩ := List.getElem_of_mem (hall x hx)
      exact absurd e (hz j hj hj)
    · exact ⟨a, rfl, hz⟩
  obtain ⟨a, rfl, ha1, ha2⟩ := mem hi ha
  obtain ⟨b, rfl, hb1, hb2⟩ := mem hk hb
  have hsplit : out = out.take b ++ k :: out.drop (b + 1) := by
    rw [← hb2, List.getElem_cons_drop, List.take_append_drop]
  have hin := lay_ahead hi hE hik h (fun a b e => by cases a <;> simp at e) _ _ hsplit
  obtain ⟨c, hc, e⟩ := List.getElem_of_mem hin
  have hcb : c < b := by simp at hc; omega
  have e' : out[c]'(by omega) = i := by simpa using e
  have hpw := List.pairwise_iff_getElem.1 h2
  have hca : c = a := by
    rcases Nat.lt_trichotomy c a with h | h | h
    · exact absurd (e'.trans ha2.symm) (hpw c a (by omega) ha1 h)
    · exact h
    · exact absurd (ha2.trans e'.symm) (hpw a c ha1 (by omega) h)
  omega

theorem DL.fld {s : St} {v : V} {l : List D} {f : D → V} {j : Nat} (hf : ∀ d, (dC d)[j]? = some (f d)) (h : DL s v l) {i : Nat} (hi : i < l.length) :
    ∃ p q, ixA 7 (some v) (some (.int .i64 (i : Int))) = some p ∧ faA j (some p) = some q ∧ ∀ s', Grew s s' → ldA s' none (some q) = some (f l[i]) := by
  obtain ⟨p, hp, hq⟩ := h.at hi
  obtain ⟨q, h1, _⟩ := (hq s (Grew.refl _)).1.cell (i := j) (hf l[i])
  refine ⟨p, q, hp, h1, fun s' g => ?_⟩
  obtain ⟨q', h1', h2'⟩ := (hq s' g).1.cell (i := j) (hf l[i])
  rw [h1] at h1'
  obtain rfl : q = q' := by simpa using h1'
  exact h2'.ld1
/-- OrderTime. -/
theorem ok4 {v : V} {l : List D} {i k : Int} {B : Nat} {s : St} {n : Nat} {q : V → St → Prop} (hv : DLB s B v l) (hB : B ≤ 9223372036854775807) (hn : B + B + 4000 ≤ n)
    (h : ∀ s', Grew s s' → q (.bool true) s') : callP cTab M n 4 [v, .int .i64 i, .int .i64 k] s q := by
  obtain ⟨m, rfl⟩ : ∃ m, n = m + 20 := ⟨n - 20, by omega⟩
  obtain ⟨N1, hN1⟩ : ∃ N : Nat, N = 10 := ⟨_, rfl⟩
  rw [callP_at (show cTab _ = some c4 from rfl) (by simp)]
  have hl := fun s' => hv.1.len (s' := s')
  simp only [List.length_map] at hl
  simp [c4_0, evC_seq, evC_region, evC_ret, evC_exit, evC_skip, evC_block, c_cond, kSeq_normal, kSeq_exit, kSeq_ret, kBlock_normal, kBlock_exit, kBlock_ret, seq_s, seq_m, seq_h, seq_g, seq_nil, seq_call, kRest_ap, st_nil, st_s, st_m, st_h, st_gs, st_gb, st_call, kStep_ap, calleeOf, s_mov, s_load, s_indexAddr, s_fieldAddr, s_len, s_bin, s_un, s_mkFunc, s_build, s_extract, s_max, s_field, s_pick, ld_ptr, ld_cptr, fa_ptr, fa_cptr, ln_str, ln_slice, ln_cslice, ln_nils, evM, Opd.ev, evL, putD, initEnv, PT.get_set, isB_bool, isB_tup, ble_dec, beq_dec, LoopK_exit, LoopK_ret, loadRow, row_alloc, cells_agg, cells_bool, cells_int, cells_str, cells_ptr, cells_nilp, cells_nils, cells_slice, cells_map, cells_nilm, cells_iface, cells_nili, cells_func, cells_nilf, binV, int_add, int_sub, int_mul, int_eql, int_neq, int_lss, int_leq, int_gtr, int_geq, strBin, eqV, plainEq, unV, kRes_ret, kRes_normal, resAll, resL, resV, recheck, keepRecs, SOp.impure, Nat.testBit_eq_decide_div_mod_eq, chk_prop, fail_prop, foldV, max2V, h_store, h_append, fillV, repZero, write_row, one_bool, one_int, one_str, one_nilp, one_ptr, one_cptr, one_nils, one_slice, one_cslice, one_nilm, one_map, one_nilf, one_func, one_nili, one_iface]
  refine evC_sched c4_1h ?_
  simp [c4_1s, evC_seq, evC_region, evC_ret, evC_exit, evC_skip, evC_block, c_cond, kSeq_normal, kSeq_exit, kSeq_ret, kBlock_normal, kBlock_exit, kBlock_ret, seq_s, seq_m, seq_h, seq_g, seq_nil, seq_call, kRest_ap, st_nil, st_s, st_m, st_h, st_gs, st_gb, st_call, kStep_ap, calleeOf, s_mov, s_load, s_indexAddr, s_fieldAddr, s_len, s_bin, s_un, s_mkFunc, s_build, s_extract, s_max, s_field, s_pick, ld_ptr, ld_cptr, fa_ptr, fa_cptr, ln_str, ln_slice, ln_cslice, ln_nils, evM, Opd.ev, evL, putD, initEnv, PT.get_set, isB_bool, isB_tup, ble_dec, beq_dec, LoopK_exit, LoopK_ret, loadRow, row_alloc, cells_agg, cells_bool, cells_int, cells_str, cells_ptr, cells_nilp, cells_nils, cells_slice, cells_map, cells_nilm, cells_iface, cells_nili, cells_func, cells_nilf, binV, int_add, int_sub, int_mul, int_eql, int_neq, int_lss, int_leq, int_gtr, int_geq, strBin, eqV, plainEq, unV, kRes_ret, kRes_normal, resAll, resL, resV, recheck, keepRecs, SOp.impure, Nat.testBit_eq_decide_div_mod_eq, chk_prop, fail_prop, foldV, max2V, h_store, h_append, fillV, repZero, write_row, one_bool, one_int, one_str, one_nilp, one_ptr, one_cptr, one_nils, one_slice, one_cslice, one_nilm, one_map, one_nilf, one_func, one_nili, one_iface]
  refine ok7 ?_ fun s1 g1 => ?_
  · omega
  simp [evC_seq, evC_region, evC_ret, evC_exit, evC_skip, evC_block, c_cond, kSeq_normal, kSeq_exit, kSeq_ret, kBlock_normal, kBlock_exit, kBlock_ret, seq_s, seq_m, seq_h, seq_g, seq_nil, seq_call, kRest_ap, st_nil, st_s, st_m, st_h, st_gs, st_gb, st_call, kStep_ap, calleeOf, s_mov, s_load, s_indexAddr, s_fieldAddr, s_len, s_bin, s_un, s_mkFunc, s_build, s_extract, s_max, s_field, s_pick, ld_ptr, ld_cptr, fa_ptr, fa_cptr, ln_str, ln_slice, ln_cslice, ln_nils, evM, Opd.ev, evL, putD, initEnv, PT.get_set, isB_bool, isB_tup, ble_dec, beq_dec, LoopK_exit, LoopK_ret, loadRow, row_alloc, cells_agg, cells_bool, cells_int, cells_str, cells_ptr, cells_nilp, cells_nils, cells_slice, cells_map, cells_nilm, cells_iface, cells_nili, cells_func, cells_nilf, binV, int_add, int_sub, int_mul, int_eql, int_neq, int_lss, int_leq, int_gtr, int_geq, strBin, eqV, plainEq, unV, kRes_ret, kRes_normal, resAll, resL, resV, recheck, keepRecs, SOp.impure, Nat.testBit_eq_decide_div_mod_eq, chk_prop, fail_prop, foldV, max2V, h_store, h_append, fillV, repZero, write_row, one_bool, one_int, one_str, one_nilp, one_ptr, one_cptr, one_nils, one_slice, one_cslice, one_nilm, one_map, one_nilf, one_func, one_nili, one_iface]
  have hv1 := hv.grew g1
  refine ok8 hv1.1 hv1.2.1 hv1.2.2 hB ?_ fun s2 g2 => ?_
  · omega
  have back : ∀ {env : PT V}, evSeq M (callP cTab M (m + 14)) c4_2 env s2 (fun env s => kRes [.t 6] q .ret env s) := by
    intro env
    simp [c4_2, evC_seq, evC_region, evC_ret, evC_exit, evC_skip, evC_block, c_cond, kSeq_normal, kSeq_exit, kSeq_ret, kBlock_normal, kBlock_exit, kBlock_ret, seq_s, seq_m, seq_h, seq_g, seq_nil, seq_call, kRest_ap, st_nil, st_s, st_m, st_h, st_gs, st_gb, st_call, kStep_ap, calleeOf, s_mov, s_load, s_indexAddr, s_fieldAddr, s_len, s_bin, s_un, s_mkFunc, s_build, s_extract, s_max, s_field, s_pick, ld_ptr, ld_cptr, fa_ptr, fa_cptr, ln_str, ln_slice, ln_cslice, ln_nils, evM, Opd.ev, evL, putD, initEnv, PT.get_set, isB_bool, isB_tup, ble_dec, beq_dec, LoopK_exit, LoopK_ret, loadRow, row_alloc, cells_agg, cells_bool, cells_int, cells_str, cells_ptr, cells_nilp, cells_nils, cells_slice, cells_map, cells_nilm, cells_iface, cells_nili, cells_func, cells_nilf, binV, int_add, int_sub, int_mul, int_eql, int_neq, int_lss, int_leq, int_gtr, int_geq, strBin, eqV, plainEq, unV, kRes_ret, kRes_normal, resAll, resL, resV, recheck, keepRecs, SOp.impure, Nat.testBit_eq_decide_div_mod_eq, chk_prop, fail_prop, foldV, max2V, h_store, h_append, fillV, repZero, write_row, one_bool, one_int, one_str, one_nilp, one_ptr, one_cptr, one_nils, one_slice, one_cslice, one_nilm, one_map, one_nilf, one_func, one_nili, one_iface]
    refine ok7 ?_ fun s3 g3 => ?_
    · omega
    have hk := h s3 (g1.trans (g2.trans g3))
    simp [evC_seq, evC_region, evC_ret, evC_exit, evC_skip, evC_block, c_cond, kSeq_normal, kSeq_exit, kSeq_ret, kBlock_normal, kBlock_exit, kBlock_ret, seq_s, seq_m, seq_h, seq_g, seq_nil, seq_call, kRest_ap, st_nil, st_s, st_m, st_h, st_gs, st_gb, st_call, kStep_ap, calleeOf, s_mov, s_load, s_indexAddr, s_fieldAddr, s_len, s_bin, s_un, s_mkFunc, s_build, s_extract, s_max, s_field, s_pick, ld_ptr, ld_cptr, fa_ptr, fa_cptr, ln_str, ln_slice, ln_cslice, ln_nils, evM, Opd.ev, evL, putD, initEnv, PT.get_set, isB_bool, isB_tup, ble_dec, beq_dec, LoopK_exit, LoopK_ret, loadRow, row_alloc, cells_agg, cells_bool, cells_int, cells_str, cells_ptr, cells_nilp, cells_nils, cells_slice, cells_map, cells_nilm, cells_iface, cells_nili, cells_func, cells_nilf, binV, int_add, int_sub, int_mul, int_eql, int_neq, int_lss, int_leq, int_gtr, int_geq, strBin, eqV, plainEq, unV, kRes_ret, kRes_normal, resAll, resL, resV, recheck, keepRecs, SOp.impure, Nat.testBit_eq_decide_div_mod_eq, chk_prop, fail_prop, foldV, max2V, h_store, h_append, fillV, repZero, write_row, one_bool, one_int, one_str, one_nilp, one_ptr, one_cptr, one_nils, one_slice, one_cslice, one_nilm, one_map, one_nilf, one_func, one_nili, one_iface, hk]
  cases hf : fewL l with
  | false =>
    simp [evC_seq, evC_region, evC_ret, evC_exit, evC_skip, evC_block, c_cond, kSeq_normal, kSeq_exit, kSeq_ret, kBlock_normal, kBlock_exit, kBlock_ret, seq_s, seq_m, seq_h, seq_g, seq_nil, seq_call, kRest_ap, st_nil, st_s, st_m, st_h, st_gs, st_gb, st_call, kStep_ap, calleeOf, s_mov, s_load, s_indexAddr, s_fieldAddr, s_len, s_bin, s_un, s_mkFunc, s_build, s_extract, s_max, s_field, s_pick, ld_ptr, ld_cptr, fa_ptr, fa_cptr, ln_str, ln_slice, ln_cslice, ln_nils, evM, Opd.ev, evL, putD, initEnv, PT.get_set, isB_bool, isB_tup, ble_dec, beq_dec, LoopK_exit, LoopK_ret, loadRow, row_alloc, cells_agg, cells_bool, cells_int, cells_str, cells_ptr, cells_nilp, cells_nils, cells_slice, cells_map, cells_nilm, cells_iface, cells_nili, cells_func, cells_nilf, binV, int_add, int_sub, int_mul, int_eql, int_neq, int_lss, int_leq, int_gtr, int_geq, strBin, eqV, plainEq, unV, kRes_ret, kRes_normal, resAll, resL, resV, recheck, keepRecs, SOp.impure, Nat.testBit_eq_decide_div_mod_eq, chk_prop, fail_prop, foldV, max2V, h_store, h_append, fillV, repZero, write_row, one_bool, one_int, one_str, one_nilp, one_ptr, one_cptr, one_nils, one_slice, one_cslice, one_nilm, one_map, one_nilf, one_func, one_nili, one_iface]
    exact back
  | true =>
  have hd := (hv1.grew g2).few hf
  have hlen := hd.2.2
  by_cases c1 : i < 0
  · simp [evC_seq, evC_region, evC_ret, evC_exit, evC_skip, evC_block, c_cond, kSeq_normal, kSeq_exit, kSeq_ret, kBlock_normal, kBlock_exit, kBlock_ret, seq_s, seq_m, seq_h, seq_g, seq_nil, seq_call, kRest_ap, st_nil, st_s, st_m, st_h, st_gs, st_gb, st_call, kStep_ap, calleeOf, s_mov, s_load, s_indexAddr, s_fieldAddr, s_len, s_bin, s_un, s_mkFunc, s_build, s_extract, s_max, s_field, s_pick, ld_ptr, ld_cptr, fa_ptr, fa_cptr, ln_str, ln_slice, ln_cslice, ln_nils, evM, Opd.ev, evL, putD, initEnv, PT.get_set, isB_bool, isB_tup, ble_dec, beq_dec, LoopK_exit, LoopK_ret, loadRow, row_alloc, cells_agg, cells_bool, cells_int, cells_str, cells_ptr, cells_nilp, cells_nils, cells_slice, cells_map, cells_nilm, cells_iface, cells_nili, cells_func, cells_nilf, binV, int_add, int_sub, int_mul, int_eql, int_neq, int_lss, int_leq, int_gtr, int_geq, strBin, eqV, plainEq, unV, kRes_ret, kRes_normal, resAll, resL, resV, recheck, keepRecs, SOp.impure, Nat.testBit_eq_decide_div_mod_eq, chk_prop, fail_prop, foldV, max2V, h_store, h_append, fillV, repZero, write_row, one_bool, one_int, one_str, one_nilp, one_ptr, one_cptr, one_nils, one_slice, one_cslice, one_nilm, one_map, one_nilf, one_func, one_nili, one_iface, c1]
    exact back
  by_cases c2 : (l.length : Int) ≤ i
  · simp [evC_seq, evC_region, evC_ret, evC_exit, evC_skip, evC_block, c_cond, kSeq_normal, kSeq_exit, kSeq_ret, kBlock_normal, kBlock_exit, kBlock_ret, seq_s, seq_m, seq_h, seq_g, seq_nil, seq_call, kRest_ap, st_nil, st_s, st_m, st_h, st_gs, st_gb, st_call, kStep_ap, calleeOf, s_mov, s_load, s_indexAddr, s_fieldAddr, s_len, s_bin, s_un, s_mkFunc, s_build, s_extract, s_max, s_field, s_pick, ld_ptr, ld_cptr, fa_ptr, fa_cptr, ln_str, ln_slice, ln_cslice, ln_nils, evM, Opd.ev, evL, putD, initEnv, PT.get_set, isB_bool, isB_tup, ble_dec, beq_dec, LoopK_exit, LoopK_ret, loadRow, row_alloc, cells_agg, cells_bool, cells_int, cells_str, cells_ptr, cells_nilp, cells_nils, cells_slice, cells_map, cells_nilm, cells_iface, cells_nili, cells_func, cells_nilf, binV, int_add, int_sub, int_mul, int_eql, int_neq, int_lss, int_leq, int_gtr, int_geq, strBin, eqV, plainEq, unV, kRes_ret, kRes_normal, resAll, resL, resV, recheck, keepRecs, SOp.impure, Nat.testBit_eq_decide_div_mod_eq, chk_prop, fail_prop, foldV, max2V, h_store, h_append, fillV, repZero, write_row, one_bool, one_int, one_str, one_nilp, one_ptr, one_cptr, one_nils, one_slice, one_cslice, one_nilm, one_map, one_nilf, one_func, one_nili, one_iface, c1, hl, c2]
    exact back
  by_cases c3 : k < 0
  · simp [evC_seq, evC_region, evC_ret, evC_exit, evC_skip, evC_block, c_cond, kSeq_normal, kSeq_exit, kSeq_ret, kBlock_normal, kBlock_exit, kBlock_ret, seq_s, seq_m, seq_h, seq_g, seq_nil, seq_call, kRest_ap, st_nil, st_s, st_m, st_h, st_gs, st_gb, st_call, kStep_ap, calleeOf, s_mov, s_load, s_indexAddr, s_fieldAddr, s_len, s_bin, s_un, s_mkFunc, s_build, s_extract, s_max, s_field, s_pick, ld_ptr, ld_cptr, fa_ptr, fa_cptr, ln_str, ln_slice, ln_cslice, ln_nils, evM, Opd.ev, evL, putD, initEnv, PT.get_set, isB_bool, isB_tup, ble_dec, beq_dec, LoopK_exit, LoopK_ret, loadRow, row_alloc, cells_agg, cells_bool, cells_int, cells_str, cells_ptr, cells_nilp, cells_nils, cells_slice, cells_map, cells_nilm, cells_iface, cells_nili, cells_func, cells_nilf, binV, int_add, int_sub, int_mul, int_eql, int_neq, int_lss, int_leq, int_gtr, int_geq, strBin, eqV, plainEq, unV, kRes_ret, kRes_normal, resAll, resL, resV, recheck, keepRecs, SOp.impure, Nat.testBit_eq_decide_div_mod_eq, chk_prop, fail_prop, foldV, max2V, h_store, h_append, fillV, repZero, write_row, one_bool, one_int, one_str, one_nilp, one_ptr, one_cptr, one_nils, one_slice, one_cslice, one_nilm, one_map, one_nilf, one_func, one_nili, one_iface, c1, hl, c2, c3]
    exact back
  by_cases c4 : (l.length : Int) ≤ k
  · simp [evC_seq, evC_region, evC_ret, evC_exit, evC_skip, evC_block, c_cond, kSeq_normal, kSeq_exit, kSeq_ret, kBlock_normal, kBlock_exit, kBlock_ret, seq_s, seq_m, seq_h, seq_g, seq_nil, seq_call, kRest_ap, st_nil, st_s, st_m, st_h, st_gs, st_gb, st_call, kStep_ap, calleeOf, s_mov, s_load, s_indexAddr, s_fieldAddr, s_len, s_bin, s_un, s_mkFunc, s_build, s_extract, s_max, s_field, s_pick, ld_ptr, ld_cptr, fa_ptr, fa_cptr, ln_str, ln_slice, ln_cslice, ln_nils, evM, Opd.ev, evL, putD, initEnv, PT.get_set, isB_bool, isB_tup, ble_dec, beq_dec, LoopK_exit, LoopK_ret, loadRow, row_alloc, cells_agg, cells_bool, cells_int, cells_str, cells_ptr, cells_nilp, cells_nils, cells_slice, cells_map, cells_nilm, cells_iface, cells_nili, cells_func, cells_nilf, binV, int_add, int_sub, int_mul, int_eql, int_neq, int_lss, int_leq, int_gtr, int_geq, strBin, eqV, plainEq, unV, kRes_ret, kRes_normal, resAll, resL, resV, recheck, keepRecs, SOp.impure, Nat.testBit_eq_decide_div_mod_eq, chk_prop, fail_prop, foldV, max2V, h_store, h_append, fillV, repZero, write_row, one_bool, one_int, one_str, one_nilp, one_ptr, one_cptr, one_nils, one_slice, one_cslice, one_nilm, one_map, one_nilf, one_func, one_nili, one_iface, c1, hl, c2, c3, c4]
    exact back
  obtain ⟨i, rfl⟩ : ∃ a : Nat, i = (a : Int) := ⟨i.toNat, by omega⟩
  obtain ⟨k, rfl⟩ : ∃ a : Nat, k = (a : Int) := ⟨k.toNat, by omega⟩
  have hi : i < l.length := by omega
  have hk : k < l.length := by omega
  obtain ⟨p1, q1, hp1, hq1, e1⟩ := hd.fld (f := fun d => .int .i64 d.en) (j := 4) (fun _ => rfl) hi
  obtain ⟨p2, q2, hp2, hq2, e2⟩ := hd.fld (f := fun d => .int .i64 d.st) (j := 3) (fun _ => rfl) hk
  have e1 := e1 s2 (Grew.refl _)
  have e2 := e2 s2 (Grew.refl _)
  by_cases c5 : l[k].st ≤ l[i].en
  · simp [evC_seq, evC_region, evC_ret, evC_exit, evC_skip, evC_block, c_cond, kSeq_normal, kSeq_exit, kSeq_ret, kBlock_normal, kBlock_exit, kBlock_ret, seq_s, seq_m, seq_h, seq_g, seq_nil, seq_call, kRest_ap, st_nil, st_s, st_m, st_h, st_gs, st_gb, st_call, kStep_ap, calleeOf, s_mov, s_load, s_indexAddr, s_fieldAddr, s_len, s_bin, s_un, s_mkFunc, s_build, s_extract, s_max, s_field, s_pick, ld_ptr, ld_cptr, fa_ptr, fa_cptr, ln_str, ln_slice, ln_cslice, ln_nils, evM, Opd.ev, evL, putD, initEnv, PT.get_set, isB_bool, isB_tup, ble_dec, beq_dec, LoopK_exit, LoopK_ret, loadRow, row_alloc, cells_agg, cells_bool, cells_int, cells_str, cells_ptr, cells_nilp, cells_nils, cells_slice, cells_map, cells_nilm, cells_iface, cells_nili, cells_func, cells_nilf, binV, int_add, int_sub, int_mul, int_eql, int_neq, int_lss, int_leq, int_gtr, int_geq, strBin, eqV, plainEq, unV, kRes_ret, kRes_normal, resAll, resL, resV, recheck, keepRecs, SOp.impure, Nat.testBit_eq_decide_div_mod_eq, chk_prop, fail_prop, foldV, max2V, h_store, h_append, fillV, repZero, write_row, one_bool, one_int, one_str, one_nilp, one_ptr, one_cptr, one_nils, one_slice, one_cslice, one_nilm, one_map, one_nilf, one_func, one_nili, one_iface, c1, hl, c2, c3, c4, hp1, hp2, hq1, hq2, e1, e2, c5]
    exact back
  by_cases c6 : i = k
  · subst c6
    obtain rfl : p1 = p2 := Option.some.inj (hp1.symm.trans hp2)
    simp [evC_seq, evC_region, evC_ret, evC_exit, evC_skip, evC_block, c_cond, kSeq_normal, kSeq_exit, kSeq_ret, kBlock_normal, kBlock_exit, kBlock_ret, seq_s, seq_m, seq_h, seq_g, seq_nil, seq_call, kRest_ap, st_nil, st_s, st_m, st_h, st_gs, st_gb, st_call, kStep_ap, calleeOf, s_mov, s_load, s_indexAddr, s_fieldAddr, s_len, s_bin, s_un, s_mkFunc, s_build, s_extract, s_max, s_field, s_pick, ld_ptr, ld_cptr, fa_ptr, fa_cptr, ln_str, ln_slice, ln_cslice, ln_nils, evM, Opd.ev, evL, putD, initEnv, PT.get_set, isB_bool, isB_tup, ble_dec, beq_dec, LoopK_exit, LoopK_ret, loadRow, row_alloc, cells_agg, cells_bool, cells_int, cells_str, cells_ptr, cells_nilp, cells_nils, cells_slice, cells_map, cells_nilm, cells_iface, cells_nili, cells_func, cells_nilf, binV, int_add, int_sub, int_mul, int_eql, int_neq, int_lss, int_leq, int_gtr, int_geq, strBin, eqV, plainEq, unV, kRes_ret, kRes_normal, resAll, resL, resV, recheck, keepRecs, SOp.impure, Nat.testBit_eq_decide_div_mod_eq, chk_prop, fail_prop, foldV, max2V, h_store, h_append, fillV, repZero, write_row, one_bool, one_int, one_str, one_nilp, one_ptr, one_cptr, one_nils, one_slice, one_cslice, one_nilm, one_map, one_nilf, one_func, one_nili, one_iface, c1, hl, c2, c3, c4, hp1, hp2, hq1, hq2, e1, e2, c5]
    exact back
  have c6' : ¬ (i : Int) = (k : Int) := by omega
  have hE : byPlace l edge i k = true := by
    rw [byPlace_at hi hk]
    unfold edge
    have : l[i].en < l[k].st := by omega
    simp [this]
  simp [c4_3, evC_seq, evC_region, evC_ret, evC_exit, evC_skip, evC_block, c_cond, kSeq_normal, kSeq_exit, kSeq_ret, kBlock_normal, kBlock_exit, kBlock_ret, seq_s, seq_m, seq_h, seq_g, seq_nil, seq_call, kRest_ap, st_nil, st_s, st_m, st_h, st_gs, st_gb, st_call, kStep_ap, calleeOf, s_mov, s_load, s_indexAddr, s_fieldAddr, s_len, s_bin, s_un, s_mkFunc, s_build, s_extract, s_max, s_field, s_pick, ld_ptr, ld_cptr, fa_ptr, fa_cptr, ln_str, ln_slice, ln_cslice, ln_nils, evM, Opd.ev, evL, putD, initEnv, PT.get_set, isB_bool, isB_tup, ble_dec, beq_dec, LoopK_exit, LoopK_ret, loadRow, row_alloc, cells_agg, cells_bool, cells_int, cells_str, cells_ptr, cells_nilp, cells_nils, cells_slice, cells_map, cells_nilm, cells_iface, cells_nili, cells_func, cells_nilf, binV, int_add, int_sub, int_mul, int_eql, int_neq, int_lss, int_leq, int_gtr, int_geq, strBin, eqV, plainEq, unV, kRes_ret, kRes_normal, resAll, resL, resV, recheck, keepRecs, SOp.impure, Nat.testBit_eq_decide_div_mod_eq, chk_prop, fail_prop, foldV, max2V, h_store, h_append, fillV, repZero, write_row, one_bool, one_int, one_str, one_nilp, one_ptr, one_cptr, one_nils, one_slice, one_cslice, one_nilm, one_map, one_nilf, one_func, one_nili, one_iface, c1, hl, c2, c3, c4, hp1, hp2, hq1, hq2, e1, e2, c5, c6']
  refine ok9 hd ?_ (fun h0 s3 g3 => ?_) (fun out ho hol s3 u g3 hu => ?_)
  · omega
  · have hk := h s3 (g1.trans (g2.trans g3))
    simp [c4_4, c4_5, evC_seq, evC_region, evC_ret, evC_exit, evC_skip, evC_block, c_cond, kSeq_normal, kSeq_exit, kSeq_ret, kBlock_normal, kBlock_exit, kBlock_ret, seq_s, seq_m, seq_h, seq_g, seq_nil, seq_call, kRest_ap, st_nil, st_s, st_m, st_h, st_gs, st_gb, st_call, kStep_ap, calleeOf, s_mov, s_load, s_indexAddr, s_fieldAddr, s_len, s_bin, s_un, s_mkFunc, s_build, s_extract, s_max, s_field, s_pick, ld_ptr, ld_cptr, fa_ptr, fa_cptr, ln_str, ln_slice, ln_cslice, ln_nils, evM, Opd.ev, evL, putD, initEnv, PT.get_set, isB_bool, isB_tup, ble_dec, beq_dec, LoopK_exit, LoopK_ret, loadRow, row_alloc, cells_agg, cells_bool, cells_int, cells_str, cells_ptr, cells_nilp, cells_nils, cells_slice, cells_map, cells_nilm, cells_iface, cells_nili, cells_func, cells_nilf, binV, int_add, int_sub, int_mul, int_eql, int_neq, int_lss, int_leq, int_gtr, int_geq, strBin, eqV, plainEq, unV, kRes_ret, kRes_normal, resAll, resL, resV, recheck, keepRecs, SOp.impure, Nat.testBit_eq_decide_div_mod_eq, chk_prop, fail_prop, foldV, max2V, h_store, h_append, fillV, repZero, write_row, one_bool, one_int, one_str, one_nilp, one_ptr, one_cptr, one_nils, one_slice, one_cslice, one_nilm, one_map, one_nilf, one_func, one_nili, one_iface, hk]
  · have hul := fun s' => hu.len (s' := s')
    simp only [List.length_map] at hul
    simp [c4_4, c4_6, c4_7, evC_seq, evC_region, evC_ret, evC_exit, evC_skip, evC_block, c_cond, kSeq_normal, kSeq_exit, kSeq_ret, kBlock_normal, kBlock_exit, kBlock_ret, seq_s, seq_m, seq_h, seq_g, seq_nil, seq_call, kRest_ap, st_nil, st_s, st_m, st_h, st_gs, st_gb, st_call, kStep_ap, calleeOf, s_mov, s_load, s_indexAddr, s_fieldAddr, s_len, s_bin, s_un, s_mkFunc, s_build, s_extract, s_max, s_field, s_pick, ld_ptr, ld_cptr, fa_ptr, fa_cptr, ln_str, ln_slice, ln_cslice, ln_nils, evM, Opd.ev, evL, putD, initEnv, PT.get_set, isB_bool, isB_tup, ble_dec, beq_dec, LoopK_exit, LoopK_ret, loadRow, row_alloc, cells_agg, cells_bool, cells_int, cells_str, cells_ptr, cells_nilp, cells_nils, cells_slice, cells_map, cells_nilm, cells_iface, cells_nili, cells_func, cells_nilf, binV, int_add, int_sub, int_mul, int_eql, int_neq, int_lss, int_leq, int_gtr, int_geq, strBin, eqV, plainEq, unV, kRes_ret, kRes_normal, resAll, resL, resV, recheck, keepRecs, SOp.impure, Nat.testBit_eq_decide_div_mod_eq, chk_prop, fail_prop, foldV, max2V, h_store, h_append, fillV, repZero, write_row, one_bool, one_int, one_str, one_nilp, one_ptr, one_cptr, one_nils, one_slice, one_cslice, one_nilm, one_map, one_nilf, one_func, one_nili, one_iface, hul]
    refine loop (fun j env s' => ∃ o z y, j = out.length - o ∧ o ≤ out.length ∧ s' = s3 ∧ At out i o z ∧ At out k o y ∧
        Has env [(1, .int .i64 i), (2, .int .i64 k), (9, .int .i64 z), (10, .int .i64 y), (66, u), (67, .int .i64 out.length), (68, .int .i64 o)]) (N1 + 20) ?_
      out.length (by omega) ⟨0, -1, -1, by omega, by omega, rfl, At.zero, At.zero, by simp [Has, evC_seq, evC_region, evC_ret, evC_exit, evC_skip, evC_block, c_cond, kSeq_normal, kSeq_exit, kSeq_ret, kBlock_normal, kBlock_exit, kBlock_ret, seq_s, seq_m, seq_h, seq_g, seq_nil, seq_call, kRest_ap, st_nil, st_s, st_m, st_h, st_gs, st_gb, st_call, kStep_ap, calleeOf, s_mov, s_load, s_indexAddr, s_fieldAddr, s_len, s_bin, s_un, s_mkFunc, s_build, s_extract, s_max, s_field, s_pick, ld_ptr, ld_cptr, fa_ptr, fa_cptr, ln_str, ln_slice, ln_cslice, ln_nils, evM, Opd.ev, evL, putD, initEnv, PT.get_set, isB_bool, isB_tup, ble_dec, beq_dec, LoopK_exit, LoopK_ret, loadRow, row_alloc, cells_agg, cells_bool, cells_int, cells_str, cells_ptr, cells_nilp, cells_nils, cells_slice, cells_map, cells_nilm, cells_iface, cells_nili, cells_func, cells_nilf, binV, int_add, int_sub, int_mul, int_eql, int_neq, int_lss, int_leq, int_gtr, int_geq, strBin, eqV, plainEq, unV, kRes_ret, kRes_normal, resAll, resL, resV, recheck, keepRecs, SOp.impure, Nat.testBit_eq_decide_div_mod_eq, chk_prop, fail_prop, foldV, max2V, h_store, h_append, fillV, repZero, write_row, one_bool, one_int, one_str, one_nilp, one_ptr, one_cptr, one_nils, one_slice, one_cslice, one_nilm, one_map, one_nilf, one_func, one_nili, one_iface]⟩
    rintro I hI j env s4 ⟨o, z, y, rfl, ho', rfl, hz, hy, e⟩
    simp only [Has] at e
    by_cases hlt : o < out.length
    · have hlt' : (o : Int) < (out.length : Int) := by omega
      obtain ⟨p, hp, hq⟩ := hu.at (k := .i64) (i := o) (by simpa using hlt)
      have hq1 := hq s4 (Grew.refl _)
      simp only [List.getElem_map, inc] at hq1
      have hld := hq1.ld1
      have next : ∀ env' z' y', At out i (o + 1) z' → At out k (o + 1) y' →
          Has env' [(1, .int .i64 i), (2, .int .i64 k), (9, .int .i64 z'), (10, .int .i64 y'), (66, u), (67, .int .i64 out.length), (68, .int .i64 ((o + 1 : Nat) : Int))] → I (out.length - (o + 1)) env' s4 :=
        fun env' z' y' hz' hy' he => hI _ _ _ ⟨o + 1, z', y', rfl, by omega, rfl, hz', hy', he⟩
      by_cases x1 : out[o] = i
      · have x2 : ¬ (i : Int) = (k : Int) := c6'
        have x3 : out[o] ≠ k := fun e => c6 (x1.symm.trans e)
        simp [c4_b15, c4_8, c4_9, c4_10, c4_11, c4_12, c4_14, evC_seq, evC_region, evC_ret, evC_exit, evC_skip, evC_block, c_cond, kSeq_normal, kSeq_exit, kSeq_ret, kBlock_normal, kBlock_exit, kBlock_ret, seq_s, seq_m, seq_h, seq_g, seq_nil, seq_call, kRest_ap, st_nil, st_s, st_m, st_h, st_gs, st_gb, st_call, kStep_ap, calleeOf, s_mov, s_load, s_indexAddr, s_fieldAddr, s_len, s_bin, s_un, s_mkFunc, s_build, s_extract, s_max, s_field, s_pick, ld_ptr, ld_cptr, fa_ptr, fa_cptr, ln_str, ln_slice, ln_cslice, ln_nils, evM, Opd.ev, evL, putD, initEnv, PT.get_set, isB_bool, isB_tup, ble_dec, beq_dec, LoopK_exit, LoopK_ret, loadRow, row_alloc, cells_agg, cells_bool, cells_int, cells_str, cells_ptr, cells_nilp, cells_nils, cells_slice, cells_map, cells_nilm, cells_iface, cells_nili, cells_func, cells_nilf, binV, int_add, int_sub, int_mul, int_eql, int_neq, int_lss, int_leq, int_gtr, int_geq, strBin, eqV, plainEq, unV, kRes_ret, kRes_normal, resAll, resL, resV, recheck, keepRecs, SOp.impure, Nat.testBit_eq_decide_div_mod_eq, chk_prop, fail_prop, foldV, max2V, h_store, h_append, fillV, repZero, write_row, one_bool, one_int, one_str, one_nilp, one_ptr, one_cptr, one_nils, one_slice, one_cslice, one_nilm, one_map, one_nilf, one_func, one_nili, one_iface, e, hlt, hlt', hp, hld, x1, x2, wrap_succ (n := o) (by omega)]
        exact LoopK.go (out.length - (o + 1)) (by omega) (next _ (o : Int) y (At.here hlt x1) (hy.same hlt x3) (by simp [Has, evC_seq, evC_region, evC_ret, evC_exit, evC_skip, evC_block, c_cond, kSeq_normal, kSeq_exit, kSeq_ret, kBlock_normal, kBlock_exit, kBlock_ret, seq_s, seq_m, seq_h, seq_g, seq_nil, seq_call, kRest_ap, st_nil, st_s, st_m, st_h, st_gs, st_gb, st_call, kStep_ap, calleeOf, s_mov, s_load, s_indexAddr, s_fieldAddr, s_len, s_bin, s_un, s_mkFunc, s_build, s_extract, s_max, s_field, s_pick, ld_ptr, ld_cptr, fa_ptr, fa_cptr, ln_str, ln_slice, ln_cslice, ln_nils, evM, Opd.ev, evL, putD, initEnv, PT.get_set, isB_bool, isB_tup, ble_dec, beq_dec, LoopK_exit, LoopK_ret, loadRow, row_alloc, cells_agg, cells_bool, cells_int, cells_str, cells_ptr, cells_nilp, cells_nils, cells_slice, cells_map, cells_nilm, cells_iface, cells_nili, cells_func, cells_nilf, binV, int_add, int_sub, int_mul, int_eql, int_neq, int_lss, int_leq, int_gtr, int_geq, strBin, eqV, plainEq, unV, kRes_ret, kRes_normal, resAll, resL, resV, recheck, keepRecs, SOp.impure, Nat.testBit_eq_decide_div_mod_eq, chk_prop, fail_prop, foldV, max2V, h_store, h_append, fillV, repZero, write_row, one_bool, one_int, one_str, one_nilp, one_ptr, one_cptr, one_nils, one_slice, one_cslice, one_nilm, one_map, one_nilf, one_func, one_nili, one_iface, e]))
      · have x1' : ¬ (out[o] : Int) = (i : Int) := by omega
        by_cases x2 : out[o] = k
        · have x2' : (out[o] : Int) = (k : Int) := by omega
          have x4 : ¬ (k : Int) = (i : Int) := by omega
          simp [c4_b15, c4_8, c4_9, c4_10, c4_12, c4_13, c4_14, evC_seq, evC_region, evC_ret, evC_exit, evC_skip, evC_block, c_cond, kSeq_normal, kSeq_exit, kSeq_ret, kBlock_normal, kBlock_exit, kBlock_ret, seq_s, seq_m, seq_h, seq_g, seq_nil, seq_call, kRest_ap, st_nil, st_s, st_m, st_h, st_gs, st_gb, st_call, kStep_ap, calleeOf, s_mov, s_load, s_indexAddr, s_fieldAddr, s_len, s_bin, s_un, s_mkFunc, s_build, s_extract, s_max, s_field, s_pick, ld_ptr, ld_cptr, fa_ptr, fa_cptr, ln_str, ln_slice, ln_cslice, ln_nils, evM, Opd.ev, evL, putD, initEnv, PT.get_set, isB_bool, isB_tup, ble_dec, beq_dec, LoopK_exit, LoopK_ret, loadRow, row_alloc, cells_agg, cells_bool, cells_int, cells_str, cells_ptr, cells_nilp, cells_nils, cells_slice, cells_map, cells_nilm, cells_iface, cells_nili, cells_func, cells_nilf, binV, int_add, int_sub, int_mul, int_eql, int_neq, int_lss, int_leq, int_gtr, int_geq, strBin, eqV, plainEq, unV, kRes_ret, kRes_normal, resAll, resL, resV, recheck, keepRecs, SOp.impure, Nat.testBit_eq_decide_div_mod_eq, chk_prop, fail_prop, foldV, max2V, h_store, h_append, fillV, repZero, write_row, one_bool, one_int, one_str, one_nilp, one_ptr, one_cptr, one_nils, one_slice, one_cslice, one_nilm, one_map, one_nilf, one_func, one_nili, one_iface, e, hlt, hlt', hp, hld, x2, x4, wrap_succ (n := o) (by omega)]
          exact LoopK.go (out.length - (o + 1)) (by omega) (next _ z (o : Int) (hz.same hlt x1) (At.here hlt x2) (by simp [Has, evC_seq, evC_region, evC_ret, evC_exit, evC_skip, evC_block, c_cond, kSeq_normal, kSeq_exit, kSeq_ret, kBlock_normal, kBlock_exit, kBlock_ret, seq_s, seq_m, seq_h, seq_g, seq_nil, seq_call, kRest_ap, st_nil, st_s, st_m, st_h, st_gs, st_gb, st_call, kStep_ap, calleeOf, s_mov, s_load, s_indexAddr, s_fieldAddr, s_len, s_bin, s_un, s_mkFunc, s_build, s_extract, s_max, s_field, s_pick, ld_ptr, ld_cptr, fa_ptr, fa_cptr, ln_str, ln_slice, ln_cslice, ln_nils, evM, Opd.ev, evL, putD, initEnv, PT.get_set, isB_bool, isB_tup, ble_dec, beq_dec, LoopK_exit, LoopK_ret, loadRow, row_alloc, cells_agg, cells_bool, cells_int, cells_str, cells_ptr, cells_nilp, cells_nils, cells_slice, cells_map, cells_nilm, cells_iface, cells_nili, cells_func, cells_nilf, binV, int_add, int_sub, int_mul, int_eql, int_neq, int_lss, int_leq, int_gtr, int_geq, strBin, eqV, plainEq, unV, kRes_ret, kRes_normal, resAll, resL, resV, recheck, keepRecs, SOp.impure, Nat.testBit_eq_decide_div_mod_eq, chk_prop, fail_prop, foldV, max2V, h_store, h_append, fillV, repZero, write_row, one_bool, one_int, one_str, one_nilp, one_ptr, one_cptr, one_nils, one_slice, one_cslice, one_nilm, one_map, one_nilf, one_func, one_nili, one_iface, e]))
        · have x2' : ¬ (out[o] : Int) = (k : Int) := by omega
          simp [c4_b15, c4_8, c4_9, c4_10, c4_12, c4_14, evC_seq, evC_region, evC_ret, evC_exit, evC_skip, evC_block, c_cond, kSeq_normal, kSeq_exit, kSeq_ret, kBlock_normal, kBlock_exit, kBlock_ret, seq_s, seq_m, seq_h, seq_g, seq_nil, seq_call, kRest_ap, st_nil, st_s, st_m, st_h, st_gs, st_gb, st_call, kStep_ap, calleeOf, s_mov, s_load, s_indexAddr, s_fieldAddr, s_len, s_bin, s_un, s_mkFunc, s_build, s_extract, s_max, s_field, s_pick, ld_ptr, ld_cptr, fa_ptr, fa_cptr, ln_str, ln_slice, ln_cslice, ln_nils, evM, Opd.ev, evL, putD, initEnv, PT.get_set, isB_bool, isB_tup, ble_dec, beq_dec, LoopK_exit, LoopK_ret, loadRow, row_alloc, cells_agg, cells_bool, cells_int, cells_str, cells_ptr, cells_nilp, cells_nils, cells_slice, cells_map, cells_nilm, cells_iface, cells_nili, cells_func, cells_nilf, binV, int_add, int_sub, int_mul, int_eql, int_neq, int_lss, int_leq, int_gtr, int_geq, strBin, eqV, plainEq, unV, kRes_ret, kRes_normal, resAll, resL, resV, recheck, keepRecs, SOp.impure, Nat.testBit_eq_decide_div_mod_eq, chk_prop, fail_prop, foldV, max2V, h_store, h_append, fillV, repZero, write_row, one_bool, one_int, one_str, one_nilp, one_ptr, one_cptr, one_nils, one_slice, one_cslice, one_nilm, one_map, one_nilf, one_func, one_nili, one_iface, e, hlt, hlt', hp, hld, x1', x2', wrap_succ (n := o) (by omega)]
          exact LoopK.go (out.length - (o + 1)) (by omega) (next _ z y (hz.same hlt x1) (hy.same hlt x2) (by simp [Has, evC_seq, evC_region, evC_ret, evC_exit, evC_skip, evC_block, c_cond, kSeq_normal, kSeq_exit, kSeq_ret, kBlock_normal, kBlock_exit, kBlock_ret, seq_s, seq_m, seq_h, seq_g, seq_nil, seq_call, kRest_ap, st_nil, st_s, st_m, st_h, st_gs, st_gb, st_call, kStep_ap, calleeOf, s_mov, s_load, s_indexAddr, s_fieldAddr, s_len, s_bin, s_un, s_mkFunc, s_build, s_extract, s_max, s_field, s_pick, ld_ptr, ld_cptr, fa_ptr, fa_cptr, ln_str, ln_slice, ln_cslice, ln_nils, evM, Opd.ev, evL, putD, initEnv, PT.get_set, isB_bool, isB_tup, ble_dec, beq_dec, LoopK_exit, LoopK_ret, loadRow, row_alloc, cells_agg, cells_bool, cells_int, cells_str, cells_ptr, cells_nilp, cells_nils, cells_slice, cells_map, cells_nilm, cells_iface, cells_nili, cells_func, cells_nilf, binV, int_add, int_sub, int_mul, int_eql, int_neq, int_lss, int_leq, int_gtr, int_geq, strBin, eqV, plainEq, unV, kRes_ret, kRes_normal, resAll, resL, resV, recheck, keepRecs, SOp.impure, Nat.testBit_eq_decide_div_mod_eq, chk_prop, fail_prop, foldV, max2V, h_store, h_append, fillV, repZero, write_row, one_bool, one_int, one_str, one_nilp, one_ptr, one_cptr, one_nils, one_slice, one_cslice, one_nilm, one_map, one_nilf, one_func, one_nili, one_iface, e]))
    · have hlt' : ¬ (o : Int) < (out.length : Int) := by omega
      obtain rfl : o = out.length := by omega
      obtain ⟨f1, f2⟩ := At.fin ho hi hk hE c6 hz hy
      have hk := h s4 (g1.trans (g2.trans g3))
      simp [c4_b15, c4_8, c4_16, evC_seq, evC_region, evC_ret, evC_exit, evC_skip, evC_block, c_cond, kSeq_normal, kSeq_exit, kSeq_ret, kBlock_normal, kBlock_exit, kBlock_ret, seq_s, seq_m, seq_h, seq_g, seq_nil, seq_call, kRest_ap, st_nil, st_s, st_m, st_h, st_gs, st_gb, st_call, kStep_ap, calleeOf, s_mov, s_load, s_indexAddr, s_fieldAddr, s_len, s_bin, s_un, s_mkFunc, s_build, s_extract, s_max, s_field, s_pick, ld_ptr, ld_cptr, fa_ptr, fa_cptr, ln_str, ln_slice, ln_cslice, ln_nils, evM, Opd.ev, evL, putD, initEnv, PT.get_set, isB_bool, isB_tup, ble_dec, beq_dec, LoopK_exit, LoopK_ret, loadRow, row_alloc, cells_agg, cells_bool, cells_int, cells_str, cells_ptr, cells_nilp, cells_nils, cells_slice, cells_map, cells_nilm, cells_iface, cells_nili, cells_func, cells_nilf, binV, int_add, int_sub, int_mul, int_eql, int_neq, int_lss, int_leq, int_gtr, int_geq, strBin, eqV, plainEq, unV, kRes_ret, kRes_normal, resAll, resL, resV, recheck, keepRecs, SOp.impure, Nat.testBit_eq_decide_div_mod_eq, chk_prop, fail_prop, foldV, max2V, h_store, h_append, fillV, repZero, write_row, one_bool, one_int, one_str, one_nilp, one_ptr, one_cptr, one_nils, one_slice, one_cslice, one_nilm, one_map, one_nilf, one_func, one_nili, one_iface, e, f1, f2, hk]
end Go.RE
