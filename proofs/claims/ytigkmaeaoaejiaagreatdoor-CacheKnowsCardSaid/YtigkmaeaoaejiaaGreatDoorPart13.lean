/- Contracts: pairs, in the reference. -/
import Derived.Test.YtigkmaeaoaejiaaGreatDoorPart12
import Derived.Test.YtigkmaeaoaejiaaGreatDoorPart11
set_option linter.unusedVariables false
set_option linter.unusedSimpArgs false
namespace Go.RE
variable {M : Nat → String → Option Nat} {Q : Mut} {Pm : Nat → Option (List U → List Uo → Nat → Option (U × List Uo × Nat))}
abbrev Pr := By × By
abbrev NoPm (Pm : Nat → Option (List U → List Uo → Nat → Option (U × List Uo × Nat))) : Prop := ∀ f, f ≠ 49 → f ≠ 97 → Pm f = none
abbrev NoQ (Q : Mut) : Prop := ∀ f, f ≠ 90 → Q f = none
def pairC (p : Pr) : List U := [.str p.1, .sl 1 (bytesU p.2)]
theorem unbytes_bytes (b : By) : unbytes (bytesU b) = some b := by
  induction b with
  | nil => rfl
  | cons x b ih =>
    have h2 : unbytes (bytesU (x :: b)) = match byteOfU (byteU x) with | some b' => (match unbytes (bytesU b) with | some bs => some (b' :: bs) | none => none) | none => none := rfl
    have h3 : byteOfU (byteU x) = some x := by simp [byteU, byteOfU]
    rw [h2, h3, ih]
@[simp] theorem strV_bytes (s : Vs) (b : By) : strV s (.sl 1 (bytesU b)) = some (.str b, s) := by simp [strV, rowsOf, unbytes_bytes]
@[simp] theorem strV_ownb (s : Vs) (g : Tg) (b : By) : strV s (.own g 1 (bytesU b)) = some (.str b, s) := by simp [strV, rowsOf, unbytes_bytes]
theorem beq_cons {α : Type} [BEq α] (a b : α) (x y : List α) : (a :: x == b :: y) = (a == b && x == y) := rfl
theorem beq_pair {α β : Type} [BEq α] [BEq β] (a b : α × β) : (a == b) = (a.1 == b.1 && a.2 == b.2) := rfl
theorem t45_loop (l l' : List Pr) (hl : l'.length = l.length) (hB : l.length < 9223372036854775807) : ∀ (j i : Nat), i + j = l.length →
    gL vTab M Q Pm v45 0 v45_b9 0 ⟨[(13, .int .i64 (i : Int)), (0, .sl 2 (l.map pairC)), (1, .sl 2 (l'.map pairC)), (12, .int .i64 (l.length : Int))], [], 0⟩ (seqK vTab M Q Pm v45 (.seq (.region v45_10) .ret) (kE 0 v45 (.bool (l.drop i == l'.drop i), [], 0))) := by
  intro j
  induction j with
  | zero =>
    intro i hi
    have h1 : ¬ ((i : Int) < (l.length : Int)) := by omega
    have h2 : l.drop i = [] := List.drop_of_length_le (by omega)
    have h3 : l'.drop i = [] := List.drop_of_length_le (by omega)
    rw [gL_round v45_b9.eq_1]
    simp [v45_4, h1, h2, h3, v45_10]
  | succ j ih =>
    intro i hi
    have h1 : ((i : Int) < (l.length : Int)) := by omega
    have hi1 : i < l.length := by omega
    have hi2 : i < l'.length := by omega
    have e1 : (l.map pairC)[i]? = some (pairC l[i]) := by simp [hi1]
    have e2 : (l'.map pairC)[i]? = some (pairC l'[i]) := by simp [hi2]
    have e3 : wrapA .i64 ((i : Int) + 1) = ((i + 1 : Nat) : Int) := wrap_succ (by omega)
    have ih' := ih (i + 1) (by omega)
    have d1 : l.drop i = l[i] :: l.drop (i + 1) := List.drop_eq_getElem_cons hi1
    have d2 : l'.drop i = l'[i] :: l'.drop (i + 1) := List.drop_eq_getElem_cons hi2
    rw [gL_round v45_b9.eq_1, d1, d2, beq_cons, beq_pair]
    cases hk : (l[i].1 == l'[i].1) with
    | false => simp [v45_4, v45_5, v45_7, h1, gC_drw v45_6h, v45_6s, iaV_sl e1, iaV_sl e2, pairC, hk]
    | true =>
      cases hk2 : (l[i].2 == l'[i].2) with
      | false => simp [v45_4, v45_5, v45_7, h1, gC_drw v45_6h, v45_6s, iaV_sl e1, iaV_sl e2, pairC, hk, hk2]
      | true => simp [v45_4, v45_5, v45_7, v45_8, h1, gC_drw v45_6h, v45_6s, iaV_sl e1, iaV_sl e2, pairC, hk, hk2, e3]; exact ih'
theorem t45 (h45 : Pm 45 = none) (l l' : List Pr) (hB : l.length < 9223372036854775807) : gF vTab M Q Pm 45 [.sl 2 (l.map pairC), .sl 2 (l'.map pairC)] [] 0 = some (.bool (l == l'), [], 0) := by
  refine gF_of (fn := v45) h45 rfl rfl ?_
  cases hl : ((l.length : Int) == (l'.length : Int)) with
  | false =>
    have : (l == l') = false := by
      cases h : l == l' with
      | false => rfl
      | true => have := eq_of_beq h; subst this; simp at hl
    rw [this]
    simp [v45_body, v45_0, v45_1, v45_2, bne, hl]
  | true =>
    have hl' : l'.length = l.length := by have := eq_of_beq hl; omega
    have := t45_loop (M := M) (Q := Q) (Pm := Pm) l l' hl' hB l.length 0 (by omega)
    simp only [List.drop_zero] at this
    simp [v45_body, v45_0, v45_1, v45_3, bne, hl]
    exact this
abbrev lt (a b : By) : Bool := Op.bytesLess a b
def right (lo hi : By) : Bool := hi == [] || lt lo hi
def has (lo hi k : By) : Bool := !lt k lo && (hi == [] || lt k hi)
def small : Nat := 1000000000
theorem t53 (h : Pm 53 = none) (lo hi : By) : gF vTab M Q Pm 53 [.agg [.str lo, .str hi]] [] 0 = some (.bool (right lo hi), [], 0) := by
  refine gF_of (fn := v53) h rfl rfl ?_
  cases hh : hi == [] <;> simp [v53_body, v53_0, v53_1, hh, right]
theorem t57 (h : Pm 57 = none) (lo hi : By) : gF vTab M Q Pm 57 [.agg [.str lo, .str hi]] [] 0 = some (.bool (right lo hi), [], 0) := by
  refine gF_of (fn := v57) h rfl rfl ?_
  cases hh : hi == [] <;> simp [v57_body, v57_0, v57_1, hh, right]
theorem t40 (h : Pm 40 = none) (k : By) (hk : k.length < small) : gF vTab M Q Pm 40 [.str k] [] 0 = some (.agg [.str k, .str (k ++ [0])], [], 0) := by
  refine gF_of (fn := v40) h rfl rfl ?_
  have hb : k.length + 1 ≤ big := by unfold small at hk; unfold big; omega
  simp [v40_body, v40_0, v40_1, hb]
theorem t56 (h : Pm 56 = none) (k : By) (hk : k.length < small) : gF vTab M Q Pm 56 [.str k] [] 0 = some (.agg [.str k, .str (k ++ [0])], [], 0) := by
  refine gF_of (fn := v56) h rfl rfl ?_
  have hb : k.length + 1 ≤ big := by unfold small at hk; unfold big; omega
  simp [v56_body, v56_0, v56_1, hb]
theorem t102 (h : Pm 102 = none) (lo hi k : By) : gF vTab M Q Pm 102 [.agg [.str lo, .str hi], .str k] [] 0 = some (.bool (has lo hi k), [], 0) := by
  refine gF_of (fn := v102) h rfl rfl ?_
  cases h1 : lt k lo <;> cases h2 : hi == [] <;> simp [v102_body, v102_0, v102_1, h1, h2, has]
theorem t58 (h : Pm 58 = none) (lo hi k : By) : gF vTab M Q Pm 58 [.agg [.str lo, .str hi], .str k] [] 0 = some (.bool (has lo hi k), [], 0) := by
  refine gF_of (fn := v58) h rfl rfl ?_
  cases h1 : lt k lo <;> cases h2 : hi == [] <;> simp [v58_body, v58_0, v58_1, h1, h2, has]
theorem t23 (h : Pm 23 = none) (a b : By) : gF vTab M Q Pm 23 [.sl 1 (bytesU a), .sl 1 (bytesU b)] [] 0 = some (.bool (a == b), [], 0) := by
  refine gF_of (fn := v23) h rfl rfl ?_
  simp [v23_body, v23_0, v23_1]
theorem t14 (hp : NoPm Pm) (hq : NoQ Q) (l l' : List Pr) (hB : l.length < 9223372036854775807) : gF vTab M Q Pm 14 [.sl 2 (l.map pairC), .sl 2 (l'.map pairC)] [] 0 = some (.bool (l == l'), [], 0) := by
  refine gF_of (fn := v14) (hp 14 (by decide) (by decide)) rfl rfl ?_
  simp [v14_body, v14_0, v14_1, hq, t45 (hp 45 (by decide) (by decide)) l l' hB]
theorem fewA {n : Nat} (h : n < small) : (n + 1) * 40 ≤ big ∧ n + 1 ≤ big := by unfold small at h; unfold big; omega
def putL (l : List Pr) (p : Pr) : List Pr := l.filter (fun x => lt x.1 p.1) ++ [p] ++ l.filter (fun x => lt p.1 x.1)
theorem t47_a (l : List Pr) (k d : By) (K : Ex → Vs → Prop) (hl : l.length < small) : ∀ (j i : Nat) (out : List Pr), i + j = l.length → out.length ≤ i →
    K .normal ⟨[(3, .ptr 0 0), (0, .sl 2 (l.map pairC)), (5, .own (.t 5) 2 ((out ++ (l.drop i).filter (fun x => lt x.1 k)).map pairC))], [.row [.str k, .sl 1 (bytesU d)]], 0⟩ →
    gL vTab M Q Pm v47 0 v47_b8 1 ⟨[(13, .int .i64 (i : Int)), (5, .own (.t 5) 2 (out.map pairC)), (3, .ptr 0 0), (11, .sl 2 (l.map pairC)), (0, .sl 2 (l.map pairC)), (12, .int .i64 (l.length : Int))], [.row [.str k, .sl 1 (bytesU d)]], 0⟩ K := by
  intro j
  induction j with
  | zero =>
    intro i out hi ho hK
    have h1 : ¬ ((i : Int) < (l.length : Int)) := by omega
    have h2 : l.drop i = [] := List.drop_of_length_le (by omega)
    rw [h2] at hK
    rw [gL_round v47_b8.eq_1]
    simp [v47_3, h1] at hK ⊢
    exact hK
  | succ j ih =>
    intro i out hi ho hK
    have h1 : ((i : Int) < (l.length : Int)) := by omega
    have hi1 : i < l.length := by omega
    have e1 : (l.map pairC)[i]? = some (pairC l[i]) := by simp [hi1]
    have e3 : wrapA .i64 ((i : Int) + 1) = ((i + 1 : Nat) : Int) := wrap_succ (by unfold small at hl; omega)
    have d1 : l.drop i = l[i] :: l.drop (i + 1) := List.drop_eq_getElem_cons hi1
    rw [d1, List.filter_cons] at hK
    rw [gL_round v47_b8.eq_1]
    obtain ⟨f1, f2⟩ := fewA (n := out.length) (by omega)
    cases hk : lt l[i].1 k with
    | false =>
      have ih' := ih (i + 1) out (by omega) (by omega)
      simp [hk] at hK ih'
      simp [v47_3, v47_4, v47_5, v47_6, v47_7, h1, iaV_sl e1, pairC, hk, e3]
      exact ih' hK
    | true =>
      have ih' := ih (i + 1) (out ++ [l[i]]) (by omega) (by simp; omega)
      simp [hk, pairC] at hK ih'
      simp [v47_3, v47_4, v47_5, v47_6, v47_7, h1, iaV_sl e1, pairC, hk, e3, f1, f2]
      exact ih' hK
theorem t47_b (l : List Pr) (k d : By) (K : Ex → Vs → Prop) (hl : l.length < small) : ∀ (j i : Nat) (out : List Pr), i + j = l.length → out.length ≤ l.length + 1 + i →
    K .normal ⟨[(5, .own (.t 5) 2 ((out ++ (l.drop i).filter (fun x => lt k x.1)).map pairC))], [.row [.str k, .sl 1 (bytesU d)]], 0⟩ →
    gL vTab M Q Pm v47 2 v47_b16 1 ⟨[(33, .int .i64 (i : Int)), (5, .own (.t 5) 2 (out.map pairC)), (3, .ptr 0 0), (31, .sl 2 (l.map pairC)), (32, .int .i64 (l.length : Int))], [.row [.str k, .sl 1 (bytesU d)]], 0⟩ K := by
  intro j
  induction j with
  | zero =>
    intro i out hi ho hK
    have h1 : ¬ ((i : Int) < (l.length : Int)) := by omega
    have h2 : l.drop i = [] := List.drop_of_length_le (by omega)
    rw [h2] at hK
    rw [gL_round v47_b16.eq_1]
    simp [v47_11, h1] at hK ⊢
    exact hK
  | succ j ih =>
    intro i out hi ho hK
    have h1 : ((i : Int) < (l.length : Int)) := by omega
    have hi1 : i < l.length := by omega
    have e1 : (l.map pairC)[i]? = some (pairC l[i]) := by simp [hi1]
    have e3 : wrapA .i64 ((i : Int) + 1) = ((i + 1 : Nat) : Int) := wrap_succ (by unfold small at hl; omega)
    have d1 : l.drop i = l[i] :: l.drop (i + 1) := List.drop_eq_getElem_cons hi1
    rw [d1, List.filter_cons] at hK
    rw [gL_round v47_b16.eq_1]
    obtain ⟨f1, f2⟩ : (out.length + 1) * 40 ≤ big ∧ out.length + 1 ≤ big := by unfold small at hl; unfold big; omega
    cases hk : lt k l[i].1 with
    | false =>
      have ih' := ih (i + 1) out (by omega) (by omega)
      simp [hk] at hK ih'
      simp [v47_11, v47_12, v47_13, v47_14, v47_15, h1, iaV_sl e1, pairC, hk, e3]
      exact ih' hK
    | true =>
      have ih' := ih (i + 1) (out ++ [l[i]]) (by omega) (by simp; omega)
      simp [hk, pairC] at hK ih'
      simp [v47_11, v47_12, v47_13, v47_14, v47_15, h1, iaV_sl e1, pairC, hk, e3, f1, f2]
      exact ih' hK
theorem filt_len {α : Type} (p : α → Bool) (l : List α) : (l.filter p).length ≤ l.length := List.length_filter_le p l
theorem t47 (hp : NoPm Pm) (l : List Pr) (p : Pr) (hl : l.length < small) : gF vTab M Q Pm 47 [.sl 2 (l.map pairC), .agg (pairC p)] [] 0 = some (.own .r 2 ((putL l p).map pairC), [], 0) := by
  refine gF_of (fn := v47) (hp 47 (by decide) (by decide)) rfl rfl ?_
  obtain ⟨k, d⟩ := p
  have a := t47_a (M := M) (Q := Q) (Pm := Pm) l k d
  have b := t47_b (M := M) (Q := Q) (Pm := Pm) l k d
  have hf := filt_len (fun x : Pr => lt x.1 k) l
  obtain ⟨f1, f2⟩ : ((l.filter (fun x : Pr => lt x.1 k)).length + 1) * 40 ≤ big ∧ (l.filter (fun x : Pr => lt x.1 k)).length + 1 ≤ big := by unfold small at hl; unfold big; omega
  simp [v47_body, v47_0, v47_1, v47_2, pairC]
  refine a _ hl l.length 0 [] (by omega) (by simp) ?_
  simp [v47_9, v47_10, pairC, f1, f2]
  have b' := b (seqK vTab M Q Pm v47 (.seq (.region v47_17) .ret) (kE 0 v47 (.own .r 2 ((putL l (k, d)).map pairC), [], 0))) hl l.length 0 (l.filter (fun x => lt x.1 k) ++ [(k, d)]) (by omega) (by simp; omega)
  simp [pairC, putL, v47_17] at b' ⊢
  exact b'
theorem t50_a (hp : NoPm Pm) (hq : NoQ Q) (l : List Pr) (lo hi : By) (K : Ex → Vs → Prop) (hl : l.length < small) : ∀ (j i : Nat) (out : List Pr), i + j = l.length → out.length ≤ i →
    K .normal ⟨[(5, .own (.t 5) 2 ((out ++ (l.drop i).filter (fun x => !has lo hi x.1)).map pairC))], [.row [.str lo, .str hi]], 0⟩ →
    gL vTab M Q Pm v50 0 v50_b8 1 ⟨[(11, .int .i64 (i : Int)), (5, .own (.t 5) 2 (out.map pairC)), (3, .ptr 0 0), (9, .sl 2 (l.map pairC)), (10, .int .i64 (l.length : Int))], [.row [.str lo, .str hi]], 0⟩ K := by
  intro j
  induction j with
  | zero =>
    intro i out hij ho hK
    have h1 : ¬ ((i : Int) < (l.length : Int)) := by omega
    have h2 : l.drop i = [] := List.drop_of_length_le (by omega)
    rw [h2] at hK
    rw [gL_round v50_b8.eq_1]
    simp [v50_3, h1] at hK ⊢
    exact hK
  | succ j ih =>
    intro i out hij ho hK
    have h1 : ((i : Int) < (l.length : Int)) := by omega
    have hi1 : i < l.length := by omega
    have e1 : (l.map pairC)[i]? = some (pairC l[i]) := by simp [hi1]
    have e3 : wrapA .i64 ((i : Int) + 1) = ((i + 1 : Nat) : Int) := wrap_succ (by unfold small at hl; omega)
    have d1 : l.drop i = l[i] :: l.drop (i + 1) := List.drop_eq_getElem_cons hi1
    rw [d1, List.filter_cons] at hK
    rw [gL_round v50_b8.eq_1]
    obtain ⟨f1, f2⟩ : (out.length + 1) * 40 ≤ big ∧ out.length + 1 ≤ big := by unfold small at hl; unfold big; omega
    cases hk : has lo hi l[i].1 with
    | true =>
      have ih' := ih (i + 1) out (by omega) (by omega)
      simp [hk] at hK ih'
      simp [v50_3, v50_4, v50_5, v50_6, v50_7, h1, iaV_sl e1, pairC, hk, e3, hq, t102 (hp 102 (by decide) (by decide))]
      exact ih' hK
    | false =>
      have ih' := ih (i + 1) (out ++ [l[i]]) (by omega) (by simp; omega)
      simp [hk, pairC] at hK ih'
      simp [v50_3, v50_4, v50_5, v50_6, v50_7, h1, iaV_sl e1, pairC, hk, e3, f1, f2, hq, t102 (hp 102 (by decide) (by decide))]
      exact ih' hK
theorem t50 (hp : NoPm Pm) (hq : NoQ Q) (l : List Pr) (lo hi : By) (hl : l.length < small) : gF vTab M Q Pm 50 [.sl 2 (l.map pairC), .agg [.str lo, .str hi]] [] 0 = some (.own .r 2 ((l.filter (fun x => !has lo hi x.1)).map pairC), [], 0) := by
  refine gF_of (fn := v50) (hp 50 (by decide) (by decide)) rfl rfl ?_
  simp [v50_body, v50_0, v50_1, v50_2]
  refine t50_a hp hq l lo hi _ hl l.length 0 [] (by omega) (by simp) ?_
  simp [v50_9]
theorem t55_a (hp : NoPm Pm) (hq : NoQ Q) (l : List Pr) (lo hi : By) (K : Ex → Vs → Prop) (hl : l.length < small) : ∀ (j i : Nat) (out : List Pr), i + j = l.length → out.length ≤ i →
    K .normal ⟨[(5, .own (.t 5) 2 ((out ++ (l.drop i).filter (fun x => has lo hi x.1)).map pairC))], [.row [.str lo, .str hi]], 0⟩ →
    gL vTab M Q Pm v55 0 v55_b8 1 ⟨[(11, .int .i64 (i : Int)), (5, .own (.t 5) 2 (out.map pairC)), (3, .ptr 0 0), (9, .sl 2 (l.map pairC)), (10, .int .i64 (l.length : Int))], [.row [.str lo, .str hi]], 0⟩ K := by
  intro j
  induction j with
  | zero =>
    intro i out hij ho hK
    have h1 : ¬ ((i : Int) < (l.length : Int)) := by omega
    have h2 : l.drop i = [] := List.drop_of_length_le (by omega)
    rw [h2] at hK
    rw [gL_round v55_b8.eq_1]
    simp [v55_3, h1] at hK ⊢
    exact hK
  | succ j ih =>
    intro i out hij ho hK
    have h1 : ((i : Int) < (l.length : Int)) := by omega
    have hi1 : i < l.length := by omega
    have e1 : (l.map pairC)[i]? = some (pairC l[i]) := by simp [hi1]
    have e3 : wrapA .i64 ((i : Int) + 1) = ((i + 1 : Nat) : Int) := wrap_succ (by unfold small at hl; omega)
    have d1 : l.drop i = l[i] :: l.drop (i + 1) := List.drop_eq_getElem_cons hi1
    rw [d1, List.filter_cons] at hK
    rw [gL_round v55_b8.eq_1]
    obtain ⟨f1, f2⟩ : (out.length + 1) * 40 ≤ big ∧ out.length + 1 ≤ big := by unfold small at hl; unfold big; omega
    cases hk : has lo hi l[i].1 with
    | false =>
      have ih' := ih (i + 1) out (by omega) (by omega)
      simp [hk] at hK ih'
      simp [v55_3, v55_4, v55_5, v55_6, v55_7, h1, iaV_sl e1, pairC, hk, e3, hq, t102 (hp 102 (by decide) (by decide))]
      exact ih' hK
    | true =>
      have ih' := ih (i + 1) (out ++ [l[i]]) (by omega) (by simp; omega)
      simp [hk, pairC] at hK ih'
      simp [v55_3, v55_4, v55_5, v55_6, v55_7, h1, iaV_sl e1, pairC, hk, e3, f1, f2, hq, t102 (hp 102 (by decide) (by decide))]
      exact ih' hK
theorem t55 (hp : NoPm Pm) (hq : NoQ Q) (l : List Pr) (lo hi : By) (hl : l.length < small) : gF vTab M Q Pm 55 [.sl 2 (l.map pairC), .agg [.str lo, .str hi]] [] 0 = some (.own .r 2 ((l.filter (fun x => has lo hi x.1)).map pairC), [], 0) := by
  refine gF_of (fn := v55) (hp 55 (by decide) (by decide)) rfl rfl ?_
  simp [v55_body, v55_0, v55_1, v55_2]
  refine t55_a hp hq l lo hi _ hl l.length 0 [] (by omega) (by simp) ?_
  simp [v55_9]
theorem putL_len (l : List Pr) (p : Pr) : (putL l p).length ≤ l.length + 1 := by
  have : ∀ l : List Pr, (l.filter (fun x => lt x.1 p.1)).length + (l.filter (fun x => lt p.1 x.1)).length ≤ l.length := by
    intro l
    induction l with
    | nil => simp
    | cons x l ih =>
      rw [List.filter_cons, List.filter_cons]
      cases h1 : lt x.1 p.1 with
      | true =>
        have h2 : lt p.1 x.1 = false := lt_asy h1
        simp only [h2, if_true, Bool.false_eq_true, if_false, List.length_cons]; omega
      | false =>
        cases h2 : lt p.1 x.1 with
        | true => simp only [if_true, Bool.false_eq_true, if_false, List.length_cons]; omega
        | false => simp only [Bool.false_eq_true, if_false, List.length_cons]; omega
  have h := this l
  simp only [putL, List.length_append, List.length_singleton]; omega
def pairsL (l : List Pr) : List Pr := l.foldl putL []
theorem t16_a (hp : NoPm Pm) (hq : NoQ Q) (l : List Pr) (K : Ex → Vs → Prop) (hl : l.length < small) : ∀ (j i : Nat) (out : List Pr), i + j = l.length → out.length ≤ i →
    K .normal ⟨[(3, .own (.t 3) 2 (((l.drop i).foldl putL out).map pairC))], [], 0⟩ →
    gL vTab M Q Pm v16 0 v16_b7 0 ⟨[(9, .int .i64 (i : Int)), (3, .own (.t 3) 2 (out.map pairC)), (7, .sl 2 (l.map pairC)), (8, .int .i64 (l.length : Int))], [], 0⟩ K := by
  intro j
  induction j with
  | zero =>
    intro i out hij ho hK
    have h1 : ¬ ((i : Int) < (l.length : Int)) := by omega
    have h2 : l.drop i = [] := List.drop_of_length_le (by omega)
    rw [h2] at hK
    rw [gL_round v16_b7.eq_1]
    simp [v16_3, h1] at hK ⊢
    exact hK
  | succ j ih =>
    intro i out hij ho hK
    have h1 : ((i : Int) < (l.length : Int)) := by omega
    have hi1 : i < l.length := by omega
    have e1 : (l.map pairC)[i]? = some (pairC l[i]) := by simp [hi1]
    have e3 : wrapA .i64 ((i : Int) + 1) = ((i + 1 : Nat) : Int) := wrap_succ (by unfold small at hl; omega)
    have d1 : l.drop i = l[i] :: l.drop (i + 1) := List.drop_eq_getElem_cons hi1
    rw [d1, List.foldl_cons] at hK
    rw [gL_round v16_b7.eq_1]
    have ih' := ih (i + 1) (putL out l[i]) (by omega) (by have := putL_len out l[i]; omega) hK
    have hc := t47 (M := M) (Q := Q) hp out l[i] (by omega)
    simp only [pairC] at hc
    simp at ih'
    cases hfl : U.flatss ((putL out l[i]).map pairC) <;>
      (simp [v16_3, v16_4, v16_5, v16_6, h1, iaV_sl e1, show pairC l[i] = [.str l[i].1, .sl 1 (bytesU l[i].2)] from rfl, e3, hq, hc, hfl]
       exact ih')
theorem t16 (hp : NoPm Pm) (hq : NoQ Q) (l : List Pr) (hl : l.length < small) : gF vTab M Q Pm 16 [.sl 2 (l.map pairC)] [] 0 = some (.own .r 2 ((pairsL l).map pairC), [], 0) := by
  refine gF_of (fn := v16) (hp 16 (by decide) (by decide)) rfl rfl ?_
  simp [v16_body, v16_0, v16_1, v16_2]
  refine t16_a hp hq l _ hl l.length 0 [] (by omega) (by simp) ?_
  simp [v16_8, pairsL]
def cutL (l : List Pr) (k : By) : List Pr := l.filter fun x => !has k (k ++ [0]) x.1
end Go.RE
namespace Go.RE
theorem at_old {h l : List Uo} {i : Nat} {o : Uo} (hi : h[i]? = some o) : (h ++ l)[i]? = some o := by
  rw [List.getElem?_append_left (List.getElem?_eq_some_iff.1 hi).1]; exact hi
@[simp] theorem at0 (h l : List Uo) (a : Uo) : (h ++ a :: l)[h.length]? = some a := by simp
theorem cut0 {fl : Nat} {h : List Uo} (hf : fl ≤ h.length) (l : List Uo) : cut h.length fl (h ++ l) = h := cut_app hf
theorem cut1 {fl : Nat} {h : List Uo} (hf : fl ≤ h.length) (a : Uo) (l : List Uo) : cut (h.length + 1) fl (h ++ a :: l) = h ++ [a] := by
  unfold cut
  rw [Nat.max_eq_left (by omega), List.take_append, List.take_of_length_le (by omega), show h.length + 1 - h.length = 1 by omega]; rfl
theorem cut2 {fl : Nat} {h : List Uo} (hf : fl ≤ h.length) (a b : Uo) (l : List Uo) : cut (h.length + 2) fl (h ++ a :: b :: l) = h ++ [a, b] := by
  unfold cut
  rw [Nat.max_eq_left (by omega), List.take_append, List.take_of_length_le (by omega), show h.length + 2 - h.length = 2 by omega]; rfl
@[simp] theorem landR_cons (d : Nat) (r : U) (a : Uo) (as : List Uo) (fc : Nat) (e : Env) (h : List Uo) (fl : Nat) : landR d r (a :: as) fc ⟨e, h, fl⟩ = bindR d (r.shift h.length) ⟨e, h ++ (a :: as).map (shiftO h.length), bif Nat.beq fc 0 then fl else h.length + fc⟩ := rfl
section
variable (k : Nat)
@[simp] theorem shift_ptr (i o : Nat) : U.shift k (.ptr i o) = .ptr (i + k) o := by simp only [U.shift]
@[simp] theorem shift_map (i : Nat) : U.shift k (.map i) = .map (i + k) := by simp only [U.shift]
@[simp] theorem shift_str (b : List UInt8) : U.shift k (.str b) = .str b := by simp only [U.shift]
@[simp] theorem shift_nl (w : Nat) : U.shift k (.nl w) = .nl w := by simp only [U.shift]
@[simp] theorem shift_iface (t : Nat) (v : U) : U.shift k (.iface t v) = .iface t (v.shift k) := by simp only [U.shift]
@[simp] theorem shift_agg (a : List U) : U.shift k (.agg a) = .agg (U.shifts k a) := by simp only [U.shift]
@[simp] theorem shifts_nil : U.shifts k [] = [] := by simp only [U.shifts]
@[simp] theorem shifts_cons (a : U) (r : List U) : U.shifts k (a :: r) = a.shift k :: U.shifts k r := by simp only [U.shifts]
@[simp] theorem shiftO_row (cs : List U) : shiftO k (.row cs) = .row (U.shifts k cs) := rfl
theorem shiftO_map (es : List (U × U × Nat)) (c : Nat) : shiftO k (.map es c) = .map (es.map fun e => (e.1.shift k, e.2.1.shift k, e.2.2)) c := rfl
end
end Go.RE
namespace Go.RE
variable {M : Nat → String → Option Nat} {Q : Mut} {Pm : Nat → Option (List U → List Uo → Nat → Option (U × List Uo × Nat))}
abbrev Spn := By × By
def spC (s : Spn) : List U := [.str s.1, .str s.2]
def holdsB (a b : Spn) : Bool := !lt b.1 a.1 && (a.2 == [] || (b.2 != [] && !lt a.2 b.2))
theorem t54 (h : Pm 54 = none) (a b : Spn) : gF vTab M Q Pm 54 [.agg (spC a), .agg (spC b)] [] 0 = some (.bool (holdsB a b), [], 0) := by
  refine gF_of (fn := v54) h rfl rfl ?_
  cases h1 : lt b.1 a.1 <;> cases h2 : a.2 == [] <;> cases h3 : b.2 == [] <;> simp [v54_body, v54_0, v54_1, spC, holdsB, h1, h2, h3, bne]
theorem t52 (h : Pm 52 = none) (lo hi : By) : gF vTab M Q Pm 52 [.str lo, .str hi] [] 0 = some (.agg [.bool true, .sl 1 [], .int .i64 20, .bool true, .str lo, .str hi], [], 0) := by
  refine gF_of (fn := v52) h rfl rfl ?_
  simp [v52_body, v52_0, v52_1]
def inB (l : List Spn) (k : By) : Bool := l.any fun s => has s.1 s.2 k
theorem t51_a (hp : NoPm Pm) (hq : NoQ Q) (l : List Spn) (k : By) (hl : l.length < small) : ∀ (j i : Nat), i + j = l.length →
    gL vTab M Q Pm v51 0 v51_b7 0 ⟨[(9, .int .i64 (i : Int)), (1, .str k), (7, .sl 2 (l.map spC)), (8, .int .i64 (l.length : Int))], [], 0⟩ (seqK vTab M Q Pm v51 (.seq (.region v51_8) .ret) (kE 0 v51 (.bool (inB (l.drop i) k), [], 0))) := by
  intro j
  induction j with
  | zero =>
    intro i hij
    have h1 : ¬ ((i : Int) < (l.length : Int)) := by omega
    have h2 : l.drop i = [] := List.drop_of_length_le (by omega)
    rw [gL_round v51_b7.eq_1, h2]
    simp [v51_2, h1, v51_8, inB]
  | succ j ih =>
    intro i hij
    have h1 : ((i : Int) < (l.length : Int)) := by omega
    have hi1 : i < l.length := by omega
    have e1 : (l.map spC)[i]? = some (spC l[i]) := by simp [hi1]
    have e3 : wrapA .i64 ((i : Int) + 1) = ((i + 1 : Nat) : Int) := wrap_succ (by unfold small at hl; omega)
    have d1 : l.drop i = l[i] :: l.drop (i + 1) := List.drop_eq_getElem_cons hi1
    have ih' := ih (i + 1) (by omega)
    have hI : inB (l.drop i) k = (has l[i].1 l[i].2 k || inB (l.drop (i + 1)) k) := by rw [d1]; rfl
    rw [gL_round v51_b7.eq_1, hI]
    cases hk : has l[i].1 l[i].2 k with
    | true => simp [v51_2, v51_3, v51_4, v51_5, h1, iaV_sl e1, spC, hk, hq, t102 (hp 102 (by decide) (by decide))]
    | false =>
      simp at ih'
      simp [v51_2, v51_3, v51_4, v51_5, v51_6, h1, iaV_sl e1, spC, hk, hq, t102 (hp 102 (by decide) (by decide)), e3]
      exact ih'
theorem t51 (hp : NoPm Pm) (hq : NoQ Q) (l : List Spn) (k : By) (hl : l.length < small) : gF vTab M Q Pm 51 [.sl 2 (l.map spC), .str k] [] 0 = some (.bool (inB l k), [], 0) := by
  refine gF_of (fn := v51) (hp 51 (by decide) (by decide)) rfl rfl ?_
  simp [v51_body, v51_0, v51_1]
  have := t51_a (M := M) hp hq l k hl l.length 0 (by omega)
  simpa using this
def fewL (l : List Pr) : Bool := l.all (fun p => decide (p.1.length ≤ 300) && decide (p.2.length ≤ 300)) && decide (l.length ≤ 100)
theorem bytes_len (b : By) : (bytesU b).length = b.length := by simp [bytesU]
theorem t12_a (l : List Pr) (hl : l.length ≤ 9223372036854775807) : ∀ (j i : Nat), i + j = l.length →
    gL vTab M Q Pm v12 0 v12_b7 0 ⟨[(7, .int .i64 (i : Int)), (5, .sl 2 (l.map pairC)), (0, .sl 2 (l.map pairC)), (6, .int .i64 (l.length : Int))], [], 0⟩ (seqK vTab M Q Pm v12 (.seq (.region v12_8) .ret) (kE 0 v12 (.bool ((l.drop i).all (fun p => decide (p.1.length ≤ 300) && decide (p.2.length ≤ 300)) && decide (l.length ≤ 100)), [], 0))) := by
  intro j
  induction j with
  | zero =>
    intro i hij
    have h1 : ¬ ((i : Int) < (l.length : Int)) := by omega
    have h2 : l.drop i = [] := List.drop_of_length_le (by omega)
    rw [gL_round v12_b7.eq_1, h2]
    simp [v12_2, h1, v12_8]
    omega
  | succ j ih =>
    intro i hij
    have h1 : ((i : Int) < (l.length : Int)) := by omega
    have hi1 : i < l.length := by omega
    have e1 : (l.map pairC)[i]? = some (pairC l[i]) := by simp [hi1]
    have e3 : wrapA .i64 ((i : Int) + 1) = ((i + 1 : Nat) : Int) := wrap_succ (by omega)
    have d1 : l.drop i = l[i] :: l.drop (i + 1) := List.drop_eq_getElem_cons hi1
    have ih' := ih (i + 1) (by omega)
    rw [gL_round v12_b7.eq_1, d1, List.all_cons]
    by_cases hk : l[i].1.length ≤ 300
    · have hk' : ¬ (300 : Int) < (l[i].1.length : Int) := by omega
      by_cases hk2 : l[i].2.length ≤ 300
      · have hk2' : ¬ (300 : Int) < (l[i].2.length : Int) := by omega
        simp at ih'
        simp [v12_2, v12_3, v12_4, v12_5, v12_6, h1, iaV_sl e1, pairC, hk, hk', hk2, hk2', e3, bytes_len]
        exact ih'
      · have hk2' : (300 : Int) < (l[i].2.length : Int) := by omega
        simp [v12_2, v12_3, v12_4, v12_5, h1, iaV_sl e1, pairC, hk, hk', hk2, hk2', bytes_len]
    · have hk' : (300 : Int) < (l[i].1.length : Int) := by omega
      simp [v12_2, v12_3, v12_4, v12_5, h1, iaV_sl e1, pairC, hk, hk']
theorem t12 (h : Pm 12 = none) (l : List Pr) (hl : l.length ≤ 9223372036854775807) : gF vTab M Q Pm 12 [.sl 2 (l.map pairC)] [] 0 = some (.bool (fewL l), [], 0) := by
  refine gF_of (fn := v12) h rfl rfl ?_
  simp [v12_body, v12_0, v12_1]
  have := t12_a (M := M) (Q := Q) (Pm := Pm) l hl l.length 0 (by omega)
  simpa [fewL] using this
def errZ : List U := [.bool false, .sl 1 [], .int .i64 0, .bool false, .str [], .str []]
def getL (P : List Pr) (k : By) : Option By := (P.find? (fun p => p.1 == k)).map (·.2)
def getR (o : Option By) : U := .tup [.sl 1 (bytesU (o.getD [])), .bool o.isSome, .agg errZ]
theorem t20_a (P : List Pr) (k : By) (h : List Uo) (fl : Nat) (hf : fl ≤ h.length) (hl : P.length < small) (n : Nat) (hn : n = h.length + 1) : ∀ (j i : Nat), i + j = P.length →
    gL vTab M Q Pm v20 0 v20_b9 n ⟨[(6, .ptr h.length 0), (40, .int .i64 (i : Int)), (1, .str k), (38, .sl 2 (P.map pairC)), (39, .int .i64 (P.length : Int))], h ++ [.row errZ], fl⟩ (seqK vTab M Q Pm v20 (.seq (.region v20_10) .ret) (kE h.length v20 (getR (getL (P.drop i) k), h, fl))) := by
  subst hn
  intro j
  induction j with
  | zero =>
    intro i hij
    have h1 : ¬ ((i : Int) < (P.length : Int)) := by omega
    have h2 : P.drop i = [] := List.drop_of_length_le (by omega)
    rw [gL_round v20_b9.eq_1, h2]
    simp [v20_4, h1, v20_10, errZ, getR, getL, cut1 hf, cut0 hf, bytesU]
  | succ j ih =>
    intro i hij
    have h1 : ((i : Int) < (P.length : Int)) := by omega
    have hi1 : i < P.length := by omega
    have e1 : (P.map pairC)[i]? = some (pairC P[i]) := by simp [hi1]
    have e3 : wrapA .i64 ((i : Int) + 1) = ((i + 1 : Nat) : Int) := wrap_succ (by unfold small at hl; omega)
    have d1 : P.drop i = P[i] :: P.drop (i + 1) := List.drop_eq_getElem_cons hi1
    have ih' := ih (i + 1) (by omega)
    have hI : getL (P.drop i) k = if (P[i].1 == k) = true then some P[i].2 else getL (P.drop (i + 1)) k := by
      rw [d1]; unfold getL; rw [List.find?_cons]; cases P[i].1 == k <;> rfl
    rw [gL_round v20_b9.eq_1, hI]
    cases hk : P[i].1 == k with
    | true => simp [v20_4, v20_5, v20_6, v20_7, h1, iaV_sl e1, pairC, hk, errZ, getR, cut1 hf, cut0 hf]
    | false =>
      simp at ih'
      simp [v20_4, v20_5, v20_6, v20_7, v20_8, h1, iaV_sl e1, pairC, hk, e3, errZ, cut1 hf]
      exact ih'
def kcell (l : List Spn) : U := match l with
  | [] => .nl 2
  | a :: r => .cown 2 ((a :: r).map spC)
def scanR (l : List Pr) : U := .tup [.sl 2 (l.map pairC), .agg errZ]
end Go.RE
namespace Go.RE
variable {M : Nat → String → Option Nat} {Q : Mut} {Pm : Nat → Option (List U → List Uo → Nat → Option (U × List Uo × Nat))}
structure Ent1 where
  k : By
  d : By
  b : Nat
deriving DecidableEq, Inhabited
def entU (e : Ent1) : U × U × Nat := (.str e.k, .sl 1 (bytesU e.d), e.b)
structure TabOk (es : List Ent1) (c : Nat) : Prop where
  nodup : (es.map (·.b)).Nodup
  lt : ∀ e ∈ es, e.b < c
  dat : ∀ e ∈ es, e.d.length < small
theorem find_ent {es : List Ent1} (hn : (es.map (·.b)).Nodup) {e : Ent1} (he : e ∈ es) : (es.map entU).find? (fun x => Nat.beq x.2.2 e.b) = some (entU e) := by
  induction es with
  | nil => cases he
  | cons a r ih =>
    rw [List.map_cons, List.find?_cons]
    simp only [List.map_cons, List.nodup_cons] at hn
    rcases List.mem_cons.1 he with rfl | he
    · simp [entU]
    · have hne : a.b ≠ e.b := fun hh => hn.1 (by rw [hh]; exact List.mem_map.2 ⟨e, he, rfl⟩)
      have : Nat.beq (entU a).2.2 e.b = false := by simp [entU, hne]
      rw [this]
      exact ih hn.2 he
theorem cands_mem {es : List Ent1} {c : Nat} (h : TabOk es c) {seen : List Nat} {x : Option (U × U × Nat)} (hx : x ∈ candsU (es.map entU) c seen) :
    (x = none ∧ ∀ e ∈ es, e.b ∈ seen) ∨ ∃ e ∈ es, e.b ∉ seen ∧ x = some (entU e) := by
  unfold candsU at hx
  simp only [List.mem_append] at hx
  rcases hx with hx | hx
  · left
    cases hq : (List.filter (fun e => Nat.blt e.2.2 c) (List.filter (fun e : U × U × Nat => !seen.contains e.2.2) (es.map entU))).isEmpty with
    | false => rw [hq] at hx; simp at hx
    | true =>
      rw [hq] at hx
      simp at hx
      refine ⟨hx, fun e he => ?_⟩
      rw [List.isEmpty_iff] at hq
      apply Classical.byContradiction
      intro hne
      have : entU e ∈ List.filter (fun e => Nat.blt e.2.2 c) (List.filter (fun e : U × U × Nat => !seen.contains e.2.2) (es.map entU)) := by
        rw [List.mem_filter, List.mem_filter]
        exact ⟨⟨List.mem_map.2 ⟨e, he, rfl⟩, by simp [entU, hne]⟩, by simp [entU, h.lt e he]⟩
      rw [hq] at this; cases this
  · right
    rw [List.mem_map] at hx
    obtain ⟨y, hy, rfl⟩ := hx
    rw [List.mem_append, List.mem_filter, List.mem_filter] at hy
    have hm : y ∈ List.filter (fun e : U × U × Nat => !seen.contains e.2.2) (es.map entU) := by
      rcases hy with hy | hy
      · exact List.mem_filter.2 hy.1
      · exact (List.mem_filter.1 hy).1
    rw [List.mem_filter, List.mem_map] at hm
    obtain ⟨⟨e, he, rfl⟩, hs⟩ := hm
    exact ⟨e, he, by simpa [entU] using hs, rfl⟩
def keyC (k : By) : List U := [.str k]
theorem t101_a (es : List Ent1) (c m : Nat) (hT : TabOk es c) (hl : es.length < small) (h : List Uo) (fl : Nat) (hf : fl ≤ h.length) (hm : h[m]? = some (.map (es.map entU) c)) (K : Ex → Vs → Prop) (n : Nat) (hn : n = h.length + 1)
    (hK : ∀ vis : List Ent1, vis.Perm es → K .normal ⟨[(3, .own (.t 3) 1 (vis.map fun e => keyC e.k))], h ++ [.iter (some m) c (vis.map (·.b)) c], fl⟩) :
    ∀ (j : Nat) (vis left : List Ent1), left.length ≤ j → (vis ++ left).Perm es →
    gL vTab M Q Pm v101 0 v101_b7 n ⟨[(3, .own (.t 3) 1 (vis.map fun e => keyC e.k)), (11, .ptr h.length 0)], h ++ [.iter (some m) c (vis.map (·.b)) c], fl⟩ K := by
  subst hn
  intro j
  induction j with
  | zero =>
    intro vis left hj hp
    obtain rfl : left = [] := List.eq_nil_of_length_eq_zero (by omega)
    rw [List.append_nil] at hp
    rw [gL_round v101_b7.eq_1]
    simp [v101_4, nextU, at_old hm]
    refine ⟨fun _ hne => ?_, fun x hx => ?_⟩
    · obtain ⟨e, he⟩ := List.exists_mem_of_ne_nil _ hne
      exact ⟨e, he, hT.lt e he⟩
    · rcases cands_mem hT hx with ⟨rfl, _⟩ | ⟨e, he, hb, rfl⟩
      · have := hK vis hp
        simp [nextK, cut1 hf]
        simpa using this
      · exact absurd (List.mem_map.2 ⟨e, hp.symm.subset he, rfl⟩) hb
  | succ j ih =>
    intro vis left hj hp
    rw [gL_round v101_b7.eq_1]
    simp [v101_4, nextU, at_old hm]
    have hnd : ((vis ++ left).map (·.b)).Nodup := (hp.map (·.b)).nodup_iff.2 hT.nodup
    refine ⟨fun _ hne => ?_, fun x hx => ?_⟩
    · obtain ⟨e, he⟩ := List.exists_mem_of_ne_nil _ hne
      exact ⟨e, he, hT.lt e he⟩
    · rcases cands_mem hT hx with ⟨rfl, hall⟩ | ⟨e, he, hb, rfl⟩
      · have hl0 : left = [] := by
          cases left with
          | nil => rfl
          | cons a r =>
            exfalso
            have ha : a ∈ es := hp.subset (by simp)
            have := hall a ha
            rw [List.map_append, List.nodup_append] at hnd
            exact hnd.2.2 a.b this a.b (by simp) rfl
        subst hl0
        rw [List.append_nil] at hp
        have := hK vis hp
        simp [nextK, cut1 hf]
        simpa using this
      · have hel : e ∈ left := by
          have := hp.symm.subset he
          rcases List.mem_append.1 this with hv | hv
          · exact absurd (List.mem_map.2 ⟨e, hv, rfl⟩) hb
          · exact hv
        have hper : ((vis ++ [e]) ++ left.erase e).Perm es := by
          refine List.Perm.trans ?_ hp
          rw [List.append_assoc]
          exact (List.perm_cons_erase hel).symm.append_left vis
        have hlen : (left.erase e).length ≤ j := by
          have := List.length_erase_of_mem hel
          omega
        have ih' := ih (vis ++ [e]) (left.erase e) hlen hper
        have hvl : vis.length < small := by
          have := hp.length_eq
          simp at this; omega
        obtain ⟨f1, f2⟩ : (vis.length + 1) * 16 ≤ big ∧ vis.length + 1 ≤ big := by unfold small at hvl; unfold big; omega
        have hfe := find_ent hT.nodup he
        simp [keyC] at ih'
        have hent : ∀ ev : Env, entryU ⟨ev, h ++ [.iter (some m) c (vis.map (·.b) ++ [e.b]) c], fl⟩ h.length = some (.tup [.str e.k, .sl 1 (bytesU e.d)]) := fun ev => by
          simp only [entryU, at0, at_old hm, List.getLast?_concat, Nat.beq_refl, cond_true, hfe, entU]
        simp [nextK, entU, v101_5, v101_6, hent, keyC, cut1 hf, f1, f2]
        exact ih'
def insB (a : By) : List By → List By
  | [] => [a]
  | x :: l => if lt x a = true then x :: insB a l else a :: x :: l
def sortB (l : List By) : List By := l.foldr insB []
theorem lt_ge {a b : By} (h1 : lt a b = false) (h2 : lt b a = false) : a = b := by
  rcases lt_tri a b with h | h | h
  · rw [show lt a b = true from h] at h1; cases h1
  · exact h
  · rw [show lt b a = true from h] at h2; cases h2
theorem ge_lt {x a b : By} (h1 : lt x b = false) (h2 : lt x a = true) : lt b a = true := by
  rcases lt_tri b x with h | h | h
  · exact lt_tr h h2
  · subst h; exact h2
  · rw [show lt x b = true from h] at h1; cases h1
theorem ins_comm (a b : By) : ∀ l, insB a (insB b l) = insB b (insB a l) := by
  have two : ∀ l, (if lt b a = true then b :: a :: l else a :: b :: l) = (if lt a b = true then a :: b :: l else b :: a :: l) := by
    intro l
    cases h1 : lt b a with
    | true => have h2 : lt a b = false := lt_asy h1; simp [h2]
    | false =>
      cases h2 : lt a b with
      | true => simp
      | false => have := lt_ge h1 h2; subst this; simp
  intro l
  induction l with
  | nil => simpa [insB] using two []
  | cons x l ih =>
    simp only [insB]
    cases hb : lt x b with
    | true =>
      cases ha : lt x a with
      | true => simp [insB, ha, hb, ih]
      | false =>
        have h1 : lt a b = true := ge_lt ha hb
        simp [insB, ha, hb, h1]
    | false =>
      cases ha : lt x a with
      | true =>
        have h1 : lt b a = true := ge_lt hb ha
        simp [insB, ha, hb, h1]
      | false =>
        have := two (x :: l)
        simpa [insB, ha, hb] using this
theorem sortB_perm {l l' : List By} (h : l.Perm l') : sortB l = sortB l' := by
  unfold sortB
  induction h with
  | nil => rfl
  | cons x _ ih => simp only [List.foldr_cons, ih]
  | swap x y l => simp only [List.foldr_cons]; exact ins_comm y x _
  | trans _ _ ih1 ih2 => exact ih1.trans ih2
def unkey : List (List U) → Option (List By)
  | [] => some []
  | [.str k] :: r => match unkey r with
    | some l => some (k :: l)
    | none => none
  | _ => none
theorem unkey_map : ∀ l : List By, unkey (l.map keyC) = some l := by
  intro l
  induction l with
  | nil => rfl
  | cons k l ih => simp only [List.map_cons, keyC, unkey] at ih ⊢; rw [ih]
def sortQ : List (List U) → List U → Option (List (List U)) := fun xs rest => match rest with
  | [] => bif Nat.blt xs.length 4611686018427387904 then (match unkey xs with | some l => some ((sortB l).map keyC) | none => none) else none
  | _ => none
theorem sortQ_map (l : List By) (hl : l.length < small) : sortQ (l.map keyC) [] = some ((sortB l).map keyC) := by
  have : Nat.blt (l.map keyC).length 4611686018427387904 = true := by
    simp only [Nat.blt, List.length_map]; exact Nat.ble_eq_true_of_le (by unfold small at hl; omega)
  simp only [sortQ, this, cond_true, unkey_map]
theorem callQ_some {F : FU} (s : Vs) (d f : Nat) (g : Tg) (w : Nat) (xs ys : List (List U)) (rest : List U) {q : List (List U) → List U → Option (List (List U))} (hy : q xs rest = some ys) :
    callQ F s d f (.own g w xs :: rest) (some q) = bif (s.ownC g).isSome then some (.tup [], s.upd g w ys) else none := by simp only [callQ, hy]
theorem t101 (hp : NoPm Pm) (hs : Q 90 = some sortQ) (es : List Ent1) (c m i : Nat) (hT : TabOk es c) (hl : es.length < small) (h : List Uo) (fl : Nat) (hf : fl ≤ h.length) (hi : h[i]? = some (.row [.map m])) (hm : h[m]? = some (.map (es.map entU) c)) :
    gF vTab M Q Pm 101 [.ptr i 0] h fl = some (.own .r 1 ((sortB (es.map (·.k))).map keyC), h, fl) := by
  refine gF_of (fn := v101) (hp 101 (by decide) (by decide)) rfl rfl ?_
  simp [v101_body, v101_0, v101_1, v101_2, v101_3, hi, hm, cut1 hf]
  have a := t101_a (M := M) (Q := Q) (Pm := Pm) es c m hT hl h fl hf hm (seqK vTab M Q Pm v101 (.seq (.region v101_8) (.seq (.region v101_9) .ret)) (kE h.length v101 (.own .r 1 ((sortB (es.map (·.k))).map keyC), h, fl))) (h.length + 1) rfl (fun vis hv => ?_) es.length [] es (Nat.le_refl _) (by simp)
  · simpa using a
  · have hq := callQ_some (F := gF vTab M Q Pm) ⟨[(20, .own (.t 3) 1 ((vis.map (·.k)).map keyC)), (3, .own (.t 3) 1 ((vis.map (·.k)).map keyC))], h ++ [.iter (some m) c (vis.map (·.b)) c], fl⟩ 21 90 (.t 3) 1 ((vis.map (·.k)).map keyC) _ [] (sortQ_map (vis.map (·.k)) (by have := hv.length_eq; simp; omega))
    rw [sortB_perm (hv.map (·.k))] at hq
    simp [Function.comp_def] at hq
    simp [v101_8, v101_9, hs, hq, Function.comp_def, cut0 hf]
end Go.RE
namespace Go.RE
variable {M : Nat → String → Option Nat} {Q : Mut} {Pm : Nat → Option (List U → List Uo → Nat → Option (U × List Uo × Nat))}
def cloneP : List U → List Uo → Nat → Option (U × List Uo × Nat) := fun us h fl => match us with
  | [.sl w xs] => bif Nat.beq w 1 && Nat.ble xs.length big && xs.all (fun r => r.all U.cellok && U.lows 0 r && Nat.beq r.length 1) then some (.own .r w xs, h, fl) else none
  | _ => none
theorem bytes_ok (d : By) : (bytesU d).all (fun r => r.all U.cellok && U.lows 0 r && Nat.beq r.length 1) = true := by
  rw [List.all_eq_true]
  intro r hr
  obtain ⟨b, _, rfl⟩ := List.mem_map.1 hr
  rfl
theorem t49 (hc : Pm 49 = some cloneP) (d : By) (hd : d.length < small) : gF vTab M Q Pm 49 [.sl 1 (bytesU d)] [] 0 = some (.own .r 1 (bytesU d), [], 0) := by
  rw [gF_prim hc]
  have h1 : Nat.ble (bytesU d).length big = true := Nat.ble_eq_true_of_le (by simp only [bytesU, List.length_map]; unfold small at hd; unfold big; omega)
  show (bif Nat.beq 1 1 && Nat.ble (bytesU d).length big && (bytesU d).all (fun r => r.all U.cellok && U.lows 0 r && Nat.beq r.length 1) then _ else _) = _
  rw [bytes_ok, h1]; rfl
theorem flat_bytes (b : By) : U.flatss (bytesU b) = true := by
  induction b with
  | nil => rfl
  | cons x b ih => show (U.flats (byteU x) && U.flatss (bytesU b)) = true; rw [ih]; rfl
def entOf (k : By) (es : List Ent1) : Option Ent1 := es.find? (fun e => e.k == k)
theorem findU_ent (k : By) : ∀ (es : List Ent1) (j : Nat), ∃ r, findU .str (.str k) (es.map entU) j = some r ∧ (r = none ↔ entOf k es = none) ∧ ∀ i v, r = some (i, v) → ∃ e, entOf k es = some e ∧ v = .sl 1 (bytesU e.d) ∧ j ≤ i ∧ es[i - j]? = some e := by
  intro es
  induction es with
  | nil => intro j; exact ⟨none, rfl, by simp [entOf], fun i v h => by cases h⟩
  | cons e es ih =>
    intro j
    have hf : findU .str (.str k) ((e :: es).map entU) j = (match some (k == e.k) with
      | some true => some (some (j, .sl 1 (bytesU e.d)))
      | some false => findU .str (.str k) (es.map entU) (j + 1)
      | none => none) := rfl
    rw [hf]
    have hbe : (k == e.k) = (e.k == k) := by
      cases h1 : e.k == k with
      | true => rw [eq_of_beq h1]; exact beq_self_eq_true k
      | false =>
        cases h2 : k == e.k with
        | false => rfl
        | true => rw [eq_of_beq h2, beq_self_eq_true] at h1; cases h1
    cases hk : e.k == k with
    | true =>
      rw [hbe, hk]
      refine ⟨_, rfl, by simp [entOf, List.find?_cons, hk], fun i v h => ?_⟩
      simp only [Option.some.injEq, Prod.mk.injEq] at h
      obtain ⟨rfl, rfl⟩ := h
      exact ⟨e, by simp [entOf, List.find?_cons, hk], rfl, Nat.le_refl _, by simp⟩
    | false =>
      rw [hbe, hk]
      obtain ⟨r, r1, r2, r3⟩ := ih (j + 1)
      have hfe : entOf k (e :: es) = entOf k es := by simp [entOf, List.find?_cons, hk]
      refine ⟨r, r1, by rw [hfe]; exact r2, fun i v h => ?_⟩
      obtain ⟨e', k1, k2, k3, k4⟩ := r3 i v h
      refine ⟨e', by rw [hfe]; exact k1, k2, by omega, ?_⟩
      rw [show i - j = (i - (j + 1)) + 1 by omega]; simpa using k4
def dataE (k : By) (es : List Ent1) : By := ((entOf k es).map (·.d)).getD []
theorem lookup_ent (k : By) (es : List Ent1) (c m : Nat) (s : Vs) (hm : s.h[m]? = some (.map (es.map entU) c)) :
    lookupU s .str (.sl 1 []) true (.map m) (.str k) = some (.tup [.sl 1 (bytesU (dataE k es)), .bool (entOf k es).isSome]) ∧ lookupU s .str (.sl 1 []) false (.map m) (.str k) = some (.sl 1 (bytesU (dataE k es))) := by
  obtain ⟨r, r1, r2, r3⟩ := findU_ent k es 0
  have hk : plainKeyU .str (.str k) = true := rfl
  simp only [lookupU, hm, hk, cond_true, r1]
  cases r with
  | none =>
    have := r2.1 rfl
    simp [dataE, this, bytesU]
  | some p =>
    obtain ⟨i, v⟩ := p
    obtain ⟨e, e1, rfl, _⟩ := r3 i v rfl
    simp [dataE, e1]
theorem dataE_len {es : List Ent1} {c : Nat} (hT : TabOk es c) (k : By) : (dataE k es).length < small := by
  unfold dataE
  cases he : entOf k es with
  | none => simp [small]
  | some e => exact hT.dat e (List.mem_of_find?_eq_some he)
theorem t19 (hp : NoPm Pm) (hq : NoQ Q) (hc : Pm 49 = some cloneP) (es : List Ent1) (c m i : Nat) (hT : TabOk es c) (k : By) (h : List Uo) (fl : Nat) (hf : fl ≤ h.length) (hi : h[i]? = some (.row [.map m])) (hm : h[m]? = some (.map (es.map entU) c)) :
    gF vTab M Q Pm 19 [.ptr i 0, .str k] h fl = some (.tup [.sl 1 (bytesU (dataE k es)), .bool (entOf k es).isSome, .nili], h, fl) := by
  refine gF_of (fn := v19) (hp 19 (by decide) (by decide)) rfl rfl ?_
  have hl := fun s hs => (lookup_ent k es c m s hs).1
  have hz : V.toP (.cslice [] 0 0 1) = some (.sl 1 []) := rfl
  simp [v19_body, v19_0, v19_1, v19_3, v19_4, hi, hm, hl, hz, hq, t49 hc _ (dataE_len hT k), flat_bytes, cut_self hf]
theorem iaV_own {s : Vs} {g : Tg} {w : Nat} {xs : List (List U)} {k : IntKind} {n : Nat} (hn : n < xs.length) : iaV s w (some (.own g w xs)) (some (.int k n)) = some (.optr g n 0, s) := by
  simp only [iaV, Int.toNat_natCast, Nat.beq_refl, cond_true]
  rw [if_pos ⟨Int.natCast_nonneg n, by omega⟩]
def inT (es : List Ent1) (lo hi : By) (ks : List By) : List Pr := (ks.filter (has lo hi)).map fun k => (k, dataE k es)
theorem t46_a (hp : NoPm Pm) (hq : NoQ Q) (hc : Pm 49 = some cloneP) (es : List Ent1) (c m i : Nat) (lo hi : By) (hT : TabOk es c) (h : List Uo) (fl : Nat) (hf : fl ≤ h.length) (hi0 : h[i]? = some (.row [.map m])) (hm : h[m]? = some (.map (es.map entU) c)) (ks : List By) (hl : ks.length < small) (n : Nat) (hn : n = h.length + 1) (K : Ex → Vs → Prop) :
    ∀ (j q : Nat) (out : List Pr), q + j = ks.length → out.length ≤ q →
    K .normal ⟨[(5, .own (.t 5) 2 ((out ++ inT es lo hi (ks.drop q)).map pairC))], h ++ [.row [.str lo, .str hi]], fl⟩ →
    gL vTab M Q Pm v46 0 v46_b8 n ⟨[(11, .int .i64 (q : Int)), (0, .ptr i 0), (5, .own (.t 5) 2 (out.map pairC)), (3, .ptr h.length 0), (9, .own (.t 9) 1 (ks.map keyC)), (10, .int .i64 (ks.length : Int))], h ++ [.row [.str lo, .str hi]], fl⟩ K := by
  subst hn
  have hlt : i < h.length := (List.getElem?_eq_some_iff.1 hi0).1
  have hd : decide (i < h.length + 1) = true := decide_eq_true (by omega)
  have hz : V.toP (.cslice [] 0 0 1) = some (.sl 1 []) := rfl
  intro j
  induction j with
  | zero =>
    intro q out hij ho hK
    have h1 : ¬ ((q : Int) < (ks.length : Int)) := by omega
    have h2 : ks.drop q = [] := List.drop_of_length_le (by omega)
    rw [h2] at hK
    rw [gL_round v46_b8.eq_1]
    simp [v46_3, h1, inT, cut1 hf] at hK ⊢
    exact hK
  | succ j ih =>
    intro q out hij ho hK
    have h1 : ((q : Int) < (ks.length : Int)) := by omega
    have hi1 : q < ks.length := by omega
    have e1 : (ks.map keyC)[q]? = some (keyC ks[q]) := by simp [hi1]
    have e2 : q < (ks.map keyC).length := by simpa using hi1
    have e3 : wrapA .i64 ((q : Int) + 1) = ((q + 1 : Nat) : Int) := wrap_succ (by unfold small at hl; omega)
    have d1 : ks.drop q = ks[q] :: ks.drop (q + 1) := List.drop_eq_getElem_cons hi1
    have hI : inT es lo hi (ks.drop q) = (if has lo hi ks[q] = true then [(ks[q], dataE ks[q] es)] else []) ++ inT es lo hi (ks.drop (q + 1)) := by
      rw [d1]; unfold inT; rw [List.filter_cons]; cases has lo hi ks[q] <;> simp
    rw [hI] at hK
    rw [gL_round v46_b8.eq_1]
    obtain ⟨f1, f2⟩ : (out.length + 1) * 40 ≤ big ∧ out.length + 1 ≤ big := by unfold small at hl; unfold big; omega
    have hlk := fun s hs => (lookup_ent ks[q] es c m s hs).2
    cases hk : has lo hi ks[q] with
    | false =>
      have ih' := ih (q + 1) out (by omega) (by omega)
      simp [hk, keyC] at hK ih'
      simp [v46_3, v46_4, v46_5, v46_7, h1, iaV_own e2, hi1, keyC, hk, e3, hq, t58 (hp 58 (by decide) (by decide)), hd, cut1 hf]
      exact ih' hK
    | true =>
      have ih' := ih (q + 1) (out ++ [(ks[q], dataE ks[q] es)]) (by omega) (by simp; omega)
      simp [hk, pairC, keyC] at hK ih'
      simp [v46_3, v46_4, v46_5, v46_6, v46_7, h1, iaV_own e2, hi1, keyC, hk, e3, hq, t58 (hp 58 (by decide) (by decide)), hd, cut1 hf, at_old hi0, hlk, at_old hm, hz, t49 hc _ (dataE_len hT ks[q]), flat_bytes, f1, f2, pairC]
      exact ih' hK
def keysT (es : List Ent1) : List By := sortB (es.map (·.k))
theorem ins_len (a : By) : ∀ l, (insB a l).length = l.length + 1 := by
  intro l
  induction l with
  | nil => rfl
  | cons x l ih => simp only [insB]; split <;> simp [ih]
theorem sort_len : ∀ l : List By, (sortB l).length = l.length := by
  intro l
  induction l with
  | nil => rfl
  | cons a l ih => show (insB a (sortB l)).length = _; rw [ins_len, ih]; rfl
theorem t46 (hp : NoPm Pm) (hq : NoQ Q) (hs : Q 90 = some sortQ) (hc : Pm 49 = some cloneP) (es : List Ent1) (c m i : Nat) (lo hi : By) (hT : TabOk es c) (hl : es.length < small) (h : List Uo) (fl : Nat) (hf : fl ≤ h.length) (hi0 : h[i]? = some (.row [.map m])) (hm : h[m]? = some (.map (es.map entU) c)) :
    gF vTab M Q Pm 46 [.ptr i 0, .agg [.str lo, .str hi]] h fl = some (.own .r 2 ((inT es lo hi (keysT es)).map pairC), h, fl) := by
  refine gF_of (fn := v46) (hp 46 (by decide) (by decide)) rfl rfl ?_
  have hlt : i < h.length := (List.getElem?_eq_some_iff.1 hi0).1
  have hk := t101 (M := M) (Q := Q) hp hs es c m i hT hl (h ++ [.row [.str lo, .str hi]]) fl (by simp; omega) (at_old hi0) (at_old hm)
  have hkl : (keysT es).length < small := by unfold keysT; rw [sort_len]; simpa using hl
  have hd : decide (i < h.length + 1) = true := decide_eq_true (by omega)
  have a := t46_a (M := M) hp hq hc es c m i lo hi hT h fl hf hi0 hm (keysT es) hkl (h.length + 1) rfl (seqK vTab M Q Pm v46 (.seq (.region v46_9) .ret) (kE h.length v46 (.own .r 2 ((inT es lo hi (keysT es)).map pairC), h, fl))) (keysT es).length 0 [] (by omega) (by simp) (by simp [v46_9, cut0 hf])
  simp [keysT] at a
  simp [v46_body, v46_0, v46_1, v46_2, hq, hk, hd, cut1 hf]
  exact a
end Go.RE
namespace Go.RE
variable {M : Nat → String → Option Nat} {Q : Mut} {Pm : Nat → Option (List U → List Uo → Nat → Option (U × List Uo × Nat))}
def muP (kk : EqK) (i : Nat) (k v : U) (s : Vs) : Option Uo → Option (U × Vs)
  | some (.map es clock) => bif plainKeyU kk k then
            (let fl := bif v.low (i + 1) then s.fl else s.h.length
            match findU kk k es 0 with
            | some (some (j, _)) => some (.tup [], { s with h := s.h.set i (.map (modU j (fun e => (k, v, e.2.2)) es) clock), fl := fl })
            | some none => some (.tup [], { s with h := s.h.set i (.map (es ++ [(k, v, clock)]) (clock + 1)), fl := fl })
            | none => none) else none
  | _ => none
def muX (kk : EqK) (i : Nat) (k : U) : Option (U × Vs) → Option (U × Vs)
  | some (v, s) => muP kk i k v s s.h[i]?
  | none => none
@[simp] theorem muX_some (kk : EqK) (i : Nat) (k v : U) (s : Vs) : muX kk i k (some (v, s)) = muP kk i k v s s.h[i]? := rfl
def muK (kk : EqK) (i : Nat) (x : Opd) : Option (U × Vs) → Option (U × Vs)
  | some (k, s) => muX kk i k (escO x s)
  | none => none
@[simp] theorem muK_some (kk : EqK) (i : Nat) (x : Opd) (k : U) (s : Vs) : muK kk i x (some (k, s)) = muX kk i k (escO x s) := rfl
def muM (kk : EqK) (k x : Opd) : Option (U × Vs) → Option (U × Vs)
  | some (.map i, s) => muK kk i x (escO k s)
  | _ => none
@[simp] theorem muM_some (kk : EqK) (k x : Opd) (i : Nat) (s : Vs) : muM kk k x (some (.map i, s)) = muK kk i x (escO k s) := rfl
@[simp] theorem opH_mapUpdate (d : Nat) (s : Vs) (kk : EqK) (m k x : Opd) : opH d s (.mapUpdate kk m k x) = muM kk k x (escO m s) := by
  simp only [opH]
  cases escO m s with
  | none => rfl
  | some p =>
    obtain ⟨u, s1⟩ := p
    cases u with
    | map i =>
      simp only [muM]
      cases escO k s1 with
      | none => rfl
      | some p =>
        obtain ⟨k, s2⟩ := p
        simp only [muK]
        cases escO x s2 with
        | none => rfl
        | some p =>
          obtain ⟨v, s3⟩ := p
          simp only [muX]
          cases s3.h[i]? with
          | none => rfl
          | some o => cases o <;> rfl
    | _ => rfl
def delP (kk : EqK) (i : Nat) (k : U) (s : Vs) : Option Uo → Option (U × Vs)
  | some (.map es clock) => bif plainKeyU kk k then (match findU kk k es 0 with
        | some (some (j, _)) => some (.tup [], { s with h := s.h.set i (.map (eraseU j es) clock) })
        | some none => some (.tup [], s)
        | none => none) else none
  | _ => none
def delO (s : Vs) (kk : EqK) : Option U → Option U → Option (U × Vs)
  | some .nilm, some k => bif plainKeyU kk k then some (.tup [], s) else none
  | some (.map i), some k => delP kk i k s s.h[i]?
  | _, _ => none
@[simp] theorem delO_map (s : Vs) (kk : EqK) (i : Nat) (k : U) : delO s kk (some (.map i)) (some k) = delP kk i k s s.h[i]? := rfl
@[simp] theorem opH_delete (d : Nat) (s : Vs) (kk : EqK) (m k : Opd) : opH d s (.delete kk m k) = delO s kk (evO s.e m) (evO s.e k) := by
  simp only [opH]
  cases evO s.e m with
  | none => rfl
  | some u =>
    cases evO s.e k with
    | none => cases u <;> rfl
    | some k =>
      cases u with
      | map i =>
        simp only [delO]
        cases s.h[i]? with
        | none => rfl
        | some o => cases o <;> rfl
      | _ => rfl
def modE (k d : By) : List Ent1 → List Ent1
  | [] => []
  | e :: r => if (e.k == k) = true then ⟨k, d, e.b⟩ :: r else e :: modE k d r
def delE (k : By) : List Ent1 → List Ent1
  | [] => []
  | e :: r => if (e.k == k) = true then r else e :: delE k r
theorem beq_sym (a b : By) : (a == b) = (b == a) := by
  cases h1 : b == a with
  | true => rw [eq_of_beq h1]; exact beq_self_eq_true a
  | false =>
    cases h2 : a == b with
    | false => rfl
    | true => rw [eq_of_beq h2, beq_self_eq_true] at h1; cases h1
theorem find_mod (k d : By) : ∀ (es : List Ent1) (j i : Nat) (v : U), findU .str (.str k) (es.map entU) j = some (some (i, v)) → j ≤ i ∧ modU (i - j) (fun e => (.str k, .sl 1 (bytesU d), e.2.2)) (es.map entU) = (modE k d es).map entU ∧ eraseU (i - j) (es.map entU) = (delE k es).map entU := by
  intro es
  induction es with
  | nil => intro j i v h; cases h
  | cons e es ih =>
    intro j i v h
    have hf : findU .str (.str k) ((e :: es).map entU) j = (match some (k == e.k) with
      | some true => some (some (j, .sl 1 (bytesU e.d)))
      | some false => findU .str (.str k) (es.map entU) (j + 1)
      | none => none) := rfl
    rw [hf, beq_sym k e.k] at h
    cases hk : e.k == k with
    | true =>
      rw [hk] at h
      simp only [Option.some.injEq, Prod.mk.injEq] at h
      obtain ⟨rfl, _⟩ := h
      refine ⟨Nat.le_refl _, ?_, ?_⟩
      · simp [modE, hk, modU, entU]
      · simp [delE, hk, eraseU]
    | false =>
      rw [hk] at h
      obtain ⟨a, b, c⟩ := ih (j + 1) i v h
      have e1 : i - j = (i - (j + 1)) + 1 := by omega
      refine ⟨by omega, ?_, ?_⟩
      · rw [e1]; simp only [List.map_cons, modU, modE, hk]; rw [b]; simp
      · rw [e1]; simp only [List.map_cons, eraseU, delE, hk]; rw [c]; simp
def setE (k d : By) (c : Nat) (es : List Ent1) : List Ent1 := if (entOf k es).isSome = true then modE k d es else es ++ [⟨k, d, c⟩]
def clkE (k : By) (c : Nat) (es : List Ent1) : Nat := if (entOf k es).isSome = true then c else c + 1
theorem muP_ent (k d : By) (es : List Ent1) (c m : Nat) (s : Vs) : muP .str m (.str k) (.sl 1 (bytesU d)) s (some (.map (es.map entU) c)) = some (.tup [], ⟨s.e, s.h.set m (.map ((setE k d c es).map entU) (clkE k c es)), s.fl⟩) := by
  obtain ⟨r, r1, r2, r3⟩ := findU_ent k es 0
  have hk : plainKeyU .str (.str k) = true := rfl
  simp only [muP, hk, cond_true, r1, U.low]
  cases r with
  | none =>
    have := r2.1 rfl
    simp [setE, clkE, this, entU]
  | some p =>
    obtain ⟨i, v⟩ := p
    obtain ⟨e, e1, rfl, _⟩ := r3 i v rfl
    obtain ⟨a, b, _⟩ := find_mod k d es 0 i _ r1
    simp only [Nat.sub_zero] at b
    simp [setE, clkE, e1, b]
theorem delP_ent (k : By) (es : List Ent1) (c m : Nat) (s : Vs) (hm : s.h[m]? = some (.map (es.map entU) c)) : delP .str m (.str k) s (some (.map (es.map entU) c)) = some (.tup [], ⟨s.e, s.h.set m (.map ((if (entOf k es).isSome = true then delE k es else es).map entU) c), s.fl⟩) := by
  obtain ⟨r, r1, r2, r3⟩ := findU_ent k es 0
  have hk : plainKeyU .str (.str k) = true := rfl
  simp only [delP, hk, cond_true, r1]
  cases r with
  | none =>
    have := r2.1 rfl
    have hset : s.h.set m (.map (es.map entU) c) = s.h := by
      obtain ⟨hlt, he⟩ := List.getElem?_eq_some_iff.1 hm
      rw [← he]; exact List.set_getElem_self hlt
    simp [this, hset]
  | some p =>
    obtain ⟨i, v⟩ := p
    obtain ⟨e, e1, rfl, _⟩ := r3 i v rfl
    obtain ⟨a, _, b⟩ := find_mod k [] es 0 i _ r1
    simp only [Nat.sub_zero] at b
    simp [e1, b]
abbrev Tb := List Ent1 × Nat
def tabO (t : Tb) : Uo := .map (t.1.map entU) t.2
end Go.RE
namespace Go.RE
variable {M : Nat → String → Option Nat} {Q : Mut} {Pm : Nat → Option (List U → List Uo → Nat → Option (U × List Uo × Nat))}
def stepP (t : Tb) (p : Pr) : Tb := (setE p.1 p.2 t.2 t.1, clkE p.1 t.2 t.1)
theorem t44_a (hp : NoPm Pm) (hq : NoQ Q) (hc : Pm 49 = some cloneP) (l : List Pr) (hl : l.length < small) (hld : ∀ p ∈ l, p.2.length < small) (K : Ex → Vs → Prop) :
    ∀ (j q : Nat) (t : Tb), q + j = l.length →
    K .normal ⟨[(3, .ptr 1 0)], [tabO ((l.drop q).foldl stepP t), .row [.map 0]], 0⟩ →
    gL vTab M Q Pm v44 0 v44_b7 2 ⟨[(11, .int .i64 (q : Int)), (3, .ptr 1 0), (9, .sl 2 (l.map pairC)), (10, .int .i64 (l.length : Int))], [tabO t, .row [.map 0]], 0⟩ K := by
  intro j
  induction j with
  | zero =>
    intro q t hij hK
    have h1 : ¬ ((q : Int) < (l.length : Int)) := by omega
    have h2 : l.drop q = [] := List.drop_of_length_le (by omega)
    rw [h2] at hK
    rw [gL_round v44_b7.eq_1]
    simp [v44_3, h1] at hK ⊢
    exact hK
  | succ j ih =>
    intro q t hij hK
    have h1 : ((q : Int) < (l.length : Int)) := by omega
    have hi1 : q < l.length := by omega
    have e1 : (l.map pairC)[q]? = some (pairC l[q]) := by simp [hi1]
    have e3 : wrapA .i64 ((q : Int) + 1) = ((q + 1 : Nat) : Int) := wrap_succ (by unfold small at hl; omega)
    have d1 : l.drop q = l[q] :: l.drop (q + 1) := List.drop_eq_getElem_cons hi1
    rw [d1, List.foldl_cons] at hK
    have ih' := ih (q + 1) (stepP t l[q]) (by omega) hK
    have hmu := muP_ent l[q].1 l[q].2 t.1 t.2 0
    have ep : pairC l[q] = [.str l[q].1, .sl 1 (bytesU l[q].2)] := rfl
    rw [gL_round v44_b7.eq_1]
    simp [tabO, stepP] at ih'
    simp [v44_3, v44_4, v44_6, h1, iaV_sl e1, ep, e3, tabO, gC_drw v44_5h, v44_5s, hq, t49 hc _ (hld _ (List.getElem_mem hi1)), flat_bytes, hmu, Nat.testBit_eq_decide_div_mod_eq]
    exact ih'
theorem t44 (hp : NoPm Pm) (hq : NoQ Q) (hc : Pm 49 = some cloneP) (l : List Pr) (hl : l.length < small) (hld : ∀ p ∈ l, p.2.length < small) :
    gF vTab M Q Pm 44 [.sl 2 (l.map pairC)] [] 0 = some (.ptr 1 0, [tabO (l.foldl stepP ([], 0)), .row [.map 0]], 0) := by
  refine gF_of (fn := v44) (hp 44 (by decide) (by decide)) rfl rfl ?_
  have a := t44_a (M := M) hp hq hc l hl hld (seqK vTab M Q Pm v44 (.seq (.region v44_8) .ret) (kE 0 v44 (.ptr 1 0, [tabO (l.foldl stepP ([], 0)), .row [.map 0]], 0))) l.length 0 ([], 0) (by omega) (by simp [v44_8])
  simp [tabO] at a
  simp [v44_body, v44_0, v44_1, v44_2, tabO]
  exact a
end Go.RE
namespace Go.RE
def ixN (s : Vs) (b : List UInt8) (n : Int) : Option (U × Vs) := if 0 ≤ n then (match b[n.toNat]? with | some c => some (.int .u8 c.toNat, s) | none => none) else none
def ixO (s : Vs) : Option U → Option U → Option (U × Vs)
  | some (.str b), some (.int _ n) => ixN s b n
  | _, _ => none
@[simp] theorem ixO_some (s : Vs) (b : List UInt8) (k : IntKind) (n : Int) : ixO s (some (.str b)) (some (.int k n)) = ixN s b n := rfl
@[simp] theorem opS_index (d : Nat) (s : Vs) (x i : Opd) : opS d s (.index x i) = ixO s (evO s.e x) (evO s.e i) := by
  simp only [opS]
  cases evO s.e x with
  | none => rfl
  | some v =>
    cases v with
    | str b =>
      cases evO s.e i with
      | none => rfl
      | some w => cases w <;> rfl
    | _ => rfl
theorem ixN_at {s : Vs} {b : List UInt8} {i : Nat} {c : UInt8} (h : b[i]? = some c) : ixN s b (i : Int) = some (.int .u8 c.toNat, s) := by
  unfold ixN
  rw [if_pos (Int.natCast_nonneg i), Int.toNat_natCast, h]
def ssS (s : Vs) (b : List UInt8) (h : Nat) : Option Nat → Option (U × Vs)
  | some l => some (.str ((b.take h).drop l), s)
  | none => none
@[simp] theorem ssS_some (s : Vs) (b : List UInt8) (h l : Nat) : ssS s b h (some l) = some (.str ((b.take h).drop l), s) := rfl
def ssH (s : Vs) (lo : Option Opd) (b : List UInt8) : Option Nat → Option (U × Vs)
  | some h => ssS s b h (optNatU s.e lo 0 h)
  | none => none
@[simp] theorem ssH_some (s : Vs) (lo : Option Opd) (b : List UInt8) (h : Nat) : ssH s lo b (some h) = ssS s b h (optNatU s.e lo 0 h) := rfl
def ssV (s : Vs) (lo hi : Option Opd) : U → Option (U × Vs)
  | .str b => ssH s lo b (optNatU s.e hi b.length b.length)
  | _ => none
@[simp] theorem ssV_str (s : Vs) (lo hi : Option Opd) (b : List UInt8) : ssV s lo hi (.str b) = ssH s lo b (optNatU s.e hi b.length b.length) := rfl
@[simp] theorem optNatU_none (e : Env) (d m : Nat) : optNatU e none d m = some d := rfl
def onV (most : Nat) : Option U → Option Nat
  | some v => asNatU v most
  | none => none
@[simp] theorem onV_some (most : Nat) (v : U) : onV most (some v) = asNatU v most := rfl
def iaA (s : Vs) (len w : Nat) : Option U → Option U → Option (U × Vs)
  | some (.ptr j off), some (.int _ n) => if 0 ≤ n ∧ n < (len : Int) then some (.ptr j (off + n.toNat * w), s) else none
  | some (.cptr row off), some (.int _ n) => if 0 ≤ n ∧ n < (len : Int) then some (.cptr row (off + n.toNat * w), s) else none
  | _, _ => none
@[simp] theorem iaA_ptr (s : Vs) (len w j off : Nat) (k : IntKind) (n : Int) : iaA s len w (some (.ptr j off)) (some (.int k n)) = if 0 ≤ n ∧ n < (len : Int) then some (.ptr j (off + n.toNat * w), s) else none := rfl
@[simp] theorem iaA_cptr (s : Vs) (len w off : Nat) (row : List U) (k : IntKind) (n : Int) : iaA s len w (some (.cptr row off)) (some (.int k n)) = if 0 ≤ n ∧ n < (len : Int) then some (.cptr row (off + n.toNat * w), s) else none := rfl
def mxO (f : U → U → Option U) (s : Vs) : Option (List U) → Option (U × Vs)
  | some (v :: vs) => pairV s (foldU f v vs)
  | _ => none
@[simp] theorem mxO_some (f : U → U → Option U) (s : Vs) (v : U) (vs : List U) : mxO f s (some (v :: vs)) = pairV s (foldU f v vs) := rfl
def fdO (f : U → U → Option U) (r : List U) : Option U → Option U
  | some c => foldU f c r
  | none => none
@[simp] theorem fdO_some (f : U → U → Option U) (r : List U) (c : U) : fdO f r (some c) = foldU f c r := rfl
@[simp] theorem foldU_nil (f : U → U → Option U) (a : U) : foldU f a [] = some a := rfl
def asV (t : Nat) (z : U) (s : Vs) : U → Option (U × Vs)
  | .nili => some (.tup [z, .bool false], s)
  | .iface u v => some (if u = t then .tup [v, .bool true] else .tup [z, .bool false], s)
  | _ => none
@[simp] theorem asV_nili (t : Nat) (z : U) (s : Vs) : asV t z s .nili = some (.tup [z, .bool false], s) := rfl
@[simp] theorem asV_iface (t u : Nat) (z v : U) (s : Vs) : asV t z s (.iface u v) = some (if u = t then .tup [v, .bool true] else .tup [z, .bool false], s) := rfl
def asO (t : Nat) (s : Vs) : Option U → Option U → Option (U × Vs)
  | some z, some x => asV t z s x
  | _, _ => none
@[simp] theorem asO_some (t : Nat) (s : Vs) (z x : U) : asO t s (some z) (some x) = asV t z s x := rfl
section
variable {M : Nat → String → Option Nat} {Q : Mut} {F : FU}
def inM (F : FU) (s : Vs) (d : Nat) (args : List U) : Option Nat → Option (U × Vs)
  | some f => callU F d f args s
  | none => none
@[simp] theorem inM_some (s : Vs) (d f : Nat) (args : List U) : inM F s d args (some f) = callU F d f args s := rfl
def inO (M : Nat → String → Option Nat) (F : FU) (s : Vs) (d : Nat) (name : String) : Option U → Option (List U) → Option (U × Vs)
  | some (.iface t v), some vs => inM F s d (v :: vs) (M t name)
  | _, _ => none
@[simp] theorem inO_some (s : Vs) (d : Nat) (name : String) (t : Nat) (v : U) (vs : List U) : inO M F s d name (some (.iface t v)) (some vs) = inM F s d (v :: vs) (M t name) := rfl
@[simp] theorem opC_invoke (s : Vs) (dst : Option Nat) (name : String) (x : Opd) (args : List Opd) : opC M Q F s dst (.invoke name x args) = inO M F s (dst.getD 0) name (evO s.e x) (evOs s.e args) := by
  simp only [opC]
  cases evO s.e x with
  | none => rfl
  | some v =>
    cases v with
    | iface t v =>
      cases evOs s.e args with
      | none => rfl
      | some vs => simp only [inO, inM]; cases M t name <;> rfl
    | _ => rfl
end
@[simp] theorem iaV_ownI (s : Vs) (w w' : Nat) (g : Tg) (xs : List (List U)) (k : IntKind) (n : Int) : iaV s w (some (.own g w' xs)) (some (.int k n)) = if 0 ≤ n ∧ n < (xs.length : Int) then (bif Nat.beq w' w then some (.optr g n.toNat 0, s) else none) else none := rfl
@[simp] theorem toP_int (k : IntKind) (n : Int) : (V.int k n).toP = some (.int k n) := rfl
@[simp] theorem toP_bool (b : Bool) : (V.bool b).toP = some (.bool b) := rfl
@[simp] theorem toP_str (b : List UInt8) : (V.str b).toP = some (.str b) := rfl
@[simp] theorem toP_nilp : V.nilp.toP = some .nilp := rfl
@[simp] theorem toP_nili : V.nili.toP = some .nili := rfl
@[simp] theorem toP_cs0 (w : Nat) : (V.cslice [] 0 0 w).toP = some (.sl w []) := rfl
@[simp] theorem toP_agg (cs : List V) : (V.agg cs).toP = bif (V.toUs cs).all U.cellok then some (.agg (V.toUs cs)) else none := by
  simp only [V.toP, V.toU]
  cases (V.toUs cs).all U.cellok <;> rfl
def fqO (neg : Bool) : Option Bool → Option U
  | some b => some (.bool (b != neg))
  | none => none
@[simp] theorem fqO_some (neg b : Bool) : fqO neg (some b) = some (.bool (b != neg)) := rfl
@[simp] theorem flatEqU_nil (a b : List U) : flatEqU [] a b = some true := rfl
def fqA (a : Bool) : Option Bool → Option Bool
  | some b => some (a && b)
  | none => bif a then none else some false
@[simp] theorem fqA_some (a b : Bool) : fqA a (some b) = some (a && b) := rfl
def fqP (r : List (Nat × EqK)) (xs ys : List U) : Option Bool → Option Bool
  | some a => fqA a (flatEqU r xs ys)
  | none => none
@[simp] theorem fqP_some (r : List (Nat × EqK)) (xs ys : List U) (a : Bool) : fqP r xs ys (some a) = fqA a (flatEqU r xs ys) := rfl
def fqC (k : EqK) (r : List (Nat × EqK)) (xs ys : List U) : Option U → Option U → Option Bool
  | some a, some b => fqP r xs ys (plainEqU k a b)
  | _, _ => none
@[simp] theorem fqC_some (k : EqK) (r : List (Nat × EqK)) (xs ys : List U) (a b : U) : fqC k r xs ys (some a) (some b) = fqP r xs ys (plainEqU k a b) := rfl
@[simp] theorem flatEqU_cons (o : Nat) (k : EqK) (r : List (Nat × EqK)) (xs ys : List U) : flatEqU ((o, k) :: r) xs ys = fqC k r xs ys xs[o]? ys[o]? := by
  simp only [flatEqU]
  cases xs[o]? with
  | none => rfl
  | some a =>
    cases ys[o]? with
    | none => rfl
    | some b =>
      simp only [fqC]
      cases plainEqU k a b with
      | none => rfl
      | some c =>
        cases c with
        | true => simp only [fqP]; cases flatEqU r xs ys with
          | none => rfl
          | some d => rfl
        | false => simp only [fqP]; cases flatEqU r xs ys <;> rfl
@[simp] theorem plainEqU_int (j : IntKind) (a b : Int) : plainEqU .int (.int j a) (.int j b) = some (a == b) := by simp [plainEqU, U.toV, plainEq]
@[simp] theorem plainEqU_str (a b : List UInt8) : plainEqU .str (.str a) (.str b) = some (a == b) := rfl
@[simp] theorem plainEqU_bool (a b : Bool) : plainEqU .bool (.bool a) (.bool b) = some (a == b) := rfl
def tbV (d : Nat) (s : Vs) : U → Option (U × Vs)
  | .str b => some (.own (.t d) 1 (bytesU b), s.kill (.t d))
  | _ => none
@[simp] theorem tbV_str (d : Nat) (s : Vs) (b : List UInt8) : tbV d s (.str b) = some (.own (.t d) 1 (bytesU b), s.kill (.t d)) := rfl
end Go.RE
namespace Go.RE
variable {M : Nat → String → Option Nat} {Q : Mut} {Pm : Nat → Option (List U → List Uo → Nat → Option (U × List Uo × Nat))}
theorem t107_0 (hp : NoPm Pm) : gF vTab M Q Pm 107 [.int .i64 0] [] 0 = some (.nili, [], 0) := by
  refine gF_of (fn := v107) (hp 107 (by decide) (by decide)) rfl rfl ?_
  simp [v107_body, v107_0, v107_1, v107_2]
theorem t167_0 (hp : NoPm Pm) (p : By) : gF vTab M Q Pm 167 [.str p, .nili] [] 0 = some (.nili, [], 0) := by
  refine gF_of (fn := v167) (hp 167 (by decide) (by decide)) rfl rfl ?_
  simp [v167_body, v167_0, v167_1, v167_2]
theorem t167 (hp : NoPm Pm) (p : By) (t : Nat) (v : U) (hv : v.low 0 = true) : gF vTab M Q Pm 167 [.str p, .iface t v] [] 0 = some (.iface 191 (.ptr 0 0), [.row [.str p, .iface t v]], 0) := by
  refine gF_of (fn := v167) (hp 167 (by decide) (by decide)) rfl rfl ?_
  simp [v167_body, v167_0, v167_1, v167_3, hv]
theorem strV_own (s : Vs) (g : Tg) (xs : List (List U)) : strV s (.own g 1 xs) = (unbytes xs).bind fun bs => some (.str bs, s) := by simp [strV, rowsOf]
theorem unbytes_nil : unbytes [] = some [] := rfl
theorem unbytes_cons (b : UInt8) (r : List (List U)) : unbytes ([.int .u8 b.toNat] :: r) = (unbytes r).bind fun bs => some (b :: bs) := by
  simp only [unbytes, byteOfU]
  have : UInt8.ofNat (b.toNat : Int).toNat = b := by simp
  rw [this]
  cases unbytes r <;> rfl
theorem t106_0 (hp : NoPm Pm) (hq : NoQ Q) (b : UInt8) : gF vTab M Q Pm 106 [.int .u8 b.toNat, .nili] [] 0 = some (.nili, [], 0) := by
  refine gF_of (fn := v106) (hp 106 (by decide) (by decide)) rfl rfl ?_
  simp [v106_body, v106_0, v106_1, hq, t167_0 hp, strV_own, unbytes_nil, unbytes_cons]
theorem t99 (hp : NoPm Pm) (s : By) : gF vTab M Q Pm 99 [.str s] [] 0 = some (.agg [.int .u8 105, .str [], .str [], .str [], .str s, .int .u64 0, .int .u64 0, .int .u64 0], [], 0) := by
  refine gF_of (fn := v99) (hp 99 (by decide) (by decide)) rfl rfl ?_
  simp [v99_body, v99_0, v99_1]
theorem t171_i (hp : NoPm Pm) : gF vTab M Q Pm 171 [.int .u8 105] [] 0 = some (.tup [.str [105], .bool true], [], 0) := by
  refine gF_of (fn := v171) (hp 171 (by decide) (by decide)) rfl rfl ?_
  simp [v171_body, v171_0, v171_1, v171_2, v171_3, v171_4, v171_5, v171_6, v171_7, v171_8, v171_9, v171_10, v171_11, v171_12, v171_13, v171_14, v171_23]
def escB1 (b : UInt8) : By := if b = 0 then [0, 255] else [b]
def escP (s : By) : By := s.flatMap escB1
def keyB (k : UInt8) (l : List By) : By := k :: l.flatMap fun s => escP s ++ [0, 1]
theorem bytes_app (a b : By) : bytesU (a ++ b) = bytesU a ++ bytesU b := by simp [bytesU]
attribute [simp] bytes_len
theorem bytes_cons (a : UInt8) (r : By) : bytesU (a :: r) = [.int .u8 a.toNat] :: bytesU r := rfl
theorem bytes_nil : bytesU [] = [] := rfl
theorem escB1_len (b : UInt8) : (escB1 b).length ≤ 2 := by unfold escB1; split <;> simp
theorem fewB {n : Nat} (h : n < small) : n + 1 ≤ big ∧ n + 2 ≤ big := by unfold small at h; unfold big; omega
theorem u8_zero (b : UInt8) : ((b.toNat : Int) == 0) = decide (b = 0) := by
  cases h : decide (b = 0) with
  | true => have := of_decide_eq_true h; subst this; rfl
  | false =>
    have hb := of_decide_eq_false h
    rw [beq_eq_false_iff_ne]
    intro hh
    apply hb
    exact UInt8.toNat_inj.1 (by simpa using hh)
theorem t227_a (s : By) (ps : List (List U)) (n' i' : Int) (K : Ex → Vs → Prop) (hl : s.length < small) : ∀ (j i : Nat) (acc : By), i + j = s.length → acc.length + 2 * j < small →
    K .normal ⟨[(11, .sl 1 ps), (12, .int .i64 n'), (13, .int .i64 i'), (5, .own (.t 5) 1 (bytesU (acc ++ escP (s.drop i))))], [], 0⟩ →
    gL vTab M Q Pm v227 2 v227_b12 0 ⟨[(19, .int .i64 (i : Int)), (7, .str s), (5, .own (.t 5) 1 (bytesU acc)), (11, .sl 1 ps), (12, .int .i64 n'), (13, .int .i64 i'), (18, .int .i64 (s.length : Int))], [], 0⟩ K := by
  intro j
  induction j with
  | zero =>
    intro i acc hi ho hK
    have h1 : ¬ ((i : Int) < (s.length : Int)) := by omega
    have h2 : s.drop i = [] := List.drop_of_length_le (by omega)
    rw [h2] at hK
    rw [gL_round v227_b12.eq_1]
    simp [v227_6, h1, escP] at hK ⊢
    exact hK
  | succ j ih =>
    intro i acc hi ho hK
    have h1 : ((i : Int) < (s.length : Int)) := by omega
    have hi1 : i < s.length := by omega
    have e1 : s[i]? = some s[i] := by simp [hi1]
    have e3 : wrapA .i64 ((i : Int) + 1) = ((i + 1 : Nat) : Int) := wrap_succ (by unfold small at hl; omega)
    have d1 : s.drop i = s[i] :: s.drop (i + 1) := List.drop_eq_getElem_cons hi1
    obtain ⟨f1, f2⟩ := fewB (n := acc.length) (by omega)
    rw [d1] at hK
    rw [gL_round v227_b12.eq_1]
    generalize s[i] = b at *
    cases hb : decide (b = 0) with
    | true =>
      have := of_decide_eq_true hb; subst this
      have ih' := ih (i + 1) (acc ++ [0, 255]) (by omega) (by simp; omega)
      simp [escP, escB1, bytes_app, bytes_cons, bytes_nil] at hK ih'
      simp [v227_6, v227_7, v227_8, v227_9, v227_10, v227_11, h1, ixN_at e1, e3, f1, f2]
      exact ih' hK
    | false =>
      have hb' := of_decide_eq_false hb
      have ih' := ih (i + 1) (acc ++ [b]) (by omega) (by simp; omega)
      simp [escP, escB1, bytes_app, hb', bytes_cons, bytes_nil] at hK ih'
      simp [v227_6, v227_7, v227_8, v227_9, v227_11, h1, ixN_at e1, e3, f1, f2, u8_zero, hb']
      exact ih' hK
theorem keyB_snoc (k : UInt8) (l : List By) (s : By) : keyB k (l ++ [s]) = keyB k l ++ escP s ++ [0, 1] := by simp [keyB]
theorem keyB_split (k : UInt8) (a b : List By) (s : By) : (keyB k a).length ≤ (keyB k (a ++ s :: b)).length ∧ s.length ≤ ((a ++ s :: b).map List.length).sum := by
  constructor
  · simp [keyB]
  · simp; omega
theorem escP_len (s : By) : (escP s).length ≤ 2 * s.length := by
  unfold escP
  induction s with
  | nil => simp
  | cons b r ih => have := escB1_len b; simp at ih ⊢; omega
theorem t227_b (k : UInt8) (l : List By) (hl : l.length < small) (K : Ex → Vs → Prop) : ∀ (j i : Nat), i + j = l.length → (∀ s ∈ l, s.length < small) →
    (keyB k l).length + 2 * (l.map List.length).sum < small →
    K .normal ⟨[(5, .own (.t 5) 1 (bytesU (keyB k l)))], [], 0⟩ →
    gL vTab M Q Pm v227 0 v227_b15 0 ⟨[(5, .own (.t 5) 1 (bytesU (keyB k (l.take i)))), (13, .int .i64 (i : Int)), (11, .sl 1 (l.map fun s => [.str s])), (12, .int .i64 (l.length : Int))], [], 0⟩ K := by
  intro j
  induction j with
  | zero =>
    intro i hi hs hb hK
    have h1 : ¬ ((i : Int) < (l.length : Int)) := by omega
    have h2 : l.take i = l := List.take_of_length_le (by omega)
    rw [gL_round v227_b15.eq_1, h2]
    simp [v227_3, h1] at hK ⊢
    exact hK
  | succ j ih =>
    intro i hi hs hb hK
    have h1 : ((i : Int) < (l.length : Int)) := by omega
    have hi1 : i < l.length := by omega
    have e1 : (l.map fun s => [U.str s])[i]? = some [.str l[i]] := by simp [hi1]
    have e3 : wrapA .i64 ((i : Int) + 1) = ((i + 1 : Nat) : Int) := wrap_succ (by unfold small at hl; omega)
    have ih' := ih (i + 1) (by omega) hs hb hK
    have d2 : l.take (i + 1) = l.take i ++ [l[i]] := by simp
    have hlen : (keyB k (l.take i)).length + 2 * l[i].length < small := by
      have a1 : l.take i ++ l[i] :: l.drop (i + 1) = l := by rw [← List.drop_eq_getElem_cons hi1, List.take_append_drop]
      have a2 := keyB_split k (l.take i) (l.drop (i + 1)) l[i]
      rw [a1] at a2
      omega
    have hlen2 : (keyB k (l.take i)).length + (escP l[i]).length + 2 ≤ big := by
      have := escP_len l[i]
      unfold small at hlen; unfold big; omega
    have hin := t227_a (M := M) (Q := Q) (Pm := Pm) l[i] (l.map fun s => [.str s]) (l.length : Int) (i : Int)
    rw [d2, keyB_snoc] at ih'
    rw [gL_round v227_b15.eq_1]
    simp [v227_3, v227_4, v227_5, h1, iaV_sl e1]
    refine hin _ (hs _ (List.getElem_mem hi1)) l[i].length 0 _ (by omega) (by omega) ?_
    simp only [List.drop_zero]
    simp [bytes_app, bytes_cons, bytes_nil] at ih'
    simp [v227_13, v227_14, e3, bytes_app, bytes_cons, bytes_nil, hlen2]
    exact ih'
theorem t227 (hp : NoPm Pm) (k : UInt8) (l : List By) (hl : l.length < small) (hs : ∀ s ∈ l, s.length < small) (hb : (keyB k l).length + 2 * (l.map List.length).sum < small) :
    gF vTab M Q Pm 227 [.int .u8 k.toNat, .sl 1 (l.map fun s => [.str s])] [] 0 = some (.str (keyB k l), [], 0) := by
  refine gF_of (fn := v227) (hp 227 (by decide) (by decide)) rfl rfl ?_
  have h := t227_b (M := M) (Q := Q) (Pm := Pm) k l hl (seqK vTab M Q Pm v227 (.seq (.region v227_16) .ret) (kE 0 v227 (.str (keyB k l), [], 0))) l.length 0 (by omega) hs hb (by simp [v227_16])
  simp [keyB, bytes_cons, bytes_nil] at h
  simp [v227_body, v227_0, v227_1, v227_2]
  exact h
@[simp] theorem cut_same (h : List Uo) (fl : Nat) : cut h.length fl h = h := by unfold cut; exact List.take_of_length_le (Nat.le_max_left _ _)
theorem t172_i (hp : NoPm Pm) (h : List Uo) (fl i : Nat) (hi : i < h.length) : gF vTab M Q Pm 172 [.ptr i 0, .int .u8 105] h fl = some (.ptr i 4, h, fl) := by
  refine gF_of (fn := v172) (hp 172 (by decide) (by decide)) rfl rfl ?_
  have hi' : decide (i < h.length) = true := decide_eq_true hi
  simp [v172_body, v172_0, v172_1, v172_2, v172_4, v172_6, v172_8, v172_9, hi']
theorem wrap1 : wrapA .i64 1 = 1 := by decide
theorem t168_i (hp : NoPm Pm) (hq : NoQ Q) (s : By) : gF vTab M Q Pm 168 [.agg [.int .u8 105, .str [], .str [], .str [], .str s, .int .u64 0, .int .u64 0, .int .u64 0]] [] 0 =
    some (.tup [.sl 1 [[.str s]], .agg [.int .u8 105, .str [], .str [], .str [], .str [], .int .u64 0, .int .u64 0, .int .u64 0], .int .i64 0], [], 0) := by
  refine gF_of (fn := v168) (hp 168 (by decide) (by decide)) rfl rfl ?_
  simp [v168_body, v168_0, v168_1, hq, t171_i hp, v168_2, v168_4, v168_5]
  rw [gL_round v168_b16.eq_1]
  have h172 := t172_i (M := M) (Q := Q) hp [.row [.int .u8 105, .str [], .str [], .str [], .str s, .int .u64 0, .int .u64 0, .int .u64 0], .row [.int .u8 0, .str [], .str [], .str [], .str [], .int .u64 0, .int .u64 0, .int .u64 0]] 0 0 (by simp)
  simp [v168_6, v168_7, v168_8, ixN, hq, h172, v168_9, v168_10, v168_11, v168_15, big]
  rw [gL_round v168_b16.eq_1]
  simp [v168_6, gC_drw v168_17h, v168_17s, wrap1]
abbrev refI (s : By) : U := .agg [.int .u8 105, .str [], .str [], .str [], .str s, .int .u64 0, .int .u64 0, .int .u64 0]
theorem t166_i (hp : NoPm Pm) (hq : NoQ Q) (s : By) (hs : s.length < 1000) : gF vTab M Q Pm 166 [refI s] [] 0 = some (.tup [.str (keyB 105 [s]), .int .i64 0], [], 0) := by
  refine gF_of (fn := v166) (hp 166 (by decide) (by decide)) rfl rfl ?_
  have hl := escP_len s
  have h227 := t227 (M := M) (Q := Q) (Pm := Pm) hp 105 [s] (by unfold small; simp) (by unfold small; simp; omega) (by unfold small; simp [keyB]; omega)
  simp at h227
  simp [v166_body, v166_0, v166_1, hq, t168_i hp hq, v166_2, v166_4, v166_6, h227]
theorem t104 (hp : NoPm Pm) (hq : NoQ Q) (s : Spn) (k : By) (h : List Uo) (fl i : Nat) (hf : fl ≤ h.length) (hi : h[i]? = some (.row [.str k])) : gF vTab M Q Pm 104 [.agg (spC s), .ptr i 0] h fl = some (.bool (has s.1 s.2 k), h, fl) := by
  refine gF_of (fn := v104) (hp 104 (by decide) (by decide)) rfl rfl ?_
  have hlt := (List.getElem?_eq_some_iff.1 hi).1
  have e1 := at_old (l := [Uo.row [.str s.1, .str s.2]]) hi
  simp [v104_body, v104_0, v104_1, spC, hq, e1, t58 (hp 58 (by decide) (by decide)), cut0 hf]
def idxB (l : List Spn) (k : By) (i : Nat) : Int := match l with
  | [] => -1
  | s :: r => if has s.1 s.2 k = true then (i : Int) else idxB r k (i + 1)
theorem idxB_any : ∀ (l : List Spn) (k : By) (i : Nat), decide (0 ≤ idxB l k i) = inB l k := by
  intro l
  induction l with
  | nil => intro k i; rfl
  | cons s r ih =>
    intro k i
    have h1 : inB (s :: r) k = (has s.1 s.2 k || inB r k) := rfl
    have h2 : idxB (s :: r) k i = if has s.1 s.2 k = true then (i : Int) else idxB r k (i + 1) := rfl
    rw [h1, h2]
    by_cases hk : has s.1 s.2 k = true
    · rw [if_pos hk, hk]; simp
    · rw [if_neg hk, ih k (i + 1)]; simp at hk; rw [hk]; rfl
theorem t165_a (hp : NoPm Pm) (hq : NoQ Q) (l : List Spn) (k : By) (hl : l.length < small) (h : List Uo) (fl p : Nat) (hf : fl ≤ h.length) (hi : h[p]? = some (.row [.str k])) : ∀ (j i : Nat), i + j = l.length →
    gL vTab M Q Pm v165 0 v165_b7 h.length ⟨[(8, .int .i64 (i : Int)), (0, .sl 2 (l.map spC)), (1, .func 104 [] [.ptr p 0]), (7, .int .i64 (l.length : Int))], h, fl⟩ (seqK vTab M Q Pm v165 (.seq (.region v165_8) .ret) (kE h.length v165 (.int .i64 (idxB (l.drop i) k i), h, fl))) := by
  have hlt := (List.getElem?_eq_some_iff.1 hi).1
  have hlt' : decide (p < h.length) = true := decide_eq_true hlt
  intro j
  induction j with
  | zero =>
    intro i hij
    have h1 : ¬ ((i : Int) < (l.length : Int)) := by omega
    have h2 : l.drop i = [] := List.drop_of_length_le (by omega)
    rw [gL_round v165_b7.eq_1, h2]
    simp [v165_2, h1, v165_8, idxB]
  | succ j ih =>
    intro i hij
    have h1 : ((i : Int) < (l.length : Int)) := by omega
    have hi1 : i < l.length := by omega
    have e1 : (l.map spC)[i]? = some (spC l[i]) := by simp [hi1]
    have e3 : wrapA .i64 ((i : Int) + 1) = ((i + 1 : Nat) : Int) := wrap_succ (by unfold small at hl; omega)
    have d1 : l.drop i = l[i] :: l.drop (i + 1) := List.drop_eq_getElem_cons hi1
    have ih' := ih (i + 1) (by omega)
    have c104 := t104 (M := M) hp hq l[i] k h fl p hf hi
    rw [gL_round v165_b7.eq_1, d1]
    cases hk : has l[i].1 l[i].2 k with
    | true =>
      rw [hk] at c104
      simp [spC] at c104
      simp [v165_2, v165_3, v165_4, v165_5, h1, iaV_sl e1, spC, hq, c104, idxB, hk, hlt']
    | false =>
      rw [hk] at c104
      simp [spC] at c104
      simp [v165_8] at ih'
      simp [v165_2, v165_3, v165_4, v165_6, h1, iaV_sl e1, spC, hq, c104, idxB, hk, hlt', e3, v165_8]
      exact ih'
theorem t165 (hp : NoPm Pm) (hq : NoQ Q) (l : List Spn) (k : By) (hl : l.length < small) (h : List Uo) (fl p : Nat) (hf : fl ≤ h.length) (hi : h[p]? = some (.row [.str k])) :
    gF vTab M Q Pm 165 [.sl 2 (l.map spC), .func 104 [] [.ptr p 0]] h fl = some (.int .i64 (idxB l k 0), h, fl) := by
  refine gF_of (fn := v165) (hp 165 (by decide) (by decide)) rfl rfl ?_
  have h1 := t165_a (M := M) hp hq l k hl h fl p hf hi l.length 0 (by omega)
  have hlt' : decide (p < h.length) = true := decide_eq_true (List.getElem?_eq_some_iff.1 hi).1
  simp only [List.drop_zero] at h1
  simp [v165_body, v165_0, v165_1, hlt']
  exact h1
theorem t103 (hp : NoPm Pm) (hq : NoQ Q) (l : List Spn) (k : By) (hl : l.length < small) (h : List Uo) (fl p : Nat) (hf : fl ≤ h.length) (hi : h[p]? = some (.row [.str k])) :
    gF vTab M Q Pm 103 [.sl 2 (l.map spC), .func 104 [] [.ptr p 0]] h fl = some (.bool (inB l k), h, fl) := by
  refine gF_of (fn := v103) (hp 103 (by decide) (by decide)) rfl rfl ?_
  have hlt' : decide (p < h.length) = true := decide_eq_true (List.getElem?_eq_some_iff.1 hi).1
  simp [v103_body, v103_0, v103_1, hq, hlt', t165 hp hq l k hl h fl p hf hi]
  exact idxB_any l k 0
theorem t59 (hp : NoPm Pm) (hq : NoQ Q) (l : List Spn) (k : By) (hl : l.length < small) : gF vTab M Q Pm 59 [.sl 2 (l.map spC), .str k] [] 0 = some (.bool (inB l k), [], 0) := by
  refine gF_of (fn := v59) (hp 59 (by decide) (by decide)) rfl rfl ?_
  simp [v59_body, v59_0, v59_1, hq, t103 hp hq l k hl [.row [.str k]] 0 0 (by simp) rfl]
theorem t60 (hp : NoPm Pm) (lo hi : By) : gF vTab M Q Pm 60 [.str lo, .str hi] [] 0 = some (.iface 45 (.agg [.str lo, .str hi]), [], 0) := by
  refine gF_of (fn := v60) (hp 60 (by decide) (by decide)) rfl rfl ?_
  simp [v60_body, v60_0, v60_1]
def liveH : List Uo := [.map [] 0, .row [.map 0], .map [] 0, .row [.ptr 1 0, .map 2, .nl 2], .map [] 0, .row [.iface 58 (.ptr 3 0), .map 4]]
theorem t25 (hp : NoPm Pm) (hq : NoQ Q) (hc : Pm 49 = some cloneP) : gF vTab M Q Pm 25 [] [] 0 = some (.ptr 3 0, [.map [] 0, .row [.map 0], .map [] 0, .row [.ptr 1 0, .map 2, .nl 2]], 0) := by
  refine gF_of (fn := v25) (hp 25 (by decide) (by decide)) rfl rfl ?_
  have h44 := t44 (M := M) hp hq hc [] (by decide) (fun p hp => by cases hp)
  simp [tabO] at h44
  simp [v25_body, v25_0, v25_1, hq, h44, shiftO_map]
theorem t33 (hp : NoPm Pm) : gF vTab M Q Pm 33 [.iface 58 (.ptr 3 0)] [.map [] 0, .row [.map 0], .map [] 0, .row [.ptr 1 0, .map 2, .nl 2]] 0 = some (.ptr 5 0, liveH, 0) := by
  refine gF_of (fn := v33) (hp 33 (by decide) (by decide)) rfl rfl ?_
  simp [v33_body, v33_0, v33_1, v33_3, liveH]
def zI : Uo := .row [.str [], .int .u64 0, .int .i64 0, .str [], .int .u64 0]
def rI (s : By) : Uo := .row [.int .u8 105, .str [], .str [], .str [], .str s, .int .u64 0, .int .u64 0, .int .u64 0]
def liveX (s : By) : List Uo := [.map [] 0, .row [.map 0], .map [] 0, .row [.ptr 1 0, .map 2, .nl 2], .map [] 0, .row [.iface 58 (.ptr 3 0), .map 4], zI, rI s, zI, zI, rI s]
def liveY (s : By) : List Uo := [.map [] 0, .row [.map 0], .map [] 0, .row [.ptr 1 0, .map 2, .nl 2], .map [] 0, .row [.iface 58 (.ptr 3 0), .map 4], zI, rI s, zI, zI, rI s, .row [.bool false, .sl 1 []]]
def liveZ (s k : By) : List Uo := [.map [] 0, .row [.map 0], .map [] 0, .row [.ptr 1 0, .map 2, .nl 2], .map [] 0, .row [.iface 58 (.ptr 3 0), .map 4], zI, rI s, zI, zI, rI s, .row [.bool false, .sl 1 []], .row [.str [105], .iface 45 (.agg [.str k, .str k])]]
theorem t105_i (hp : NoPm Pm) (hq : NoQ Q) (s : By) (hs : s.length < 1000) : gF vTab M Q Pm 105 [.ptr 5 0, refI s] (liveX s) 0 = some (.tup [.str (keyB 105 [s]), .nili], liveX s, 0) := by
  refine gF_of (fn := v105) (hp 105 (by decide) (by decide)) rfl rfl ?_
  have h106 := t106_0 (M := M) (Q := Q) (Pm := Pm) hp hq 105
  simp at h106
  simp [v105_body, v105_0, v105_1, v105_3, liveX, zI, rI, hq, t166_i hp hq s hs, gC_drw v105_4h, v105_4s, t107_0 hp, h106, Nat.testBit_eq_decide_div_mod_eq]
  rfl
theorem t28_i (hp : NoPm Pm) (hq : NoQ Q) (s k : By) : gF vTab M Q Pm 28 [.ptr 3 0, .str k] (liveY s) 0 = some (.tup [.sl 1 [], .bool false, .iface 45 (.agg [.str k, .str k])], liveY s, 0) := by
  refine gF_of (fn := v28) (hp 28 (by decide) (by decide)) rfl rfl ?_
  have h59 := t59 (M := M) (Q := Q) (Pm := Pm) hp hq [] k (by decide)
  simp [inB] at h59
  simp [v28_body, v28_0, v28_1, v28_2, liveY, zI, rI, hq, h59, t60 hp, lookupU, findU, plainKeyU, U.toV, plainKey]
  rfl
theorem t106_n (hp : NoPm Pm) (hq : NoQ Q) (b : UInt8) (k : By) : gF vTab M Q Pm 106 [.int .u8 b.toNat, .iface 45 (.agg [.str k, .str k])] [] 0 = some (.iface 191 (.ptr 0 0), [.row [.str [b], .iface 45 (.agg [.str k, .str k])]], 0) := by
  refine gF_of (fn := v106) (hp 106 (by decide) (by decide)) rfl rfl ?_
  simp [v106_body, v106_0, v106_1, hq, strV_own, unbytes_nil, unbytes_cons, t167 hp [b] 45 (.agg [.str k, .str k]) (by simp)]
theorem t64_i (hp : NoPm Pm) (hq : NoQ Q) (hm : M 58 "Get" = some 28) (s : By) (hs : s.length < 1000) : gF vTab M Q Pm 64 [.ptr 5 0, refI s] [.map [] 0, .row [.map 0], .map [] 0, .row [.ptr 1 0, .map 2, .nl 2], .map [] 0, .row [.iface 58 (.ptr 3 0), .map 4], zI, rI s, zI, zI] 0 =
    some (.tup [.sl 1 [], .bool false, .iface 191 (.ptr 12 0)], liveZ s (keyB 105 [s]), 0) := by
  refine gF_of (fn := v64) (hp 64 (by decide) (by decide)) rfl rfl ?_
  have h105 := t105_i (M := M) hp hq s hs
  have h28 := t28_i (M := M) hp hq s (keyB 105 [s])
  have h106 := t106_n (M := M) hp hq 105 (keyB 105 [s])
  simp [liveX, liveY, zI, rI] at h105 h28 h106
  generalize keyB 105 [s] = k at *
  simp [v64_body, v64_0, v64_1, v64_2, v64_4, v64_5, v64_7, v64_8, v64_9, liveZ, zI, rI, hq, hm, h105, h28, h106, lookupU, findU, plainKeyU, U.toV, plainKey]
theorem t98_i (hp : NoPm Pm) (hq : NoQ Q) (hm : M 58 "Get" = some 28) (s : By) (hs : s.length < 1000) : gF vTab M Q Pm 98 [.ptr 5 0, refI s, .func 100 [] []] [.map [] 0, .row [.map 0], .map [] 0, .row [.ptr 1 0, .map 2, .nl 2], .map [] 0, .row [.iface 58 (.ptr 3 0), .map 4], zI] 0 =
    some (.tup [.agg [.str [], .int .u64 0, .int .i64 0, .str [], .int .u64 0], .bool false, .iface 191 (.ptr 12 0)], liveZ s (keyB 105 [s]), 0) := by
  refine gF_of (fn := v98) (hp 98 (by decide) (by decide)) rfl rfl ?_
  have h64 := t64_i (M := M) hp hq hm s hs
  simp [liveZ, zI, rI] at h64
  generalize keyB 105 [s] = k at *
  simp [v98_body, v98_0, v98_1, v98_2, v98_3, v98_4, liveZ, zI, rI, hq, h64]
theorem t42_i (hp : NoPm Pm) (hq : NoQ Q) (hm : M 58 "Get" = some 28) (s : By) (hs : s.length < 1000) : gF vTab M Q Pm 42 [.ptr 5 0, .str s] liveH 0 =
    some (.tup [.agg [.str [], .int .u64 0, .int .i64 0, .str [], .int .u64 0], .bool false, .iface 191 (.ptr 12 0)], liveZ s (keyB 105 [s]), 0) := by
  refine gF_of (fn := v42) (hp 42 (by decide) (by decide)) rfl rfl ?_
  have h98 := t98_i (M := M) hp hq hm s hs
  simp [liveZ, zI, rI] at h98
  generalize keyB 105 [s] = k at *
  simp [v42_body, v42_0, v42_1, liveZ, zI, rI, liveH, hq, t99 hp, h98]
def asShU : Nat → U → Bool
  | 45, .agg [.str _, .str _] => true
  | 43, .int .i64 _ => true
  | 191, .ptr _ _ => true
  | _, _ => false
def asWalk (h : List Uo) (tt : Nat) : Nat → U → Option (Option U)
  | 0, _ => none
  | n + 1, .iface t v => bif Nat.beq t tt then (bif asShU tt v then some (some v) else none) else
    bif Nat.beq t 43 || Nat.beq t 45 then some none else
    bif Nat.beq t 191 then (match v with
      | .ptr i 0 => (match h[i]? with
        | some (.row [.str _, .nili]) => some none
        | some (.row [.str _, .iface t' v']) => asWalk h tt n (.iface t' v')
        | _ => none)
      | _ => none) else none
  | _ + 1, _ => none
def asG (h : List Uo) (tt n : Nat) : Option Uo → Option (Option U)
  | some (.row [.str _, .nili]) => some none
  | some (.row [.str _, .iface t' v']) => asWalk h tt n (.iface t' v')
  | _ => none
section
variable {h : List Uo} {n : Nat} {v : U} {p : By} {t i : Nat}
@[simp] theorem asG_nil {tt : Nat} : asG h tt n (some (.row [.str p, .nili])) = some none := rfl
@[simp] theorem asG_if {tt : Nat} : asG h tt n (some (.row [.str p, .iface t v])) = asWalk h tt n (.iface t v) := rfl
@[simp] theorem asWalk_ff {o : Nat} : asWalk h 191 (n + 1) (.iface 191 (.ptr i o)) = some (some (.ptr i o)) := rfl
@[simp] theorem asWalk_nn {q : By} : asWalk h 45 (n + 1) (.iface 45 (.agg [.str p, .str q])) = some (some (.agg [.str p, .str q])) := rfl
@[simp] theorem asWalk_ee {k : Int} : asWalk h 43 (n + 1) (.iface 43 (.int .i64 k)) = some (some (.int .i64 k)) := rfl
@[simp] theorem asWalk_fn : asWalk h 191 (n + 1) (.iface 45 v) = some none := rfl
@[simp] theorem asWalk_fe : asWalk h 191 (n + 1) (.iface 43 v) = some none := rfl
@[simp] theorem asWalk_ne : asWalk h 45 (n + 1) (.iface 43 v) = some none := rfl
@[simp] theorem asWalk_en : asWalk h 43 (n + 1) (.iface 45 v) = some none := rfl
@[simp] theorem asWalk_nf : asWalk h 45 (n + 1) (.iface 191 (.ptr i 0)) = asG h 45 n h[i]? := rfl
@[simp] theorem asWalk_ef : asWalk h 43 (n + 1) (.iface 191 (.ptr i 0)) = asG h 43 n h[i]? := rfl
end
def asElem : Nat → Option Nat
  | 187 => some 45
  | 192 => some 191
  | 197 => some 43
  | _ => none
@[simp] theorem asElem_n : asElem 187 = some 45 := rfl
@[simp] theorem asElem_f : asElem 192 = some 191 := rfl
@[simp] theorem asElem_e : asElem 197 = some 43 := rfl
def asSet (h : List Uo) (fl j : Nat) (cs : List U) : Option (Option U) → Option (U × List Uo × Nat)
  | some none => some (.bool false, h, fl)
  | some (some v) => bif Nat.beq v.cells.length cs.length && v.cells.all U.cellok then some (.bool true, h.set j (.row v.cells), bif v.low (j + 1) then fl else h.length) else none
  | none => none
@[simp] theorem asSet_no (h : List Uo) (fl j : Nat) (cs : List U) : asSet h fl j cs (some none) = some (.bool false, h, fl) := rfl
@[simp] theorem asSet_some (h : List Uo) (fl j : Nat) (cs : List U) (v : U) : asSet h fl j cs (some (some v)) = bif Nat.beq v.cells.length cs.length && v.cells.all U.cellok then some (.bool true, h.set j (.row v.cells), bif v.low (j + 1) then fl else h.length) else none := rfl
def asT (h : List Uo) (fl j : Nat) (e : U) : Option Uo → Option Nat → Option (U × List Uo × Nat)
  | some (.row cs), some tt => asSet h fl j cs (asWalk h tt 64 e)
  | _, _ => none
@[simp] theorem asT_some (h : List Uo) (fl j : Nat) (e : U) (cs : List U) (tt : Nat) : asT h fl j e (some (.row cs)) (some tt) = asSet h fl j cs (asWalk h tt (63 + 1) e) := rfl
def asP : List U → List Uo → Nat → Option (U × List Uo × Nat)
  | [.nili, .iface _ _], h, fl => some (.bool false, h, fl)
  | [.iface t v, .iface tp (.ptr j 0)], h, fl => asT h fl j (.iface t v) h[j]? (asElem tp)
  | _, _, _ => none
@[simp] theorem asP_nil (t : Nat) (v : U) (h : List Uo) (fl : Nat) : asP [.nili, .iface t v] h fl = some (.bool false, h, fl) := rfl
@[simp] theorem asP_if (t tp j : Nat) (v : U) (h : List Uo) (fl : Nat) : asP [.iface t v, .iface tp (.ptr j 0)] h fl = asT h fl j (.iface t v) h[j]? (asElem tp) := rfl
theorem t97 (ha : Pm 97 = some asP) (us : List U) (h : List Uo) (fl : Nat) : gF vTab M Q Pm 97 us h fl = asP us h fl := by rw [gF_prim ha]
theorem t41_i (hp : NoPm Pm) (hq : NoQ Q) (ha : Pm 97 = some asP) (s k : By) (X : Uo) : gF vTab M Q Pm 41 [.iface 191 (.ptr 12 0)] (liveZ s k ++ [X]) 0 = some (.tup [.agg [.str k, .str k], .bool true], liveZ s k ++ [X], 0) := by
  refine gF_of (fn := v41) (hp 41 (by decide) (by decide)) rfl rfl ?_
  simp [v41_body, v41_0, v41_1, v41_2, v41_3, liveZ, zI, rI, hq, t97 ha]
  rfl
theorem t43_i (hp : NoPm Pm) (hq : NoQ Q) (ha : Pm 97 = some asP) (s k : By) (X Y : Uo) : gF vTab M Q Pm 43 [.iface 191 (.ptr 12 0)] (liveZ s k ++ [X, Y]) 0 = some (.own .r 1 [[.str [105]]], liveZ s k ++ [X, Y], 0) := by
  refine gF_of (fn := v43) (hp 43 (by decide) (by decide)) rfl rfl ?_
  simp [v43_body, v43_0, v43_1, v43_2, liveZ, zI, rI]
  rw [gL_round v43_b6.eq_1]
  simp [v43_3, v43_4, v43_5, hq, t97 ha, big, cut]
  rw [gL_round v43_b6.eq_1]
  simp [v43_3, v43_7, hq, t97 ha, cut]
theorem t11 (hp : NoPm Pm) (hq : NoQ Q) (hc : Pm 49 = some cloneP) (ha : Pm 97 = some asP) (hm : M 58 "Get" = some 28) : gF vTab M Q Pm 11 [] [] 0 = some (.bool true, [], 0) := by
  refine gF_of (fn := v11) (hp 11 (by decide) (by decide)) rfl rfl ?_
  have h42 := t42_i (M := M) (Q := Q) (Pm := Pm) hp hq hm [97] (by decide)
  have hk : keyB 105 [[97]] = [105, 97, 0, 1] := by decide
  rw [hk] at h42
  have h33 := t33 (M := M) (Q := Q) (Pm := Pm) hp
  have h41 := t41_i (M := M) hp hq ha [97] [105, 97, 0, 1] zI
  have h43 := t43_i (M := M) hp hq ha [97] [105, 97, 0, 1] zI (.row [.str [105, 97, 0, 1], .str [105, 97, 0, 1]])
  simp [liveZ, zI, rI, liveH] at h42 h33 h41 h43
  simp [v11_body, v11_0, v11_1, v11_2, v11_4, v11_5, v11_6, v11_7, hq, t25 hp hq hc, h33, h42, h41, h43, liveH, shiftO_map]
end Go.RE
namespace Go.RE
variable {M : Nat → String → Option Nat} {Q : Mut} {Pm : Nat → Option (List U → List Uo → Nat → Option (U × List Uo × Nat))}
theorem bool_two (b : Bool) : b = false ∨ b = true := by cases b <;> simp
abbrev Les := Spn × List Pr
def lesC (x : Les) : List U := [.str x.1.1, .str x.1.2, .sl 2 (x.2.map pairC)]
def les1 (x : Les) : Bool := fewL x.2 && decide (x.1.1.length ≤ 300) && decide (x.1.2.length ≤ 300)
def lesB (l : List Les) : Bool := l.all les1 && decide (l.length ≤ 20)
theorem t24_a (hp : NoPm Pm) (hq : NoQ Q) (l : List Les) (hl : l.length ≤ 9223372036854775807) (hL : ∀ x ∈ l, x.2.length ≤ 9223372036854775807) : ∀ (j i : Nat), i + j = l.length →
    gL vTab M Q Pm v24 0 v24_b7 0 ⟨[(7, .int .i64 (i : Int)), (5, .sl 3 (l.map lesC)), (0, .sl 3 (l.map lesC)), (6, .int .i64 (l.length : Int))], [], 0⟩ (seqK vTab M Q Pm v24 (.seq (.region v24_8) .ret) (kE 0 v24 (.bool ((l.drop i).all les1 && decide (l.length ≤ 20)), [], 0))) := by
  intro j
  induction j with
  | zero =>
    intro i hij
    have h1 : ¬ ((i : Int) < (l.length : Int)) := by omega
    have h2 : l.drop i = [] := List.drop_of_length_le (by omega)
    rw [gL_round v24_b7.eq_1, h2]
    simp [v24_2, h1, v24_8]
    omega
  | succ j ih =>
    intro i hij
    have h1 : ((i : Int) < (l.length : Int)) := by omega
    have hi1 : i < l.length := by omega
    have e1 : (l.map lesC)[i]? = some (lesC l[i]) := by simp [hi1]
    have e3 : wrapA .i64 ((i : Int) + 1) = ((i + 1 : Nat) : Int) := wrap_succ (by omega)
    have d1 : l.drop i = l[i] :: l.drop (i + 1) := List.drop_eq_getElem_cons hi1
    have ih' := ih (i + 1) (by omega)
    have c12 := t12 (M := M) (Q := Q) (Pm := Pm) (hp 12 (by decide) (by decide)) l[i].2 (hL _ (List.getElem_mem hi1))
    rw [gL_round v24_b7.eq_1, d1, List.all_cons]
    generalize l[i] = x at *
    have hx : les1 x = (fewL x.2 && decide (x.1.1.length ≤ 300) && decide (x.1.2.length ≤ 300)) := rfl
    rw [hx]
    have ex : lesC x = [.str x.1.1, .str x.1.2, .sl 2 (x.2.map pairC)] := rfl
    rw [ex] at e1
    cases hf : fewL x.2 with
    | false =>
      rw [hf] at c12
      simp [v24_2, v24_3, v24_4, v24_5, h1, iaV_sl e1, hq, c12]
    | true =>
      rw [hf] at c12
      by_cases hk : x.1.1.length ≤ 300
      · have hk' : ¬ (300 : Int) < (x.1.1.length : Int) := by omega
        by_cases hk2 : x.1.2.length ≤ 300
        · have hk2' : ¬ (300 : Int) < (x.1.2.length : Int) := by omega
          simp at ih'
          simp [v24_2, v24_3, v24_4, v24_5, v24_6, h1, iaV_sl e1, hk, hk', hk2, hk2', e3, hq, c12]
          exact ih'
        · have hk2' : (300 : Int) < (x.1.2.length : Int) := by omega
          simp [v24_2, v24_3, v24_4, v24_5, h1, iaV_sl e1, hk, hk', hk2, hk2', hq, c12]
      · have hk' : (300 : Int) < (x.1.1.length : Int) := by omega
        simp [v24_2, v24_3, v24_4, v24_5, h1, iaV_sl e1, hk, hk', hq, c12]
theorem t24 (hp : NoPm Pm) (hq : NoQ Q) (l : List Les) (hl : l.length ≤ 9223372036854775807) (hL : ∀ x ∈ l, x.2.length ≤ 9223372036854775807) : gF vTab M Q Pm 24 [.sl 3 (l.map lesC)] [] 0 = some (.bool (lesB l), [], 0) := by
  refine gF_of (fn := v24) (hp 24 (by decide) (by decide)) rfl rfl ?_
  simp [v24_body, v24_0, v24_1]
  have := t24_a (M := M) hp hq l hl hL l.length 0 (by omega)
  simpa [lesB] using this
def pl : Option Spn → List U
  | none => errZ
  | some s => [.bool true, .sl 1 [], .int .i64 20, .bool true, .str s.1, .str s.2]
def erU : Option Spn → U
  | none => .nili
  | some s => .iface 45 (.agg [.str s.1, .str s.2])
theorem t41_n (hp : NoPm Pm) (hq : NoQ Q) (ha : Pm 97 = some asP) (s : Spn) : gF vTab M Q Pm 41 [.iface 45 (.agg [.str s.1, .str s.2])] [] 0 = some (.tup [.agg [.str s.1, .str s.2], .bool true], [], 0) := by
  refine gF_of (fn := v41) (hp 41 (by decide) (by decide)) rfl rfl ?_
  simp [v41_body, v41_0, v41_1, v41_2, v41_3, hq, t97 ha]
theorem t43_n (hp : NoPm Pm) (hq : NoQ Q) (ha : Pm 97 = some asP) (s : Spn) : gF vTab M Q Pm 43 [.iface 45 (.agg [.str s.1, .str s.2])] [] 0 = some (.own .r 1 [], [], 0) := by
  refine gF_of (fn := v43) (hp 43 (by decide) (by decide)) rfl rfl ?_
  simp [v43_body, v43_0, v43_1, v43_2]
  rw [gL_round v43_b6.eq_1]
  simp [v43_3, v43_7, hq, t97 ha, cut]
theorem t62_n (hp : NoPm Pm) (hq : NoQ Q) (ha : Pm 97 = some asP) (s : Spn) : gF vTab M Q Pm 62 [.iface 45 (.agg [.str s.1, .str s.2])] [] 0 = some (.int .i64 20, [], 0) := by
  refine gF_of (fn := v62) (hp 62 (by decide) (by decide)) rfl rfl ?_
  simp [v62_body, v62_0, v62_1, v62_2, v62_3, v62_4, v62_5, v62_6, hq, t97 ha]
theorem t31 (hp : NoPm Pm) (hq : NoQ Q) (ha : Pm 97 = some asP) (e : Option Spn) : gF vTab M Q Pm 31 [erU e] [] 0 = some (.agg (pl e), [], 0) := by
  refine gF_of (fn := v31) (hp 31 (by decide) (by decide)) rfl rfl ?_
  cases e with
  | none => simp [v31_body, v31_0, v31_1, v31_2, erU, pl, errZ]
  | some s => simp [v31_body, v31_0, v31_1, v31_3, erU, pl, hq, t41_n hp hq ha s, gC_drw v31_4h, v31_4s, t43_n hp hq ha s, t62_n hp hq ha s, Nat.testBit_eq_decide_div_mod_eq]
theorem t61_0 (hp : NoPm Pm) : gF vTab M Q Pm 61 [.sl 1 [], .sl 1 []] [] 0 = some (.bool true, [], 0) := by
  refine gF_of (fn := v61) (hp 61 (by decide) (by decide)) rfl rfl ?_
  simp [v61_body, v61_0, v61_1, v61_3, v61_10]
  rw [gL_round v61_b9.eq_1]
  simp [v61_4, v61_10]
theorem t30 (hp : NoPm Pm) (hq : NoQ Q) (e : Option Spn) : gF vTab M Q Pm 30 [.agg (pl e), .agg (pl e)] [] 0 = some (.bool true, [], 0) := by
  refine gF_of (fn := v30) (hp 30 (by decide) (by decide)) rfl rfl ?_
  cases e with
  | none => simp [v30_body, v30_0, v30_1, pl, errZ, hq, t61_0 hp]
  | some s => simp [v30_body, v30_0, v30_1, pl, hq, t61_0 hp]
end Go.RE
