/- Contracts: pairs, in the reference. -/
import Derived.Test.YtigkmaeaoaejiaaGreatDoorPart12
import Derived.Test.YtigkmaeaoaejiaaGreatDoorPart11
set_option linter.unusedVariables false
set_option linter.unusedSimpArgs false
section
namespace Go.RE
variable {M : Nat → String → Option Nat} {Q : Mut} {Pm : Nat → Option (List U → List Uo → Nat → Option (U × List Uo × Nat))}
abbrev Pr := By × By
abbrev NoPm (Pm : Nat → Option (List U → List Uo → Nat → Option (U × List Uo × Nat))) : Prop := ∀ f, f ≠ 49 → f ≠ 97 → Pm f = none
abbrev NoQ (Q : Mut) : Prop := ∀ f, f ≠ 90 → Q f = none
def pairC (p : Pr) : List U := [.str p.1, .sl 1 (bytesU p.2)]
theorem unbytes_bytes (b : By) : unbytes (bytesU b) = some b := by
  induction b with
  | nil => rfl
  | cons x b ih =>
    have h2 : unbytes (bytesU (x :: b)) = match byteOfU (byteU x) with | some b' => (match unbytes (bytesU b) with | some bs => some (b' :: bs) | none => none) | none => none := rfl
    have h3 : byteOfU (byteU x) = some x := by simp [byteU, byteOfU]
    rw [h2, h3, ih]
@[simp] theorem strV_bytes (s : Vs) (b : By) : strV s (.sl 1 (bytesU b)) = some (.str b, s) := by simp [strV, rowsOf, unbytes_bytes]
@[simp] theorem strV_ownb (s : Vs) (g : Tg) (b : By) : strV s (.own g 1 (bytesU b)) = some (.str b, s) := by simp [strV, rowsOf, unbytes_bytes]
theorem beq_cons {α : Type} [BEq α] (a b : α) (x y : List α) : (a :: x == b :: y) = (a == b && x == y) := rfl
theorem beq_pair {α β : Type} [BEq α] [BEq β] (a b : α × β) : (a == b) = (a.1 == b.1 && a.2 == b.2) := rfl
theorem t45_loop (l l' : List Pr) (hl : l'.length = l.length) (hB : l.length < 9223372036854775807) : ∀ (j i : Nat), i + j = l.length →
    gL vTab M Q Pm v45 0 v45_b9 0 ⟨[(13, .int .i64 (i : Int)), (0, .sl 2 (l.map pairC)), (1, .sl 2 (l'.map pairC)), (12, .int .i64 (l.length : Int))], [], 0⟩ (seqK vTab M Q Pm v45 (.seq (.region v45_10) .ret) (kE 0 v45 (.bool (l.drop i == l'.drop i), [], 0))) := by
  intro j
  induction j with
  | zero =>
    intro i hi
    have h1 : ¬ ((i : Int) < (l.length : Int)) := by omega
    have h2 : l.drop i = [] := List.drop_of_length_le (by omega)
    have h3 : l'.drop i = [] := List.drop_of_length_le (by omega)
    rw [gL_round v45_b9e]
    simp [v45_4, h1, h2, h3, v45_10]
  | succ j ih =>
    intro i hi
    have h1 : ((i : Int) < (l.length : Int)) := by omega
    have hi1 : i < l.length := by omega
    have hi2 : i < l'.length := by omega
    have e1 : (l.map pairC)[i]? = some (pairC l[i]) := by simp [hi1]
    have e2 : (l'.map pairC)[i]? = some (pairC l'[i]) := by simp [hi2]
    have e3 : wrapA .i64 ((i : Int) + 1) = ((i + 1 : Nat) : Int) := wrap_succ (by omega)
    have ih' := ih (i + 1) (by omega)
    have d1 : l.drop i = l[i] :: l.drop (i + 1) := List.drop_eq_getElem_cons hi1
    have d2 : l'.drop i = l'[i] :: l'.drop (i + 1) := List.drop_eq_getElem_cons hi2
    rw [gL_round v45_b9e, d1, d2, beq_cons, beq_pair]
    cases hk : (l[i].1 == l'[i].1) with
    | false => simp [v45_4, v45_5, v45_7, h1, gC_drw v45_6h, v45_6s, iaV_sl e1, iaV_sl e2, pairC, hk]
    | true =>
      cases hk2 : (l[i].2 == l'[i].2) with
      | false => simp [v45_4, v45_5, v45_7, h1, gC_drw v45_6h, v45_6s, iaV_sl e1, iaV_sl e2, pairC, hk, hk2]
      | true => simp [v45_4, v45_5, v45_7, v45_8, h1, gC_drw v45_6h, v45_6s, iaV_sl e1, iaV_sl e2, pairC, hk, hk2, e3]; exact ih'
theorem t45 (h45 : Pm 45 = none) (l l' : List Pr) (hB : l.length < 9223372036854775807) : gF vTab M Q Pm 45 [.sl 2 (l.map pairC), .sl 2 (l'.map pairC)] [] 0 = some (.bool (l == l'), [], 0) := by
  refine gF_of (fn := v45) h45 rfl rfl ?_
  cases hl : ((l.length : Int) == (l'.length : Int)) with
  | false =>
    have : (l == l') = false := by
      cases h : l == l' with
      | false => rfl
      | true => have := eq_of_beq h; subst this; simp at hl
    rw [this]
    simp [v45_body, v45_0, v45_1, v45_2, bne, hl]
  | true =>
    have hl' : l'.length = l.length := by have := eq_of_beq hl; omega
    have := t45_loop (M := M) (Q := Q) (Pm := Pm) l l' hl' hB l.length 0 (by omega)
    simp only [List.drop_zero] at this
    simp [v45_body, v45_0, v45_1, v45_3, bne, hl]
    exact this
abbrev lt (a b : By) : Bool := Op.bytesLess a b
def right (lo hi : By) : Bool := hi == [] || lt lo hi
def has (lo hi k : By) : Bool := !lt k lo && (hi == [] || lt k hi)
def small : Nat := 1000000000
theorem t53 (h : Pm 53 = none) (lo hi : By) : gF vTab M Q Pm 53 [.agg [.str lo, .str hi]] [] 0 = some (.bool (right lo hi), [], 0) := by
  refine gF_of (fn := v53) h rfl rfl ?_
  cases hh : hi == [] <;> simp [v53_body, v53_0, v53_1, hh, right]
theorem t40 (h : Pm 40 = none) (k : By) (hk : k.length < small) : gF vTab M Q Pm 40 [.str k] [] 0 = some (.agg [.str k, .str (k ++ [0])], [], 0) := by
  refine gF_of (fn := v40) h rfl rfl ?_
  have hb : k.length + 1 ≤ big := by unfold small at hk; unfold big; omega
  simp [v40_body, v40_0, v40_1, hb]
theorem t102 (h : Pm 102 = none) (lo hi k : By) : gF vTab M Q Pm 102 [.agg [.str lo, .str hi], .str k] [] 0 = some (.bool (has lo hi k), [], 0) := by
  refine gF_of (fn := v102) h rfl rfl ?_
  cases h1 : lt k lo <;> cases h2 : hi == [] <;> simp [v102_body, v102_0, v102_1, h1, h2, has]
theorem t58 (h : Pm 58 = none) (lo hi k : By) : gF vTab M Q Pm 58 [.agg [.str lo, .str hi], .str k] [] 0 = some (.bool (has lo hi k), [], 0) := by
  refine gF_of (fn := v58) h rfl rfl ?_
  cases h1 : lt k lo <;> cases h2 : hi == [] <;> simp [v58_body, v58_0, v58_1, h1, h2, has]
theorem t23 (h : Pm 23 = none) (a b : By) : gF vTab M Q Pm 23 [.sl 1 (bytesU a), .sl 1 (bytesU b)] [] 0 = some (.bool (a == b), [], 0) := by
  refine gF_of (fn := v23) h rfl rfl ?_
  simp [v23_body, v23_0, v23_1]
theorem t14 (hp : NoPm Pm) (hq : NoQ Q) (l l' : List Pr) (hB : l.length < 9223372036854775807) : gF vTab M Q Pm 14 [.sl 2 (l.map pairC), .sl 2 (l'.map pairC)] [] 0 = some (.bool (l == l'), [], 0) := by
  refine gF_of (fn := v14) (hp 14 (by decide) (by decide)) rfl rfl ?_
  simp [v14_body, v14_0, v14_1, hq, t45 (hp 45 (by decide) (by decide)) l l' hB]
theorem fewA {n : Nat} (h : n < small) : (n + 1) * 40 ≤ big ∧ n + 1 ≤ big := by unfold small at h; unfold big; omega
def putL (l : List Pr) (p : Pr) : List Pr := l.filter (fun x => lt x.1 p.1) ++ [p] ++ l.filter (fun x => lt p.1 x.1)
theorem t47_a (l : List Pr) (k d : By) (K : Ex → Vs → Prop) (hl : l.length < small) : ∀ (j i : Nat) (out : List Pr), i + j = l.length → out.length ≤ i →
    K .normal ⟨[(3, .ptr 0 0), (0, .sl 2 (l.map pairC)), (5, .own (.t 5) 2 ((out ++ (l.drop i).filter (fun x => lt x.1 k)).map pairC))], [.row [.str k, .sl 1 (bytesU d)]], 0⟩ →
    gL vTab M Q Pm v47 0 v47_b8 1 ⟨[(13, .int .i64 (i : Int)), (5, .own (.t 5) 2 (out.map pairC)), (3, .ptr 0 0), (11, .sl 2 (l.map pairC)), (0, .sl 2 (l.map pairC)), (12, .int .i64 (l.length : Int))], [.row [.str k, .sl 1 (bytesU d)]], 0⟩ K := by
  intro j
  induction j with
  | zero =>
    intro i out hi ho hK
    have h1 : ¬ ((i : Int) < (l.length : Int)) := by omega
    have h2 : l.drop i = [] := List.drop_of_length_le (by omega)
    rw [h2] at hK
    rw [gL_round v47_b8e]
    simp [v47_3, h1] at hK ⊢
    exact hK
  | succ j ih =>
    intro i out hi ho hK
    have h1 : ((i : Int) < (l.length : Int)) := by omega
    have hi1 : i < l.length := by omega
    have e1 : (l.map pairC)[i]? = some (pairC l[i]) := by simp [hi1]
    have e3 : wrapA .i64 ((i : Int) + 1) = ((i + 1 : Nat) : Int) := wrap_succ (by unfold small at hl; omega)
    have d1 : l.drop i = l[i] :: l.drop (i + 1) := List.drop_eq_getElem_cons hi1
    rw [d1, List.filter_cons] at hK
    rw [gL_round v47_b8e]
    obtain ⟨f1, f2⟩ := fewA (n := out.length) (by omega)
    cases hk : lt l[i].1 k with
    | false =>
      have ih' := ih (i + 1) out (by omega) (by omega)
      simp [hk] at hK ih'
      simp [v47_3, v47_4, v47_5, v47_6, v47_7, h1, iaV_sl e1, pairC, hk, e3]
      exact ih' hK
    | true =>
      have ih' := ih (i + 1) (out ++ [l[i]]) (by omega) (by simp; omega)
      simp [hk, pairC] at hK ih'
      simp [v47_3, v47_4, v47_5, v47_6, v47_7, h1, iaV_sl e1, pairC, hk, e3, f1, f2]
      exact ih' hK
theorem t47_b (l : List Pr) (k d : By) (K : Ex → Vs → Prop) (hl : l.length < small) : ∀ (j i : Nat) (out : List Pr), i + j = l.length → out.length ≤ l.length + 1 + i →
    K .normal ⟨[(5, .own (.t 5) 2 ((out ++ (l.drop i).filter (fun x => lt k x.1)).map pairC))], [.row [.str k, .sl 1 (bytesU d)]], 0⟩ →
    gL vTab M Q Pm v47 2 v47_b16 1 ⟨[(33, .int .i64 (i : Int)), (5, .own (.t 5) 2 (out.map pairC)), (3, .ptr 0 0), (31, .sl 2 (l.map pairC)), (32, .int .i64 (l.length : Int))], [.row [.str k, .sl 1 (bytesU d)]], 0⟩ K := by
  intro j
  induction j with
  | zero =>
    intro i out hi ho hK
    have h1 : ¬ ((i : Int) < (l.length : Int)) := by omega
    have h2 : l.drop i = [] := List.drop_of_length_le (by omega)
    rw [h2] at hK
    rw [gL_round v47_b16e]
    simp [v47_11, h1] at hK ⊢
    exact hK
  | succ j ih =>
    intro i out hi ho hK
    have h1 : ((i : Int) < (l.length : Int)) := by omega
    have hi1 : i < l.length := by omega
    have e1 : (l.map pairC)[i]? = some (pairC l[i]) := by simp [hi1]
    have e3 : wrapA .i64 ((i : Int) + 1) = ((i + 1 : Nat) : Int) := wrap_succ (by unfold small at hl; omega)
    have d1 : l.drop i = l[i] :: l.drop (i + 1) := List.drop_eq_getElem_cons hi1
    rw [d1, List.filter_cons] at hK
    rw [gL_round v47_b16e]
    obtain ⟨f1, f2⟩ : (out.length + 1) * 40 ≤ big ∧ out.length + 1 ≤ big := by unfold small at hl; unfold big; omega
    cases hk : lt k l[i].1 with
    | false =>
      have ih' := ih (i + 1) out (by omega) (by omega)
      simp [hk] at hK ih'
      simp [v47_11, v47_12, v47_13, v47_14, v47_15, h1, iaV_sl e1, pairC, hk, e3]
      exact ih' hK
    | true =>
      have ih' := ih (i + 1) (out ++ [l[i]]) (by omega) (by simp; omega)
      simp [hk, pairC] at hK ih'
      simp [v47_11, v47_12, v47_13, v47_14, v47_15, h1, iaV_sl e1, pairC, hk, e3, f1, f2]
      exact ih' hK
theorem filt_len {α : Type} (p : α → Bool) (l : List α) : (l.filter p).length ≤ l.length := List.length_filter_le p l
theorem t47 (hp : NoPm Pm) (l : List Pr) (p : Pr) (hl : l.length < small) : gF vTab M Q Pm 47 [.sl 2 (l.map pairC), .agg (pairC p)] [] 0 = some (.own .r 2 ((putL l p).map pairC), [], 0) := by
  refine gF_of (fn := v47) (hp 47 (by decide) (by decide)) rfl rfl ?_
  obtain ⟨k, d⟩ := p
  have a := t47_a (M := M) (Q := Q) (Pm := Pm) l k d
  have b := t47_b (M := M) (Q := Q) (Pm := Pm) l k d
  have hf := filt_len (fun x : Pr => lt x.1 k) l
  obtain ⟨f1, f2⟩ : ((l.filter (fun x : Pr => lt x.1 k)).length + 1) * 40 ≤ big ∧ (l.filter (fun x : Pr => lt x.1 k)).length + 1 ≤ big := by unfold small at hl; unfold big; omega
  simp [v47_body, v47_0, v47_1, v47_2, pairC]
  refine a _ hl l.length 0 [] (by omega) (by simp) ?_
  simp [v47_9, v47_10, pairC, f1, f2]
  have b' := b (seqK vTab M Q Pm v47 (.seq (.region v47_17) .ret) (kE 0 v47 (.own .r 2 ((putL l (k, d)).map pairC), [], 0))) hl l.length 0 (l.filter (fun x => lt x.1 k) ++ [(k, d)]) (by omega) (by simp; omega)
  simp [pairC, putL, v47_17] at b' ⊢
  exact b'
theorem t50_a (hp : NoPm Pm) (hq : NoQ Q) (l : List Pr) (lo hi : By) (K : Ex → Vs → Prop) (hl : l.length < small) : ∀ (j i : Nat) (out : List Pr), i + j = l.length → out.length ≤ i →
    K .normal ⟨[(5, .own (.t 5) 2 ((out ++ (l.drop i).filter (fun x => !has lo hi x.1)).map pairC))], [.row [.str lo, .str hi]], 0⟩ →
    gL vTab M Q Pm v50 0 v50_b8 1 ⟨[(11, .int .i64 (i : Int)), (5, .own (.t 5) 2 (out.map pairC)), (3, .ptr 0 0), (9, .sl 2 (l.map pairC)), (10, .int .i64 (l.length : Int))], [.row [.str lo, .str hi]], 0⟩ K := by
  intro j
  induction j with
  | zero =>
    intro i out hij ho hK
    have h1 : ¬ ((i : Int) < (l.length : Int)) := by omega
    have h2 : l.drop i = [] := List.drop_of_length_le (by omega)
    rw [h2] at hK
    rw [gL_round v50_b8e]
    simp [v50_3, h1] at hK ⊢
    exact hK
  | succ j ih =>
    intro i out hij ho hK
    have h1 : ((i : Int) < (l.length : Int)) := by omega
    have hi1 : i < l.length := by omega
    have e1 : (l.map pairC)[i]? = some (pairC l[i]) := by simp [hi1]
    have e3 : wrapA .i64 ((i : Int) + 1) = ((i + 1 : Nat) : Int) := wrap_succ (by unfold small at hl; omega)
    have d1 : l.drop i = l[i] :: l.drop (i + 1) := List.drop_eq_getElem_cons hi1
    rw [d1, List.filter_cons] at hK
    rw [gL_round v50_b8e]
    obtain ⟨f1, f2⟩ : (out.length + 1) * 40 ≤ big ∧ out.length + 1 ≤ big := by unfold small at hl; unfold big; omega
    cases hk : has lo hi l[i].1 with
    | true =>
      have ih' := ih (i + 1) out (by omega) (by omega)
      simp [hk] at hK ih'
      simp [v50_3, v50_4, v50_5, v50_6, v50_7, h1, iaV_sl e1, pairC, hk, e3, hq, t102 (hp 102 (by decide) (by decide))]
      exact ih' hK
    | false =>
      have ih' := ih (i + 1) (out ++ [l[i]]) (by omega) (by simp; omega)
      simp [hk, pairC] at hK ih'
      simp [v50_3, v50_4, v50_5, v50_6, v50_7, h1, iaV_sl e1, pairC, hk, e3, f1, f2, hq, t102 (hp 102 (by decide) (by decide))]
      exact ih' hK
theorem t50 (hp : NoPm Pm) (hq : NoQ Q) (l : List Pr) (lo hi : By) (hl : l.length < small) : gF vTab M Q Pm 50 [.sl 2 (l.map pairC), .agg [.str lo, .str hi]] [] 0 = some (.own .r 2 ((l.filter (fun x => !has lo hi x.1)).map pairC), [], 0) := by
  refine gF_of (fn := v50) (hp 50 (by decide) (by decide)) rfl rfl ?_
  simp [v50_body, v50_0, v50_1, v50_2]
  refine t50_a hp hq l lo hi _ hl l.length 0 [] (by omega) (by simp) ?_
  simp [v50_9]
theorem t55_a (hp : NoPm Pm) (hq : NoQ Q) (l : List Pr) (lo hi : By) (K : Ex → Vs → Prop) (hl : l.length < small) : ∀ (j i : Nat) (out : List Pr), i + j = l.length → out.length ≤ i →
    K .normal ⟨[(5, .own (.t 5) 2 ((out ++ (l.drop i).filter (fun x => has lo hi x.1)).map pairC))], [.row [.str lo, .str hi]], 0⟩ →
    gL vTab M Q Pm v55 0 v55_b8 1 ⟨[(11, .int .i64 (i : Int)), (5, .own (.t 5) 2 (out.map pairC)), (3, .ptr 0 0), (9, .sl 2 (l.map pairC)), (10, .int .i64 (l.length : Int))], [.row [.str lo, .str hi]], 0⟩ K := by
  intro j
  induction j with
  | zero =>
    intro i out hij ho hK
    have h1 : ¬ ((i : Int) < (l.length : Int)) := by omega
    have h2 : l.drop i = [] := List.drop_of_length_le (by omega)
    rw [h2] at hK
    rw [gL_round v55_b8e]
    simp [v55_3, h1] at hK ⊢
    exact hK
  | succ j ih =>
    intro i out hij ho hK
    have h1 : ((i : Int) < (l.length : Int)) := by omega
    have hi1 : i < l.length := by omega
    have e1 : (l.map pairC)[i]? = some (pairC l[i]) := by simp [hi1]
    have e3 : wrapA .i64 ((i : Int) + 1) = ((i + 1 : Nat) : Int) := wrap_succ (by unfold small at hl; omega)
    have d1 : l.drop i = l[i] :: l.drop (i + 1) := List.drop_eq_getElem_cons hi1
    rw [d1, List.filter_cons] at hK
    rw [gL_round v55_b8e]
    obtain ⟨f1, f2⟩ : (out.length + 1) * 40 ≤ big ∧ out.length + 1 ≤ big := by unfold small at hl; unfold big; omega
    cases hk : has lo hi l[i].1 with
    | false =>
      have ih' := ih (i + 1) out (by omega) (by omega)
      simp [hk] at hK ih'
      simp [v55_3, v55_4, v55_5, v55_6, v55_7, h1, iaV_sl e1, pairC, hk, e3, hq, t102 (hp 102 (by decide) (by decide))]
      exact ih' hK
    | true =>
      have ih' := ih (i + 1) (out ++ [l[i]]) (by omega) (by simp; omega)
      simp [hk, pairC] at hK ih'
      simp [v55_3, v55_4, v55_5, v55_6, v55_7, h1, iaV_sl e1, pairC, hk, e3, f1, f2, hq, t102 (hp 102 (by decide) (by decide))]
      exact ih' hK
theorem t55 (hp : NoPm Pm) (hq : NoQ Q) (l : List Pr) (lo hi : By) (hl : l.length < small) : gF vTab M Q Pm 55 [.sl 2 (l.map pairC), .agg [.str lo, .str hi]] [] 0 = some (.own .r 2 ((l.filter (fun x => has lo hi x.1)).map pairC), [], 0) := by
  refine gF_of (fn := v55) (hp 55 (by decide) (by decide)) rfl rfl ?_
  simp [v55_body, v55_0, v55_1, v55_2]
  refine t55_a hp hq l lo hi _ hl l.length 0 [] (by omega) (by simp) ?_
  simp [v55_9]
theorem putL_len (l : List Pr) (p : Pr) : (putL l p).length ≤ l.length + 1 := by
  have : ∀ l : List Pr, (l.filter (fun x => lt x.1 p.1)).length + (l.filter (fun x => lt p.1 x.1)).length ≤ l.length := by
    intro l
    induction l with
    | nil => simp
    | cons x l ih =>
      rw [List.filter_cons, List.filter_cons]
      cases h1 : lt x.1 p.1 with
      | true =>
        have h2 : lt p.1 x.1 = false := lt_asy h1
        simp only [h2, if_true, Bool.false_eq_true, if_false, List.length_cons]; omega
      | false =>
        cases h2 : lt p.1 x.1 with
        | true => simp only [if_true, Bool.false_eq_true, if_false, List.length_cons]; omega
        | false => simp only [Bool.false_eq_true, if_false, List.length_cons]; omega
  have h := this l
  simp only [putL, List.length_append, List.length_singleton]; omega
def pairsL (l : List Pr) : List Pr := l.foldl putL []
theorem t16_a (hp : NoPm Pm) (hq : NoQ Q) (l : List Pr) (K : Ex → Vs → Prop) (hl : l.length < small) : ∀ (j i : Nat) (out : List Pr), i + j = l.length → out.length ≤ i →
    K .normal ⟨[(3, .own (.t 3) 2 (((l.drop i).foldl putL out).map pairC))], [], 0⟩ →
    gL vTab M Q Pm v16 0 v16_b7 0 ⟨[(9, .int .i64 (i : Int)), (3, .own (.t 3) 2 (out.map pairC)), (7, .sl 2 (l.map pairC)), (8, .int .i64 (l.length : Int))], [], 0⟩ K := by
  intro j
  induction j with
  | zero =>
    intro i out hij ho hK
    have h1 : ¬ ((i : Int) < (l.length : Int)) := by omega
    have h2 : l.drop i = [] := List.drop_of_length_le (by omega)
    rw [h2] at hK
    rw [gL_round v16_b7e]
    simp [v16_3, h1] at hK ⊢
    exact hK
  | succ j ih =>
    intro i out hij ho hK
    have h1 : ((i : Int) < (l.length : Int)) := by omega
    have hi1 : i < l.length := by omega
    have e1 : (l.map pairC)[i]? = some (pairC l[i]) := by simp [hi1]
    have e3 : wrapA .i64 ((i : Int) + 1) = ((i + 1 : Nat) : Int) := wrap_succ (by unfold small at hl; omega)
    have d1 : l.drop i = l[i] :: l.drop (i + 1) := List.drop_eq_getElem_cons hi1
    rw [d1, List.foldl_cons] at hK
    rw [gL_round v16_b7e]
    have ih' := ih (i + 1) (putL out l[i]) (by omega) (by have := putL_len out l[i]; omega) hK
    have hc := t47 (M := M) (Q := Q) hp out l[i] (by omega)
    simp only [pairC] at hc
    simp at ih'
    cases hfl : U.flatss ((putL out l[i]).map pairC) <;>
      (simp [v16_3, v16_4, v16_5, v16_6, h1, iaV_sl e1, show pairC l[i] = [.str l[i].1, .sl 1 (bytesU l[i].2)] from rfl, e3, hq, hc, hfl]
       exact ih')
theorem t16 (hp : NoPm Pm) (hq : NoQ Q) (l : List Pr) (hl : l.length < small) : gF vTab M Q Pm 16 [.sl 2 (l.map pairC)] [] 0 = some (.own .r 2 ((pairsL l).map pairC), [], 0) := by
  refine gF_of (fn := v16) (hp 16 (by decide) (by decide)) rfl rfl ?_
  simp [v16_body, v16_0, v16_1, v16_2]
  refine t16_a hp hq l _ hl l.length 0 [] (by omega) (by simp) ?_
  simp [v16_8, pairsL]
abbrev Wr := By × Bool × By
def wrC (w : Wr) : List U := [.str w.1, .bool w.2.1, .sl 1 (bytesU w.2.2)]
def cutL (l : List Pr) (k : By) : List Pr := l.filter fun x => !has k (k ++ [0]) x.1
def apply1 (l : List Pr) (w : Wr) : List Pr := if w.2.1 = true then cutL l w.1 else putL (cutL l w.1) (w.1, w.2.2)
def applyL (l : List Pr) (w : List Wr) : List Pr := w.foldl apply1 l
theorem cutL_len (l : List Pr) (k : By) : (cutL l k).length ≤ l.length := List.length_filter_le _ _
theorem apply1_len (l : List Pr) (w : Wr) : (apply1 l w).length ≤ l.length + 1 := by
  unfold apply1
  have h1 := cutL_len l w.1
  have h2 := putL_len (cutL l w.1) (w.1, w.2.2)
  split <;> omega
def shp (b : Bool) (g : Tg) (rows : List (List U)) : U := bif b then .own g 2 rows else .sl 2 rows
theorem t18_a (hp : NoPm Pm) (hq : NoQ Q) (w : List Wr) (K : Ex → Vs → Prop) (N : Nat) (hN : N + w.length < small) (hw : ∀ x ∈ w, x.1.length < small) : ∀ (j i : Nat) (b : Bool) (out : List Pr), i + j = w.length → out.length ≤ N + i →
    K .normal ⟨[(0, shp (b || decide (i < w.length)) (.t 0) (((w.drop i).foldl apply1 out).map pairC))], [], 0⟩ →
    gL vTab M Q Pm v18 0 v18_b8 0 ⟨[(9, .int .i64 (i : Int)), (0, shp b (.t 0) (out.map pairC)), (7, .sl 3 (w.map wrC)), (8, .int .i64 (w.length : Int))], [], 0⟩ K := by
  intro j
  induction j with
  | zero =>
    intro i b out hij ho hK
    have h1 : ¬ ((i : Int) < (w.length : Int)) := by omega
    have h2 : w.drop i = [] := List.drop_of_length_le (by omega)
    have h3 : ¬ i < w.length := by omega
    rw [h2] at hK
    rw [gL_round v18_b8e]
    cases b <;> (simp [v18_2, h1, h3, shp] at hK ⊢; exact hK)
  | succ j ih =>
    intro i b out hij ho hK
    have h1 : ((i : Int) < (w.length : Int)) := by omega
    have hi1 : i < w.length := by omega
    have e1 : (w.map wrC)[i]? = some (wrC w[i]) := by simp [hi1]
    have e3 : wrapA .i64 ((i : Int) + 1) = ((i + 1 : Nat) : Int) := wrap_succ (by unfold small at hN; omega)
    have d1 : w.drop i = w[i] :: w.drop (i + 1) := List.drop_eq_getElem_cons hi1
    have hkl := hw w[i] (List.getElem_mem hi1)
    rw [d1, List.foldl_cons] at hK
    rw [gL_round v18_b8e]
    have ih' := ih (i + 1) true (apply1 out w[i]) (by omega) (by have := apply1_len out w[i]; omega) (by simpa [hi1] using hK)
    have hc := t50 (M := M) (Q := Q) hp hq out w[i].1 (w[i].1 ++ [0]) (by omega)
    have hp1 := t40 (M := M) (Q := Q) (Pm := Pm) (hp 40 (by decide) (by decide)) w[i].1 hkl
    have hput := t47 (M := M) (Q := Q) hp (cutL out w[i].1) (w[i].1, w[i].2.2) (by have := cutL_len out w[i].1; omega)
    have ecut : out.filter (fun x => !has w[i].1 (w[i].1 ++ [0]) x.1) = cutL out w[i].1 := rfl
    rw [ecut] at hc
    simp only [pairC] at hput
    simp [shp] at ih'
    have ew : wrC w[i] = [.str w[i].1, .bool w[i].2.1, .sl 1 (bytesU w[i].2.2)] := rfl
    cases hg : w[i].2.1 with
    | true =>
      simp [apply1, hg] at ih'
      cases b <;> cases hfl : U.flatss ((cutL out w[i].1).map pairC) <;>
        (simp [v18_2, v18_3, v18_4, v18_5, v18_7, h1, iaV_sl e1, ew, e3, hq, hc, hp1, hfl, hg, shp]
         exact ih')
    | false =>
      simp [apply1, hg] at ih'
      cases b <;> cases hfl : U.flatss ((cutL out w[i].1).map pairC) <;> cases hfl2 : U.flatss ((putL (cutL out w[i].1) (w[i].1, w[i].2.2)).map pairC) <;>
        (simp [v18_2, v18_3, v18_4, v18_5, v18_6, v18_7, h1, iaV_sl e1, ew, e3, hq, hc, hp1, hput, hfl, hfl2, hg, shp]
         exact ih')
theorem t18 (hp : NoPm Pm) (hq : NoQ Q) (l : List Pr) (w : List Wr) (hl : l.length + w.length < small) (hw : ∀ x ∈ w, x.1.length < small) :
    gF vTab M Q Pm 18 [.sl 2 (l.map pairC), .sl 3 (w.map wrC)] [] 0 = some (shp (decide (0 < w.length)) .r ((applyL l w).map pairC), [], 0) := by
  refine gF_of (fn := v18) (hp 18 (by decide) (by decide)) rfl rfl ?_
  simp [v18_body, v18_0, v18_1]
  have a := t18_a (M := M) hp hq w (seqK vTab M Q Pm v18 (.seq (.region v18_9) .ret) (kE 0 v18 (shp (decide (0 < w.length)) .r ((applyL l w).map pairC), [], 0))) l.length hl hw w.length 0 false l (by omega) (by omega)
  simp [shp] at a ⊢
  refine a ?_
  cases hw0 : decide (0 < w.length) <;> simp [v18_9, applyL]
end Go.RE
end
section
namespace Go.RE
theorem at_old {h l : List Uo} {i : Nat} {o : Uo} (hi : h[i]? = some o) : (h ++ l)[i]? = some o := by
  rw [List.getElem?_append_left (List.getElem?_eq_some_iff.1 hi).1]; exact hi
@[simp] theorem at0 (h l : List Uo) (a : Uo) : (h ++ a :: l)[h.length]? = some a := by simp
@[simp] theorem at1 (h l : List Uo) (a b : Uo) : (h ++ a :: b :: l)[h.length + 1]? = some b := by simp
@[simp] theorem at2 (h l : List Uo) (a b c : Uo) : (h ++ a :: b :: c :: l)[h.length + 1 + 1]? = some c := by
  rw [List.getElem?_append_right (by omega), show h.length + 1 + 1 - h.length = 2 by omega]; rfl
@[simp] theorem at2' (h l : List Uo) (a b c : Uo) : (h ++ a :: b :: c :: l)[h.length + 2]? = some c := at2 h l a b c
@[simp] theorem set0 (h l : List Uo) (a x : Uo) : (h ++ a :: l).set h.length x = h ++ x :: l := by simp
@[simp] theorem set1 (h l : List Uo) (a b x : Uo) : (h ++ a :: b :: l).set (h.length + 1) x = h ++ a :: x :: l := by
  rw [List.set_append_right _ _ (by omega), show h.length + 1 - h.length = 1 by omega]; rfl
@[simp] theorem set2 (h l : List Uo) (a b c x : Uo) : (h ++ a :: b :: c :: l).set (h.length + 2) x = h ++ a :: b :: x :: l := by
  rw [List.set_append_right _ _ (by omega), show h.length + 2 - h.length = 2 by omega]; rfl
theorem cut0 {fl : Nat} {h : List Uo} (hf : fl ≤ h.length) (l : List Uo) : cut h.length fl (h ++ l) = h := cut_app hf
theorem cut1 {fl : Nat} {h : List Uo} (hf : fl ≤ h.length) (a : Uo) (l : List Uo) : cut (h.length + 1) fl (h ++ a :: l) = h ++ [a] := by
  unfold cut
  rw [Nat.max_eq_left (by omega), List.take_append, List.take_of_length_le (by omega), show h.length + 1 - h.length = 1 by omega]; rfl
theorem cut2 {fl : Nat} {h : List Uo} (hf : fl ≤ h.length) (a b : Uo) (l : List Uo) : cut (h.length + 2) fl (h ++ a :: b :: l) = h ++ [a, b] := by
  unfold cut
  rw [Nat.max_eq_left (by omega), List.take_append, List.take_of_length_le (by omega), show h.length + 2 - h.length = 2 by omega]; rfl
@[simp] theorem landR_cons (d : Nat) (r : U) (a : Uo) (as : List Uo) (fc : Nat) (e : Env) (h : List Uo) (fl : Nat) : landR d r (a :: as) fc ⟨e, h, fl⟩ = bindR d (r.shift h.length) ⟨e, h ++ (a :: as).map (shiftO h.length), bif Nat.beq fc 0 then fl else h.length + fc⟩ := rfl
section
variable (k : Nat)
@[simp] theorem shift_ptr (i o : Nat) : U.shift k (.ptr i o) = .ptr (i + k) o := by simp only [U.shift]
@[simp] theorem shift_map (i : Nat) : U.shift k (.map i) = .map (i + k) := by simp only [U.shift]
@[simp] theorem shift_bool (b : Bool) : U.shift k (.bool b) = .bool b := by simp only [U.shift]
@[simp] theorem shift_int (j : IntKind) (n : Int) : U.shift k (.int j n) = .int j n := by simp only [U.shift]
@[simp] theorem shift_str (b : List UInt8) : U.shift k (.str b) = .str b := by simp only [U.shift]
@[simp] theorem shift_sl (w : Nat) (xs : List (List U)) : U.shift k (.sl w xs) = .sl w xs := by simp only [U.shift]
@[simp] theorem shift_nl (w : Nat) : U.shift k (.nl w) = .nl w := by simp only [U.shift]
@[simp] theorem shift_own (g : Tg) (w : Nat) (xs : List (List U)) : U.shift k (.own g w xs) = .own g w xs := by simp only [U.shift]
@[simp] theorem shift_cown (w : Nat) (xs : List (List U)) : U.shift k (.cown w xs) = .cown w xs := by simp only [U.shift]
@[simp] theorem shift_nilp : U.shift k .nilp = .nilp := by simp only [U.shift]
@[simp] theorem shift_nilm : U.shift k .nilm = .nilm := by simp only [U.shift]
@[simp] theorem shift_nilf : U.shift k .nilf = .nilf := by simp only [U.shift]
@[simp] theorem shift_nili : U.shift k .nili = .nili := by simp only [U.shift]
@[simp] theorem shift_iface (t : Nat) (v : U) : U.shift k (.iface t v) = .iface t (v.shift k) := by simp only [U.shift]
@[simp] theorem shift_agg (a : List U) : U.shift k (.agg a) = .agg (U.shifts k a) := by simp only [U.shift]
@[simp] theorem shift_tup (a : List U) : U.shift k (.tup a) = .tup (U.shifts k a) := by simp only [U.shift]
@[simp] theorem shifts_nil : U.shifts k [] = [] := by simp only [U.shifts]
@[simp] theorem shifts_cons (a : U) (r : List U) : U.shifts k (a :: r) = a.shift k :: U.shifts k r := by simp only [U.shifts]
@[simp] theorem shiftO_row (cs : List U) : shiftO k (.row cs) = .row (U.shifts k cs) := rfl
theorem shiftO_map (es : List (U × U × Nat)) (c : Nat) : shiftO k (.map es c) = .map (es.map fun e => (e.1.shift k, e.2.1.shift k, e.2.2)) c := rfl
end
end Go.RE
end
section
namespace Go.RE
variable {M : Nat → String → Option Nat} {Q : Mut} {Pm : Nat → Option (List U → List Uo → Nat → Option (U × List Uo × Nat))}
abbrev Spn := By × By
def spC (s : Spn) : List U := [.str s.1, .str s.2]
def inB (l : List Spn) (k : By) : Bool := l.any fun s => has s.1 s.2 k
theorem t51_a (hp : NoPm Pm) (hq : NoQ Q) (l : List Spn) (k : By) (hl : l.length < small) : ∀ (j i : Nat), i + j = l.length →
    gL vTab M Q Pm v51 0 v51_b7 0 ⟨[(9, .int .i64 (i : Int)), (1, .str k), (7, .sl 2 (l.map spC)), (8, .int .i64 (l.length : Int))], [], 0⟩ (seqK vTab M Q Pm v51 (.seq (.region v51_8) .ret) (kE 0 v51 (.bool (inB (l.drop i) k), [], 0))) := by
  intro j
  induction j with
  | zero =>
    intro i hij
    have h1 : ¬ ((i : Int) < (l.length : Int)) := by omega
    have h2 : l.drop i = [] := List.drop_of_length_le (by omega)
    rw [gL_round v51_b7e, h2]
    simp [v51_2, h1, v51_8, inB]
  | succ j ih =>
    intro i hij
    have h1 : ((i : Int) < (l.length : Int)) := by omega
    have hi1 : i < l.length := by omega
    have e1 : (l.map spC)[i]? = some (spC l[i]) := by simp [hi1]
    have e3 : wrapA .i64 ((i : Int) + 1) = ((i + 1 : Nat) : Int) := wrap_succ (by unfold small at hl; omega)
    have d1 : l.drop i = l[i] :: l.drop (i + 1) := List.drop_eq_getElem_cons hi1
    have ih' := ih (i + 1) (by omega)
    have hI : inB (l.drop i) k = (has l[i].1 l[i].2 k || inB (l.drop (i + 1)) k) := by rw [d1]; rfl
    rw [gL_round v51_b7e, hI]
    cases hk : has l[i].1 l[i].2 k with
    | true => simp [v51_2, v51_3, v51_4, v51_5, h1, iaV_sl e1, spC, hk, hq, t102 (hp 102 (by decide) (by decide))]
    | false =>
      simp at ih'
      simp [v51_2, v51_3, v51_4, v51_5, v51_6, h1, iaV_sl e1, spC, hk, hq, t102 (hp 102 (by decide) (by decide)), e3]
      exact ih'
theorem t51 (hp : NoPm Pm) (hq : NoQ Q) (l : List Spn) (k : By) (hl : l.length < small) : gF vTab M Q Pm 51 [.sl 2 (l.map spC), .str k] [] 0 = some (.bool (inB l k), [], 0) := by
  refine gF_of (fn := v51) (hp 51 (by decide) (by decide)) rfl rfl ?_
  simp [v51_body, v51_0, v51_1]
  have := t51_a (M := M) hp hq l k hl l.length 0 (by omega)
  simpa using this
def fewL (l : List Pr) : Bool := l.all (fun p => decide (p.1.length ≤ 300) && decide (p.2.length ≤ 300)) && decide (l.length ≤ 100)
theorem bytes_len (b : By) : (bytesU b).length = b.length := by simp [bytesU]
theorem t12_a (l : List Pr) (hl : l.length < 9223372036854775807) : ∀ (j i : Nat), i + j = l.length →
    gL vTab M Q Pm v12 0 v12_b7 0 ⟨[(7, .int .i64 (i : Int)), (5, .sl 2 (l.map pairC)), (0, .sl 2 (l.map pairC)), (6, .int .i64 (l.length : Int))], [], 0⟩ (seqK vTab M Q Pm v12 (.seq (.region v12_8) .ret) (kE 0 v12 (.bool ((l.drop i).all (fun p => decide (p.1.length ≤ 300) && decide (p.2.length ≤ 300)) && decide (l.length ≤ 100)), [], 0))) := by
  intro j
  induction j with
  | zero =>
    intro i hij
    have h1 : ¬ ((i : Int) < (l.length : Int)) := by omega
    have h2 : l.drop i = [] := List.drop_of_length_le (by omega)
    rw [gL_round v12_b7e, h2]
    simp [v12_2, h1, v12_8]
    omega
  | succ j ih =>
    intro i hij
    have h1 : ((i : Int) < (l.length : Int)) := by omega
    have hi1 : i < l.length := by omega
    have e1 : (l.map pairC)[i]? = some (pairC l[i]) := by simp [hi1]
    have e3 : wrapA .i64 ((i : Int) + 1) = ((i + 1 : Nat) : Int) := wrap_succ (by omega)
    have d1 : l.drop i = l[i] :: l.drop (i + 1) := List.drop_eq_getElem_cons hi1
    have ih' := ih (i + 1) (by omega)
    rw [gL_round v12_b7e, d1, List.all_cons]
    by_cases hk : l[i].1.length ≤ 300
    · have hk' : ¬ (300 : Int) < (l[i].1.length : Int) := by omega
      by_cases hk2 : l[i].2.length ≤ 300
      · have hk2' : ¬ (300 : Int) < (l[i].2.length : Int) := by omega
        simp at ih'
        simp [v12_2, v12_3, v12_4, v12_5, v12_6, h1, iaV_sl e1, pairC, hk, hk', hk2, hk2', e3, bytes_len]
        exact ih'
      · have hk2' : (300 : Int) < (l[i].2.length : Int) := by omega
        simp [v12_2, v12_3, v12_4, v12_5, h1, iaV_sl e1, pairC, hk, hk', hk2, hk2', bytes_len]
    · have hk' : (300 : Int) < (l[i].1.length : Int) := by omega
      simp [v12_2, v12_3, v12_4, v12_5, h1, iaV_sl e1, pairC, hk, hk']
theorem t12 (h : Pm 12 = none) (l : List Pr) (hl : l.length < 9223372036854775807) : gF vTab M Q Pm 12 [.sl 2 (l.map pairC)] [] 0 = some (.bool (fewL l), [], 0) := by
  refine gF_of (fn := v12) h rfl rfl ?_
  simp [v12_body, v12_0, v12_1]
  have := t12_a (M := M) (Q := Q) (Pm := Pm) l hl l.length 0 (by omega)
  simpa [fewL] using this
def errZ : List U := [.bool false, .sl 1 [], .int .i64 0, .bool false, .str [], .str []]
def getL (P : List Pr) (k : By) : Option By := (P.find? (fun p => p.1 == k)).map (·.2)
def getR (o : Option By) : U := .tup [.sl 1 (bytesU (o.getD [])), .bool o.isSome, .agg errZ]
theorem t20_a (P : List Pr) (k : By) (h : List Uo) (fl : Nat) (hf : fl ≤ h.length) (hl : P.length < small) (n : Nat) (hn : n = h.length + 1) : ∀ (j i : Nat), i + j = P.length →
    gL vTab M Q Pm v20 0 v20_b9 n ⟨[(6, .ptr h.length 0), (40, .int .i64 (i : Int)), (1, .str k), (38, .sl 2 (P.map pairC)), (39, .int .i64 (P.length : Int))], h ++ [.row errZ], fl⟩ (seqK vTab M Q Pm v20 (.seq (.region v20_10) .ret) (kE h.length v20 (getR (getL (P.drop i) k), h, fl))) := by
  subst hn
  intro j
  induction j with
  | zero =>
    intro i hij
    have h1 : ¬ ((i : Int) < (P.length : Int)) := by omega
    have h2 : P.drop i = [] := List.drop_of_length_le (by omega)
    rw [gL_round v20_b9e, h2]
    simp [v20_4, h1, v20_10, errZ, getR, getL, cut1 hf, cut0 hf, bytesU]
  | succ j ih =>
    intro i hij
    have h1 : ((i : Int) < (P.length : Int)) := by omega
    have hi1 : i < P.length := by omega
    have e1 : (P.map pairC)[i]? = some (pairC P[i]) := by simp [hi1]
    have e3 : wrapA .i64 ((i : Int) + 1) = ((i + 1 : Nat) : Int) := wrap_succ (by unfold small at hl; omega)
    have d1 : P.drop i = P[i] :: P.drop (i + 1) := List.drop_eq_getElem_cons hi1
    have ih' := ih (i + 1) (by omega)
    have hI : getL (P.drop i) k = if (P[i].1 == k) = true then some P[i].2 else getL (P.drop (i + 1)) k := by
      rw [d1]; unfold getL; rw [List.find?_cons]; cases P[i].1 == k <;> rfl
    rw [gL_round v20_b9e, hI]
    cases hk : P[i].1 == k with
    | true => simp [v20_4, v20_5, v20_6, v20_7, h1, iaV_sl e1, pairC, hk, errZ, getR, cut1 hf, cut0 hf]
    | false =>
      simp at ih'
      simp [v20_4, v20_5, v20_6, v20_7, v20_8, h1, iaV_sl e1, pairC, hk, e3, errZ, cut1 hf]
      exact ih'
theorem t20T (hp : NoPm Pm) (P : List Pr) (k : By) (k2 k3 : U) (h : List Uo) (fl i : Nat) (hi : h[i]? = some (.row [.bool true, .sl 2 (P.map pairC), k2, k3])) (hf : fl ≤ h.length) (hl : P.length < small) :
    gF vTab M Q Pm 20 [.ptr i 0, .str k] h fl = some (getR (getL P k), h, fl) := by
  refine gF_of (fn := v20) (hp 20 (by decide) (by decide)) rfl rfl ?_
  have a := t20_a (M := M) (Q := Q) (Pm := Pm) P k h fl hf hl _ rfl P.length 0 (by omega)
  simp [errZ] at a
  simp [v20_body, v20_0, v20_1, v20_3, at_old hi, errZ, cut1 hf]
  exact a
def scanR (l : List Pr) : U := .tup [.sl 2 (l.map pairC), .agg errZ]
theorem t22T (hp : NoPm Pm) (hq : NoQ Q) (P : List Pr) (lo hi : By) (k2 : U) (h : List Uo) (fl i : Nat) (hg : h[i]? = some (.row [.bool true, .sl 2 (P.map pairC), k2, .nl 2])) (hf : fl ≤ h.length) (hl : P.length < small) :
    gF vTab M Q Pm 22 [.ptr i 0, .str lo, .str hi] h fl = some (scanR (if right lo hi = true then P.filter (fun x => has lo hi x.1) else []), h, fl) := by
  refine gF_of (fn := v22) (hp 22 (by decide) (by decide)) rfl rfl ?_
  have hlt : i < h.length := (List.getElem?_eq_some_iff.1 hg).1
  have hlt2 : decide (i < h.length + 2) = true := decide_eq_true (by omega)
  cases hr : right lo hi with
  | false =>
    simp [v22_body, v22_0, v22_1, v22_2, v22_3, at_old hg, errZ, t53 (hp 53 (by decide) (by decide)), hr, hq, scanR, cut0 hf]
  | true =>
    have hin := t55 (M := M) (Q := Q) hp hq P lo hi hl
    simp [v22_body, v22_0, v22_1, v22_2, v22_4, v22_5, at_old hg, errZ, t53 (hp 53 (by decide) (by decide)), hr, hq, hlt2, cut2 hf]
    rw [gL_round v22_b10e]
    simp [v22_6, v22_11, cut2 hf, hlt2]
    simp [gC_drw v22_13h, v22_13s, at_old hg, hq, hin, scanR, errZ, cut0 hf, Nat.testBit_eq_decide_div_mod_eq]
end Go.RE
end
section
namespace Go.RE
variable {M : Nat → String → Option Nat} {Q : Mut} {Pm : Nat → Option (List U → List Uo → Nat → Option (U × List Uo × Nat))}
structure Ent1 where
  k : By
  d : By
  b : Nat
deriving DecidableEq, Inhabited
def entU (e : Ent1) : U × U × Nat := (.str e.k, .sl 1 (bytesU e.d), e.b)
structure TabOk (es : List Ent1) (c : Nat) : Prop where
  nodup : (es.map (·.b)).Nodup
  lt : ∀ e ∈ es, e.b < c
  dat : ∀ e ∈ es, e.d.length < small
theorem find_ent {es : List Ent1} (hn : (es.map (·.b)).Nodup) {e : Ent1} (he : e ∈ es) : (es.map entU).find? (fun x => Nat.beq x.2.2 e.b) = some (entU e) := by
  induction es with
  | nil => cases he
  | cons a r ih =>
    rw [List.map_cons, List.find?_cons]
    simp only [List.map_cons, List.nodup_cons] at hn
    rcases List.mem_cons.1 he with rfl | he
    · simp [entU]
    · have hne : a.b ≠ e.b := fun hh => hn.1 (by rw [hh]; exact List.mem_map.2 ⟨e, he, rfl⟩)
      have : Nat.beq (entU a).2.2 e.b = false := by simp [entU, hne]
      rw [this]
      exact ih hn.2 he
theorem cands_mem {es : List Ent1} {c : Nat} (h : TabOk es c) {seen : List Nat} {x : Option (U × U × Nat)} (hx : x ∈ candsU (es.map entU) c seen) :
    (x = none ∧ ∀ e ∈ es, e.b ∈ seen) ∨ ∃ e ∈ es, e.b ∉ seen ∧ x = some (entU e) := by
  unfold candsU at hx
  simp only [List.mem_append] at hx
  rcases hx with hx | hx
  · left
    cases hq : (List.filter (fun e => Nat.blt e.2.2 c) (List.filter (fun e : U × U × Nat => !seen.contains e.2.2) (es.map entU))).isEmpty with
    | false => rw [hq] at hx; simp at hx
    | true =>
      rw [hq] at hx
      simp at hx
      refine ⟨hx, fun e he => ?_⟩
      rw [List.isEmpty_iff] at hq
      apply Classical.byContradiction
      intro hne
      have : entU e ∈ List.filter (fun e => Nat.blt e.2.2 c) (List.filter (fun e : U × U × Nat => !seen.contains e.2.2) (es.map entU)) := by
        rw [List.mem_filter, List.mem_filter]
        exact ⟨⟨List.mem_map.2 ⟨e, he, rfl⟩, by simp [entU, hne]⟩, by simp [entU, h.lt e he]⟩
      rw [hq] at this; cases this
  · right
    rw [List.mem_map] at hx
    obtain ⟨y, hy, rfl⟩ := hx
    rw [List.mem_append, List.mem_filter, List.mem_filter] at hy
    have hm : y ∈ List.filter (fun e : U × U × Nat => !seen.contains e.2.2) (es.map entU) := by
      rcases hy with hy | hy
      · exact List.mem_filter.2 hy.1
      · exact (List.mem_filter.1 hy).1
    rw [List.mem_filter, List.mem_map] at hm
    obtain ⟨⟨e, he, rfl⟩, hs⟩ := hm
    exact ⟨e, he, by simpa [entU] using hs, rfl⟩
def keyC (k : By) : List U := [.str k]
theorem t101_a (es : List Ent1) (c m : Nat) (hT : TabOk es c) (hl : es.length < small) (h : List Uo) (fl : Nat) (hf : fl ≤ h.length) (hm : h[m]? = some (.map (es.map entU) c)) (K : Ex → Vs → Prop) (n : Nat) (hn : n = h.length + 1)
    (hK : ∀ vis : List Ent1, vis.Perm es → K .normal ⟨[(3, .own (.t 3) 1 (vis.map fun e => keyC e.k))], h ++ [.iter (some m) c (vis.map (·.b)) c], fl⟩) :
    ∀ (j : Nat) (vis left : List Ent1), left.length ≤ j → (vis ++ left).Perm es →
    gL vTab M Q Pm v101 0 v101_b7 n ⟨[(3, .own (.t 3) 1 (vis.map fun e => keyC e.k)), (11, .ptr h.length 0)], h ++ [.iter (some m) c (vis.map (·.b)) c], fl⟩ K := by
  subst hn
  intro j
  induction j with
  | zero =>
    intro vis left hj hp
    obtain rfl : left = [] := List.eq_nil_of_length_eq_zero (by omega)
    rw [List.append_nil] at hp
    rw [gL_round v101_b7e]
    simp [v101_4, nextU, at_old hm]
    refine ⟨fun _ hne => ?_, fun x hx => ?_⟩
    · obtain ⟨e, he⟩ := List.exists_mem_of_ne_nil _ hne
      exact ⟨e, he, hT.lt e he⟩
    · rcases cands_mem hT hx with ⟨rfl, _⟩ | ⟨e, he, hb, rfl⟩
      · have := hK vis hp
        simp [nextK, cut1 hf]
        simpa using this
      · exact absurd (List.mem_map.2 ⟨e, hp.symm.subset he, rfl⟩) hb
  | succ j ih =>
    intro vis left hj hp
    rw [gL_round v101_b7e]
    simp [v101_4, nextU, at_old hm]
    have hnd : ((vis ++ left).map (·.b)).Nodup := (hp.map (·.b)).nodup_iff.2 hT.nodup
    refine ⟨fun _ hne => ?_, fun x hx => ?_⟩
    · obtain ⟨e, he⟩ := List.exists_mem_of_ne_nil _ hne
      exact ⟨e, he, hT.lt e he⟩
    · rcases cands_mem hT hx with ⟨rfl, hall⟩ | ⟨e, he, hb, rfl⟩
      · have hl0 : left = [] := by
          cases left with
          | nil => rfl
          | cons a r =>
            exfalso
            have ha : a ∈ es := hp.subset (by simp)
            have := hall a ha
            rw [List.map_append, List.nodup_append] at hnd
            exact hnd.2.2 a.b this a.b (by simp) rfl
        subst hl0
        rw [List.append_nil] at hp
        have := hK vis hp
        simp [nextK, cut1 hf]
        simpa using this
      · have hel : e ∈ left := by
          have := hp.symm.subset he
          rcases List.mem_append.1 this with hv | hv
          · exact absurd (List.mem_map.2 ⟨e, hv, rfl⟩) hb
          · exact hv
        have hper : ((vis ++ [e]) ++ left.erase e).Perm es := by
          refine List.Perm.trans ?_ hp
          rw [List.append_assoc]
          exact (List.perm_cons_erase hel).symm.append_left vis
        have hlen : (left.erase e).length ≤ j := by
          have := List.length_erase_of_mem hel
          omega
        have ih' := ih (vis ++ [e]) (left.erase e) hlen hper
        have hvl : vis.length < small := by
          have := hp.length_eq
          simp at this; omega
        obtain ⟨f1, f2⟩ : (vis.length + 1) * 16 ≤ big ∧ vis.length + 1 ≤ big := by unfold small at hvl; unfold big; omega
        have hfe := find_ent hT.nodup he
        simp [keyC] at ih'
        have hent : ∀ ev : Env, entryU ⟨ev, h ++ [.iter (some m) c (vis.map (·.b) ++ [e.b]) c], fl⟩ h.length = some (.tup [.str e.k, .sl 1 (bytesU e.d)]) := fun ev => by
          simp only [entryU, at0, at_old hm, List.getLast?_concat, Nat.beq_refl, cond_true, hfe, entU]
        simp [nextK, entU, v101_5, v101_6, hent, keyC, cut1 hf, f1, f2]
        exact ih'
def insB (a : By) : List By → List By
  | [] => [a]
  | x :: l => if lt x a = true then x :: insB a l else a :: x :: l
def sortB (l : List By) : List By := l.foldr insB []
theorem lt_ge {a b : By} (h1 : lt a b = false) (h2 : lt b a = false) : a = b := by
  rcases lt_tri a b with h | h | h
  · rw [show lt a b = true from h] at h1; cases h1
  · exact h
  · rw [show lt b a = true from h] at h2; cases h2
theorem ge_lt {x a b : By} (h1 : lt x b = false) (h2 : lt x a = true) : lt b a = true := by
  rcases lt_tri b x with h | h | h
  · exact lt_tr h h2
  · subst h; exact h2
  · rw [show lt x b = true from h] at h1; cases h1
theorem ins_comm (a b : By) : ∀ l, insB a (insB b l) = insB b (insB a l) := by
  have two : ∀ l, (if lt b a = true then b :: a :: l else a :: b :: l) = (if lt a b = true then a :: b :: l else b :: a :: l) := by
    intro l
    cases h1 : lt b a with
    | true => have h2 : lt a b = false := lt_asy h1; simp [h2]
    | false =>
      cases h2 : lt a b with
      | true => simp
      | false => have := lt_ge h1 h2; subst this; simp
  intro l
  induction l with
  | nil => simpa [insB] using two []
  | cons x l ih =>
    simp only [insB]
    cases hb : lt x b with
    | true =>
      cases ha : lt x a with
      | true => simp [insB, ha, hb, ih]
      | false =>
        have h1 : lt a b = true := ge_lt ha hb
        simp [insB, ha, hb, h1]
    | false =>
      cases ha : lt x a with
      | true =>
        have h1 : lt b a = true := ge_lt hb ha
        simp [insB, ha, hb, h1]
      | false =>
        have := two (x :: l)
        simpa [insB, ha, hb] using this
theorem sortB_perm {l l' : List By} (h : l.Perm l') : sortB l = sortB l' := by
  unfold sortB
  induction h with
  | nil => rfl
  | cons x _ ih => simp only [List.foldr_cons, ih]
  | swap x y l => simp only [List.foldr_cons]; exact ins_comm y x _
  | trans _ _ ih1 ih2 => exact ih1.trans ih2
def unkey : List (List U) → Option (List By)
  | [] => some []
  | [.str k] :: r => match unkey r with
    | some l => some (k :: l)
    | none => none
  | _ => none
theorem unkey_map : ∀ l : List By, unkey (l.map keyC) = some l := by
  intro l
  induction l with
  | nil => rfl
  | cons k l ih => simp only [List.map_cons, keyC, unkey] at ih ⊢; rw [ih]
def sortQ : List (List U) → List U → Option (List (List U)) := fun xs rest => match rest with
  | [] => bif Nat.blt xs.length 4611686018427387904 then (match unkey xs with | some l => some ((sortB l).map keyC) | none => none) else none
  | _ => none
theorem sortQ_map (l : List By) (hl : l.length < small) : sortQ (l.map keyC) [] = some ((sortB l).map keyC) := by
  have : Nat.blt (l.map keyC).length 4611686018427387904 = true := by
    simp only [Nat.blt, List.length_map]; exact Nat.ble_eq_true_of_le (by unfold small at hl; omega)
  simp only [sortQ, this, cond_true, unkey_map]
theorem callQ_some {F : FU} (s : Vs) (d f : Nat) (g : Tg) (w : Nat) (xs ys : List (List U)) (rest : List U) {q : List (List U) → List U → Option (List (List U))} (hy : q xs rest = some ys) :
    callQ F s d f (.own g w xs :: rest) (some q) = bif (s.ownC g).isSome then some (.tup [], s.upd g w ys) else none := by simp only [callQ, hy]
theorem t101 (hp : NoPm Pm) (hs : Q 90 = some sortQ) (es : List Ent1) (c m i : Nat) (hT : TabOk es c) (hl : es.length < small) (h : List Uo) (fl : Nat) (hf : fl ≤ h.length) (hi : h[i]? = some (.row [.map m])) (hm : h[m]? = some (.map (es.map entU) c)) :
    gF vTab M Q Pm 101 [.ptr i 0] h fl = some (.own .r 1 ((sortB (es.map (·.k))).map keyC), h, fl) := by
  refine gF_of (fn := v101) (hp 101 (by decide) (by decide)) rfl rfl ?_
  simp [v101_body, v101_0, v101_1, v101_2, v101_3, hi, hm, cut1 hf]
  have a := t101_a (M := M) (Q := Q) (Pm := Pm) es c m hT hl h fl hf hm (seqK vTab M Q Pm v101 (.seq (.region v101_8) (.seq (.region v101_9) .ret)) (kE h.length v101 (.own .r 1 ((sortB (es.map (·.k))).map keyC), h, fl))) (h.length + 1) rfl (fun vis hv => ?_) es.length [] es (Nat.le_refl _) (by simp)
  · simpa using a
  · have hq := callQ_some (F := gF vTab M Q Pm) ⟨[(20, .own (.t 3) 1 ((vis.map (·.k)).map keyC)), (3, .own (.t 3) 1 ((vis.map (·.k)).map keyC))], h ++ [.iter (some m) c (vis.map (·.b)) c], fl⟩ 21 90 (.t 3) 1 ((vis.map (·.k)).map keyC) _ [] (sortQ_map (vis.map (·.k)) (by have := hv.length_eq; simp; omega))
    rw [sortB_perm (hv.map (·.k))] at hq
    simp [Function.comp_def] at hq
    simp [v101_8, v101_9, hs, hq, Function.comp_def, cut0 hf]
end Go.RE
end
section
namespace Go.RE
variable {M : Nat → String → Option Nat} {Q : Mut} {Pm : Nat → Option (List U → List Uo → Nat → Option (U × List Uo × Nat))}
def cloneP : List U → List Uo → Nat → Option (U × List Uo × Nat) := fun us h fl => match us with
  | [.sl w xs] => bif Nat.beq w 1 && Nat.ble xs.length big && xs.all (fun r => r.all U.cellok && U.lows 0 r && Nat.beq r.length 1) then some (.own .r w xs, h, fl) else none
  | _ => none
theorem bytes_ok (d : By) : (bytesU d).all (fun r => r.all U.cellok && U.lows 0 r && Nat.beq r.length 1) = true := by
  rw [List.all_eq_true]
  intro r hr
  obtain ⟨b, _, rfl⟩ := List.mem_map.1 hr
  rfl
theorem t49 (hc : Pm 49 = some cloneP) (d : By) (hd : d.length < small) : gF vTab M Q Pm 49 [.sl 1 (bytesU d)] [] 0 = some (.own .r 1 (bytesU d), [], 0) := by
  rw [gF_prim hc]
  have h1 : Nat.ble (bytesU d).length big = true := Nat.ble_eq_true_of_le (by simp only [bytesU, List.length_map]; unfold small at hd; unfold big; omega)
  show (bif Nat.beq 1 1 && Nat.ble (bytesU d).length big && (bytesU d).all (fun r => r.all U.cellok && U.lows 0 r && Nat.beq r.length 1) then _ else _) = _
  rw [bytes_ok, h1]; rfl
theorem flat_bytes (b : By) : U.flatss (bytesU b) = true := by
  induction b with
  | nil => rfl
  | cons x b ih => show (U.flats (byteU x) && U.flatss (bytesU b)) = true; rw [ih]; rfl
def entOf (k : By) (es : List Ent1) : Option Ent1 := es.find? (fun e => e.k == k)
theorem findU_ent (k : By) : ∀ (es : List Ent1) (j : Nat), ∃ r, findU .str (.str k) (es.map entU) j = some r ∧ (r = none ↔ entOf k es = none) ∧ ∀ i v, r = some (i, v) → ∃ e, entOf k es = some e ∧ v = .sl 1 (bytesU e.d) ∧ j ≤ i ∧ es[i - j]? = some e := by
  intro es
  induction es with
  | nil => intro j; exact ⟨none, rfl, by simp [entOf], fun i v h => by cases h⟩
  | cons e es ih =>
    intro j
    have hf : findU .str (.str k) ((e :: es).map entU) j = (match some (k == e.k) with
      | some true => some (some (j, .sl 1 (bytesU e.d)))
      | some false => findU .str (.str k) (es.map entU) (j + 1)
      | none => none) := rfl
    rw [hf]
    have hbe : (k == e.k) = (e.k == k) := by
      cases h1 : e.k == k with
      | true => rw [eq_of_beq h1]; exact beq_self_eq_true k
      | false =>
        cases h2 : k == e.k with
        | false => rfl
        | true => rw [eq_of_beq h2, beq_self_eq_true] at h1; cases h1
    cases hk : e.k == k with
    | true =>
      rw [hbe, hk]
      refine ⟨_, rfl, by simp [entOf, List.find?_cons, hk], fun i v h => ?_⟩
      simp only [Option.some.injEq, Prod.mk.injEq] at h
      obtain ⟨rfl, rfl⟩ := h
      exact ⟨e, by simp [entOf, List.find?_cons, hk], rfl, Nat.le_refl _, by simp⟩
    | false =>
      rw [hbe, hk]
      obtain ⟨r, r1, r2, r3⟩ := ih (j + 1)
      have hfe : entOf k (e :: es) = entOf k es := by simp [entOf, List.find?_cons, hk]
      refine ⟨r, r1, by rw [hfe]; exact r2, fun i v h => ?_⟩
      obtain ⟨e', k1, k2, k3, k4⟩ := r3 i v h
      refine ⟨e', by rw [hfe]; exact k1, k2, by omega, ?_⟩
      rw [show i - j = (i - (j + 1)) + 1 by omega]; simpa using k4
def dataE (k : By) (es : List Ent1) : By := ((entOf k es).map (·.d)).getD []
theorem lookup_ent (k : By) (es : List Ent1) (c m : Nat) (s : Vs) (hm : s.h[m]? = some (.map (es.map entU) c)) :
    lookupU s .str (.sl 1 []) true (.map m) (.str k) = some (.tup [.sl 1 (bytesU (dataE k es)), .bool (entOf k es).isSome]) ∧ lookupU s .str (.sl 1 []) false (.map m) (.str k) = some (.sl 1 (bytesU (dataE k es))) := by
  obtain ⟨r, r1, r2, r3⟩ := findU_ent k es 0
  have hk : plainKeyU .str (.str k) = true := rfl
  simp only [lookupU, hm, hk, cond_true, r1]
  cases r with
  | none =>
    have := r2.1 rfl
    simp [dataE, this, bytesU]
  | some p =>
    obtain ⟨i, v⟩ := p
    obtain ⟨e, e1, rfl, _⟩ := r3 i v rfl
    simp [dataE, e1]
theorem dataE_len {es : List Ent1} {c : Nat} (hT : TabOk es c) (k : By) : (dataE k es).length < small := by
  unfold dataE
  cases he : entOf k es with
  | none => simp [small]
  | some e => exact hT.dat e (List.mem_of_find?_eq_some he)
theorem t19 (hp : NoPm Pm) (hq : NoQ Q) (hc : Pm 49 = some cloneP) (es : List Ent1) (c m i : Nat) (hT : TabOk es c) (k : By) (h : List Uo) (fl : Nat) (hf : fl ≤ h.length) (hi : h[i]? = some (.row [.map m])) (hm : h[m]? = some (.map (es.map entU) c)) :
    gF vTab M Q Pm 19 [.ptr i 0, .str k] h fl = some (.tup [.sl 1 (bytesU (dataE k es)), .bool (entOf k es).isSome, .nili], h, fl) := by
  refine gF_of (fn := v19) (hp 19 (by decide) (by decide)) rfl rfl ?_
  have hl := fun s hs => (lookup_ent k es c m s hs).1
  have hz : V.toP (.cslice [] 0 0 1) = some (.sl 1 []) := rfl
  simp [v19_body, v19_0, v19_1, v19_3, v19_4, hi, hm, hl, hz, hq, t49 hc _ (dataE_len hT k), flat_bytes, cut_self hf]
theorem iaV_own {s : Vs} {g : Tg} {w : Nat} {xs : List (List U)} {k : IntKind} {n : Nat} (hn : n < xs.length) : iaV s w (some (.own g w xs)) (some (.int k n)) = some (.optr g n 0, s) := by
  simp only [iaV, Int.toNat_natCast, Nat.beq_refl, cond_true]
  rw [if_pos ⟨Int.natCast_nonneg n, by omega⟩]
def inT (es : List Ent1) (lo hi : By) (ks : List By) : List Pr := (ks.filter (has lo hi)).map fun k => (k, dataE k es)
theorem t46_a (hp : NoPm Pm) (hq : NoQ Q) (hc : Pm 49 = some cloneP) (es : List Ent1) (c m i : Nat) (lo hi : By) (hT : TabOk es c) (h : List Uo) (fl : Nat) (hf : fl ≤ h.length) (hi0 : h[i]? = some (.row [.map m])) (hm : h[m]? = some (.map (es.map entU) c)) (ks : List By) (hl : ks.length < small) (n : Nat) (hn : n = h.length + 1) (K : Ex → Vs → Prop) :
    ∀ (j q : Nat) (out : List Pr), q + j = ks.length → out.length ≤ q →
    K .normal ⟨[(5, .own (.t 5) 2 ((out ++ inT es lo hi (ks.drop q)).map pairC))], h ++ [.row [.str lo, .str hi]], fl⟩ →
    gL vTab M Q Pm v46 0 v46_b8 n ⟨[(11, .int .i64 (q : Int)), (0, .ptr i 0), (5, .own (.t 5) 2 (out.map pairC)), (3, .ptr h.length 0), (9, .own (.t 9) 1 (ks.map keyC)), (10, .int .i64 (ks.length : Int))], h ++ [.row [.str lo, .str hi]], fl⟩ K := by
  subst hn
  have hlt : i < h.length := (List.getElem?_eq_some_iff.1 hi0).1
  have hd : decide (i < h.length + 1) = true := decide_eq_true (by omega)
  have hz : V.toP (.cslice [] 0 0 1) = some (.sl 1 []) := rfl
  intro j
  induction j with
  | zero =>
    intro q out hij ho hK
    have h1 : ¬ ((q : Int) < (ks.length : Int)) := by omega
    have h2 : ks.drop q = [] := List.drop_of_length_le (by omega)
    rw [h2] at hK
    rw [gL_round v46_b8e]
    simp [v46_3, h1, inT, cut1 hf] at hK ⊢
    exact hK
  | succ j ih =>
    intro q out hij ho hK
    have h1 : ((q : Int) < (ks.length : Int)) := by omega
    have hi1 : q < ks.length := by omega
    have e1 : (ks.map keyC)[q]? = some (keyC ks[q]) := by simp [hi1]
    have e2 : q < (ks.map keyC).length := by simpa using hi1
    have e3 : wrapA .i64 ((q : Int) + 1) = ((q + 1 : Nat) : Int) := wrap_succ (by unfold small at hl; omega)
    have d1 : ks.drop q = ks[q] :: ks.drop (q + 1) := List.drop_eq_getElem_cons hi1
    have hI : inT es lo hi (ks.drop q) = (if has lo hi ks[q] = true then [(ks[q], dataE ks[q] es)] else []) ++ inT es lo hi (ks.drop (q + 1)) := by
      rw [d1]; unfold inT; rw [List.filter_cons]; cases has lo hi ks[q] <;> simp
    rw [hI] at hK
    rw [gL_round v46_b8e]
    obtain ⟨f1, f2⟩ : (out.length + 1) * 40 ≤ big ∧ out.length + 1 ≤ big := by unfold small at hl; unfold big; omega
    have hlk := fun s hs => (lookup_ent ks[q] es c m s hs).2
    cases hk : has lo hi ks[q] with
    | false =>
      have ih' := ih (q + 1) out (by omega) (by omega)
      simp [hk, keyC] at hK ih'
      simp [v46_3, v46_4, v46_5, v46_7, h1, iaV_own e2, hi1, keyC, hk, e3, hq, t58 (hp 58 (by decide) (by decide)), hd, cut1 hf]
      exact ih' hK
    | true =>
      have ih' := ih (q + 1) (out ++ [(ks[q], dataE ks[q] es)]) (by omega) (by simp; omega)
      simp [hk, pairC, keyC] at hK ih'
      simp [v46_3, v46_4, v46_5, v46_6, v46_7, h1, iaV_own e2, hi1, keyC, hk, e3, hq, t58 (hp 58 (by decide) (by decide)), hd, cut1 hf, at_old hi0, hlk, at_old hm, hz, t49 hc _ (dataE_len hT ks[q]), flat_bytes, f1, f2, pairC]
      exact ih' hK
def keysT (es : List Ent1) : List By := sortB (es.map (·.k))
theorem ins_len (a : By) : ∀ l, (insB a l).length = l.length + 1 := by
  intro l
  induction l with
  | nil => rfl
  | cons x l ih => simp only [insB]; split <;> simp [ih]
theorem sort_len : ∀ l : List By, (sortB l).length = l.length := by
  intro l
  induction l with
  | nil => rfl
  | cons a l ih => show (insB a (sortB l)).length = _; rw [ins_len, ih]; rfl
theorem t46 (hp : NoPm Pm) (hq : NoQ Q) (hs : Q 90 = some sortQ) (hc : Pm 49 = some cloneP) (es : List Ent1) (c m i : Nat) (lo hi : By) (hT : TabOk es c) (hl : es.length < small) (h : List Uo) (fl : Nat) (hf : fl ≤ h.length) (hi0 : h[i]? = some (.row [.map m])) (hm : h[m]? = some (.map (es.map entU) c)) :
    gF vTab M Q Pm 46 [.ptr i 0, .agg [.str lo, .str hi]] h fl = some (.own .r 2 ((inT es lo hi (keysT es)).map pairC), h, fl) := by
  refine gF_of (fn := v46) (hp 46 (by decide) (by decide)) rfl rfl ?_
  have hlt : i < h.length := (List.getElem?_eq_some_iff.1 hi0).1
  have hk := t101 (M := M) (Q := Q) hp hs es c m i hT hl (h ++ [.row [.str lo, .str hi]]) fl (by simp; omega) (at_old hi0) (at_old hm)
  have hkl : (keysT es).length < small := by unfold keysT; rw [sort_len]; simpa using hl
  have hd : decide (i < h.length + 1) = true := decide_eq_true (by omega)
  have a := t46_a (M := M) hp hq hc es c m i lo hi hT h fl hf hi0 hm (keysT es) hkl (h.length + 1) rfl (seqK vTab M Q Pm v46 (.seq (.region v46_9) .ret) (kE h.length v46 (.own .r 2 ((inT es lo hi (keysT es)).map pairC), h, fl))) (keysT es).length 0 [] (by omega) (by simp) (by simp [v46_9, cut0 hf])
  simp [keysT] at a
  simp [v46_body, v46_0, v46_1, v46_2, hq, hk, hd, cut1 hf]
  exact a
theorem t15 (hp : NoPm Pm) (hq : NoQ Q) (hs : Q 90 = some sortQ) (hc : Pm 49 = some cloneP) (es : List Ent1) (c m i : Nat) (hT : TabOk es c) (hl : es.length < small) (h : List Uo) (fl : Nat) (hf : fl ≤ h.length) (hi0 : h[i]? = some (.row [.map m])) (hm : h[m]? = some (.map (es.map entU) c)) :
    gF vTab M Q Pm 15 [.ptr i 0] h fl = some (.own .r 2 ((inT es [] [] (keysT es)).map pairC), h, fl) := by
  refine gF_of (fn := v15) (hp 15 (by decide) (by decide)) rfl rfl ?_
  have hk := t46 (M := M) hp hq hs hc es c m i [] [] hT hl h fl hf hi0 hm
  simp [v15_body, v15_0, v15_1, hq, hk, cut_self hf]
theorem t21 (hp : NoPm Pm) (hq : NoQ Q) (hs : Q 90 = some sortQ) (hc : Pm 49 = some cloneP) (es : List Ent1) (c m i : Nat) (lo hi : By) (hT : TabOk es c) (hl : es.length < small) (h : List Uo) (fl : Nat) (hf : fl ≤ h.length) (hi0 : h[i]? = some (.row [.map m])) (hm : h[m]? = some (.map (es.map entU) c)) :
    gF vTab M Q Pm 21 [.ptr i 0, .str lo, .str hi] h fl = some (.tup [.sl 2 ((inT es lo hi (keysT es)).map pairC), .nili], h, fl) := by
  refine gF_of (fn := v21) (hp 21 (by decide) (by decide)) rfl rfl ?_
  have hk := t46 (M := M) hp hq hs hc es c m i lo hi hT hl h fl hf hi0 hm
  simp [v21_body, v21_0, v21_1, hq, hk, cut_self hf]
end Go.RE
end
section
namespace Go.RE
variable {M : Nat → String → Option Nat} {Q : Mut} {Pm : Nat → Option (List U → List Uo → Nat → Option (U × List Uo × Nat))}
def muP (kk : EqK) (i : Nat) (k v : U) (s : Vs) : Option Uo → Option (U × Vs)
  | some (.map es clock) => bif plainKeyU kk k then
            (let fl := bif v.low (i + 1) then s.fl else s.h.length
            match findU kk k es 0 with
            | some (some (j, _)) => some (.tup [], { s with h := s.h.set i (.map (modU j (fun e => (k, v, e.2.2)) es) clock), fl := fl })
            | some none => some (.tup [], { s with h := s.h.set i (.map (es ++ [(k, v, clock)]) (clock + 1)), fl := fl })
            | none => none) else none
  | _ => none
def muX (kk : EqK) (i : Nat) (k : U) : Option (U × Vs) → Option (U × Vs)
  | some (v, s) => muP kk i k v s s.h[i]?
  | none => none
@[simp] theorem muX_some (kk : EqK) (i : Nat) (k v : U) (s : Vs) : muX kk i k (some (v, s)) = muP kk i k v s s.h[i]? := rfl
def muK (kk : EqK) (i : Nat) (x : Opd) : Option (U × Vs) → Option (U × Vs)
  | some (k, s) => muX kk i k (escO x s)
  | none => none
@[simp] theorem muK_some (kk : EqK) (i : Nat) (x : Opd) (k : U) (s : Vs) : muK kk i x (some (k, s)) = muX kk i k (escO x s) := rfl
def muM (kk : EqK) (k x : Opd) : Option (U × Vs) → Option (U × Vs)
  | some (.map i, s) => muK kk i x (escO k s)
  | _ => none
@[simp] theorem muM_some (kk : EqK) (k x : Opd) (i : Nat) (s : Vs) : muM kk k x (some (.map i, s)) = muK kk i x (escO k s) := rfl
@[simp] theorem opH_mapUpdate (d : Nat) (s : Vs) (kk : EqK) (m k x : Opd) : opH d s (.mapUpdate kk m k x) = muM kk k x (escO m s) := by
  simp only [opH]
  cases escO m s with
  | none => rfl
  | some p =>
    obtain ⟨u, s1⟩ := p
    cases u with
    | map i =>
      simp only [muM]
      cases escO k s1 with
      | none => rfl
      | some p =>
        obtain ⟨k, s2⟩ := p
        simp only [muK]
        cases escO x s2 with
        | none => rfl
        | some p =>
          obtain ⟨v, s3⟩ := p
          simp only [muX]
          cases s3.h[i]? with
          | none => rfl
          | some o => cases o <;> rfl
    | _ => rfl
def delP (kk : EqK) (i : Nat) (k : U) (s : Vs) : Option Uo → Option (U × Vs)
  | some (.map es clock) => bif plainKeyU kk k then (match findU kk k es 0 with
        | some (some (j, _)) => some (.tup [], { s with h := s.h.set i (.map (eraseU j es) clock) })
        | some none => some (.tup [], s)
        | none => none) else none
  | _ => none
def delO (s : Vs) (kk : EqK) : Option U → Option U → Option (U × Vs)
  | some .nilm, some k => bif plainKeyU kk k then some (.tup [], s) else none
  | some (.map i), some k => delP kk i k s s.h[i]?
  | _, _ => none
@[simp] theorem delO_map (s : Vs) (kk : EqK) (i : Nat) (k : U) : delO s kk (some (.map i)) (some k) = delP kk i k s s.h[i]? := rfl
@[simp] theorem opH_delete (d : Nat) (s : Vs) (kk : EqK) (m k : Opd) : opH d s (.delete kk m k) = delO s kk (evO s.e m) (evO s.e k) := by
  simp only [opH]
  cases evO s.e m with
  | none => rfl
  | some u =>
    cases evO s.e k with
    | none => cases u <;> rfl
    | some k =>
      cases u with
      | map i =>
        simp only [delO]
        cases s.h[i]? with
        | none => rfl
        | some o => cases o <;> rfl
      | _ => rfl
def modE (k d : By) : List Ent1 → List Ent1
  | [] => []
  | e :: r => if (e.k == k) = true then ⟨k, d, e.b⟩ :: r else e :: modE k d r
def delE (k : By) : List Ent1 → List Ent1
  | [] => []
  | e :: r => if (e.k == k) = true then r else e :: delE k r
theorem beq_sym (a b : By) : (a == b) = (b == a) := by
  cases h1 : b == a with
  | true => rw [eq_of_beq h1]; exact beq_self_eq_true a
  | false =>
    cases h2 : a == b with
    | false => rfl
    | true => rw [eq_of_beq h2, beq_self_eq_true] at h1; cases h1
theorem find_mod (k d : By) : ∀ (es : List Ent1) (j i : Nat) (v : U), findU .str (.str k) (es.map entU) j = some (some (i, v)) → j ≤ i ∧ modU (i - j) (fun e => (.str k, .sl 1 (bytesU d), e.2.2)) (es.map entU) = (modE k d es).map entU ∧ eraseU (i - j) (es.map entU) = (delE k es).map entU := by
  intro es
  induction es with
  | nil => intro j i v h; cases h
  | cons e es ih =>
    intro j i v h
    have hf : findU .str (.str k) ((e :: es).map entU) j = (match some (k == e.k) with
      | some true => some (some (j, .sl 1 (bytesU e.d)))
      | some false => findU .str (.str k) (es.map entU) (j + 1)
      | none => none) := rfl
    rw [hf, beq_sym k e.k] at h
    cases hk : e.k == k with
    | true =>
      rw [hk] at h
      simp only [Option.some.injEq, Prod.mk.injEq] at h
      obtain ⟨rfl, _⟩ := h
      refine ⟨Nat.le_refl _, ?_, ?_⟩
      · simp [modE, hk, modU, entU]
      · simp [delE, hk, eraseU]
    | false =>
      rw [hk] at h
      obtain ⟨a, b, c⟩ := ih (j + 1) i v h
      have e1 : i - j = (i - (j + 1)) + 1 := by omega
      refine ⟨by omega, ?_, ?_⟩
      · rw [e1]; simp only [List.map_cons, modU, modE, hk]; rw [b]; simp
      · rw [e1]; simp only [List.map_cons, eraseU, delE, hk]; rw [c]; simp
def setE (k d : By) (c : Nat) (es : List Ent1) : List Ent1 := if (entOf k es).isSome = true then modE k d es else es ++ [⟨k, d, c⟩]
def clkE (k : By) (c : Nat) (es : List Ent1) : Nat := if (entOf k es).isSome = true then c else c + 1
theorem muP_ent (k d : By) (es : List Ent1) (c m : Nat) (s : Vs) : muP .str m (.str k) (.sl 1 (bytesU d)) s (some (.map (es.map entU) c)) = some (.tup [], ⟨s.e, s.h.set m (.map ((setE k d c es).map entU) (clkE k c es)), s.fl⟩) := by
  obtain ⟨r, r1, r2, r3⟩ := findU_ent k es 0
  have hk : plainKeyU .str (.str k) = true := rfl
  simp only [muP, hk, cond_true, r1, U.low]
  cases r with
  | none =>
    have := r2.1 rfl
    simp [setE, clkE, this, entU]
  | some p =>
    obtain ⟨i, v⟩ := p
    obtain ⟨e, e1, rfl, _⟩ := r3 i v rfl
    obtain ⟨a, b, _⟩ := find_mod k d es 0 i _ r1
    simp only [Nat.sub_zero] at b
    simp [setE, clkE, e1, b]
theorem delP_ent (k : By) (es : List Ent1) (c m : Nat) (s : Vs) (hm : s.h[m]? = some (.map (es.map entU) c)) : delP .str m (.str k) s (some (.map (es.map entU) c)) = some (.tup [], ⟨s.e, s.h.set m (.map ((if (entOf k es).isSome = true then delE k es else es).map entU) c), s.fl⟩) := by
  obtain ⟨r, r1, r2, r3⟩ := findU_ent k es 0
  have hk : plainKeyU .str (.str k) = true := rfl
  simp only [delP, hk, cond_true, r1]
  cases r with
  | none =>
    have := r2.1 rfl
    have hset : s.h.set m (.map (es.map entU) c) = s.h := by
      obtain ⟨hlt, he⟩ := List.getElem?_eq_some_iff.1 hm
      rw [← he]; exact List.set_getElem_self hlt
    simp [this, hset]
  | some p =>
    obtain ⟨i, v⟩ := p
    obtain ⟨e, e1, rfl, _⟩ := r3 i v rfl
    obtain ⟨a, _, b⟩ := find_mod k [] es 0 i _ r1
    simp only [Nat.sub_zero] at b
    simp [e1, b]
theorem set_old {h l : List Uo} {m : Nat} {x o : Uo} (hm : h[m]? = some o) : (h ++ l).set m x = h.set m x ++ l := List.set_append_left _ _ (List.getElem?_eq_some_iff.1 hm).1
theorem cut0s {fl : Nat} {h : List Uo} (hf : fl ≤ h.length) (m : Nat) (x : Uo) (l : List Uo) : cut h.length fl (h.set m x ++ l) = h.set m x := by
  have := cut_app (fl := fl) (h := h.set m x) (l := l) (by simpa using hf)
  simpa using this
def putT (k : By) (gone : Bool) (d : By) (c : Nat) (es : List Ent1) : List Ent1 := if gone = true then (if (entOf k es).isSome = true then delE k es else es) else setE k d c es
def clkT (k : By) (gone : Bool) (c : Nat) (es : List Ent1) : Nat := if gone = true then c else clkE k c es
theorem t48 (hp : NoPm Pm) (es : List Ent1) (c m i : Nat) (k d : By) (gone : Bool) (h : List Uo) (fl : Nat) (hf : fl ≤ h.length) (hi0 : h[i]? = some (.row [.map m])) (hm : h[m]? = some (.map (es.map entU) c)) :
    gF vTab M Q Pm 48 [.ptr i 0, .str k, .agg [.bool gone, .sl 1 (bytesU d)]] h fl = some (.tup [], h.set m (.map ((putT k gone d c es).map entU) (clkT k gone c es)), fl) := by
  refine gF_of (fn := v48) (hp 48 (by decide) (by decide)) rfl rfl ?_
  have hu := muP_ent k d es c m
  have hdl := fun s hs => delP_ent k es c m s hs
  cases gone with
  | true => simp [v48_body, v48_0, v48_1, v48_2, at_old hi0, at_old hm, hdl, set_old hm, cut0s hf, putT, clkT]
  | false => simp [v48_body, v48_0, v48_1, gC_drw v48_3h, v48_3s, at_old hi0, at_old hm, hu, set_old hm, cut0s hf, putT, clkT, Nat.testBit_eq_decide_div_mod_eq]
abbrev Tb := List Ent1 × Nat
def stepT (t : Tb) (x : Wr) : Tb := (putT x.1 x.2.1 x.2.2 t.2 t.1, clkT x.1 x.2.1 t.2 t.1)
def tabO (t : Tb) : Uo := .map (t.1.map entU) t.2
theorem t17_a (hp : NoPm Pm) (hq : NoQ Q) (hc : Pm 49 = some cloneP) (m i : Nat) (h : List Uo) (fl : Nat) (hf : fl ≤ h.length) (hi0 : h[i]? = some (.row [.map m])) (hmi : i ≠ m) (hml : m < h.length) (w : List Wr) (hl : w.length < small) (hwd : ∀ x ∈ w, x.2.2.length < small) (K : Ex → Vs → Prop) :
    ∀ (j q : Nat) (t : Tb), q + j = w.length →
    K .normal ⟨[], h.set m (tabO ((w.drop q).foldl stepT t)), fl⟩ →
    gL vTab M Q Pm v17 0 v17_b6 h.length ⟨[(17, .int .i64 (q : Int)), (0, .ptr i 0), (15, .sl 3 (w.map wrC)), (16, .int .i64 (w.length : Int))], h.set m (tabO t), fl⟩ K := by
  have hlt : i < h.length := (List.getElem?_eq_some_iff.1 hi0).1
  have hd : decide (i < h.length) = true := decide_eq_true hlt
  intro j
  induction j with
  | zero =>
    intro q t hij hK
    have h1 : ¬ ((q : Int) < (w.length : Int)) := by omega
    have h2 : w.drop q = [] := List.drop_of_length_le (by omega)
    rw [h2] at hK
    have hcut := cut0s hf m (tabO t) []
    rw [List.append_nil] at hcut
    rw [gL_round v17_b6e]
    simp [v17_2, h1, hcut] at hK ⊢
    exact hK
  | succ j ih =>
    intro q t hij hK
    have h1 : ((q : Int) < (w.length : Int)) := by omega
    have hi1 : q < w.length := by omega
    have e1 : (w.map wrC)[q]? = some (wrC w[q]) := by simp [hi1]
    have e3 : wrapA .i64 ((q : Int) + 1) = ((q + 1 : Nat) : Int) := wrap_succ (by unfold small at hl; omega)
    have d1 : w.drop q = w[q] :: w.drop (q + 1) := List.drop_eq_getElem_cons hi1
    rw [d1, List.foldl_cons] at hK
    have ih' := ih (q + 1) (stepT t w[q]) (by omega) hK
    have hil : (h.set m (tabO t))[i]? = some (.row [.map m]) := by rw [List.getElem?_set_ne (Ne.symm hmi)]; exact hi0
    have hmm : (h.set m (tabO t))[m]? = some (.map (t.1.map entU) t.2) := by rw [List.getElem?_set_self hml]; rfl
    have hset := t48 (M := M) (Q := Q) hp t.1 t.2 m i w[q].1 w[q].2.2 w[q].2.1 (h.set m (tabO t) ++ [.row (wrC w[q])]) fl (by simp; omega) (at_old hil) (at_old hmm)
    rw [set_old hmm, List.set_set] at hset
    have ew : wrC w[q] = [.str w[q].1, .bool w[q].2.1, .sl 1 (bytesU w[q].2.2)] := rfl
    rw [ew] at hset
    have hlen : (h.set m (tabO t)).length = h.length := by simp
    have a0 := at0 (h.set m (tabO t))
    rw [hlen] at a0
    have s0 := set0 (h.set m (tabO t))
    rw [hlen] at s0
    have hcut := cut0s hf m (tabO (stepT t w[q]))
    have hcut0 := hcut []
    rw [List.append_nil] at hcut0
    simp only [tabO, stepT] at hcut hcut0
    rw [gL_round v17_b6e]
    simp [tabO, stepT] at ih' hset a0 s0
    simp [v17_2, v17_3, v17_5, h1, iaV_sl e1, ew, e3, tabO, gC_drw v17_4h, v17_4s, a0, s0, hq, t49 hc _ (hwd _ (List.getElem_mem hi1)), hset, flat_bytes, hcut, hcut0, hd, Nat.testBit_eq_decide_div_mod_eq]
    exact ih'
theorem t17 (hp : NoPm Pm) (hq : NoQ Q) (hc : Pm 49 = some cloneP) (m i : Nat) (h : List Uo) (fl : Nat) (hf : fl ≤ h.length) (t : Tb) (hi0 : h[i]? = some (.row [.map m])) (hm : h[m]? = some (tabO t)) (w : List Wr) (hl : w.length < small) (hwd : ∀ x ∈ w, x.2.2.length < small) :
    gF vTab M Q Pm 17 [.ptr i 0, .sl 3 (w.map wrC)] h fl = some (.tup [], h.set m (tabO (w.foldl stepT t)), fl) := by
  refine gF_of (fn := v17) (hp 17 (by decide) (by decide)) rfl rfl ?_
  have hlt : i < h.length := (List.getElem?_eq_some_iff.1 hi0).1
  have hml : m < h.length := (List.getElem?_eq_some_iff.1 hm).1
  have hd : decide (i < h.length) = true := decide_eq_true hlt
  have hmi : i ≠ m := fun hh => by subst hh; rw [hi0] at hm; cases hm
  have hself : h.set m (tabO t) = h := by
    obtain ⟨h1, h2⟩ := List.getElem?_eq_some_iff.1 hm
    rw [← h2]; exact List.set_getElem_self h1
  have hcut := cut0s hf m (tabO (w.foldl stepT t)) []
  rw [List.append_nil] at hcut
  have a := t17_a (M := M) hp hq hc m i h fl hf hi0 hmi hml w hl hwd (kE h.length v17 (.tup [], h.set m (tabO (w.foldl stepT t)), fl)) w.length 0 t (by omega) (by simp [hcut])
  rw [hself] at a
  simp at a
  simp [v17_body, v17_0, v17_1, hi0, hd, cut_self hf]
  exact a
end Go.RE
end
section
namespace Go.RE
variable {M : Nat → String → Option Nat} {Q : Mut} {Pm : Nat → Option (List U → List Uo → Nat → Option (U × List Uo × Nat))}
@[simp] theorem shiftO_tab (k : Nat) (t : Tb) : shiftO k (tabO t) = tabO t := by
  simp only [tabO, shiftO_map, List.map_map]
  congr 1
def stepP (t : Tb) (p : Pr) : Tb := (setE p.1 p.2 t.2 t.1, clkE p.1 t.2 t.1)
theorem t44_a (hp : NoPm Pm) (hq : NoQ Q) (hc : Pm 49 = some cloneP) (l : List Pr) (hl : l.length < small) (hld : ∀ p ∈ l, p.2.length < small) (K : Ex → Vs → Prop) :
    ∀ (j q : Nat) (t : Tb), q + j = l.length →
    K .normal ⟨[(3, .ptr 1 0)], [tabO ((l.drop q).foldl stepP t), .row [.map 0]], 0⟩ →
    gL vTab M Q Pm v44 0 v44_b7 2 ⟨[(11, .int .i64 (q : Int)), (3, .ptr 1 0), (9, .sl 2 (l.map pairC)), (10, .int .i64 (l.length : Int))], [tabO t, .row [.map 0]], 0⟩ K := by
  intro j
  induction j with
  | zero =>
    intro q t hij hK
    have h1 : ¬ ((q : Int) < (l.length : Int)) := by omega
    have h2 : l.drop q = [] := List.drop_of_length_le (by omega)
    rw [h2] at hK
    rw [gL_round v44_b7e]
    simp [v44_3, h1] at hK ⊢
    exact hK
  | succ j ih =>
    intro q t hij hK
    have h1 : ((q : Int) < (l.length : Int)) := by omega
    have hi1 : q < l.length := by omega
    have e1 : (l.map pairC)[q]? = some (pairC l[q]) := by simp [hi1]
    have e3 : wrapA .i64 ((q : Int) + 1) = ((q + 1 : Nat) : Int) := wrap_succ (by unfold small at hl; omega)
    have d1 : l.drop q = l[q] :: l.drop (q + 1) := List.drop_eq_getElem_cons hi1
    rw [d1, List.foldl_cons] at hK
    have ih' := ih (q + 1) (stepP t l[q]) (by omega) hK
    have hmu := muP_ent l[q].1 l[q].2 t.1 t.2 0
    have ep : pairC l[q] = [.str l[q].1, .sl 1 (bytesU l[q].2)] := rfl
    rw [gL_round v44_b7e]
    simp [tabO, stepP] at ih'
    simp [v44_3, v44_4, v44_6, h1, iaV_sl e1, ep, e3, tabO, gC_drw v44_5h, v44_5s, hq, t49 hc _ (hld _ (List.getElem_mem hi1)), flat_bytes, hmu, Nat.testBit_eq_decide_div_mod_eq]
    exact ih'
theorem t44 (hp : NoPm Pm) (hq : NoQ Q) (hc : Pm 49 = some cloneP) (l : List Pr) (hl : l.length < small) (hld : ∀ p ∈ l, p.2.length < small) :
    gF vTab M Q Pm 44 [.sl 2 (l.map pairC)] [] 0 = some (.ptr 1 0, [tabO (l.foldl stepP ([], 0)), .row [.map 0]], 0) := by
  refine gF_of (fn := v44) (hp 44 (by decide) (by decide)) rfl rfl ?_
  have a := t44_a (M := M) hp hq hc l hl hld (seqK vTab M Q Pm v44 (.seq (.region v44_8) .ret) (kE 0 v44 (.ptr 1 0, [tabO (l.foldl stepP ([], 0)), .row [.map 0]], 0))) l.length 0 ([], 0) (by omega) (by simp [v44_8])
  simp [tabO] at a
  simp [v44_body, v44_0, v44_1, v44_2, tabO]
  exact a
theorem t13 (hp : NoPm Pm) (hq : NoQ Q) (hc : Pm 49 = some cloneP) (l : List Pr) (hl : l.length < small) (hld : ∀ p ∈ l, p.2.length < small) :
    gF vTab M Q Pm 13 [.sl 2 (l.map pairC)] [] 0 = some (.ptr 1 0, [tabO (l.foldl stepP ([], 0)), .row [.map 0]], 0) := by
  refine gF_of (fn := v13) (hp 13 (by decide) (by decide)) rfl rfl ?_
  simp [v13_body, v13_0, v13_1, hq, t44 hp hq hc l hl hld]
end Go.RE
end
section
namespace Go.RE
variable {M : Nat → String → Option Nat} {Q : Mut} {Pm : Nat → Option (List U → List Uo → Nat → Option (U × List Uo × Nat))}
theorem t3 (hp : NoPm Pm) (hq : NoQ Q) (hs : Q 90 = some sortQ) (hc : Pm 49 = some cloneP) (hlive : gF vTab M Q Pm 11 [] [] 0 = some (.bool true, [], 0)) (l : List Pr) (w : List Wr) (key hi : By) (hB : l.length < 9223372036854775807) (hl : fewL l = true → l.length < small) (hwl : w.length < small) (hld : ∀ p ∈ l, p.2.length < small) (hwd : ∀ x ∈ w, x.2.2.length < small)
    (T0 T1 : Tb) (h0 : l.foldl stepP ([], 0) = T0) (h1 : w.foldl stepT T0 = T1) (P0 P1 : List Pr) (hP0 : pairsL l = P0) (hP1 : applyL P0 w = P1)
    (k0 : TabOk T0.1 T0.2) (k1 : TabOk T1.1 T1.2) (n0 : T0.1.length < small) (n1 : T1.1.length < small) (m0 : P0.length + w.length < small) (m1 : P1.length < small) (hw : w.length ≤ 40 → ∀ x ∈ w, x.1.length < small)
    (e1 : inT T0.1 [] [] (keysT T0.1) = P0) (e2 : inT T1.1 [] [] (keysT T1.1) = P1) (e3 : dataE key T1.1 = (getL P1 key).getD []) (e4 : (entOf key T1.1).isSome = (getL P1 key).isSome)
    (e5 : inT T1.1 key hi (keysT T1.1) = if right key hi = true then P1.filter (fun x => has key hi x.1) else []) :
    gF vTab M Q Pm 3 [.sl 2 (l.map pairC), .sl 3 (w.map wrC), .str key, .str hi] [] 0 = some (.bool true, [], 0) := by
  refine gF_of (fn := v3) (hp 3 (by decide) (by decide)) rfl rfl ?_
  have c12 := t12 (M := M) (Q := Q) (Pm := Pm) (hp 12 (by decide) (by decide)) l hB
  cases hf : fewL l with
  | false =>
    rw [hf] at c12
    simp [v3_body, v3_0, v3_1, v3_2, hq, hlive, c12]
  | true =>
    have hl := hl hf
    have c13 := t13 (M := M) hp hq hc l hl hld
    rw [h0] at c13
    rw [hf] at c12
    by_cases w1 : w.length ≤ 40
    · have w1' : ¬ (40 : Int) < (w.length : Int) := by omega
      by_cases w2 : key.length ≤ 300
      · have w2' : ¬ (300 : Int) < (key.length : Int) := by omega
        by_cases w3 : hi.length ≤ 300
        · have w3' : ¬ (300 : Int) < (hi.length : Int) := by omega
          have hw' := hw w1
          have c15 := t15 (M := M) hp hq hs hc T0.1 T0.2 0 1 k0 n0 [tabO T0, .row [.map 0]] 0 (by simp) rfl rfl
          rw [e1] at c15
          have c16 := t16 (M := M) hp hq l hl
          rw [hP0] at c16
          have c14 := t14 (M := M) hp hq P0 P0 (by unfold small at m0; omega)
          have c17 := t17 (M := M) hp hq hc 0 1 [tabO T0, .row [.map 0]] 0 (by simp) T0 rfl rfl w hwl hwd
          rw [h1] at c17
          have c18 := t18 (M := M) hp hq P0 w m0 hw'
          rw [hP1] at c18
          have c19 := t19 (M := M) hp hq hc T1.1 T1.2 0 1 k1 key [tabO T1, .row [.map 0], .row [.bool true, .sl 2 (P1.map pairC), .nl 2, .nl 2]] 0 (by simp) rfl rfl
          have c20 := t20T (M := M) (Q := Q) hp P1 key (.nl 2) (.nl 2) [tabO T1, .row [.map 0], .row [.bool true, .sl 2 (P1.map pairC), .nl 2, .nl 2]] 0 2 rfl (by simp) m1
          have c21 := t21 (M := M) hp hq hs hc T1.1 T1.2 0 1 key hi k1 n1 [tabO T1, .row [.map 0], .row [.bool true, .sl 2 (P1.map pairC), .nl 2, .nl 2], .row errZ] 0 (by simp) rfl rfl
          rw [e5] at c21
          have c22 := t22T (M := M) hp hq P1 key hi (.nl 2) [tabO T1, .row [.map 0], .row [.bool true, .sl 2 (P1.map pairC), .nl 2, .nl 2], .row errZ] 0 2 rfl (by simp) m1
          rw [e3, e4] at c19
          have c23 := t23 (M := M) (Q := Q) (Pm := Pm) (hp 23 (by decide) (by decide)) ((getL P1 key).getD []) ((getL P1 key).getD [])
          have mR : (if right key hi = true then P1.filter (fun x => has key hi x.1) else []).length < 9223372036854775807 := by
            have := List.length_filter_le (fun x : Pr => has key hi x.1) P1
            unfold small at m1
            split
            · omega
            · simp
          have c24 := t14 (M := M) hp hq _ (if right key hi = true then P1.filter (fun x => has key hi x.1) else []) mR
          have c25 := t15 (M := M) hp hq hs hc T1.1 T1.2 0 1 k1 n1 [tabO T1, .row [.map 0], .row [.bool true, .sl 2 (P1.map pairC), .nl 2, .nl 2], .row errZ, .row errZ] 0 (by simp) rfl rfl
          rw [e2] at c25
          have c27 := t15 (M := M) hp hq hs hc T1.1 T1.2 0 1 k1 n1 [tabO T1, .row [.map 0], .gone, .row errZ, .row errZ] 0 (by simp) rfl rfl
          rw [e2] at c27
          have c26 := t14 (M := M) hp hq P1 P1 (by unfold small at m1; omega)
          generalize (if right key hi = true then P1.filter (fun x => has key hi x.1) else []) = R at c21 c22 c24
          generalize getL P1 key = G at c19 c20 c23
          simp only [errZ, getR, scanR] at c20 c21 c22 c25 c27
          simp at c17
          simp [v3_body, v3_0, v3_1, v3_3, v3_4, hq, hlive, c12, w1', w2', w3', c13, c15, c16, c14]
          cases hw0 : decide (0 < w.length) <;> cases hfl : U.flatss (P1.map pairC) <;> (
            rw [hw0] at c18
            simp only [shp, cond_true, cond_false] at c18
            simp [v3_6, c17, hq, v3_7, c16, c18, hfl, v3_8, c19]
            simp [v3_9, c20, hq, v3_10, c21, v3_11, c22]
            simp [gC_drw v3_12h, v3_12s, hq, c23, c24, c25, c26, c27, Nat.testBit_eq_decide_div_mod_eq])
        · have w3' : (300 : Int) < (hi.length : Int) := by omega
          simp [v3_body, v3_0, v3_1, v3_2, hq, hlive, c12, w1', w2', w3']
      · have w2' : (300 : Int) < (key.length : Int) := by omega
        simp [v3_body, v3_0, v3_1, v3_2, hq, hlive, c12, w1', w2']
    · have w1' : (40 : Int) < (w.length : Int) := by omega
      simp [v3_body, v3_0, v3_1, v3_2, hq, hlive, c12, w1']
end Go.RE
end
section
namespace Go.RE
theorem point_only : ∀ (k x : By), (!lt x k && lt x (k ++ [0])) = (x == k) := by
  intro k
  induction k with
  | nil =>
    intro x
    cases x with
    | nil => rfl
    | cons b y => simp [lt, Op.bytesLess]
  | cons a k ih =>
    intro x
    cases x with
    | nil => simp [lt, Op.bytesLess]
    | cons b y =>
      have := ih y
      simp only [lt, List.cons_append, Op.bytesLess] at this ⊢
      by_cases h1 : b < a
      · have hne : b ≠ a := fun hh => by subst hh; simp at h1
        have : (b :: y == a :: k) = false := by
          cases h : (b :: y == a :: k) with
          | false => rfl
          | true => have := eq_of_beq h; simp at this; exact absurd this.1 hne
        simp [h1, this]
      · by_cases h2 : b = a
        · subst h2
          have e : (b :: y == b :: k) = (y == k) := by show (b == b && y == k) = _; simp
          rw [e, ← this]; simp [h1]
        · have : (b :: y == a :: k) = false := by
            cases h : (b :: y == a :: k) with
            | false => rfl
            | true => have := eq_of_beq h; simp at this; exact absurd this.1 h2
          simp [h1, h2, this]
theorem has_point (k x : By) : has k (k ++ [0]) x = (x == k) := by
  unfold has
  have : (k ++ [0] == ([] : By)) = false := by cases k <;> rfl
  rw [this, Bool.false_or]
  exact point_only k x
theorem has_all (x : By) : has [] [] x = true := by
  unfold has; cases x <;> rfl
def Srt (P : List Pr) : Prop := P.Pairwise fun a b => lt a.1 b.1 = true
theorem cutL_eq (l : List Pr) (k : By) : cutL l k = l.filter fun x => !(x.1 == k) := by
  unfold cutL; congr 1; funext x; rw [has_point]
theorem srt_filter {P : List Pr} (h : Srt P) (p : Pr → Bool) : Srt (P.filter p) := List.Pairwise.filter p h
theorem srt_put {P : List Pr} (h : Srt P) (p : Pr) : Srt (putL P p) := by
  unfold putL Srt
  rw [List.pairwise_append, List.pairwise_append]
  refine ⟨⟨srt_filter h _, List.pairwise_singleton _ _, fun a ha b hb => ?_⟩, srt_filter h _, fun a ha b hb => ?_⟩
  · simp at hb; subst hb
    exact (List.mem_filter.1 ha).2
  · have hb2 := (List.mem_filter.1 hb).2
    rcases List.mem_append.1 ha with ha | ha
    · exact lt_tr (List.mem_filter.1 ha).2 hb2
    · simp at ha; subst ha; exact hb2
theorem lt_ne {a b : By} (h : a ≠ b) : lt a b = true ∨ lt b a = true := by
  rcases lt_tri a b with h1 | h1 | h1
  · exact .inl h1
  · exact absurd h1 h
  · exact .inr h1
theorem mem_put (P : List Pr) (p x : Pr) : x ∈ putL P p ↔ x = p ∨ (x ∈ P ∧ x.1 ≠ p.1) := by
  unfold putL
  simp only [List.mem_append, List.mem_filter, List.mem_singleton]
  constructor
  · rintro ((⟨h1, h2⟩ | h) | ⟨h1, h2⟩)
    · refine .inr ⟨h1, fun hh => ?_⟩
      rw [hh] at h2; rw [show lt p.1 p.1 = false from lt_irr _] at h2; cases h2
    · exact .inl h
    · refine .inr ⟨h1, fun hh => ?_⟩
      rw [hh] at h2; rw [show lt p.1 p.1 = false from lt_irr _] at h2; cases h2
  · rintro (h | ⟨h1, h2⟩)
    · exact .inl (.inr h)
    · rcases lt_ne h2 with h | h
      · exact .inl (.inl ⟨h1, h⟩)
      · exact .inr ⟨h1, h⟩
theorem mem_cut (P : List Pr) (k : By) (x : Pr) : x ∈ cutL P k ↔ x ∈ P ∧ x.1 ≠ k := by
  rw [cutL_eq, List.mem_filter]
  constructor
  · rintro ⟨h1, h2⟩
    exact ⟨h1, fun hh => by rw [hh] at h2; simp at h2⟩
  · rintro ⟨h1, h2⟩
    refine ⟨h1, ?_⟩
    cases h : x.1 == k with
    | false => rfl
    | true => exact absurd (eq_of_beq h) h2
theorem srt_ext : ∀ {P R : List Pr}, Srt P → Srt R → (∀ x, x ∈ P ↔ x ∈ R) → P = R := by
  intro P
  induction P with
  | nil =>
    intro R _ _ h
    cases R with
    | nil => rfl
    | cons a R => exact absurd ((h a).2 (by simp)) (by simp)
  | cons p P ih =>
    intro R hP hR h
    cases R with
    | nil => exact absurd ((h p).1 (by simp)) (by simp)
    | cons r R =>
      obtain ⟨hp1, hp2⟩ := List.pairwise_cons.1 hP
      obtain ⟨hr1, hr2⟩ := List.pairwise_cons.1 hR
      have hpr : p = r := by
        rcases List.mem_cons.1 ((h p).1 (by simp)) with h1 | h1
        · exact h1
        · rcases List.mem_cons.1 ((h r).2 (by simp)) with h2 | h2
          · exact h2.symm
          · have a := hr1 p h1
            have b := hp1 r h2
            have := lt_asy a
            rw [show Op.bytesLess p.1 r.1 = true from b] at this; cases this
      subst hpr
      congr 1
      refine ih hp2 hr2 fun x => ⟨fun hx => ?_, fun hx => ?_⟩
      · rcases List.mem_cons.1 ((h x).1 (List.mem_cons_of_mem _ hx)) with h1 | h1
        · subst h1; have := hp1 x hx; rw [show lt x.1 x.1 = false from lt_irr _] at this; cases this
        · exact h1
      · rcases List.mem_cons.1 ((h x).2 (List.mem_cons_of_mem _ hx)) with h1 | h1
        · subst h1; have := hr1 x hx; rw [show lt x.1 x.1 = false from lt_irr _] at this; cases this
        · exact h1
end Go.RE
end
section
namespace Go.RE
structure Rl (es : List Ent1) (P : List Pr) : Prop where
  nd : (es.map (·.k)).Nodup
  srt : Srt P
  mem : ∀ k d, (k, d) ∈ P ↔ ∃ e ∈ es, e.k = k ∧ e.d = d
theorem rl_nil : Rl [] [] := ⟨by simp, List.Pairwise.nil, fun k d => by simp⟩
theorem mod_keys (k d : By) : ∀ es, (modE k d es).map (·.k) = es.map (·.k) := by
  intro es
  induction es with
  | nil => rfl
  | cons e r ih =>
    simp only [modE]
    split
    · rename_i h; simp [eq_of_beq h]
    · simp [ih]
theorem mod_births (k d : By) : ∀ es, (modE k d es).map (·.b) = es.map (·.b) := by
  intro es
  induction es with
  | nil => rfl
  | cons e r ih =>
    simp only [modE]
    split
    · simp
    · simp [ih]
theorem mod_mem (k d : By) : ∀ es, (es.map (·.k)).Nodup → ∀ x, x ∈ modE k d es ↔ (x ∈ es ∧ x.k ≠ k) ∨ ∃ e ∈ es, e.k = k ∧ x = ⟨k, d, e.b⟩ := by
  intro es
  induction es with
  | nil => intro _ x; simp [modE]
  | cons e r ih =>
    intro hn x
    simp only [List.map_cons, List.nodup_cons] at hn
    simp only [modE]
    split
    · rename_i h
      have hk := eq_of_beq h
      have hr : ∀ y ∈ r, y.k ≠ k := fun y hy hh => hn.1 (by rw [hk, ← hh]; exact List.mem_map.2 ⟨y, hy, rfl⟩)
      simp only [List.mem_cons]
      constructor
      · rintro (h1 | h1)
        · exact .inr ⟨e, .inl rfl, hk, h1⟩
        · exact .inl ⟨.inr h1, hr x h1⟩
      · rintro (⟨h1 | h1, h2⟩ | ⟨y, h1 | h1, h2, h3⟩)
        · subst h1; exact absurd hk h2
        · exact .inr h1
        · subst h1; exact .inl h3
        · exact absurd h2 (hr y h1)
    · rename_i h
      have hk : e.k ≠ k := fun hh => h (by rw [hh]; exact beq_self_eq_true k)
      simp only [List.mem_cons, ih hn.2]
      constructor
      · rintro (h1 | ⟨h1, h2⟩ | ⟨y, h1, h2, h3⟩)
        · subst h1; exact .inl ⟨.inl rfl, hk⟩
        · exact .inl ⟨.inr h1, h2⟩
        · exact .inr ⟨y, .inr h1, h2, h3⟩
      · rintro (⟨h1 | h1, h2⟩ | ⟨y, h1 | h1, h2, h3⟩)
        · exact .inl h1
        · exact .inr (.inl ⟨h1, h2⟩)
        · subst h1; exact absurd h2 hk
        · exact .inr (.inr ⟨y, h1, h2, h3⟩)
theorem del_mem (k : By) : ∀ es, (es.map (·.k)).Nodup → ∀ x, x ∈ delE k es ↔ x ∈ es ∧ x.k ≠ k := by
  intro es
  induction es with
  | nil => intro _ x; simp [delE]
  | cons e r ih =>
    intro hn x
    simp only [List.map_cons, List.nodup_cons] at hn
    simp only [delE]
    split
    · rename_i h
      have hk := eq_of_beq h
      have hr : ∀ y ∈ r, y.k ≠ k := fun y hy hh => hn.1 (by rw [hk, ← hh]; exact List.mem_map.2 ⟨y, hy, rfl⟩)
      simp only [List.mem_cons]
      constructor
      · intro h1; exact ⟨.inr h1, hr x h1⟩
      · rintro ⟨h1 | h1, h2⟩
        · subst h1; exact absurd hk h2
        · exact h1
    · rename_i h
      have hk : e.k ≠ k := fun hh => h (by rw [hh]; exact beq_self_eq_true k)
      simp only [List.mem_cons, ih hn.2]
      constructor
      · rintro (h1 | ⟨h1, h2⟩)
        · subst h1; exact ⟨.inl rfl, hk⟩
        · exact ⟨.inr h1, h2⟩
      · rintro ⟨h1 | h1, h2⟩
        · exact .inl h1
        · exact .inr ⟨h1, h2⟩
theorem del_sub (k : By) : ∀ es, (delE k es).Sublist es := by
  intro es
  induction es with
  | nil => exact List.Sublist.refl _
  | cons e r ih =>
    simp only [delE]
    split
    · exact List.sublist_cons_self _ _
    · exact ih.cons_cons _
theorem ent_some {k : By} {es : List Ent1} (h : (entOf k es).isSome = true) : ∃ e ∈ es, e.k = k := by
  obtain ⟨e, he⟩ := Option.isSome_iff_exists.1 h
  have := List.find?_some he
  exact ⟨e, List.mem_of_find?_eq_some he, eq_of_beq this⟩
theorem ent_none {k : By} {es : List Ent1} (h : ¬ (entOf k es).isSome = true) : ∀ e ∈ es, e.k ≠ k := by
  intro e he hk
  apply h
  unfold entOf
  rw [List.find?_isSome]
  exact ⟨e, he, by rw [hk]; exact beq_self_eq_true k⟩
theorem rl_set {es : List Ent1} {P : List Pr} (h : Rl es P) (k d : By) (c : Nat) : Rl (setE k d c es) (putL P (k, d)) := by
  unfold setE
  split
  · rename_i hs
    obtain ⟨e0, m0, k0⟩ := ent_some hs
    refine ⟨by rw [mod_keys]; exact h.nd, srt_put h.srt _, fun k' d' => ?_⟩
    rw [mem_put]
    constructor
    · rintro (h1 | ⟨h1, h2⟩)
      · cases h1; exact ⟨_, (mod_mem k d es h.nd _).2 (.inr ⟨e0, m0, k0, rfl⟩), rfl, rfl⟩
      · obtain ⟨e, m, rfl, rfl⟩ := (h.mem k' d').1 h1
        exact ⟨e, (mod_mem k d es h.nd e).2 (.inl ⟨m, h2⟩), rfl, rfl⟩
    · rintro ⟨x, hx, rfl, rfl⟩
      rcases (mod_mem k d es h.nd x).1 hx with ⟨m, hne⟩ | ⟨e, m, hk, rfl⟩
      · exact .inr ⟨(h.mem _ _).2 ⟨x, m, rfl, rfl⟩, hne⟩
      · exact .inl rfl
  · rename_i hs
    have hno := ent_none hs
    refine ⟨?_, srt_put h.srt _, fun k' d' => ?_⟩
    · rw [List.map_append, List.nodup_append]
      refine ⟨h.nd, by simp, fun a ha b hb hab => ?_⟩
      obtain ⟨e, m, rfl⟩ := List.mem_map.1 ha
      simp at hb; subst hb
      exact hno e m hab
    · rw [mem_put]
      simp only [List.mem_append, List.mem_singleton]
      constructor
      · rintro (h1 | ⟨h1, h2⟩)
        · cases h1; exact ⟨⟨k, d, c⟩, .inr rfl, rfl, rfl⟩
        · obtain ⟨e, m, rfl, rfl⟩ := (h.mem k' d').1 h1; exact ⟨e, .inl m, rfl, rfl⟩
      · rintro ⟨x, hx | rfl, rfl, rfl⟩
        · exact .inr ⟨(h.mem _ _).2 ⟨x, hx, rfl, rfl⟩, hno x hx⟩
        · exact .inl rfl
theorem rl_del {es : List Ent1} {P : List Pr} (h : Rl es P) (k : By) : Rl (if (entOf k es).isSome = true then delE k es else es) (cutL P k) := by
  have hs : Srt (cutL P k) := srt_filter h.srt _
  split
  · refine ⟨((del_sub k es).map (·.k)).nodup h.nd, hs, fun k' d' => ?_⟩
    rw [mem_cut]
    constructor
    · rintro ⟨h1, h2⟩
      obtain ⟨e, m, rfl, rfl⟩ := (h.mem k' d').1 h1
      exact ⟨e, (del_mem k es h.nd e).2 ⟨m, h2⟩, rfl, rfl⟩
    · rintro ⟨x, hx, rfl, rfl⟩
      obtain ⟨m, hne⟩ := (del_mem k es h.nd x).1 hx
      exact ⟨(h.mem _ _).2 ⟨x, m, rfl, rfl⟩, hne⟩
  · rename_i hn
    have hno := ent_none hn
    refine ⟨h.nd, hs, fun k' d' => ?_⟩
    rw [mem_cut]
    constructor
    · rintro ⟨h1, h2⟩; exact (h.mem k' d').1 h1
    · intro h1
      obtain ⟨e, m, rfl, rfl⟩ := h1
      exact ⟨(h.mem _ _).2 ⟨e, m, rfl, rfl⟩, hno e m⟩
end Go.RE
end
section
namespace Go.RE
theorem put_cut {P : List Pr} (h : Srt P) (k d : By) : putL (cutL P k) (k, d) = putL P (k, d) := by
  refine srt_ext (srt_put (srt_filter h _) _) (srt_put h _) fun x => ?_
  rw [mem_put, mem_put, mem_cut]
  constructor
  · rintro (h1 | ⟨⟨h1, _⟩, h2⟩)
    · exact .inl h1
    · exact .inr ⟨h1, h2⟩
  · rintro (h1 | ⟨h1, h2⟩)
    · exact .inl h1
    · exact .inr ⟨⟨h1, h2⟩, h2⟩
theorem rl_pairs : ∀ (l : List Pr) (t : Tb) (P : List Pr), Rl t.1 P → Rl (l.foldl stepP t).1 (l.foldl putL P) := by
  intro l
  induction l with
  | nil => intro t P h; exact h
  | cons p l ih => intro t P h; exact ih _ _ (rl_set h p.1 p.2 t.2)
theorem rl_write {t : Tb} {P : List Pr} (h : Rl t.1 P) (x : Wr) : Rl (stepT t x).1 (apply1 P x) := by
  unfold stepT apply1 putT
  simp only
  split
  · exact rl_del h x.1
  · rw [put_cut h.srt]; exact rl_set h x.1 x.2.2 t.2
theorem rl_writes : ∀ (w : List Wr) (t : Tb) (P : List Pr), Rl t.1 P → Rl (w.foldl stepT t).1 (applyL P w) := by
  intro w
  induction w with
  | nil => intro t P h; exact h
  | cons x w ih => intro t P h; exact ih _ _ (rl_write h x)
theorem ins_mem (a x : By) : ∀ l, x ∈ insB a l ↔ x = a ∨ x ∈ l := by
  intro l
  induction l with
  | nil => simp [insB]
  | cons y l ih =>
    simp only [insB]
    split
    · simp only [List.mem_cons, ih]
      constructor
      · rintro (h | h | h)
        · exact .inr (.inl h)
        · exact .inl h
        · exact .inr (.inr h)
      · rintro (h | h | h)
        · exact .inr (.inl h)
        · exact .inl h
        · exact .inr (.inr h)
    · simp only [List.mem_cons]
theorem sort_mem (x : By) : ∀ l, x ∈ sortB l ↔ x ∈ l := by
  intro l
  induction l with
  | nil => exact Iff.rfl
  | cons a l ih => show x ∈ insB a (sortB l) ↔ _; rw [ins_mem, ih, List.mem_cons]
theorem ins_srt (a : By) : ∀ l, l.Pairwise (fun x y => lt x y = true) → a ∉ l → (insB a l).Pairwise (fun x y => lt x y = true) := by
  intro l
  induction l with
  | nil => intro _ _; exact List.pairwise_singleton _ _
  | cons y l ih =>
    intro h hn
    obtain ⟨h1, h2⟩ := List.pairwise_cons.1 h
    simp only [List.mem_cons, not_or] at hn
    simp only [insB]
    split
    · rename_i hlt
      refine List.pairwise_cons.2 ⟨fun z hz => ?_, ih h2 hn.2⟩
      rcases (ins_mem a z l).1 hz with rfl | hz
      · exact hlt
      · exact h1 z hz
    · rename_i hlt
      have hay : lt a y = true := by
        rcases lt_ne hn.1 with h3 | h3
        · exact h3
        · exact absurd h3 hlt
      refine List.pairwise_cons.2 ⟨fun z hz => ?_, h⟩
      rcases List.mem_cons.1 hz with rfl | hz
      · exact hay
      · exact lt_tr hay (h1 z hz)
theorem sort_srt : ∀ l : List By, l.Nodup → (sortB l).Pairwise (fun x y => lt x y = true) := by
  intro l
  induction l with
  | nil => intro _; exact List.Pairwise.nil
  | cons a l ih =>
    intro h
    obtain ⟨h1, h2⟩ := List.nodup_cons.1 h
    exact ins_srt a _ (ih h2) (fun hh => h1 ((sort_mem a l).1 hh))
theorem ent_of {es : List Ent1} (hn : (es.map (·.k)).Nodup) {e : Ent1} (he : e ∈ es) : entOf e.k es = some e := by
  unfold entOf
  induction es with
  | nil => cases he
  | cons a r ih =>
    simp only [List.map_cons, List.nodup_cons] at hn
    rw [List.find?_cons]
    rcases List.mem_cons.1 he with rfl | he
    · simp
    · have : (a.k == e.k) = false := by
        cases h : a.k == e.k with
        | false => rfl
        | true => exact absurd (List.mem_map.2 ⟨e, he, (eq_of_beq h).symm⟩) hn.1
      rw [this]; exact ih hn.2 he
theorem in_eq {es : List Ent1} {P : List Pr} (h : Rl es P) (lo hi : By) : inT es lo hi (keysT es) = P.filter fun x => has lo hi x.1 := by
  refine srt_ext ?_ (srt_filter h.srt _) fun x => ?_
  · unfold inT Srt
    rw [List.pairwise_map]
    exact (List.Pairwise.filter _ (sort_srt _ h.nd))
  · obtain ⟨k, d⟩ := x
    unfold inT keysT
    simp only [List.mem_map, List.mem_filter, sort_mem, Prod.mk.injEq]
    constructor
    · rintro ⟨k', ⟨⟨e, he, rfl⟩, hh⟩, rfl, rfl⟩
      refine ⟨(h.mem _ _).2 ⟨e, he, rfl, ?_⟩, hh⟩
      simp [dataE, ent_of h.nd he]
    · rintro ⟨hm, hh⟩
      obtain ⟨e, he, rfl, rfl⟩ := (h.mem k d).1 hm
      exact ⟨e.k, ⟨⟨e, he, rfl⟩, hh⟩, rfl, by simp [dataE, ent_of h.nd he]⟩
theorem get_eq {es : List Ent1} {P : List Pr} (h : Rl es P) (k : By) : getL P k = (entOf k es).map (·.d) := by
  cases hg : entOf k es with
  | some e =>
    have hm : e ∈ es := List.mem_of_find?_eq_some hg
    have hk : e.k = k := by have := List.find?_some hg; exact eq_of_beq this
    have hp := (h.mem k e.d).2 ⟨e, hm, hk, rfl⟩
    unfold getL
    cases hf : P.find? (fun p => p.1 == k) with
    | none =>
      have := List.find?_eq_none.1 hf _ hp
      simp at this
    | some p =>
      have hpm := List.mem_of_find?_eq_some hf
      have hpk : p.1 = k := by have := List.find?_some hf; exact eq_of_beq this
      obtain ⟨e', m', k', d'⟩ := (h.mem p.1 p.2).1 hpm
      have h1 := ent_of h.nd m'
      rw [k', hpk, hg] at h1
      have h2 : e = e' := Option.some.inj h1
      subst h2
      simp [d']
  | none =>
    have hno := ent_none (k := k) (es := es) (by rw [hg]; simp)
    unfold getL
    cases hf : P.find? (fun p => p.1 == k) with
    | none => rfl
    | some p =>
      have hpm := List.mem_of_find?_eq_some hf
      have hpk : p.1 = k := by have := List.find?_some hf; exact eq_of_beq this
      obtain ⟨e', m', k', d'⟩ := (h.mem p.1 p.2).1 hpm
      exact absurd (k'.trans hpk) (hno e' m')
theorem data_eq {es : List Ent1} {P : List Pr} (h : Rl es P) (k : By) : dataE k es = (getL P k).getD [] := by rw [get_eq h]; rfl
theorem some_eq {es : List Ent1} {P : List Pr} (h : Rl es P) (k : By) : (entOf k es).isSome = (getL P k).isSome := by rw [get_eq h]; cases entOf k es <;> rfl
theorem not_right {lo hi : By} (h : ¬ right lo hi = true) (x : By) : has lo hi x = false := by
  unfold right at h
  simp only [Bool.or_eq_true, not_or] at h
  unfold has
  cases h1 : lt x lo with
  | true => rfl
  | false =>
    have e : (hi == ([] : By)) = false := by
      cases hh : hi == ([] : By) with
      | false => rfl
      | true => exact absurd hh h.1
    rw [e]
    cases h2 : lt x hi with
    | false => rfl
    | true => exact absurd (ge_lt h1 h2) h.2
theorem scan_eq {es : List Ent1} {P : List Pr} (h : Rl es P) (lo hi : By) : inT es lo hi (keysT es) = if right lo hi = true then P.filter (fun x => has lo hi x.1) else [] := by
  rw [in_eq h]
  split
  · rfl
  · rename_i hr
    rw [List.filter_eq_nil_iff]
    intro x _
    rw [not_right hr]; simp
theorem all_eq {es : List Ent1} {P : List Pr} (h : Rl es P) : inT es [] [] (keysT es) = P := by
  rw [in_eq h, List.filter_eq_self]
  intro x _
  exact has_all x.1
end Go.RE
end
section
namespace Go.RE
theorem tab_nil : TabOk [] 0 := ⟨by simp, (fun e he => by cases he), fun e he => by cases he⟩
theorem mod_dat {k d : By} (hd : d.length < small) : ∀ {es : List Ent1}, (∀ e ∈ es, e.d.length < small) → ∀ e ∈ modE k d es, e.d.length < small := by
  intro es
  induction es with
  | nil => intro h e he; cases he
  | cons a r ih =>
    intro h e he
    simp only [modE] at he
    split at he
    · rcases List.mem_cons.1 he with rfl | he
      · exact hd
      · exact h e (List.mem_cons_of_mem _ he)
    · rcases List.mem_cons.1 he with rfl | he
      · exact h e List.mem_cons_self
      · exact ih (fun x hx => h x (List.mem_cons_of_mem _ hx)) e he
theorem mod_len (k d : By) (es : List Ent1) : (modE k d es).length = es.length := by
  have := congrArg List.length (mod_births k d es); simpa using this
theorem tab_set {es : List Ent1} {c : Nat} (h : TabOk es c) (k d : By) (hdl : d.length < small) : TabOk (setE k d c es) (clkE k c es) ∧ (setE k d c es).length ≤ es.length + 1 := by
  unfold setE clkE
  split
  · refine ⟨⟨by rw [mod_births]; exact h.nodup, fun e he => ?_, mod_dat hdl h.dat⟩, by rw [mod_len]; omega⟩
    have hb : e.b ∈ (modE k d es).map (·.b) := List.mem_map.2 ⟨e, he, rfl⟩
    rw [mod_births] at hb
    obtain ⟨e', m, hh⟩ := List.mem_map.1 hb
    rw [← hh]; exact h.lt e' m
  · refine ⟨⟨?_, fun e he => ?_, fun e he => ?_⟩, by simp⟩
    · rw [List.map_append, List.nodup_append]
      refine ⟨h.nodup, by simp, fun a ha b hb hab => ?_⟩
      obtain ⟨e, m, rfl⟩ := List.mem_map.1 ha
      simp at hb; subst hb
      have := h.lt e m
      omega
    · rcases List.mem_append.1 he with he | he
      · have := h.lt e he; omega
      · simp at he; subst he; simp
    · rcases List.mem_append.1 he with he | he
      · exact h.dat e he
      · simp at he; subst he; exact hdl
theorem tab_put {es : List Ent1} {c : Nat} (h : TabOk es c) (k : By) (gone : Bool) (d : By) (hdl : d.length < small) : TabOk (putT k gone d c es) (clkT k gone c es) ∧ (putT k gone d c es).length ≤ es.length + 1 := by
  unfold putT clkT
  cases gone with
  | true =>
    simp only [if_true]
    split
    · exact ⟨⟨((del_sub k es).map (·.b)).nodup h.nodup, fun e he => h.lt e ((del_sub k es).subset he), fun e he => h.dat e ((del_sub k es).subset he)⟩, by have := (del_sub k es).length_le; omega⟩
    · exact ⟨h, by omega⟩
  | false => simpa using tab_set h k d hdl
theorem tab_pairs : ∀ (l : List Pr) (t : Tb), (∀ p ∈ l, p.2.length < small) → TabOk t.1 t.2 → TabOk (l.foldl stepP t).1 (l.foldl stepP t).2 ∧ (l.foldl stepP t).1.length ≤ t.1.length + l.length := by
  intro l
  induction l with
  | nil => intro t _ h; exact ⟨h, by simp⟩
  | cons p l ih =>
    intro t hd h
    obtain ⟨h1, h2⟩ := tab_set h p.1 p.2 (hd p List.mem_cons_self)
    obtain ⟨h3, h4⟩ := ih (stepP t p) (fun x hx => hd x (List.mem_cons_of_mem _ hx)) h1
    refine ⟨h3, ?_⟩
    have : (stepP t p).1.length ≤ t.1.length + 1 := h2
    simp only [List.foldl_cons, List.length_cons]; omega
theorem tab_writes : ∀ (w : List Wr) (t : Tb), (∀ x ∈ w, x.2.2.length < small) → TabOk t.1 t.2 → TabOk (w.foldl stepT t).1 (w.foldl stepT t).2 ∧ (w.foldl stepT t).1.length ≤ t.1.length + w.length := by
  intro w
  induction w with
  | nil => intro t _ h; exact ⟨h, by simp⟩
  | cons x w ih =>
    intro t hd h
    obtain ⟨h1, h2⟩ := tab_put h x.1 x.2.1 x.2.2 (hd x List.mem_cons_self)
    obtain ⟨h3, h4⟩ := ih (stepT t x) (fun y hy => hd y (List.mem_cons_of_mem _ hy)) h1
    refine ⟨h3, ?_⟩
    have : (stepT t x).1.length ≤ t.1.length + 1 := h2
    simp only [List.foldl_cons, List.length_cons]; omega
theorem pairs_len : ∀ (l P : List Pr), (l.foldl putL P).length ≤ P.length + l.length := by
  intro l
  induction l with
  | nil => intro P; simp
  | cons p l ih => intro P; have := ih (putL P p); have := putL_len P p; simp only [List.foldl_cons, List.length_cons]; omega
theorem apply_len : ∀ (w : List Wr) (P : List Pr), (applyL P w).length ≤ P.length + w.length := by
  intro w
  induction w with
  | nil => intro P; simp [applyL]
  | cons x w ih =>
    intro P
    have h1 := ih (apply1 P x)
    have h2 := apply1_len P x
    have : applyL P (x :: w) = applyL (apply1 P x) w := rfl
    rw [this, List.length_cons]; omega
end Go.RE
end
