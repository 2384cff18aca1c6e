/- Plain: who meets whom, by the program and by the document. -/
import Derived.Test.YtnepmmjhhcdniaaOrdB
namespace Go.RE
theorem less_lt : ∀ (x y : Str), Op.bytesLess x y = decide (x < y)
  | [], [] => by simp [Op.bytesLess]
  | _ :: _, [] => by simp [Op.bytesLess]
  | [], _ :: _ => by simp [Op.bytesLess]
  | a :: x, b :: y => by
    have ih := less_lt x y
    simp only [Op.bytesLess, ih, List.cons_lt_cons_iff]
    by_cases h1 : a < b <;> by_cases h2 : a = b <;> by_cases h3 : x < y <;> simp [h1, h2, h3]
theorem lt_irr (a : Str) : Op.bytesLess a a = false := by rw [less_lt]; simp [List.lt_irrefl]
theorem lt_tr {a b c : Str} (h : Op.bytesLess a b = true) (k : Op.bytesLess b c = true) : Op.bytesLess a c = true := by
  rw [less_lt] at *; simp only [decide_eq_true_eq] at *; exact List.lt_trans h k
theorem lt_tri (a b : Str) : Op.bytesLess a b = true ∨ a = b ∨ Op.bytesLess b a = true := by
  simp only [less_lt, decide_eq_true_eq]
  rcases Classical.em (a < b) with h | h
  · exact .inl h
  · rcases Classical.em (b < a) with h' | h'
    · exact .inr (.inr h')
    · exact .inr (.inl (List.le_antisymm (List.not_lt.1 h') (List.not_lt.1 h)))
theorem lt_asy {a b : Str} (h : Op.bytesLess a b = true) : Op.bytesLess b a = false := by
  cases k : Op.bytesLess b a with
  | false => rfl
  | true => have := lt_tr h k; rw [lt_irr] at this; exact this.symm
theorem not_le (a b : Str) : (!(Op.bytesLess a b || a == b)) = Op.bytesLess b a := by
  rcases lt_tri a b with h | h | h
  · rw [h, lt_asy h]; rfl
  · subst h; simp [lt_irr]
  · rw [lt_asy h, h]
    have : (a == b) = false := by
      cases k : a == b with
      | false => rfl
      | true => rw [eq_of_beq k, lt_irr] at h; cases h
    rw [this]; rfl
theorem meets_same (a b : Sp) : spMeets a b = refMeets a b := by
  obtain ⟨al, ah⟩ := a
  obtain ⟨bl, bh⟩ := b
  unfold spMeets refMeets spRight spAhead refHas
  have n1 := not_le ah al
  have n2 := not_le bh bl
  have n3 : (!(!(ah == []) && (Op.bytesLess ah bl || ah == bl))) = (ah == [] || Op.bytesLess bl ah) := by rw [← not_le ah bl, Bool.not_and, Bool.not_not]
  have n4 : (!(!(bh == []) && (Op.bytesLess bh al || bh == al))) = (bh == [] || Op.bytesLess al bh) := by rw [← not_le bh al, Bool.not_and, Bool.not_not]
  simp only [n1, n2, n3, n4]
  cases h : Op.bytesLess al bl with
  | true =>
    simp only [if_true, lt_asy h, lt_irr, Bool.not_false, Bool.true_and]
    cases h1 : ah == [] <;> cases h2 : bh == [] <;> cases h3 : Op.bytesLess bl ah <;> cases h4 : Op.bytesLess bl bh <;> simp
    all_goals first | exact lt_tr h h3 | exact lt_tr h h4 | exact ⟨lt_tr h h3, lt_tr h h4⟩
  | false =>
    simp only [Bool.false_eq_true, if_false, lt_irr, h, Bool.not_false, Bool.true_and]
    have key : ∀ x, Op.bytesLess al x = true → Op.bytesLess bl x = true := by
      intro x hx
      rcases lt_tri al bl with h' | h' | h'
      · rw [h] at h'; cases h'
      · exact h' ▸ hx
      · exact lt_tr h' hx
    cases h1 : ah == [] <;> cases h2 : bh == [] <;> cases h3 : Op.bytesLess al ah <;> cases h4 : Op.bytesLess al bh <;> simp
    all_goals first | exact key _ h3 | exact key _ h4 | exact ⟨key _ h4, key _ h3⟩
theorem meet_same (a b : List Sp) : spMeet a b = refMeet a b := by
  unfold spMeet refMeet
  congr 1; funext x; congr 1; funext y
  exact meets_same x y
theorem edge_same (a b : D) : edge a b = refEdge a b := by
  unfold edge refEdge
  rw [meet_same, Bool.and_comm]
end Go.RE
