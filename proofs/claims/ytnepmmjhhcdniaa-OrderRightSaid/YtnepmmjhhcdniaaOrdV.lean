/- Plain: a ring, and an order. -/
import Derived.Test.YtnepmmjhhcdniaaOrdT
namespace Go.RE
theorem lay_free {n : Nat} {E : Nat → Nat → Bool} {en : Nat → Int} : ∀ {t : Nat} {out res : List Nat}, lay n E en t out = some res →
    (∀ i (h : i < out.length), freeN n E (out.take i) out[i] = true) → ∀ i (h : i < res.length), freeN n E (res.take i) res[i] = true := by
  intro t
  induction t with
  | zero => intro out res h ho; simp only [lay, Option.some.injEq] at h; subst h; exact ho
  | succ t ih =>
    intro out res h ho
    simp only [lay] at h
    cases hp : pick n E en out n with
    | none => rw [hp] at h; cases h
    | some b =>
      rw [hp] at h
      refine ih h fun i hi => ?_
      by_cases h1 : i < out.length
      · rw [List.getElem_append_left h1, List.take_append_of_le_length (by omega)]
        exact ho i h1
      · have : i = out.length := by simp at hi; omega
        subst this
        simp
        exact (pick_good hp).2
theorem free_not {n : Nat} {E : Nat → Nat → Bool} {out : List Nat} {i k : Nat} (h : freeN n E out i = true) (hk : k < n) (hki : k ≠ i) (ho : ¬ k ∈ out) : E k i = false := by
  unfold freeN at h
  rw [List.all_eq_true] at h
  have := h k (List.mem_range.2 hk)
  cases hE : E k i with
  | false => rfl
  | true => rw [hE] at this; simp [hki, ho] at this
/-- Those that have another one of them that must stand ahead. -/
def held (E : Nat → Nat → Bool) (idx : List Nat) : List Nat := idx.filter fun b => idx.any fun a => !decide (a = b) && E a b
def rings (E : Nat → Nat → Bool) : Nat → List Nat → List Nat
  | 0, idx => idx
  | t + 1, idx => rings E t (held E idx)
theorem rings_keep {E : Nat → Nat → Bool} {S : Nat → Prop} (hS : ∀ b, S b → ∃ a, S a ∧ a ≠ b ∧ E a b = true) : ∀ {t : Nat} {idx : List Nat}, (∀ b, S b → b ∈ idx) → ∀ b, S b → b ∈ rings E t idx := by
  intro t
  induction t with
  | zero => intro idx h; exact h
  | succ t ih =>
    intro idx h
    refine ih fun b hb => ?_
    obtain ⟨a, ha, hab, hE⟩ := hS b hb
    exact List.mem_filter.2 ⟨h b hb, List.any_eq_true.2 ⟨a, h a ha, by simp [hab, hE]⟩⟩
theorem rings_none {n : Nat} {E : Nat → Nat → Bool} {out : List Nat} (hlen : out.length = n) (hn : out.Nodup) (hx : ∀ x ∈ out, x < n) (hf : ∀ i (h : i < out.length), freeN n E (out.take i) out[i] = true) :
    ∀ {t m : Nat} {idx : List Nat}, m + t = n → (∀ b ∈ idx, b ∈ out.drop m) → ∀ b ∈ rings E t idx, b ∈ out.drop (m + t) := by
  intro t
  induction t with
  | zero => intro m idx _ h; exact h
  | succ t ih =>
    intro m idx hm h b hb
    have := ih (m := m + 1) (idx := held E idx) (by omega) (fun c hc => ?_) b hb
    · rw [show m + 1 + t = m + (t + 1) by omega] at this; exact this
    obtain ⟨h1, h2⟩ := List.mem_filter.1 hc
    have h3 := h c h1
    have hml : m < out.length := by omega
    rw [List.drop_eq_getElem_cons hml] at h3
    rcases List.mem_cons.1 h3 with rfl | h3
    · obtain ⟨a, ha, he⟩ := List.any_eq_true.1 h2
      simp only [Bool.and_eq_true, Bool.not_eq_true', decide_eq_false_iff_not] at he
      have h4 := h a ha
      have hout : a ∈ out := List.mem_of_mem_drop h4
      have hnt : ¬ a ∈ out.take m := fun ht => by
        have hd := (List.nodup_append.1 (by rw [List.take_append_drop]; exact hn : (out.take m ++ out.drop m).Nodup)).2.2
        exact hd a ht a h4 rfl
      have := free_not (hf m hml) (hx a hout) he.1 hnt
      rw [this] at he; cases he.2
    · exact h3
theorem len_le : ∀ {l m : List Nat}, l.Nodup → (∀ x ∈ l, x ∈ m) → l.length ≤ m.length := by
  intro l
  induction l with
  | nil => intro m _ _; simp
  | cons a l ih =>
    intro m hn hs
    have hn' := List.nodup_cons.1 hn
    have ha : a ∈ m := hs a List.mem_cons_self
    have h1 := ih (m := m.erase a) hn'.2 (fun x hx => (List.mem_erase_of_ne (fun e : x = a => hn'.1 (e ▸ hx))).2 (hs x (List.mem_cons_of_mem _ hx)))
    have h2 := List.length_erase_of_mem ha
    have h3 : 0 < m.length := List.length_pos_of_mem ha
    simp only [List.length_cons]; omega
theorem lay_stuck {n : Nat} {E : Nat → Nat → Bool} {en : Nat → Int} : ∀ {t : Nat} {out : List Nat}, lay n E en t out = none → out.Nodup → (∀ x ∈ out, x < n) → out.length + t = n →
    ∃ S : Nat → Prop, (∀ b, S b → b < n) ∧ (∃ b, S b) ∧ ∀ b, S b → ∃ a, S a ∧ a ≠ b ∧ E a b = true := by
  intro t
  induction t with
  | zero => intro out h; cases h
  | succ t ih =>
    intro out h hn hx hlen
    simp only [lay] at h
    cases hp : pick n E en out n with
    | some b =>
      rw [hp] at h
      have hg := pick_good hp
      have hb : ¬ b ∈ out := by simpa using hg.1
      refine ih h (by rw [List.nodup_append]; exact ⟨hn, by simp, fun a ha c hc => by simp at hc; subst hc; exact fun e => hb (e ▸ ha)⟩) (fun x hx' => ?_) (by simp; omega)
      rcases List.mem_append.1 hx' with h | h
      · exact hx x h
      · simp at h; subst h; exact pick_lt hp
    | none =>
      have hnone : ∀ {k : Nat}, pick n E en out k = none → ∀ i, i < k → out.contains i = false → freeN n E out i = false := by
        intro k
        induction k with
        | zero => intro _ i hi; omega
        | succ k ihk =>
          intro hk i hi hc
          rw [pick_succ] at hk
          have hprev : pick n E en out k = none := by
            rcases pickStep_or' (n := n) (E := E) (en := en) (out := out) (pick n E en out k) k with ⟨h1, _⟩ | h1
            · rw [h1] at hk; cases hk
            · rw [h1] at hk; exact hk
          by_cases hik : i < k
          · exact ihk hprev i hik hc
          · obtain rfl : i = k := by omega
            cases hf : freeN n E out i with
            | false => rfl
            | true => rw [hprev, pickStep_first hc hf] at hk; cases hk
      refine ⟨fun b => b < n ∧ ¬ b ∈ out, fun b hb => hb.1, ?_, fun b hb => ?_⟩
      · refine Classical.byContradiction fun hno => ?_
        have hall : ∀ i, i < n → i ∈ out := fun i hi => Classical.byContradiction fun hc => hno ⟨i, hi, hc⟩
        have := len_le (l := List.range n) (m := out) List.nodup_range (fun x hx' => hall x (List.mem_range.1 hx'))
        simp at this; omega
      · have := hnone hp b hb.1 (by simpa using hb.2)
        unfold freeN at this
        rw [List.all_eq_false] at this
        obtain ⟨a, ha, he⟩ := this
        have ha' := List.mem_range.1 ha
        refine ⟨a, ⟨ha', ?_⟩, ?_, ?_⟩ <;> (simp at he; simp [he])
end Go.RE
