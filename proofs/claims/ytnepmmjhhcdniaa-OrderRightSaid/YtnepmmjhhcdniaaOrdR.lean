/- Whether an order is right: the program's answer. -/
import Derived.Test.YtnepmmjhhcdniaaOrdK
namespace Go.RE
set_option linter.unusedSimpArgs false
set_option linter.unusedVariables false
variable {M : Nat → String → Option Nat}

/-- Memory while places are marked. -/
structure OA (s : St) (b n : Nat) (at_ : Nat → Nat) (s' : St) : Prop where
  g : Grew s s'
  lo : s.next ≤ b
  hi : b < s'.next
  r : s'.row b = some ((List.range n).map fun x => icell (at_ x))
theorem OA.grew {s : St} {b n : Nat} {a : Nat → Nat} {s' s'' : St} (h : OA s b n a s') (g : Grew s' s'') : OA s b n a s'' := ⟨h.g.trans g, h.lo, Nat.lt_of_lt_of_le h.hi g.next, (g.row h.hi).trans h.r⟩
theorem OA.set {s : St} {b n : Nat} {a : Nat → Nat} {s' : St} (h : OA s b n a s') (i y : Nat) :
    OA s b n (fun x => if x = i then y else a x) (s'.put b (.row (((List.range n).map fun x => icell (a x)).set i (icell y)))) := by
  refine ⟨h.g.put h.lo _, h.lo, h.hi, ?_⟩
  rw [row_put, if_pos rfl, set_map]
  congr 2
  funext x
  split <;> rfl

/-- What is marked of the first i places. -/
def Marks (n : Nat) (pl : List Int) (i : Nat) (at_ : Nat → Nat) : Prop :=
  (∀ j (h : j < pl.length), j < i → 0 ≤ pl[j] ∧ pl[j] < (n : Int) ∧ at_ (pl[j]).toNat = j + 1) ∧ ∀ x, at_ x = 0 ∨ ∃ j, ∃ h : j < pl.length, j < i ∧ pl[j] = (x : Int) ∧ at_ x = j + 1
theorem Marks.zero {n : Nat} {pl : List Int} : Marks n pl 0 (fun _ => 0) := ⟨fun j _ h => absurd h (by omega), fun _ => .inl rfl⟩
theorem Marks.succ {n : Nat} {pl : List Int} {i a : Nat} {at_ : Nat → Nat} (h : Marks n pl i at_) (hi : i < pl.length) (ha : pl[i] = (a : Int)) (han : a < n) (h0 : at_ a = 0) : Marks n pl (i + 1) (fun x => if x = a then i + 1 else at_ x) := by
  refine ⟨fun j hj hji => ?_, fun x => ?_⟩
  · by_cases e : j = i
    · subst e; rw [ha]; simp; omega
    · obtain ⟨h1, h2, h3⟩ := h.1 j hj (by omega)
      refine ⟨h1, h2, ?_⟩
      have : ¬ (pl[j]).toNat = a := fun e' => by rw [e', h0] at h3; omega
      simp only [if_neg this, h3]
  · by_cases e : x = a
    · subst e; right; exact ⟨i, hi, by omega, ha, by simp⟩
    · simp only [if_neg e]
      rcases h.2 x with h1 | ⟨j, hj, h1, h2, h3⟩
      · exact .inl h1
      · exact .inr ⟨j, hj, by omega, h2, h3⟩
theorem Marks.right {n : Nat} {E : Nat → Nat → Bool} {pl : List Int} {at_ : Nat → Nat} (hlen : pl.length = n) (h : Marks n pl pl.length at_) :
    RightP n E pl ↔ ∀ x y, x < n → y < n → x ≠ y → at_ y < at_ x → E x y = false := by
  have inj : ∀ j (hj : j < pl.length) i (hi : i < pl.length), pl[j] = pl[i] → j = i := by
    intro j hj i hi e
    have h1 := (h.1 j hj hj).2.2
    have h2 := (h.1 i hi hi).2.2
    rw [e, h2] at h1; omega
  constructor
  · intro hr x y hx hy hxy hlt
    rcases h.2 x with h1 | ⟨j, hj, _, h2, h3⟩
    · omega
    rcases h.2 y with h1 | ⟨i, hi, _, h2', h3'⟩
    · -- every place is marked
      have hall : (pl.map Int.toNat).Nodup := by
        rw [List.Nodup, List.pairwise_iff_getElem]
        intro a b ha hb hab e
        simp only [List.length_map] at ha hb
        simp only [List.getElem_map] at e
        have r1 := h.1 a ha ha
        have r2 := h.1 b hb hb
        have := inj a ha b hb (by omega)
        omega
      have hin := (all_in (n := n) hall (fun z hz => by
        obtain ⟨w, hw, rfl⟩ := List.mem_map.1 hz
        obtain ⟨q, hq, rfl⟩ := List.getElem_of_mem hw
        have := h.1 q hq hq
        omega)).2 (by simpa using hlen) y hy
      obtain ⟨w, hw, e⟩ := List.mem_map.1 hin
      obtain ⟨q, hq, rfl⟩ := List.getElem_of_mem hw
      have := (h.1 q hq hq).2.2
      rw [e] at this; omega
    · have := (hr.2 j hj).2.2.2 i (by omega)
      rw [h2, h2'] at this
      simpa using this
  · intro hr
    refine ⟨hlen, fun j hj => ?_⟩
    obtain ⟨r1, r2, r3⟩ := h.1 j hj hj
    refine ⟨r1, r2, fun hm => ?_, fun i hi => ?_⟩
    · obtain ⟨q, hq, e⟩ := List.getElem_of_mem hm
      simp only [List.length_take] at hq
      rw [List.getElem_take] at e
      have := inj q (by omega) j hj e
      omega
    · obtain ⟨q1, q2, q3⟩ := h.1 i (by omega) (by omega)
      refine hr _ _ (by omega) (by omega) (fun e => ?_) (by omega)
      have := inj j hj i (by omega) (by omega)
      omega

end Go.RE
