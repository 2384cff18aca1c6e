/- Whether some stand in a ring. -/
import Derived.Test.YtnepmmjhhcdniaaOrdV
namespace Go.RE
set_option linter.unusedSimpArgs false
set_option linter.unusedVariables false
variable {M : Nat → String → Option Nat}
def dNil : D := ⟨0, 0, 0, 0, 0, .nils, .nils, [], []⟩
def dAt (l : List D) (i : Nat) : D := (l[i]?).getD dNil
theorem dAt_at {l : List D} {i : Nat} (h : i < l.length) : dAt l i = l[i] := by simp [dAt, h]
theorem dAt_range (l : List D) : (List.range l.length).map (dAt l) = l := by
  apply List.ext_getElem
  · simp
  · intro i h1 h2
    simp [dAt, h2]
theorem Sl.cells_of {s : St} {w : Nat} {v : V} {rows : List (List V)} (h : Sl s w v rows) (hw : ∀ r ∈ rows, r.length = w) : sliceCells s w v = some rows.flatten ∧ lenV v = some rows.length := by
  have key : ∀ (cs : List V) off, RowsAt cs off w rows → off + rows.length * w ≤ cs.length ∧ (cs.drop off).take (rows.length * w) = rows.flatten := by
    intro cs off ⟨h1, h2⟩
    refine ⟨h1, ?_⟩
    obtain ⟨f1, f2⟩ := flatten_take hw
    apply List.ext_getElem
    · simp only [List.length_take, List.length_drop]; rw [f1]; omega
    · intro i hi1 hi2
      rw [f1] at hi2
      have hpos : 0 < w := by
        rcases Nat.eq_zero_or_pos w with h0 | h0
        · subst h0; simp at hi2
        · exact h0
      have hd : i / w < rows.length := Nat.div_lt_of_lt_mul (by rw [Nat.mul_comm]; exact hi2)
      have hm : i % w < w := Nat.mod_lt _ hpos
      have he : i / w * w + i % w = i := by rw [Nat.mul_comm]; exact Nat.div_add_mod i w
      have g1 := congrArg (·[i % w]?) (h2 (i / w) hd)
      have g2 := congrArg (·[i % w]?) (f2 (i / w) hd)
      simp only [List.getElem?_take, List.getElem?_drop, if_pos hm] at g1 g2
      rw [Nat.add_assoc, he] at g1
      rw [he] at g2
      have g3 := g1.trans g2.symm
      have b1 : off + i < cs.length := by omega
      rw [List.getElem?_eq_getElem b1, List.getElem?_eq_getElem (by omega)] at g3
      simp only [List.getElem_take, List.getElem_drop]
      exact Option.some.inj g3
  rcases h with ⟨rfl, rfl⟩ | ⟨row, off, rfl, hr⟩ | ⟨b, off, cap, ex, cs, rfl, h1, h2, hr⟩
  · exact ⟨rfl, rfl⟩
  · obtain ⟨k1, k2⟩ := key _ _ hr
    refine ⟨?_, rfl⟩
    simp only [sliceCells, Nat.beq_refl, Nat.ble_eq_true_of_le k1, Bool.and_true, cond_true, k2]
  · obtain ⟨k1, k2⟩ := key _ _ hr
    exact ⟨by rw [slice_cells h2 k1, k2], rfl⟩
theorem dC_one {s : St} {d : D} (h : d.ok s) : (dC d).all V.one = true := by simp [dC, h.1.one, h.2.1.one, one_int]
/-- A copy. -/
theorem DL.copy {s : St} {v : V} {l : List D} (h : DL s v l) {b : Nat} (hb : s.row b = some []) (hlt : b < s.next) :
    ∃ u s', appendV s 7 88 false (.slice b 0 0 0 7 true) v = some (u, s') ∧ DL s' u l ∧ Grew s s' := by
  have hw : ∀ r ∈ l.map dC, r.length = 7 := by
    intro r hr
    obtain ⟨d, _, rfl⟩ := List.mem_map.1 hr
    rfl
  obtain ⟨h1, h2⟩ := h.1.cells_of hw
  have hone : (l.map dC).flatten.all V.one = true := by
    rw [List.all_eq_true]
    intro x hx
    obtain ⟨r, hr, hxr⟩ := List.mem_flatten.1 hx
    obtain ⟨d, hd, rfl⟩ := List.mem_map.1 hr
    exact List.all_eq_true.1 (dC_one (h.2.1 d hd)) x hxr
  have hsrc : srcCells s 7 false v = some (l.map dC).flatten := h1
  rw [List.length_map] at h2
  unfold appendV
  rw [hsrc, h2]
  simp only [hone, cond_true]
  have hlen := h.2.2
  have e1 : Nat.ble ((0 + l.length) * 88) big = true := Nat.ble_eq_true_of_le (by simp [big]; omega)
  have e2 : Nat.ble (0 + l.length) big = true := Nat.ble_eq_true_of_le (by simp [big]; omega)
  have e0 : Nat.beq 7 7 = true := rfl
  simp only [e0, e1, e2, Bool.and_true, cond_true]
  by_cases hl : l = []
  · subst hl
    refine ⟨_, _, rfl, ⟨.inr (.inr ⟨b, 0, 0, true, [], rfl, hlt, hb, by simp, fun i hi => by simp at hi⟩), fun d hd => by simp at hd, by simp⟩, Grew.refl _⟩
  · have hpos : 0 < l.length := List.length_pos_iff.2 hl
    have e3 : Nat.ble (0 + l.length) 0 = false := by rw [ble_dec]; simp; omega
    have hc := slice_cells (cap := 0) (ex := true) (off := 0) (len := 0) (w := 7) hb (by simp)
    simp only [e3, cond_false, hc]
    refine ⟨_, _, rfl, ⟨.inr (.inr ⟨s.next, 0, _, false, _, by simp; rfl, by simp, by rw [row_alloc, if_pos rfl], ?_⟩), fun d hd => (h.2.1 d hd).grew (Grew.alloc _ _), hlen⟩, Grew.alloc _ _⟩
    simpa using rowsAt_flatten hw
end Go.RE
