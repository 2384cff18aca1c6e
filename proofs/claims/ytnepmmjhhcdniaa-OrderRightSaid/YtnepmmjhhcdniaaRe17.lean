/- Slices that a call owns: they grow by append. -/
import Derived.Test.YtnepmmjhhcdniaaRe16
namespace Go.RE

theorem flatten_take {w : Nat} : ∀ {rows : List (List V)}, (∀ r ∈ rows, r.length = w) → rows.flatten.length = rows.length * w ∧ ∀ i (h : i < rows.length), (rows.flatten.drop (i * w)).take w = rows[i] := by
  intro rows
  induction rows with
  | nil => intro _; simp
  | cons r rs ih =>
    intro hw
    obtain ⟨h1, h2⟩ := ih (fun x hx => hw x (List.mem_cons_of_mem _ hx))
    have hr : r.length = w := hw r List.mem_cons_self
    refine ⟨?_, fun i hi => ?_⟩
    · simp only [List.flatten_cons, List.length_append, h1, hr, List.length_cons, Nat.succ_mul]; omega
    · cases i with
      | zero => simp only [Nat.zero_mul, List.drop_zero, List.flatten_cons, List.getElem_cons_zero]; rw [List.take_append_of_le_length (by omega), List.take_of_length_le (by omega)]
      | succ i =>
        simp only [List.flatten_cons, List.getElem_cons_succ]
        have : (i + 1) * w = r.length + i * w := by rw [hr, Nat.succ_mul]; omega
        rw [this, ← List.drop_drop, List.drop_left]
        exact h2 i (by simpa using hi)
theorem rowsAt_flatten {w : Nat} {rows : List (List V)} (hw : ∀ r ∈ rows, r.length = w) : RowsAt rows.flatten 0 w rows := by
  obtain ⟨h1, h2⟩ := flatten_take hw
  exact ⟨by omega, fun i hi => by rw [Nat.zero_add]; exact h2 i hi⟩

/-- A slice of the call's own. -/
def Own (s s' : St) (w : Nat) (u : V) (rows : List (List V)) : Prop :=
  (u = .nils ∧ rows = []) ∨ ∃ b, u = .slice b 0 rows.length rows.length w false ∧ s.next ≤ b ∧ b < s'.next ∧ s'.row b = some rows.flatten

theorem Own.grew {s s' s'' : St} {w : Nat} {u : V} {rows : List (List V)} (h : Own s s' w u rows) (g : Grew s' s'') : Own s s'' w u rows := by
  rcases h with h | ⟨b, h1, h2, h3, h4⟩
  · exact .inl h
  · exact .inr ⟨b, h1, h2, Nat.lt_of_lt_of_le h3 g.next, by rw [g.row h3]; exact h4⟩
theorem Own.sl {s s' : St} {w : Nat} {u : V} {rows : List (List V)} (h : Own s s' w u rows) (hw : ∀ r ∈ rows, r.length = w) : Sl s' w u rows := by
  rcases h with h | ⟨b, h1, h2, h3, h4⟩
  · exact .inl h
  · exact .inr (.inr ⟨b, 0, rows.length, false, _, h1, h3, h4, rowsAt_flatten hw⟩)
theorem Own.nils {s s' : St} {w : Nat} : Own s s' w .nils [] := .inl ⟨rfl, rfl⟩

theorem slice_cells {s : St} {b off len cap w : Nat} {ex : Bool} {cs : List V} (h : s.row b = some cs) (hl : off + len * w ≤ cs.length) : sliceCells s w (.slice b off len cap w ex) = some ((cs.drop off).take (len * w)) := by
  simp only [sliceCells, h, Nat.beq_refl, Nat.ble_eq_true_of_le hl, Bool.and_true, cond_true]

/-- One more. -/
theorem Own.push {s s' : St} {w bytes : Nat} {u : V} {rows : List (List V)} (h : Own s s' w u rows) (hw : ∀ r ∈ rows, r.length = w) (G : Grew s s') {r : List V} (hr : r.length = w) (h1 : r.all V.one = true)
    {b : Nat} (hb : s'.row b = some r) (hbig : (rows.length + 1) * bytes ≤ big) (hbig' : rows.length + 1 ≤ big) :
    ∃ u' s'', appendV s' w bytes false u (.slice b 0 1 1 w true) = some (u', s'') ∧ Own s s'' w u' (rows ++ [r]) ∧ Grew s s'' := by
  have hsrc : srcCells s' w false (.slice b 0 1 1 w true) = some r := by
    have hle : 0 + 1 * w ≤ r.length := by omega
    have := slice_cells (cap := 1) (ex := true) hb hle
    have e : (r.drop 0).take (1 * w) = r := by simp [← hr]
    rw [e] at this
    exact this
  have hlen : lenV (.slice b 0 1 1 w true) = some 1 := rfl
  unfold appendV
  rw [hsrc, hlen]
  simp only [h1, cond_true]
  rcases h with ⟨rfl, rfl⟩ | ⟨c, rfl, h2, h3, h4⟩
  · have e1 : Nat.ble (1 * bytes) big = true := Nat.ble_eq_true_of_le (by simpa using hbig)
    have e2 : Nat.ble 1 big = true := Nat.ble_eq_true_of_le (by simpa using hbig')
    have e3 : Nat.beq 1 0 = false := rfl
    simp only [e1, e2, e3, Bool.and_true, cond_true, cond_false]
    refine ⟨_, _, rfl, .inr ⟨s'.next, rfl, G.next, by simp, ?_⟩, G.trans (Grew.alloc _ _)⟩
    rw [row_alloc]; simp
  · have e0 : Nat.beq w w = true := Nat.beq_refl w
    have e1 : Nat.ble ((rows.length + 1) * bytes) big = true := Nat.ble_eq_true_of_le hbig
    have e2 : Nat.ble (rows.length + 1) big = true := Nat.ble_eq_true_of_le hbig'
    have e3 : Nat.ble (rows.length + 1) rows.length = false := by rw [ble_dec]; simp
    have hf := flatten_take hw
    have hc := slice_cells (cap := rows.length) (ex := false) (off := 0) (len := rows.length) (w := w) h4 (by omega)
    have e4 : (rows.flatten.drop 0).take (rows.length * w) = rows.flatten := by
      rw [List.drop_zero]; exact List.take_of_length_le (by rw [hf.1]; exact Nat.le_refl _)
    rw [e4] at hc
    simp only [e0, e1, e2, e3, Bool.and_true, cond_true, cond_false, hc]
    refine ⟨_, _, rfl, .inr ⟨s'.next, ?_, G.next, ?_, ?_⟩, ?_⟩
    · simp
    · simp
    · have : ((s'.put c .dead).alloc (.row (rows.flatten ++ r))).row s'.next = some (rows.flatten ++ r) := by rw [row_alloc]; simp
      rw [this]; simp
    · have g1 : Grew s (s'.put c .dead) := G.put h2 _
      exact g1.trans (Grew.alloc _ _)
end Go.RE
