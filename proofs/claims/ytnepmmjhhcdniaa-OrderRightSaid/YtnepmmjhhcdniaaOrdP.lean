/- What the readings of the order laws give. -/
import Derived.Test.YtnepmmjhhcdniaaRows
import Derived.Test.YtnepmmjhhcdniaaOrdSound
import Derived.Test.YtnepmmjhhcdniaaOrdI
import Derived.Test.YtnepmmjhhcdniaaRe18
namespace Go.RE
open Go.Proofs Go.Proofs.Ytnepmmjhhcdniaa

theorem rows_map {α : Type} {f : α → List V} {p : α → Prop} : ∀ {rows : List (List V)}, (∀ r ∈ rows, ∃ d, r = f d ∧ p d) → ∃ l : List α, rows = l.map f ∧ ∀ d ∈ l, p d := by
  intro rows
  induction rows with
  | nil => intro _; exact ⟨[], rfl, fun d h => by simp at h⟩
  | cons r rs ih =>
    intro h
    obtain ⟨d, rfl, hd⟩ := h r List.mem_cons_self
    obtain ⟨l, rfl, hl⟩ := ih fun x hx => h x (List.mem_cons_of_mem _ hx)
    exact ⟨d :: l, rfl, fun x hx => by
      rcases List.mem_cons.1 hx with rfl | hx
      · exact hd
      · exact hl x hx⟩
theorem sl_c {s : St} {w : Nat} {rows : List (List V)} (hw : ∀ r ∈ rows, r.length = w) : Sl s w (.cslice rows.flatten 0 rows.length w) rows :=
  .inr (.inl ⟨_, 0, rfl, rowsAt_flatten hw⟩)

section
variable {H : Type} {enc : TypeId × Value → H} {W : World}
theorem op44 : Opens enc Try.prog W 44 fun vs => ∃ p : Sp, vs = spC p := by
  intro fuel cs x h
  obtain ⟨vs, h1, h2⟩ := opens_struct (Qs := [_, _]) Try.underlying44 (by kernel_rfl) ⟨opens_string Try.underlying9, opens_string Try.underlying9, trivial⟩ fuel cs x h
  obtain ⟨a, b, rfl, ⟨l, rfl, _⟩, a', b', rfl, ⟨l', rfl, _⟩, rfl⟩ := h2
  exact ⟨_, h1, (l, l'), rfl⟩
theorem op30 : Opens enc Try.prog W 30 fun vs => ∃ (v : V) (l : List Sp), vs = [v] ∧ (∀ s, Sl s 2 v (l.map spC)) ∧ l.length ≤ maxLen := by
  intro fuel cs x h
  obtain ⟨vs, h1, h2⟩ := opens_slice (c := 2) Try.underlying30 (by kernel_rfl) (by decide) op44 fuel cs x h
  rcases h2 with rfl | ⟨rows, hr, hm, rfl⟩
  · exact ⟨_, h1, .nils, [], rfl, fun s => .inl ⟨rfl, rfl⟩, by simp⟩
  · obtain ⟨l, rfl, _⟩ := rows_map (f := spC) (p := fun _ => True) (rows := rows) fun r hx => let ⟨p, hp⟩ := (hr r hx).1; ⟨p, hp, trivial⟩
    exact ⟨_, h1, _, l, rfl, fun s => sl_c fun r hx => (hr r hx).2, by simpa using hm⟩
theorem op32 : Opens enc Try.prog W 32 fun vs => ∃ d : D, vs = dC d ∧ ∀ s, d.ok0 s maxLen := by
  intro fuel cs x h
  obtain ⟨vs, h1, h2⟩ := opens_struct (Qs := [_, _, _, _, _, _, _]) Try.underlying32 (by kernel_rfl) ⟨opens_int Try.underlying3, opens_int Try.underlying29, opens_int Try.underlying29, opens_int Try.underlying3, opens_int Try.underlying3, op30, op30, trivial⟩ fuel cs x h
  obtain ⟨_, _, rfl, ⟨n1, rfl, _⟩, _, _, rfl, ⟨n2, rfl, _⟩, _, _, rfl, ⟨n3, rfl, _⟩, _, _, rfl, ⟨n4, rfl, _⟩, _, _, rfl, ⟨n5, rfl, _⟩, _, _, rfl, ⟨v6, l6, rfl, h6, m6⟩, _, _, rfl, ⟨v7, l7, rfl, h7, m7⟩, rfl⟩ := h2
  exact ⟨_, h1, ⟨n1, n2, n3, n4, n5, v6, v7, l6, l7⟩, rfl, fun s => ⟨h6 s, h7 s, m6, m7⟩⟩
theorem op22 : Opens enc Try.prog W 22 fun vs => ∃ (v : V) (l : List D), vs = [v] ∧ DLB noSt maxLen v l := by
  intro fuel cs x h
  obtain ⟨vs, h1, h2⟩ := opens_slice (c := 7) Try.underlying22 (by kernel_rfl) (by decide) op32 fuel cs x h
  rcases h2 with rfl | ⟨rows, hr, hm, rfl⟩
  · exact ⟨_, h1, .nils, [], rfl, .inl ⟨rfl, rfl⟩, fun d hd => by simp at hd, by simp⟩
  · obtain ⟨l, rfl, hl⟩ := rows_map (f := dC) (p := fun d => ∀ s, d.ok0 s maxLen) (rows := rows) fun r hx => (hr r hx).1
    exact ⟨_, h1, _, l, rfl, sl_c fun r hx => (hr r hx).2, fun d hd => hl d hd noSt, by simpa using hm⟩
end
def noM : Nat → String → Option Nat := fun _ _ => none
theorem noM_sound : MSound Try.prog noM := fun _ _ _ h => by cases h
end Go.RE
