/- From the evaluator to a statement: what a reading gives; what a run leaves. -/
import Derived.Test.YtnepmmjhhcdniaaRe17
import Derived.ChangeArms
import Derived.Carry
import Derived.RowKit
namespace Go.RE

def noRen : Ren := fun _ => none

/-- What was there stays. -/
structure Kept (W W' : World) : Prop where
  os : W'.os = W.os
  output : W'.output = W.output
  block : ∀ k, k < W.heap.size → W'.heap[k]? = W.heap[k]?
theorem Kept.frame {W W' : World} (h : Kept W W') (may : MemPlace → Prop) : W.keptBut W' may := by
  refine ⟨h.os, h.output, fun i hi => ?_⟩
  rw [h.block i hi]
  split <;> simp_all
theorem Kept.same {W W' : World} (h : Kept W W') {p : MemPlace} (hp : p.block < W.heap.size) : W.sameAt W' p := by
  cases p with
  | cell b o => exact World.cell?_of_block (w := W) (h.block b hp)
  | map b => exact h.block b hp
theorem Kept.trod {H : Type} {enc : TypeId × Value → H} {P : Program} {t : TypeId} (hl : laidOutB P = true) (hr : P.readableRec t = true) (hrow : t < P.types.size) {W W' : World} {v : Value} {d : DataW H} {ps : List MemPlace}
    (h : DataW.Trod enc P W 0 (fun _ => true) true t v d ps) (hb : Kept W W') (hlt : ∀ x ∈ ps, x.block < W.heap.size) :
    DataW.Trod enc P W' 0 (fun b => decide (b < W.heap.size)) true t v d ps :=
  WideElems.Trod_stays hl hr hrow h (fun x hx => hb.same (hlt x hx)) (fun x hx => by simpa using hlt x hx)

def noSt : St := { h := .e, next := 0 }

/-- What the evaluator answers, every run answers; and nothing that was there has turned. -/
theorem law_calls {P : Program} {C : Nat → Option CFunc} {M : Nat → String → Option Nat} (hC : CSound P C) (hM : MSound P M) (hD : DrawOK P) {W : World} {f n : Nat} {vs : List V} {args : Array Value} {q : V}
    (hl : LRel W noRen vs args.toList) (h : callP C M n f vs noSt fun v _ => v = q) :
    Calls P f args W fun e W' => (∃ x ρ', e = .returned x ∧ VRel W ρ' q x) ∧ Kept W W' := by
  have hR : Rel W noRen noSt W := {
    old := fun _ _ => rfl
    size := Nat.le_refl _
    os := rfl
    output := rfl
    dom := fun _ _ _ _ e => by cases e
    fresh := fun n _ => by simp [noSt, St.get]
    ob := fun _ _ _ _ e => by cases e
    inj := fun _ _ _ _ _ _ _ e => by cases e }
  obtain ⟨_, hc⟩ := F_sound (w0 := W) hC hM hD n f vs noSt _ noRen W args.toList h hR hl
  rw [Array.toArray_toList] at hc
  refine hc.mono fun e W' h' => ?_
  obtain ⟨v, s', ρ', x, he, hk, hr, _, hv⟩ := h'
  subst hk
  exact ⟨⟨x, ρ', he, hv⟩, hr.os, hr.output, hr.old⟩

section
variable {H : Type} (enc : TypeId × Value → H) (P : Program) (w : World)

/-- Whatever is read as of this type stands for such cells. -/
def Opens (t : TypeId) (Q : List V → Prop) : Prop :=
  ∀ fuel cs x, DataW.trod enc P w 0 (fun _ => true) true fuel t cs = some x → ∃ vs, LRel w noRen vs cs ∧ Q vs

variable {enc P w}
theorem opens_bool {t : TypeId} (ht : P.underlying t = some .bool) : Opens enc P w t fun vs => ∃ b, vs = [.bool b] := by
  intro fuel cs x h
  obtain ⟨b, rfl, _⟩ := DataW.trod_bool ht h
  exact ⟨[.bool b], LRel.cons (.bool b) .nil, b, rfl⟩
theorem opens_int {t : TypeId} {k : IntKind} (ht : P.underlying t = some (.int k)) : Opens enc P w t fun vs => ∃ n, vs = [.int k n] ∧ (Lit.int k n).wf = true := by
  intro fuel cs x h
  obtain ⟨n, rfl, _, hw⟩ := DataW.trod_int ht h
  exact ⟨[.int k n], LRel.cons (.int k n) .nil, n, rfl, hw⟩
theorem opens_string {t : TypeId} (ht : P.underlying t = some .string) : Opens enc P w t fun vs => ∃ l : List UInt8, vs = [.str l] ∧ l.length ≤ maxLen := by
  intro fuel cs x h
  obtain ⟨s, rfl, _, hs⟩ := DataW.trod_string ht h
  exact ⟨[.str s.data.toList], LRel.cons (.str rfl) .nil, _, rfl, by simpa using hs⟩

/-- Fields, one behind the other. -/
def FQ : List (List V → Prop) → List V → Prop
  | [], vs => vs = []
  | Q :: Qs, vs => ∃ a b, vs = a ++ b ∧ Q a ∧ FQ Qs b
def laidAt (P : Program) (tot : Nat) : Nat → List Field → Bool
  | off, [] => off == tot
  | off, f :: fs => f.offset == off && laidAt P tot (off + P.cellsOf f.type) fs
def OpF (enc : TypeId × Value → H) (P : Program) (w : World) : List Field → List (List V → Prop) → Prop
  | [], [] => True
  | f :: fs, Q :: Qs => Opens enc P w f.type Q ∧ OpF enc P w fs Qs
  | _, _ => False
theorem opens_fields {cs : List Value} : ∀ {fs : List Field} {Qs : List (List V → Prop)} {off : Nat}, laidAt P cs.length off fs = true → OpF enc P w fs Qs →
    (∀ f ∈ fs, ∃ fuel x, DataW.trod enc P w 0 (fun _ => true) true fuel f.type ((cs.drop f.offset).take (P.cellsOf f.type)) = some x) → ∃ vs, LRel w noRen vs (cs.drop off) ∧ FQ Qs vs := by
  intro fs
  induction fs with
  | nil =>
    intro Qs off hl ho _
    cases Qs with
    | cons => exact ho.elim
    | nil =>
      simp only [laidAt, beq_iff_eq] at hl
      subst hl
      exact ⟨[], by rw [List.drop_length]; exact .nil, rfl⟩
  | cons f fs ih =>
    intro Qs off hl ho hr
    cases Qs with
    | nil => exact ho.elim
    | cons Q Qs =>
      simp only [laidAt, Bool.and_eq_true, beq_iff_eq] at hl
      obtain ⟨rfl, hl⟩ := hl
      obtain ⟨fuel, x, hx⟩ := hr f List.mem_cons_self
      obtain ⟨va, ha, hq⟩ := ho.1 fuel _ x hx
      obtain ⟨vb, hb, hqs⟩ := ih hl ho.2 (fun g hg => hr g (List.mem_cons_of_mem _ hg))
      refine ⟨va ++ vb, ?_, va, vb, rfl, hq, hqs⟩
      have := ha.append hb
      rwa [← List.drop_drop, List.take_append_drop] at this
theorem opens_struct {t : TypeId} {fs : Array Field} (ht : P.underlying t = some (.struct fs)) {Qs : List (List V → Prop)} (hl : laidAt P (P.cellsOf t) 0 fs.toList = true) (ho : OpF enc P w fs.toList Qs) :
    Opens enc P w t (FQ Qs) := by
  intro fuel cs x h
  obtain ⟨xs, n, rfl, rfl, hlen, hxs, hf⟩ := DataW.trod_struct ht h
  rw [← hlen] at hl
  obtain ⟨vs, h1, h2⟩ := opens_fields (off := 0) hl ho fun f hm => by
    obtain ⟨i, hi, rfl⟩ := List.getElem_of_mem hm
    have hi' : i < fs.size := by simpa using hi
    have := hf i fs[i] (by rw [Array.getElem?_eq_getElem hi'])
    rw [List.getElem?_eq_getElem (by omega)] at this
    exact ⟨n, _, by simpa using this⟩
  exact ⟨vs, by simpa using h1, h2⟩

theorem add_none {b o n : Nat} : (⟨b, o, none⟩ : Addr).add n = ⟨b, o + n, none⟩ := by
  unfold Addr.add
  split
  · rename_i h; subst h; rfl
  · rfl
theorem opens_slice {t e : TypeId} {c : Nat} {Q : List V → Prop} (ht : P.underlying t = some (.slice e)) (hc : P.cellsOf e = c) (hpos : 0 < c) (he : Opens enc P w e Q) :
    Opens enc P w t fun vs => vs = [.nils] ∨ ∃ rows : List (List V), (∀ r ∈ rows, Q r ∧ r.length = c) ∧ rows.length ≤ maxLen ∧ vs = [.cslice rows.flatten 0 rows.length c] := by
  intro fuel cs x h
  rcases DataW.trod_slice ht h with ⟨rfl, _⟩ | ⟨a, len, cap, elems, rest, n, _, rfl, _, _, hlc, hcm, hlen, hel, hsp, _⟩
  · exact ⟨[.nils], LRel.cons .nils .nil, .inl rfl⟩
  obtain ⟨hrl, hre⟩ := hsp rfl
  have each : ∀ i, i < len → ∃ xs : List Value, xs.length = c ∧ (∀ j, j < c → w.cell? ((a.add (i * c)).add j) = xs[j]?) ∧ ∃ r : List V, LRel w noRen r xs ∧ Q r := by
    intro i hi
    have h1 := hel i hi
    rw [List.getElem?_eq_getElem (by omega), Option.bind_eq_some_iff] at h1
    obtain ⟨xs, hxs, hy⟩ := h1
    obtain ⟨r, hr, hq⟩ := he _ _ _ hy
    rw [hc] at hxs
    unfold World.cells? at hxs
    rw [if_pos (Nat.zero_le _)] at hxs
    refine ⟨xs, by simpa using mapM_some_length hxs, fun j hj => ?_, r, hr, hq⟩
    exact mapM_some_get hxs j j (by rw [List.getElem?_range hj])
  have hspot : cap = 0 ∨ a.spot = none := by
    by_cases h0 : cap = 0
    · exact .inl h0
    right
    by_cases hl0 : len = 0
    · have h1 := hre 0 (by omega)
      rw [List.getElem?_eq_getElem (by omega), Option.bind_eq_some_iff] at h1
      obtain ⟨xs, hxs, _⟩ := h1
      rw [hc] at hxs
      unfold World.cells? at hxs
      rw [if_pos (Nat.zero_le _)] at hxs
      have hl := mapM_some_length hxs
      have := mapM_some_get hxs 0 0 (by rw [List.getElem?_range hpos])
      rw [List.getElem?_eq_getElem (by simp at hl; omega)] at this
      simpa [Addr.add, hl0] using World.cell?_spot this
    · obtain ⟨xs, h1, h2, _⟩ := each 0 (by omega)
      have := h2 0 hpos
      rw [List.getElem?_eq_getElem (by omega)] at this
      simpa [Addr.add] using World.cell?_spot this
  obtain ⟨b, off, spot⟩ := a
  have pick : ∀ i : Nat, ∃ p : List V × List Value, i < len → p.1.length = c ∧ p.2.length = c ∧ (∀ j, j < c → w.cell? ⟨b, off + i * c + j, none⟩ = p.2[j]?) ∧ LRel w noRen p.1 p.2 ∧ Q p.1 := by
    intro i
    by_cases hi : i < len
    · obtain ⟨xs, h1, h2, r, h3, h4⟩ := each i hi
      refine ⟨(r, xs), fun _ => ⟨h3.1.trans h1, h1, fun j hj => ?_, h3, h4⟩⟩
      rcases hspot with h0 | h0
      · omega
      · simp only at h0
        subst h0
        have h5 := h2 j hj
        rw [add_none, add_none] at h5
        exact h5
    · exact ⟨([], []), fun h => absurd h hi⟩
  let g := fun i => Classical.choose (pick i)
  have hg : ∀ i, i < len → (g i).1.length = c ∧ (g i).2.length = c ∧ (∀ j, j < c → w.cell? ⟨b, off + i * c + j, none⟩ = (g i).2[j]?) ∧ LRel w noRen (g i).1 (g i).2 ∧ Q (g i).1 := fun i => Classical.choose_spec (pick i)
  let rows := (List.range len).map fun i => (g i).1
  have hrlen : rows.length = len := by simp [rows]
  have hrow : ∀ r ∈ rows, r.length = c := by
    intro r hr
    obtain ⟨i, hi, rfl⟩ := List.mem_map.1 hr
    exact (hg i (List.mem_range.1 hi)).1
  have hget : ∀ i (h : i < rows.length), rows[i] = (g i).1 := by intro i h; simp [rows]
  obtain ⟨f1, f2⟩ := flatten_take hrow
  have flat : ∀ i j, i < len → j < c → rows.flatten[i * c + j]? = (g i).1[j]? := by
    intro i j hi hj
    have h2 := f2 i (by omega)
    rw [hget i (by omega)] at h2
    have h3 := congrArg (·[j]?) h2
    simp only [List.getElem?_take, List.getElem?_drop, if_pos hj] at h3
    exact h3
  have cell : ∀ i (hi : i < rows.flatten.length), ∃ y, w.cell? ⟨b, off + i, none⟩ = some y ∧ VRel w noRen rows.flatten[i] y := by
    intro i hi
    rw [f1, hrlen] at hi
    have hd : i / c < len := Nat.div_lt_of_lt_mul (by rw [Nat.mul_comm]; exact hi)
    have hm : i % c < c := Nat.mod_lt _ hpos
    have he : i / c * c + i % c = i := by rw [Nat.mul_comm]; exact Nat.div_add_mod i c
    obtain ⟨g1, g2, g3, g4, _⟩ := hg (i / c) hd
    have h1 := g3 (i % c) hm
    rw [Nat.add_assoc, he, List.getElem?_eq_getElem (by omega)] at h1
    have h2 := flat (i / c) (i % c) hd hm
    rw [he, List.getElem?_eq_getElem (by omega), List.getElem?_eq_getElem (by omega)] at h2
    refine ⟨_, h1, ?_⟩
    rw [Option.some.inj h2]
    exact g4.2 _ _ _
  refine ⟨[.cslice rows.flatten 0 rows.length c], LRel.cons ?_ .nil, .inr ⟨rows, fun r hr => ⟨?_, hrow r hr⟩, by omega, rfl⟩⟩
  · rw [hrlen]
    refine VRel.cslice (r := b) (o := off) (fun i => (w.cell? ⟨b, off + i, none⟩).getD (.bool false)) (fun hne => ?_) (fun i hi => ?_) (fun i hi => ?_) hlc ?_
    · obtain ⟨y, hy, _⟩ := cell 0 (by
        cases hf : rows.flatten with
        | nil => exact absurd hf hne
        | cons => simp)
      by_cases hb : b < w.heap.size
      · exact hb
      · unfold World.cell? at hy
        have hn : w.heap[b]? = none := Array.getElem?_eq_none (Nat.le_of_not_lt hb)
        simp only [hn] at hy
        simp at hy
    · obtain ⟨y, hy, _⟩ := cell i hi
      rw [hy]; rfl
    · obtain ⟨y, hy, hv⟩ := cell i hi
      rw [hy]; exact hv
    · rcases hspot with h0 | h0
      · exact .inl h0
      · right; simp only at h0; subst h0; rfl
  · obtain ⟨i, hi, rfl⟩ := List.mem_map.1 hr
    exact (hg i (List.mem_range.1 hi)).2.2.2.2
end
end Go.RE
