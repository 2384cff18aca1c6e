/- What ties the evaluator's values and memory to those of the model. -/
import Derived.Test.YtnepmmjhhcdniaaRe3
import Derived.Laws.World
import Derived.Laws.Cells
namespace Go.RE

/-- Where what has a name lies: a block, from which cell on, and how many cells the block has. -/
abbrev Ren := Nat → Option (Nat × Nat × Nat)

def Ren.le (ρ ρ' : Ren) : Prop := ∀ n x, ρ n = some x → ρ' n = some x

inductive VRel (w0 : World) (ρ : Ren) : V → Value → Prop
  | bool (b : Bool) : VRel w0 ρ (.bool b) (.bool b)
  | int (k : IntKind) (n : Int) : VRel w0 ρ (.int k n) (.int k n)
  | str {l : List UInt8} {s : ByteArray} (h : s.data.toList = l) : VRel w0 ρ (.str l) (.string s)
  | nilp : VRel w0 ρ .nilp (.pointer none)
  | ptr {b off r o lim : Nat} (h : ρ b = some (r, o, lim)) : VRel w0 ρ (.ptr b off) (.pointer (some ⟨r, o + off, none⟩))
  | cptr {row : List V} {off r o : Nat} (c : Nat → Value) (hr : row ≠ [] → r < w0.heap.size) (hc : ∀ i, i < row.length → w0.cell? ⟨r, o + i, none⟩ = some (c i))
      (hv : ∀ i (h : i < row.length), VRel w0 ρ row[i] (c i)) : VRel w0 ρ (.cptr row off) (.pointer (some ⟨r, o + off, none⟩))
  | nils : VRel w0 ρ .nils (.slice none 0 0)
  | slice {b off len cap sz : Nat} {ex : Bool} {r o lim : Nat} {a : Addr} {cap' : Nat} (h : ρ b = some (r, o, lim)) (h1 : cap ≤ cap') (h2 : ex = true → cap' = cap)
      (h3 : len ≤ cap) (h4 : cap' = 0 ∨ (a = ⟨r, o + off, none⟩ ∧ o + off + cap' * sz ≤ lim)) : VRel w0 ρ (.slice b off len cap sz ex) (.slice (some a) len cap')
  | cslice {row : List V} {off len sz r o : Nat} {a : Addr} {cap' : Nat} (c : Nat → Value) (hr : row ≠ [] → r < w0.heap.size) (hc : ∀ i, i < row.length → w0.cell? ⟨r, o + i, none⟩ = some (c i))
      (hv : ∀ i (h : i < row.length), VRel w0 ρ row[i] (c i)) (h3 : len ≤ cap') (h4 : cap' = 0 ∨ a = ⟨r, o + off, none⟩) : VRel w0 ρ (.cslice row off len sz) (.slice (some a) len cap')
  | nilm : VRel w0 ρ .nilm (.map none)
  | map {b r o lim : Nat} (h : ρ b = some (r, o, lim)) : VRel w0 ρ (.map b) (.map (some r))
  | nilf : VRel w0 ρ .nilf .nilFunc
  | func {f : Nat} {a b : List V} {a' b' : Array Value} (ha : a.length = a'.size) (hb : b.length = b'.size)
      (va : ∀ i (h : i < a.length) (h' : i < a'.size), VRel w0 ρ a[i] a'[i]) (vb : ∀ i (h : i < b.length) (h' : i < b'.size), VRel w0 ρ b[i] b'[i]) : VRel w0 ρ (.func f a b) (.func (.func f) a' b')
  | nili : VRel w0 ρ .nili .nilIface
  | iface {t : Nat} {v : V} {v' : Value} (h : VRel w0 ρ v v') : VRel w0 ρ (.iface t v) (.iface t v')
  | agg {a : List V} {a' : Array Value} (ha : a.length = a'.size) (va : ∀ i (h : i < a.length) (h' : i < a'.size), VRel w0 ρ a[i] a'[i]) : VRel w0 ρ (.agg a) (.agg a')
  | tup {a : List V} {a' : Array Value} (ha : a.length = a'.size) (va : ∀ i (h : i < a.length) (h' : i < a'.size), VRel w0 ρ a[i] a'[i]) : VRel w0 ρ (.tup a) (.tuple a')

theorem VRel.mono {w0 : World} {ρ ρ' : Ren} (hρ : ρ.le ρ') {v : V} {x : Value} (h : VRel w0 ρ v x) : VRel w0 ρ' v x := by
  induction h with
  | bool b => exact .bool b
  | int k n => exact .int k n
  | str h => exact .str h
  | nilp => exact .nilp
  | ptr h => exact .ptr (hρ _ _ h)
  | cptr c hr hc _ ih => exact .cptr c hr hc ih
  | nils => exact .nils
  | slice h h1 h2 h3 h4 => exact .slice (hρ _ _ h) h1 h2 h3 h4
  | cslice c hr hc _ h3 h4 ih => exact .cslice c hr hc ih h3 h4
  | nilm => exact .nilm
  | map h => exact .map (hρ _ _ h)
  | nilf => exact .nilf
  | func ha hb _ _ iha ihb => exact .func ha hb iha ihb
  | nili => exact .nili
  | iface _ ih => exact .iface ih
  | agg ha _ ih => exact .agg ha ih
  | tup ha _ ih => exact .tup ha ih

/-- Lists, one by one. -/
def LRel (w0 : World) (ρ : Ren) (a : List V) (b : List Value) : Prop := a.length = b.length ∧ ∀ i (h : i < a.length) (h' : i < b.length), VRel w0 ρ a[i] b[i]

theorem LRel.mono {w0 : World} {ρ ρ' : Ren} (hρ : ρ.le ρ') {a : List V} {b : List Value} (h : LRel w0 ρ a b) : LRel w0 ρ' a b :=
  ⟨h.1, fun i h1 h2 => (h.2 i h1 h2).mono hρ⟩
theorem LRel.nil {w0 : World} {ρ : Ren} : LRel w0 ρ [] [] := ⟨rfl, fun i h => by simp at h⟩
theorem LRel.cons {w0 : World} {ρ : Ren} {a : V} {b : Value} {as : List V} {bs : List Value} (h : VRel w0 ρ a b) (hs : LRel w0 ρ as bs) : LRel w0 ρ (a :: as) (b :: bs) :=
  ⟨by simp [hs.1], fun i h1 h2 => by
    cases i with
    | zero => simpa using h
    | succ i => simpa using hs.2 i (by simpa using h1) (by simpa using h2)⟩
theorem LRel.append {w0 : World} {ρ : Ren} {a c : List V} {b d : List Value} (h : LRel w0 ρ a b) (hs : LRel w0 ρ c d) : LRel w0 ρ (a ++ c) (b ++ d) :=
  ⟨by simp [h.1, hs.1], fun i h1 h2 => by
    have e := h.1
    by_cases hi : i < a.length
    · rw [List.getElem_append_left hi, List.getElem_append_left (by omega)]; exact h.2 i hi (by omega)
    · simp only [List.length_append] at h1 h2
      rw [List.getElem_append_right (by omega), List.getElem_append_right (by omega)]
      have := hs.2 (i - a.length) (by omega) (by omega)
      simpa [e] using this⟩
theorem LRel.take {w0 : World} {ρ : Ren} {a : List V} {b : List Value} (n : Nat) (h : LRel w0 ρ a b) : LRel w0 ρ (a.take n) (b.take n) :=
  ⟨by simp [h.1], fun i h1 h2 => by
    simp only [List.length_take] at h1 h2
    simpa using h.2 i (by omega) (by omega)⟩
theorem LRel.drop {w0 : World} {ρ : Ren} {a : List V} {b : List Value} (n : Nat) (h : LRel w0 ρ a b) : LRel w0 ρ (a.drop n) (b.drop n) :=
  ⟨by simp [h.1], fun i h1 h2 => by
    simp only [List.length_drop] at h1 h2
    simpa using h.2 (n + i) (by omega) (by omega)⟩
theorem LRel.of_array {w0 : World} {ρ : Ren} {a : List V} {b : Array Value} (h : a.length = b.size) (hv : ∀ i (h : i < a.length) (h' : i < b.size), VRel w0 ρ a[i] b[i]) : LRel w0 ρ a b.toList :=
  ⟨by simpa using h, fun i h1 h2 => by simpa using hv i h1 (by simpa using h2)⟩
theorem LRel.get {w0 : World} {ρ : Ren} {a : List V} {b : List Value} (h : LRel w0 ρ a b) {i : Nat} {v : V} (hv : a[i]? = some v) : ∃ x, b[i]? = some x ∧ VRel w0 ρ v x := by
  obtain ⟨hi, rfl⟩ := List.getElem?_eq_some_iff.1 hv
  exact ⟨b[i]'(h.1 ▸ hi), List.getElem?_eq_getElem _, h.2 i hi (h.1 ▸ hi)⟩
theorem LRel.inv_nil {w0 : World} {ρ : Ren} {b : List Value} (h : LRel w0 ρ [] b) : b = [] := by
  have := h.1; simp at this; exact List.eq_nil_of_length_eq_zero this.symm
theorem LRel.inv_cons {w0 : World} {ρ : Ren} {a : V} {as : List V} {b : List Value} (h : LRel w0 ρ (a :: as) b) : ∃ x xs, b = x :: xs ∧ VRel w0 ρ a x ∧ LRel w0 ρ as xs := by
  cases b with
  | nil => have := h.1; simp at this
  | cons x xs =>
    refine ⟨x, xs, rfl, ?_, ?_, fun i h1 h2 => ?_⟩
    · exact h.2 0 (by simp) (by simp)
    · have := h.1; simpa using this
    · exact h.2 (i + 1) (by simpa using h1) (by simpa using h2)
theorem VRel.agg_of {w0 : World} {ρ : Ren} {a : List V} {b : List Value} (h : LRel w0 ρ a b) : VRel w0 ρ (.agg a) (.agg b.toArray) :=
  .agg (by simpa using h.1) fun i h1 h2 => by simpa using h.2 i h1 (by simpa using h2)
theorem VRel.tup_of {w0 : World} {ρ : Ren} {a : List V} {b : List Value} (h : LRel w0 ρ a b) : VRel w0 ρ (.tup a) (.tuple b.toArray) :=
  .tup (by simpa using h.1) fun i h1 h2 => by simpa using h.2 i h1 (by simpa using h2)
theorem VRel.cells {w0 : World} {ρ : Ren} {v : V} {x : Value} (h : VRel w0 ρ v x) : LRel w0 ρ v.cells x.cells.toList := by
  cases h with
  | agg ha va => exact LRel.of_array ha va
  | bool b => exact LRel.cons (.bool b) .nil
  | int k n => exact LRel.cons (.int k n) .nil
  | str h => exact LRel.cons (.str h) .nil
  | nilp => exact LRel.cons .nilp .nil
  | ptr h => exact LRel.cons (.ptr h) .nil
  | cptr c hr hc hv => exact LRel.cons (.cptr c hr hc hv) .nil
  | nils => exact LRel.cons .nils .nil
  | slice h h1 h2 h3 h4 => exact LRel.cons (.slice h h1 h2 h3 h4) .nil
  | cslice c hr hc hv h3 h4 => exact LRel.cons (.cslice c hr hc hv h3 h4) .nil
  | nilm => exact LRel.cons .nilm .nil
  | map h => exact LRel.cons (.map h) .nil
  | nilf => exact LRel.cons .nilf .nil
  | func ha hb va vb => exact LRel.cons (.func ha hb va vb) .nil
  | nili => exact LRel.cons .nili .nil
  | iface h => exact LRel.cons (.iface h) .nil
  | tup ha va => exact LRel.cons (.tup ha va) .nil
theorem VRel.one {w0 : World} {ρ : Ren} {v : V} {x : Value} (h : VRel w0 ρ v x) (h1 : v.one = true) : (∀ c, x ≠ .agg c) ∧ (∀ c, x ≠ .tuple c) := by
  cases h <;> simp [V.one] at h1 ⊢

/-- What a name has, and what lies there. -/
def ObRel (w0 : World) (ρ : Ren) (o lim : Nat) : Option Ob → Option Obj → Prop
  | some (.row cs), x => ∃ c t fr, x = some (.cells c t fr) ∧ c.size = lim ∧ o + cs.length ≤ lim ∧ (∀ j, j < lim → ¬ (fr.1 ≤ j ∧ j < fr.2)) ∧
      ∀ i (h : i < cs.length), ∃ v, c[o + i]? = some v ∧ VRel w0 ρ cs[i] v
  | some (.map es clock), x => ∃ es', x = some (.map es' clock) ∧ es.length = es'.size ∧
      ∀ i (h : i < es.length) (h' : i < es'.size), VRel w0 ρ es[i].key es'[i].key ∧ VRel w0 ρ es[i].val es'[i].val ∧ es[i].born = es'[i].born
  | some (.miter m since seen stepped), x => ∃ m', x = some (.mapIter m' since seen.toArray stepped) ∧
      (match m with | none => m' = none | some n => ∃ r o lim, ρ n = some (r, o, lim) ∧ m' = some r) ∧ o = 0
  | some .dead, _ => True
  | none, _ => True

def live : Option Ob → Prop
  | some .dead => False
  | none => False
  | _ => True

theorem ObRel.mono {w0 : World} {ρ ρ' : Ren} (hρ : ρ.le ρ') {o lim : Nat} {ob : Option Ob} {x : Option Obj} (h : ObRel w0 ρ o lim ob x) : ObRel w0 ρ' o lim ob x := by
  cases ob with
  | none => trivial
  | some ob =>
    cases ob with
    | dead => trivial
    | row cs =>
      obtain ⟨c, t, fr, e1, e2, e3, e4, e5⟩ := h
      exact ⟨c, t, fr, e1, e2, e3, e4, fun i hi => let ⟨v, a, b⟩ := e5 i hi; ⟨v, a, b.mono hρ⟩⟩
    | map es clock =>
      obtain ⟨es', e1, e2, e3⟩ := h
      exact ⟨es', e1, e2, fun i h1 h2 => ⟨(e3 i h1 h2).1.mono hρ, (e3 i h1 h2).2.1.mono hρ, (e3 i h1 h2).2.2⟩⟩
    | miter m since seen stepped =>
      obtain ⟨m', e1, e2, e3⟩ := h
      refine ⟨m', e1, ?_, e3⟩
      cases m with
      | none => exact e2
      | some n => obtain ⟨r, o, lim, a, b⟩ := e2; exact ⟨r, o, lim, hρ _ _ a, b⟩

structure Rel (w0 : World) (ρ : Ren) (s : St) (w : World) : Prop where
  old : ∀ r, r < w0.heap.size → w.heap[r]? = w0.heap[r]?
  size : w0.heap.size ≤ w.heap.size
  os : w.os = w0.os
  output : w.output = w0.output
  dom : ∀ n r o lim, ρ n = some (r, o, lim) → n < s.next ∧ w0.heap.size ≤ r ∧ r < w.heap.size
  fresh : ∀ n, s.next ≤ n → s.get n = none
  ob : ∀ n r o lim, ρ n = some (r, o, lim) → ObRel w0 ρ o lim (s.get n) w.heap[r]?
  inj : ∀ n m r o lim o' lim', ρ n = some (r, o, lim) → ρ m = some (r, o', lim') → live (s.get n) → live (s.get m) → n = m

/-- What a step may have changed. -/
structure Stp (ρ : Ren) (s : St) (w : World) (ρ' : Ren) (s' : St) (w' : World) : Prop where
  next : s.next ≤ s'.next
  ren : ρ.le ρ'
  new : ∀ n x, ρ n = none → ρ' n = some x → s.next ≤ n
  wsize : w.heap.size ≤ w'.heap.size
  sk : ∀ n, n < s.next → ρ n = none → s'.get n = s.get n
  wk : ∀ r, r < w.heap.size → (∀ n x, ρ n = some x → x.1 ≠ r) → w'.heap[r]? = w.heap[r]? ∧ ∀ n x, ρ' n = some x → x.1 ≠ r

theorem Ren.le_refl (ρ : Ren) : ρ.le ρ := fun _ _ h => h
theorem Ren.le_trans {a b c : Ren} (h : a.le b) (h' : b.le c) : a.le c := fun n x e => h' n x (h n x e)

theorem Stp.refl (ρ : Ren) (s : St) (w : World) : Stp ρ s w ρ s w :=
  ⟨Nat.le_refl _, Ren.le_refl ρ, fun n x h h' => by rw [h] at h'; simp at h', Nat.le_refl _, fun _ _ _ => rfl, fun _ _ h => ⟨rfl, h⟩⟩

theorem Stp.trans {ρ ρ' ρ'' : Ren} {s s' s'' : St} {w w' w'' : World} (h : Stp ρ s w ρ' s' w') (h' : Stp ρ' s' w' ρ'' s'' w'') : Stp ρ s w ρ'' s'' w'' where
  next := Nat.le_trans h.next h'.next
  ren := Ren.le_trans h.ren h'.ren
  new n x e e' := by
    cases hm : ρ' n with
    | none => exact Nat.le_trans h.next (h'.new n x hm e')
    | some y => exact h.new n y e hm
  wsize := Nat.le_trans h.wsize h'.wsize
  sk n hn e := by
    have hm : ρ' n = none := by
      cases hm : ρ' n with
      | none => rfl
      | some y => have := h.new n y e hm; omega
    rw [h'.sk n (Nat.lt_of_lt_of_le hn h.next) hm, h.sk n hn e]
  wk r hr e := by
    obtain ⟨a, b⟩ := h.wk r hr e
    obtain ⟨c, d⟩ := h'.wk r (Nat.lt_of_lt_of_le hr h.wsize) b
    exact ⟨c.trans a, d⟩

/-- The same memory, with other draws. -/
theorem Rel.same {w0 : World} {ρ : Ren} {s : St} {w w' : World} (h : Rel w0 ρ s w) (hh : w'.heap = w.heap) (ho : w'.os = w.os) (hp : w'.output = w.output) : Rel w0 ρ s w' where
  old r hr := by rw [hh]; exact h.old r hr
  size := by rw [hh]; exact h.size
  os := ho.trans h.os
  output := hp.trans h.output
  dom n r o lim e := by rw [hh]; exact h.dom n r o lim e
  fresh := h.fresh
  ob n r o lim e := by rw [hh]; exact h.ob n r o lim e
  inj := h.inj
theorem Stp.same {ρ : Ren} {s : St} {w w' : World} (hh : w'.heap = w.heap) : Stp ρ s w ρ s w' :=
  ⟨Nat.le_refl _, Ren.le_refl ρ, fun n x h h' => by rw [h] at h'; simp at h', by rw [hh]; exact Nat.le_refl _, fun _ _ _ => rfl, fun _ _ h => ⟨by rw [hh], h⟩⟩

theorem St.get_put (s : St) (n : Nat) (o : Ob) (m : Nat) : (s.put n o).get m = if m = n then some o else s.get m := PT.get_set _ _ _ _
theorem St.get_alloc (s : St) (o : Ob) (m : Nat) : (s.alloc o).get m = if m = s.next then some o else s.get m := PT.get_set _ _ _ _

/-- A name for a new block. -/
def Ren.add (ρ : Ren) (n : Nat) (x : Nat × Nat × Nat) : Ren := fun m => if m = n then some x else ρ m
theorem Ren.le_add {ρ : Ren} {n : Nat} (x : Nat × Nat × Nat) (h : ρ n = none) : ρ.le (ρ.add n x) := fun m y e => by
  unfold Ren.add
  by_cases hm : m = n
  · subst hm; rw [h] at e; simp at e
  · rw [if_neg hm]; exact e
theorem Ren.add_same (ρ : Ren) (n : Nat) (x : Nat × Nat × Nat) : (ρ.add n x) n = some x := by simp [Ren.add]

/-- What the evaluator has made under a name is made by the model too. -/
theorem Rel.realize {w0 : World} {ρ : Ren} {s : St} {w : World} (h : Rel w0 ρ s w) {n : Nat} {ob : Ob} {obj : Obj} {lim : Nat} (hn : n < s.next) (hρ : ρ n = none) (hs : s.get n = some ob)
    (ho : ObRel w0 ρ 0 lim (some ob) (some obj)) : Rel w0 (ρ.add n (w.heap.size, 0, lim)) s (w.alloc obj) := by
  have hle := Ren.le_add (ρ := ρ) (n := n) (w.heap.size, 0, lim) hρ
  have hold : ∀ r, r < w.heap.size → (w.alloc obj).heap[r]? = w.heap[r]? := fun r hr => by
    show (w.heap.push obj)[r]? = _
    rw [Array.getElem?_push, if_neg (Nat.ne_of_lt hr)]
  have hnew : (w.alloc obj).heap[w.heap.size]? = some obj := by
    show (w.heap.push obj)[w.heap.size]? = _
    simp
  refine ⟨fun r hr => ?_, ?_, h.os, h.output, fun m r o l e => ?_, h.fresh, fun m r o l e => ?_, fun m k r o l o' l' e e' lm lk => ?_⟩
  · rw [hold r (Nat.lt_of_lt_of_le hr h.size)]; exact h.old r hr
  · have := h.size; simp; omega
  · unfold Ren.add at e
    by_cases hm : m = n
    · rw [if_pos hm] at e; simp at e; obtain ⟨rfl, rfl, rfl⟩ := e
      refine ⟨by omega, h.size, by simp⟩
    · rw [if_neg hm] at e; have := h.dom m r o l e; simp; omega
  · unfold Ren.add at e
    by_cases hm : m = n
    · rw [if_pos hm] at e; simp at e; obtain ⟨rfl, rfl, rfl⟩ := e
      subst hm
      rw [hs, hnew]; exact ho.mono hle
    · rw [if_neg hm] at e
      rw [hold r (h.dom m r o l e).2.2]
      exact (h.ob m r o l e).mono hle
  · unfold Ren.add at e e'
    by_cases hm : m = n
    · by_cases hk : k = n
      · omega
      · rw [if_pos hm] at e; rw [if_neg hk] at e'; simp at e
        have := (h.dom k r o' l' e').2.2; omega
    · by_cases hk : k = n
      · rw [if_pos hk] at e'; rw [if_neg hm] at e; simp at e'
        have := (h.dom m r o l e).2.2; omega
      · rw [if_neg hm] at e; rw [if_neg hk] at e'
        exact h.inj m k r o l o' l' e e' lm lk

theorem wk_alloc {ρ : Ren} {w : World} {n : Nat} {obj : Obj} {lim : Nat} :
    (∀ r, r < w.heap.size → (∀ n x, ρ n = some x → x.1 ≠ r) → (w.alloc obj).heap[r]? = w.heap[r]? ∧ ∀ m x, (ρ.add n (w.heap.size, 0, lim)) m = some x → x.1 ≠ r) := by
  intro r hr e
  refine ⟨?_, fun m x hm => ?_⟩
  · show (w.heap.push obj)[r]? = _
    rw [Array.getElem?_push, if_neg (Nat.ne_of_lt hr)]
  · unfold Ren.add at hm
    by_cases h : m = n
    · rw [if_pos h] at hm; simp at hm; subst hm; simp; omega
    · rw [if_neg h] at hm; exact e m x hm

theorem Rel.fresh_alloc {w0 : World} {ρ : Ren} {s : St} {w : World} (h : Rel w0 ρ s w) (ob : Ob) : Rel w0 ρ (s.alloc ob) w where
  old := h.old
  size := h.size
  os := h.os
  output := h.output
  dom n r o lim e := by have := h.dom n r o lim e; exact ⟨Nat.lt_succ_of_lt this.1, this.2⟩
  fresh n hn := by
    have hn' : s.next + 1 ≤ n := hn
    rw [St.get_alloc, if_neg (by omega)]; exact h.fresh n (by omega)
  ob n r o lim e := by
    have := h.dom n r o lim e
    rw [St.get_alloc, if_neg (by omega)]; exact h.ob n r o lim e
  inj n m r o lim o' lim' e e' ln lm := by
    have h1 := h.dom n r o lim e
    have h2 := h.dom m r o' lim' e'
    rw [St.get_alloc, if_neg (by omega)] at ln lm
    exact h.inj n m r o lim o' lim' e e' ln lm

theorem Rel.unnamed {w0 : World} {ρ : Ren} {s : St} {w : World} (h : Rel w0 ρ s w) {n : Nat} (hn : s.next ≤ n) : ρ n = none := by
  cases e : ρ n with
  | none => rfl
  | some x => obtain ⟨r, o, lim⟩ := x; have := (h.dom n r o lim e).1; omega

/-- The evaluator and the model make something new. -/
theorem Rel.alloc {w0 : World} {ρ : Ren} {s : St} {w : World} (h : Rel w0 ρ s w) {ob : Ob} {obj : Obj} {lim : Nat} (ho : ObRel w0 ρ 0 lim (some ob) (some obj)) :
    Rel w0 (ρ.add s.next (w.heap.size, 0, lim)) (s.alloc ob) (w.alloc obj) ∧ Stp ρ s w (ρ.add s.next (w.heap.size, 0, lim)) (s.alloc ob) (w.alloc obj) := by
  have hρ := h.unnamed (Nat.le_refl s.next)
  refine ⟨(h.fresh_alloc ob).realize (Nat.lt_succ_self _) hρ (by rw [St.get_alloc, if_pos rfl]) ho, Nat.le_succ _, Ren.le_add _ hρ, fun n x e e' => ?_, by simp, fun n hn e => ?_, wk_alloc⟩
  · unfold Ren.add at e'
    by_cases hm : n = s.next
    · omega
    · rw [if_neg hm] at e'; rw [e] at e'; simp at e'
  · rw [St.get_alloc, if_neg (by omega)]

/-- What a name has is written anew. -/
theorem Rel.put {w0 : World} {ρ : Ren} {s : St} {w : World} (h : Rel w0 ρ s w) {n r o lim : Nat} (e : ρ n = some (r, o, lim)) (hl : live (s.get n)) {ob : Ob} {obj : Obj}
    (ho : ObRel w0 ρ o lim (some ob) (some obj)) : Rel w0 ρ (s.put n ob) { w with heap := w.heap.setIfInBounds r obj } ∧ Stp ρ s w ρ (s.put n ob) { w with heap := w.heap.setIfInBounds r obj } := by
  have hd := h.dom n r o lim e
  refine ⟨⟨fun k hk => ?_, ?_, h.os, h.output, fun m r' o' l' e' => ?_, fun m hm => ?_, fun m r' o' l' e' => ?_, fun m k r' o' l' o'' l'' e' e'' lm lk => ?_⟩,
    Nat.le_refl _, Ren.le_refl _, fun m x a b => by rw [a] at b; simp at b, by simp, fun m hm e' => ?_, fun k hk hx => ⟨?_, hx⟩⟩
  · show (w.heap.setIfInBounds r obj)[k]? = _
    rw [Array.getElem?_setIfInBounds_ne (by omega)]; exact h.old k hk
  · simpa using h.size
  · have := h.dom m r' o' l' e'; simpa [St.put] using this
  · have hm' : s.next ≤ m := hm
    rw [St.get_put, if_neg (by omega)]; exact h.fresh m hm'
  · show ObRel w0 ρ o' l' _ (w.heap.setIfInBounds r obj)[r']?
    rw [St.get_put]
    by_cases hm : m = n
    · subst hm
      rw [e] at e'; simp at e'; obtain ⟨rfl, rfl, rfl⟩ := e'
      rw [if_pos rfl, Array.getElem?_setIfInBounds_self_of_lt hd.2.2]; exact ho
    · rw [if_neg hm]
      by_cases hr : r' = r
      · subst hr
        by_cases lm : live (s.get m)
        · exact absurd (h.inj m n r' o' l' o lim e' e lm hl) hm
        · cases hob : s.get m with
          | none => trivial
          | some x => cases x <;> first | trivial | (rw [hob] at lm; exact absurd trivial lm)
      · rw [Array.getElem?_setIfInBounds_ne (fun x => hr x.symm)]; exact h.ob m r' o' l' e'
  · have key : ∀ x, live ((s.put n ob).get x) → x ≠ n → live (s.get x) := fun x hx hne => by rw [St.get_put, if_neg hne] at hx; exact hx
    by_cases hm : m = n
    · by_cases hk : k = n
      · omega
      · subst hm
        exact h.inj m k r' o' l' o'' l'' e' e'' hl (key k lk hk)
    · by_cases hk : k = n
      · subst hk
        exact h.inj m k r' o' l' o'' l'' e' e'' (key m lm hm) hl
      · exact h.inj m k r' o' l' o'' l'' e' e'' (key m lm hm) (key k lk hk)
  · rw [St.get_put, if_neg (fun x => by subst x; rw [e] at e'; simp at e')]
  · show (w.heap.setIfInBounds r obj)[k]? = _
    rw [Array.getElem?_setIfInBounds_ne (fun x => hx n (r, o, lim) e x)]

/-- A name is given up. -/
theorem Rel.kill {w0 : World} {ρ : Ren} {s : St} {w : World} (h : Rel w0 ρ s w) {n r o lim : Nat} (e : ρ n = some (r, o, lim)) :
    Rel w0 ρ (s.put n .dead) w ∧ Stp ρ s w ρ (s.put n .dead) w := by
  have hd := h.dom n r o lim e
  have key : ∀ x, live ((s.put n .dead).get x) → live (s.get x) := fun x hx => by
    rw [St.get_put] at hx
    by_cases hne : x = n
    · rw [if_pos hne] at hx; exact hx.elim
    · rw [if_neg hne] at hx; exact hx
  refine ⟨⟨h.old, h.size, h.os, h.output, h.dom, fun m hm => ?_, fun m r' o' l' e' => ?_, fun m k r' o' l' o'' l'' e' e'' lm lk => h.inj m k r' o' l' o'' l'' e' e'' (key m lm) (key k lk)⟩,
    Nat.le_refl _, Ren.le_refl _, fun m x a b => by rw [a] at b; simp at b, Nat.le_refl _, fun m hm e' => ?_, fun k hk hx => ⟨rfl, hx⟩⟩
  · have hm' : s.next ≤ m := hm
    rw [St.get_put, if_neg (by omega)]; exact h.fresh m hm'
  · rw [St.get_put]
    by_cases hm : m = n
    · rw [if_pos hm]; trivial
    · rw [if_neg hm]; exact h.ob m r' o' l' e'
  · rw [St.get_put, if_neg (fun x => by subst x; rw [e] at e'; simp at e')]

/-- A name is given up, and what it had lies under a new name, written anew in its place. -/
theorem Rel.grow {w0 : World} {ρ : Ren} {s : St} {w : World} (h : Rel w0 ρ s w) {n r o lim : Nat} (e : ρ n = some (r, o, lim)) (hl : live (s.get n)) {ob : Ob} {obj : Obj} {o' : Nat}
    (ho : ObRel w0 ρ o' lim (some ob) (some obj)) :
    Rel w0 (ρ.add s.next (r, o', lim)) ((s.put n .dead).alloc ob) { w with heap := w.heap.setIfInBounds r obj } ∧
    Stp ρ s w (ρ.add s.next (r, o', lim)) ((s.put n .dead).alloc ob) { w with heap := w.heap.setIfInBounds r obj } := by
  have hd := h.dom n r o lim e
  have hρ := h.unnamed (Nat.le_refl s.next)
  have hle := Ren.le_add (ρ := ρ) (n := s.next) (r, o', lim) hρ
  have hget : ∀ m, ((s.put n .dead).alloc ob).get m = if m = s.next then some ob else if m = n then some .dead else s.get m := fun m => by
    rw [St.get_alloc, St.get_put]; rfl
  have hlv : ∀ x, x ≠ s.next → live (((s.put n .dead).alloc ob).get x) → x ≠ n ∧ live (s.get x) := fun x hne hx => by
    rw [hget, if_neg hne] at hx
    by_cases hn : x = n
    · rw [if_pos hn] at hx; exact hx.elim
    · rw [if_neg hn] at hx; exact ⟨hn, hx⟩
  have hsplit : ∀ m x, (ρ.add s.next (r, o', lim)) m = some x → (m = s.next ∧ x = (r, o', lim)) ∨ (m ≠ s.next ∧ ρ m = some x) := fun m x hx => by
    unfold Ren.add at hx
    by_cases hm : m = s.next
    · rw [if_pos hm] at hx; simp at hx; exact .inl ⟨hm, hx.symm⟩
    · rw [if_neg hm] at hx; exact .inr ⟨hm, hx⟩
  refine ⟨⟨fun k hk => ?_, ?_, h.os, h.output, fun m r' o'' l' e' => ?_, fun m hm => ?_, fun m r' o'' l' e' => ?_, fun m k r' p l' p' l'' e' e'' lm lk => ?_⟩,
    Nat.le_succ _, hle, fun m x a b => ?_, by simp, fun m hm e' => ?_, fun k hk hx => ⟨?_, fun m x hm => ?_⟩⟩
  · show (w.heap.setIfInBounds r obj)[k]? = _
    rw [Array.getElem?_setIfInBounds_ne (by omega)]; exact h.old k hk
  · simpa using h.size
  · show m < s.next + 1 ∧ _
    rcases hsplit m _ e' with ⟨h1, h2⟩ | ⟨h1, h2⟩
    · simp at h2; obtain ⟨rfl, rfl, rfl⟩ := h2
      simp; omega
    · have := h.dom m r' o'' l' h2; simp; omega
  · have hm' : s.next + 1 ≤ m := hm
    rw [hget, if_neg (by omega), if_neg (by omega)]; exact h.fresh m (by omega)
  · show ObRel w0 _ o'' l' _ (w.heap.setIfInBounds r obj)[r']?
    rcases hsplit m _ e' with ⟨h1, h2⟩ | ⟨h1, h2⟩
    · simp at h2; obtain ⟨rfl, rfl, rfl⟩ := h2
      rw [hget, if_pos h1, Array.getElem?_setIfInBounds_self_of_lt hd.2.2]; exact ho.mono hle
    · rw [hget, if_neg h1]
      by_cases hm : m = n
      · rw [if_pos hm]; trivial
      · rw [if_neg hm]
        by_cases hr : r' = r
        · subst hr
          by_cases lm : live (s.get m)
          · exact absurd (h.inj m n r' o'' l' o lim h2 e lm hl) hm
          · cases hob : s.get m with
            | none => trivial
            | some x => cases x <;> first | trivial | (rw [hob] at lm; exact absurd trivial lm)
        · rw [Array.getElem?_setIfInBounds_ne (fun x => hr x.symm)]; exact (h.ob m r' o'' l' h2).mono hle
  · rcases hsplit m _ e' with ⟨h1, h2⟩ | ⟨h1, h2⟩
    · rcases hsplit k _ e'' with ⟨h3, h4⟩ | ⟨h3, h4⟩
      · omega
      · simp at h2; obtain ⟨rfl, rfl, rfl⟩ := h2
        obtain ⟨a, b⟩ := hlv k h3 lk
        exact absurd (h.inj k n r' p' l'' o _ h4 e b hl) a
    · rcases hsplit k _ e'' with ⟨h3, h4⟩ | ⟨h3, h4⟩
      · simp at h4; obtain ⟨rfl, rfl, rfl⟩ := h4
        obtain ⟨a, b⟩ := hlv m h1 lm
        exact absurd (h.inj m n r' p l' o _ h2 e b hl) a
      · exact h.inj m k r' p l' p' l'' h2 h4 (hlv m h1 lm).2 (hlv k h3 lk).2
  · rcases hsplit m _ b with ⟨h1, h2⟩ | ⟨h1, h2⟩
    · omega
    · rw [a] at h2; simp at h2
  · rw [hget, if_neg (by omega), if_neg (fun x => by subst x; rw [e] at e'; simp at e')]
  · show (w.heap.setIfInBounds r obj)[k]? = _
    rw [Array.getElem?_setIfInBounds_ne (fun x => hx n (r, o, lim) e x)]
  · rcases hsplit m _ hm with ⟨h1, h2⟩ | ⟨h1, h2⟩
    · subst h2; exact hx n (r, o, lim) e
    · exact hx m x h2

end Go.RE
