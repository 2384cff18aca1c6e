/- Operations that write memory do what the evaluator says. -/
import Derived.Test.YtnepmmjhhcdniaaRe8
import Derived.Laws.IdiomCopy
import Derived.Deep.Upon
namespace Go.RE
section
variable {P : Program} {w0 : World} {ρ : Ren} {s s' : St} {w : World} {env : PT V} {e : Operand → Value}

theorem set_same (h : Array Obj) (b : Nat) (x : Obj) (hb : h[b]? = some x) : h.setIfInBounds b x = h := by
  apply Array.ext_getElem?
  intro i
  rw [Array.getElem?_setIfInBounds]
  split
  · rename_i hi; subst hi
    split
    · exact hb.symm
    · rename_i hlt; rw [Array.getElem?_eq_none (by omega)]
  · rfl

theorem setCells_block (b : Nat) (t : TypeId) (fr : Nat × Nat) : ∀ (vs : List Value) (o : Nat) (w : World) (c : Array Value), w.heap[b]? = some (.cells c t fr) →
    ∃ c', w.setCells b o vs = { w with heap := w.heap.setIfInBounds b (.cells c' t fr) } ∧ c'.size = c.size ∧ ∀ j, c'[j]? = if o ≤ j ∧ j < o + vs.length ∧ j < c.size then vs[j - o]? else c[j]? := by
  intro vs
  induction vs with
  | nil => intro o w c h; exact ⟨c, by simp [World.setCells, set_same _ _ _ h], rfl, fun j => by rw [if_neg (by simp; omega)]⟩
  | cons v vs ih =>
    intro o w c h
    have hset : w.setCell ⟨b, o, none⟩ v = { w with heap := w.heap.setIfInBounds b (.cells (c.setIfInBounds o v) t fr) } := by
      unfold World.setCell
      congr 1
      apply Array.ext_getElem?
      intro i
      rw [Array.getElem?_modify, Array.getElem?_setIfInBounds]
      by_cases hi : b = i
      · subst hi
        rw [if_pos rfl, if_pos rfl, h]
        have : b < w.heap.size := by
          rcases Nat.lt_or_ge b w.heap.size with h' | h'
          · exact h'
          · rw [Array.getElem?_eq_none h'] at h; simp at h
        rw [if_pos this]; simp
      · rw [if_neg hi, if_neg hi]
    have hlt : b < w.heap.size := by
      rcases Nat.lt_or_ge b w.heap.size with h' | h'
      · exact h'
      · rw [Array.getElem?_eq_none h'] at h; simp at h
    obtain ⟨c', h1, h2, h3⟩ := ih (o + 1) (w.setCell ⟨b, o, none⟩ v) (c.setIfInBounds o v) (by rw [hset]; exact Array.getElem?_setIfInBounds_self_of_lt hlt)
    refine ⟨c', ?_, by simpa using h2, fun j => ?_⟩
    · simp only [World.setCells]
      rw [h1, hset]
      simp
    · rw [h3, Array.getElem?_setIfInBounds]
      simp only [Array.size_setIfInBounds, List.length_cons]
      by_cases hj : o + 1 ≤ j ∧ j < o + 1 + vs.length ∧ j < c.size
      · rw [if_pos hj, if_pos (by omega), show j - o = (j - (o + 1)) + 1 from by omega]; simp
      · rw [if_neg hj]
        by_cases hk : o = j
        · subst hk
          by_cases hs : o < c.size
          · rw [if_pos rfl, if_pos hs, if_pos (by omega)]; simp
          · rw [if_pos rfl, if_neg hs, if_neg (by omega), Array.getElem?_eq_none (by omega)]
        · rw [if_neg hk, if_neg (by omega)]

theorem one_of {vs : List V} {xs : List Value} (h : LRel w0 ρ vs xs) (h1 : vs.all V.one = true) : ∀ x ∈ xs, x.oneCell' = true := by
  intro x hx
  obtain ⟨i, hi, rfl⟩ := List.mem_iff_getElem.1 hx
  have hi' : i < vs.length := by rw [h.1]; exact hi
  have hv := h.2 i hi' hi
  have ho : vs[i].one = true := List.all_eq_true.1 h1 _ (List.getElem_mem hi')
  obtain ⟨a, b⟩ := hv.one ho
  generalize xs[i] = y at *
  cases y <;> first | rfl | exact absurd rfl (a _) | exact absurd rfl (b _)

theorem write_inv {b off : Nat} {vs : List V} (h : s.write b off vs = some s') : ∃ cs, s.get b = some (.row cs) ∧ off + vs.length ≤ cs.length ∧ vs.all V.one = true ∧ s' = s.put b (.row (spl cs off vs)) := by
  unfold St.write at h
  cases hs : s.row b with
  | none => simp [hs] at h
  | some cs =>
    simp only [hs] at h
    cases hb : (Nat.ble (off + vs.length) cs.length && vs.all V.one) with
    | false => simp [hb] at h
    | true =>
      simp only [hb, cond_true, Option.some.injEq] at h
      simp only [Bool.and_eq_true] at hb
      refine ⟨cs, ?_, Nat.le_of_ble_eq_true hb.1, hb.2, h.symm⟩
      unfold St.row at hs
      split at hs <;> simp at hs
      rename_i hg; subst hs; exact hg

/-- Cells are written. -/
theorem write_sound {b off r o lim : Nat} {vs : List V} {xs : List Value} (h : s.write b off vs = some s') (hR : Rel w0 ρ s w) (hρ : ρ b = some (r, o, lim)) (hx : LRel w0 ρ vs xs) :
    (storeCells ⟨r, o + off, none⟩ xs).run P w = .ok () (w.setCells r (o + off) xs) ∧ Rel w0 ρ s' (w.setCells r (o + off) xs) ∧ Stp ρ s w ρ s' (w.setCells r (o + off) xs) ∧
      (∀ j, j < xs.length → (w.cell? ⟨r, o + off + j, none⟩).isSome = true) ∧ (∀ j, j < xs.length → w.frozen? ⟨r, o + off + j, none⟩ = false) ∧ (∀ x ∈ xs, x.oneCell' = true) := by
  obtain ⟨cs, hg, hl, h1, rfl⟩ := write_inv h
  have ho := hR.ob b r o lim hρ
  rw [hg] at ho
  obtain ⟨c, t, fr, e1, e2, e3, e4, e5⟩ := ho
  have hlen := hx.1
  have hc : ∀ j, j < xs.length → (w.cell? ⟨r, o + off + j, none⟩).isSome = true := fun j hj => by
    simp only [World.cell?, e1, Option.isSome_none, Bool.false_eq_true, if_false]
    rw [Array.getElem?_eq_getElem (by omega)]; rfl
  have hf : ∀ j, j < xs.length → w.frozen? ⟨r, o + off + j, none⟩ = false := fun j hj => by
    obtain ⟨lo, hi⟩ := fr
    simp only [World.frozen?, e1]
    have := e4 (o + off + j) (by omega)
    simp at this ⊢
    omega
  have ho1 := one_of hx h1
  obtain ⟨c', g1, g2, g3⟩ := setCells_block r t fr xs (o + off) w c e1
  have hput := hR.put hρ (by rw [hg]; trivial) (ob := .row (spl cs off vs)) (obj := .cells c' t fr) ⟨c', t, fr, rfl, by omega, by rw [spl_size _ _ _ hl]; exact e3, e4, fun i hi => by
    rw [spl_size _ _ _ hl] at hi
    have hget := spl_get cs off vs hl i
    rw [List.getElem?_eq_getElem (by rw [spl_size _ _ _ hl]; exact hi)] at hget
    rw [g3]
    by_cases c1 : i < off
    · rw [if_pos c1, List.getElem?_eq_getElem hi] at hget
      simp only [Option.some.injEq] at hget
      rw [if_neg (by omega), hget]; exact e5 i hi
    · rw [if_neg c1] at hget
      by_cases c2 : i < off + vs.length
      · rw [if_pos c2, List.getElem?_eq_getElem (by omega)] at hget
        simp only [Option.some.injEq] at hget
        rw [if_pos (by omega), hget]
        obtain ⟨x, a1, a2⟩ := hx.get (List.getElem?_eq_getElem (show i - off < vs.length by omega))
        exact ⟨x, by rw [← a1]; congr 1; omega, a2⟩
      · rw [if_neg c2, List.getElem?_eq_getElem hi] at hget
        simp only [Option.some.injEq] at hget
        rw [if_neg (by omega), hget]; exact e5 i hi⟩
  have hrun := run_storeCells_cells (P := P) r (o + off) xs 0 w (by simpa using hc) (by simpa using hf) ho1
  simp only [Nat.add_zero] at hrun
  rw [← g1] at hput
  exact ⟨hrun, hput.1, hput.2, hc, hf, ho1⟩

/-- What an operation that writes comes to. -/
def Does (P : Program) (w0 : World) (ρ : Ren) (s : St) (w : World) (e : Operand → Value) (o : Oper) (v : V) (s' : St) : Prop :=
  ∃ ρ' w' nx, (execOp e o).run P w = .ok nx w' ∧ Rel w0 ρ' s' w' ∧ Stp ρ s w ρ' s' w' ∧ ((∃ x, nx = .value x ∧ VRel w0 ρ' v x) ∨ (nx = .skip ∧ v = .tup []))

theorem srcCells_sound {P : Program} {sz : Nat} {str : Bool} {x : V} {y : Value} {new : List V} {k : Nat} {tx : TypeId} (hk : if str then P.underlying tx = some .string else ∃ el, P.underlying tx = some (.slice el))
    (h : srcCells s sz str x = some new) (hl : lenV x = some k) (hR : Rel w0 ρ s w) (hx : VRel w0 ρ x y) (h1 : new.all V.one = true) : ∃ xs, Src P sz tx y k xs w ∧ LRel w0 ρ new xs := by
  cases str with
  | true =>
    cases x <;> simp [srcCells] at h
    rename_i b
    cases hb : Nat.beq sz 1 with
    | false => simp [hb] at h
    | true =>
      simp [hb] at h; subst h
      have : sz = 1 := Nat.eq_of_beq_eq_true hb
      subst this
      simp [lenV] at hl; subst hl
      obtain ⟨p, rfl, hp⟩ := hx.str_inv
      have hs : p.size = b.length := by rw [← hp]; simp
      refine ⟨byteCells p, by rw [← hs]; exact Src.ofString w (by simpa using hk) p, ?_⟩
      subst hp
      exact ⟨by simp [byteCells], fun i h1 h2 => by simp only [byteCells, List.getElem_map, byteCell]; exact .int _ _⟩
  | false =>
    obtain ⟨el, hk⟩ : ∃ el, P.underlying tx = some (.slice el) := by simpa using hk
    have h' : sliceCells s sz x = some new := by cases x <;> simpa [srcCells] using h
    rcases sliceCells_sound h' hR hx with ⟨rfl, rfl⟩ | ⟨a, len, cap, xs, rfl, g0, g1, g2, g3⟩
    · have : k = 0 := by cases hx; simp [lenV] at hl; omega
      subst this
      exact ⟨[], Src.ofNil w hk 0, .nil⟩
    · rw [g0] at hl; simp at hl; subst hl
      exact ⟨xs, Src.ofSlice w hk a len cap xs g1 g2 (one_of g3 h1), g3⟩

theorem Src.nil {sz : Nat} {tx : TypeId} {y : Value} {xs : List Value} (h : Src P sz tx y 0 xs w) : xs = [] := by
  have := h.newsLen; simp at this; exact this

theorem append_sound {t tx el ty : TypeId} {sz bs : Nat} {str : Bool} {z a x v : V} {ax y : Value} (ht : P.underlying t = some (.slice el)) (hk : if str then P.underlying tx = some .string else ∃ el, P.underlying tx = some (.slice el))
    (hsz : sizeO P el = some sz) (hbs : bytesO P el = some bs) (hz : zeroOf P el = some z) (hzs : z.cells.length = sz) (hv : appendV s sz bs str a x = some (v, s')) (hR : Rel w0 ρ s w) (ha : VRel w0 ρ a ax) (hx : VRel w0 ρ x y) :
    ∃ ρ' w' r, (Builtin.append_ #[t, tx] ty #[ax, y]).run P w = .ok r w' ∧ Rel w0 ρ' s' w' ∧ Stp ρ s w ρ' s' w' ∧ VRel w0 ρ' v r := by
  obtain ⟨i, hi, his⟩ := info_of_size hsz
  have hib : i.bytes = bs := by unfold bytesO at hbs; rw [hi] at hbs; simpa using hbs
  obtain ⟨zx, hiz, hzx⟩ : ∃ zx, i.zero = some zx ∧ zx.cells.size = sz := by
    unfold zeroOf at hz; rw [hi] at hz
    cases hq : i.zero with
    | none => simp [hq] at hz
    | some zx =>
      simp only [hq] at hz
      have := (ofValue_rel (w0 := w0) (ρ := ρ) hz).cells.1
      exact ⟨zx, rfl, by rw [← hzs, this]; simp⟩
  subst his; subst hib
  unfold appendV at hv
  split at hv <;> try (simp at hv; done)
  rename_i new k hnew hlen
  cases h1 : new.all V.one with
  | false => simp [h1] at hv
  | true =>
    simp only [h1, cond_true] at hv
    obtain ⟨xs, hsrc, hrel⟩ := srcCells_sound (P := P) hk hnew hlen hR hx h1
    -- a new row
    have grow : ∀ (s0 : St) (base : Option Addr) (len cap : Nat) (old : List V) (olds : List Value), Rel w0 ρ s0 w → Stp ρ s w ρ s0 w → LRel w0 ρ old olds →
        (Builtin.firstCells i.size len (.slice base len cap)).run P w.drew = .ok olds.toArray w.drew → cap < len + k → (len + k) * i.bytes ≤ big → len + k ≤ big → olds.length = len * i.size →
        ∃ ρ' w' r, (Builtin.append_ #[t, tx] ty #[.slice base len cap, y]).run P w = .ok r w' ∧ Rel w0 ρ' (s0.alloc (.row (old ++ new))) w' ∧ Stp ρ s w ρ' (s0.alloc (.row (old ++ new))) w' ∧
          VRel w0 ρ' (.slice s0.next 0 (len + k) (len + k) i.size false) r := fun s0 base len cap old olds hR0 hS0 hold hfirst hcap hb hb2 hol => by
      have hrun := run_append_grow_src (P := P) w t tx ty el i zx ht hi hiz base len cap olds hfirst y k xs hsrc hcap (by unfold big at hb2; omega) (growslice_fits hcap (by unfold big at hb; omega))
      have hge := grownCap_ge w (len + k) cap el
      generalize hG : grownCap w (len + k) cap el = G at hrun hge
      have hRd : Rel w0 ρ s0 w.drew := hR0.same rfl rfl rfl
      have hrow := ob_row (hold.append hrel) (Builtin.zeroCells zx.cells (G - (len + k))).toList el (0, 0) (by simp)
      rw [show ((olds ++ xs) ++ (Builtin.zeroCells zx.cells (G - (len + k))).toList).toArray = (olds ++ xs).toArray ++ Builtin.zeroCells zx.cells (G - (len + k)) from by apply Array.ext'; simp] at hrow
      obtain ⟨a1, a2⟩ := hRd.alloc hrow
      refine ⟨_, _, _, hrun, a1, hS0.trans ((Stp.same (ρ := ρ) (s := s0) (w := w) (w' := w.drew) rfl).trans a2), .slice (Ren.add_same _ _ _) hge (fun h => by simp at h) (Nat.le_refl _) (.inr ⟨rfl, ?_⟩)⟩
      have hzl : (Builtin.zeroCells zx.cells (G - (len + k))).toList.length = (G - (len + k)) * i.size := by simp [Builtin.zeroCells, hzx]
      rw [hzl, List.length_append, hol, hsrc.newsLen, ← Nat.add_mul, ← Nat.add_mul]
      simp only [Nat.zero_add]
      exact Nat.mul_le_mul_right _ (by omega)
    split at hv
    · cases ha
      cases hk0 : Nat.beq k 0 with
      | true =>
        have : k = 0 := Nat.eq_of_beq_eq_true hk0
        subst this
        simp only [hk0, cond_true, Option.some.injEq, Prod.mk.injEq] at hv; obtain ⟨rfl, rfl⟩ := hv
        rw [Src.nil hsrc] at hsrc
        exact ⟨ρ, w, _, run_append_nothing w t tx ty el i ht hi none 0 0 (Nat.le_refl _) y hsrc, hR, .refl _ _ _, .nils⟩
      | false =>
        have hkp : k ≠ 0 := by intro h; subst h; simp [Nat.beq] at hk0
        simp only [hk0, cond_false] at hv
        cases hb : (Nat.ble (k * i.bytes) big && Nat.ble k big) with
        | false => simp [hb] at hv
        | true =>
          simp only [hb, cond_true, Option.some.injEq, Prod.mk.injEq] at hv; obtain ⟨rfl, rfl⟩ := hv
          simp only [Bool.and_eq_true] at hb
          obtain ⟨ρ', w', r, g1, g2, g3, g4⟩ := grow s none 0 0 [] [] hR (.refl _ _ _) .nil (by simp [Builtin.firstCells]) (by omega) (by simpa using Nat.le_of_ble_eq_true hb.1) (by simpa using Nat.le_of_ble_eq_true hb.2) (by simp)
          exact ⟨ρ', w', r, g1, by simpa using g2, by simpa using g3, by simpa using g4⟩
    · rename_i row off len zz
      cases hk0 : Nat.beq k 0 with
      | false => simp [hk0] at hv
      | true =>
        have : k = 0 := Nat.eq_of_beq_eq_true hk0
        subst this
        simp only [hk0, cond_true, Option.some.injEq, Prod.mk.injEq] at hv; obtain ⟨rfl, rfl⟩ := hv
        rw [Src.nil hsrc] at hsrc
        cases ha with
        | cslice c hr hc hcv h3 h4 =>
          exact ⟨ρ, w, _, run_append_nothing w t tx ty el i ht hi _ _ _ h3 y hsrc, hR, .refl _ _ _, .cslice c hr hc hcv h3 h4⟩
    · rename_i b off len cap zz ex
      cases hb : (Nat.beq zz i.size && Nat.ble ((len + k) * i.bytes) big && Nat.ble (len + k) big) with
      | false => simp [hb] at hv
      | true =>
        simp only [hb, cond_true] at hv
        simp only [Bool.and_eq_true] at hb
        have hzz : zz = i.size := Nat.eq_of_beq_eq_true hb.1.1
        have hb1 := Nat.le_of_ble_eq_true hb.1.2
        have hb2 := Nat.le_of_ble_eq_true hb.2
        subst hzz
        cases ha with
        | slice hρ h1' h2 h3 h4 =>
          rename_i r o lim aa cap'
          cases hc : Nat.ble (len + k) cap with
          | true =>
            have hc' := Nat.le_of_ble_eq_true hc
            simp only [hc, cond_true] at hv
            cases hk0 : Nat.beq k 0 with
            | true =>
              have : k = 0 := Nat.eq_of_beq_eq_true hk0
              subst this
              simp only [hk0, cond_true, Option.some.injEq, Prod.mk.injEq] at hv; obtain ⟨rfl, rfl⟩ := hv
              rw [Src.nil hsrc] at hsrc
              exact ⟨ρ, w, _, run_append_nothing w t tx ty el i ht hi _ _ _ (by omega) y hsrc, hR, .refl _ _ _, .slice hρ h1' h2 h3 h4⟩
            | false =>
              have hkp : k ≠ 0 := by intro h; subst h; simp [Nat.beq] at hk0
              simp only [hk0, cond_false] at hv
              cases hw : s.write b (off + len * i.size) new with
              | none => simp [hw] at hv
              | some s1 =>
                simp only [hw, Option.some.injEq, Prod.mk.injEq] at hv; obtain ⟨rfl, rfl⟩ := hv
                rcases h4 with h4 | ⟨rfl, h5⟩
                · omega
                · obtain ⟨q1, q2, q3, q4, q5, q6⟩ := write_sound (P := P) hw hR hρ hrel
                  rw [← Nat.add_assoc] at q1 q2 q3 q4 q5
                  have hrun := run_append_room_src (P := P) w t tx ty el i ht hi r (o + off) len cap' y k xs hsrc (by omega) q4 q5
                  exact ⟨ρ, _, _, hrun, q2, q3, .slice hρ h1' h2 (by omega) (.inr ⟨rfl, h5⟩)⟩
          | false =>
            have hc' : cap < len + k := by
              rcases Nat.lt_or_ge cap (len + k) with h | h
              · exact h
              · rw [Nat.ble_eq_true_of_le h] at hc; simp at hc
            simp only [hc, cond_false] at hv
            cases hold : sliceCells s i.size (.slice b off len cap i.size ex) with
            | none => simp [hold] at hv
            | some old =>
              simp only [hold, Option.some.injEq, Prod.mk.injEq] at hv; obtain ⟨rfl, rfl⟩ := hv
              rcases sliceCells_sound hold hR (.slice hρ h1' h2 h3 h4) with ⟨hh, _⟩ | ⟨aa', len', cap'', olds, hh, g0, g1, g2, g3⟩
              · cases hh
              · cases hh
                have hfirst : (Builtin.firstCells i.size len (.slice (some aa) len cap')).run P w.drew = .ok olds.toArray w.drew := run_firstCells_some (P := P) w.drew i.size len aa len cap' olds g1 (by simpa using g2)
                cases ex with
                | true =>
                  have : cap' = cap := h2 rfl
                  subst this
                  simpa using grow s (some aa) len cap' old olds hR (.refl _ _ _) g3 hfirst hc' hb1 hb2 g1
                | false =>
                  obtain ⟨k1, k2⟩ := hR.kill hρ
                  by_cases hcc : cap' < len + k
                  · exact grow (s.put b .dead) (some aa) len cap' old olds k1 k2 g3 hfirst hcc hb1 hb2 g1
                  · rcases h4 with h4 | ⟨rfl, h5⟩
                    · omega
                    · have hrow : ∃ cs, s.get b = some (.row cs) := by
                        simp only [sliceCells] at hold
                        cases hs : s.row b with
                        | none => simp [hs] at hold
                        | some cs =>
                          unfold St.row at hs
                          split at hs <;> simp at hs
                          rename_i hg; exact ⟨_, hg⟩
                      obtain ⟨cs, hg⟩ := hrow
                      have ho := hR.ob b r o lim hρ
                      rw [hg] at ho
                      obtain ⟨c, tt, fr, e1, e2, e3, e4, e5⟩ := ho
                      have hnl := hsrc.newsLen
                      have hfit : (len + k) * i.size ≤ cap' * i.size := Nat.mul_le_mul_right _ (by omega)
                      rw [Nat.add_mul] at hfit
                      have hcell : ∀ j, j < xs.length → (w.cell? ⟨r, o + off + len * i.size + j, none⟩).isSome = true := fun j hj => by
                        simp only [World.cell?, e1, Option.isSome_none, Bool.false_eq_true, if_false]
                        rw [Array.getElem?_eq_getElem (by omega)]; rfl
                      have hfz : ∀ j, j < xs.length → w.frozen? ⟨r, o + off + len * i.size + j, none⟩ = false := fun j hj => by
                        obtain ⟨lo, hi⟩ := fr
                        simp only [World.frozen?, e1]
                        have := e4 (o + off + len * i.size + j) (by omega)
                        simp at this ⊢
                        omega
                      have hrun := run_append_room_src (P := P) w t tx ty el i ht hi r (o + off) len cap' y k xs hsrc (by omega) hcell hfz
                      obtain ⟨c', s1, s2, s3⟩ := setCells_block r tt fr xs (o + off + len * i.size) w c e1
                      have hol := g3.1
                      have hnr := hrel.1
                      have hgrow := hR.grow hρ (by rw [hg]; trivial) (ob := .row (old ++ new)) (obj := .cells c' tt fr) (o' := o + off) ⟨c', tt, fr, rfl, by omega, by simp; omega, e4, fun j hj => by
                        simp only [List.length_append] at hj
                        rw [s3]
                        by_cases hjo : j < old.length
                        · rw [if_neg (by omega)]
                          obtain ⟨x1, x2, x3⟩ := g3.get (List.getElem?_eq_getElem hjo)
                          have hx4 := g2 j x1 x2
                          rw [addr_add] at hx4
                          simp only [World.cell?, e1, Option.isSome_none, Bool.false_eq_true, if_false] at hx4
                          exact ⟨x1, hx4, by rw [List.getElem_append_left hjo]; exact x3⟩
                        · rw [if_pos (by omega)]
                          obtain ⟨x1, x2, x3⟩ := hrel.get (List.getElem?_eq_getElem (show j - old.length < new.length by omega))
                          refine ⟨x1, by rw [← x2]; congr 1; omega, ?_⟩
                          rw [List.getElem_append_right (by omega)]; exact x3⟩
                      rw [← s1] at hgrow
                      exact ⟨_, _, _, hrun, hgrow.1, hgrow.2, .slice (Ren.add_same _ _ _) (by omega) (fun h => by simp at h) (Nat.le_refl _) (.inr ⟨rfl, by simpa using h5⟩)⟩
    · simp at hv
end
end Go.RE
