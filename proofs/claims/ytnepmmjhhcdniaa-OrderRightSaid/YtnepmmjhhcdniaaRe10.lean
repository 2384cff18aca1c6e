/- Operations that write memory do what the evaluator says, all of them. -/
import Derived.Test.YtnepmmjhhcdniaaRe9
namespace Go.RE
set_option linter.unusedSimpArgs false
set_option linter.unusedVariables false
section
variable {P : Program} {w0 : World} {ρ : Ren} {s s' : St} {w : World} {env : PT V} {e : Operand → Value}

/-- A map's entries, one by one. -/
def MRel (w0 : World) (ρ : Ren) (a : List ME) (b : List MapEntry) : Prop := a.length = b.length ∧ ∀ i (h : i < a.length) (h' : i < b.length), VRel w0 ρ a[i].key b[i].key ∧ VRel w0 ρ a[i].val b[i].val ∧ a[i].born = b[i].born

theorem MRel.get {a : List ME} {b : List MapEntry} (h : MRel w0 ρ a b) {i : Nat} {m : ME} (hm : a[i]? = some m) : ∃ x, b[i]? = some x ∧ VRel w0 ρ m.key x.key ∧ VRel w0 ρ m.val x.val ∧ m.born = x.born := by
  obtain ⟨hi, rfl⟩ := List.getElem?_eq_some_iff.1 hm
  exact ⟨b[i]'(h.1 ▸ hi), List.getElem?_eq_getElem _, h.2 i hi (h.1 ▸ hi)⟩
theorem MRel.of_get {a : List ME} {b : List MapEntry} (hl : a.length = b.length) (h : ∀ (i : Nat) m, a[i]? = some m → ∃ x, b[i]? = some x ∧ VRel w0 ρ m.key x.key ∧ VRel w0 ρ m.val x.val ∧ m.born = x.born) : MRel w0 ρ a b :=
  ⟨hl, fun i h1 h2 => by
    obtain ⟨x, hx, hr⟩ := h i a[i] (List.getElem?_eq_getElem h1)
    rw [List.getElem?_eq_getElem h2] at hx
    simp at hx; rw [hx]; exact hr⟩

theorem modME_eq (f : ME → ME) : ∀ (l : List ME) (i : Nat), modME i f l = l.modify i f := by
  intro l
  induction l with
  | nil => intro i; cases i <;> rfl
  | cons a l ih => intro i; cases i with
    | zero => rfl
    | succ i => simp [modME, ih]
theorem eraseME_eq : ∀ (l : List ME) (i : Nat), eraseME i l = l.eraseIdx i := by
  intro l
  induction l with
  | nil => intro i; cases i <;> rfl
  | cons a l ih => intro i; cases i with
    | zero => rfl
    | succ i => simp [eraseME, ih]

theorem MRel.modify {a : List ME} {b : List MapEntry} (h : MRel w0 ρ a b) (i : Nat) {k v : V} {k' v' : Value} (hk : VRel w0 ρ k k') (hv : VRel w0 ρ v v') :
    MRel w0 ρ (a.modify i fun e => { e with key := k, val := v }) (b.modify i fun e => { e with key := k', val := v' }) := by
  refine MRel.of_get (by simp [h.1]) fun j m hm => ?_
  rw [List.getElem?_modify] at hm
  rw [List.getElem?_modify]
  by_cases hij : i = j
  · subst hij
    simp at hm
    obtain ⟨m0, h0, rfl⟩ := hm
    obtain ⟨x, x1, x2, x3, x4⟩ := h.get h0
    exact ⟨{ x with key := k', val := v' }, by simp [x1], hk, hv, x4⟩
  · simp [hij] at hm ⊢
    exact h.get hm
theorem MRel.eraseIdx {a : List ME} {b : List MapEntry} (h : MRel w0 ρ a b) (i : Nat) : MRel w0 ρ (a.eraseIdx i) (b.eraseIdx i) := by
  refine MRel.of_get (by simp [List.length_eraseIdx, h.1]) fun j m hm => ?_
  rw [List.getElem?_eraseIdx] at hm ⊢
  split
  · rename_i hlt; rw [if_pos hlt] at hm; exact h.get hm
  · rename_i hlt; rw [if_neg hlt] at hm; exact h.get hm
theorem MRel.push {a : List ME} {b : List MapEntry} (h : MRel w0 ρ a b) {k v : V} {k' v' : Value} (n : Nat) (hk : VRel w0 ρ k k') (hv : VRel w0 ρ v v') :
    MRel w0 ρ (a ++ [{ key := k, val := v, born := n }]) (b ++ [{ key := k', val := v', born := n }]) := by
  refine MRel.of_get (by simp [h.1]) fun j m hm => ?_
  by_cases hj : j < a.length
  · rw [List.getElem?_append_left hj] at hm
    rw [List.getElem?_append_left (h.1 ▸ hj)]; exact h.get hm
  · rw [List.getElem?_append_right (by omega)] at hm
    rw [List.getElem?_append_right (by have := h.1; omega), ← h.1]
    have hz : j - a.length = 0 := by
      rcases Nat.eq_zero_or_pos (j - a.length) with h0 | h0
      · exact h0
      · rw [List.getElem?_eq_none (by simp; omega)] at hm; simp at hm
    rw [hz] at hm ⊢
    simp at hm; subst hm
    exact ⟨_, rfl, hk, hv, rfl⟩

theorem Rel.mrel (hR : Rel w0 ρ s w) {m r o lim : Nat} {es : List ME} {clock : Nat} (hρ : ρ m = some (r, o, lim)) (hs : s.get m = some (.map es clock)) :
    ∃ es', w.heap[r]? = some (.map es' clock) ∧ MRel w0 ρ es es'.toList := by
  obtain ⟨es', g1, g2, g3⟩ := hR.map_at hρ hs
  exact ⟨es', g1, by simpa using g2, fun i h h' => by simpa using g3 i h (by simpa using h')⟩

theorem Rel.put_map (hR : Rel w0 ρ s w) {m r o lim : Nat} {es : List ME} {clock : Nat} (hρ : ρ m = some (r, o, lim)) (hs : s.get m = some (.map es clock)) {es1 : List ME} {es1' : Array MapEntry} {c : Nat} (h : MRel w0 ρ es1 es1'.toList) :
    Rel w0 ρ (s.put m (.map es1 c)) { w with heap := w.heap.setIfInBounds r (.map es1' c) } ∧ Stp ρ s w ρ (s.put m (.map es1 c)) { w with heap := w.heap.setIfInBounds r (.map es1' c) } :=
  hR.put hρ (by rw [hs]; trivial) ⟨es1', rfl, by simpa using h.1, fun i h1 h2 => h.2 i h1 (by simpa using h2)⟩

theorem run_setObj_map {r : Nat} {es' : Array MapEntry} {clock : Nat} (h : w.heap[r]? = some (.map es' clock)) (o : Obj) : (setObj r o).run P w = .ok () { w with heap := w.heap.setIfInBounds r o } := by
  simp [setObj, Sem.run, h]

theorem findKey_sound {kk : EqK} {k : V} {y : Value} {t : TypeId} {es : List ME} {es' : Array MapEntry} {res : Option (Nat × V)} (hK : KindOK P t kk) (hk : VRel w0 ρ k y) (h : MRel w0 ρ es es'.toList) (hf : findE kk k es 0 = some res) (w : World) :
    match res with
    | none => (Instr.findKey t y es'.toList).run P w = .ok none w
    | some (j, _) => ∃ v', (Instr.findKey t y es'.toList).run P w = .ok (some (j, v')) w ∧ ∃ x, es'[j]? = some x ∧ (Instr.keyThatStays x.key y).run P w = .ok y w := by
  obtain ⟨D, r', e1, e2, e3⟩ := findE_sound (P := P) (es := es) (es' := es'.toList) (i := 0) hK hk hf h.1 h.2
  have hfk : (Instr.findKey t y es'.toList).run P w = .ok r' w := by simp [Instr.findKey, run_underlying e1, e2]
  cases res with
  | none =>
    cases r' with
    | none => exact hfk
    | some _ => simp at e3
  | some jv =>
    obtain ⟨j, v⟩ := jv
    cases r' with
    | none => simp at e3
    | some jv' =>
      obtain ⟨j', v'⟩ := jv'
      obtain ⟨rfl, a2, a3, a4, a5⟩ := e3
      refine ⟨v', hfk, es'[j]'(by simpa using a4), by simp at a4; simp [a4], ?_⟩
      have a5' : Instr.sameNow D y (es'[j]'(by simpa using a4)).key = some true := by simpa using a5
      generalize (es'[j]'(by simpa using a4)).key = q at a5'
      have : Instr.sameBits 10000 q y = true := by
        unfold Instr.sameNow at a5'
        split at a5' <;> simp at a5'
        · obtain ⟨rfl, rfl⟩ := a5'; simp [Instr.sameBits]
        · rename_i p q
          have : (q == p) = true := by
            rw [beq_toListBytes] at a5' ⊢
            simp at a5' ⊢; exact a5'.symm
          simp [Instr.sameBits, this]
        · subst a5'; simp [Instr.sameBits]
      simp [Instr.keyThatStays, this]

theorem mapUpdate_sound {t kt et : TypeId} {kk : EqK} {m k x : V} {mx kx xx : Value} (hu : P.underlying t = some (.map kt et)) (hkk : basicKey P kt = some kk) {mm : Nat} {es : List ME} {clock : Nat} (hm : m = .map mm) (hs : s.get mm = some (.map es clock))
    (hp : plainKey kk k = true) {res : Option (Nat × V)} (hf : findE kk k es 0 = some res) (hR : Rel w0 ρ s w) (r1 : VRel w0 ρ m mx) (r2 : VRel w0 ρ k kx) (r3 : VRel w0 ρ x xx) :
    ∃ w', (Instr.mapUpdate t mx kx xx).run P w = .ok () w' ∧
      Rel w0 ρ (match res with | some (i, _) => s.put mm (.map (modME i (fun e => { e with key := k, val := x }) es) clock) | none => s.put mm (.map (es ++ [{ key := k, val := x, born := clock }]) (clock + 1))) w' ∧
      Stp ρ s w ρ (match res with | some (i, _) => s.put mm (.map (modME i (fun e => { e with key := k, val := x }) es) clock) | none => s.put mm (.map (es ++ [{ key := k, val := x, born := clock }]) (clock + 1))) w' := by
  subst hm
  have hK := basicKey_ok hkk
  cases r1 with
  | map hρ =>
    rename_i r o lim
    obtain ⟨es', g1, g2⟩ := hR.mrel hρ hs
    have hc := checkKey_plain (P := P) hK hp r2 false 9999 w
    have hfk := findKey_sound (P := P) hK r2 g2 hf w
    cases res with
    | none =>
      simp only at hfk ⊢
      have hput := hR.put_map hρ hs (es1' := es'.push { key := kx, val := xx, born := clock }) (c := clock + 1) (by simpa using g2.push clock r2 r3)
      exact ⟨_, by simp [Instr.mapUpdate, run_underlying hu, run_getObj_map g1, hc, hfk, run_setObj_map g1], hput⟩
    | some jv =>
      obtain ⟨j, v⟩ := jv
      obtain ⟨v', h1, y, h2, h3⟩ := hfk
      simp only
      have hput := hR.put_map hρ hs (es1 := modME j (fun e => { e with key := k, val := x }) es) (es1' := es'.modify j fun e => { e with key := kx, val := xx }) (c := clock) (by rw [modME_eq]; simpa using g2.modify j r2 r3)
      exact ⟨_, by simp [Instr.mapUpdate, run_underlying hu, run_getObj_map g1, hc, h1, h2, h3, run_setObj_map g1], hput⟩

theorem cb_h {b : Builtin} {ts : List TypeId} {xs : List Opd} {ho : HOp} (h : cbuiltin P b ts xs = .h ho) :
    (b = .append ∧ ∃ t u a x el sz bs z str, ts = [t, u] ∧ xs = [a, x] ∧ P.underlying t = some (.slice el) ∧ (if str = true then P.underlying u = some .string else ∃ el, P.underlying u = some (.slice el)) ∧
      sizeO P el = some sz ∧ bytesO P el = some bs ∧ zeroOf P el = some z ∧ z.cells.length = sz ∧ ho = .append sz bs str a x) ∨
    (b = .copy ∧ ∃ t u d x el sz str, ts = [t, u] ∧ xs = [d, x] ∧ P.underlying t = some (.slice el) ∧ (if str = true then P.underlying u = some .string else ∃ el, P.underlying u = some (.slice el)) ∧ sizeO P el = some sz ∧ ho = .copy sz str d x) ∨
    (b = .delete ∧ ∃ t ts' m k kt et kk, ts = t :: ts' ∧ xs = [m, k] ∧ P.underlying t = some (.map kt et) ∧ basicKey P kt = some kk ∧ ho = .delete kk m k) := by
  have okS : ∀ {t el : TypeId}, okSlice P t = some el → P.underlying t = some (.slice el) := fun {t el} h => by unfold okSlice at h; split at h <;> simp_all
  unfold cbuiltin at h
  split at h
  · split at h <;> cases h
  · split at h <;> cases h
  · cases h
  · cases h
  · rename_i t u a x
    split at h <;> try (cases h; done)
    rename_i el ud h1 h2
    split at h <;> try (cases h; done)
    · rename_i el2 sz bs z g1 g2 g3
      cases hq : Nat.beq z.cells.length sz with
      | false => rw [hq] at h; cases h
      | true =>
        rw [hq] at h; cases h
        exact .inl ⟨rfl, t, u, a, x, el, sz, bs, z, false, rfl, rfl, okS h1, by simpa using ⟨_, h2⟩, g1, g2, g3, Nat.eq_of_beq_eq_true hq, rfl⟩
    · rename_i sz bs z g1 g2 g3
      cases hq : Nat.beq z.cells.length sz with
      | false => rw [hq] at h; cases h
      | true =>
        rw [hq] at h; cases h
        exact .inl ⟨rfl, t, u, a, x, el, sz, bs, z, true, rfl, rfl, okS h1, by simpa using h2, g1, g2, g3, Nat.eq_of_beq_eq_true hq, rfl⟩
  · rename_i t u d x
    split at h <;> try (cases h; done)
    rename_i el ud h1 h2
    split at h <;> cases h
    · rename_i g1; exact .inr (.inl ⟨rfl, t, u, d, x, el, _, false, rfl, rfl, okS h1, by simpa using ⟨_, h2⟩, g1, rfl⟩)
    · rename_i g1; exact .inr (.inl ⟨rfl, t, u, d, x, el, _, true, rfl, rfl, okS h1, by simpa using h2, g1, rfl⟩)
  · rename_i t ts' m k
    split at h <;> try (cases h; done)
    rename_i kt et hu
    split at h <;> cases h
    rename_i kk hkk
    exact .inr (.inr ⟨rfl, t, ts', m, k, kt, et, kk, rfl, rfl, hu, hkk, rfl⟩)
  · cases h

theorem src_first {sz : Nat} {str : Bool} {x : V} {y : Value} {new : List V} {k : Nat} (h : srcCells s sz str x = some new) (hl : lenV x = some k) (hR : Rel w0 ρ s w) (hx : VRel w0 ρ x y) :
    ∃ xs, LRel w0 ρ new xs ∧ xs.length = k * sz ∧ (∀ w' : World, (Builtin.lenOf y).run P w' = .ok k w') ∧ ∀ n, n ≤ k → (Builtin.firstCells sz n y).run P w = .ok (xs.take (n * sz)).toArray w := by
  cases str with
  | true =>
    cases x <;> simp [srcCells] at h
    rename_i b
    cases hb : Nat.beq sz 1 with
    | false => simp [hb] at h
    | true =>
      simp [hb] at h; subst h
      have : sz = 1 := Nat.eq_of_beq_eq_true hb
      subst this
      simp [lenV] at hl; subst hl
      obtain ⟨p, rfl, hp⟩ := hx.str_inv
      have hs : p.size = b.length := by rw [← hp]; simp
      subst hp
      refine ⟨byteCells p, ⟨by simp [byteCells], fun i h1 h2 => by simp only [byteCells, List.getElem_map, byteCell]; exact .int _ _⟩, by rw [byteCells_length, ← hs, Nat.mul_one], fun w' => by rw [← hs]; rfl, fun n hn => ?_⟩
      simp [Builtin.firstCells, byteCells]
      apply Array.ext'
      simp
  | false =>
    have h' : sliceCells s sz x = some new := by cases x <;> simpa [srcCells] using h
    rcases sliceCells_sound h' hR hx with ⟨rfl, rfl⟩ | ⟨a, len, cap, xs, rfl, g0, g1, g2, g3⟩
    · have : k = 0 := by cases hx; simp [lenV] at hl; omega
      subst this
      exact ⟨[], .nil, by simp, fun _ => rfl, fun n hn => by simp [Builtin.firstCells]⟩
    · rw [g0] at hl; simp at hl; subst hl
      exact ⟨xs, g3, g1, fun _ => rfl, fun n hn => run_firstCells_some (P := P) w sz n a len cap _ (by rw [List.length_take, g1]; exact Nat.min_eq_left (Nat.mul_le_mul_right _ hn)) fun j u hj => g2 j u (by
        rw [List.getElem?_take] at hj; split at hj <;> simp_all)⟩

theorem copy_sound {dt tx el ty : TypeId} {sz : Nat} {str : Bool} {d x v : V} {dx y : Value} (hu : P.underlying dt = some (.slice el)) (hsz : sizeO P el = some sz) (hv : copyV s sz str d x = some (v, s')) (hR : Rel w0 ρ s w)
    (hd : VRel w0 ρ d dx) (hx : VRel w0 ρ x y) : ∃ w' r, (Builtin.copy_ #[dt, tx] ty #[dx, y]).run P w = .ok r w' ∧ Rel w0 ρ s' w' ∧ Stp ρ s w ρ s' w' ∧ VRel w0 ρ v r := by
  unfold copyV at hv
  split at hv <;> try (simp at hv; done)
  rename_i new k hnew hl
  obtain ⟨xs, q1, q2, q3, q4⟩ := src_first (P := P) hnew hl hR hx
  split at hv
  · simp only [Option.some.injEq, Prod.mk.injEq] at hv; obtain ⟨rfl, rfl⟩ := hv
    cases hd
    have h0 := q4 0 (Nat.zero_le _)
    refine ⟨w, goInt 0, ?_, hR, .refl _ _ _, .int _ _⟩
    have hm : Nat.min k 0 = 0 := Nat.min_zero k
    simp [Builtin.copy_, run_underlying hu, q3, run_sizeO hsz, h0, hm]
  · rename_i b off len cap z ex
    cases hz : Nat.beq z sz with
    | false => simp [hz] at hv
    | true =>
      have hzz : z = sz := Nat.eq_of_beq_eq_true hz
      subst hzz
      simp only [hz, cond_true] at hv
      cases hw : s.write b off (new.take ((min k len) * z)) with
      | none => simp [hw] at hv
      | some s1 =>
        simp only [hw, Option.some.injEq, Prod.mk.injEq] at hv; obtain ⟨rfl, rfl⟩ := hv
        cases hd with
        | slice hρ h1 h2 h3 h4 =>
          rename_i r o lim a cap'
          have h0 := q4 (min k len) (Nat.min_le_left _ _)
          obtain ⟨p1, p2, p3, _⟩ := write_sound (P := P) hw hR hρ (q1.take ((min k len) * z))
          have hm : Nat.min k len = min k len := rfl
          rcases h4 with h4 | ⟨rfl, h5⟩
          · have hl0 : len = 0 := by omega
            subst hl0
            have hxs : List.take (min k 0 * z) xs = [] := by simp
            rw [hxs] at p1 p2 p3 h0
            simp only [World.setCells] at p2 p3
            exact ⟨w, goInt 0, by simp [Builtin.copy_, run_underlying hu, q3, run_sizeO hsz, hm] at h0 ⊢; simp [h0, storeCells], p2, p3, by rw [show ((min k 0 : Nat) : Int) = 0 from by simp]; exact .int _ _⟩
          · exact ⟨_, goInt (min k len : Nat), by simp [Builtin.copy_, run_underlying hu, q3, run_sizeO hsz, hm, h0, p1], p2, p3, .int _ _⟩
  · simp at hv

theorem evH_sound {o : Oper} {ho : HOp} {v : V} (hc : cop P o.op = .h ho) (hv : evH env s ho = some (v, s')) (hR : Rel w0 ρ s w) (H : ∀ x ∈ o.op.operands, OpdOK w0 ρ env e x) : Does P w0 ρ s w e o v s' := by
  obtain ⟨dst, op, type, pos, after, guard⟩ := o
  simp only at hc H
  cases op with
  | store t a x =>
    simp only [cop] at hc; split at hc <;> cases hc
    rename_i n ao xo hn hao hxo
    simp only [evH] at hv
    split at hv <;> try (simp at hv; done)
    rename_i b off u ha hu
    cases hq : Nat.beq u.cells.length n with
    | false => simp [hq] at hv
    | true =>
      have hq' : u.cells.length = n := Nat.eq_of_beq_eq_true hq
      simp only [hq, cond_true] at hv
      cases hw : s.write b off u.cells with
      | none => simp [hw] at hv
      | some s1 =>
        simp only [hw, Option.some.injEq, Prod.mk.injEq] at hv; obtain ⟨rfl, rfl⟩ := hv
        have hxr := H x (by simp [Op.operands]) xo u hxo hu
        have har := H a (by simp [Op.operands]) ao _ hao ha
        generalize hex : e a = ea at har
        cases har with
        | ptr hρ =>
          rename_i r o lim
          obtain ⟨q1, q2, q3, _⟩ := write_sound (P := P) hw hR hρ hxr.cells
          refine ⟨ρ, _, .skip, ?_, q2, q3, .inr ⟨rfl, rfl⟩⟩
          have hsize : ¬ (e x).cells.size ≠ n := by
            have := hxr.cells.1
            simp at this; omega
          have : (Instr.storeAt t (e a) (e x)).run P w = .ok () (w.setCells r (o + off) (e x).cells.toList) := by
            simp only [Instr.storeAt, hex, Instr.sureAddr, Sem.run_bind, Sem.run_pure, Result.andThen_ok, storeVar, run_sizeO hn]
            rw [if_neg hsize]; exact q1
          simp [execOp, this]
  | mapUpdate t m k x =>
    simp only [cop] at hc
    split at hc <;> try (cases hc; done)
    rename_i kt et mo ko xo hu hmo hko hxo
    split at hc <;> cases hc
    rename_i kk hkk
    simp only [evH] at hv
    split at hv <;> try (simp at hv; done)
    rename_i mm kv xv hm hk hx
    cases hs : s.get mm with
    | none => simp [hs] at hv
    | some ob =>
      cases ob <;> simp only [hs, reduceCtorEq] at hv
      rename_i es clock
      cases hp : plainKey kk kv with
      | false => simp [hp] at hv
      | true =>
        simp only [hp, cond_true] at hv
        cases hf : findE kk kv es 0 with
        | none => simp [hf] at hv
        | some res =>
          obtain ⟨w', g1, g2, g3⟩ := mapUpdate_sound (P := P) hu hkk rfl hs hp hf hR (H m (by simp [Op.operands]) mo _ hmo hm) (H k (by simp [Op.operands]) ko kv hko hk) (H x (by simp [Op.operands]) xo xv hxo hx)
          have hrun : (execOp e ({ dst, op := .mapUpdate t m k x, type, pos, after, guard } : Oper)).run P w = .ok .skip w' := by simp [execOp, g1]
          simp only [hf] at hv
          cases res with
          | none => simp only [Option.some.injEq, Prod.mk.injEq] at hv; obtain ⟨rfl, rfl⟩ := hv; exact ⟨ρ, w', .skip, hrun, g2, g3, .inr ⟨rfl, rfl⟩⟩
          | some jv => simp only [Option.some.injEq, Prod.mk.injEq] at hv; obtain ⟨rfl, rfl⟩ := hv; exact ⟨ρ, w', .skip, hrun, g2, g3, .inr ⟨rfl, rfl⟩⟩
  | insert t m k x =>
    simp only [cop] at hc
    split at hc <;> try (cases hc; done)
    rename_i kt et mo ko xo hu hmo hko hxo
    split at hc <;> cases hc
    rename_i kk hkk
    simp only [evH] at hv
    split at hv <;> try (simp at hv; done)
    rename_i mm kv xv hm hk hx
    cases hs : s.get mm with
    | none => simp [hs] at hv
    | some ob =>
      cases ob <;> simp only [hs, reduceCtorEq] at hv
      rename_i es clock
      cases hp : plainKey kk kv with
      | false => simp [hp] at hv
      | true =>
        simp only [hp, cond_true] at hv
        cases hf : findE kk kv es 0 with
        | none => simp [hf] at hv
        | some res =>
          obtain ⟨w', g1, g2, g3⟩ := mapUpdate_sound (P := P) hu hkk rfl hs hp hf hR (H m (by simp [Op.operands]) mo _ hmo hm) (H k (by simp [Op.operands]) ko kv hko hk) (H x (by simp [Op.operands]) xo xv hxo hx)
          have hrun : (execOp e ({ dst, op := .insert t m k x, type, pos, after, guard } : Oper)).run P w = .ok .skip w' := by simp [execOp, g1]
          simp only [hf] at hv
          cases res with
          | none => simp only [Option.some.injEq, Prod.mk.injEq] at hv; obtain ⟨rfl, rfl⟩ := hv; exact ⟨ρ, w', .skip, hrun, g2, g3, .inr ⟨rfl, rfl⟩⟩
          | some jv => simp only [Option.some.injEq, Prod.mk.injEq] at hv; obtain ⟨rfl, rfl⟩ := hv; exact ⟨ρ, w', .skip, hrun, g2, g3, .inr ⟨rfl, rfl⟩⟩
  | range t x =>
    simp only [cop] at hc
    split at hc <;> cases hc
    rename_i kt et xo hu hxo
    simp only [evH] at hv
    split at hv
    · rename_i hx
      simp only [Option.some.injEq, Prod.mk.injEq] at hv; obtain ⟨rfl, rfl⟩ := hv
      have hxr := H x (by simp [Op.operands]) xo _ hxo hx
      generalize hex : e x = ex at hxr
      cases hxr
      obtain ⟨a1, a2⟩ := hR.alloc (ob := .miter none 0 [] 0) (obj := .mapIter none 0 #[] 0) (lim := 0) ⟨none, by simp, rfl, rfl⟩
      exact ⟨_, _, .value (.pointer (some ⟨w.heap.size, 0, none⟩)), by simp [execOp, Instr.range, hex, run_underlying hu], a1, a2, .inl ⟨_, rfl, by simpa using VRel.ptr (off := 0) (Ren.add_same ρ s.next (w.heap.size, 0, 0))⟩⟩
    · rename_i m hx
      cases hs : s.get m with
      | none => simp [hs] at hv
      | some ob =>
        cases ob <;> simp only [hs, reduceCtorEq, Option.some.injEq, Prod.mk.injEq] at hv
        rename_i es clock
        obtain ⟨rfl, rfl⟩ := hv
        have hxr := H x (by simp [Op.operands]) xo _ hxo hx
        generalize hex : e x = ex at hxr
        cases hxr with
        | map hρ =>
          rename_i r o lim
          obtain ⟨es', g1, g2⟩ := hR.mrel hρ hs
          obtain ⟨a1, a2⟩ := hR.alloc (ob := .miter (some m) clock [] clock) (obj := .mapIter (some r) clock #[] clock) (lim := 0) ⟨some r, by simp, ⟨r, o, lim, hρ, rfl⟩, rfl⟩
          exact ⟨_, _, .value (.pointer (some ⟨w.heap.size, 0, none⟩)), by simp [execOp, Instr.range, hex, run_underlying hu, run_getObj_map g1], a1, a2, .inl ⟨_, rfl, by simpa using VRel.ptr (off := 0) (Ren.add_same ρ s.next (w.heap.size, 0, 0))⟩⟩
    · simp at hv
  | call c =>
    simp only [cop] at hc
    split at hc <;> try first | (cases hc; done) | (split at hc <;> cases hc; done)
    rename_i b args hcal hargs
    have hHa : ∀ x ∈ c.args.toList, OpdOK w0 ρ env e x := fun x hx => H x (by simp [Op.operands, Call.operands]; exact .inr (by simpa using hx))
    have hres : ∀ {S : Sem Value} {r : V} {ρ' : Ren} {w' : World} {x : Value}, (∀ cs, builtin b c.argTypes type cs (c.args.map e) = (do pure (.value (← S)))) → S.run P w = .ok x w' → Rel w0 ρ' s' w' → Stp ρ s w ρ' s' w' → VRel w0 ρ' r x →
        Does P w0 ρ s w e { dst, op := .call c, type, pos, after, guard } r s' := fun {S r ρ' w' x} hb h1 h2 h3 h4 => by
      refine ⟨ρ', w', .value x, ?_, h2, h3, .inl ⟨x, rfl, h4⟩⟩
      simp only [execOp, resolve, hcal, Sem.run_bind, Sem.run_pure, Result.andThen_ok, invoke]
      rw [hb]; simp [h1]
    have two : ∀ {p q : Opd}, args = [p, q] → ∃ x y, c.args = #[x, y] ∧ opd x = some p ∧ opd y = some q := fun {p q} hh => by
      subst hh
      obtain ⟨x, xs, ha, hx, hxs⟩ := opds_cons hargs
      obtain ⟨y, ys, hb, hy, hys⟩ := opds_cons hxs
      have : ys = [] := by
        cases ys with
        | nil => rfl
        | cons z zs =>
          simp only [opds] at hys
          split at hys
          · split at hys <;> simp at hys
          · simp at hys
      subst this; subst hb
      exact ⟨x, y, by rw [← Array.toArray_toList (xs := c.args), ha], hx, hy⟩
    rcases cb_h hc with ⟨rfl, t, u, ao, xo, el, sz, bs, z, str, ht, hx, hu, hk, h1, h2, h3, h4, rfl⟩ | ⟨rfl, t, u, ao, xo, el, sz, str, ht, hx, hu, hk, h1, rfl⟩ | ⟨rfl, t, ts', mo, ko, kt, et, kk, ht, hx, hu, hkk, rfl⟩
    · obtain ⟨a, x, hax, hao, hxo⟩ := two hx
      have hA := hHa a (by rw [hax]; simp)
      have hX := hHa x (by rw [hax]; simp)
      have hts : c.argTypes = #[t, u] := by rw [← Array.toArray_toList (xs := c.argTypes), ht]
      simp only [evH] at hv
      split at hv <;> try (simp at hv; done)
      rename_i av xv hav hxv
      obtain ⟨ρ', w', r, g1, g2, g3, g4⟩ := append_sound (P := P) (ty := type) hu hk h1 h2 h3 h4 hv hR (hA ao av hao hav) (hX xo xv hxo hxv)
      exact hres (S := Builtin.append_ #[t, u] type #[e a, e x]) (fun cs => by rw [hts, hax]; simp only [List.map_toArray, List.map_cons, List.map_nil]; rfl) g1 g2 g3 g4
    · obtain ⟨a, x, hax, hao, hxo⟩ := two hx
      have hA := hHa a (by rw [hax]; simp)
      have hX := hHa x (by rw [hax]; simp)
      have hts : c.argTypes = #[t, u] := by rw [← Array.toArray_toList (xs := c.argTypes), ht]
      simp only [evH] at hv
      split at hv <;> try (simp at hv; done)
      rename_i av xv hav hxv
      obtain ⟨w', r, g1, g2, g3, g4⟩ := copy_sound (P := P) (ty := type) (tx := u) hu h1 hv hR (hA ao av hao hav) (hX xo xv hxo hxv)
      exact hres (S := Builtin.copy_ #[t, u] type #[e a, e x]) (fun cs => by rw [hts, hax]; simp only [List.map_toArray, List.map_cons, List.map_nil]; rfl) g1 g2 g3 g4
    · obtain ⟨m, k, hmk, hmo, hko⟩ := two hx
      have hM := hHa m (by rw [hmk]; simp)
      have hK' := hHa k (by rw [hmk]; simp)
      have ht0 : c.argTypes[0]? = some t := by rw [← Array.getElem?_toList, ht]; rfl
      have hK := basicKey_ok hkk
      simp only [evH] at hv
      split at hv
      · rename_i kv hm hk
        cases hp : plainKey kk kv with
        | false => simp [hp] at hv
        | true =>
          simp only [hp, cond_true, Option.some.injEq, Prod.mk.injEq] at hv; obtain ⟨rfl, rfl⟩ := hv
          have hmr := hM mo _ hmo hm
          generalize hex : e m = em at hmr
          cases hmr
          have hc' := checkKey_plain (P := P) hK hp (hK' ko kv hko hk) true 9999 w
          exact hres (S := Builtin.delete_ c.argTypes type #[.map none, e k]) (fun cs => by rw [hmk]; simp only [List.map_toArray, List.map_cons, List.map_nil, hex]; rfl) (x := .tuple #[]) (w' := w)
            (by simp [Builtin.delete_, ht0, run_underlying hu, hc']) hR (.refl _ _ _) (by simpa using VRel.tup_of (w0 := w0) (ρ := ρ) .nil)
      · rename_i mm kv hm hk
        cases hs : s.get mm with
        | none => simp [hs] at hv
        | some ob =>
          cases ob <;> simp only [hs, reduceCtorEq] at hv
          rename_i es clock
          cases hp : plainKey kk kv with
          | false => simp [hp] at hv
          | true =>
            simp only [hp, cond_true] at hv
            have hmr := hM mo _ hmo hm
            have hkr := hK' ko kv hko hk
            generalize hex : e m = em at hmr
            cases hmr with
            | map hρ =>
              rename_i r o lim
              obtain ⟨es', g1, g2⟩ := hR.mrel hρ hs
              have hc' := checkKey_plain (P := P) hK hp hkr es'.isEmpty 9999 w
              have hst : ∀ cs, builtin .delete c.argTypes type cs (c.args.map e) = (do pure (.value (← Builtin.delete_ c.argTypes type #[.map (some r), e k]))) := fun cs => by
                rw [hmk]; simp only [List.map_toArray, List.map_cons, List.map_nil, hex]; rfl
              cases hf : findE kk kv es 0 with
              | none => simp [hf] at hv
              | some res =>
                have hfk := findKey_sound (P := P) hK hkr g2 hf w
                simp only [hf] at hv
                cases res with
                | none =>
                  simp only [Option.some.injEq, Prod.mk.injEq] at hv; obtain ⟨rfl, rfl⟩ := hv
                  simp only at hfk
                  have hsame : ({ w with heap := w.heap.setIfInBounds r (.map es' clock) } : World) = w := by rw [set_same _ _ _ g1]
                  exact hres hst (x := .tuple #[]) (w' := w) (by simp [Builtin.delete_, ht0, run_underlying hu, run_getObj_map g1, hc', hfk, run_setObj_map g1, hsame]) hR (.refl _ _ _) (by simpa using VRel.tup_of (w0 := w0) (ρ := ρ) .nil)
                | some jv =>
                  obtain ⟨j, vv⟩ := jv
                  simp only [Option.some.injEq, Prod.mk.injEq] at hv; obtain ⟨rfl, rfl⟩ := hv
                  obtain ⟨v', q1, _⟩ := hfk
                  obtain ⟨p1, p2⟩ := hR.put_map hρ hs (es1 := eraseME j es) (es1' := es'.eraseIdxIfInBounds j) (c := clock) (by rw [eraseME_eq]; simpa using g2.eraseIdx j)
                  exact hres hst (x := .tuple #[]) (by simp [Builtin.delete_, ht0, run_underlying hu, run_getObj_map g1, hc', q1, run_setObj_map g1]) p1 p2 (by simpa using VRel.tup_of (w0 := w0) (ρ := ρ) .nil)
      · simp at hv
  | move x => simp only [cop] at hc; split at hc <;> cases hc
  | assign x => simp only [cop] at hc; split at hc <;> cases hc
  | pick c a b => simp only [cop] at hc; split at hc <;> cases hc
  | build t parts =>
    simp only [cop] at hc
    split at hc <;> try (cases hc; done)
    split at hc <;> try (cases hc; done)
    split at hc <;> cases hc
  | load t a => simp only [cop] at hc; split at hc <;> cases hc
  | nilCheck x => simp only [cop] at hc; split at hc <;> cases hc
  | binOp op t x y yt => simp only [cop] at hc; split at hc <;> cases hc
  | unOp op t x => simp only [cop] at hc; split at hc <;> cases hc
  | makeInterface t x => simp only [cop] at hc; split at hc <;> cases hc
  | makeFunc fn first captured =>
    cases fn <;> simp only [cop] at hc <;> try (cases hc; done)
    split at hc <;> cases hc
  | slice t x lo hi mx =>
    simp only [cop] at hc
    split at hc <;> try (cases hc; done)
    · split at hc <;> try (cases hc; done)
      unfold cond at hc; split at hc <;> cases hc
    · split at hc <;> cases hc
  | fieldAddr t x f =>
    simp only [cop] at hc
    split at hc <;> try (cases hc; done)
    split at hc <;> try (cases hc; done)
    split at hc <;> cases hc
  | field t x f =>
    simp only [cop] at hc
    split at hc <;> try (cases hc; done)
    split at hc <;> try (cases hc; done)
    split at hc <;> cases hc
  | indexAddr t x i =>
    simp only [cop] at hc
    split at hc <;> try (cases hc; done)
    · split at hc <;> cases hc
    · split at hc <;> cases hc
  | index t x i => simp only [cop] at hc; split at hc <;> cases hc
  | lookup t x i ok =>
    simp only [cop] at hc
    split at hc <;> try (cases hc; done)
    split at hc <;> cases hc
  | extract x i => simp only [cop] at hc; split at hc <;> cases hc
  | typeAssert x xt t ok =>
    cases ok <;> simp only [cop] at hc <;> try (cases hc; done)
    split at hc <;> cases hc
  | next x b => cases b <;> simp only [cop] at hc <;> (try split at hc) <;> cases hc
  | alloc t => simp only [cop] at hc; split at hc <;> cases hc
  | box t x => simp only [cop] at hc; split at hc <;> cases hc
  | makeMap t r => simp only [cop] at hc; split at hc <;> cases hc
  | makeSlice t l c =>
    simp only [cop] at hc
    split at hc <;> try (cases hc; done)
    split at hc <;> try (cases hc; done)
    unfold cond at hc; split at hc <;> cases hc
  | buildSlice t len parts =>
    simp only [cop] at hc
    split at hc <;> try (cases hc; done)
    split at hc <;> try (cases hc; done)
    unfold cond at hc; split at hc <;> try (cases hc; done)
    split at hc <;> cases hc
  | convert src dst x =>
    simp only [cop] at hc
    split at hc <;> try (cases hc; done)
    · unfold cond at hc; split at hc <;> cases hc
    · unfold cond at hc; split at hc <;> cases hc
  | _ => simp [cop] at hc
end
end Go.RE
