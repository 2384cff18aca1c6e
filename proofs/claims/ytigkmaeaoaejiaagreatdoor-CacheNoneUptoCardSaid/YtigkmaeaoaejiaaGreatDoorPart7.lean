/- The operations that neither write nor make memory: all of them. -/
import Derived.Test.YtigkmaeaoaejiaaGreatDoorPart6
set_option linter.unusedVariables false
set_option linter.unusedSimpArgs false
set_option linter.constructorNameAsVariable false
namespace Go.RE
section
variable {E : Ent} {σ : Sg} {Z : Zs} {ω : Om} {s s' : Vs} {e : PT V} {st : St} {n : Nat}
theorem Ok.opds (h : Ok E σ Z ω s e st) : ∀ {xs : List Opd} {us : List U}, evOs s.e xs = some us → ∃ vs, evL e (opdsEr xs) = some vs ∧ us.length = vs.length ∧ ∀ (j : Nat) u v, us[j]? = some u → vs[j]? = some v → TR σ Z ω s.h.length u v := by
  intro xs
  induction xs with
  | nil => intro us h; simp [evOs] at h; subst h; exact ⟨[], rfl, rfl, fun j u v h => by simp at h⟩
  | cons x xs ih =>
    intro us hx
    simp only [evOs] at hx
    cases hq : evO s.e x with
    | none => rw [hq] at hx; simp at hx
    | some u =>
      rw [hq] at hx; simp only at hx
      cases hr : evOs s.e xs with
      | none => rw [hr] at hx; simp at hx
      | some us' =>
        rw [hr] at hx; simp only [Option.some.injEq] at hx; subst hx
        obtain ⟨v, a1, a2⟩ := h.opd hq
        obtain ⟨vs, b1, b2, b3⟩ := ih hr
        refine ⟨v :: vs, by simp only [opdsEr, evL, a1, b1], by simp [b2], fun j p q hp hq => ?_⟩
        cases j with
        | zero => simp at hp hq; subst hp; subst hq; exact a2
        | succ j => simp at hp hq; exact b3 j p q hp hq
theorem fold_tr {f : V → V → Option V} : ∀ {us : List U} {vs : List V} {a r : U} {x : V}, us.length = vs.length → (∀ (j : Nat) u v, us[j]? = some u → vs[j]? = some v → TR σ Z ω n u v) → TR σ Z ω n a x → foldU (liftV2 f) a us = some r →
    ∃ y, foldV f x vs = some y ∧ TR σ Z ω n r y := by
  intro us
  induction us with
  | nil => intro vs a r x hl _ ha h; simp [foldU] at h; subst h; have : vs = [] := List.eq_nil_of_length_eq_zero hl.symm; subst this; exact ⟨x, rfl, ha⟩
  | cons u us ih =>
    intro vs a r x hl hr ha h
    cases vs with
    | nil => simp at hl
    | cons v vs =>
      simp only [foldU] at h
      cases hq : liftV2 f a u with
      | none => rw [hq] at h; simp at h
      | some c =>
        rw [hq] at h
        simp only at h
        unfold liftV2 at hq
        split at hq <;> try (simp at hq; done)
        rename_i p q e1 e2
        obtain ⟨y, y1, y2⟩ := upV_tr (σ := σ) (Z := Z) (n := n) hq
        have hx := toV_tr e1 ha
        have hv := toV_tr e2 (hr 0 u v rfl rfl)
        subst hx; subst hv
        simp only [foldV, y1]
        exact ih (by simpa using hl) (fun j p q hp hq => hr (j + 1) p q (by simpa using hp) (by simpa using hq)) (TR.of_ur y2) h
set_option maxHeartbeats 1000000 in
theorem born_tr {k : Nat} : ∀ {es : List (U × U × Nat)} {es' : List ME} {x : U × U × Nat}, es.length = es'.length → (∀ (j : Nat) e e', es[j]? = some e → es'[j]? = some e' → UR σ Z n e.1 e'.key ∧ UR σ Z n e.2.1 e'.val ∧ e'.born = e.2.2) →
    es.find? (fun e => Nat.beq e.2.2 k) = some x → ∃ x', es'.find? (fun e => Nat.beq e.born k) = some x' ∧ UR σ Z n x.1 x'.key ∧ UR σ Z n x.2.1 x'.val := by
  intro es
  induction es with
  | nil => intro es' x _ _ h; simp at h
  | cons e es ih =>
    intro es' x hl hr h
    cases es' with
    | nil => simp at hl
    | cons e' es' =>
      obtain ⟨r1, r2, r3⟩ := hr 0 e e' rfl rfl
      rw [List.find?_cons] at h ⊢
      rw [r3]
      cases hb : Nat.beq e.2.2 k with
      | true => rw [hb] at h; simp at h; subst h; exact ⟨e', rfl, r1, r2⟩
      | false =>
        rw [hb] at h
        exact ih (by simpa using hl) (fun j a b ha hb => hr (j + 1) a b (by simpa using ha) (by simpa using hb)) h
theorem entry_tr (h : Ok E σ Z ω s e st) {q : Nat} {u : U} (hu : entryU s q = some u) : ∃ v, entryV st (σ q) = some v ∧ UR σ Z s.h.length u v := by
  unfold entryU at hu
  split at hu <;> try (simp at hu; done)
  rename_i m since seen last hq
  split at hu <;> try (simp at hu; done)
  rename_i es clock k hm hk
  obtain ⟨hb, hu⟩ : Nat.beq clock last = true ∧ _ := by
    cases hb : Nat.beq clock last with
    | false => rw [hb] at hu; simp at hu
    | true => rw [hb] at hu; exact ⟨rfl, hu⟩
  simp only [cond_true] at hu
  split at hu <;> simp only [Option.some.injEq, reduceCtorEq] at hu
  rename_i x hx
  subst hu
  obtain ⟨g1, g2⟩ := h.obj q _ hq
  obtain ⟨es', m1, m2, m3⟩ := h.obj m _ hm
  obtain ⟨x', f1, f2, f3⟩ := born_tr m2 m3 hx
  refine ⟨.tup [x'.key, x'.val], ?_, UR.tup rfl (LU.cons f2 (LU.cons f3 .nil)).2⟩
  unfold entryV
  simp only [g1, Option.map_some, m1, hk, hb, cond_true, f1]
theorem opS_sound {d : Nat} {o : SOp} {u : U} (h : opS d s o = some (u, s')) (hk : Ok E σ Z ω s e st) :
    ∃ Z' ω' v, evS e st o.er = some v ∧ Ok E σ Z' ω' s' e st ∧ TR σ Z' ω' s'.h.length u v ∧ s'.h.length = s.h.length ∧ ∀ b r, Z b = some r → Z' b = some r := by
  have same : ∀ {v}, evS e st o.er = some v → TR σ Z ω s.h.length u v → s' = s → ∃ Z' ω' v, evS e st o.er = some v ∧ Ok E σ Z' ω' s' e st ∧ TR σ Z' ω' s'.h.length u v ∧ s'.h.length = s.h.length ∧ ∀ b r, Z b = some r → Z' b = some r :=
    fun {v} h1 h2 h3 => by subst h3; exact ⟨Z, ω, v, h1, hk, h2, rfl, fun _ _ h => h⟩
  cases o with
  | mov x =>
    simp only [opS] at h
    split at h
    · rename_i w xs hx
      simp only [Option.some.injEq, Prod.mk.injEq] at h
      obtain ⟨rfl, rfl⟩ := h
      obtain ⟨v, h1, h2⟩ := hk.opd hx
      have h3 := h2.1
      unfold OR at h3
      rw [hk.wr] at h3
      obtain ⟨rfl, h4⟩ := h3
      obtain ⟨ω', k1, k2, _⟩ := hk.ownNil d
      exact ⟨Z, ω', v, h1, k1, TR.empty k2 h4, rfl, fun _ _ h => h⟩
    · rename_i u' hno hx
      simp only [Option.some.injEq, Prod.mk.injEq] at h
      obtain ⟨rfl, rfl⟩ := h
      obtain ⟨v, h1, h2⟩ := hk.opd hx
      exact same h1 h2 rfl
    · simp at h
  | pick c a b =>
    simp only [opS] at h
    split at h
    · rename_i hc
      split at h <;> simp only [Option.some.injEq, Prod.mk.injEq, reduceCtorEq] at h
      rename_i hx
      obtain ⟨rfl, rfl⟩ := h
      obtain ⟨vc, c1, c2⟩ := hk.opd hc
      obtain ⟨v, h1, h2⟩ := hk.opd hx
      obtain rfl := TR.bool c2
      exact same (by simp only [SOp.er, evS, c1, h1]) h2 rfl
    · rename_i hc
      split at h <;> simp only [Option.some.injEq, Prod.mk.injEq, reduceCtorEq] at h
      rename_i hx
      obtain ⟨rfl, rfl⟩ := h
      obtain ⟨vc, c1, c2⟩ := hk.opd hc
      obtain ⟨v, h1, h2⟩ := hk.opd hx
      obtain rfl := TR.bool c2
      exact same (by simp only [SOp.er, evS, c1, h1]) h2 rfl
    · simp at h
  | load k x =>
    simp only [opS] at h
    split at h
    · rename_i i off hx
      split at h <;> try (simp at h; done)
      rename_i cs hi
      split at h <;> simp only [Option.some.injEq, Prod.mk.injEq, reduceCtorEq] at h
      rename_i v0 hl
      obtain ⟨rfl, rfl⟩ := h
      obtain ⟨v, h1, h2⟩ := hk.opd hx
      obtain ⟨_, rfl⟩ := TR.ptr h2
      obtain ⟨cs', y, y1, y2, y3⟩ := loadO_tr hk hi hl
      exact same (by simp only [SOp.er, evS, h1, y1, y2]) y3 rfl
    · rename_i row off hx
      split at h <;> simp only [Option.some.injEq, Prod.mk.injEq, reduceCtorEq] at h
      rename_i v0 hl
      obtain ⟨rfl, rfl⟩ := h
      obtain ⟨v, h1, h2⟩ := hk.opd hx
      have up : ∀ {y}, UR σ Z 0 v0 y → TR σ Z ω s.h.length v0 y := fun hh => TR.of_ur (hh.mono (Nat.zero_le _) (fun _ _ => rfl) (fun _ _ h => h))
      cases h2 with
      | cptrZ hz hr hv =>
        obtain ⟨y, y1, y2⟩ := load_lu ⟨by simp; omega, hv⟩ hl
        exact same (by simp only [SOp.er, evS, h1, row_get (hk.zok _ _ hz)]; exact loadRow_window hr y1) (up y2) rfl
      | cptrC hr hv =>
        obtain ⟨y, y1, y2⟩ := load_lu ⟨by simp; omega, hv⟩ hl
        exact same (by simp only [SOp.er, evS, h1]; exact loadRow_window hr y1) (up y2) rfl
    · rename_i g i f hx
      split at h <;> try (simp at h; done)
      rename_i w xs hc
      split at h <;> try (simp at h; done)
      rename_i r hr
      split at h <;> simp only [Option.some.injEq, Prod.mk.injEq, reduceCtorEq] at h
      rename_i v0 hl
      obtain ⟨rfl, rfl⟩ := h
      obtain ⟨v, h1, ⟨I, hg, rfl⟩, _⟩ := hk.opd hx
      obtain ⟨vo, hor⟩ := ownC_or hk hc
      unfold OR at hor
      rw [hg] at hor
      obtain ⟨rfl, e0, e1, e2, e3, e4⟩ := hor
      obtain ⟨f1, f2⟩ := flat_row e3 hr
      have hlen : r.length = w := e3 r (List.mem_of_getElem? hr)
      have hlu : LU σ Z 0 r ((I.row.drop (I.off + i * w)).take w) := by
        have hle : i * w + w ≤ xs.length * w := by rw [flat_len e3] at f1; exact f1
        have := lu_window (i := i * w) (k := i * w + w) e4 hle
        rw [Nat.add_sub_cancel_left, List.drop_take, Nat.add_sub_cancel_left] at this
        rw [← f2]; exact this
      have hle : i * w + w ≤ xs.length * w := by rw [flat_len e3] at f1; exact f1
      have hcap : xs.length * w ≤ I.cap * w := Nat.mul_le_mul_right _ e1
      obtain ⟨y, y1, y2⟩ := load_lu hlu hl
      refine same (v := y) ?_ (TR.of_ur (y2.mono (Nat.zero_le _) (fun _ _ => rfl) (fun _ _ h => h))) rfl
      simp only [SOp.er, evS, h1, row_get (hk.wok g I hg), e0.1]
      exact loadRow_window (by omega) y1
    · simp at h
  | nilCheck x =>
    simp only [opS] at h
    split at h <;> simp only [Option.some.injEq, Prod.mk.injEq, reduceCtorEq] at h
    all_goals
      rename_i hx
      obtain ⟨rfl, rfl⟩ := h
      obtain ⟨v, h1, h2⟩ := hk.opd hx
      refine same (v := v) ?_ h2 rfl
      simp only [SOp.er, evS, h1]
    · obtain ⟨_, rfl⟩ := TR.ptr h2; rfl
    · cases h2 <;> rfl
    · obtain ⟨⟨I, _, rfl⟩, _⟩ := h2; rfl
    · obtain ⟨a, b, rfl, _⟩ := TR.func h2; rfl
    · obtain ⟨a, rfl, _⟩ := TR.iface h2; rfl
  | bin op ek x y =>
    simp only [opS] at h
    split at h <;> try (simp at h; done)
    rename_i a b ha hb
    split at h <;> simp only [Option.some.injEq, Prod.mk.injEq, reduceCtorEq] at h
    rename_i u' hr
    obtain ⟨rfl, rfl⟩ := h
    obtain ⟨va, a1, a2⟩ := hk.opd ha
    obtain ⟨vb, b1, b2⟩ := hk.opd hb
    unfold binU at hr
    split at hr
    · obtain rfl := TR.int a2
      obtain rfl := TR.int b2
      obtain ⟨r, r1, r2⟩ := upV_tr (σ := σ) (Z := Z) (n := s.h.length) hr
      exact same (by simp only [SOp.er, evS, a1, b1, r1]) (TR.of_ur r2) rfl
    · obtain rfl := TR.str a2
      obtain rfl := TR.str b2
      obtain ⟨r, r1, r2⟩ := upV_tr (σ := σ) (Z := Z) (n := s.h.length) hr
      refine same (v := r) ?_ (TR.of_ur r2) rfl
      simp only [SOp.er, evS, a1, b1]
      cases op <;> first | exact r1 | (simp [strBin] at r1)
    · rename_i n1 n2
      have key : ∀ {c : Bool}, eqU ek a b = some c → ∀ neg : Bool, (op = .eql ∧ neg = false ∨ op = .neq ∧ neg = true) → binV op ek va vb = some (.bool (if neg then !c else c)) := by
        intro c hc neg hop
        have hq := eq_tr hc a2 b2
        have hni : ∀ k x j y, ¬ (va = .int k x ∧ vb = .int j y) := fun k x j y hh => by
          obtain ⟨rfl, rfl⟩ := hh
          cases ek <;> simp [eqV] at hq
        have hns : ∀ x y, ¬ (va = .str x ∧ vb = .str y) := fun x y hh => by
          obtain ⟨rfl, rfl⟩ := hh
          cases ek <;> simp [eqV] at hq
        rcases hop with ⟨rfl, rfl⟩ | ⟨rfl, rfl⟩
        all_goals
          unfold binV
          split
          all_goals first
            | (exact absurd ⟨rfl, rfl⟩ (hni _ _ _ _))
            | (exact absurd ⟨rfl, rfl⟩ (hns _ _))
            | (rw [hq]; rfl)
            | simp_all
      split at hr
      · split at hr <;> simp only [Option.some.injEq, reduceCtorEq] at hr
        rename_i c hc
        subst hr
        have := key hc false (.inl ⟨rfl, rfl⟩)
        exact same (by simp only [SOp.er, evS, a1, b1]; exact this) (TR.of_ur (.bool _)) rfl
      · split at hr <;> simp only [Option.some.injEq, reduceCtorEq] at hr
        rename_i c hc
        subst hr
        have := key hc true (.inr ⟨rfl, rfl⟩)
        exact same (by simp only [SOp.er, evS, a1, b1]; exact this) (TR.of_ur (.bool _)) rfl
      · simp at hr
  | un op x =>
    simp only [opS] at h
    split at h <;> try (simp at h; done)
    rename_i a ha
    split at h <;> simp only [Option.some.injEq, Prod.mk.injEq, reduceCtorEq] at h
    rename_i u' hr
    obtain ⟨rfl, rfl⟩ := h
    obtain ⟨va, a1, a2⟩ := hk.opd ha
    unfold unU at hr
    split at hr <;> try (simp at hr; done)
    rename_i p e1
    obtain rfl := toV_tr e1 a2
    obtain ⟨y, y1, y2⟩ := upV_tr (σ := σ) (Z := Z) (n := s.h.length) hr
    exact same (by simp only [SOp.er, evS, a1, y1]) (TR.of_ur y2) rfl
  | convInt k x =>
    simp only [opS] at h
    split at h <;> simp only [Option.some.injEq, Prod.mk.injEq, reduceCtorEq] at h
    rename_i kk m hx
    obtain ⟨rfl, rfl⟩ := h
    obtain ⟨v, h1, h2⟩ := hk.opd hx
    obtain rfl := TR.int h2
    exact same (by simp only [SOp.er, evS, h1]) (TR.of_ur (.int _ _)) rfl
  | convId x =>
    simp only [opS] at h
    split at h <;> simp only [Option.some.injEq, Prod.mk.injEq, reduceCtorEq] at h
    rename_i b hx
    obtain ⟨rfl, rfl⟩ := h
    obtain ⟨v, h1, h2⟩ := hk.opd hx
    obtain rfl := TR.str h2
    exact same (by simp only [SOp.er, evS, h1]) (TR.of_ur (.str _)) rfl
  | toStr x =>
    simp only [opS] at h
    split at h <;> try (simp at h; done)
    rename_i a ha
    split at h <;> try (simp at h; done)
    rename_i xs hxs
    split at h <;> simp only [Option.some.injEq, Prod.mk.injEq, reduceCtorEq] at h
    rename_i bs hbs
    obtain ⟨rfl, rfl⟩ := h
    obtain ⟨v, h1, h2⟩ := hk.opd ha
    obtain ⟨cs, c1, c2, _⟩ := rows_cells hk hxs h2
    exact same (by simp only [SOp.er, evS, h1, c1, unbytes_cells hbs c2]) (TR.of_ur (.str _)) rfl
  | mkIface t x =>
    simp only [opS] at h
    split at h <;> simp only [Option.some.injEq, Prod.mk.injEq, reduceCtorEq] at h
    rename_i u' s1 hx
    obtain ⟨rfl, rfl⟩ := h
    obtain ⟨Z', ω', v, a1, a2, a3, a4, a5⟩ := hk.escO hx
    exact ⟨Z', ω', .iface t v, by simp only [SOp.er, evS, a1], a2, by rw [a4]; exact TR.of_ur (.iface a3), a4, a5⟩
  | mkFunc f a b =>
    simp only [opS] at h
    split at h <;> try (simp at h; done)
    rename_i us s1 hx
    split at h <;> simp only [Option.some.injEq, Prod.mk.injEq, reduceCtorEq] at h
    rename_i ws s2 hy
    obtain ⟨rfl, rfl⟩ := h
    obtain ⟨Z1, ω1, v1, a1, a2, a3, a4, a5⟩ := hk.escOs hx
    obtain ⟨Z2, ω2, v2, b1, b2, b3, b4, b5⟩ := a2.escOs hy
    have a3' := a3.mono (Nat.le_refl _) (σ' := σ) (fun _ _ => rfl) b5
    rw [a4] at b3
    exact ⟨Z2, ω2, .func f v1 v2, by simp only [SOp.er, evS, a1, b1], b2, by rw [b4, a4]; exact TR.of_ur (.func a3'.1 b3.1 a3'.2 b3.2), by omega, fun b r hb => b5 b r (a5 b r hb)⟩
  | build z p =>
    simp only [opS] at h
    cases hz : (V.toUs z).all U.cellok with
    | false => rw [hz] at h; simp at h
    | true =>
      rw [hz] at h
      simp only [cond_true] at h
      split at h <;> simp only [Option.some.injEq, Prod.mk.injEq, reduceCtorEq] at h
      rename_i cs s1 hf
      obtain ⟨rfl, rfl⟩ := h
      obtain ⟨Z1, ω1, ws, a1, a2, a3, a4, a5⟩ := hk.fill (consts_lu z hz) hf
      exact ⟨Z1, ω1, .agg ws, by simp only [SOp.er, evS, a1], a2, by rw [a4]; exact TR.of_ur (.agg a3.1 a3.2), a4, a5⟩
  | sliceStr x lo hi =>
    simp only [opS] at h
    split at h <;> try (simp at h; done)
    rename_i b hx
    split at h <;> try (simp at h; done)
    rename_i hh n2
    split at h <;> simp only [Option.some.injEq, Prod.mk.injEq, reduceCtorEq] at h
    rename_i l n1
    obtain ⟨rfl, rfl⟩ := h
    obtain ⟨v, h1, h2⟩ := hk.opd hx
    obtain rfl := TR.str h2
    exact same (by simp only [SOp.er, evS, h1, hk.optNat n2, hk.optNat n1]) (TR.of_ur (.str _)) rfl
  | slice w x lo hi mx =>
    simp only [opS] at h
    split at h <;> try (simp at h; done)
    rename_i a ha
    obtain ⟨v, h1, h2⟩ := hk.opd ha
    exact slice_sound hk h1 h2 h
  | sliceArr len w x lo hi =>
    simp only [opS] at h
    split at h <;> try (simp at h; done)
    rename_i i off hx
    split at h <;> try (simp at h; done)
    rename_i hh n2
    split at h <;> try (simp at h; done)
    rename_i l n1
    split at h <;> try (simp at h; done)
    rename_i cs hi'
    cases hb : Nat.ble (off + len * w) cs.length with
    | false => rw [hb] at h; simp at h
    | true =>
      rw [hb] at h
      simp only [cond_true, Option.some.injEq, Prod.mk.injEq] at h
      obtain ⟨rfl, rfl⟩ := h
      obtain ⟨v, h1, h2⟩ := hk.opd hx
      obtain ⟨hlt, rfl⟩ := TR.ptr h2
      obtain ⟨cs', g1, g2, g3⟩ := hk.obj i _ hi'
      have q2 := hk.optNat n2
      have q1 := hk.optNat n1
      have b2 : hh ≤ len := optNat_le (Nat.le_refl _) q2
      rw [g2] at hb
      refine same (v := .slice (σ i) (off + l * w) (hh - l) (len - l) w true) ?_ ⟨hlt, _, by omega, rfl⟩ rfl
      simp only [SOp.er, evS, h1, q2, q1, row_get g1, hb, cond_true]
  | fieldAddr off x =>
    simp only [opS] at h
    split at h <;> simp only [Option.some.injEq, Prod.mk.injEq, reduceCtorEq] at h
    · rename_i i o hx
      obtain ⟨rfl, rfl⟩ := h
      obtain ⟨v, h1, h2⟩ := hk.opd hx
      obtain ⟨hlt, rfl⟩ := TR.ptr h2
      exact same (by simp only [SOp.er, evS, h1]) (TR.of_ur (.ptr hlt)) rfl
    · rename_i row o hx
      obtain ⟨rfl, rfl⟩ := h
      obtain ⟨v, h1, h2⟩ := hk.opd hx
      cases h2 with
      | cptrZ hz hr hv => exact same (by simp only [SOp.er, evS, h1, Nat.add_assoc]) (TR.of_ur (.cptrZ hz hr hv)) rfl
      | cptrC hr hv => exact same (by simp only [SOp.er, evS, h1, Nat.add_assoc]) (TR.of_ur (.cptrC hr hv)) rfl
    · rename_i g i o hx
      obtain ⟨rfl, rfl⟩ := h
      obtain ⟨v, h1, ⟨I, hg, rfl⟩, h3⟩ := hk.opd hx
      exact same (by simp only [SOp.er, evS, h1]; rfl) ⟨⟨I, hg, by rw [Nat.add_assoc]⟩, h3⟩ rfl
  | field off k x =>
    simp only [opS] at h
    split at h <;> try (simp at h; done)
    rename_i cs hx
    split at h <;> simp only [Option.some.injEq, Prod.mk.injEq, reduceCtorEq] at h
    rename_i v0 hl
    obtain ⟨rfl, rfl⟩ := h
    obtain ⟨v, h1, h2⟩ := hk.opd hx
    obtain ⟨cs', rfl, h3⟩ := TR.agg h2
    obtain ⟨y, y1, y2⟩ := load_lu h3 hl
    exact same (by simp only [SOp.er, evS, h1, y1]) (TR.of_ur y2) rfl
  | indexAddr w x i =>
    simp only [opS] at h
    split at h
    · rename_i w' xs k m hx hi
      split at h <;> try (simp at h; done)
      rename_i hm
      split at h <;> try (simp at h; done)
      rename_i r hr
      cases hb : Nat.beq w' w with
      | false => rw [hb] at h; simp at h
      | true =>
        have hww : w' = w := Nat.eq_of_beq_eq_true hb
        subst hww
        rw [hb] at h
        simp only [cond_true, Option.some.injEq, Prod.mk.injEq] at h
        obtain ⟨rfl, rfl⟩ := h
        obtain ⟨v, h1, h2⟩ := hk.opd hx
        obtain ⟨vi, i1, i2⟩ := hk.opd hi
        obtain rfl := TR.int i2
        have hlt : m.toNat < xs.length := (List.getElem?_eq_some_iff.1 hr).1
        have hlt' : m < (xs.length : Int) := by omega
        have hmem := List.mem_of_getElem? hr
        cases h2 with
        | slnil => simp at hlt
        | slz => simp at hlt
        | slZ hn hz hl hcap hro hv =>
          subst hn
          obtain ⟨f1, f2⟩ := flat_row hl hr
          have hle : m.toNat * w' + w' ≤ xs.length * w' := by rw [flat_len hl] at f1; exact f1
          refine same (by simp only [SOp.er, evS, h1, i1, hm, hlt', and_self, if_true, Nat.beq_refl, cond_true]; rfl) (TR.of_ur (.cptrZ (o := _) (off := 0) hz ?_ ?_)) rfl
          · rw [hl r hmem]; show (_ + m.toNat * w') + w' ≤ _; omega
          · rw [hl r hmem]
            intro j u v hu hv'
            rw [← f2] at hu
            rename_i off _ _ row'
            have hlu : LU σ Z 0 xs.flatten ((row'.drop off).take (xs.length * w')) := ⟨by rw [flat_len hl]; simp; omega, hv⟩
            have := lu_window (i := m.toNat * w') (k := m.toNat * w' + w') hlu hle
            rw [Nat.add_sub_cancel_left, List.drop_take, Nat.add_sub_cancel_left] at this
            exact this.2 j u v hu hv'
        | slC hn hl hro hv =>
          subst hn
          obtain ⟨f1, f2⟩ := flat_row hl hr
          have hle : m.toNat * w' + w' ≤ xs.length * w' := by rw [flat_len hl] at f1; exact f1
          refine same (by simp only [SOp.er, evS, h1, i1, hm, hlt', and_self, if_true, Nat.beq_refl, cond_true]; rfl) (TR.of_ur (.cptrC (o := _) (off := 0) ?_ ?_)) rfl
          · rw [hl r hmem]; show (_ + m.toNat * w') + w' ≤ _; omega
          · rw [hl r hmem]
            intro j u v hu hv'
            rw [← f2] at hu
            rename_i off row'
            have hlu : LU σ Z 0 xs.flatten ((row'.drop off).take (xs.length * w')) := ⟨by rw [flat_len hl]; simp; omega, hv⟩
            have := lu_window (i := m.toNat * w') (k := m.toNat * w' + w') hlu hle
            rw [Nat.add_sub_cancel_left, List.drop_take, Nat.add_sub_cancel_left] at this
            exact this.2 j u v hu hv'
    · rename_i g w' xs k m hx hi
      split at h <;> try (simp at h; done)
      rename_i hm
      cases hb : Nat.beq w' w with
      | false => rw [hb] at h; simp at h
      | true =>
        have hww : w' = w := Nat.eq_of_beq_eq_true hb
        subst hww
        rw [hb] at h
        simp only [cond_true, Option.some.injEq, Prod.mk.injEq] at h
        obtain ⟨rfl, rfl⟩ := h
        obtain ⟨v, h1, h2, h2c⟩ := hk.opd hx
        obtain ⟨vi, i1, i2⟩ := hk.opd hi
        obtain rfl := TR.int i2
        unfold OR at h2
        split at h2
        · obtain ⟨rfl, _⟩ := h2
          exfalso; have := hm.2; simp at this; omega
        · rename_i I hg
          obtain ⟨rfl, e0, _⟩ := h2
          exact same (by simp only [SOp.er, evS, h1, i1, hm, and_self, if_true, Nat.beq_refl, cond_true]; rfl) ⟨⟨I, hg, by rw [e0.1]; rfl⟩, h2c⟩ rfl
    · rename_i j off len w' k m hx hi
      split at h <;> try (simp at h; done)
      rename_i hm
      cases hb : Nat.beq w' w with
      | false => rw [hb] at h; simp at h
      | true =>
        have hww : w' = w := Nat.eq_of_beq_eq_true hb
        subst hww
        rw [hb] at h
        simp only [cond_true, Option.some.injEq, Prod.mk.injEq] at h
        obtain ⟨rfl, rfl⟩ := h
        obtain ⟨v, h1, hlt, cap, _, rfl⟩ := hk.opd hx
        obtain ⟨vi, i1, i2⟩ := hk.opd hi
        obtain rfl := TR.int i2
        exact same (by simp only [SOp.er, evS, h1, i1, hm, and_self, if_true, Nat.beq_refl, cond_true]) (TR.of_ur (.ptr hlt)) rfl
    · simp at h
  | indexArr len w x i =>
    simp only [opS] at h
    split at h
    · rename_i j off k m hx hi
      split at h <;> simp only [Option.some.injEq, Prod.mk.injEq, reduceCtorEq] at h
      rename_i hm
      obtain ⟨rfl, rfl⟩ := h
      obtain ⟨v, h1, h2⟩ := hk.opd hx
      obtain ⟨hlt, rfl⟩ := TR.ptr h2
      obtain ⟨vi, i1, i2⟩ := hk.opd hi
      obtain rfl := TR.int i2
      exact same (by simp only [SOp.er, evS, h1, i1, hm, and_self, if_true]) (TR.of_ur (.ptr hlt)) rfl
    · rename_i row off k m hx hi
      split at h <;> simp only [Option.some.injEq, Prod.mk.injEq, reduceCtorEq] at h
      rename_i hm
      obtain ⟨rfl, rfl⟩ := h
      obtain ⟨v, h1, h2⟩ := hk.opd hx
      obtain ⟨vi, i1, i2⟩ := hk.opd hi
      obtain rfl := TR.int i2
      cases h2 with
      | cptrZ hz hr hv => exact same (by simp only [SOp.er, evS, h1, i1, hm, and_self, if_true, Nat.add_assoc]) (TR.of_ur (.cptrZ hz hr hv)) rfl
      | cptrC hr hv => exact same (by simp only [SOp.er, evS, h1, i1, hm, and_self, if_true, Nat.add_assoc]) (TR.of_ur (.cptrC hr hv)) rfl
    · simp at h
  | index x i =>
    simp only [opS] at h
    split at h <;> try (simp at h; done)
    rename_i b k m hx hi
    split at h <;> try (simp at h; done)
    rename_i hm
    split at h <;> simp only [Option.some.injEq, Prod.mk.injEq, reduceCtorEq] at h
    rename_i c hc
    obtain ⟨rfl, rfl⟩ := h
    obtain ⟨v, h1, h2⟩ := hk.opd hx
    obtain rfl := TR.str h2
    obtain ⟨vi, i1, i2⟩ := hk.opd hi
    obtain rfl := TR.int i2
    exact same (by simp only [SOp.er, evS, h1, i1, hm, if_true, hc]) (TR.of_ur (.int _ _)) rfl
  | lookup kk z ok x i =>
    simp only [opS] at h
    split at h <;> try (simp at h; done)
    rename_i z0 m k hz hm hkk
    split at h <;> simp only [Option.some.injEq, Prod.mk.injEq, reduceCtorEq] at h
    rename_i v0 hl
    obtain ⟨rfl, rfl⟩ := h
    obtain ⟨vm, m1, m2⟩ := hk.opd hm
    obtain ⟨vk, k1, k2⟩ := hk.opd hkk
    obtain ⟨y, y1, y2⟩ := lookup_tr hk (toP_ur hz) m2 k2 hl
    exact same (by simp only [SOp.er, evS, m1, k1, y1]) (TR.of_ur y2) rfl
  | extract i x =>
    simp only [opS] at h
    split at h <;> try (simp at h; done)
    rename_i vs hx
    split at h <;> simp only [Option.some.injEq, Prod.mk.injEq, reduceCtorEq] at h
    rename_i v0 hv
    obtain ⟨rfl, rfl⟩ := h
    obtain ⟨v, h1, h2⟩ := hk.opd hx
    obtain ⟨vs', rfl, h3⟩ := TR.tup h2
    obtain ⟨y, y1, y2⟩ := h3.get hv
    exact same (by simp only [SOp.er, evS, h1, y1]) (TR.of_ur y2) rfl
  | len k x =>
    simp only [opS] at h
    split at h <;> try (simp at h; done)
    rename_i a ha
    split at h <;> simp only [Option.some.injEq, Prod.mk.injEq, reduceCtorEq] at h
    rename_i m hl
    obtain ⟨rfl, rfl⟩ := h
    obtain ⟨v, h1, h2⟩ := hk.opd ha
    have hlen : lenK st k v = some m := by
      unfold lenU at hl
      split at hl
      · obtain rfl := TR.str h2; exact hl
      · rename_i w xs
        cases hb : Nat.beq k 1 with
        | false => rw [hb] at hl; simp at hl
        | true =>
          rw [hb] at hl; simp at hl; subst hl
          cases h2 with
          | slnil => simp [lenK, hb]
          | slz => simp [lenK, hb]
          | slZ hn => simp [lenK, hb, hn]
          | slC hn => simp [lenK, hb, hn]
      · rename_i w
        cases hb : Nat.beq k 1 with
        | false => rw [hb] at hl; simp at hl
        | true =>
          rw [hb] at hl; simp at hl; subst hl
          have h2 : UR σ Z s.h.length (.nl w) v := h2
          cases h2 with
          | nl1 => simp [lenK, hb]
          | nl2 => simp [lenK, hb]
      · rename_i g w xs
        cases hb : Nat.beq k 1 with
        | false => rw [hb] at hl; simp at hl
        | true =>
          rw [hb] at hl; simp at hl; subst hl
          obtain ⟨h2, _⟩ := h2
          unfold OR at h2
          split at h2
          · obtain ⟨rfl, rfl | rfl⟩ := h2 <;> simp [lenK, hb]
          · obtain ⟨rfl, _⟩ := h2; simp [lenK, hb]
      · rename_i i o len w
        cases hb : Nat.beq k 1 with
        | false => rw [hb] at hl; simp at hl
        | true =>
          rw [hb] at hl; simp at hl; subst hl
          obtain ⟨_, cap, _, rfl⟩ := h2
          simp [lenK, hb]
      · obtain rfl := TR.nilm h2; exact hl
      · rename_i i
        obtain ⟨hlt, rfl⟩ := TR.map h2
        cases hb : Nat.beq k 2 with
        | false => rw [hb] at hl; simp at hl
        | true =>
          rw [hb] at hl
          simp only [cond_true] at hl
          split at hl <;> simp only [Option.some.injEq, reduceCtorEq] at hl
          rename_i es c hes
          obtain ⟨es', g1, g2, g3⟩ := map_get hk hes
          simp [lenK, hb, g1, ← g2, hl]
      · simp at hl
    exact same (by simp only [SOp.er, evS, h1, hlen]) (TR.of_ur (.int _ _)) rfl
  | cap x => simp [opS] at h
  | entry x =>
    simp only [opS] at h
    split at h <;> try (simp at h; done)
    rename_i q hx
    split at h <;> simp only [Option.some.injEq, Prod.mk.injEq, reduceCtorEq] at h
    rename_i v0 hv0
    obtain ⟨rfl, rfl⟩ := h
    obtain ⟨vx, x1, x2⟩ := hk.opd hx
    obtain ⟨hlt, rfl⟩ := TR.ptr x2
    obtain ⟨v, k1, k2⟩ := entry_tr hk hv0
    exact same (v := v) (by simp only [SOp.er, evS, x1]; exact k1) (TR.of_ur k2) rfl
  | max xs =>
    simp only [opS] at h
    split at h <;> try (simp at h; done)
    rename_i a us hx
    split at h <;> simp only [Option.some.injEq, Prod.mk.injEq, reduceCtorEq] at h
    rename_i v0 hf
    obtain ⟨rfl, rfl⟩ := h
    obtain ⟨vs, h1, h2, h3⟩ := hk.opds hx
    cases vs with
    | nil => simp at h2
    | cons x vs =>
      obtain ⟨y, y1, y2⟩ := fold_tr (us := us) (vs := vs) (by simpa using h2) (fun j p q hp hq => h3 (j + 1) p q (by simpa using hp) (by simpa using hq)) (h3 0 a x rfl rfl) hf
      exact same (by simp only [SOp.er, evS, h1, y1]) y2 rfl
  | min xs =>
    simp only [opS] at h
    split at h <;> try (simp at h; done)
    rename_i a us hx
    split at h <;> simp only [Option.some.injEq, Prod.mk.injEq, reduceCtorEq] at h
    rename_i v0 hf
    obtain ⟨rfl, rfl⟩ := h
    obtain ⟨vs, h1, h2, h3⟩ := hk.opds hx
    cases vs with
    | nil => simp at h2
    | cons x vs =>
      obtain ⟨y, y1, y2⟩ := fold_tr (us := us) (vs := vs) (by simpa using h2) (fun j p q hp hq => h3 (j + 1) p q (by simpa using hp) (by simpa using hq)) (h3 0 a x rfl rfl) hf
      exact same (by simp only [SOp.er, evS, h1, y1]) y2 rfl
  | assertTo t z x =>
    simp only [opS] at h
    split at h
    · rename_i z0 hz hx
      simp only [Option.some.injEq, Prod.mk.injEq] at h
      obtain ⟨rfl, rfl⟩ := h
      obtain ⟨v, h1, h2⟩ := hk.opd hx
      obtain rfl := TR.nili h2
      exact same (by simp only [SOp.er, evS, h1]) (TR.of_ur (.tup rfl (LU.cons (toP_ur hz) (LU.cons (.bool _) .nil)).2)) rfl
    · rename_i z0 u1 v1 hz hx
      simp only [Option.some.injEq, Prod.mk.injEq] at h
      obtain ⟨rfl, rfl⟩ := h
      obtain ⟨v, h1, h2⟩ := hk.opd hx
      obtain ⟨v', rfl, h3⟩ := TR.iface h2
      refine same (by simp only [SOp.er, evS, h1]; rfl) ?_ rfl
      by_cases hq : u1 = t
      · rw [if_pos hq, if_pos hq]; exact TR.of_ur (.tup rfl (LU.cons h3 (LU.cons (.bool _) .nil)).2)
      · rw [if_neg hq, if_neg hq]; exact TR.of_ur (.tup rfl (LU.cons (toP_ur hz) (LU.cons (.bool _) .nil)).2)
    · simp at h
end
end Go.RE
namespace Go.RE
section
variable {E : Ent} {σ : Sg} {Z : Zs} {ω : Om} {s s' : Vs} {e : PT V} {st : St} {n : Nat}
theorem Ok.lt_next (h : Ok E σ Z ω s e st) {b : Nat} {o : Ob} (hb : st.get b = some o) : b < st.next := by
  refine Nat.lt_of_not_le fun hle => ?_
  rw [h.fresh b hle] at hb; cases hb
theorem Ok.mem (h : Ok E σ Z ω s e st) {st' : St} (hn : st.next ≤ st'.next) (hf : ∀ b, st'.next ≤ b → st'.get b = none)
    (hg : ∀ b, ((∃ i, i < s.h.length ∧ σ i = b) ∨ (∃ r, Z b = some r) ∨ (∃ g I, ω g = some I ∧ I.b = b) ∨ (b < E.st.next ∧ ¬ E.I b)) → st'.get b = st.get b) : Ok E σ Z ω s e st' := by
  refine ⟨h.env, fun i o ho => ?_, fun b r hb => ?_, fun g I hI => ?_, hf, h.inj, h.winj, h.sw, h.sz, h.wz, fun i hi => Nat.lt_of_lt_of_le (h.sb i hi) hn, h.wr, h.wc, h.n0, h.sig, h.zz, Nat.le_trans h.nx hn, fun b hb hbI => ?_, fun i hi => ?_⟩
  · rw [hg _ (.inl ⟨i, (List.getElem?_eq_some_iff.1 ho).1, rfl⟩)]; exact h.obj i o ho
  · rw [hg b (.inr (.inl ⟨r, hb⟩))]; exact h.zok b r hb
  · rw [hg _ (.inr (.inr (.inl ⟨g, I, hI, rfl⟩)))]; exact h.wok g I hI
  · obtain ⟨k1, k2, k3, k4⟩ := h.out b hb hbI
    exact ⟨by rw [hg b (.inr (.inr (.inr ⟨hb, hbI⟩))), k1], k2, k3, k4⟩
  · obtain ⟨k1, k2, k3⟩ := h.gn i hi
    exact ⟨k1, k2, by rw [hg _ (.inl ⟨i, (List.getElem?_eq_some_iff.1 k2).1, rfl⟩)]; exact k3⟩
theorem Ok.told_lt (h : Ok E σ Z ω s e st) {b : Nat} (hb : (∃ i, i < s.h.length ∧ σ i = b) ∨ (∃ r, Z b = some r) ∨ (∃ g I, ω g = some I ∧ I.b = b) ∨ (b < E.st.next ∧ ¬ E.I b)) : b < st.next := by
  rcases hb with ⟨i, hi, rfl⟩ | ⟨r, hr⟩ | ⟨g, I, hI, rfl⟩ | ⟨hb, _⟩
  · exact h.sb i hi
  · exact h.lt_next (h.zok b r hr)
  · exact h.lt_next (h.wok g I hI)
  · exact Nat.lt_of_lt_of_le hb h.nx
theorem Ok.alloc (h : Ok E σ Z ω s e st) (o : Ob) : Ok E σ Z ω s e (st.alloc o) := by
  refine h.mem (by simp) (fun b hb => ?_) fun b hb => ?_
  · rw [St.get_alloc, if_neg (by simp at hb; omega)]; exact h.fresh b (by simp at hb; omega)
  · have := h.told_lt hb
    rw [St.get_alloc, if_neg (by omega)]
theorem Ok.putFree (h : Ok E σ Z ω s e st) {b : Nat} (hb : b < st.next) (h1 : ∀ i, i < s.h.length → σ i ≠ b) (h2 : Z b = none) (h3 : ∀ g I, ω g = some I → I.b ≠ b) (h4 : b < E.st.next → E.I b) (o : Ob) : Ok E σ Z ω s e (st.put b o) := by
  refine h.mem (by simp) (fun c hc => ?_) fun c hc => ?_
  · have : (st.put b o).next = st.next := rfl
    rw [this] at hc
    rw [St.get_put, if_neg (by omega)]; exact h.fresh c hc
  · rw [St.get_put, if_neg]
    rintro rfl
    rcases hc with ⟨i, hi, hq⟩ | ⟨r, hr⟩ | ⟨g, I, hI, hq⟩ | ⟨hc, hq⟩
    · exact h1 i hi hq
    · rw [h2] at hr; cases hr
    · exact h3 g I hI hq
    · exact hq (h4 hc)
theorem Ok.newOb (h : Ok E σ Z ω s e st) {o : Uo} {ob : Ob} (ho : OB (updF σ s.h.length st.next) Z ω (s.h.length + 1) s.h.length o (some ob)) :
    Ok E (updF σ s.h.length st.next) Z ω { s with h := s.h ++ [o] } e (st.alloc ob) ∧ ∀ i, i < s.h.length → updF σ s.h.length st.next i = σ i := by
  have ha := h.alloc ob
  have hσ : ∀ i, i < s.h.length → updF σ s.h.length st.next i = σ i := fun i hi => updF_ne _ _ (by omega)
  have hσn : updF σ s.h.length st.next s.h.length = st.next := updF_same _ _ _
  have hlen : (s.h ++ [o]).length = s.h.length + 1 := by simp
  have hcase : ∀ i, i < s.h.length + 1 → i < s.h.length ∨ i = s.h.length := fun i hi => by omega
  have hzn : Z st.next = none := by
    cases hz : Z st.next with
    | none => rfl
    | some r => have := h.lt_next (h.zok _ _ hz); omega
  have hwn : ∀ g I, ω g = some I → I.b ≠ st.next := fun g I hI hh => by have := h.lt_next (h.wok g I hI); omega
  refine ⟨⟨fun t u hu => ?_, fun i x hx => ?_, ha.zok, ha.wok, ha.fresh, fun i j hi hj hij => ?_, h.winj, fun i g I hi hI => ?_, fun i hi => ?_, h.wz, fun i hi => ?_, h.wr, fun i off I hI => ?_, ?_, fun i hi => ?_, h.zz, ha.nx, fun b hb hbI => ?_, fun i hi => ?_⟩, hσ⟩
  · obtain ⟨v, h1, h2⟩ := h.env t u hu
    exact ⟨v, h1, h2.mono (by simp) hσ (fun _ _ h => h) (fun _ _ => rfl)⟩
  · simp only [hlen]
    rcases Nat.lt_or_ge i s.h.length with hi | hi
    · simp only [List.getElem?_append_left hi] at hx
      rw [hσ i hi, St.get_alloc, if_neg (by have := h.sb i hi; omega)]
      exact (h.obj i x hx).mono (by omega) hσ (fun _ _ h => h) (fun _ => rfl)
    · simp only [List.getElem?_append_right hi] at hx
      have : i = s.h.length := by
        have := (List.getElem?_eq_some_iff.1 hx).1
        simp at this; omega
      subst this
      simp at hx; subst hx
      rw [hσn, St.get_alloc, if_pos rfl]; exact ho
  · simp only [hlen] at hi hj
    rcases hcase i hi with hi' | rfl <;> rcases hcase j hj with hj' | rfl
    · rw [hσ i hi', hσ j hj'] at hij; exact h.inj i j hi' hj' hij
    · rw [hσ i hi', hσn] at hij; have := h.sb i hi'; omega
    · rw [hσ j hj', hσn] at hij; have := h.sb j hj'; omega
    · rfl
  · simp only [hlen] at hi
    rcases hcase i hi with hi' | rfl
    · rw [hσ i hi']; exact h.sw i g I hi' hI
    · rw [hσn]; exact fun hh => hwn g I hI hh.symm
  · simp only [hlen] at hi
    rcases hcase i hi with hi' | rfl
    · rw [hσ i hi']; exact h.sz i hi'
    · rw [hσn]; exact hzn
  · simp only [hlen] at hi
    rcases hcase i hi with hi' | rfl
    · rw [hσ i hi']; have := h.sb i hi'; simp; omega
    · rw [hσn]; simp
  · simp only [hlen]; have := h.wc i off I hI; omega
  · simp only [hlen]; have := h.n0; omega
  · rw [hσ i (by have := h.n0; omega)]; exact h.sig i hi
  · obtain ⟨k1, k2, k3, k4⟩ := ha.out b hb hbI
    refine ⟨k1, fun i hi => ?_, k3, k4⟩
    simp only [hlen] at hi
    rcases hcase i hi with hi' | rfl
    · rw [hσ i hi']; exact k2 i hi'
    · rw [hσn]; have := h.nx; omega
  · obtain ⟨k1, k2, k3⟩ := ha.gn i hi
    have hlt := (List.getElem?_eq_some_iff.1 k2).1
    exact ⟨k1, by simp only [List.getElem?_append_left hlt]; exact k2, by rw [hσ i hlt]; exact k3⟩
theorem Ok.putOb (h : Ok E σ Z ω s e st) {i : Nat} {o : Uo} {ob : Ob} (hi : i < s.h.length) (hng : s.h[i]? ≠ some .gone) (ho : OB σ Z ω s.h.length i o (some ob)) : Ok E σ Z ω { s with h := s.h.set i o } e (st.put (σ i) ob) := by
  have hl : (s.h.set i o).length = s.h.length := List.length_set
  have hsb := h.sb i hi
  have hne : ∀ b, b ≠ σ i → (st.put (σ i) ob).get b = st.get b := fun b hb => by rw [St.get_put, if_neg hb]
  have hgn : ∀ j, E.G j → j < E.n ∧ (s.h.set i o)[j]? = some .gone ∧ (st.put (σ i) ob).get (σ j) = E.st.get (E.σ j) := fun j hj => by
    obtain ⟨q1, q2, q3⟩ := h.gn j hj
    have hij : i ≠ j := by rintro rfl; exact hng q2
    exact ⟨q1, by rw [List.getElem?_set, if_neg hij]; exact q2, by rw [hne _ (fun hh => hij (h.inj _ _ (List.getElem?_eq_some_iff.1 q2).1 hi hh).symm)]; exact q3⟩
  refine ⟨fun t u hu => by rw [hl]; exact h.env t u hu, fun j x hx => ?_, fun b r hb => ?_, fun g I hI => ?_, fun b hb => ?_, by rw [hl]; exact h.inj, h.winj, by rw [hl]; exact h.sw, by rw [hl]; exact h.sz, h.wz, by rw [hl]; exact h.sb, h.wr, by rw [hl]; exact h.wc,
    by rw [hl]; exact h.n0, h.sig, h.zz, h.nx, fun b hb hbI => ?_, hgn⟩
  · rw [hl]
    rw [List.getElem?_set] at hx
    by_cases hj : i = j
    · subst hj
      rw [if_pos rfl, if_pos hi] at hx
      simp at hx; subst hx
      rw [St.get_put, if_pos rfl]; exact ho
    · rw [if_neg hj] at hx
      have hj' := (List.getElem?_eq_some_iff.1 hx).1
      rw [hne _ (fun hh => hj (h.inj _ _ hj' hi hh).symm)]; exact h.obj j x hx
  · rw [hne b (fun hh => by rw [hh, h.sz i hi] at hb; cases hb)]; exact h.zok b r hb
  · rw [hne _ (fun hh => h.sw i g I hi hI hh.symm)]; exact h.wok g I hI
  · have : (st.put (σ i) ob).next = st.next := rfl
    rw [this] at hb
    rw [hne b (by omega)]; exact h.fresh b hb
  · rw [hl]
    obtain ⟨k1, k2, k3, k4⟩ := h.out b hb hbI
    exact ⟨by rw [hne b (fun hh => k2 i hi hh.symm), k1], k2, k3, k4⟩
theorem Ok.setOb (h : Ok E σ Z ω s e st) {i : Nat} {o : Uo} (hi : i < s.h.length) (hng : s.h[i]? ≠ some .gone) (ho : OB σ Z ω s.h.length i o (st.get (σ i))) : Ok E σ Z ω { s with h := s.h.set i o } e st := by
  have hl : (s.h.set i o).length = s.h.length := List.length_set
  have hgn : ∀ j, E.G j → j < E.n ∧ (s.h.set i o)[j]? = some .gone ∧ st.get (σ j) = E.st.get (E.σ j) := fun j hj => by
    obtain ⟨q1, q2, q3⟩ := h.gn j hj
    have hij : i ≠ j := by rintro rfl; exact hng q2
    exact ⟨q1, by rw [List.getElem?_set, if_neg hij]; exact q2, q3⟩
  refine ⟨fun t u hu => by rw [hl]; exact h.env t u hu, fun j x hx => ?_, h.zok, h.wok, h.fresh, by rw [hl]; exact h.inj, h.winj, by rw [hl]; exact h.sw, by rw [hl]; exact h.sz, h.wz, by rw [hl]; exact h.sb, h.wr, by rw [hl]; exact h.wc,
    by rw [hl]; exact h.n0, h.sig, h.zz, h.nx, by rw [hl]; exact h.out, hgn⟩
  rw [hl]
  rw [List.getElem?_set] at hx
  by_cases hj : i = j
  · subst hj
    rw [if_pos rfl, if_pos hi] at hx
    simp at hx; subst hx; exact ho
  · rw [if_neg hj] at hx; exact h.obj j x hx
theorem Ok.retag (h : Ok E σ Z ω s e st) {g g2 : Tg} (hn : NoTag g2 s) (hg : ∀ i off, g ≠ .c i off) (hg2 : g2 ≠ .r) (hc : ∀ i off, g2 = .c i off → i < s.h.length) :
    Ok E σ Z (updF (updF ω g none) g2 (ω g)) { s with e := Env.retag g g2 s.e } e st ∧ ∀ w xs v, OR σ Z ω g w xs v → OR σ Z (updF (updF ω g none) g2 (ω g)) g2 w xs v := by
  have hor : ∀ w xs v, OR σ Z ω g w xs v → OR σ Z (updF (updF ω g none) g2 (ω g)) g2 w xs v := fun w xs v hv => by
    unfold OR at hv ⊢; rw [updF_same]; exact hv
  by_cases hgg : g = g2
  · -- nothing turns
    subst hgg
    have e1 : updF (updF ω g none) g (ω g) = ω := by
      funext x
      by_cases hx : x = g
      · subst hx; rw [updF_same]
      · rw [updF_ne _ _ hx, updF_ne _ _ hx]
    rw [e1]
    refine ⟨h.setEnv fun t u hu => ?_, by rw [e1] at hor; exact hor⟩
    rw [look_retag] at hu
    cases hl : look s.e t with
    | none => rw [hl] at hu; simp at hu
    | some x =>
      rw [hl] at hu; simp at hu
      obtain ⟨v, h1, h2⟩ := h.env t x hl
      refine ⟨v, h1, ?_⟩
      have : u = x := by
        rw [← hu]
        cases x <;> simp [U.retag]
        all_goals (intro hh; exact hh.symm)
      rw [this]; exact h2
  have hcase : ∀ x I, updF (updF ω g none) g2 (ω g) x = some I → (x = g2 ∧ ω g = some I) ∨ (x ≠ g2 ∧ x ≠ g ∧ ω x = some I) := fun x I hI => by
    by_cases hx : x = g2
    · subst hx; rw [updF_same] at hI; exact .inl ⟨rfl, hI⟩
    · rw [updF_ne _ _ hx] at hI
      by_cases hx2 : x = g
      · subst hx2; rw [updF_same] at hI; cases hI
      · rw [updF_ne _ _ hx2] at hI; exact .inr ⟨hx, hx2, hI⟩
  have hoth : ∀ x, x ≠ g2 → x ≠ g → updF (updF ω g none) g2 (ω g) x = ω x := fun x h1 h2 => by rw [updF_ne _ _ h1, updF_ne _ _ h2]
  have hsame : updF (updF ω g none) g2 (ω g) g2 = ω g := updF_same _ _ _
  refine ⟨⟨fun t u hu => ?_, fun i o ho => ?_, h.zok, fun x I hI => ?_, h.fresh, h.inj, fun x y I J hI hJ hb => ?_, fun i x I hi hI => ?_, h.sz, fun x I hI => ?_, h.sb, ?_, fun i off I hI => ?_, h.n0, h.sig, h.zz, h.nx, fun b hb hbI => ?_, h.gn⟩, hor⟩
  · rw [look_retag] at hu
    cases hl : look s.e t with
    | none => rw [hl] at hu; simp at hu
    | some x =>
      rw [hl] at hu; simp at hu
      obtain ⟨v, h1, h2⟩ := h.env t x hl
      have hnt := hn.1 t x hl
      refine ⟨v, h1, ?_⟩
      subst hu
      cases x with
      | own g' w xs =>
        simp only [U.retag]
        by_cases hq : g' = g
        · subst hq; rw [if_pos rfl]; exact ⟨hor _ _ _ h2.1, hc⟩
        · rw [if_neg hq]
          exact h2.mono (Nat.le_refl _) (fun _ _ => rfl) (fun _ _ h => h) fun g3 h3 => by simp [U.tag] at h3; subst h3; exact hoth _ (fun hh => hnt (by simp [U.tag, hh])) hq
      | optr g' i f =>
        simp only [U.retag]
        by_cases hq : g' = g
        · subst hq; rw [if_pos rfl]
          obtain ⟨⟨I, k1, k2⟩, _⟩ := h2
          exact ⟨⟨I, by rw [hsame]; exact k1, k2⟩, hc⟩
        · rw [if_neg hq]
          exact h2.mono (Nat.le_refl _) (fun _ _ => rfl) (fun _ _ h => h) fun g3 h3 => by simp [U.tag] at h3; subst h3; exact hoth _ (fun hh => hnt (by simp [U.tag, hh])) hq
      | _ => exact h2.mono (Nat.le_refl _) (fun _ _ => rfl) (fun _ _ h => h) fun g3 h3 => by simp [U.tag, U.retag] at h3
  · have h1 := h.obj i o ho
    cases o with
    | row cs =>
      obtain ⟨cs', q1, q2, q3⟩ := h1
      refine ⟨cs', q1, q2, fun off u v hu hv => ?_⟩
      have h2 := q3 off u v hu hv
      cases u with
      | cown w xs =>
        refine OR.mono (fun _ _ h => h) (hoth _ (fun hh => ?_) (fun hh => hg i off hh.symm)) h2
        exact hn.2 i off hh.symm cs w xs ho hu
      | bad => trivial
      | _ => exact h2
    | map es c => exact h1
    | iter q a b c => exact h1
    | gone => trivial
  · rcases hcase x I hI with ⟨_, hh⟩ | ⟨_, _, hh⟩ <;> exact h.wok _ I hh
  · rcases hcase x I hI with ⟨e1, k1⟩ | ⟨e1, e1', k1⟩ <;> rcases hcase y J hJ with ⟨e2, k2⟩ | ⟨e2, e2', k2⟩
    · rw [e1, e2]
    · exact absurd (h.winj _ _ _ _ k1 k2 hb).symm e2'
    · exact absurd (h.winj _ _ _ _ k1 k2 hb) e1'
    · exact h.winj _ _ _ _ k1 k2 hb
  · rcases hcase x I hI with ⟨_, hh⟩ | ⟨_, _, hh⟩ <;> exact h.sw i _ I hi hh
  · rcases hcase x I hI with ⟨_, hh⟩ | ⟨_, _, hh⟩ <;> exact h.wz _ I hh
  · by_cases hr : Tg.r = g
    · subst hr; rw [updF_ne _ _ (Ne.symm hg2), updF_same]
    · rw [hoth _ (Ne.symm hg2) hr]; exact h.wr
  · rcases hcase _ I hI with ⟨e1, hh⟩ | ⟨_, _, hh⟩
    · exact hc i off e1.symm
    · exact h.wc i off I hh
  · obtain ⟨k1, k2, k3, k4⟩ := h.out b hb hbI
    refine ⟨k1, k2, fun x I hI => ?_, k4⟩
    rcases hcase x I hI with ⟨_, hh⟩ | ⟨_, _, hh⟩ <;> exact k3 _ I hh
theorem Ok.newOwn (h : Ok E σ Z ω s e st) {d w cap : Nat} {ex : Bool} {xs : List (List U)} {row : List V} (hl : xs.length ≤ cap) (hc : cap * w ≤ row.length) (hw : ∀ r ∈ xs, r.length = w) (hx : LU σ Z 0 xs.flatten (row.take (xs.length * w))) :
    ∃ ω', Ok E σ Z ω' (s.kill (.t d)) e (st.alloc (.row row)) ∧ OR σ Z ω' (.t d) w xs (.slice st.next 0 xs.length cap w ex) := by
  have ha := (h.kill (.t d)).alloc (.row row)
  have hzn : Z st.next = none := by
    cases hz : Z st.next with
    | none => rfl
    | some r => have := h.lt_next (h.zok _ _ hz); omega
  refine ⟨_, ha.setω (noTag_kill _ _) (by simp) (o := some ⟨st.next, 0, cap, ex, w, row, xs⟩) fun J hJ => ?_, ?_⟩
  · cases hJ
    refine ⟨by rw [St.get_alloc, if_pos rfl], fun i hi => ?_, hzn, fun g' I' _ hI' hb => ?_, fun b hb _ hh => ?_, fun i off hh => by cases hh⟩
    · have := h.sb i (by rw [kill_len] at hi; exact hi)
      show σ i ≠ st.next
      omega
    · have := h.lt_next (h.wok g' I' hI')
      have hb' : I'.b = st.next := hb
      omega
    · have := h.nx
      have hh' : st.next = b := hh
      omega
  · unfold OR; rw [updF_same]
    exact ⟨rfl, ⟨rfl, rfl⟩, hl, by simpa using hc, hw, by simpa using hx⟩
end
end Go.RE
namespace Go.RE
section
variable {E : Ent} {σ : Sg} {Z : Zs} {ω : Om} {s s' : Vs} {e : PT V} {st : St} {n : Nat}
theorem zero_cr {i : Nat} (hω : ∀ off, ω (.c i off) = none) : ∀ {zs : List V}, (V.toUs zs).all (fun u => u.cellok || u.isCown) = true → (V.toUs zs).length = (V.ers zs).length ∧
    ∀ (off : Nat) u v, (V.toUs zs)[off]? = some u → (V.ers zs)[off]? = some v → ∀ k, CR σ Z ω n i (k + off) u v := by
  intro zs
  induction zs with
  | nil => intro _; exact ⟨rfl, fun off u v h => by simp [V.toUs] at h⟩
  | cons z zs ih =>
    intro h
    simp only [V.toUs, List.all_cons, Bool.and_eq_true] at h
    obtain ⟨h1, h2⟩ := ih h.2
    refine ⟨by simp [V.toUs, V.ers, h1], fun off u v hu hv k => ?_⟩
    cases off with
    | zero =>
      simp [V.toUs] at hu; simp [V.ers] at hv
      subst hu; subst hv
      have hh := h.1
      cases hq : z.toU with
      | cown w xs =>
        cases z with
        | cslice r o l zz =>
          match r, o, l with
          | [], 0, 0 => simp [V.toU] at hq
          | [], 1, 0 => simp [V.toU] at hq
          | [], 2, 0 =>
            simp [V.toU] at hq
            obtain ⟨rfl, rfl⟩ := hq
            show OR σ Z ω _ _ _ _
            unfold OR; rw [hω]; exact ⟨rfl, .inl rfl⟩
          | [], 3, 0 => simp [V.toU] at hq
          | [], k + 4, 0 => simp [V.toU] at hq
          | [], _, l + 1 => simp [V.toU] at hq
          | a :: r, _, _ => simp [V.toU] at hq
        | func f a b => simp only [V.toU] at hq; generalize (_ && _ : Bool) = c at hq; cases c <;> simp at hq
        | iface t v => simp only [V.toU] at hq; generalize U.cellok _ = c at hq; cases c <;> simp at hq
        | agg cs => simp only [V.toU] at hq; generalize List.all _ _ = c at hq; cases c <;> simp at hq
        | tup cs => simp only [V.toU] at hq; generalize List.all _ _ = c at hq; cases c <;> simp at hq
        | _ => simp [V.toU] at hq
      | _ =>
        rw [← hq]
        refine CR.of_ur (const_ur z ?_ ?_ ?_) <;> (rw [hq]; try rw [hq] at hh) <;> simp_all [U.cellok, U.isCown]
    | succ off =>
      simp [V.toUs] at hu; simp [V.ers] at hv
      rw [show k + (off + 1) = (k + 1) + off by omega]
      exact h2 off u v hu hv (k + 1)
theorem chunks_spec {w : Nat} : ∀ {k : Nat} {cs : List U}, cs.length = k * w → (chunks w k cs).length = k ∧ (chunks w k cs).flatten = cs ∧ ∀ r ∈ chunks w k cs, r.length = w := by
  intro k
  induction k with
  | zero => intro cs h; simp at h; subst h; simp [chunks]
  | succ k ih =>
    intro cs h
    rw [Nat.succ_mul] at h
    obtain ⟨h1, h2, h3⟩ := ih (cs := cs.drop w) (by simp; omega)
    refine ⟨by simp [chunks, h1], by simp only [chunks, List.flatten_cons, h2, List.take_append_drop], fun r hr => ?_⟩
    simp only [chunks, List.mem_cons] at hr
    rcases hr with rfl | hr
    · simp; omega
    · exact h3 r hr
theorem rep_lu {a : List U} {b : List V} (h : LU σ Z n a b) : ∀ k, LU σ Z n (repU a k) (repZero b k) := by
  intro k
  induction k with
  | zero => exact .nil
  | succ k ih => exact h.append ih
theorem repRows_flat {a : List U} : ∀ k, (repRows a k).flatten = repU a k := by
  intro k
  induction k with
  | zero => rfl
  | succ k ih =>
    have : repRows a (k + 1) = a :: repRows a k := by simp [repRows, List.replicate_succ]
    rw [this, List.flatten_cons, ih]; rfl
theorem repZero_len {b : List V} : ∀ k, (repZero b k).length = k * b.length := by
  intro k
  induction k with
  | zero => simp [repZero]
  | succ k ih => simp [repZero, ih, Nat.succ_mul]; omega
theorem repZero_take {b : List V} : ∀ {k m : Nat}, k ≤ m → (repZero b m).take (k * b.length) = repZero b k := by
  intro k
  induction k with
  | zero => intro m _; simp [repZero]
  | succ k ih =>
    intro m hm
    cases m with
    | zero => omega
    | succ m =>
      simp only [repZero, Nat.succ_mul]
      rw [List.take_append, List.take_of_length_le (l := b) (by omega), Nat.add_sub_cancel, ih (by omega)]
theorem toUs_len : ∀ (zs : List V), (V.toUs zs).length = zs.length ∧ (V.ers zs).length = zs.length
  | [] => ⟨rfl, rfl⟩
  | z :: zs => by
    obtain ⟨h1, h2⟩ := toUs_len zs
    exact ⟨by simp [V.toUs, h1], by simp [V.ers, h2]⟩
theorem bytes_lu : ∀ (b : List UInt8), LU σ Z n (bytesU b).flatten (b.map byteCell) := by
  intro b
  induction b with
  | nil => exact .nil
  | cons c b ih => exact LU.cons (.int _ _) ih
theorem bytesU_len (b : List UInt8) : ∀ r ∈ bytesU b, r.length = 1 := by
  intro r hr
  simp only [bytesU, List.mem_map] at hr
  obtain ⟨c, _, rfl⟩ := hr; rfl
theorem cells_ok {u : U} {v : V} (h : TR σ Z ω n u v) (hc : u.cells.all U.cellok = true) : UR σ Z n u v := by
  cases u <;> first | exact h | (simp [U.cells, U.cellok] at hc)
theorem slice_cells1 {v : V} {g : Tg} {w : Nat} {xs : List (List U)} (h : OR σ Z ω g w xs v) : v.cells = [v] ∧ v.one = true := by
  unfold OR at h
  split at h
  · obtain ⟨_, rfl | rfl⟩ := h <;> exact ⟨rfl, rfl⟩
  · obtain ⟨rfl, _⟩ := h; exact ⟨rfl, rfl⟩
theorem opM_sound {d : Nat} {o : MOp} {u : U} (h : opM d s o = some (u, s')) (hk : Ok E σ Z ω s e st) :
    ∃ σ' Z' ω' ob f, evM e o.er = some (ob, f) ∧ Ok E σ' Z' ω' s' e (st.alloc ob) ∧ TR σ' Z' ω' s'.h.length u (f st.next) ∧ s.h.length ≤ s'.h.length ∧ (∀ i, i < s.h.length → σ' i = σ i) ∧ ∀ b r, Z b = some r → Z' b = some r := by
  have hωn : ∀ off, ω (.c s.h.length off) = none := fun off => by
    cases hq : ω (.c s.h.length off) with
    | none => rfl
    | some I => have := hk.wc _ off I hq; omega
  have hptr : ∀ (σ' : Sg), σ' s.h.length = st.next → UR σ' Z (s.h.length + 1) (.ptr s.h.length 0) (.ptr st.next 0) := fun σ' hσ => by rw [← hσ]; exact .ptr (by omega)
  cases o with
  | alloc zero =>
    simp only [opM] at h
    cases hz : (V.toUs zero).all (fun u => u.cellok || u.isCown) with
    | false => rw [hz] at h; simp at h
    | true =>
      rw [hz] at h
      simp only [cond_true, Option.some.injEq, Prod.mk.injEq] at h
      obtain ⟨rfl, rfl⟩ := h
      obtain ⟨h1, h2⟩ := zero_cr (σ := updF σ s.h.length st.next) (Z := Z) (n := s.h.length + 1) hωn hz
      obtain ⟨k1, k2⟩ := hk.newOb (o := .row (V.toUs zero)) (ob := .row (V.ers zero)) ⟨_, rfl, h1, fun off u v hu hv => by simpa using h2 off u v hu hv 0⟩
      refine ⟨_, Z, ω, .row (V.ers zero), fun n => .ptr n 0, rfl, k1, TR.of_ur ?_, by simp [newOb], k2, fun _ _ h => h⟩
      have := hptr _ (updF_same σ s.h.length st.next)
      simpa [newOb] using this
  | box x =>
    simp only [opM] at h
    split at h
    · simp at h
    · rename_i g w xs hno hx
      simp only [Option.some.injEq, Prod.mk.injEq] at h
      obtain ⟨rfl, rfl⟩ := h
      obtain ⟨v, v1, v2, v3⟩ := hk.opd hx
      obtain ⟨c1, c2⟩ := slice_cells1 v2
      have hg : ∀ i off, g ≠ .c i off := fun i off hh => hno i off hh
      -- a cell of which nothing is told
      obtain ⟨k1, k2⟩ := hk.newOb (o := .row [.bad]) (ob := .row [v]) ⟨[v], rfl, rfl, fun off u y hu hv => by
        cases off with
        | zero => simp at hu; subst hu; trivial
        | succ off => simp at hu⟩
      have hnt : NoTag (.c s.h.length 0) { s with h := s.h ++ [.row [.bad]] } := by
        refine ⟨fun t u hu htag => ?_, fun i off he cs w xs hc hx => ?_⟩
        · obtain ⟨v', _, q2⟩ := hk.env t u hu
          cases u with
          | own g' w' xs' => simp [U.tag] at htag; subst htag; have := q2.2 _ _ rfl; omega
          | optr g' i f => simp [U.tag] at htag; subst htag; have := q2.2 _ _ rfl; omega
          | _ => simp [U.tag] at htag
        · cases he
          simp at hc; subst hc
          simp at hx
      obtain ⟨m1, m2⟩ := k1.retag (g := g) (g2 := .c s.h.length 0) hnt hg (by simp) (fun i off hh => by cases hh; simp)
      have m3 := m1.setOb (i := s.h.length) (o := .row [.cown w xs]) (by simp) (by simp) (by
        rw [updF_same, St.get_alloc, if_pos rfl]
        refine ⟨[v], rfl, rfl, fun off u y hu hv => ?_⟩
        cases off with
        | zero =>
          simp at hu hv; subst hu; subst hv
          exact m2 w xs _ (v2.mono (fun _ _ h => h) rfl)
        | succ off => simp at hu)
      have e1 : (s.h ++ [Uo.row [.bad]]).set s.h.length (Uo.row [.cown w xs]) = s.h ++ [Uo.row [.cown w xs]] := by
        rw [List.set_append_right _ _ (Nat.le_refl _)]; simp
      rw [e1] at m3
      refine ⟨_, Z, _, .row v.cells, fun n => .ptr n 0, by simp only [MOp.er, evM, v1], by rw [c1]; exact m3, TR.of_ur ?_, by simp, k2, fun _ _ h => h⟩
      have := hptr _ (updF_same σ s.h.length st.next)
      simpa using this
    · rename_i u' hno1 hno2 hx
      cases hc : u'.cells.all U.cellok with
      | false => rw [hc] at h; simp at h
      | true =>
        rw [hc] at h
        simp only [cond_true, Option.some.injEq, Prod.mk.injEq] at h
        obtain ⟨rfl, rfl⟩ := h
        obtain ⟨v, v1, v2⟩ := hk.opd hx
        have v3 := (cells_ok v2 hc).cells
        obtain ⟨k1, k2⟩ := hk.newOb (o := .row u'.cells) (ob := .row v.cells) ⟨_, rfl, v3.1, fun off u y hu hv => CR.of_ur ((v3.2 off u y hu hv).mono (by omega) (fun i hi => updF_ne _ _ (by omega)) (fun _ _ h => h))⟩
        refine ⟨_, Z, ω, .row v.cells, fun n => .ptr n 0, by simp only [MOp.er, evM, v1], k1, TR.of_ur ?_, by simp [newOb], k2, fun _ _ h => h⟩
        have := hptr _ (updF_same σ s.h.length st.next)
        simpa [newOb] using this
    · simp at h
  | buildSlice w len zero parts =>
    simp only [opM] at h
    cases hz : (V.toUs zero).all U.cellok with
    | false => rw [hz] at h; simp at h
    | true =>
      rw [hz] at h
      simp only [cond_true] at h
      split at h <;> try (simp at h; done)
      rename_i cs s1 hf
      obtain ⟨Z1, ω1, ws, a1, a2, a3, a4, a5⟩ := hk.fill (rep_lu (consts_lu zero hz) len) hf
      cases hb : (cs.all U.cellok && U.lows 0 cs && Nat.beq cs.length (len * w)) with
      | false => rw [hb] at h; simp at h
      | true =>
        rw [hb] at h
        simp only [cond_true, Option.some.injEq, Prod.mk.injEq] at h
        obtain ⟨rfl, rfl⟩ := h
        simp only [Bool.and_eq_true] at hb
        have hlen : cs.length = len * w := Nat.eq_of_beq_eq_true hb.2
        obtain ⟨c1, c2, c3⟩ := chunks_spec hlen
        have hlu := a3.low hb.1.2
        obtain ⟨ω', k1, k2⟩ := a2.newOwn (d := d) (w := w) (cap := len) (ex := true) (xs := chunks w len cs) (row := ws) (by omega) (by rw [← hlu.1, hlen]; exact Nat.le_refl _) c3 (by
          rw [c2, c1, List.take_of_length_le (by rw [← hlu.1, hlen]; exact Nat.le_refl _)]; exact hlu)
        rw [c1] at k2
        exact ⟨σ, Z1, ω', .row ws, fun n => .slice n 0 len len w true, by simp only [MOp.er, evM, a1], k1, ⟨k2, fun i off hh => by cases hh⟩, by rw [kill_len]; omega, fun _ _ => rfl, a5⟩
  | makeMap =>
    simp only [opM, Option.some.injEq, Prod.mk.injEq] at h
    obtain ⟨rfl, rfl⟩ := h
    obtain ⟨k1, k2⟩ := hk.newOb (o := .map [] 0) (ob := .map [] 0) ⟨[], rfl, rfl, fun j x y hx => by simp at hx⟩
    refine ⟨_, Z, ω, .map [] 0, fun n => .map n, rfl, k1, TR.of_ur ?_, by simp [newOb], k2, fun _ _ h => h⟩
    have : UR (updF σ s.h.length st.next) Z (s.h.length + 1) (.map s.h.length) (.map st.next) := by
      have := updF_same σ s.h.length st.next
      conv => rhs; rw [← this]
      exact .map (by omega)
    simpa [newOb] using this
  | makeSlice w bytes zero len cap =>
    simp only [opM] at h
    split at h <;> try (simp at h; done)
    rename_i ul uc hl hc
    split at h <;> try (simp at h; done)
    rename_i c hcn
    split at h <;> try (simp at h; done)
    rename_i l hln
    cases hb : (Nat.ble (c * bytes) big && Nat.beq zero.length w && U.lows 0 (V.toUs zero) && (V.toUs zero).all U.cellok) with
    | false => rw [hb] at h; simp at h
    | true =>
      rw [hb] at h
      simp only [cond_true, Option.some.injEq, Prod.mk.injEq] at h
      obtain ⟨rfl, rfl⟩ := h
      simp only [Bool.and_eq_true] at hb
      have hw : zero.length = w := Nat.eq_of_beq_eq_true hb.1.1.2
      obtain ⟨vl, l1, l2⟩ := hk.opd hl
      obtain ⟨vc, c1, c2⟩ := hk.opd hc
      have n1 := asNat_tr hcn c2
      have n2 := asNat_tr hln l2
      have hle : l ≤ c := by
        cases vl <;> simp [asNat] at n2
        omega
      obtain ⟨z1, z2⟩ := toUs_len zero
      have hlu : LU σ Z 0 (V.toUs zero) (V.ers zero) := (consts_lu (n := 0) zero hb.2)
      obtain ⟨ω', k1, k2⟩ := hk.newOwn (d := d) (w := w) (cap := c) (ex := true) (xs := repRows (V.toUs zero) l) (row := repZero (V.ers zero) c) (by simpa [repRows] using hle) (by rw [repZero_len, z2, hw]; exact Nat.le_refl _) (fun r hr => by
        simp only [repRows, List.mem_replicate] at hr; rw [hr.2, z1, hw]) (by
        have : (repRows (V.toUs zero) l).length * w = l * (V.ers zero).length := by rw [z2, hw]; simp [repRows]
        rw [repRows_flat, this, repZero_take hle]; exact rep_lu hlu l)
      have hrl : (repRows (V.toUs zero) l).length = l := by simp [repRows]
      rw [hrl] at k2
      exact ⟨σ, Z, ω', .row (repZero (V.ers zero) c), fun n => .slice n 0 l c w true, by simp only [MOp.er, evM, l1, c1, n1, n2, hb.1.1.1, cond_true], k1, ⟨k2, fun i off hh => by cases hh⟩, by rw [kill_len]; exact Nat.le_refl _, fun _ _ => rfl, fun _ _ h => h⟩
  | toBytes x =>
    simp only [opM] at h
    split at h <;> simp only [Option.some.injEq, Prod.mk.injEq, reduceCtorEq] at h
    rename_i b hx
    obtain ⟨rfl, rfl⟩ := h
    obtain ⟨v, h1, h2⟩ := hk.opd hx
    obtain rfl := TR.str h2
    obtain ⟨ω', k1, k2⟩ := hk.newOwn (d := d) (w := 1) (cap := b.length) (ex := false) (xs := bytesU b) (row := b.map byteCell) (by simp [bytesU]) (by simp) (bytesU_len b) (by
      have : (b.map byteCell).take ((bytesU b).length * 1) = b.map byteCell := List.take_of_length_le (by simp [bytesU])
      rw [this]; exact bytes_lu b)
    have hbl : (bytesU b).length = b.length := by simp [bytesU]
    rw [hbl] at k2
    exact ⟨σ, Z, ω', _, fun n => .slice n 0 b.length b.length 1 false, by simp only [MOp.er, evM, h1], k1, ⟨k2, fun i off hh => by cases hh⟩, by rw [kill_len]; exact Nat.le_refl _, fun _ _ => rfl, fun _ _ h => h⟩
end
end Go.RE
namespace Go.RE
section
variable {E : Ent} {σ : Sg} {Z : Zs} {ω : Om} {s s' : Vs} {e : PT V} {st : St} {n : Nat}
theorem noTag_own {g : Tg} (hn : NoTag g s) : s.ownC g = none := by
  have key : ∀ r : Env, Env.ownC g s.e r = none := by
    intro r
    induction r with
    | nil => rfl
    | cons x r ih =>
      obtain ⟨k, u⟩ := x
      cases u with
      | own g' w' xs' =>
        simp only [Env.ownC]
        split
        · split
          · rename_i g2 w2 xs2 hl
            split
            · rename_i hg; subst hg
              exact absurd rfl (hn.1 _ _ hl)
            · exact ih
          · exact ih
        · exact ih
      | _ => exact ih
  unfold Vs.ownC
  split
  · rename_i i off
    split
    · rename_i cs hi
      split
      · rename_i w xs hc; exact absurd hc (hn.2 i off rfl cs w xs hi)
      · rfl
    · rfl
  · exact key _
theorem Ok.updOwn (h : Ok E σ Z ω s e st) {g : Tg} {I : OwnI} {p0 : Nat × List (List U)} (hp0 : s.ownC g = some p0) (hg : ω g = some I) {ys : List (List U)} {row' : List V} (hl : ys.length = I.xs.length) (hrl : row'.length = I.row.length) (hw : ∀ r ∈ ys, r.length = I.w)
    (hy : LU σ Z 0 ys.flatten ((row'.drop I.off).take (ys.length * I.w))) : Ok E σ Z (updF ω g (some { I with row := row', xs := ys })) (s.upd g I.w ys) e (st.put I.b (.row row')) := by
  have hgr : g ≠ .r := fun hh => by subst hh; rw [h.wr] at hg; cases hg
  have hsame : updF ω g (some { I with row := row', xs := ys }) g = some { I with row := row', xs := ys } := updF_same _ _ _
  have hne : ∀ g', g' ≠ g → updF ω g (some { I with row := row', xs := ys }) g' = ω g' := fun g' hh => updF_ne _ _ hh
  have hor : ∀ w xs v, OR σ Z ω g w xs v → OR σ Z (updF ω g (some { I with row := row', xs := ys })) g w ys v ∧ w = I.w := fun w xs v hv => by
    unfold OR at hv ⊢
    rw [hg] at hv
    rw [hsame]
    obtain ⟨rfl, ⟨rfl, rfl⟩, e1, e2, e3, e4⟩ := hv
    exact ⟨⟨by rw [hl], ⟨rfl, rfl⟩, by rw [hl]; exact e1, by rw [hrl]; exact e2, hw, hy⟩, rfl⟩
  have hcase : ∀ x J, updF ω g (some { I with row := row', xs := ys }) x = some J → (x = g ∧ J = { I with row := row', xs := ys }) ∨ (x ≠ g ∧ ω x = some J) := fun x J hJ => by
    by_cases hx : x = g
    · subst hx; rw [hsame] at hJ; cases hJ; exact .inl ⟨rfl, rfl⟩
    · rw [hne x hx] at hJ; exact .inr ⟨hx, hJ⟩
  have hget : ∀ b, b ≠ I.b → (st.put I.b (.row row')).get b = st.get b := fun b hb => by rw [St.get_put, if_neg hb]
  have hIlt := h.lt_next (h.wok g I hg)
  -- the temporaries
  have henv : ∀ t u, look (Env.upd g ys s.e) t = some u → ∃ v, e.get t = some v ∧ TR σ Z (updF ω g (some { I with row := row', xs := ys })) s.h.length u v := by
    intro t u hu
    rw [look_upd] at hu
    cases hq : look s.e t with
    | none => rw [hq] at hu; simp at hu
    | some x =>
      rw [hq] at hu; simp at hu
      obtain ⟨v, h1, h2⟩ := h.env t x hq
      refine ⟨v, h1, ?_⟩
      subst hu
      cases x with
      | own g' w xs =>
        simp only [U.upd]
        by_cases hgg : g' = g
        · subst hgg; rw [if_pos rfl]; exact ⟨(hor _ _ _ h2.1).1, h2.2⟩
        · rw [if_neg hgg]; exact ⟨OR.mono (fun _ _ h => h) (hne _ hgg) h2.1, h2.2⟩
      | optr g' i f =>
        obtain ⟨⟨J, k1, k2⟩, k3⟩ := h2
        by_cases hgg : g' = g
        · subst hgg
          rw [hg] at k1; cases k1
          exact ⟨⟨_, hsame, k2⟩, k3⟩
        · exact ⟨⟨J, by rw [hne _ hgg]; exact k1, k2⟩, k3⟩
      | _ => exact h2.mono (Nat.le_refl _) (fun _ _ => rfl) (fun _ _ h => h) fun g3 h3 => by simp [U.tag, U.upd] at h3
  have hob : ∀ (i : Nat) o, s.h[i]? = some o → (∀ off cs w xs, g = .c i off → o = .row cs → cs[off]? ≠ some (.cown w xs)) →
      OB σ Z (updF ω g (some { I with row := row', xs := ys })) s.h.length i o ((st.put I.b (.row row')).get (σ i)) := by
    intro i o ho hno
    have hi := (List.getElem?_eq_some_iff.1 ho).1
    rw [hget _ (h.sw i g I hi hg)]
    have h1 := h.obj i o ho
    cases o with
    | row cs =>
      obtain ⟨cs', q1, q2, q3⟩ := h1
      refine ⟨cs', q1, q2, fun off u v hu hv => ?_⟩
      have h2 := q3 off u v hu hv
      cases u with
      | cown w xs =>
        refine OR.mono (fun _ _ h => h) (hne _ fun hh => ?_) h2
        exact hno off cs w xs hh.symm rfl hu
      | bad => trivial
      | _ => exact h2
    | map es c => exact h1
    | iter q a b c => exact h1
    | gone => trivial
  have hrest : ∀ (s1 : Vs), s1.h.length = s.h.length → (∀ (i : Nat), s.h[i]? = some Uo.gone → s1.h[i]? = some Uo.gone) → (∀ t u, look s1.e t = some u → ∃ v, e.get t = some v ∧ TR σ Z (updF ω g (some { I with row := row', xs := ys })) s.h.length u v) →
      (∀ (i : Nat) o, s1.h[i]? = some o → OB σ Z (updF ω g (some { I with row := row', xs := ys })) s.h.length i o ((st.put I.b (.row row')).get (σ i))) →
      Ok E σ Z (updF ω g (some { I with row := row', xs := ys })) s1 e (st.put I.b (.row row')) := by
    intro s1 hl1 hgo h1 h2
    have hgn : ∀ j, E.G j → j < E.n ∧ s1.h[j]? = some .gone ∧ (st.put I.b (.row row')).get (σ j) = E.st.get (E.σ j) := fun j hj => by
      obtain ⟨q1, q2, q3⟩ := h.gn j hj
      exact ⟨q1, hgo j q2, by rw [hget _ (h.sw j g I (List.getElem?_eq_some_iff.1 q2).1 hg)]; exact q3⟩
    refine ⟨by rw [hl1]; exact h1, by rw [hl1]; exact h2, fun b r hb => ?_, fun x J hJ => ?_, fun b hb => ?_, by rw [hl1]; exact h.inj, fun x y J K hJ hK hb => ?_, fun i x J hi hJ => ?_, by rw [hl1]; exact h.sz, fun x J hJ => ?_, by rw [hl1]; exact h.sb, by rw [hne _ (Ne.symm hgr)]; exact h.wr,
      fun i off J hJ => ?_, by rw [hl1]; exact h.n0, h.sig, h.zz, h.nx, fun b hb hbI => ?_, hgn⟩
    · rw [hget b (fun hh => by rw [hh, h.wz g I hg] at hb; cases hb)]; exact h.zok b r hb
    · rcases hcase x J hJ with ⟨rfl, rfl⟩ | ⟨hx, hh⟩
      · rw [St.get_put, if_pos rfl]
      · rw [hget _ (fun hb => hx (h.winj x g J I hh hg hb))]; exact h.wok x J hh
    · have : (st.put I.b (.row row')).next = st.next := rfl
      rw [this] at hb
      rw [hget b (by omega)]; exact h.fresh b hb
    · rcases hcase x J hJ with ⟨rfl, rfl⟩ | ⟨hx, hh⟩ <;> rcases hcase y K hK with ⟨rfl, rfl⟩ | ⟨hy, hh'⟩
      · rfl
      · exact absurd (h.winj _ _ _ _ hg hh' hb).symm hy
      · exact absurd (h.winj _ _ _ _ hh hg hb) hx
      · exact h.winj _ _ _ _ hh hh' hb
    · rcases hcase x J hJ with ⟨rfl, rfl⟩ | ⟨hx, hh⟩
      · exact h.sw i x I (by omega) hg
      · exact h.sw i x J (by omega) hh
    · rcases hcase x J hJ with ⟨rfl, rfl⟩ | ⟨hx, hh⟩
      · exact h.wz x I hg
      · exact h.wz x J hh
    · rw [hl1]
      rcases hcase _ J hJ with ⟨e1, rfl⟩ | ⟨hx, hh⟩
      · exact h.wc i off I (by rw [e1]; exact hg)
      · exact h.wc i off J hh
    · obtain ⟨k1, k2, k3, k4⟩ := h.out b hb hbI
      refine ⟨by rw [hget b (fun hh => k3 g I hg hh.symm), k1], by rw [hl1]; exact k2, fun x J hJ => ?_, k4⟩
      rcases hcase x J hJ with ⟨rfl, rfl⟩ | ⟨hx, hh⟩
      · exact k3 x I hg
      · exact k3 x J hh
  unfold Vs.upd
  split
  · rename_i i off
    refine hrest _ ?_ (fun j hj => ?_) henv fun j o ho => ?_
    · simp only; unfold setCell; split <;> simp
    · simp only; unfold setCell
      split
      · rename_i cs hi
        rw [List.getElem?_set, if_neg (by rintro rfl; rw [hi] at hj; cases hj)]; exact hj
      · exact hj
    · simp only at ho
      unfold setCell at ho
      split at ho
      · rename_i cs hi
        have hlt := (List.getElem?_eq_some_iff.1 hi).1
        rw [List.getElem?_set] at ho
        by_cases hj : i = j
        · subst hj
          rw [if_pos rfl, if_pos hlt] at ho
          simp at ho; subst ho
          rw [hget _ (h.sw i _ I hlt hg)]
          obtain ⟨cs', q1, q2, q3⟩ := h.obj i _ hi
          refine ⟨cs', q1, by rw [List.length_set]; exact q2, fun o' u v hu hv => ?_⟩
          rw [List.getElem?_set] at hu
          by_cases ho' : off = o'
          · subst ho'
            simp only [Vs.ownC, hi] at hp0
            split at hp0 <;> try (simp at hp0; done)
            rename_i w0 xs0 hc0
            have hoff := (List.getElem?_eq_some_iff.1 hc0).1
            rw [if_pos rfl, if_pos hoff] at hu
            simp at hu; subst hu
            have := hor w0 xs0 v (q3 off _ v hc0 hv)
            rw [this.2] at this
            exact this.1
          · rw [if_neg ho'] at hu
            exact (q3 o' u v hu hv).mono (Nat.le_refl _) (fun _ _ => rfl) (fun _ _ h => h) (hne _ fun hh => ho' (by simp at hh; omega))
        · rw [if_neg hj] at ho
          exact hob j o ho fun off' cs' w xs he => by simp at he; exact absurd he.1 hj
      · rename_i hno
        exact hob j o ho fun off' cs' w xs he hoo => by simp at he; obtain ⟨rfl, rfl⟩ := he; exact absurd (hoo ▸ ho) (hno _)
  · rename_i hno
    exact hrest _ rfl (fun _ h => h) henv fun i o ho => hob i o ho fun off cs w xs he => absurd he (hno i off)
end
end Go.RE
