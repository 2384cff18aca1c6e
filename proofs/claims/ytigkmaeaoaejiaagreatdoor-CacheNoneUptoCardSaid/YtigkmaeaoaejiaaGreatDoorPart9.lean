/- Calls that begin with nothing. -/
import Derived.Test.YtigkmaeaoaejiaaGreatDoorPart8
import Derived.Test.YtigkmaeaoaejiaaGreatDoorPart5
set_option linter.unusedVariables false
set_option linter.unusedSimpArgs false
set_option linter.constructorNameAsVariable false
namespace Go.RE
section
variable {E : Ent} {σ : Sg} {Z : Zs} {ω : Om} {s s' : Vs} {e : PT V} {st : St} {n : Nat}
theorem no_images (σ : Sg) (b : Nat) : ¬ images σ (fun _ => none) 0 b := by
  rintro (⟨i, hi, _⟩ | ⟨g, I, hI, _⟩)
  · omega
  · cases hI
theorem OR.to {σ2 : Sg} {Z2 : Zs} {ω2 : Om} {g g2 : Tg} {w : Nat} {xs : List (List U)} {v : V} (h : OR σ Z ω g w xs v) (hZ : ∀ b r, Z b = some r → Z2 b = some r) (hω : ω2 g2 = ω g) : OR σ2 Z2 ω2 g2 w xs v := by
  unfold OR at h ⊢
  rw [hω]
  split at h
  · exact h
  · exact ⟨h.1, h.2.1, h.2.2.1, h.2.2.2.1, h.2.2.2.2.1, h.2.2.2.2.2.mono (Nat.le_refl 0) (fun i hi => by omega) hZ⟩
theorem OB.shift {σ2 : Sg} {ω2 : Om} {k m j : Nat} (hσ : ∀ i, i < n → σ2 (i + k) = σ i) (hm : n + k ≤ m) (hω : ∀ off, ω2 (.c (j + k) off) = ω (.c j off)) {o : Uo} {ob : Option Ob} (h : OB σ Z ω n j o ob) : OB σ2 Z ω2 m (j + k) (shiftO k o) ob := by
  cases o with
  | row cs =>
    obtain ⟨cs', h1, h2, h3⟩ := h
    refine ⟨cs', h1, by rw [shifts_len]; exact h2, fun off u v hu hv => ?_⟩
    obtain ⟨x, hx, rfl⟩ := shifts_get hu
    have := h3 off x v hx hv
    cases x with
    | bad => trivial
    | cown w xs => exact OR.to this (fun _ _ h => h) (hω off)
    | ptr i o => exact UR.shift hσ hm this
    | map i => exact UR.shift hσ hm this
    | func f a b => exact UR.shift hσ hm this
    | iface t v => exact UR.shift hσ hm this
    | agg cs => exact UR.shift hσ hm this
    | tup cs => exact UR.shift hσ hm this
    | bool b => exact UR.shift hσ hm this
    | int k x => exact UR.shift hσ hm this
    | str x => exact UR.shift hσ hm this
    | nilp => exact UR.shift hσ hm this
    | nils => exact UR.shift hσ hm this
    | nilm => exact UR.shift hσ hm this
    | nilf => exact UR.shift hσ hm this
    | nili => exact UR.shift hσ hm this
    | cptr r o => exact UR.shift hσ hm this
    | sl w xs => exact UR.shift hσ hm this
    | nl w => exact UR.shift hσ hm this
    | own g w xs => exact UR.shift hσ hm this
    | optr g i f => exact UR.shift hσ hm this
    | asl i o l w => exact UR.shift hσ hm this
  | map es c =>
    obtain ⟨es', h1, h2, h3⟩ := h
    refine ⟨es', h1, by simp [h2], fun q x y hx hy => ?_⟩
    rw [List.getElem?_map] at hx
    cases hq : es[q]? with
    | none => rw [hq] at hx; simp at hx
    | some z =>
      rw [hq] at hx; simp at hx; subst hx
      obtain ⟨k1, k2, k3⟩ := h3 q z y hq hy
      exact ⟨UR.shift hσ hm k1, UR.shift hσ hm k2, k3⟩
  | iter q a b c =>
    obtain ⟨h1, h2⟩ := h
    refine ⟨?_, fun i hi => ?_⟩
    · rw [h1]
      cases q with
      | none => rfl
      | some i => simp only [Option.map_some, hσ i (h2 i rfl)]
    · cases q with
      | none => cases hi
      | some i0 => simp at hi; subst hi; have := h2 i0 rfl; omega
  | gone => trivial
theorem Ok.backIso (h : Ok E σ Z ω s e st) {σ' : Sg} {Z' : Zs} {ω' : Om} {hc : List Uo} {fc fl2 : Nat} {st' : St} {r : U} {v : V} {d : Nat}
    (hb : Ok ⟨0, σ, images σ (fun _ => none) 0, Z, st, fun i => ([] : List Uo)[i]? = some .gone⟩ σ' Z' ω' ⟨[], hc, fc⟩ .e st') (ht : ∀ d, d ≠ 0 → ω' (.t d) = none) (hr : RR σ' Z' ω' hc.length r v) :
    ∃ σ2 ω2, Ok E σ2 Z' ω2 (bindR d (r.shift s.h.length) { s with h := s.h ++ hc.map (shiftO s.h.length), fl := fl2 }).2 e st' ∧
      TR σ2 Z' ω2 (bindR d (r.shift s.h.length) { s with h := s.h ++ hc.map (shiftO s.h.length), fl := fl2 }).2.h.length (bindR d (r.shift s.h.length) { s with h := s.h ++ hc.map (shiftO s.h.length), fl := fl2 }).1 v ∧
      (bindR d (r.shift s.h.length) { s with h := s.h ++ hc.map (shiftO s.h.length), fl := fl2 }).2.h = s.h ++ hc.map (shiftO s.h.length) ∧ (∀ i, i < s.h.length → σ2 i = σ i) ∧ ∀ b r, Z b = some r → Z' b = some r := by
  have hZ : ∀ b r, Z b = some r → Z' b = some r := hb.zz
  have hout : ∀ b, b < st.next → st'.get b = st.get b ∧ (∀ i, i < hc.length → σ' i ≠ b) ∧ (∀ g I, ω' g = some I → I.b ≠ b) ∧ (∀ r, Z' b = some r → Z b = some r) := fun b hb1 => hb.out b hb1 (no_images σ b)
  have hlt : ∀ g I, ω g = some I → I.b < st.next := fun g I hI => h.lt_next (h.wok g I hI)
  generalize hk : s.h.length = k at *
  let σ2 : Sg := fun i => if i < k then σ i else σ' (i - k)
  let ω2 : Om := fun g => match g with
    | .t x => ω (.t x)
    | .c i o => if i < k then ω (.c i o) else ω' (.c (i - k) o)
    | .r => none
  have hs1 : ∀ i, i < k → σ2 i = σ i := fun i hi => if_pos hi
  have hs2 : ∀ i, σ2 (i + k) = σ' i := fun i => by
    show (if i + k < k then σ (i + k) else σ' (i + k - k)) = _
    rw [if_neg (by omega), Nat.add_sub_cancel]
  have hc2 : ∀ g I, ω2 g = some I → (ω g = some I ∧ (∀ i o, g = .c i o → i < k)) ∨ (∃ i o, g = .c (i + k) o ∧ ω' (.c i o) = some I) := fun g I hI => by
    cases g with
    | t x => exact .inl ⟨hI, fun i o hh => by cases hh⟩
    | c i o =>
      have hI' : (if i < k then ω (.c i o) else ω' (.c (i - k) o)) = some I := hI
      by_cases hi : i < k
      · rw [if_pos hi] at hI'; exact .inl ⟨hI', fun i' o' hh => by cases hh; exact hi⟩
      · rw [if_neg hi] at hI'; exact .inr ⟨i - k, o, by congr 1; omega, hI'⟩
    | r => cases hI
  have hlen : (s.h ++ hc.map (shiftO k)).length = k + hc.length := by simp [hk]
  have hcase : ∀ i, i < k + hc.length → i < k ∨ ∃ j, i = j + k ∧ j < hc.length := fun i hi => by
    by_cases h1 : i < k
    · exact .inl h1
    · exact .inr ⟨i - k, by omega, by omega⟩
  have hOk : Ok E σ2 Z' ω2 { s with h := s.h ++ hc.map (shiftO k), fl := fl2 } e st' := by
    refine ⟨fun t u hu => ?_, fun i o ho => ?_, hb.zok, fun g I hI => ?_, hb.fresh, fun i j hi hj hij => ?_, fun g1 g2 I1 I2 h1 h2 hbb => ?_, fun i g I hi hI => ?_, fun i hi => ?_, fun g I hI => ?_, fun i hi => ?_, rfl, fun i off I hI => ?_,
      ?_, fun i hi => ?_, fun b r hbr => hZ b r (h.zz b r hbr), Nat.le_trans h.nx hb.nx, fun b hb1 hb2 => ?_, fun i hi => ?_⟩
    · obtain ⟨v, h1, h2⟩ := h.env t u hu
      rw [hk] at h2
      simp only [hlen]
      refine ⟨v, h1, h2.mono (by omega) hs1 hZ fun g hg => ?_⟩
      cases g with
      | t x => rfl
      | r => exact h.wr.symm
      | c i o =>
        show (if i < k then ω (.c i o) else ω' (.c (i - k) o)) = _
        rw [if_pos]
        cases u with
        | own g' w xs => simp [U.tag] at hg; subst hg; exact h2.2 i o rfl
        | optr g' i' f => simp [U.tag] at hg; subst hg; exact h2.2 i o rfl
        | _ => simp [U.tag] at hg
    · simp only [hlen]
      by_cases hi : i < k
      · have hi' : i < s.h.length := by omega
        simp only [List.getElem?_append_left hi'] at ho
        rw [hs1 i hi, (hout _ (h.sb i hi')).1]
        have := h.obj i o ho
        rw [hk] at this
        exact this.mono (by omega) hs1 hZ fun off => if_pos hi
      · simp only at ho
        rw [List.getElem?_append_right (by omega), List.getElem?_map, hk] at ho
        cases hq : hc[i - k]? with
        | none => rw [hq] at ho; simp at ho
        | some x =>
          rw [hq] at ho; simp at ho; subst ho
          have := hb.obj (i - k) x hq
          have e1 : i = (i - k) + k := by omega
          rw [e1, hs2]
          refine OB.shift (n := hc.length) (fun i hi => hs2 i) (by omega) (fun off => ?_) this
          show (if i - k + k < k then _ else ω' (.c (i - k + k - k) off)) = _
          rw [if_neg (by omega), Nat.add_sub_cancel]
    · rcases hc2 g I hI with ⟨hx, _⟩ | ⟨i, o, rfl, hx⟩
      · rw [(hout _ (hlt g I hx)).1]; exact h.wok g I hx
      · exact hb.wok _ I hx
    · simp only [hlen] at hi hj
      rcases hcase i hi with hi' | ⟨p, rfl, hp⟩ <;> rcases hcase j hj with hj' | ⟨q, rfl, hq⟩
      · rw [hs1 i hi', hs1 j hj'] at hij; exact h.inj i j (by omega) (by omega) hij
      · rw [hs1 i hi', hs2] at hij
        exact absurd hij.symm ((hout _ (h.sb i (by omega))).2.1 q hq)
      · rw [hs2, hs1 j hj'] at hij
        exact absurd hij ((hout _ (h.sb j (by omega))).2.1 p hp)
      · rw [hs2, hs2] at hij; rw [hb.inj p q hp hq hij]
    · rcases hc2 g1 I1 h1 with ⟨hx, _⟩ | ⟨i, o, rfl, hx⟩ <;> rcases hc2 g2 I2 h2 with ⟨hy, _⟩ | ⟨j, p, rfl, hy⟩
      · exact h.winj _ _ _ _ hx hy hbb
      · exact absurd hbb.symm ((hout _ (hlt g1 I1 hx)).2.2.1 _ _ hy)
      · exact absurd hbb ((hout _ (hlt g2 I2 hy)).2.2.1 _ _ hx)
      · have := hb.winj _ _ _ _ hx hy hbb
        cases this; rfl
    · simp only [hlen] at hi
      rcases hcase i hi with hi' | ⟨p, rfl, hp⟩ <;> rcases hc2 g I hI with ⟨hx, _⟩ | ⟨j, o, rfl, hx⟩
      · rw [hs1 i hi']; exact h.sw i g I (by omega) hx
      · rw [hs1 i hi']; exact fun hh => (hout _ (h.sb i (by omega))).2.2.1 _ _ hx hh.symm
      · rw [hs2]; exact (hout _ (hlt g I hx)).2.1 p hp
      · rw [hs2]; exact hb.sw p _ I hp hx
    · simp only [hlen] at hi
      rcases hcase i hi with hi' | ⟨p, rfl, hp⟩
      · rw [hs1 i hi']
        cases hz : Z' (σ i) with
        | none => rfl
        | some r => have := (hout _ (h.sb i (by omega))).2.2.2 r hz; rw [h.sz i (by omega)] at this; cases this
      · rw [hs2]; exact hb.sz p hp
    · rcases hc2 g I hI with ⟨hx, _⟩ | ⟨j, o, rfl, hx⟩
      · cases hz : Z' I.b with
        | none => rfl
        | some r => have := (hout _ (hlt g I hx)).2.2.2 r hz; rw [h.wz g I hx] at this; cases this
      · exact hb.wz _ I hx
    · simp only [hlen] at hi
      rcases hcase i hi with hi' | ⟨p, rfl, hp⟩
      · rw [hs1 i hi']; exact Nat.lt_of_lt_of_le (h.sb i (by omega)) hb.nx
      · rw [hs2]; exact hb.sb p hp
    · simp only [hlen]
      rcases hc2 (.c i off) I hI with ⟨hx, hy⟩ | ⟨j, o, he, hx⟩
      · have := hy i off rfl; omega
      · cases he
        have : j < hc.length := hb.wc j off I hx
        omega
    · simp only [hlen]; have := h.n0; omega
    · rw [hs1 i (by have := h.n0; omega)]; exact h.sig i hi
    · obtain ⟨k1, k2, k3, k4⟩ := h.out b hb1 hb2
      obtain ⟨q1, q2, q3, q4⟩ := hout b (Nat.lt_of_lt_of_le hb1 h.nx)
      refine ⟨by rw [q1, k1], fun i hi => ?_, fun g I hI => ?_, fun r hr => k4 r (q4 r hr)⟩
      · simp only [hlen] at hi
        rcases hcase i hi with hi' | ⟨p, rfl, hp⟩
        · rw [hs1 i hi']; exact k2 i (by omega)
        · rw [hs2]; exact q2 p hp
      · rcases hc2 g I hI with ⟨hx, _⟩ | ⟨j, o, rfl, hx⟩
        · exact k3 g I hx
        · exact q3 _ I hx
    · obtain ⟨k1, k2, k3⟩ := h.gn i hi
      have hlt := (List.getElem?_eq_some_iff.1 k2).1
      exact ⟨k1, by simp only [List.getElem?_append_left hlt]; exact k2, by rw [hs1 i (by omega), (hout _ (h.sb i hlt)).1]; exact k3⟩
  refine ⟨σ2, ?_⟩
  have hown : ∀ w xs, OR σ' Z' ω' (.t 0) w xs v → ∃ ω3, Ok E σ2 Z' ω3 (({ s with h := s.h ++ hc.map (shiftO k), fl := fl2 } : Vs).kill (.t d)) e st' ∧ OR σ2 Z' ω3 (.t d) w xs v := by
    intro w xs hor
    refine ⟨_, (hOk.kill (.t d)).setω (noTag_kill _ _) (by simp) (o := ω' (.t 0)) (fun J hJ => ?_), OR.to hor (fun _ _ h => h) (updF_same _ _ _)⟩
    refine ⟨hb.wok _ J hJ, fun i hi => ?_, hb.wz _ J hJ, fun g' I' hg' hI' hbb => ?_, fun b hb1 hb2 => (hout b (Nat.lt_of_lt_of_le hb1 h.nx)).2.2.1 _ _ hJ, fun i off hh => by cases hh⟩
    · rw [kill_len] at hi
      simp only [hlen] at hi
      rcases hcase i hi with hi' | ⟨p, rfl, hp⟩
      · rw [hs1 i hi']; exact fun hh => (hout _ (h.sb i (by omega))).2.2.1 _ _ hJ hh.symm
      · rw [hs2]; exact hb.sw p _ J hp hJ
    · rcases hc2 g' I' hI' with ⟨hx, _⟩ | ⟨j, o, rfl, hx⟩
      · exact (hout _ (hlt g' I' hx)).2.2.1 _ _ hJ hbb.symm
      · have := hb.winj _ _ _ _ hx hJ hbb
        cases this
  have hpl : ∀ u, UR σ' Z' hc.length u v → TR σ2 Z' ω2 (k + hc.length) (u.shift k) v := fun u hu => TR.of_ur (UR.shift (fun i hi => hs2 i) (by omega) hu)
  have hlen' : (s.h ++ hc.map (shiftO k)).length = k + hc.length := hlen
  cases r with
  | own g w xs =>
    cases g with
    | r =>
      obtain ⟨ω3, k1, k2⟩ := hown w xs hr
      exact ⟨ω3, k1, ⟨k2, fun i off hh => by cases hh⟩, rfl, hs1, hZ⟩
    | t x => exact hr.elim
    | c i o => exact hr.elim
  | bad => exact ⟨ω2, hOk, by simp only [bindR, U.shift]; trivial, rfl, hs1, hZ⟩
  | _ => exact ⟨ω2, hOk, by simp only [bindR, U.shift, hlen']; exact hpl _ hr, rfl, hs1, hZ⟩
theorem Ok.backLent (h : Ok E σ Z ω s e st) {σ' : Sg} {Z' : Zs} {ω' : Om} {fc : Nat} {st' : St} {r : U} {v : V} {d : Nat}
    (hb : Ok ⟨0, σ, images σ (fun _ => none) 0, lend ω Z, st, fun i => ([] : List Uo)[i]? = some .gone⟩ σ' Z' ω' ⟨[], [], fc⟩ .e st') (hr : RR σ' Z' ω' 0 r v) (hf : r.flat = true) :
    ∃ ω2, Ok E σ Z ω2 (bindR d r s).2 e st' ∧ TR σ Z ω2 (bindR d r s).2.h.length (bindR d r s).1 v ∧ (bindR d r s).2.h = s.h := by
  have hout : ∀ b, b < st.next → st'.get b = st.get b ∧ (∀ g I, ω' g = some I → I.b ≠ b) := fun b hb1 => ⟨(hb.out b hb1 (no_images σ b)).1, (hb.out b hb1 (no_images σ b)).2.2.1⟩
  have hOk : Ok E σ Z ω s e st' := h.mem hb.nx hb.fresh fun b hbb => (hout b (h.told_lt hbb)).1
  have hur : ∀ u, UR σ' Z' 0 u v → u.flat = true → TR σ Z ω s.h.length u v := fun u hu hf => TR.of_ur ((hu.flat hf).mono (Nat.zero_le _) (fun i hi => by omega) (fun _ _ h => h))
  cases r with
  | own g w xs =>
    cases g with
    | r =>
      have hor : OR σ' Z' ω' (.t 0) w xs v := hr
      refine ⟨_, (hOk.kill (.t d)).setω (noTag_kill _ _) (by simp) (o := ω' (.t 0)) (fun J hJ => ?_), ⟨OR.flat hor (updF_same _ _ _) (by simpa [U.flat] using hf), fun i off hh => by cases hh⟩, rfl⟩
      have hge : ∀ b, b < st.next → J.b ≠ b := fun b hb1 => (hout b hb1).2 _ _ hJ
      refine ⟨hb.wok _ J hJ, fun i hi hh => ?_, ?_, fun g' I' hg' hI' hbb => ?_, fun b hb1 hb2 => hge b (Nat.lt_of_lt_of_le hb1 h.nx), fun i off hh => by cases hh⟩
      · rw [kill_len] at hi; exact hge _ (h.sb i hi) hh.symm
      · cases hz : Z J.b with
        | none => rfl
        | some r => exact absurd rfl (hge _ (h.lt_next (h.zok _ _ hz)))
      · exact hge _ (h.lt_next (h.wok _ _ hI')) hbb.symm
    | t x => exact hr.elim
    | c i o => exact hr.elim
  | _ => exact ⟨ω, hOk, hur _ hr hf, rfl⟩
theorem call_sound {P : Nat → List V → St → (V → St → Prop) → Prop} {F : FU} (hP : ∀ f vs st k k', (∀ v s, k v s → k' v s) → P f vs st k → P f vs st k') (hF : FOK P F) {d f : Nat} {args : List U} {vs : List V} {u : U} (h : Ok E σ Z ω s e st) (hF0 : Fl s)
    (hl : args.length = vs.length) (ha : ∀ (j : Nat) u v, args[j]? = some u → vs[j]? = some v → TR σ Z ω s.h.length u v) (hc : callU F d f args s = some (u, s')) :
    P f vs st fun v st' => Fl s' ∧ ∃ σ' Z' ω', Ok E σ' Z' ω' s' e st' ∧ TR σ' Z' ω' s'.h.length u v ∧ s.h.length ≤ s'.h.length ∧ (∀ i, i < s.h.length → σ' i = σ i) ∧ (∀ b r, Z b = some r → Z' b = some r) ∧
      ((∀ us, argsU args = some us → U.lows 0 us = true) → ∀ b, b < st.next → st'.get b = st.get b) := by
  unfold callU at hc
  obtain ⟨us, hus⟩ : ∃ us, argsU args = some us := by
    cases hq : argsU args with
    | none => rw [hq] at hc; simp at hc
    | some us => exact ⟨us, rfl⟩
  · rw [hus] at hc
    simp only at hc
    cases hlow : U.lows 0 us with
    | true =>
      rw [hlow] at hc
      simp only [cond_true] at hc
      cases hcall : F f us [] 0 with
      | none => rw [hcall] at hc; simp at hc
      | some R =>
        obtain ⟨r, hcs, fc⟩ := R
        rw [hcall] at hc
        simp only [Option.some.injEq] at hc
        -- without what is lent
        have plain : ∀ {s1 : Vs} {Z1 : Zs} {ω1 : Om}, Ok E σ Z1 ω1 s1 e st → Fl s1 → s1.h.length = s.h.length → (∀ b r, Z b = some r → Z1 b = some r) → LU σ Z1 s.h.length us vs →
            landR d r hcs fc s1 = (u, s') →
            P f vs st fun v st' => Fl s' ∧ ∃ σ' Z' ω', Ok E σ' Z' ω' s' e st' ∧ TR σ' Z' ω' s'.h.length u v ∧ s.h.length ≤ s'.h.length ∧ (∀ i, i < s.h.length → σ' i = σ i) ∧ (∀ b r, Z b = some r → Z' b = some r) ∧
              ((∀ us, argsU args = some us → U.lows 0 us = true) → ∀ b, b < st.next → st'.get b = st.get b) := by
          intro s1 Z1 ω1 h1 hf1 hlen hZ hlu hfin
          have hlu0 : LU σ Z1 0 us vs := hlu.low hlow
          refine hP _ _ _ _ _ ?_ (hF f us [] 0 r hcs fc hcall σ Z1 (fun _ => none) st vs (h1.iso h1.zok 0) ⟨Nat.le_refl _, fun i o ho => by simp at ho⟩ (fun _ => rfl) hlu0)
          rintro v st' ⟨k0, σ', Z', ω', k1, k2, k3⟩
          have hfs : Fl s' := by have := hf1.land k0 d r; rw [hfin] at this; exact this
          refine ⟨hfs, ?_⟩
          obtain ⟨σ2, ω2, q1, q2, q3, q4, q5⟩ := h1.backIso (d := d) (fl2 := bif Nat.beq fc 0 then s1.fl else s1.h.length + fc) k1 k2 k3
          have hframe : ∀ b, b < st.next → st'.get b = st.get b := fun b hb => (k1.out b hb (no_images σ b)).1
          cases hcs with
          | nil =>
            simp only [landR] at hfin
            -- nothing is laid
            have hOk2 : ∃ σ2 ω2, Ok E σ2 Z' ω2 (bindR d r s1).2 e st' ∧ TR σ2 Z' ω2 (bindR d r s1).2.h.length (bindR d r s1).1 v ∧ (bindR d r s1).2.h = s1.h ∧ ∀ i, i < s1.h.length → σ2 i = σ i := by
              obtain ⟨σ2, ω2, q1, q2, q3, q4, q5⟩ := h1.backIso (d := d) (fl2 := s1.fl) k1 k2 k3
              have e1 : ({ s1 with h := s1.h ++ List.map (shiftO s1.h.length) [], fl := s1.fl } : Vs) = s1 := by simp
              rw [e1] at q1 q2 q3
              have hpl : ∀ {u : U}, UR σ' Z' 0 u v → TR σ2 Z' ω2 s1.h.length u v := fun hu => TR.of_ur (hu.mono (Nat.zero_le _) (fun i hi => by omega) (fun _ _ h => h))
              cases r with
              | own g w xs =>
                cases g with
                | r => exact ⟨σ2, ω2, q1, q2, by simpa [bindR, U.shift] using q3, q4⟩
                | t x => exact k3.elim
                | c i o => exact k3.elim
              | _ => exact ⟨σ2, ω2, q1, hpl k3, rfl, q4⟩
            obtain ⟨σ2, ω3, p1, p2, p3, p4⟩ := hOk2
            rw [hfin] at p1 p2 p3
            exact ⟨σ2, Z', ω3, p1, p2, by rw [p3]; omega, fun i hi => p4 i (by omega), fun b r hb => q5 b r (hZ b r hb), fun _ => hframe⟩
          | cons a as =>
            simp only [landR] at hfin
            rw [hfin] at q1 q2 q3
            exact ⟨σ2, Z', ω2, q1, q2, by rw [q3]; simp; omega, fun i hi => q4 i (by omega), fun b r hb => q5 b r (hZ b r hb), fun _ => hframe⟩
        have hOwnArgs : ∀ {Z' : Zs}, (∀ b r, Z b = some r → Z' b = some r) → (∀ g w xs I, .own g w xs ∈ args → ω g = some I → Z' I.b = some I.row) → LU σ Z' s.h.length us vs := fun hz ho => args_lu hz hus hl ha ho
        cases hany : anyOwn args with
        | false =>
          rw [hany] at hc
          simp only [Bool.false_and, cond_false] at hc
          have hno : ∀ {args : List U}, anyOwn args = false → ∀ g w xs, .own g w xs ∉ args := by
            intro args
            induction args with
            | nil => intro _ g w xs hm; cases hm
            | cons a args ih =>
              intro h g w xs hm
              simp only [anyOwn, Bool.or_eq_false_iff] at h
              rcases List.mem_cons.1 hm with hh | hh
              · rw [← hh] at h; cases h.1
              · exact ih h.2 g w xs hh
          exact plain h hF0 rfl (fun _ _ h => h) (hOwnArgs (fun _ _ h => h) fun g w xs I hm => absurd hm (hno hany g w xs)) hc
        | true =>
          rw [hany] at hc
          simp only [Bool.true_and] at hc
          cases hfl : (r.flat && hcs.isEmpty) with
          | false =>
            rw [hfl] at hc
            simp only [Bool.not_false, cond_true] at hc
            obtain ⟨Z1, ω1, b1, b2, b3, b4, b5⟩ := frzArgs_ok (args := args) h
            exact plain b1 hF0.frzArgs b3 b2 (hOwnArgs b2 b5) hc
          | true =>
            rw [hfl] at hc
            simp only [Bool.not_true, cond_false] at hc
            simp only [Bool.and_eq_true] at hfl
            have hc0 : hcs = [] := by cases hcs with | nil => rfl | cons a as => simp at hfl
            subst hc0
            simp only [landR] at hc
            have hlu0 : LU σ (lend ω Z) 0 us vs := (hOwnArgs (fun b r hb => lend_Z h hb) fun g w xs I _ hg => lend_own h hg).low hlow
            have hlz : ∀ b r, lend ω Z b = some r → st.get b = some (.row r) := fun b r hb => by
              rcases lend_cases hb with hb | ⟨g, I, hg, rfl, rfl⟩
              · exact h.zok b r hb
              · exact h.wok g I hg
            refine hP _ _ _ _ _ ?_ (hF f us [] 0 r [] fc hcall σ (lend ω Z) (fun _ => none) st vs (h.iso hlz 0) ⟨Nat.le_refl _, fun i o ho => by simp at ho⟩ (fun _ => rfl) hlu0)
            rintro v st' ⟨k0, σ', Z', ω', k1, k2, k3⟩
            refine ⟨by have := hF0.bindR d r; rw [hc] at this; exact this, ?_⟩
            obtain ⟨ω2, p1, p2, p3⟩ := h.backLent (d := d) k1 k3 hfl.1
            rw [hc] at p1 p2 p3
            exact ⟨σ, Z, ω2, p1, p2, by rw [p3]; exact Nat.le_refl _, fun _ _ => rfl, fun _ _ h => h, fun _ b hb => (k1.out b hb (no_images σ b)).1⟩
    | false =>
      rw [hlow] at hc
      simp only [cond_false] at hc
      obtain ⟨Z1, ω1, b1, b2, b3, b4, b5⟩ := frzArgs_ok (args := args) h
      cases hcall : F f us (frzArgs args s).h (frzArgs args s).fl with
      | none => rw [hcall] at hc; simp at hc
      | some R =>
        obtain ⟨r, h', fl'⟩ := R
        rw [hcall] at hc
        simp only [Option.some.injEq] at hc
        have hlu : LU σ Z1 s.h.length us vs := args_lu b2 hus hl ha b5
        refine hP _ _ _ _ _ ?_ (hF f us _ _ r h' fl' hcall σ Z1 (onlyC ω1) st vs (b1.shared _) (hF0.frzArgs.env []) (fun _ => rfl) (by rw [b3]; exact hlu))
        rintro v st' ⟨k0, σ', Z', ω', k1, k2, k3⟩
        refine ⟨by have := Fl.bindR (s := { e := Env.killIf Tg.isC (frzArgs args s).e, h := h', fl := fl' }) ⟨k0.le, k0.ob⟩ d r; rw [hc] at this; exact this, ?_⟩
        obtain ⟨ω2, p1, p2, p3⟩ := b1.backShared (d := d) k1 k2 k3
        rw [hc] at p1 p2 p3
        have hn0 : (frzArgs args s).h.length ≤ h'.length := k1.n0
        exact ⟨σ', Z', ω2, p1, p2, by rw [p3]; omega, fun i hi => k1.sig i (by show i < (frzArgs args s).h.length; omega), fun b r hb => k1.zz b r (b2 b r hb), fun hq => absurd (hq us hus) (by rw [hlow]; simp)⟩
end
end Go.RE
namespace Go.RE
variable {C : Nat → Option CFunc} {M : Nat → String → Option Nat}
theorem fin_max {Q : Nat → Nat → Prop} (hm : ∀ i a b, a ≤ b → Q i a → Q i b) : ∀ {n : Nat}, (∀ i, i < n → ∃ m, Q i m) → ∃ m, ∀ i, i < n → Q i m := by
  intro n
  induction n with
  | zero => intro _; exact ⟨0, fun i hi => by omega⟩
  | succ n ih =>
    intro h
    obtain ⟨m, h1⟩ := ih fun i hi => h i (by omega)
    obtain ⟨k, h2⟩ := h n (by omega)
    refine ⟨max m k, fun i hi => ?_⟩
    by_cases hin : i < n
    · exact hm _ _ _ (Nat.le_max_left _ _) (h1 i hin)
    · have : i = n := by omega
      subst this; exact hm _ _ _ (Nat.le_max_right _ _) h2
abbrev Fam := Nat → Nat → List V → St → (V → St → Prop) → Prop
def FamMono (Fn : Fam) : Prop := ∀ a b, a ≤ b → FLe (Fn a) (Fn b)
def FamCont (Fn : Fam) (n : Nat) : Prop := ∀ f args s (K : Nat → V → St → Prop), (∀ a b v s, a ≤ b → K a v s → K b v s) → Fn n f args s (fun v s => ∃ m, K m v s) → ∃ m, n ≤ m ∧ Fn m f args s (K m)
theorem next_cont {K : Nat → V → St → Prop} (hK : ∀ a b v s, a ≤ b → K a v s → K b v s) {s : St} {b : Nat} (h : evNext s b fun v s => ∃ m, K m v s) : ∃ m, evNext s b (K m) := by
  unfold evNext at h ⊢
  cases hs : s.get b with
  | none => simp only [hs] at h; exact h.elim
  | some ob =>
    cases ob with
    | row cs => simp only [hs] at h; exact h.elim
    | map es c => simp only [hs] at h; exact h.elim
    | dead => simp only [hs] at h; exact h.elim
    | miter m since seen last =>
      cases m with
      | none => simp only [hs] at h ⊢; exact h
      | some mm =>
        simp only [hs] at h ⊢
        cases hm : s.get mm with
        | none => simp only [hm] at h; exact h.elim
        | some ob2 =>
          cases ob2 with
          | row cs => simp only [hm] at h; exact h.elim
          | miter a b c d => simp only [hm] at h; exact h.elim
          | dead => simp only [hm] at h; exact h.elim
          | map es clock =>
            simp only [hm] at h ⊢
            cases hst : (!seen.isEmpty && !es.isEmpty && es.all (fun e => Nat.ble last e.born)) with
            | true => rw [hst] at h; exact h.elim
            | false =>
              rw [hst] at h
              simp only [cond_false] at h ⊢
              let Q : Nat → Nat → Prop := fun i m => match (mapCands es since seen)[i]? with
                | some (some e) => K m (.tup [.bool true, e.key, e.val]) (s.put b (.miter (some mm) since (seen ++ [e.born]) clock))
                | some none => K m (.tup [.bool false]) s
                | none => Ans.fail
              have hq := fin_max (Q := Q) (n := (mapCands es since seen).length) (fun i x y hxy hh => by
                show (match (mapCands es since seen)[i]? with
                  | some (some e) => K y (.tup [.bool true, e.key, e.val]) (s.put b (.miter (some mm) since (seen ++ [e.born]) clock))
                  | some none => K y (.tup [.bool false]) s
                  | none => Ans.fail)
                have hh' : (match (mapCands es since seen)[i]? with
                  | some (some e) => K x (.tup [.bool true, e.key, e.val]) (s.put b (.miter (some mm) since (seen ++ [e.born]) clock))
                  | some none => K x (.tup [.bool false]) s
                  | none => Ans.fail) := hh
                cases hc : (mapCands es since seen)[i]? with
                | none => simp only [hc] at hh'; exact hh'
                | some c =>
                  simp only [hc] at hh'
                  cases c with
                  | none => exact hK _ _ _ _ hxy hh'
                  | some e => exact hK _ _ _ _ hxy hh') (fun i hi => by
                have hh := h i hi
                cases hc : (mapCands es since seen)[i]? with
                | none => simp only [hc] at hh; exact hh.elim
                | some c =>
                  simp only [hc] at hh
                  cases c with
                  | none =>
                    obtain ⟨m, hm⟩ := hh
                    refine ⟨m, ?_⟩
                    show (match (mapCands es since seen)[i]? with
                      | some (some e) => K m (.tup [.bool true, e.key, e.val]) (s.put b (.miter (some mm) since (seen ++ [e.born]) clock))
                      | some none => K m (.tup [.bool false]) s
                      | none => Ans.fail)
                    rw [hc]; exact hm
                  | some e =>
                    obtain ⟨m, hm⟩ := hh
                    refine ⟨m, ?_⟩
                    show (match (mapCands es since seen)[i]? with
                      | some (some e) => K m (.tup [.bool true, e.key, e.val]) (s.put b (.miter (some mm) since (seen ++ [e.born]) clock))
                      | some none => K m (.tup [.bool false]) s
                      | none => Ans.fail)
                    rw [hc]; exact hm)
              obtain ⟨m, hm⟩ := hq
              exact ⟨m, hm⟩
theorem op_cont {Fn : Fam} {n : Nat} (hM : FamMono Fn) (hF : FamCont Fn n) {K : Nat → V → St → Prop} (hK : ∀ a b v s, a ≤ b → K a v s → K b v s) {env : PT V} {s : St} {o : COp} (h : evOp M (Fn n) env s o fun v s => ∃ m, K m v s) :
    ∃ m, n ≤ m ∧ evOp M (Fn m) env s o (K m) := by
  have up : ∀ {m : Nat} {v s}, K m v s → K (max n m) v s := fun h => hK _ _ _ _ (Nat.le_max_right _ _) h
  cases o with
  | s o =>
    simp only [evOp] at h ⊢
    split at h
    · obtain ⟨m, hm⟩ := h; exact ⟨max n m, Nat.le_max_left _ _, up hm⟩
    · exact h.elim
  | m o =>
    simp only [evOp] at h ⊢
    split at h
    · obtain ⟨m, hm⟩ := h; exact ⟨max n m, Nat.le_max_left _ _, up hm⟩
    · exact h.elim
  | h o =>
    simp only [evOp] at h ⊢
    split at h
    · obtain ⟨m, hm⟩ := h; exact ⟨max n m, Nat.le_max_left _ _, up hm⟩
    · exact h.elim
  | call f args =>
    simp only [evOp] at h ⊢
    split at h
    · exact hF _ _ _ _ hK h
    · exact h.elim
  | invoke name x args =>
    simp only [evOp] at h ⊢
    split at h
    · split at h
      · exact hF _ _ _ _ hK h
      · exact h.elim
    · exact h.elim
  | next x =>
    simp only [evOp] at h ⊢
    split at h
    · obtain ⟨m, hm⟩ := next_cont hK h
      exact ⟨max n m, Nat.le_max_left _ _, evOp_mono (F := Fn 0) (F' := Fn 0) (M := M) (env := env) (o := .next (.c (.ptr _ 0))) (fun f args s k k' hk h => hM 0 0 (Nat.le_refl _) f args s k k' hk h) (fun v s h => up h) (by simpa [evOp, Opd.ev] using hm)⟩
    · exact h.elim
  | bad => exact h.elim
theorem recheck_cont {s : St} {p : Nat} {K : Nat → Prop} : ∀ {recs : Recs}, recheck s p recs (∃ m, K m) → ∃ m, recheck s p recs (K m) := by
  intro recs
  induction recs with
  | nil => intro h; exact h
  | cons x r ih =>
    intro h
    obtain ⟨i, op, env, v⟩ := x
    simp only [recheck] at h ⊢
    cases hb : Nat.testBit p i with
    | true => rw [hb] at h; exact ih h
    | false =>
      rw [hb] at h
      simp only [cond_false] at h ⊢
      split at h
      · obtain ⟨m, hm⟩ := ih h.2; exact ⟨m, h.1, hm⟩
      · exact h.elim
theorem evF_as {n f : Nat} {args : List V} {s : St} {k : V → St → Prop} : callP C M n f args s k = (match C f with
    | none => False
    | some fn => bif Nat.ble args.length fn.ntmps then evC C M n fn.body (initEnv args 0 .e) s (kFn fn k) else False) := by
  unfold callP evF
  cases C f with
  | none => rfl
  | some fn =>
    simp only
    cases Nat.ble args.length fn.ntmps with
    | false => rfl
    | true =>
      simp only [cond_true]
      congr 1
theorem callP_fle {a b : Nat} (h : a ≤ b) : FLe (callP C M a) (callP C M b) := fun f args s k k' hk hc => evF_mono h hk hc
theorem kFn_cont {fn : CFunc} {K : Nat → V → St → Prop} {ex : Ex} {env : PT V} {s : St} (h : kFn fn (fun v s => ∃ m, K m v s) ex env s) : ∃ m, kFn fn (K m) ex env s := by
  cases ex with
  | exit i => exact h.elim
  | normal =>
    simp only [kFn_normal] at h ⊢
    cases hr : resAll env s fn.results with
    | none => rw [hr] at h; exact h.elim
    | some v => rw [hr] at h; exact h
  | ret =>
    simp only [kFn_ret] at h ⊢
    cases hr : resAll env s fn.results with
    | none => rw [hr] at h; exact h.elim
    | some v => rw [hr] at h; exact h
theorem kFn_mono {fn : CFunc} {k k' : V → St → Prop} (hk : ∀ v s, k v s → k' v s) {ex : Ex} {env : PT V} {s : St} (h : kFn fn k ex env s) : kFn fn k' ex env s := by
  cases ex with
  | exit i => exact h.elim
  | normal =>
    simp only [kFn_normal] at h ⊢
    cases hr : resAll env s fn.results with
    | none => rw [hr] at h; exact h.elim
    | some v => rw [hr] at h; exact hk _ _ h
  | ret =>
    simp only [kFn_ret] at h ⊢
    cases hr : resAll env s fn.results with
    | none => rw [hr] at h; exact h.elim
    | some v => rw [hr] at h; exact hk _ _ h
theorem evC_cont : ∀ {n : Nat} {c : CCode} {env : PT V} {s : St} {K : Nat → Ex → PT V → St → Prop}, (∀ a b e env s, a ≤ b → K a e env s → K b e env s) → evC C M n c env s (fun e env s => ∃ m, K m e env s) → ∃ m, n ≤ m ∧ evC C M m c env s (K m) := by
  intro n
  induction n with
  | zero => intro _ _ _ _ _ h; exact h.elim
  | succ n ih =>
    intro c env s K hK h
    have hfam : FamCont (callP C M) n := by
      intro f args s K hK h
      rw [evF_as] at h
      cases hf : C f with
      | none => rw [hf] at h; exact h.elim
      | some fn =>
        rw [hf] at h
        simp only at h
        cases hb : Nat.ble args.length fn.ntmps with
        | false => rw [hb] at h; exact h.elim
        | true =>
          rw [hb] at h
          simp only [cond_true] at h
          obtain ⟨m, h1, h2⟩ := ih (K := fun m => kFn fn (K m)) (fun a b e env s hab h => kFn_mono (fun v s h => hK a b v s hab h) h) (evC_mono (Nat.le_refl n) (fun e env s h => kFn_cont h) h)
          refine ⟨m, h1, ?_⟩
          rw [evF_as, hf]
          simp only [hb, cond_true]; exact h2
    -- one step more
    have up : ∀ {m : Nat} {c env s}, n ≤ m → evC C M (m + 1) c env s (K m) → ∃ m, n + 1 ≤ m ∧ evC C M m c env s (K m) := fun {m c env s} hm h =>
      ⟨m + 1, by omega, evC_mono (Nat.le_refl _) (fun e env s h => hK _ _ _ _ _ (Nat.le_succ _) h) h⟩
    have now : ∀ {e env' s'}, (∃ m, K m e env' s') → ∃ m, n ≤ m ∧ K m e env' s' := fun ⟨m, hm⟩ => ⟨max n m, Nat.le_max_left _ _, hK _ _ _ _ _ (Nat.le_max_right _ _) hm⟩
    cases c with
    | skip => obtain ⟨m, h1, h2⟩ := now h; exact up h1 (by rw [evC_skip]; exact h2)
    | ret => obtain ⟨m, h1, h2⟩ := now h; exact up h1 (by rw [evC_ret]; exact h2)
    | exit i => obtain ⟨m, h1, h2⟩ := now h; exact up h1 (by rw [evC_exit]; exact h2)
    | bad => exact h.elim
    | prim p q =>
      simp only [evC] at h
      split at h
      · rename_i vs hv
        split at h
        · rename_i v s2 hp
          obtain ⟨m, h1, h2⟩ := now h
          refine up h1 ?_
          simp only [evC, hv, hp]; exact h2
        · exact h.elim
      · exact h.elim
    | region ops =>
      rw [evC_region] at h
      -- the rest, at whatever fuel
      have key : ∀ {ops : List COper} {env : PT V} {s : St}, evSeq M (callP C M n) ops env s (fun env s => ∃ m, K m .normal env s) → ∃ m, n ≤ m ∧ evSeq M (callP C M m) ops env s (K m .normal) := by
        intro ops
        induction ops with
        | nil => intro env s h; exact now h
        | cons o r ih2 =>
          intro env s h
          simp only [evSeq] at h ⊢
          split at h
          · have h2 : evOp M (callP C M n) env s o.op fun v s' => ∃ m, evSeq M (callP C M m) r (putD o.dst v env) s' (K m .normal) := evOp_mono (callP_fle (Nat.le_refl _)) (fun v s' h => let ⟨m, _, hm⟩ := ih2 h; ⟨m, hm⟩) h
            exact op_cont (K := fun m v s' => evSeq M (callP C M m) r (putD o.dst v env) s' (K m .normal)) (fun a b hab => callP_fle hab) hfam (fun a b v s hab h => evSeq_mono (callP_fle hab) (fun e s h => hK a b _ e s hab h) h) h2
          · exact ih2 h
          · exact h.elim
      obtain ⟨m, h1, h2⟩ := key h
      exact up h1 (by rw [evC_region]; exact h2)
    | draw ops =>
      rw [evC_draw] at h
      have key : ∀ {k : Nat} {todo : List (Nat × COper)} {done : Nat} {env : PT V} {s : St} {recs : Recs}, evDraw M (callP C M n) k todo done env s recs (fun env s => ∃ m, K m .normal env s) → ∃ m, n ≤ m ∧ evDraw M (callP C M m) k todo done env s recs (K m .normal) := by
        intro k
        induction k with
        | zero => intro _ _ _ _ _ h; exact h.elim
        | succ k ih2 =>
          intro todo done env s recs h
          simp only [evDraw] at h ⊢
          split at h
          · exact h.elim
          · split at h
            · split at h
              · exact now h
              · exact h.elim
            · rename_i i o rest _
              generalize (within o.preds _ && rest.all _) = b at h ⊢
              cases b with
              | false => exact h.elim
              | true =>
                simp only [cond_true] at h ⊢
                split at h
                · have h2 := evOp_mono (callP_fle (Nat.le_refl n)) (k' := fun v s' => ∃ m, recheck s' o.preds _ (evDraw M (callP C M m) k rest _ (putD o.dst v _) s' (keepRecs o.preds _) (K m .normal))) (fun v s' h => recheck_cont (recheck_mono (fun h => let ⟨m, _, hm⟩ := ih2 h; ⟨m, hm⟩) h)) h
                  exact op_cont (K := fun m v s' => recheck s' o.preds _ (evDraw M (callP C M m) k rest _ (putD o.dst v _) s' (keepRecs o.preds _) (K m .normal))) (fun a b hab => callP_fle hab) hfam (fun a b v s hab h => recheck_mono (fun h => evDraw_mono (callP_fle hab) (fun e s h => hK a b _ e s hab h) h) h) h2
                · exact ih2 h
                · exact h.elim
      obtain ⟨m, h1, h2⟩ := key h
      exact up h1 (by rw [evC_draw]; exact h2)
    | cond x a b =>
      simp only [evC] at h
      split at h
      · rename_i hx
        obtain ⟨m, h1, h2⟩ := ih hK h
        exact up h1 (by simp only [evC, hx]; exact h2)
      · rename_i hx
        obtain ⟨m, h1, h2⟩ := ih hK h
        exact up h1 (by simp only [evC, hx]; exact h2)
      · exact h.elim
    | block id b =>
      rw [evC_block] at h
      obtain ⟨m, h1, h2⟩ := ih (K := fun m => kBlock id (K m)) (fun a b e env s hab h => by
        cases e with
        | normal => exact hK a b _ env s hab h
        | ret => exact hK a b _ env s hab h
        | exit i =>
          simp only [kBlock_exit] at h ⊢
          split
          · rename_i hi; rw [if_pos hi] at h; exact hK a b _ env s hab h
          · rename_i hi; rw [if_neg hi] at h; exact hK a b _ env s hab h) (evC_mono (Nat.le_refl n) (fun e env s h => by
        cases e with
        | normal => exact h
        | ret => exact h
        | exit i =>
          simp only [kBlock_exit] at h ⊢
          split
          · rename_i hi; rw [if_pos hi] at h; exact h
          · rename_i hi; rw [if_neg hi] at h; exact h) h)
      exact up h1 (by rw [evC_block]; exact h2)
    | seq a b =>
      rw [evC_seq] at h
      obtain ⟨m, h1, h2⟩ := ih (K := fun m => kSeq C M m b (K m)) (fun x y e env s hab h => by
        cases e with
        | normal => exact evC_mono hab (fun e env s h => hK x y _ env s hab h) h
        | ret => exact hK x y _ env s hab h
        | exit i => exact hK x y _ env s hab h) (evC_mono (Nat.le_refl n) (fun e env s h => by
        cases e with
        | normal => exact let ⟨m, _, hm⟩ := ih hK h; ⟨m, hm⟩
        | ret => exact h
        | exit i => exact h) h)
      exact up h1 (by rw [evC_seq]; exact h2)
    | loop b =>
      have h' : evC C M n b env s (kSeq C M n (.loop b) fun e env s => ∃ m, K m e env s) := h
      obtain ⟨m, h1, h2⟩ := ih (K := fun m => kSeq C M m (.loop b) (K m)) (fun x y e env s hab h => by
        cases e with
        | normal => exact evC_mono hab (fun e env s h => hK x y _ env s hab h) h
        | ret => exact hK x y _ env s hab h
        | exit i => exact hK x y _ env s hab h) (evC_mono (Nat.le_refl n) (fun e env s h => by
        cases e with
        | normal => exact let ⟨m, _, hm⟩ := ih hK h; ⟨m, hm⟩
        | ret => exact h
        | exit i => exact h) h')
      exact up h1 h2
theorem callP_cont {n f : Nat} {args : List V} {s : St} {K : Nat → V → St → Prop} (hK : ∀ a b v s, a ≤ b → K a v s → K b v s) (h : callP C M n f args s (fun v s => ∃ m, K m v s)) : ∃ m, n ≤ m ∧ callP C M m f args s (K m) := by
  rw [evF_as] at h
  cases hf : C f with
  | none => rw [hf] at h; exact h.elim
  | some fn =>
    rw [hf] at h
    simp only at h
    cases hb : Nat.ble args.length fn.ntmps with
    | false => rw [hb] at h; exact h.elim
    | true =>
      rw [hb] at h
      simp only [cond_true] at h
      obtain ⟨m, h1, h2⟩ := evC_cont (K := fun m => kFn fn (K m)) (fun a b e env s hab h => kFn_mono (fun v s h => hK a b v s hab h) h) (evC_mono (Nat.le_refl n) (fun e env s h => kFn_cont h) h)
      refine ⟨m, h1, ?_⟩
      rw [evF_as, hf]
      simp only [hb, cond_true]; exact h2
end Go.RE
namespace Go.RE
def callW (C : Nat → Option CFunc) (M : Nat → String → Option Nat) : Nat → List V → St → (V → St → Prop) → Prop := fun f vs st k => ∃ N, callP C M N f vs st k
def QOK (P : Nat → List V → St → (V → St → Prop) → Prop) (Q : Mut) : Prop :=
  ∀ f q, Q f = some q → ∀ (xs : List (List U)) (rest : List U) (ys : List (List U)), q xs rest = some ys → ∀ (E : Ent) (σ : Sg) (Z : Zs) (ω : Om) (s : Vs) (e : PT V) (st : St) (g : Tg) (w : Nat) (v : V) (vs : List V) (p0 : Nat × List (List U)),
    Ok E σ Z ω s e st → s.ownC g = some p0 → OR σ Z ω g w xs v → rest.length = vs.length → (∀ (j : Nat) u v, rest[j]? = some u → vs[j]? = some v → TR σ Z ω s.h.length u v) →
    P f (v :: vs) st fun r st' => r = .tup [] ∧ ∃ ω', Ok E σ Z ω' (s.upd g w ys) e st'
section
variable {C : Nat → Option CFunc} {M : Nat → String → Option Nat} {Q : Mut} {F : FU}
variable {E : Ent} {σ : Sg} {Z : Zs} {ω : Om} {s s' : Vs} {e : PT V} {st : St} {n : Nat}
theorem callW_mono {f : Nat} {vs : List V} {st : St} {k k' : V → St → Prop} (hk : ∀ v s, k v s → k' v s) (h : callW C M f vs st k) : callW C M f vs st k' := let ⟨N, h⟩ := h; ⟨N, evF_mono (Nat.le_refl _) hk h⟩
theorem upd_len (g : Tg) (w : Nat) (ys : List (List U)) (s : Vs) : (s.upd g w ys).h.length = s.h.length := by
  unfold Vs.upd
  split
  · simp only; unfold setCell; split <;> simp
  · rfl
def Op1 (E : Ent) (σ : Sg) (Z : Zs) (s1 : Vs) (e : PT V) (st : St) (n : Nat) (u : U) (q : Bool) (v : V) (st' : St) : Prop :=
  Fl s1 ∧ ∃ σ' Z' ω', Ok E σ' Z' ω' s1 e st' ∧ TR σ' Z' ω' s1.h.length u v ∧ n ≤ s1.h.length ∧ (∀ i, i < n → σ' i = σ i) ∧ (∀ b r, Z b = some r → Z' b = some r) ∧ (q = true → ∀ b, b < st.next → st'.get b = st.get b)
theorem opC_sound (hF : FOK (callW C M) F) (hQ : QOK (callW C M) Q) {dst : Option Nat} {o : COp} {u : U} (h : opC M Q F s dst o = some (u, s')) (hk : Ok E σ Z ω s e st) (hfl : Fl s) :
    ∃ N, evOp M (callP C M N) e st o.er (Op1 E σ Z s' e st s.h.length u (quietU Q s o)) := by
  cases o with
  | s o =>
    simp only [opC] at h
    obtain ⟨Z', ω', v, h1, h2, h3, h4, h5⟩ := opS_sound h hk
    exact ⟨0, by simp only [COp.er, evOp, h1]; exact ⟨opS_fl h hfl, σ, Z', ω', h2, h3, by omega, fun _ _ => rfl, h5, fun _ b _ => rfl⟩⟩
  | m o =>
    simp only [opC] at h
    obtain ⟨σ', Z', ω', ob, f, h1, h2, h3, h4, h5, h6⟩ := opM_sound h hk
    exact ⟨0, by simp only [COp.er, evOp, h1]; exact ⟨opM_fl h hk hfl, σ', Z', ω', h2, h3, h4, h5, h6, fun hq => by simp [quietU] at hq⟩⟩
  | h o =>
    have gen : opH (dst.getD 0) s o = some (u, s') → ∃ N, evOp M (callP C M N) e st (COp.h o).er (Op1 E σ Z s' e st s.h.length u (quietU Q s (.h o))) := fun h => by
      obtain ⟨Z', ω', v, st', h1, h2, h3, h4, h5⟩ := opH_sound h hk
      exact ⟨0, by simp only [COp.er, evOp, h1]; exact ⟨opH_fl h hk hfl, σ, Z', ω', h2, h3, by omega, fun _ _ => rfl, h5, fun hq => by simp [quietU] at hq⟩⟩
    cases o with
    | range x =>
      simp only [opC] at h
      -- a new place to stand at
      have mk : ∀ {m : Option Nat} {since last : Nat} {ob : Ob}, ob = .miter (m.map σ) since [] last → (∀ j, m = some j → j < s.h.length) → u = .ptr s.h.length 0 → s' = { s with h := s.h ++ [.iter m since [] last] } →
          Op1 E σ Z s' e st s.h.length u (quietU Q s (.h (.range x))) (.ptr st.next 0) (st.alloc ob) := by
        rintro m since last ob rfl hm rfl rfl
        have hj : ∀ j, j < s.h.length → updF σ s.h.length st.next j = σ j := fun j hj => updF_ne _ _ (by omega)
        obtain ⟨k1, k2⟩ := hk.newOb (o := .iter m since [] last) (ob := .miter (m.map σ) since [] last) ⟨by
          cases m with
          | none => rfl
          | some j => simp only [Option.map_some, hj j (hm j rfl)], fun j hj => by have := hm j hj; omega⟩
        refine ⟨hfl.push (o := .iter m since [] last) (by
          cases m with
          | none => rfl
          | some j => simp only [Uo.low, Nat.blt, Nat.ble_eq]; have := hm j rfl; omega) s.e, _, Z, ω, k1, ?_, by simp, hj, fun _ _ h => h, fun hq => by simp [quietU] at hq⟩
        have := UR.ptr (σ := updF σ s.h.length st.next) (Z := Z) (n := (s.h ++ [Uo.iter m since [] last]).length) (i := s.h.length) (off := 0) (by simp)
        rw [updF_same] at this
        exact TR.of_ur this
      split at h <;> try (simp at h; done)
      · rename_i hx
        simp only [Option.some.injEq, Prod.mk.injEq] at h
        obtain ⟨rfl, rfl⟩ := h
        obtain ⟨vx, x1, x2⟩ := hk.opd hx
        obtain rfl := TR.nilm x2
        exact ⟨0, by simp only [COp.er, HOp.er, evOp, evH, x1]; exact mk (m := none) rfl (fun j hj => by cases hj) rfl rfl⟩
      · rename_i m hx
        split at h <;> simp only [Option.some.injEq, Prod.mk.injEq, reduceCtorEq] at h
        rename_i es clock hm
        obtain ⟨rfl, rfl⟩ := h
        obtain ⟨vx, x1, x2⟩ := hk.opd hx
        obtain ⟨hlt, rfl⟩ := TR.map x2
        obtain ⟨es', m1, m2, m3⟩ := hk.obj m _ hm
        exact ⟨0, by simp only [COp.er, HOp.er, evOp, evH, x1, m1]; exact mk (m := some m) rfl (fun j hj => by cases hj; exact hlt) rfl rfl⟩
    | _ => simp only [opC] at h; exact gen h
  | call f args =>
    simp only [opC] at h
    split at h <;> try (simp at h; done)
    rename_i g first captured vs hf ha
    obtain ⟨vf, f1, f2⟩ := hk.opd hf
    obtain ⟨first', captured', rfl, l1, l2⟩ := TR.func f2
    obtain ⟨vs', a1, a2, a3⟩ := hk.opds ha
    -- the arguments together
    have hall : (first ++ vs ++ captured).length = (first' ++ vs' ++ captured').length := by simp [l1.1, l2.1, a2]
    have htr : ∀ (j : Nat) u v, (first ++ vs ++ captured)[j]? = some u → (first' ++ vs' ++ captured')[j]? = some v → TR σ Z ω s.h.length u v := by
      intro j u v hu hv
      rw [List.append_assoc] at hu hv
      by_cases h1 : j < first.length
      · rw [List.getElem?_append_left h1] at hu
        rw [List.getElem?_append_left (by rw [← l1.1]; exact h1)] at hv
        exact TR.of_ur (l1.2 j u v hu hv)
      · rw [List.getElem?_append_right (by omega)] at hu
        rw [List.getElem?_append_right (by rw [← l1.1]; omega), ← l1.1] at hv
        by_cases h2 : j - first.length < vs.length
        · rw [List.getElem?_append_left h2] at hu
          rw [List.getElem?_append_left (by omega)] at hv
          exact a3 _ u v hu hv
        · rw [List.getElem?_append_right (by omega)] at hu
          rw [List.getElem?_append_right (by omega), ← a2] at hv
          exact TR.of_ur (l2.2 _ u v hu hv)
    split at h
    · rename_i q hq
      split at h <;> try (simp at h; done)
      rename_i gt w xs rest hargs
      split at h <;> try (simp at h; done)
      rename_i ys hys
      cases hown : (s.ownC gt).isSome with
      | false => rw [hown] at h; simp at h
      | true =>
        rw [hown] at h
        simp only [cond_true, Option.some.injEq, Prod.mk.injEq] at h
        obtain ⟨rfl, rfl⟩ := h
        obtain ⟨p0, hp0⟩ := Option.isSome_iff_exists.1 hown
        rw [hargs] at hall htr
        cases hvv : first' ++ vs' ++ captured' with
        | nil => rw [hvv] at hall; simp at hall
        | cons v0 vr =>
          rw [hvv] at hall htr
          have h0 := htr 0 _ v0 rfl rfl
          obtain ⟨N, hN⟩ := hQ g q hq xs rest ys hys E σ Z ω s e st gt w v0 vr p0 hk hp0 h0.1 (by simpa using hall) (fun j u v hu hv => htr (j + 1) u v (by simpa using hu) (by simpa using hv))
          refine ⟨N, ?_⟩
          simp only [COp.er, evOp, f1, a1, hvv]
          refine evF_mono (Nat.le_refl _) ?_ hN
          rintro v st' ⟨rfl, ω', k1⟩
          exact ⟨hfl.upd _ _ _, σ, Z, ω', k1, UR.tup rfl (fun j u v h => by simp at h), by rw [upd_len]; exact Nat.le_refl _, fun _ _ => rfl, fun _ _ h => h, fun hq' => by simp [quietU, hf, ha, hq] at hq'⟩
    · rename_i hq
      obtain ⟨N, hN⟩ := call_sound (P := callW C M) (fun f vs st k k' hk h => callW_mono hk h) hF hk hfl hall htr h
      refine ⟨N, ?_⟩
      simp only [COp.er, evOp, f1, a1]
      refine evF_mono (Nat.le_refl _) ?_ hN
      rintro v st' ⟨k0, σ', Z', ω', k1, k2, k3, k4, k5, k6⟩
      refine ⟨k0, σ', Z', ω', k1, k2, k3, k4, k5, fun hqq => k6 fun us hus => ?_⟩
      simp only [quietU, hf, ha, hq, hus] at hqq
      exact hqq
  | invoke name x args =>
    simp only [opC] at h
    split at h <;> try (simp at h; done)
    rename_i t u0 vs hx ha
    split at h <;> try (simp at h; done)
    rename_i f hm
    obtain ⟨vx, x1, x2⟩ := hk.opd hx
    obtain ⟨v', rfl, x3⟩ := TR.iface x2
    obtain ⟨vs', a1, a2, a3⟩ := hk.opds ha
    obtain ⟨N, hN⟩ := call_sound (P := callW C M) (fun f vs st k k' hk h => callW_mono hk h) hF (vs := v' :: vs') hk hfl (by simp [a2]) (fun j u v hu hv => by
      cases j with
      | zero => simp at hu hv; subst hu; subst hv; exact TR.of_ur x3
      | succ j => exact a3 j u v (by simpa using hu) (by simpa using hv)) h
    refine ⟨N, ?_⟩
    simp only [COp.er, evOp, x1, a1, hm]
    refine evF_mono (Nat.le_refl _) ?_ hN
    rintro v st' ⟨k0, σ', Z', ω', k1, k2, k3, k4, k5, k6⟩
    refine ⟨k0, σ', Z', ω', k1, k2, k3, k4, k5, fun hqq => k6 fun us hus => ?_⟩
    simp only [quietU, hx, ha, hus] at hqq
    exact hqq
  | next x => simp [opC] at h
  | bad => simp [opC] at h
theorem guard_tr (h : Ok E σ Z ω s e st) {g : Option (Nat × Bool)} {b : Bool} (hg : guardU g s.e = some b) : guardEv g e = some b := by
  cases g with
  | none => exact hg
  | some p =>
    obtain ⟨t, want⟩ := p
    simp only [guardU] at hg
    simp only [guardEv]
    split at hg <;> simp only [Option.some.injEq, reduceCtorEq] at hg
    · rename_i c hc
      obtain ⟨v, h1, h2⟩ := h.env _ _ hc
      obtain rfl := TR.bool h2
      rw [h1]; simpa using hg
    · rename_i vs hc
      obtain ⟨v, h1, h2⟩ := h.env _ _ hc
      obtain ⟨vs', rfl, _⟩ := TR.tup h2
      rw [h1]; simpa using hg
def OkS (E : Ent) (s : Vs) (e : PT V) (st : St) : Prop := Fl s ∧ ∃ σ Z ω, Ok E σ Z ω s e st
theorem opsU_sound (hF : FOK (callW C M) F) (hQ : QOK (callW C M) Q) : ∀ {ops : List COper} {σ : Sg} {Z : Zs} {ω : Om} {s s' : Vs} {e : PT V} {st : St}, opsU M Q F ops s = some s' → Ok E σ Z ω s e st → Fl s →
    ∃ N, evSeq M (callP C M N) (opersEr ops) e st fun e' st' => OkS E s' e' st' := by
  intro ops
  induction ops with
  | nil =>
    intro σ Z ω s s' e st h hk hfl
    simp only [opsU, Option.some.injEq] at h; subst h
    exact ⟨0, hfl, σ, Z, ω, hk⟩
  | cons o r ih =>
    intro σ Z ω s s' e st h hk hfl
    simp only [opsU] at h
    cases hg : guardU o.guard s.e with
    | none => rw [hg] at h; simp at h
    | some b =>
      rw [hg] at h
      have hgr : guardEv (COper.er o).guard e = some b := guard_tr hk hg
      cases b with
      | false =>
        simp only at h
        obtain ⟨N, hN⟩ := ih h (hk.put (dst := o.dst) (u := .tup []) (v := .tup []) (UR.tup rfl (fun j u v h => by simp at h))) (hfl.env _)
        exact ⟨N, by simp only [opersEr, evSeq, hgr]; exact hN⟩
      | true =>
        simp only at h
        cases hc : opC M Q F s o.dst o.op with
        | none => rw [hc] at h; simp at h
        | some p =>
          obtain ⟨u, s1⟩ := p
          rw [hc] at h
          simp only at h
          obtain ⟨N, hN⟩ := opC_sound hF hQ hc hk hfl
          have h2 : evOp M (callP C M N) e st o.op.er fun v st' => ∃ m, evSeq M (callP C M m) (opersEr r) (putD o.dst v e) st' fun e' st' => OkS E s' e' st' := by
            refine evOp_mono (callP_fle (Nat.le_refl N)) (fun v st' hv => ?_) hN
            obtain ⟨k0, σ', Z', ω', k1, k2, _⟩ := hv
            exact ih h (k1.put k2) (k0.env _)
          obtain ⟨m, _, hm⟩ := op_cont (K := fun m v st' => evSeq M (callP C M m) (opersEr r) (putD o.dst v e) st' fun e' st' => OkS E s' e' st') (fun a b hab => callP_fle hab) (fun f args s K hK h => callP_cont hK h)
            (fun a b v s hab h => evSeq_mono (callP_fle hab) (fun _ _ h => h) h) h2
          exact ⟨m, by simp only [opersEr, evSeq, hgr]; exact hm⟩
end
end Go.RE
namespace Go.RE
def FAnd (F : Nat → List V → St → (V → St → Prop) → Prop) : Prop :=
  ∀ f args s (k k' : V → St → Prop), F f args s k → F f args s k' → F f args s fun v s => k v s ∧ k' v s
variable {M : Nat → String → Option Nat} {F : Nat → List V → St → (V → St → Prop) → Prop}
theorem evOp_and (hF : FAnd F) {env : PT V} {s : St} {o : COp} {k k' : V → St → Prop} (h : evOp M F env s o k) (h' : evOp M F env s o k') : evOp M F env s o fun v s => k v s ∧ k' v s := by
  cases o with
  | s o =>
    simp only [evOp] at h h' ⊢
    cases hq : evS env s o with
    | none => rw [hq] at h; exact h.elim
    | some v => rw [hq] at h h'; exact ⟨h, h'⟩
  | m o =>
    simp only [evOp] at h h' ⊢
    cases hq : evM env o with
    | none => rw [hq] at h; exact h.elim
    | some v => rw [hq] at h h'; exact ⟨h, h'⟩
  | h o =>
    simp only [evOp] at h h' ⊢
    cases hq : evH env s o with
    | none => rw [hq] at h; exact h.elim
    | some v => rw [hq] at h h'; exact ⟨h, h'⟩
  | call f args =>
    simp only [evOp] at h h' ⊢
    split at h
    · rename_i e1 e2
      simp only [e1, e2] at h'
      exact hF _ _ _ _ _ h h'
    · exact h.elim
  | invoke name x args =>
    simp only [evOp] at h h' ⊢
    split at h
    · rename_i e1 e2
      simp only [e1, e2] at h'
      split at h
      · rename_i e3
        simp only [e3] at h'
        exact hF _ _ _ _ _ h h'
      · exact h.elim
    · exact h.elim
  | next x =>
    simp only [evOp] at h h' ⊢
    split at h
    · rename_i e1
      simp only [e1] at h'
      unfold evNext at h h' ⊢
      split at h
      · rename_i e2
        simp only [e2] at h'
        exact ⟨h, h'⟩
      · rename_i e2
        simp only [e2] at h'
        split at h
        · rename_i es clock e3
          simp only [e3] at h'
          generalize (!_ && !_ && _) = b at h h' ⊢
          cases b with
          | true => exact h.elim
          | false =>
            intro i hi
            have h1 := h i hi
            have h2 := h' i hi
            dsimp only at h1 h2 ⊢
            split at h1
            · rename_i e4; rw [e4] at h2; exact ⟨h1, h2⟩
            · rename_i e4; rw [e4] at h2; exact ⟨h1, h2⟩
            · exact h1.elim
        · exact h.elim
      · exact h.elim
    · exact h.elim
  | bad => exact h.elim
theorem evSeq_and (hF : FAnd F) (hM : FLe F F) : ∀ {ops : List COper} {env : PT V} {s : St} {k k' : PT V → St → Prop}, evSeq M F ops env s k → evSeq M F ops env s k' → evSeq M F ops env s fun e s => k e s ∧ k' e s := by
  intro ops
  induction ops with
  | nil => intro env s k k' h h'; exact ⟨h, h'⟩
  | cons o r ih =>
    intro env s k k' h h'
    simp only [evSeq] at h h' ⊢
    split at h
    · rename_i e1
      simp only [e1] at h'
      exact evOp_mono hM (fun v s hh => ih hh.1 hh.2) (evOp_and hF h h')
    · rename_i e1
      simp only [e1] at h'
      exact ih h h'
    · exact h.elim
theorem recheck_and {s : St} {p : Nat} : ∀ {recs : Recs} {a b : Prop}, recheck s p recs a → recheck s p recs b → recheck s p recs (a ∧ b) := by
  intro recs
  induction recs with
  | nil => intro a b h h'; exact ⟨h, h'⟩
  | cons x r ih =>
    intro a b h h'
    obtain ⟨i, op, env, v⟩ := x
    simp only [recheck] at h h' ⊢
    cases hb : Nat.testBit p i with
    | true => rw [hb] at h h'; exact ih h h'
    | false =>
      rw [hb] at h h'
      simp only [cond_false] at h h' ⊢
      cases hq : evS env s op with
      | none => rw [hq] at h; exact h.elim
      | some u => rw [hq] at h h'; exact ⟨h.1, ih h.2 h'.2⟩
theorem evDraw_and (hF : FAnd F) (hM : FLe F F) : ∀ {n : Nat} {todo : List (Nat × COper)} {done : Nat} {env : PT V} {s : St} {recs : Recs} {k k' : PT V → St → Prop},
    evDraw M F n todo done env s recs k → evDraw M F n todo done env s recs k' → evDraw M F n todo done env s recs fun e s => k e s ∧ k' e s := by
  intro n
  induction n with
  | zero => intro _ _ _ _ _ _ _ h; exact h.elim
  | succ n ih =>
    intro todo done env s recs k k' h h'
    simp only [evDraw] at h h' ⊢
    cases ha : absorb todo done env s [] recs with
    | none => rw [ha] at h; exact h.elim
    | some q =>
      obtain ⟨todo, done, env, s, recs⟩ := q
      rw [ha] at h h'
      simp only at h h' ⊢
      cases hs : splitBig [] todo with
      | none =>
        rw [hs] at h h'
        simp only at h h' ⊢
        cases todo with
        | nil => exact ⟨h, h'⟩
        | cons a b => exact h.elim
      | some q =>
        obtain ⟨i, o, rest⟩ := q
        rw [hs] at h h'
        simp only at h h' ⊢
        generalize (within o.preds _ && rest.all _) = b at h h' ⊢
        cases b with
        | false => exact h.elim
        | true =>
          simp only [cond_true] at h h' ⊢
          cases hg : guardEv o.guard env with
          | none => rw [hg] at h; exact h.elim
          | some b =>
            rw [hg] at h h'
            cases b with
            | true => exact evOp_mono hM (fun v s hh => recheck_mono (fun h => ih h.1 h.2) (recheck_and hh.1 hh.2)) (evOp_and hF h h')
            | false => exact ih h h'
variable {C : Nat → Option CFunc}
theorem evC_and : ∀ {n : Nat} {c : CCode} {env : PT V} {s : St} {k k' : Ex → PT V → St → Prop}, evC C M n c env s k → evC C M n c env s k' → evC C M n c env s fun ex e s => k ex e s ∧ k' ex e s := by
  intro n
  induction n with
  | zero => intro c env s k k' h; exact h.elim
  | succ n ih =>
    intro c env s k k' h h'
    have hM : FLe (fun f args s (k : V → St → Prop) => match C f with
      | none => Ans.fail
      | some fn =>
        bif Nat.ble args.length fn.ntmps then
          evC C M n fn.body (initEnv args 0 .e) s fun e env s => match e with
            | .exit _ => Ans.fail
            | _ => (match resAll env s fn.results with | some v => k v s | none => Ans.fail)
        else Ans.fail) (fun f args s (k : V → St → Prop) => match C f with
      | none => Ans.fail
      | some fn =>
        bif Nat.ble args.length fn.ntmps then
          evC C M n fn.body (initEnv args 0 .e) s fun e env s => match e with
            | .exit _ => Ans.fail
            | _ => (match resAll env s fn.results with | some v => k v s | none => Ans.fail)
        else Ans.fail) := by
      intro f args s k k' hk h
      split at h
      · exact h.elim
      · rename_i fn _
        generalize Nat.ble _ _ = b at h ⊢
        cases b with
        | false => exact h.elim
        | true =>
          refine evC_mono (Nat.le_refl _) (fun e env s hh => ?_) h
          cases e with
          | exit i => exact hh
          | normal => simp only at hh ⊢; cases hr : resAll env s fn.results with
            | none => rw [hr] at hh; exact hh
            | some v => rw [hr] at hh; exact hk _ _ hh
          | ret => simp only at hh ⊢; cases hr : resAll env s fn.results with
            | none => rw [hr] at hh; exact hh
            | some v => rw [hr] at hh; exact hk _ _ hh
    have hF : FAnd (fun f args s (k : V → St → Prop) => match C f with
      | none => Ans.fail
      | some fn =>
        bif Nat.ble args.length fn.ntmps then
          evC C M n fn.body (initEnv args 0 .e) s fun e env s => match e with
            | .exit _ => Ans.fail
            | _ => (match resAll env s fn.results with | some v => k v s | none => Ans.fail)
        else Ans.fail) := by
      intro f args s k k' h h'
      simp only at h h' ⊢
      cases hc : C f with
      | none => rw [hc] at h; exact h.elim
      | some fn =>
        rw [hc] at h h'
        simp only at h h' ⊢
        generalize Nat.ble _ _ = b at h h' ⊢
        cases b with
        | false => exact h.elim
        | true =>
          refine evC_mono (Nat.le_refl _) (fun e env s hh => ?_) (ih h h')
          cases e with
          | exit i => exact hh.1
          | normal => simp only at hh ⊢; cases hr : resAll env s fn.results with
            | none => rw [hr] at hh; exact hh.1
            | some v => rw [hr] at hh; exact hh
          | ret => simp only at hh ⊢; cases hr : resAll env s fn.results with
            | none => rw [hr] at hh; exact hh.1
            | some v => rw [hr] at hh; exact hh
    cases c with
    | skip => exact ⟨h, h'⟩
    | ret => exact ⟨h, h'⟩
    | exit i => exact ⟨h, h'⟩
    | bad => exact h.elim
    | region ops => exact evSeq_and hF hM h h'
    | draw ops => exact evDraw_and hF hM h h'
    | seq a b =>
      simp only [evC] at h h' ⊢
      refine evC_mono (Nat.le_refl _) (fun e env s hh => ?_) (ih h h')
      cases e with
      | normal => exact ih hh.1 hh.2
      | exit i => exact hh
      | ret => exact hh
    | cond x a b =>
      simp only [evC] at h h' ⊢
      split at h
      · rename_i e1; simp only [e1] at h'; exact ih h h'
      · rename_i e1; simp only [e1] at h'; exact ih h h'
      · exact h.elim
    | block id b =>
      simp only [evC] at h h' ⊢
      refine evC_mono (Nat.le_refl _) (fun e env s hh => ?_) (ih h h')
      cases e with
      | normal => exact hh
      | exit i =>
        simp only at hh ⊢
        cases hb : Nat.beq i id with
        | true => rw [hb] at hh; exact hh
        | false => rw [hb] at hh; exact hh
      | ret => exact hh
    | loop b =>
      simp only [evC] at h h' ⊢
      refine evC_mono (Nat.le_refl _) (fun e env s hh => ?_) (ih h h')
      cases e with
      | normal => exact ih hh.1 hh.2
      | exit i => exact hh
      | ret => exact hh
    | prim m p =>
      simp only [evC] at h h' ⊢
      split at h
      · rename_i e1
        simp only [e1] at h'
        split at h
        · rename_i e2; simp only [e2] at h'; exact ⟨h, h'⟩
        · exact h.elim
      · exact h.elim
theorem callP_and {n : Nat} : FAnd (callP C M n) := by
  intro f args s k k' h h'
  unfold callP evF at h h' ⊢
  cases hc : C f with
  | none => rw [hc] at h; exact h.elim
  | some fn =>
    rw [hc] at h h'
    simp only at h h' ⊢
    generalize Nat.ble _ _ = b at h h' ⊢
    cases b with
    | false => exact h.elim
    | true =>
      refine evC_mono (Nat.le_refl _) (fun e env s hh => ?_) (evC_and h h')
      cases e with
      | exit i => exact hh.1
      | normal => simp only at hh ⊢; cases hr : resAll env s fn.results with
        | none => rw [hr] at hh; exact hh.1
        | some v => rw [hr] at hh; exact hh
      | ret => simp only at hh ⊢; cases hr : resAll env s fn.results with
        | none => rw [hr] at hh; exact hh.1
        | some v => rw [hr] at hh; exact hh
end Go.RE
namespace Go.RE
def Step.er : Step → Step
  | .small i o => .small i o.er
  | .big i o => .big i o.er
def pairEr (x : Nat × COper) : Nat × COper := (x.1, x.2.er)
theorem er_small (o : COper) : o.er.small = o.small := by
  obtain ⟨d, op, g, p⟩ := o
  cases op <;> rfl
theorem er_preds (o : COper) : o.er.preds = o.preds := rfl
theorem numbered_er : ∀ (ops : List COper) (i : Nat), numbered (opersEr ops) i = (numbered ops i).map pairEr := by
  intro ops
  induction ops with
  | nil => intro i; rfl
  | cons o r ih => intro i; simp only [opersEr, numbered, ih, List.map_cons]; rfl
theorem opersEr_len : ∀ (ops : List COper), (opersEr ops).length = ops.length := by
  intro ops
  induction ops with
  | nil => rfl
  | cons o r ih => simp [opersEr, ih]
theorem absorb_er : ∀ (l : List (Nat × COper)) (done : Nat) (left : List (Nat × COper)) (acc : List Step),
    sAbsorb (l.map pairEr) done (left.map pairEr) (acc.map Step.er) = ((sAbsorb l done left acc).1.map pairEr, (sAbsorb l done left acc).2.1, (sAbsorb l done left acc).2.2.map Step.er) := by
  intro l
  induction l with
  | nil => intro done left acc; simp [sAbsorb]
  | cons x l ih =>
    intro done left acc
    obtain ⟨i, o⟩ := x
    simp only [List.map_cons, pairEr, sAbsorb, er_small, er_preds]
    cases o.small && within o.preds done with
    | true => simp only [cond_true]; exact ih _ left (.small i o :: acc)
    | false => simp only [cond_false]; exact ih done ((i, o) :: left) acc
theorem split_er : ∀ (l pre : List (Nat × COper)), splitBig (pre.map pairEr) (l.map pairEr) = (splitBig pre l).map fun x => (x.1, x.2.1.er, x.2.2.map pairEr) := by
  intro l
  induction l with
  | nil => intro pre; simp [splitBig]
  | cons x l ih =>
    intro pre
    obtain ⟨i, o⟩ := x
    simp only [List.map_cons, pairEr, splitBig, er_small]
    cases o.small with
    | true => simp only [cond_true]; exact ih ((i, o) :: pre)
    | false => simp [pairEr]
theorem sched_er : ∀ {n : Nat} {todo : List (Nat × COper)} {done : Nat} {l : List Step}, sched n todo done = some l → sched n (todo.map pairEr) done = some (l.map Step.er) := by
  intro n
  induction n with
  | zero => intro _ _ _ h; simp [sched] at h
  | succ n ih =>
    intro todo done l h
    simp only [sched] at h ⊢
    have ha := absorb_er todo done [] []
    simp only [List.map_nil] at ha
    rw [ha]
    generalize sAbsorb todo done [] [] = R at h ⊢
    obtain ⟨t, d, tk⟩ := R
    simp only at h ⊢
    have hs := split_er t []
    simp only [List.map_nil] at hs
    rw [hs]
    cases hq : splitBig [] t with
    | none =>
      rw [hq] at h
      simp only [Option.map_none]
      cases t with
      | nil => simp at h ⊢; subst h; rw [List.map_reverse]
      | cons a b => simp at h
    | some x =>
      obtain ⟨i, o, rest⟩ := x
      rw [hq] at h
      simp only [Option.map_some, er_preds] at h ⊢
      have hall : (rest.map pairEr).all (fun x => x.2.small || Nat.testBit x.2.preds i) = rest.all (fun x => x.2.small || Nat.testBit x.2.preds i) := by
        rw [List.all_map]; congr 1
        funext x; simp [pairEr, er_small, er_preds]
      rw [hall]
      cases hb : (within o.preds d && rest.all fun x => x.2.small || Nat.testBit x.2.preds i) with
      | false => rw [hb] at h; simp at h
      | true =>
        rw [hb] at h
        simp only [cond_true] at h ⊢
        cases hr : sched n rest (Nat.lor d (2 ^ i)) with
        | none => rw [hr] at h; simp at h
        | some r =>
          rw [hr] at h
          simp only [Option.some.injEq] at h; subst h
          rw [ih hr]
          simp [Step.er]
section
variable {C : Nat → Option CFunc} {M : Nat → String → Option Nat} {Q : Mut} {F : FU}
variable {E : Ent} {σ σ' : Sg} {Z Z' : Zs} {ω : Om} {s s' : Vs} {e : PT V} {st st' : St} {n m : Nat}
def KR (σ : Sg) (Z : Zs) (n : Nat) (R : Nat × SOp × PT V × V) : Rk → Prop
  | .ok => ∀ st2 : St, (∀ b r, Z b = some r → st2.get b = some (.row r)) → evS R.2.2.1 st2 R.2.1 = some R.2.2.2
  | .ld i k off u => i < n ∧ (∀ st2 : St, evS R.2.2.1 st2 R.2.1 = (match st2.row (σ i) with | some cs => loadRow k cs off | none => none)) ∧ (U.same u u = true → UR σ Z n u R.2.2.2)
  | .no => True
theorem KR.mono {R : Nat × SOp × PT V × V} {k : Rk} (hn : n ≤ m) (hσ : ∀ i, i < n → σ' i = σ i) (hZ : ∀ b r, Z b = some r → Z' b = some r) (h : KR σ Z n R k) : KR σ' Z' m R k := by
  cases k with
  | ok => exact fun st2 h2 => h st2 fun b r hb => h2 b r (hZ b r hb)
  | ld i q off u => exact ⟨Nat.lt_of_lt_of_le h.1 hn, fun st2 => by rw [hσ i h.1]; exact h.2.1 st2, fun hu => (h.2.2 hu).mono hn hσ hZ⟩
  | no => trivial
inductive RL (σ : Sg) (Z : Zs) (n : Nat) (st : St) : List (Nat × Rk) → Recs → Prop
  | nil : RL σ Z n st [] []
  | cons {i : Nat} {k : Rk} {op : SOp} {env : PT V} {v : V} {few : List (Nat × Rk)} {recs : Recs} (h1 : evS env st op = some v) (h2 : KR σ Z n (i, op, env, v) k) (h : RL σ Z n st few recs) : RL σ Z n st ((i, k) :: few) ((i, op, env, v) :: recs)
theorem RL.mono {few : List (Nat × Rk)} {recs : Recs} (hn : n ≤ m) (hσ : ∀ i, i < n → σ' i = σ i) (hZ : ∀ b r, Z b = some r → Z' b = some r) (hst : ∀ b x, st.get b = some x → st'.get b = some x) (h : RL σ Z n st few recs) : RL σ' Z' m st' few recs := by
  induction h with
  | nil => exact .nil
  | cons h1 h2 _ ih => exact .cons (evS_more hst h1) (h2.mono hn hσ hZ) ih
mutual
theorem same_self : ∀ {u u' : U}, U.same u u' = true → U.same u u = true
  | .bool a, u', h => by simp [U.same]
  | .int k a, u', h => by simp [U.same]
  | .str a, u', h => by simp [U.same]
  | .nilp, _, _ => rfl
  | .nilm, _, _ => rfl
  | .nilf, _, _ => rfl
  | .nili, _, _ => rfl
  | .ptr a b, _, _ => by simp [U.same]
  | .map a, _, _ => by simp [U.same]
  | .agg a, u', h => by
    cases u' <;> simp [U.same] at h
    simp only [U.same]; exact sames_self h
  | .nils, _, h => by simp [U.same] at h
  | .bad, _, h => by simp [U.same] at h
  | .cptr _ _, _, h => by simp [U.same] at h
  | .sl _ _, _, h => by simp [U.same] at h
  | .own _ _ _, _, h => by simp [U.same] at h
  | .cown _ _, _, h => by simp [U.same] at h
  | .optr _ _ _, _, h => by simp [U.same] at h
  | .asl _ _ _ _, _, h => by simp [U.same] at h
  | .func _ _ _, _, h => by simp [U.same] at h
  | .iface _ _, _, h => by simp [U.same] at h
  | .tup _, _, h => by simp [U.same] at h
theorem sames_self : ∀ {a b : List U}, U.sames a b = true → U.sames a a = true
  | [], _, _ => rfl
  | x :: a, [], h => by simp [U.sames] at h
  | x :: a, y :: b, h => by
    simp only [U.sames, Bool.and_eq_true] at h ⊢
    exact ⟨same_self h.1, sames_self h.2⟩
end
theorem RL.stay {few : List (Nat × Rk)} {recs : Recs} {p : Nat} {r : Prop} (h : RL σ Z n st few recs) (hgo : r) : recheck st p recs r ∧ RL σ Z n st (recKeep p few) (keepRecs p recs) := by
  induction h with
  | nil => exact ⟨hgo, .nil⟩
  | @cons i k op env v few recs h1 h2 h ih =>
    obtain ⟨ih1, ih2⟩ := ih
    simp only [recheck, recKeep, keepRecs, List.filter_cons]
    cases hb : Nat.testBit p i with
    | true => simp only [cond_true, Bool.not_true]; exact ⟨ih1, ih2⟩
    | false =>
      simp only [cond_false, Bool.not_false, if_true, h1]
      exact ⟨⟨rfl, ih1⟩, .cons h1 h2 ih2⟩
theorem RL.check {few : List (Nat × Rk)} {recs : Recs} {p : Nat} {r : Prop} (hk : Ok E σ Z ω s e st') (h : RL σ Z s.h.length st few recs) (hc : recOk s p few = true) (hgo : r) : recheck st' p recs r ∧ RL σ Z s.h.length st' (recKeep p few) (keepRecs p recs) := by
  induction h with
  | nil => exact ⟨hgo, .nil⟩
  | @cons i k op env v few recs h1 hK h ih =>
    simp only [recOk, Bool.and_eq_true] at hc
    obtain ⟨ih1, ih2⟩ := ih hc.2
    simp only [recheck, recKeep, keepRecs, List.filter_cons]
    cases hb : Nat.testBit p i with
    | true => simp only [cond_true, Bool.not_true]; exact ⟨ih1, ih2⟩
    | false =>
      simp only [cond_false, Bool.not_false, if_true]
      have hev : evS env st' op = some v := by
        have hc1 := hc.1
        rw [hb] at hc1
        simp only [Bool.false_or] at hc1
        cases k with
        | ok => exact hK st' hk.zok
        | no => simp [Rk.holds] at hc1
        | ld q kk off u =>
          simp only [Rk.holds] at hc1
          split at hc1 <;> try (simp at hc1; done)
          rename_i cs hi
          split at hc1 <;> try (simp at hc1; done)
          rename_i u' hl
          obtain ⟨k1, k2, k3⟩ := hK
          obtain ⟨cs', v', w1, w2, w3⟩ := loadO_tr hk hi hl
          have hur : UR σ Z s.h.length u' v' := by
            cases u' with
            | own g w xs => cases u <;> simp [U.same] at hc1
            | bad => cases u <;> simp [U.same] at hc1
            | cown w xs => cases u <;> simp [U.same] at hc1
            | optr g a b => cases u <;> simp [U.same] at hc1
            | asl a b c d => cases u <;> simp [U.same] at hc1
            | _ => exact w3
          have hvv := (k3 (same_self hc1)).same hur hc1
          have := k2 st'
          simp only at this hvv
          rw [this, w1]
          simp only
          rw [w2, hvv]
      rw [hev]
      exact ⟨⟨rfl, ih1⟩, .cons hev hK ih2⟩
theorem RL.check2 {few : List (Nat × Rk)} {recs : Recs} {p : Nat} {r : Prop} {hid : List Nat} {st0 : St} {σ0 : Sg} {n0 : Nat} (hk : Ok E σ Z ω s e st') (h : RL σ Z s.h.length st0 few recs) (h0 : RL σ0 Z' n0 st0 few recs) (hc : hidL s p few = some hid)
    (hh : ∀ j, j ∈ hid → j < n0 → st'.get (σ0 j) = st0.get (σ0 j)) (hgo : r) : recheck st' p recs r ∧ RL σ Z s.h.length st' (recKeep p few) (keepRecs p recs) := by
  induction h generalizing hid with
  | nil => exact ⟨hgo, .nil⟩
  | @cons i k op env v few recs h1 hK h ih =>
    cases h0 with
    | cons g1 g2 g3 =>
    simp only [hidL] at hc
    simp only [recheck, recKeep, keepRecs, List.filter_cons]
    cases hb : Nat.testBit p i with
    | true =>
      rw [hb] at hc
      simp only [Bool.true_or, cond_true] at hc
      obtain ⟨ih1, ih2⟩ := ih g3 hc hh
      simp only [cond_true, Bool.not_true]; exact ⟨ih1, ih2⟩
    | false =>
      rw [hb] at hc
      simp only [Bool.false_or] at hc
      simp only [cond_false, Bool.not_false, if_true]
      cases hr : k.holds s with
      | true =>
        rw [hr] at hc
        simp only [cond_true] at hc
        obtain ⟨ih1, ih2⟩ := ih g3 hc hh
        have hone := RL.check (few := [(i, k)]) (recs := [(i, op, env, v)]) (p := p) (r := True) hk (.cons h1 hK .nil) (by simp only [recOk, hb, hr]; rfl) trivial
        have hev : evS env st' op = some v := by
          have h2 := hone.2
          simp only [recKeep, keepRecs, List.filter_cons, List.filter_nil, hb, cond_false, Bool.not_false, if_true] at h2
          cases h2 with
          | cons a b c => exact a
        rw [hev]
        exact ⟨⟨rfl, ih1⟩, .cons hev hK ih2⟩
      | false =>
        rw [hr] at hc
        simp only [cond_false] at hc
        split at hc <;> try (simp at hc; done)
        rename_i j q off u
        split at hc <;> simp only [Option.some.injEq, reduceCtorEq] at hc
        rename_i l hl
        subst hc
        obtain ⟨ih1, ih2⟩ := ih g3 hl fun j hj => hh j (List.mem_cons_of_mem _ hj)
        have hev : evS env st' op = some v := by
          obtain ⟨k1, k2, k3⟩ := g2
          have e1 := k2 st'
          have e2 := k2 st0
          simp only at e1 e2
          have e3 : st'.row (σ0 j) = st0.row (σ0 j) := by unfold St.row; rw [hh j List.mem_cons_self k1]
          rw [e1, e3, ← e2]; exact h1
        rw [hev]
        exact ⟨⟨rfl, ih1⟩, .cons hev hK ih2⟩
theorem Ok.hide1 (h : Ok E σ Z ω s e st) (j : Nat) : Ok E σ Z ω { s with h := s.h.set j .gone } e st := by
  have hl : (s.h.set j .gone).length = s.h.length := List.length_set
  refine ⟨fun t u hu => by rw [hl]; exact h.env t u hu, fun i o ho => ?_, h.zok, h.wok, h.fresh, by rw [hl]; exact h.inj, h.winj, by rw [hl]; exact h.sw, by rw [hl]; exact h.sz, h.wz, by rw [hl]; exact h.sb, h.wr, by rw [hl]; exact h.wc,
    by rw [hl]; exact h.n0, h.sig, h.zz, h.nx, by rw [hl]; exact h.out, fun i hi => ?_⟩
  · rw [hl]
    simp only at ho
    rw [List.getElem?_set] at ho
    by_cases hj : j = i
    · rw [if_pos hj] at ho
      split at ho
      · simp at ho; subst ho; trivial
      · cases ho
    · rw [if_neg hj] at ho; exact h.obj i o ho
  · obtain ⟨q1, q2, q3⟩ := h.gn i hi
    refine ⟨q1, ?_, q3⟩
    rw [List.getElem?_set]
    split
    · subst j; rw [if_pos (List.getElem?_eq_some_iff.1 q2).1]
    · exact q2
theorem hideAll_len : ∀ (l : List Nat) (h : List Uo), (hideAll l h).length = h.length := by
  intro l
  induction l with
  | nil => intro h; rfl
  | cons j l ih => intro h; simp only [hideAll, ih, List.length_set]
theorem hideAll_keep : ∀ (l : List Nat) (h : List Uo) (i : Nat), h[i]? = some .gone → (hideAll l h)[i]? = some .gone := by
  intro l
  induction l with
  | nil => intro h i hi; exact hi
  | cons j l ih =>
    intro h i hi
    refine ih _ i ?_
    rw [List.getElem?_set]
    split
    · subst j; rw [if_pos (List.getElem?_eq_some_iff.1 hi).1]
    · exact hi
theorem hideAll_mem : ∀ (l : List Nat) (h : List Uo) (i : Nat), i ∈ l → i < h.length → (hideAll l h)[i]? = some .gone := by
  intro l
  induction l with
  | nil => intro h i hi; cases hi
  | cons j l ih =>
    intro h i hi hlt
    rcases List.mem_cons.1 hi with rfl | hi
    · refine hideAll_keep l _ i ?_
      rw [List.getElem?_set, if_pos rfl, if_pos hlt]
    · exact ih _ i hi (by simpa using hlt)
theorem Ok.hide : ∀ (l : List Nat) {s : Vs}, Ok E σ Z ω s e st → Ok E σ Z ω { s with h := hideAll l s.h } e st := by
  intro l
  induction l with
  | nil => intro s h; exact h
  | cons j l ih => intro s h; exact ih (h.hide1 j)
theorem Fl.hide : ∀ (l : List Nat) {s : Vs}, Fl s → Fl { s with h := hideAll l s.h } := by
  intro l
  induction l with
  | nil => intro s h; exact h
  | cons j l ih => intro s h; exact ih (h.set (i := j) (o := .gone) rfl s.e)
theorem callH_sound (hF : FOK (callW C M) F) {f : Nat} {args : List U} {vs : List V} {hid : List Nat} (h : Ok E σ Z ω s e st) (hF0 : Fl s)
    (hl : args.length = vs.length) (ha : ∀ (j : Nat) u v, args[j]? = some u → vs[j]? = some v → TR σ Z ω s.h.length u v) (hc : callH F f args s hid = true) :
    callW C M f vs st fun v st' => ∀ j, j ∈ hid → j < s.h.length → st'.get (σ j) = st.get (σ j) := by
  unfold callH at hc
  split at hc <;> try (simp at hc; done)
  rename_i us hus
  obtain ⟨Z1, ω1, b1, b2, b3, b4, b5⟩ := frzArgs_ok (args := args) h
  obtain ⟨⟨r, h', fl'⟩, hcall⟩ := Option.isSome_iff_exists.1 hc
  have hlu : LU σ Z1 s.h.length us vs := args_lu b2 hus hl ha b5
  have hs : (hideAll hid (frzArgs args s).h).length = s.h.length := by rw [hideAll_len]; exact b3
  have hsh := (b1.hide hid).shared (frzArgs args s).fl
  refine callW_mono ?_ (hF f us _ _ r h' fl' hcall σ Z1 (onlyC ω1) st vs hsh ((hF0.frzArgs.hide hid).env []) (fun _ => rfl) (by rw [hs]; exact hlu))
  rintro v st' ⟨k0, σ', Z', ω', k1, k2, k3⟩ j hj hlt
  have hg := k1.gn j (hideAll_mem hid _ j hj (by rw [b3]; exact hlt))
  have hsig : σ' j = σ j := k1.sig j hg.1
  rw [← hsig]
  refine hg.2.2.trans ?_
  rw [hsig]
theorem frame_sound (hF : FOK (callW C M) F) {o : COp} {p : Nat} {few : List (Nat × Rk)} {hid : List Nat} {t : Vs} (hh : hidL t p few = some hid) (h : frameU M Q F s t o p few = true) (hk : Ok E σ Z ω s e st) (hfl : Fl s) :
    ∃ N, evOp M (callP C M N) e st o.er fun v st' => ∀ j, j ∈ hid → j < s.h.length → st'.get (σ j) = st.get (σ j) := by
  unfold frameU at h
  rw [hh] at h
  simp only at h
  split at h <;> try (simp at h; done)
  · rename_i f args
    split at h <;> try (simp at h; done)
    rename_i g first captured vs hf ha
    split at h <;> try (simp at h; done)
    rename_i hq
    obtain ⟨vf, f1, f2⟩ := hk.opd hf
    obtain ⟨first', captured', rfl, l1, l2⟩ := TR.func f2
    obtain ⟨vs', a1, a2, a3⟩ := hk.opds ha
    obtain ⟨N, hN⟩ := callH_sound hF hk hfl (vs := first' ++ vs' ++ captured') (by simp [l1.1, l2.1, a2]) (by
      intro j u v hu hv
      rw [List.append_assoc] at hu hv
      by_cases h1 : j < first.length
      · rw [List.getElem?_append_left h1] at hu
        rw [List.getElem?_append_left (by rw [← l1.1]; exact h1)] at hv
        exact TR.of_ur (l1.2 j u v hu hv)
      · rw [List.getElem?_append_right (by omega)] at hu
        rw [List.getElem?_append_right (by rw [← l1.1]; omega), ← l1.1] at hv
        by_cases h2 : j - first.length < vs.length
        · rw [List.getElem?_append_left h2] at hu
          rw [List.getElem?_append_left (by omega)] at hv
          exact a3 _ u v hu hv
        · rw [List.getElem?_append_right (by omega)] at hu
          rw [List.getElem?_append_right (by omega), ← a2] at hv
          exact TR.of_ur (l2.2 _ u v hu hv)) h
    exact ⟨N, by simp only [COp.er, evOp, f1, a1]; exact hN⟩
  · rename_i name x args
    split at h <;> try (simp at h; done)
    rename_i t0 u0 vs hx ha
    split at h <;> try (simp at h; done)
    rename_i f hm
    obtain ⟨vx, x1, x2⟩ := hk.opd hx
    obtain ⟨v', rfl, x3⟩ := TR.iface x2
    obtain ⟨vs', a1, a2, a3⟩ := hk.opds ha
    obtain ⟨N, hN⟩ := callH_sound hF hk hfl (vs := v' :: vs') (by simp [a2]) (fun j u v hu hv => by
      cases j with
      | zero => simp at hu hv; subst hu; subst hv; exact TR.of_ur x3
      | succ j => exact a3 j u v (by simpa using hu) (by simpa using hv)) h
    exact ⟨N, by simp only [COp.er, evOp, x1, a1, hm]; exact hN⟩
theorem impure_er (o : SOp) : o.er.impure = o.impure := by
  cases o with
  | len k x =>
    match k with
    | 0 => rfl
    | 1 => rfl
    | 2 => rfl
    | k + 3 => rfl
  | _ => rfl
theorem evSt_mono {F F' : Nat → List V → St → (V → St → Prop) → Prop} (hF : FLe F F') {M : Nat → String → Option Nat} : ∀ {l : List Step} {env : PT V} {s : St} {recs : Recs} {k k' : PT V → St → Prop}, (∀ e s, k e s → k' e s) → evSt M F l env s recs k → evSt M F' l env s recs k' := by
  intro l
  induction l with
  | nil => intro env s recs k k' hk h; exact hk _ _ h
  | cons x r ih =>
    intro env s recs k k' hk h
    cases x with
    | small i o =>
      simp only [evSt] at h ⊢
      split at h
      · split at h
        · split at h
          · exact ih hk h
          · exact h.elim
        · split at h
          · exact ih hk h
          · exact h.elim
        · exact h.elim
      · exact ih hk h
      · exact h.elim
    | big i o =>
      simp only [evSt] at h ⊢
      split at h
      · exact evOp_mono hF (fun v s h => recheck_mono (fun h => ih hk h) h) h
      · exact ih hk h
      · exact h.elim
theorem kind_kr {d : Nat} {o : SOp} {u : U} (h : opS d s o = some (u, s')) (hk : Ok E σ Z ω s e st) {v : V} (hv : evS e st o.er = some v) (hu : TR σ Z ω s.h.length u v) (i : Nat) : KR σ Z s.h.length (i, o.er, e, v) (kindR s o u) := by
  cases o with
  | load n x =>
    simp only [kindR]
    split
    · rename_i j off hx
      obtain ⟨vx, x1, x2⟩ := hk.opd hx
      obtain ⟨hlt, rfl⟩ := TR.ptr x2
      refine ⟨hlt, fun st2 => by simp only [SOp.er, evS, x1]; cases st2.row (σ j) <;> rfl, fun hs => ?_⟩
      cases u with
      | own g w xs => simp [U.same] at hs
      | bad => simp [U.same] at hs
      | cown w xs => simp [U.same] at hs
      | optr g a b => simp [U.same] at hs
      | asl a b c d => simp [U.same] at hs
      | _ => exact hu
    · rename_i row off hx
      obtain ⟨vx, x1, x2⟩ := hk.opd hx
      intro st2 hst2
      simp only [SOp.er, evS, x1] at hv ⊢
      cases x2 with
      | cptrZ hz hr hv' =>
        simp only [row_get (hk.zok _ _ hz)] at hv
        simp only [row_get (hst2 _ _ hz)]; exact hv
      | cptrC hr hv' => exact hv
    · trivial
  | toStr x =>
    simp only [kindR]
    split
    · rename_i w xs hx
      obtain ⟨vx, x1, x2⟩ := hk.opd hx
      intro st2 hst2
      simp only [SOp.er, evS, x1] at hv ⊢
      have hsc : ∀ cs, sliceCells st 1 vx = some cs → sliceCells st2 1 vx = some cs := by
        intro cs hcs
        have x3 : UR σ Z s.h.length (.sl w xs) vx := x2
        cases x3 with
        | slnil => exact hcs
        | slz => exact hcs
        | slZ hn hz hl hcap hr hv' =>
          simp only [sliceCells, row_get (hk.zok _ _ hz)] at hcs
          simp only [sliceCells, row_get (hst2 _ _ hz)]; exact hcs
        | slC hn hl hr hv' => exact hcs
      cases hq : sliceCells st 1 vx with
      | none => rw [hq] at hv; simp at hv
      | some cs => rw [hq] at hv; rw [hsc cs hq]; exact hv
    · trivial
  | _ => exact trivial
theorem stepsU_sound (hF : FOK (callW C M) F) (hQ : QOK (callW C M) Q) : ∀ {l : List Step} {σ : Sg} {Z : Zs} {ω : Om} {s s' : Vs} {e : PT V} {st : St} {few : List (Nat × Rk)} {recs : Recs}, stepsU M Q F l s few = some s' → Ok E σ Z ω s e st → Fl s → RL σ Z s.h.length st few recs →
    ∃ N, evSt M (callP C M N) (l.map Step.er) e st recs fun e' st' => OkS E s' e' st' := by
  intro l
  induction l with
  | nil =>
    intro σ Z ω s s' e st few recs h hk hfl hr
    simp only [stepsU, Option.some.injEq] at h; subst h
    exact ⟨0, hfl, σ, Z, ω, hk⟩
  | cons x r ih =>
    intro σ Z ω s s' e st few recs h hk hfl hr
    have hunit : Ok E σ Z ω { s with e := putE (match x with | .small _ o => o.dst | .big _ o => o.dst) (.tup []) s.e } (putD (match x with | .small _ o => o.dst | .big _ o => o.dst) (.tup []) e) st := hk.put (UR.tup rfl (fun j u v h => by simp at h))
    cases x with
    | small i o =>
      simp only [stepsU] at h
      cases hg : guardU o.guard s.e with
      | none => rw [hg] at h; simp at h
      | some b =>
        rw [hg] at h
        have hgr : guardEv (COper.er o).guard e = some b := guard_tr hk hg
        cases b with
        | false =>
          simp only at h
          obtain ⟨N, hN⟩ := ih h hunit (hfl.env _) hr
          exact ⟨N, by simp only [List.map_cons, Step.er, evSt, hgr]; exact hN⟩
        | true =>
          simp only at h
          cases hc : opC M Q F s o.dst o.op with
          | none => rw [hc] at h; simp at h
          | some p =>
            obtain ⟨u, s1⟩ := p
            rw [hc] at h
            simp only at h
            cases hop : o.op with
            | s so =>
              rw [hop] at hc h
              simp only [opC] at hc
              simp only at h
              obtain ⟨Z', ω', v, h1, h2, h3, h4, h5⟩ := opS_sound hc hk
              have hr2 : RL σ Z' s1.h.length st few recs := hr.mono (by omega) (fun _ _ => rfl) h5 (fun _ _ h => h)
              have hrecs : RL σ Z' s1.h.length st (bif so.impure then (i, kindR s so u) :: few else few) (bif so.er.impure then (i, so.er, e, v) :: recs else recs) := by
                rw [impure_er]
                cases so.impure with
                | false => exact hr2
                | true =>
                  refine .cons h1 ?_ hr2
                  -- what is read was told before
                  have hkr : KR σ Z s.h.length (i, so.er, e, v) (kindR s so u) ∨ True := .inr trivial
                  cases so with
                  | load n y =>
                    simp only [opS] at hc
                    have hs1 : s1 = s := by
                      split at hc
                      · split at hc <;> try (simp at hc; done)
                        split at hc <;> simp only [Option.some.injEq, Prod.mk.injEq, reduceCtorEq] at hc
                        exact hc.2.symm
                      · split at hc <;> simp only [Option.some.injEq, Prod.mk.injEq, reduceCtorEq] at hc
                        exact hc.2.symm
                      · split at hc <;> try (simp at hc; done)
                        split at hc <;> try (simp at hc; done)
                        split at hc <;> simp only [Option.some.injEq, Prod.mk.injEq, reduceCtorEq] at hc
                        exact hc.2.symm
                      · simp at hc
                    subst hs1
                    simp only [kindR]
                    split
                    · rename_i j off hx
                      obtain ⟨vx, x1, x2⟩ := h2.opd hx
                      obtain ⟨hlt, rfl⟩ := TR.ptr x2
                      refine ⟨hlt, fun st2 => by simp only [SOp.er, evS, x1]; cases st2.row (σ j) <;> rfl, fun hs => ?_⟩
                      cases u with
                      | own g w xs => simp [U.same] at hs
                      | bad => simp [U.same] at hs
                      | cown w xs => simp [U.same] at hs
                      | optr g a b => simp [U.same] at hs
                      | asl a b c d => simp [U.same] at hs
                      | _ => exact h3
                    · rename_i row off hx
                      obtain ⟨vx, x1, x2⟩ := h2.opd hx
                      intro st2 hst2
                      simp only [SOp.er, evS, x1] at h1 ⊢
                      cases x2 with
                      | cptrZ hz hr' hv' =>
                        simp only [row_get (h2.zok _ _ hz)] at h1
                        simp only [row_get (hst2 _ _ hz)]; exact h1
                      | cptrC hr' hv' => exact h1
                    · trivial
                  | toStr y =>
                    have hs1 : s1 = s := by
                      simp only [opS] at hc
                      split at hc <;> try (simp at hc; done)
                      split at hc <;> try (simp at hc; done)
                      split at hc <;> simp only [Option.some.injEq, Prod.mk.injEq, reduceCtorEq] at hc
                      exact hc.2.symm
                    subst hs1
                    exact kind_kr hc h2 h1 h3 i
                  | _ => trivial
              obtain ⟨N, hN⟩ := ih h (h2.put h3) ((opS_fl hc hfl).env _) hrecs
              refine ⟨N, ?_⟩
              have hoe : (COper.er o).op = .s so.er := by simp [COper.er, hop, COp.er]
              simp only [List.map_cons, Step.er, evSt, hgr, hoe, h1]; exact hN
            | m mo =>
              rw [hop] at hc h
              simp only [opC] at hc
              simp only at h
              obtain ⟨σ', Z', ω', ob, f, h1, h2, h3, h4, h5, h6⟩ := opM_sound hc hk
              obtain ⟨N, hN⟩ := ih h (h2.put h3) ((opM_fl hc hk hfl).env _) (hr.mono h4 h5 h6 fun b x hb => by rw [St.get_alloc, if_neg (by have := hk.lt_next hb; omega)]; exact hb)
              refine ⟨N, ?_⟩
              have hoe : (COper.er o).op = .m mo.er := by simp [COper.er, hop, COp.er]
              simp only [List.map_cons, Step.er, evSt, hgr, hoe, h1]; exact hN
            | _ => rw [hop] at h; simp at h
    | big i o =>
      simp only [stepsU] at h
      cases hg : guardU o.guard s.e with
      | none => rw [hg] at h; simp at h
      | some b =>
        rw [hg] at h
        have hgr : guardEv (COper.er o).guard e = some b := guard_tr hk hg
        cases b with
        | false =>
          simp only at h
          obtain ⟨N, hN⟩ := ih h hunit (hfl.env _) hr
          exact ⟨N, by simp only [List.map_cons, Step.er, evSt, hgr]; exact hN⟩
        | true =>
          simp only at h
          cases hc : opC M Q F s o.dst o.op with
          | none => rw [hc] at h; simp at h
          | some p =>
            obtain ⟨u, s1⟩ := p
            rw [hc] at h
            simp only at h
            cases hb : (quietU Q s o.op || recOk s1 o.preds few || frameU M Q F s s1 o.op o.preds few) with
            | false => rw [hb] at h; simp at h
            | true =>
              rw [hb] at h
              simp only [cond_true] at h
              obtain ⟨N0, hN0⟩ := opC_sound hF hQ hc hk hfl
              -- what lies where it does not come to
              have hfr : ∃ N1, evOp M (callP C M N1) e st o.op.er fun v st' => ∀ hid, (quietU Q s o.op || recOk s1 o.preds few) = false → hidL s1 o.preds few = some hid → ∀ j, j ∈ hid → j < s.h.length → st'.get (σ j) = st.get (σ j) := by
                cases hq : (quietU Q s o.op || recOk s1 o.preds few) with
                | true => exact ⟨N0, evOp_mono (callP_fle (Nat.le_refl _)) (fun v st' _ hid hh => by cases hh) hN0⟩
                | false =>
                  rw [hq, Bool.false_or] at hb
                  cases hh : hidL s1 o.preds few with
                  | none => exact ⟨N0, evOp_mono (callP_fle (Nat.le_refl _)) (fun v st' _ hid _ hh => by cases hh) hN0⟩
                  | some hid =>
                    obtain ⟨N1, hN1⟩ := frame_sound hF hh hb hk hfl
                    exact ⟨N1, evOp_mono (callP_fle (Nat.le_refl _)) (fun v st' h hid' _ hh => by cases hh; exact h) hN1⟩
              obtain ⟨N1, hN1⟩ := hfr
              have hN := evOp_and (callP_and (C := C) (M := M) (n := max N0 N1)) (evOp_mono (callP_fle (Nat.le_max_left N0 N1)) (fun _ _ h => h) hN0) (evOp_mono (callP_fle (Nat.le_max_right N0 N1)) (fun _ _ h => h) hN1)
              generalize max N0 N1 = N at hN
              have h2 : evOp M (callP C M N) e st o.op.er fun v st' => ∃ m, recheck st' o.preds recs (evSt M (callP C M m) (r.map Step.er) (putD o.dst v e) st' (keepRecs o.preds recs) fun e' st' => OkS E s' e' st') := by
                refine evOp_mono (callP_fle (Nat.le_refl N)) (fun v st' hv => ?_) hN
                obtain ⟨⟨k0, σ', Z', ω', k1, k2, k3, k4, k5, k6⟩, hid0⟩ := hv
                refine recheck_cont (K := fun m => evSt M (callP C M m) (r.map Step.er) (putD o.dst v e) st' (keepRecs o.preds recs) fun e' st' => OkS E s' e' st') ?_
                have hr1 : RL σ' Z' s1.h.length st few recs := hr.mono k3 k4 k5 (fun _ _ h => h)
                have fin : ∀ {st2 : St}, RL σ' Z' s1.h.length st' (recKeep o.preds few) (keepRecs o.preds recs) → ∃ m, evSt M (callP C M m) (r.map Step.er) (putD o.dst v e) st' (keepRecs o.preds recs) fun e' st' => OkS E s' e' st' := fun hrl => ih h (k1.put k2) (k0.env _) hrl
                cases hq : quietU Q s o.op with
                | true =>
                  have hr2 : RL σ' Z' s1.h.length st' few recs := hr.mono k3 k4 k5 (fun b x hbx => by rw [k6 hq b (hk.lt_next hbx)]; exact hbx)
                  have hst := hr2.stay (p := o.preds) trivial
                  exact recheck_mono (fun _ => fin (st2 := st') hst.2) hst.1
                | false =>
                  cases hro : recOk s1 o.preds few with
                  | true =>
                    have hst := RL.check k1 hr1 hro trivial
                    exact recheck_mono (fun _ => fin (st2 := st') hst.2) hst.1
                  | false =>
                    cases hh : hidL s1 o.preds few with
                    | none =>
                      rw [hq, hro] at hb
                      simp [frameU, hh] at hb
                    | some hid =>
                      have hst := RL.check2 k1 hr1 hr hh (hid0 hid (by rw [hq, hro]; rfl) hh) trivial
                      exact recheck_mono (fun _ => fin (st2 := st') hst.2) hst.1
              obtain ⟨m, _, hm⟩ := op_cont (K := fun m v st' => recheck st' o.preds recs (evSt M (callP C M m) (r.map Step.er) (putD o.dst v e) st' (keepRecs o.preds recs) fun e' st' => OkS E s' e' st')) (fun a b hab => callP_fle hab) (fun f args s K hK h => callP_cont hK h)
                (fun a b v s hab h => recheck_mono (fun h => evSt_mono (callP_fle hab) (fun _ _ h => h) h) h) h2
              exact ⟨m, by simp only [List.map_cons, Step.er, evSt, hgr]; exact hm⟩
theorem drawU_sound (hF : FOK (callW C M) F) (hQ : QOK (callW C M) Q) {ops : List COper} {l : List Step} (hl : sched (ops.length + 1) (numbered ops 0) 0 = some l) (h : stepsU M Q F l s [] = some s') (hk : Ok E σ Z ω s e st) (hfl : Fl s) :
    ∃ N, evC C M N (.draw (opersEr ops)) e st fun ex e' st' => ex = .normal ∧ OkS E s' e' st' := by
  obtain ⟨N, hN⟩ := stepsU_sound hF hQ h hk hfl .nil
  refine ⟨N + 1, evC_sched (steps := l.map Step.er) ?_ (evSt_mono (callP_fle (Nat.le_refl _)) (fun _ _ h => ⟨rfl, h⟩) hN)⟩
  have := sched_er hl
  rw [opersEr_len, numbered_er]; exact this
end
end Go.RE
