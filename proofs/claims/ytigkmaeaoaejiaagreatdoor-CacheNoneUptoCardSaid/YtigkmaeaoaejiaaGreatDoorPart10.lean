/- What stays: liveness, and the end of a call. -/
import Derived.Test.YtigkmaeaoaejiaaGreatDoorPart9
set_option linter.unusedVariables false
set_option linter.unusedSimpArgs false
set_option linter.constructorNameAsVariable false
namespace Go.RE
section
variable {E : Ent} {σ : Sg} {Z : Zs} {ω ω' : Om} {s s' : Vs} {e e2 : PT V} {st : St} {n m : Nat}
theorem Ok.reω (h : Ok E σ Z ω s e st) {bk : Tg → Tg} (hb : ∀ g I, ω' g = some I → ω (bk g) = some I) (hi : ∀ g g' I I', ω' g = some I → ω' g' = some I' → bk g = bk g' → g = g')
    (hr : ω' .r = none) (hc : ∀ i off, ω' (.c i off) = ω (.c i off)) {E' : Env} (he : ∀ t u, look E' t = some u → ∃ v, e2.get t = some v ∧ TR σ Z ω' s.h.length u v) : Ok E σ Z ω' { s with e := E' } e2 st :=
  ⟨he, fun i o ho => (h.obj i o ho).mono (Nat.le_refl _) (fun _ _ => rfl) (fun _ _ h => h) (fun off => hc i off), h.zok, fun g I hI => h.wok _ I (hb g I hI), h.fresh, h.inj, fun g g' I I' h1 h2 hbb => hi g g' I I' h1 h2 (h.winj _ _ _ _ (hb g I h1) (hb g' I' h2) hbb),
    fun i g I hi hI => h.sw i _ I hi (hb g I hI), h.sz, fun g I hI => h.wz _ I (hb g I hI), h.sb, hr, fun i off I hI => h.wc i off I (by rw [← hc]; exact hI), h.n0, h.sig, h.zz, h.nx, fun b hb1 hb2 => by
      obtain ⟨k1, k2, k3, k4⟩ := h.out b hb1 hb2
      exact ⟨k1, k2, fun g I hI => k3 _ I (hb g I hI), k4⟩, h.gn⟩
theorem UR.cut {u : U} {v : V} (h : UR σ Z n u v) (hl : u.low m = true) : UR σ Z m u v := by
  have hls : ∀ {a : List U}, U.lows m a = true → ∀ (j : Nat) u, a[j]? = some u → u.low m = true := fun h j u hu => lows_all.1 h u (List.mem_of_getElem? hu)
  induction h with
  | bool b => exact .bool b
  | int k x => exact .int k x
  | str s => exact .str s
  | nilp => exact .nilp
  | nils => exact .nils
  | nilm => exact .nilm
  | nilf => exact .nilf
  | nili => exact .nili
  | ptr h => exact .ptr (by simp only [U.low, Nat.blt, Nat.ble_eq] at hl; omega)
  | map h => exact .map (by simp only [U.low, Nat.blt, Nat.ble_eq] at hl; omega)
  | cptrZ h1 h2 h3 _ => exact .cptrZ h1 h2 h3
  | cptrC h1 h2 _ => exact .cptrC h1 h2
  | slnil => exact .slnil
  | slz => exact .slz
  | nl1 => exact .nl1
  | nl2 => exact .nl2
  | slZ h1 h2 h3 h4 h5 h6 _ => exact .slZ h1 h2 h3 h4 h5 h6
  | slC h1 h2 h3 h4 _ => exact .slC h1 h2 h3 h4
  | func h1 h2 h3 h4 i1 i2 =>
    simp only [U.low, Bool.and_eq_true] at hl
    exact .func h1 h2 (fun j u v a b => i1 j u v a b (hls hl.1 j u a)) (fun j u v a b => i2 j u v a b (hls hl.2 j u a))
  | iface h ih => exact .iface (ih hl)
  | agg h1 h2 ih => exact .agg h1 fun j u v a b => ih j u v a b (hls (by simpa only [U.low] using hl) j u a)
  | tup h1 h2 ih => exact .tup h1 fun j u v a b => ih j u v a b (hls (by simpa only [U.low] using hl) j u a)
theorem TR.cut {u : U} {v : V} (h : TR σ Z ω n u v) (hl : u.low m = true) (hω : ∀ g, u.tag = some g → ω' g = ω g) : TR σ Z ω' m u v := by
  cases u with
  | bad => trivial
  | cown _ _ => trivial
  | own g w xs => exact ⟨h.1.mono (fun _ _ h => h) (hω g rfl), fun i off e => by subst e; simp only [U.low, Nat.blt, Nat.ble_eq] at hl; omega⟩
  | optr g i f =>
    obtain ⟨⟨I, h1, h2⟩, h3⟩ := h
    exact ⟨⟨I, by rw [hω g rfl]; exact h1, h2⟩, fun i off e => by subst e; simp only [U.low, Nat.blt, Nat.ble_eq] at hl; omega⟩
  | asl i off len w => obtain ⟨h1, cap, h2, h3⟩ := h; exact ⟨by simp only [U.low, Nat.blt, Nat.ble_eq] at hl; omega, cap, h2, h3⟩
  | _ => exact UR.cut h hl
theorem CR.cut {i off : Nat} {u : U} {v : V} (h : CR σ Z ω n i off u v) (hl : u.low m = true) (hω : ω' (.c i off) = ω (.c i off)) : CR σ Z ω' m i off u v := by
  cases u with
  | bad => trivial
  | cown w xs => exact OR.mono (fun _ _ h => h) hω h
  | _ => exact UR.cut h hl
theorem OB.cut {i : Nat} {o : Uo} {ob : Option Ob} (h : OB σ Z ω n i o ob) (hl : o.low m = true) (hω : ∀ off, ω' (.c i off) = ω (.c i off)) : OB σ Z ω' m i o ob := by
  cases o with
  | row cs =>
    obtain ⟨cs', h1, h2, h3⟩ := h
    exact ⟨cs', h1, h2, fun off u v a b => (h3 off u v a b).cut (lows_all.1 hl u (List.mem_of_getElem? a)) (hω off)⟩
  | map es c =>
    obtain ⟨es', h1, h2, h3⟩ := h
    refine ⟨es', h1, h2, fun j x y a b => ?_⟩
    simp only [Uo.low, List.all_eq_true, entLow, Bool.and_eq_true] at hl
    have := hl x (List.mem_of_getElem? a)
    exact ⟨(h3 j x y a b).1.cut this.1, (h3 j x y a b).2.1.cut this.2, (h3 j x y a b).2.2⟩
  | iter q a b c => exact ⟨h.1, fun j hj => by subst hj; simp only [Uo.low, Nat.blt, Nat.ble_eq] at hl; omega⟩
  | gone => trivial
def below (m : Nat) (ω : Om) : Om := fun g => match g with
  | .c i off => if i < m then ω (.c i off) else none
  | g => ω g
theorem below_some {g : Tg} {I : OwnI} (h : below m ω g = some I) : ω g = some I := by
  unfold below at h
  split at h
  · split at h
    · exact h
    · cases h
  · exact h
theorem lowE_look : ∀ {ev : Env}, lowE n ev = true → ∀ t u, look ev t = some u → u.low n = true := by
  intro ev
  induction ev with
  | nil => intro _ t u h; simp [look] at h
  | cons x r ih =>
    intro h t u hu
    obtain ⟨k, v⟩ := x
    simp only [lowE, Bool.and_eq_true] at h
    simp only [look] at hu
    cases hb : Nat.beq k t with
    | true => rw [hb] at hu; simp at hu; subst hu; exact h.1
    | false => rw [hb] at hu; exact ih h.2 t u hu
theorem Fl.cut (h : Fl s) (n : Nat) : Fl { s with h := RE.cut n s.fl s.h } := by
  refine ⟨?_, fun i o ho => ?_⟩
  · have := h.le; simp only [RE.cut, List.length_take]; omega
  · simp only [RE.cut] at ho
    rw [List.getElem?_take] at ho
    split at ho
    · exact h.ob i o ho
    · cases ho
theorem Ok.cut (h : Ok E σ Z ω s e st) (hf : Fl s) (hn : E.n ≤ n) (hl : ∀ t u, look s.e t = some u → u.low n = true) : ∃ ω', Ok E σ Z ω' { s with h := RE.cut n s.fl s.h } e st ∧ (∀ d, ω' (.t d) = ω (.t d)) ∧ ∀ i off, i < (RE.cut n s.fl s.h).length → ω' (.c i off) = ω (.c i off) := by
  by_cases hle : s.h.length ≤ max n s.fl
  · have e1 : RE.cut n s.fl s.h = s.h := by unfold RE.cut; exact List.take_of_length_le hle
    refine ⟨ω, ?_, fun _ => rfl, fun _ _ _ => rfl⟩
    rw [e1]; exact h
  · have hlen : (RE.cut n s.fl s.h).length = max n s.fl := by simp only [RE.cut, List.length_take]; omega
    generalize hm : max n s.fl = m at hlen hle
    have hmn : n ≤ m := by omega
    have hget : ∀ (i : Nat) o, (RE.cut n s.fl s.h)[i]? = some o → s.h[i]? = some o := fun i o ho => by
      unfold RE.cut at ho; rw [List.getElem?_take] at ho
      split at ho
      · exact ho
      · cases ho
    refine ⟨below m ω, ⟨fun t u hu => ?_, fun i o ho => ?_, h.zok, fun g I hI => h.wok g I (below_some hI), h.fresh, fun i j hi hj => h.inj i j (by rw [hlen] at hi; omega) (by rw [hlen] at hj; omega), fun g g' I I' h1 h2 => h.winj g g' I I' (below_some h1) (below_some h2),
      fun i g I hi hI => h.sw i g I (by rw [hlen] at hi; omega) (below_some hI), fun i hi => h.sz i (by rw [hlen] at hi; omega), fun g I hI => h.wz g I (below_some hI), fun i hi => h.sb i (by rw [hlen] at hi; omega), h.wr, fun i off I hI => ?_, ?_, h.sig, h.zz, h.nx, fun b hb1 hb2 => ?_, fun i hi => ?_⟩, fun _ => rfl, fun i off hi => ?_⟩
    · obtain ⟨v, h1, h2⟩ := h.env t u hu
      have hlow := low_up hmn (hl t u hu)
      refine ⟨v, h1, ?_⟩
      rw [hlen]
      refine h2.cut hlow fun g hg => ?_
      unfold below
      split
      · rename_i i off
        rw [if_pos]
        cases u with
        | own g w xs => simp [U.tag] at hg; subst hg; simp only [U.low, Nat.blt, Nat.ble_eq] at hlow; omega
        | optr g a b => simp [U.tag] at hg; subst hg; simp only [U.low, Nat.blt, Nat.ble_eq] at hlow; omega
        | _ => simp [U.tag] at hg
      · rfl
    · have hi : i < m := by have := (List.getElem?_eq_some_iff.1 ho).1; rw [hlen] at this; exact this
      rw [hlen]
      refine (h.obj i o (hget i o ho)).cut (Uo.low_up (by omega) (hf.ob i o (hget i o ho))) fun off => ?_
      simp only [below, if_pos hi]
    · rw [hlen]
      simp only [below] at hI
      split at hI
      · assumption
      · cases hI
    · rw [hlen]; have := h.n0; omega
    · obtain ⟨k1, k2, k3, k4⟩ := h.out b hb1 hb2
      exact ⟨k1, fun i hi => k2 i (by rw [hlen] at hi; omega), fun g I hI => k3 g I (below_some hI), k4⟩
    · obtain ⟨k1, k2, k3⟩ := h.gn i hi
      exact ⟨k1, by unfold RE.cut; rw [List.getElem?_take, if_pos (by omega)]; exact k2, k3⟩
    · rw [hlen] at hi; simp only [below, if_pos hi]
def reT (ω : Om) (κ : Nat → Option Nat) : Om := fun g => match g with
  | .c i off => ω (.c i off)
  | .t x => (match κ x with | some y => ω (.t y) | none => none)
  | .r => none
theorem keepE_spec {ω : Om} (hr : ω .r = none) : ∀ {L : List Nat} {ev : Env}, (∀ t u, look ev t = some u → ∃ v, e.get t = some v ∧ TR σ Z ω n u v) →
    ∃ κ : Nat → Option Nat, (∀ t t' y, κ t = some y → κ t' = some y → t = t') ∧ (∀ t y, κ t = some y → ∃ x w xs, look ev x = some (.own (.t y) w xs)) ∧
      ∀ t u, look (keepE L ev) t = some u → (∀ g, u.tag = some g → g = .t t ∨ ∃ i off, g = .c i off) ∧ ∃ v, e.get t = some v ∧ TR σ Z (reT ω κ) n u v := by
  intro L
  induction L with
  | nil => intro ev h; exact ⟨fun _ => none, fun t t' y hh _ => by simp at hh, fun t y hh => by simp at hh, fun t u hu => by simp [keepE, look] at hu⟩
  | cons t ts ih =>
    intro ev h
    have hkill : ∀ g, ∀ x u, look (Env.kill g ev) x = some u → ∃ v, e.get x = some v ∧ TR σ Z ω n u v := fun g x u hu => by
      rw [look_kill] at hu
      cases hq : look ev x with
      | none => rw [hq] at hu; simp at hu
      | some y =>
        rw [hq] at hu; simp at hu
        obtain ⟨v, h1, h2⟩ := h x y hq
        rcases (kill_tag hu).2 with rfl | rfl
        · exact ⟨v, h1, h2⟩
        · exact ⟨v, h1, trivial⟩
    -- one that has no tag of its own
    have other : ∀ u0, look ev t = some u0 → ∀ u1 ev', (∀ v, TR σ Z ω n u0 v → ∀ κ, κ t = none → TR σ Z (reT ω κ) n u1 v) → (∀ g, u1.tag = some g → g = .t t ∨ ∃ i off, g = .c i off) → (∀ x u, look ev' x = some u → ∃ v, e.get x = some v ∧ TR σ Z ω n u v) →
        (∀ x u, look ev' x = some u → u.tag.isSome = true → look ev x = some u) →
        ∃ κ : Nat → Option Nat, (∀ t t' y, κ t = some y → κ t' = some y → t = t') ∧ (∀ t y, κ t = some y → ∃ x w xs, look ev x = some (.own (.t y) w xs)) ∧
          ∀ x u, look ((t, u1) :: keepE ts ev') x = some u → (∀ g, u.tag = some g → g = .t x ∨ ∃ i off, g = .c i off) ∧ ∃ v, e.get x = some v ∧ TR σ Z (reT ω κ) n u v := by
      intro u0 h0 u1 ev' htr htag hev hsub
      obtain ⟨κ, a1, a2, a3⟩ := ih hev
      refine ⟨fun x => if x = t then none else κ x, fun x x' y hx hx' => ?_, fun x y hx => ?_, fun x u hu => ?_⟩
      · have hx : (if x = t then none else κ x) = some y := hx
        have hx' : (if x' = t then none else κ x') = some y := hx'
        split at hx
        · cases hx
        split at hx'
        · cases hx'
        exact a1 x x' y hx hx'
      · have hx : (if x = t then none else κ x) = some y := hx
        split at hx
        · cases hx
        obtain ⟨z, w, xs, hz⟩ := a2 x y hx
        exact ⟨z, w, xs, hsub z _ hz rfl⟩
      · simp only [look] at hu
        cases hb : Nat.beq t x with
        | true =>
          rw [hb] at hu; simp at hu; subst hu
          have := Nat.eq_of_beq_eq_true hb
          subst this
          obtain ⟨v, h1, h2⟩ := h t u0 h0
          exact ⟨htag, v, h1, htr v h2 _ (by simp)⟩
        | false =>
          rw [hb] at hu
          obtain ⟨b1, v, b2, b3⟩ := a3 x u hu
          have hne : x ≠ t := fun hh => by subst hh; simp at hb
          refine ⟨b1, v, b2, b3.mono (Nat.le_refl _) (fun _ _ => rfl) (fun _ _ h => h) fun g hg => ?_⟩
          rcases b1 g hg with rfl | ⟨i, off, rfl⟩
          · simp only [reT, if_neg hne]
          · rfl
    have hself : ∀ x u, look ev x = some u → u.tag.isSome = true → look ev x = some u := fun _ _ h _ => h
    have hselfk : ∀ g x u, look (Env.kill g ev) x = some u → u.tag.isSome = true → look ev x = some u := fun g x u hu ht => by
      rw [look_kill] at hu
      cases hq : look ev x with
      | none => rw [hq] at hu; simp at hu
      | some y =>
        rw [hq] at hu; simp at hu
        rcases (kill_tag hu).2 with rfl | rfl
        · rfl
        · simp [U.tag] at ht
    cases h0 : look ev t with
    | none => 
      obtain ⟨κ, a1, a2, a3⟩ := ih h
      exact ⟨κ, a1, a2, fun x u hu => a3 x u (by simpa only [keepE, h0] using hu)⟩
    | some u0 =>
      cases u0 with
      | own g w xs =>
        cases g with
        | t g =>
          simp only [keepE, h0]
          obtain ⟨κ, a1, a2, a3⟩ := ih (hkill (.t g))
          have hnog : ∀ x, κ x ≠ some g := fun x hx => by
            obtain ⟨z, w, xs, hz⟩ := a2 x g hx
            rw [look_kill] at hz
            cases hq : look ev z with
            | none => rw [hq] at hz; simp at hz
            | some y =>
              rw [hq] at hz; simp at hz
              exact (kill_tag hz).1 rfl
          refine ⟨fun x => if x = t then some g else κ x, fun x x' y hx hx' => ?_, fun x y hx => ?_, fun x u hu => ?_⟩
          · simp only at hx hx'
            by_cases h1 : x = t <;> by_cases h2 : x' = t
            · rw [h1, h2]
            · rw [if_pos h1] at hx; rw [if_neg h2] at hx'; cases hx; exact absurd hx' (hnog x')
            · rw [if_neg h1] at hx; rw [if_pos h2] at hx'; cases hx'; exact absurd hx (hnog x)
            · rw [if_neg h1] at hx; rw [if_neg h2] at hx'; exact a1 x x' y hx hx'
          · simp only at hx
            split at hx
            · cases hx; exact ⟨t, w, xs, h0⟩
            · obtain ⟨z, w, xs, hz⟩ := a2 x y hx
              exact ⟨z, w, xs, hselfk _ z _ hz rfl⟩
          · simp only [look] at hu
            cases hb : Nat.beq t x with
            | true =>
              rw [hb] at hu; simp at hu; subst hu
              have := Nat.eq_of_beq_eq_true hb
              subst this
              obtain ⟨v, h1, h2⟩ := h t _ h0
              refine ⟨fun g' hg' => by simp [U.tag] at hg'; exact .inl hg'.symm, v, h1, OR.to h2.1 (fun _ _ h => h) ?_, fun i off hh => by cases hh⟩
              simp only [reT, if_true]
            | false =>
              rw [hb] at hu
              obtain ⟨b1, v, b2, b3⟩ := a3 x u hu
              have hne : x ≠ t := fun hh => by subst hh; simp at hb
              refine ⟨b1, v, b2, b3.mono (Nat.le_refl _) (fun _ _ => rfl) (fun _ _ h => h) fun g hg => ?_⟩
              rcases b1 g hg with rfl | ⟨i, off, rfl⟩
              · simp only [reT, if_neg hne]
              · rfl
        | r =>
          simp only [keepE, h0]
          refine other _ h0 _ _ (fun v hv κ hκ => ⟨OR.to hv.1 (fun _ _ h => h) ?_, fun i off hh => by cases hh⟩) (fun g' hg' => by simp [U.tag] at hg'; exact .inl hg'.symm) (hkill .r) (hselfk .r)
          simp only [reT, hκ]; exact hr.symm
        | c i off =>
          simp only [keepE, h0]
          exact other _ h0 _ _ (fun v hv κ hκ => TR.mono (Nat.le_refl _) (fun _ _ => rfl) (fun _ _ h => h) (fun g hg => by simp [U.tag] at hg; subst hg; rfl) hv) (fun g' hg' => by simp [U.tag] at hg'; exact .inr ⟨i, off, hg'.symm⟩) h hself
      | optr g i f =>
        cases g with
        | t g =>
          simp only [keepE, h0]
          exact other _ h0 _ _ (fun v hv κ hκ => trivial) (fun g' hg' => by simp [U.tag] at hg') h hself
        | r =>
          simp only [keepE, h0]
          exact other _ h0 _ _ (fun v hv κ hκ => trivial) (fun g' hg' => by simp [U.tag] at hg') h hself
        | c j off =>
          simp only [keepE, h0]
          exact other _ h0 _ _ (fun v hv κ hκ => TR.mono (Nat.le_refl _) (fun _ _ => rfl) (fun _ _ h => h) (fun g hg => by simp [U.tag] at hg; subst hg; rfl) hv) (fun g' hg' => by simp [U.tag] at hg'; exact .inr ⟨j, off, hg'.symm⟩) h hself
      | _ =>
        simp only [keepE, h0]
        exact other _ h0 _ _ (fun v hv κ hκ => TR.mono (Nat.le_refl _) (fun _ _ => rfl) (fun _ _ h => h) (fun g hg => by simp [U.tag] at hg) hv) (fun g' hg' => by simp [U.tag] at hg') h hself
theorem keep_ok (hf : Fl s) (h : Ok E σ Z ω s e st) (hn : E.n ≤ n) (L : List Nat) : OkS E (keep L n s) e st := by
  obtain ⟨κ, a1, a2, a3⟩ := keepE_spec (L := L) h.wr h.env
  have h1 : Ok E σ Z (reT ω κ) { s with e := keepE L s.e } e st := by
    refine h.reω (ω' := reT ω κ) (E' := keepE L s.e) (bk := fun g => match g with | .t x => (match κ x with | some y => .t y | none => .r) | g => g) (fun g I hI => ?_) (fun g g' I I' h1 h2 hbb => ?_) rfl (fun _ _ => rfl) (fun t u hu => (a3 t u hu).2)
    · cases g with
      | t x =>
        simp only [reT] at hI ⊢
        cases hx : κ x with
        | none => rw [hx] at hI; cases hI
        | some y => rw [hx] at hI; exact hI
      | c i off => exact hI
      | r => cases hI
    · cases g with
      | t x =>
        simp only [reT] at h1
        cases hx : κ x with
        | none => rw [hx] at h1; cases h1
        | some y =>
          simp only [hx] at hbb
          cases g' with
          | t x' =>
            simp only [reT] at h2
            cases hx' : κ x' with
            | none => rw [hx'] at h2; cases h2
            | some y' =>
              simp only [hx'] at hbb
              cases hbb
              rw [a1 x x' y hx hx']
          | c i off => cases hbb
          | r => cases hbb
      | c i off =>
        cases g' with
        | t x' =>
          simp only [reT] at h2
          cases hx' : κ x' with
          | none => rw [hx'] at h2; cases h2
          | some y' => simp only [hx'] at hbb; cases hbb
        | c j o => simpa using hbb
        | r => cases h2
      | r => cases h1
  have hf1 : Fl { s with e := keepE L s.e } := hf.env _
  unfold keep
  simp only
  cases hl : lowE n (keepE L s.e) with
  | false => exact ⟨hf1, σ, Z, _, h1⟩
  | true =>
    simp only [cond_true]
    obtain ⟨ω', k1, _⟩ := h1.cut hf1 hn (lowE_look hl)
    exact ⟨hf1.cut n, σ, Z, ω', k1⟩
end
end Go.RE
namespace Go.RE
section
variable {E : Ent} {σ : Sg} {Z : Zs} {ω ω' : Om} {s s' : Vs} {e e2 : PT V} {st : St} {n m : Nat}
theorem resU_tr (h : Ok E σ Z ω s e st) {r : CRes} {u : U} (hr : resU s r = some u) : ∃ v, resV e st r = some v ∧ TR σ Z ω s.h.length u v := by
  cases r with
  | t k => exact h.env k u hr
  | cell a k =>
    simp only [resU] at hr
    split at hr <;> try (simp at hr; done)
    rename_i i off ha
    split at hr <;> try (simp at hr; done)
    rename_i cs hi
    obtain ⟨va, h1, h2⟩ := h.env a _ ha
    obtain ⟨_, rfl⟩ := TR.ptr h2
    obtain ⟨cs', v, w1, w2, w3⟩ := loadO_tr h hi hr
    exact ⟨v, by simp only [resV, h1, w1]; exact w2, w3⟩
theorem resUs_tr (h : Ok E σ Z ω s e st) : ∀ {rs : List CRes} {us : List U}, resUs s rs = some us → ∃ vs, resL e st rs = some vs ∧ us.length = vs.length ∧ ∀ (j : Nat) u v, us[j]? = some u → vs[j]? = some v → TR σ Z ω s.h.length u v := by
  intro rs
  induction rs with
  | nil => intro us hr; simp [resUs] at hr; subst hr; exact ⟨[], rfl, rfl, fun j u v hu => by simp at hu⟩
  | cons r rs ih =>
    intro us hr
    simp only [resUs] at hr
    split at hr <;> try (simp at hr; done)
    rename_i u hu
    split at hr <;> simp only [Option.some.injEq, reduceCtorEq] at hr
    rename_i us' hus
    subst hr
    obtain ⟨v, h1, h2⟩ := resU_tr h hu
    obtain ⟨vs, k1, k2, k3⟩ := ih hus
    refine ⟨v :: vs, by simp only [resL, h1, k1], by simp [k2], fun j x y hx hy => ?_⟩
    cases j with
    | zero => simp at hx hy; subst hx; subst hy; exact h2
    | succ j => exact k3 j x y (by simpa using hx) (by simpa using hy)
theorem cut_len (H : List Uo) (fl : Nat) : (cut n fl H).length = min (max n fl) H.length := by simp only [cut, List.length_take]
theorem low_min {u : U} {a b : Nat} (ha : u.low a = true) (hb : u.low b = true) {c : Nat} (hc : a ≤ c ∨ b ≤ c) : u.low c = true := by
  rcases hc with hc | hc
  · exact low_up hc ha
  · exact low_up hc hb
theorem Ok.finCut {H : List Uo} {fl : Nat} (h : Ok E σ Z ω ⟨[], H, fl⟩ .e st) (hf : Fl ⟨[], H, fl⟩) (hn : E.n ≤ n) (b : Bool) :
    ∃ ω', Ok E σ Z ω' ⟨[], bif b then RE.cut n fl H else H, fl⟩ .e st ∧ (∀ d, ω' (.t d) = ω (.t d)) ∧ Fl ⟨[], bif b then RE.cut n fl H else H, fl⟩ := by
  cases b with
  | false => exact ⟨ω, h, fun _ => rfl, hf⟩
  | true =>
    obtain ⟨ω', k1, k2, _⟩ := h.cut hf hn (fun t u hu => by simp [look] at hu)
    exact ⟨ω', k1, k2, hf.cut n⟩
theorem finLow {H : List Uo} {fl : Nat} {u : U} (hu : u.low H.length = true) : u.low (bif u.low n then cut n fl H else H).length = true := by
  cases hl : u.low n with
  | false => exact hu
  | true =>
    simp only [cond_true, cut_len]
    exact low_min hl hu (by omega)
theorem finLows {H : List Uo} {fl : Nat} {us : List U} (hu : U.lows H.length us = true) : U.lows (bif U.lows n us then cut n fl H else H).length us = true := by
  cases hl : U.lows n us with
  | false => exact hu
  | true =>
    simp only [cond_true, cut_len]
    rw [lows_all] at hu hl ⊢
    exact fun u hm => low_min (hl u hm) (hu u hm) (by omega)
def fin0 (ω : Om) (g : Option Tg) : Om := fun x => match x with
  | .c i off => ω (.c i off)
  | .t 0 => (match g with | some g => ω g | none => none)
  | _ => none
theorem Ok.noEnv (h : Ok E σ Z ω s e st) {g : Option Tg} (hg : ∀ i off, g ≠ some (.c i off)) : Ok E σ Z (fin0 ω g) ⟨[], s.h, s.fl⟩ .e st := by
  refine h.reω (ω' := fin0 ω g) (E' := []) (bk := fun x => match x with | .t 0 => (match g with | some g => g | none => .r) | x => x) (fun x I hI => ?_) (fun x y I J hI hJ hb => ?_) rfl (fun _ _ => rfl) (fun t u hu => by simp [look] at hu)
  · cases x with
    | c i off => exact hI
    | r => cases hI
    | t d =>
      cases d with
      | zero =>
        simp only [fin0] at hI ⊢
        cases g with
        | none => cases hI
        | some g => exact hI
      | succ d => cases hI
  · cases x with
    | r => cases hI
    | c i off =>
      cases y with
      | r => cases hJ
      | c j o => simpa using hb
      | t d =>
        cases d with
        | zero =>
          cases g with
          | none => cases hJ
          | some g => simp only at hb; exact absurd (by rw [hb]) (hg i off)
        | succ d => cases hJ
    | t d =>
      cases d with
      | succ d => cases hI
      | zero =>
        cases y with
        | r => cases hJ
        | t d2 =>
          cases d2 with
          | zero => rfl
          | succ d2 => cases hJ
        | c j o =>
          cases g with
          | none => cases hI
          | some g => simp only at hb; exact absurd (by rw [hb]) (hg j o)
theorem fin0_t (g : Option Tg) : ∀ d, d ≠ 0 → fin0 ω g (.t d) = none := by
  intro d hd
  cases d with
  | zero => exact absurd rfl hd
  | succ d => rfl
theorem gives_args : ∀ {vs us : List U}, gives false vs = some us → argsU vs = some us ∧ ∀ i off w xs, .own (.c i off) w xs ∉ vs := by
  intro vs
  induction vs with
  | nil => intro us h; simp [gives] at h; subst h; exact ⟨rfl, fun i off w xs hm => by cases hm⟩
  | cons v vs ih =>
    intro us h
    simp only [gives] at h
    split at h <;> try (simp at h; done)
    rename_i u hu
    split at h <;> simp only [Option.some.injEq, reduceCtorEq] at h
    rename_i us' hus
    subst h
    obtain ⟨k1, k2⟩ := ih hus
    have hv : argU v = some u ∧ ∀ i off w xs, v ≠ .own (.c i off) w xs := by
      cases v with
      | own g w xs => cases g <;> simp [U.give] at hu <;> subst hu <;> exact ⟨rfl, fun i off w xs hh => by cases hh⟩
      | bad => simp [U.give] at hu
      | cown _ _ => simp [U.give] at hu
      | optr _ _ _ => simp [U.give] at hu
      | asl _ _ _ _ => simp [U.give] at hu
      | tup _ => simp [U.give] at hu
      | _ => simp [U.give] at hu; subst hu; exact ⟨rfl, fun i off w xs hh => by cases hh⟩
    refine ⟨by simp only [argsU, hv.1, k1], fun i off w xs hm => ?_⟩
    rcases List.mem_cons.1 hm with hh | hh
    · exact hv.2 i off w xs hh.symm
    · exact k2 i off w xs hh
theorem frz_h {g : Tg} (hg : ∀ i off, g ≠ .c i off) : (s.frz g).h = s.h ∧ (s.frz g).fl = s.fl := by
  cases g with
  | c i off => exact absurd rfl (hg i off)
  | t d => exact ⟨rfl, rfl⟩
  | r => exact ⟨rfl, rfl⟩
theorem frzArgs_h : ∀ {vs : List U} {s : Vs}, (∀ i off w xs, .own (.c i off) w xs ∉ vs) → (frzArgs vs s).h = s.h ∧ (frzArgs vs s).fl = s.fl := by
  intro vs
  induction vs with
  | nil => intro s _; exact ⟨rfl, rfl⟩
  | cons v vs ih =>
    intro s h
    have h2 : ∀ i off w xs, .own (.c i off) w xs ∉ vs := fun i off w xs hm => h i off w xs (List.mem_cons_of_mem _ hm)
    cases v with
    | own g w xs =>
      simp only [frzArgs]
      have hg : ∀ i off, g ≠ .c i off := fun i off hh => by subst hh; exact h i off w xs List.mem_cons_self
      obtain ⟨a, b⟩ := ih (s := s.frz g) h2
      obtain ⟨c, d⟩ := frz_h (s := s) hg
      exact ⟨a.trans c, b.trans d⟩
    | _ => simp only [frzArgs]; exact ih h2
theorem fin_sound {fn : VFunc} {r : U} {h' : List Uo} {fl' : Nat} (h : Ok E σ Z ω s e st) (hf : Fl s) (hn : E.n ≤ n) (hr : finU n fn s = some (r, h', fl')) :
    ∃ v, resAll e st fn.results = some v ∧ Fl ⟨[], h', fl'⟩ ∧ ∃ σ' Z' ω', Ok E σ' Z' ω' ⟨[], h', fl'⟩ .e st ∧ (∀ d, d ≠ 0 → ω' (.t d) = none) ∧ RR σ' Z' ω' h'.length r v := by
  unfold finU at hr
  split at hr
  · rename_i u0 hu0
    obtain ⟨vs, v1, v2, v3⟩ := resUs_tr h hu0
    have : ∃ v, vs = [v] := by
      cases vs with
      | nil => simp at v2
      | cons v vs => cases vs with | nil => exact ⟨v, rfl⟩ | cons a b => simp at v2
    obtain ⟨v, rfl⟩ := this
    have htr := v3 0 u0 v rfl rfl
    have hres : resAll e st fn.results = some v := by simp only [resAll, v1]
    refine ⟨v, hres, ?_⟩
    split at hr <;> simp only [Option.some.injEq, Prod.mk.injEq, reduceCtorEq] at hr
    rename_i r0 hg
    obtain ⟨rfl, rfl, rfl⟩ := hr
    -- what has no tag
    have plain : ∀ {s1 : Vs} {Z1 : Zs} {ω1 : Om}, Ok E σ Z1 ω1 s1 e st → s1.h = s.h → s1.fl = s.fl → UR σ Z1 s.h.length r0 v → (∀ w xs, r0 ≠ .own .r w xs) →
        Fl ⟨[], bif r0.low n then cut n s.fl s.h else s.h, s.fl⟩ ∧ ∃ σ' Z' ω', Ok E σ' Z' ω' ⟨[], bif r0.low n then cut n s.fl s.h else s.h, s.fl⟩ .e st ∧ (∀ d, d ≠ 0 → ω' (.t d) = none) ∧ RR σ' Z' ω' (bif r0.low n then cut n s.fl s.h else s.h).length r0 v := by
      intro s1 Z1 ω1 h1 e1 e2 hur hno
      have h2 := h1.noEnv (g := none) (fun _ _ hh => by cases hh)
      rw [e1, e2] at h2
      obtain ⟨ω3, k1, k2, k3⟩ := h2.finCut (hf.env []) hn (r0.low n)
      refine ⟨k3, σ, Z1, ω3, k1, fun d hd => by rw [k2]; exact fin0_t _ d hd, ?_⟩
      have hcut := hur.cut (finLow (n := n) (fl := s.fl) hur.lowOf)
      cases r0 with
      | own g w xs => cases hur
      | _ => exact hcut
    cases u0 with
    | own g w xs =>
      have hgc : ∀ i off, g ≠ .c i off := fun i off hh => by subst hh; simp [U.give] at hg
      have hgg : some (bif fn.own then U.own .r w xs else .sl w xs) = some r0 := by
        cases g with
        | c i off => exact absurd rfl (hgc i off)
        | t d => simpa [U.give] using hg
        | r => simpa [U.give] using hg
      simp only [Option.some.injEq] at hgg
      cases how : fn.own with
      | true =>
        rw [how] at hgg
        simp only [cond_true] at hgg
        subst hgg
        have h2 := h.noEnv (g := some g) (fun i off hh => by cases hh; exact absurd rfl (hgc i off))
        obtain ⟨ω3, k1, k2, k3⟩ := h2.finCut (hf.env []) hn ((U.own .r w xs).low n)
        refine ⟨k3, σ, Z, ω3, k1, fun d hd => by rw [k2]; exact fin0_t _ d hd, ?_⟩
        exact OR.to htr.1 (fun _ _ h => h) (k2 0)
      | false =>
        rw [how] at hgg
        simp only [cond_false] at hgg
        subst hgg
        obtain ⟨Z', ω2, k1, k2, k3, k4, k5, k6⟩ := h.frz g
        obtain ⟨e1, e2⟩ := frz_h (s := s) hgc
        exact plain k1 e1 e2 (htr.1.sl k2 k5) (fun w xs hh => by cases hh)
    | bad => simp [U.give] at hg
    | cown _ _ => simp [U.give] at hg
    | optr _ _ _ => simp [U.give] at hg
    | asl _ _ _ _ => simp [U.give] at hg
    | tup _ => simp [U.give] at hg
    | nl w =>
      simp [U.give] at hg
      subst hg
      have h1 : UR σ Z s.h.length (.nl w) v := htr
      exact plain h rfl rfl (by cases h1 with | nl1 => exact .slnil | nl2 => exact .slz) (fun w xs hh => by cases hh)
    | _ =>
      simp [U.give] at hg
      subst hg
      exact plain h rfl rfl htr (fun w xs hh => by cases hh)
  · rename_i us hno hus
    obtain ⟨vs, v1, v2, v3⟩ := resUs_tr h hus
    have hres : resAll e st fn.results = some (.tup vs) := by
      simp only [resAll, v1]
      cases vs with
      | nil => rfl
      | cons v vs =>
        cases vs with
        | nil =>
          cases us with
          | nil => simp at v2
          | cons u us => cases us with | nil => exact absurd rfl (hno u) | cons a b => simp at v2
        | cons a b => rfl
    refine ⟨_, hres, ?_⟩
    split at hr <;> simp only [Option.some.injEq, Prod.mk.injEq, reduceCtorEq] at hr
    rename_i ys hg
    obtain ⟨rfl, rfl, rfl⟩ := hr
    obtain ⟨g1, g2⟩ := gives_args hg
    obtain ⟨Z1, ω1, b1, b2, b3, b4, b5⟩ := frzArgs_ok (args := us) h
    obtain ⟨e1, e2⟩ := frzArgs_h (s := s) g2
    have hlu : LU σ Z1 s.h.length ys vs := args_lu b2 g1 v2 v3 b5
    have h2 := b1.noEnv (g := none) (fun _ _ hh => by cases hh)
    rw [e1, e2] at h2
    obtain ⟨ω3, k1, k2, k3⟩ := h2.finCut (hf.env []) hn (U.lows n ys)
    refine ⟨k3, σ, Z1, ω3, k1, fun d hd => by rw [k2]; exact fin0_t _ d hd, ?_⟩
    have hur : UR σ Z1 s.h.length (.tup ys) (.tup vs) := UR.tup hlu.1 hlu.2
    exact hur.cut (by simp only [U.low]; exact finLows hlu.lowOf)
  · simp at hr
end
end Go.RE
namespace Go.RE
def FOK1 (P : Nat → List V → St → (V → St → Prop) → Prop) (f : Nat) (p : List U → List Uo → Nat → Option (U × List Uo × Nat)) : Prop :=
  ∀ (us : List U) (h : List Uo) (fl : Nat) (r : U) (h' : List Uo) (fl' : Nat), p us h fl = some (r, h', fl') →
    ∀ (σ : Sg) (Z : Zs) (ω : Om) (st : St) (vs : List V), Ok ⟨h.length, σ, images σ ω h.length, Z, st, fun i => h[i]? = some .gone⟩ σ Z ω ⟨[], h, fl⟩ .e st → Fl ⟨[], h, fl⟩ → (∀ d, ω (.t d) = none) → LU σ Z h.length us vs →
      P f vs st fun v st' => Fl ⟨[], h', fl'⟩ ∧ ∃ σ' Z' ω', Ok ⟨h.length, σ, images σ ω h.length, Z, st, fun i => h[i]? = some .gone⟩ σ' Z' ω' ⟨[], h', fl'⟩ .e st' ∧ (∀ d, d ≠ 0 → ω' (.t d) = none) ∧ RR σ' Z' ω' h'.length r v
structure Tabs (C : Nat → Option CFunc) (M : Nat → String → Option Nat) (VF : Nat → Option VFunc) (Q : Mut) (Pm : Nat → Option (List U → List Uo → Nat → Option (U × List Uo × Nat))) : Prop where
  code : ∀ f fn, VF f = some fn → C f = some ⟨fn.ntmps, fn.results, fn.body.er⟩
  muts : QOK (callW C M) Q
  prims : ∀ f p, Pm f = some p → FOK1 (callW C M) f p
section
variable {C : Nat → Option CFunc} {M : Nat → String → Option Nat} {VF : Nat → Option VFunc} {Q : Mut} {Pm : Nat → Option (List U → List Uo → Nat → Option (U × List Uo × Nat))}
variable {E : Ent} {σ : Sg} {Z : Zs} {ω : Om} {s s' : Vs} {e : PT V} {st : St} {n m : Nat}
def kOk (E : Ent) (K : Ex → Vs → Prop) : Ex → PT V → St → Prop := fun ex e' st' => ∃ s', K ex s' ∧ OkS E s' e' st'
theorem pick_some {α : Type} {P : α → Prop} {x : α} (h : pick P = some x) : P x := by
  unfold pick at h
  split at h
  · rename_i hh; simp only [Option.some.injEq] at h; subst h; exact hh.choose_spec
  · cases h
theorem then_cont {N : Nat} {c : CCode} {K1 : Ex → PT V → St → Prop} {K : Nat → Ex → PT V → St → Prop} (hK : ∀ a b e env s, a ≤ b → K a e env s → K b e env s) (h : evC C M N c e st K1) (h2 : ∀ ex e' st', K1 ex e' st' → ∃ m, K m ex e' st') : ∃ m, evC C M m c e st (K m) := by
  obtain ⟨m, _, hm⟩ := evC_cont hK (evC_mono (Nat.le_refl N) h2 h)
  exact ⟨m, hm⟩
theorem OkS.keep {E : Ent} {s : Vs} (h : OkS E s e st) (L : List Nat) (hn : E.n ≤ n) : OkS E (keep L n s) e st := by
  obtain ⟨hf, σ, Z, ω, hk⟩ := h
  exact keep_ok hf hk hn L
theorem init_look : ∀ {us : List U} {i t : Nat} {u : U}, look (initU us i) t = some u → i ≤ t ∧ us[t - i]? = some u := by
  intro us
  induction us with
  | nil => intro i t u h; simp [initU, look] at h
  | cons a r ih =>
    intro i t u h
    simp only [initU, look] at h
    cases hb : Nat.beq i t with
    | true =>
      rw [hb] at h
      have := Nat.eq_of_beq_eq_true hb
      subst this
      simp at h; subst h
      exact ⟨Nat.le_refl _, by simp⟩
    | false =>
      rw [hb] at h
      obtain ⟨h1, h2⟩ := ih h
      refine ⟨by omega, ?_⟩
      rw [show t - i = (t - (i + 1)) + 1 by omega]; simpa using h2
theorem cands_tr {es : List (U × U × Nat)} {es' : List ME} (hl : es.length = es'.length) (hr : ∀ (j : Nat) e e', es[j]? = some e → es'[j]? = some e' → UR σ Z n e.1 e'.key ∧ UR σ Z n e.2.1 e'.val ∧ e'.born = e.2.2) {since : Nat} {seen : List Nat} :
    ∀ (i : Nat) (c : Option ME), (mapCands es' since seen)[i]? = some c → ∃ c0, c0 ∈ candsU es since seen ∧ (match c0, c with
      | none, none => True
      | some a, some b => UR σ Z n a.1 b.key ∧ UR σ Z n a.2.1 b.val ∧ b.born = a.2.2
      | _, _ => False) := by
  -- the lists, side by side
  have pair : ∀ {es : List (U × U × Nat)} {es' : List ME}, es.length = es'.length → (∀ (j : Nat) e e', es[j]? = some e → es'[j]? = some e' → UR σ Z n e.1 e'.key ∧ UR σ Z n e.2.1 e'.val ∧ e'.born = e.2.2) → ∀ p : Nat → Bool,
      (es.filter fun e => p e.2.2).length = (es'.filter fun e => p e.born).length ∧ ∀ (j : Nat) e e', (es.filter fun e => p e.2.2)[j]? = some e → (es'.filter fun e => p e.born)[j]? = some e' → UR σ Z n e.1 e'.key ∧ UR σ Z n e.2.1 e'.val ∧ e'.born = e.2.2 := by
    intro es
    induction es with
    | nil =>
      intro es' hl _ p
      have : es' = [] := List.eq_nil_of_length_eq_zero hl.symm
      subst this
      exact ⟨rfl, fun j e e' he => by simp at he⟩
    | cons a es ih =>
      intro es' hl hr p
      cases es' with
      | nil => simp at hl
      | cons a' es' =>
        have h0 := hr 0 a a' rfl rfl
        obtain ⟨i1, i2⟩ := ih (by simpa using hl) (fun j x y hx hy => hr (j + 1) x y (by simpa using hx) (by simpa using hy)) p
        rw [List.filter_cons, List.filter_cons, h0.2.2]
        cases p a.2.2 with
        | false => exact ⟨i1, i2⟩
        | true =>
          refine ⟨by simp [i1], fun j x y hx hy => ?_⟩
          cases j with
          | zero => simp at hx hy; subst hx; subst hy; exact h0
          | succ j => exact i2 j x y (by simpa using hx) (by simpa using hy)
  obtain ⟨a1, a2⟩ := pair hl hr (fun b => !seen.contains b)
  obtain ⟨b1, b2⟩ := pair a1 a2 (fun b => Nat.blt b since)
  obtain ⟨c1, c2⟩ := pair a1 a2 (fun b => Nat.ble since b)
  intro i c hc
  unfold mapCands at hc
  unfold candsU
  simp only at hc ⊢
  have hm := List.mem_of_getElem? hc
  rw [List.mem_append] at hm
  rcases hm with hm | hm
  · have he : (List.filter (fun e => Nat.blt e.born since) (List.filter (fun e => !seen.contains e.born) es')).isEmpty = true := by
      cases hq : (List.filter (fun e => Nat.blt e.born since) (List.filter (fun e => !seen.contains e.born) es')).isEmpty with
      | true => rfl
      | false => rw [hq] at hm; simp at hm
    rw [he] at hm
    simp at hm; subst hm
    refine ⟨none, List.mem_append_left _ ?_, trivial⟩
    have : (List.filter (fun e => Nat.blt e.2.2 since) (List.filter (fun e => !seen.contains e.2.2) es)).isEmpty = true := by
      rw [List.isEmpty_iff_length_eq_zero, b1, ← List.isEmpty_iff_length_eq_zero]; exact he
    rw [this]; simp
  · rw [List.mem_map] at hm
    obtain ⟨x, hx, rfl⟩ := hm
    rw [List.mem_append] at hx
    have get : ∀ {A : List (U × U × Nat)} {B : List ME}, A.length = B.length → (∀ (j : Nat) e e', A[j]? = some e → B[j]? = some e' → UR σ Z n e.1 e'.key ∧ UR σ Z n e.2.1 e'.val ∧ e'.born = e.2.2) → x ∈ B → ∃ a ∈ A, UR σ Z n a.1 x.key ∧ UR σ Z n a.2.1 x.val ∧ x.born = a.2.2 := by
      intro A B hAB hr hx
      obtain ⟨j, hj, rfl⟩ := List.mem_iff_getElem.1 hx
      exact ⟨A[j]'(by omega), List.getElem_mem _, hr j _ _ (List.getElem?_eq_getElem (by omega)) (List.getElem?_eq_getElem hj)⟩
    rcases hx with hx | hx
    · obtain ⟨a, ha, hr⟩ := get b1 b2 hx
      exact ⟨some a, List.mem_append_right _ (List.mem_map.2 ⟨a, List.mem_append_left _ ha, rfl⟩), hr⟩
    · obtain ⟨a, ha, hr⟩ := get c1 c2 hx
      exact ⟨some a, List.mem_append_right _ (List.mem_map.2 ⟨a, List.mem_append_right _ ha, rfl⟩), hr⟩
theorem next_sound {dst : Option Nat} {x : Opd} {k : Vs → Prop} {F : Nat → List V → St → (V → St → Prop) → Prop} (hok : OkS E s e st) (h : nextU s dst x k) :
    evOp M F e st (.next x.er) fun v st' => ∃ t, k t ∧ OkS E t (putD dst v e) st' := by
  obtain ⟨hf, σ, Z, ω, hk⟩ := hok
  unfold nextU at h
  split at h <;> try exact h.elim
  rename_i q hx
  obtain ⟨vx, x1, x2⟩ := hk.opd hx
  obtain ⟨hlt, rfl⟩ := TR.ptr x2
  have hfalse : TR σ Z ω s.h.length (.tup [.bool false]) (.tup [.bool false]) := UR.tup rfl (LU.cons (.bool false) .nil).2
  simp only [evOp, x1]
  split at h <;> try exact h.elim
  · rename_i since seen last hq
    obtain ⟨g1, g2⟩ := hk.obj q _ hq
    simp only [evNext, g1, Option.map_none]
    exact ⟨_, h, hf.env _, σ, Z, ω, hk.put hfalse⟩
  · rename_i j since seen last hq
    split at h <;> try exact h.elim
    rename_i es clock hj
    obtain ⟨hst, hall⟩ := h
    obtain ⟨g1, g2⟩ := hk.obj q _ hq
    obtain ⟨es', m1, m2, m3⟩ := hk.obj j _ hj
    have hst' : (!seen.isEmpty && !es'.isEmpty && es'.all (fun e => Nat.ble last e.born)) = false := by
      have e1 : es'.isEmpty = es.isEmpty := by cases es <;> cases es' <;> simp at m2 ⊢
      have e2 : es'.all (fun e => Nat.ble last e.born) = es.all (fun e => Nat.ble last e.2.2) := by
        clear hst hall hj m1
        induction es generalizing es' with
        | nil => have : es' = [] := List.eq_nil_of_length_eq_zero m2.symm; subst this; rfl
        | cons a es ih =>
          cases es' with
          | nil => simp at m2
          | cons a' es' =>
            simp only [List.all_cons]
            rw [(m3 0 a a' rfl rfl).2.2, ih es' (by simpa using m2) (fun j x y hx hy => m3 (j + 1) x y (by simpa using hx) (by simpa using hy)) (by cases es <;> cases es' <;> simp at m2 ⊢)]
      rw [e1, e2]; exact hst
    simp only [evNext, g1, Option.map_some, m1, hst', cond_false]
    intro i hi
    have hc := List.getElem?_eq_getElem hi
    rw [hc]
    obtain ⟨c0, c1, c2⟩ := cands_tr m2 m3 i _ hc
    have hk0 := hall c0 c1
    generalize (mapCands es' since seen)[i] = c at c2
    cases c with
    | none =>
      cases c0 with
      | some a => exact c2.elim
      | none => exact ⟨_, hk0, hf.env _, σ, Z, ω, hk.put hfalse⟩
    | some b =>
      cases c0 with
      | none => exact c2.elim
      | some a =>
        obtain ⟨r1, r2, r3⟩ := c2
        have hput := hk.putOb (i := q) (o := .iter (some j) since (seen ++ [a.2.2]) clock) (ob := .miter (some (σ j)) since (seen ++ [b.born]) clock) hlt (by rw [hq]; intro hh; cases hh) ⟨by rw [r3]; rfl, fun j' hj' => by cases hj'; exact g2 j rfl⟩
        refine ⟨_, hk0, hf.set (o := .iter (some j) since (seen ++ [a.2.2]) clock) ?_ _, σ, Z, ω, hput.put (UR.tup rfl (LU.cons (.bool true) (LU.cons ?_ (LU.cons ?_ .nil))).2)⟩
        · have := hf.ob q _ hq
          simpa only [Uo.low] using this
        · simpa using r1
        · simpa using r2
theorem sound (T : Tabs C M VF Q Pm) : ∀ n, FOK (callW C M) (vF VF M Q Pm n) ∧
    (∀ {fn : VFunc} {c : CCode} {E : Ent} {s : Vs} {K : Ex → Vs → Prop} {e : PT V} {st : St}, vC VF M Q Pm n fn c s K → OkS E s e st → ∃ N, evC C M N c.er e st (kOk E K)) ∧
    (∀ {fn : VFunc} {id : Nat} {b : CCode} {m : Nat} {E : Ent} {s : Vs} {K : Ex → Vs → Prop} {e : PT V} {st : St}, vL VF M Q Pm n fn id b m s K → E.n ≤ m → OkS E s e st → ∃ N, evC C M N (.loop b.er) e st (kBlock id (kOk E K))) := by
  intro n
  induction n with
  | zero =>
    refine ⟨fun f us h fl r h' fl' hh => ?_, fun hh => ?_, fun hh => ?_⟩
    · simp [vF] at hh
    · simp [vC] at hh
    · simp [vL] at hh
  | succ n ih =>
    obtain ⟨ihF, ihC, ihL⟩ := ih
    refine ⟨?_, ?_, ?_⟩
    · -- a function
      intro f us h fl r h' fl' hh σ Z ω st vs hk hfl ht hlu
      simp only [vF] at hh
      split at hh
      · rename_i p hp
        exact T.prims f p hp us h fl r h' fl' hh σ Z ω st vs hk hfl ht hlu
      · split at hh <;> try (simp at hh; done)
        rename_i fn hfn
        obtain ⟨hb, hh⟩ := bif_some hh
        have hc := pick_some hh
        have hlen : vs.length ≤ fn.ntmps := by have := Nat.le_of_ble_eq_true hb; have := hlu.1; omega
        have hinit : OkS ⟨h.length, σ, images σ ω h.length, Z, st, fun i => h[i]? = some .gone⟩ ⟨initU us 0, h, fl⟩ (initEnv vs 0 .e) st := by
          refine ⟨hfl.env _, σ, Z, ω, hk.setEnv fun t u hu => ?_⟩
          obtain ⟨_, hu2⟩ := init_look hu
          simp only [Nat.sub_zero] at hu2
          obtain ⟨ht1, _⟩ := List.getElem?_eq_some_iff.1 hu2
          have hv := List.getElem?_eq_getElem (l := vs) (i := t) (by have := hlu.1; omega)
          refine ⟨_, ?_, TR.of_ur (hlu.2 t u _ hu2 hv)⟩
          rw [initEnv_get, if_pos ⟨Nat.zero_le _, by have := hlu.1; omega⟩]
          exact hv
        obtain ⟨N, hN⟩ := ihC hc hinit
        refine ⟨N, ?_⟩
        rw [callP_eq (T.code f fn hfn) (by exact hlen)]
        refine evC_mono (Nat.le_refl _) ?_ hN
        rintro ex' e' st' ⟨s', hK, hf', σ', Z', ω', hk'⟩
        cases ex' with
        | exit i => exact hK.elim
        | normal =>
          obtain ⟨v, r1, r2, r3⟩ := fin_sound hk' hf' (Nat.le_refl _) hK
          rw [kFn_normal]; simp only [r1]; exact ⟨r2, r3⟩
        | ret =>
          obtain ⟨v, r1, r2, r3⟩ := fin_sound hk' hf' (Nat.le_refl _) hK
          rw [kFn_ret]; simp only [r1]; exact ⟨r2, r3⟩
    · -- code
      intro fn c E s K e st hh hok
      have hn0 : E.n ≤ s.h.length := by obtain ⟨_, σ, Z, ω, hk⟩ := hok; exact hk.n0
      -- a block of any code
      have blk : ∀ {id : Nat} {b : CCode}, vC VF M Q Pm n fn b s (kB fn id s.h.length K) → ∃ N, evC C M N (CCode.block id b.er) e st (kOk E K) := by
        intro id b hh
        obtain ⟨N, hN⟩ := ihC hh hok
        refine ⟨N + 1, ?_⟩
        rw [evC_block]
        refine evC_mono (Nat.le_refl _) ?_ hN
        rintro ex' e' st' ⟨t, hK, h2⟩
        cases ex' with
        | normal => exact ⟨_, hK, h2.keep _ hn0⟩
        | ret => exact ⟨_, hK, h2⟩
        | exit i =>
          unfold kBlock
          simp only [kB] at hK
          cases hb : Nat.beq i id with
          | true => rw [hb] at hK; simp only [hb, cond_true]; exact ⟨_, hK, h2.keep _ hn0⟩
          | false => rw [hb] at hK; simp only [hb, cond_false]; exact ⟨_, hK, h2⟩
      cases c with
      | skip => exact ⟨1, by rw [CCode.er, evC_skip]; exact ⟨s, hh, hok⟩⟩
      | ret => exact ⟨1, by rw [CCode.er, evC_ret]; exact ⟨s, hh, hok⟩⟩
      | exit i => exact ⟨1, by rw [CCode.er, evC_exit]; exact ⟨s, hh, hok⟩⟩
      | region ops =>
        have hh : regU M Q (vF VF M Q Pm n) s K ops := hh
        have plain : ∀ {ops : List COper} {s : Vs} {e : PT V} {st : St}, OkS E s e st → regK K (opsU M Q (vF VF M Q Pm n) ops s) → ∃ N, evSeq M (callP C M N) (opersEr ops) e st fun e' st' => kOk E K .normal e' st' := by
          intro ops s e st hok hh
          obtain ⟨hfl, σ, Z, ω, hk⟩ := hok
          cases hs : opsU M Q (vF VF M Q Pm n) ops s with
          | none => rw [hs] at hh; exact hh.elim
          | some s1 =>
            rw [hs] at hh
            obtain ⟨N, hN⟩ := opsU_sound ihF T.muts hs hk hfl
            exact ⟨N, evSeq_mono (callP_fle (Nat.le_refl _)) (fun e s h => ⟨s1, hh, h⟩) hN⟩
        unfold regU at hh
        split at hh
        · rename_i dst x p ops _
          have h1 := next_sound (M := M) (F := callP C M 0) hok hh
          have h2 : evOp M (callP C M 0) e st (.next x.er) fun v st' => ∃ m, evSeq M (callP C M m) (opersEr ops) (putD dst v e) st' fun e' st' => kOk E K .normal e' st' := by
            refine evOp_mono (callP_fle (Nat.le_refl 0)) (fun v st' ⟨t, ht, hokt⟩ => ?_) h1
            exact plain hokt ht
          obtain ⟨m, _, hm⟩ := op_cont (K := fun m v st' => evSeq M (callP C M m) (opersEr ops) (putD dst v e) st' fun e' st' => kOk E K .normal e' st') (fun a b hab => callP_fle hab) (fun f args s K hK h => callP_cont hK h)
            (fun a b v s hab h => evSeq_mono (callP_fle hab) (fun _ _ h => h) h) h2
          refine ⟨m + 1, ?_⟩
          rw [CCode.er, evC_region]
          simp only [opersEr, evSeq, COper.er, COp.er, guardEv]
          exact hm
        · obtain ⟨N, hN⟩ := plain hok hh
          exact ⟨N + 1, by rw [CCode.er, evC_region]; exact hN⟩
      | draw ops =>
        have hh : drawK M Q (vF VF M Q Pm n) s K (sched (ops.length + 1) (numbered ops 0) 0) := hh
        cases hl : sched (ops.length + 1) (numbered ops 0) 0 with
        | none => rw [hl] at hh; exact hh.elim
        | some l =>
          rw [hl] at hh
          simp only [drawK] at hh
          obtain ⟨hfl, σ, Z, ω, hk⟩ := hok
          cases hs : stepsU M Q (vF VF M Q Pm n) l s [] with
          | none => rw [hs] at hh; exact hh.elim
          | some s1 =>
            rw [hs] at hh
            obtain ⟨N, hN⟩ := drawU_sound ihF T.muts hl hs hk hfl
            refine ⟨N, evC_mono (Nat.le_refl _) ?_ hN⟩
            rintro ex e' st' ⟨rfl, h2⟩
            exact ⟨s1, hh, h2⟩
      | seq a b =>
        have hh : vC VF M Q Pm n fn a s (fun ex s => match ex with
          | .normal => vC VF M Q Pm n fn b s K
          | ex => K ex s) := hh
        obtain ⟨N, hN⟩ := ihC hh hok
        obtain ⟨m, hm⟩ := then_cont (K := fun m => kSeq C M m b.er (kOk E K)) (fun x y ex e s hxy h => by
          cases ex with
          | normal => exact evC_mono hxy (fun _ _ _ h => h) h
          | ret => exact h
          | exit i => exact h) hN (by
          rintro ex' e' st' ⟨t, hK, h2⟩
          cases ex' with
          | normal => exact ihC hK h2
          | exit i => exact ⟨0, t, hK, h2⟩
          | ret => exact ⟨0, t, hK, h2⟩)
        exact ⟨m + 1, by rw [CCode.er, evC_seq]; exact hm⟩
      | cond x a b =>
        simp only [vC] at hh
        split at hh <;> try exact hh.elim
        · rename_i hx
          obtain ⟨N, hN⟩ := ihC hh hok
          obtain ⟨hfl, σ, Z, ω, hk⟩ := hok
          obtain ⟨vx, x1, x2⟩ := hk.opd hx
          obtain rfl := TR.bool x2
          exact ⟨N + 1, by rw [CCode.er, evC_cond x1, if_pos rfl]; exact hN⟩
        · rename_i hx
          obtain ⟨N, hN⟩ := ihC hh hok
          obtain ⟨hfl, σ, Z, ω, hk⟩ := hok
          obtain ⟨vx, x1, x2⟩ := hk.opd hx
          obtain rfl := TR.bool x2
          exact ⟨N + 1, by rw [CCode.er, evC_cond x1, if_neg (by simp)]; exact hN⟩
      | block id b =>
        cases b with
        | loop b =>
          simp only [vC] at hh
          obtain ⟨N, hN⟩ := ihL hh hn0 (hok.keep _ hn0)
          exact ⟨N + 1, by rw [CCode.er, evC_block, CCode.er]; exact hN⟩
        | _ => simp only [vC] at hh; exact blk hh
      | loop b => simp [vC] at hh
      | bad => simp [vC] at hh
      | prim a b => simp [vC] at hh
    · -- a loop
      intro fn id b m E s K e st hh hm hok
      simp only [vL] at hh
      obtain ⟨N, hN⟩ := ihC hh hok
      obtain ⟨k, hkk⟩ := then_cont (K := fun k => kSeq C M k (.loop b.er) (kBlock id (kOk E K))) (fun x y ex e s hxy h => by
        cases ex with
        | normal => exact evC_mono hxy (fun _ _ _ h => h) h
        | ret => exact h
        | exit i => exact h) hN (by
        rintro ex' e' st' ⟨t, hK, h2⟩
        cases ex' with
        | normal => exact ihL hK hm (h2.keep _ hm)
        | ret => exact ⟨0, t, hK, h2⟩
        | exit i =>
          refine ⟨0, ?_⟩
          show kBlock id (kOk E K) (.exit i) e' st'
          unfold kBlock
          simp only [kB] at hK
          cases hb : Nat.beq i id with
          | true => rw [hb] at hK; simp only [hb, cond_true]; exact ⟨_, hK, h2.keep _ hm⟩
          | false => rw [hb] at hK; simp only [hb, cond_false]; exact ⟨t, hK, h2⟩)
      exact ⟨k + 1, hkk⟩
end
end Go.RE
namespace Go.RE
open Classical in
noncomputable def sup {α : Type} (a : Nat → Option α) : Option α := if h : ∃ x n, a n = some x then some h.choose else none
def Up {α : Type} (a : Nat → Option α) : Prop := ∀ n m x, n ≤ m → a n = some x → a m = some x
theorem sup_iff {α : Type} {a : Nat → Option α} (hm : Up a) {x : α} : sup a = some x ↔ ∃ n, a n = some x := by
  unfold sup
  constructor
  · intro h
    split at h
    · rename_i hh
      simp only [Option.some.injEq] at h
      obtain ⟨n, hn⟩ := hh.choose_spec
      exact ⟨n, by rw [← h]; exact hn⟩
    · cases h
  · rintro ⟨n, hn⟩
    have hh : ∃ x n, a n = some x := ⟨x, n, hn⟩
    rw [dif_pos hh]
    obtain ⟨m, h2⟩ := hh.choose_spec
    have h3 := hm n (max n m) x (Nat.le_max_left _ _) hn
    have h4 := hm m (max n m) _ (Nat.le_max_right _ _) h2
    rw [h3] at h4
    exact h4.symm
def FLeU (F F' : FU) : Prop := ∀ f us h fl R, F f us h fl = some R → F' f us h fl = some R
section
variable {M : Nat → String → Option Nat} {Q : Mut} {F F' : FU} {s : Vs}
theorem callU_le (hF : FLeU F F') {d f : Nat} {args : List U} {x : U × Vs} (h : callU F d f args s = some x) : callU F' d f args s = some x := by
  unfold callU at h ⊢
  split at h
  · rename_i us hus
    simp only
    cases hl : U.lows 0 us with
    | true =>
      rw [hl] at h
      simp only [cond_true] at h ⊢
      cases hc : F f us [] 0 with
      | none => rw [hc] at h; cases h
      | some R => rw [hc] at h; rw [hF _ _ _ _ _ hc]; exact h
    | false =>
      rw [hl] at h
      simp only [cond_false] at h ⊢
      cases hc : F f us (frzArgs args s).h (frzArgs args s).fl with
      | none => rw [hc] at h; cases h
      | some R => rw [hc] at h; rw [hF _ _ _ _ _ hc]; exact h
  · cases h
theorem opC_le (hF : FLeU F F') {dst : Option Nat} {o : COp} {x : U × Vs} (h : opC M Q F s dst o = some x) : opC M Q F' s dst o = some x := by
  cases o with
  | call f args =>
    simp only [opC] at h ⊢
    split at h
    · split at h
      · rename_i q hq; (try simp only [hq]); exact h
      · rename_i hq; (try simp only [hq]); exact callU_le hF h
    · cases h
  | invoke name y args =>
    simp only [opC] at h ⊢
    split at h
    · split at h
      · rename_i q hq; (try simp only [hq]); exact callU_le hF h
      · cases h
    · cases h
  | h o => cases o <;> exact h
  | _ => exact h
theorem opsU_le (hF : FLeU F F') : ∀ {ops : List COper} {s s' : Vs}, opsU M Q F ops s = some s' → opsU M Q F' ops s = some s' := by
  intro ops
  induction ops with
  | nil => intro s s' h; exact h
  | cons o r ih =>
    intro s s' h
    simp only [opsU] at h ⊢
    split at h
    · split at h
      · rename_i v s1 hc; rw [opC_le hF hc]; exact ih h
      · cases h
    · exact ih h
    · cases h
theorem callH_le (hF : FLeU F F') {f : Nat} {args : List U} {hid : List Nat} (h : callH F f args s hid = true) : callH F' f args s hid = true := by
  unfold callH at h ⊢
  split at h
  · rename_i us hus
    try simp only
    obtain ⟨R, hR⟩ := Option.isSome_iff_exists.1 h
    rw [hF _ _ _ _ _ hR]; rfl
  · cases h
theorem frameU_le (hF : FLeU F F') {t : Vs} {o : COp} {p : Nat} {recs : List (Nat × Rk)} (h : frameU M Q F s t o p recs = true) : frameU M Q F' s t o p recs = true := by
  unfold frameU at h ⊢
  split at h
  · rename_i hid hh
    try simp only [hh]
    split at h
    · split at h
      · split at h
        · rename_i hq; (try simp only [hq]); exact callH_le hF h
        · cases h
      · cases h
    · split at h
      · split at h
        · rename_i hm; (try simp only [hm]); exact callH_le hF h
        · cases h
      · cases h
    · cases h
  · cases h
theorem bor_le {a b c : Bool} (hab : a = true → b = true) (h : (c || a) = true) : (c || b) = true := by
  cases c with
  | true => rfl
  | false => exact hab h
theorem stepsU_le (hF : FLeU F F') : ∀ {l : List Step} {s s' : Vs} {recs : List (Nat × Rk)}, stepsU M Q F l s recs = some s' → stepsU M Q F' l s recs = some s' := by
  intro l
  induction l with
  | nil => intro s s' recs h; exact h
  | cons x r ih =>
    intro s s' recs h
    cases x with
    | small i o =>
      simp only [stepsU] at h ⊢
      split at h
      · split at h
        · rename_i v s1 hc
          rw [opC_le hF hc]
          simp only
          split at h
          · exact ih h
          · exact ih h
          · cases h
        · cases h
      · exact ih h
      · cases h
    | big i o =>
      simp only [stepsU] at h ⊢
      split at h
      · split at h
        · rename_i v s1 hc
          rw [opC_le hF hc]
          simp only
          obtain ⟨hb, h⟩ := bif_some h
          rw [bor_le (frameU_le hF) hb]; exact ih h
        · cases h
      · exact ih h
      · cases h
structure FamU (Fn : Nat → FU) (G : FU) : Prop where
  up : ∀ n m, n ≤ m → FLeU (Fn n) (Fn m)
  lim : ∀ f us h fl R, G f us h fl = some R ↔ ∃ n, Fn n f us h fl = some R
variable {Fn : Nat → FU} {G : FU}
theorem FamU.le (hG : FamU Fn G) (n : Nat) : FLeU (Fn n) G := fun f us h fl R hh => (hG.lim f us h fl R).2 ⟨n, hh⟩
theorem callU_lim (hG : FamU Fn G) {d f : Nat} {args : List U} {x : U × Vs} (h : callU G d f args s = some x) : ∃ n, callU (Fn n) d f args s = some x := by
  unfold callU at h ⊢
  split at h
  · rename_i us hus
    simp only
    cases hl : U.lows 0 us with
    | true =>
      rw [hl] at h
      simp only [cond_true] at h ⊢
      cases hc : G f us [] 0 with
      | none => rw [hc] at h; cases h
      | some R =>
        rw [hc] at h
        obtain ⟨n, hn⟩ := (hG.lim _ _ _ _ _).1 hc
        exact ⟨n, by rw [hn]; exact h⟩
    | false =>
      rw [hl] at h
      simp only [cond_false] at h ⊢
      cases hc : G f us (frzArgs args s).h (frzArgs args s).fl with
      | none => rw [hc] at h; cases h
      | some R =>
        rw [hc] at h
        obtain ⟨n, hn⟩ := (hG.lim _ _ _ _ _).1 hc
        exact ⟨n, by rw [hn]; exact h⟩
  · cases h
theorem opC_lim (hG : FamU Fn G) {dst : Option Nat} {o : COp} {x : U × Vs} (h : opC M Q G s dst o = some x) : ∃ n, opC M Q (Fn n) s dst o = some x := by
  cases o with
  | call f args =>
    simp only [opC] at h ⊢
    split at h
    · split at h
      · rename_i q hq; (try simp only [hq]); exact ⟨0, h⟩
      · rename_i hq; (try simp only [hq]); exact callU_lim hG h
    · cases h
  | invoke name y args =>
    simp only [opC] at h ⊢
    split at h
    · split at h
      · rename_i q hq; (try simp only [hq]); exact callU_lim hG h
      · cases h
    · cases h
  | h o => cases o <;> exact ⟨0, h⟩
  | _ => exact ⟨0, h⟩
theorem callH_lim (hG : FamU Fn G) {f : Nat} {args : List U} {hid : List Nat} (h : callH G f args s hid = true) : ∃ n, callH (Fn n) f args s hid = true := by
  unfold callH at h ⊢
  split at h
  · rename_i us hus
    try simp only
    obtain ⟨R, hR⟩ := Option.isSome_iff_exists.1 h
    obtain ⟨n, hn⟩ := (hG.lim _ _ _ _ _).1 hR
    exact ⟨n, by rw [hn]; rfl⟩
  · cases h
theorem frameU_lim (hG : FamU Fn G) {t : Vs} {o : COp} {p : Nat} {recs : List (Nat × Rk)} (h : frameU M Q G s t o p recs = true) : ∃ n, frameU M Q (Fn n) s t o p recs = true := by
  unfold frameU at h ⊢
  split at h
  · rename_i hid hh
    try simp only [hh]
    split at h
    · split at h
      · split at h
        · rename_i hq; (try simp only [hq]); exact callH_lim hG h
        · cases h
      · cases h
    · split at h
      · split at h
        · rename_i hm; (try simp only [hm]); exact callH_lim hG h
        · cases h
      · cases h
    · cases h
  · cases h
theorem bor_lim (hG : FamU Fn G) {t : Vs} {o : COp} {p : Nat} {recs : List (Nat × Rk)} {c : Bool} (h : (c || frameU M Q G s t o p recs) = true) : ∃ n, (c || frameU M Q (Fn n) s t o p recs) = true := by
  cases c with
  | true => exact ⟨0, rfl⟩
  | false => exact frameU_lim hG h
theorem opsU_lim (hG : FamU Fn G) : ∀ {ops : List COper} {s s' : Vs}, opsU M Q G ops s = some s' → ∃ n, opsU M Q (Fn n) ops s = some s' := by
  intro ops
  induction ops with
  | nil => intro s s' h; exact ⟨0, h⟩
  | cons o r ih =>
    intro s s' h
    simp only [opsU] at h ⊢
    split at h
    · split at h
      · rename_i v s1 hc
        obtain ⟨a, ha⟩ := opC_lim hG hc
        obtain ⟨b, hb⟩ := ih h
        refine ⟨max a b, ?_⟩
        rw [opC_le (hG.up _ _ (Nat.le_max_left a b)) ha]
        exact opsU_le (hG.up _ _ (Nat.le_max_right a b)) hb
      · cases h
    · exact ih h
    · cases h
theorem stepsU_lim (hG : FamU Fn G) : ∀ {l : List Step} {s s' : Vs} {recs : List (Nat × Rk)}, stepsU M Q G l s recs = some s' → ∃ n, stepsU M Q (Fn n) l s recs = some s' := by
  intro l
  induction l with
  | nil => intro s s' recs h; exact ⟨0, h⟩
  | cons x r ih =>
    intro s s' recs h
    cases x with
    | small i o =>
      simp only [stepsU] at h ⊢
      split at h
      · split at h
        · rename_i v s1 hc
          obtain ⟨a, ha⟩ := opC_lim hG hc
          have fin : ∀ {s2 : Vs} {recs : List (Nat × Rk)}, stepsU M Q G r s2 recs = some s' → ∃ n, opC M Q (Fn n) s o.dst o.op = some (v, s1) ∧ stepsU M Q (Fn n) r s2 recs = some s' := fun h => by
            obtain ⟨b, hb⟩ := ih h
            exact ⟨max a b, opC_le (hG.up _ _ (Nat.le_max_left a b)) ha, stepsU_le (hG.up _ _ (Nat.le_max_right a b)) hb⟩
          split at h
          · obtain ⟨n, h1, h2⟩ := fin h; exact ⟨n, by rw [h1]; exact h2⟩
          · obtain ⟨n, h1, h2⟩ := fin h; exact ⟨n, by rw [h1]; exact h2⟩
          · cases h
        · cases h
      · exact ih h
      · cases h
    | big i o =>
      simp only [stepsU] at h ⊢
      split at h
      · split at h
        · rename_i v s1 hc
          obtain ⟨hb, h⟩ := bif_some h
          obtain ⟨a, ha⟩ := opC_lim hG hc
          obtain ⟨b, hb2⟩ := ih h
          obtain ⟨c, hc2⟩ := bor_lim hG hb
          refine ⟨max (max a b) c, ?_⟩
          rw [opC_le (hG.up _ _ (Nat.le_trans (Nat.le_max_left a b) (Nat.le_max_left (max a b) c))) ha]
          simp only [bor_le (frameU_le (hG.up _ _ (Nat.le_max_right (max a b) c))) hc2, cond_true]
          exact stepsU_le (hG.up _ _ (Nat.le_trans (Nat.le_max_right a b) (Nat.le_max_left (max a b) c))) hb2
        · cases h
      · exact ih h
      · cases h
end
section
variable {VF : Nat → Option VFunc} {M : Nat → String → Option Nat} {Q : Mut} {Pm : Nat → Option (List U → List Uo → Nat → Option (U × List Uo × Nat))}
theorem regK_mono {K K' : Ex → Vs → Prop} (hK : ∀ ex t, K ex t → K' ex t) {o : Option Vs} (h : regK K o) : regK K' o := by
  cases o with
  | none => exact h
  | some t => exact hK _ _ h
theorem regK_le {K : Ex → Vs → Prop} {o o' : Option Vs} (ho : ∀ t, o = some t → o' = some t) (h : regK K o) : regK K o' := by
  cases o with
  | none => exact h.elim
  | some t => rw [ho t rfl]; exact h
theorem nextK_mono {s : Vs} {dst : Option Nat} {q j since : Nat} {seen : List Nat} {clock : Nat} {k k' : Vs → Prop} (hk : ∀ t, k t → k' t) {c : Option (U × U × Nat)} (h : nextK s dst q j since seen clock k c) : nextK s dst q j since seen clock k' c := by
  cases c <;> exact hk _ h
theorem nextU_mono {s : Vs} {dst : Option Nat} {x : Opd} {k k' : Vs → Prop} (hk : ∀ t, k t → k' t) (h : nextU s dst x k) : nextU s dst x k' := by
  unfold nextU at h ⊢
  split at h <;> try exact h.elim
  split at h <;> try exact h.elim
  · exact hk _ h
  · split at h <;> try exact h.elim
    exact ⟨h.1, fun c hc => nextK_mono hk (h.2 c hc)⟩
theorem nextU_and {s : Vs} {dst : Option Nat} {x : Opd} {k k' : Vs → Prop} (h : nextU s dst x k) (h' : nextU s dst x k') : nextU s dst x fun t => k t ∧ k' t := by
  unfold nextU at h h' ⊢
  split at h <;> try exact h.elim
  rename_i q hx
  simp only [hx] at h'
  split at h <;> try exact h.elim
  · rename_i hq
    simp only [hq] at h'
    exact ⟨h, h'⟩
  · rename_i hq
    simp only [hq] at h'
    split at h <;> try exact h.elim
    rename_i hm
    simp only [hm] at h'
    refine ⟨h.1, fun c hc => ?_⟩
    have a := h.2 c hc
    have b := h'.2 c hc
    cases c <;> exact ⟨a, b⟩
theorem cands_ne (es : List (U × U × Nat)) (since : Nat) (seen : List Nat) : ∃ c, c ∈ candsU es since seen := by
  unfold candsU
  simp only
  cases h : (List.filter (fun e => Nat.blt e.2.2 since) (List.filter (fun e => !seen.contains e.2.2) es)) with
  | nil => exact ⟨none, by simp⟩
  | cons a r => exact ⟨some a, by simp⟩
theorem nextU_ne {s : Vs} {dst : Option Nat} {x : Opd} {k : Vs → Prop} (h : nextU s dst x k) : ∃ t, k t := by
  unfold nextU at h
  split at h <;> try exact h.elim
  split at h <;> try exact h.elim
  · exact ⟨_, h⟩
  · split at h <;> try exact h.elim
    rename_i j since seen last _ _ es clock _
    obtain ⟨c, hc⟩ := cands_ne es since seen
    have := h.2 c hc
    cases c <;> exact ⟨_, this⟩
theorem list_max {α : Type} {Q : α → Nat → Prop} (hm : ∀ i a b, a ≤ b → Q i a → Q i b) : ∀ {l : List α}, (∀ i ∈ l, ∃ m, Q i m) → ∃ m, ∀ i ∈ l, Q i m := by
  intro l
  induction l with
  | nil => intro _; exact ⟨0, fun i hi => by cases hi⟩
  | cons a l ih =>
    intro h
    obtain ⟨m, h1⟩ := ih fun i hi => h i (List.mem_cons_of_mem _ hi)
    obtain ⟨k, h2⟩ := h a List.mem_cons_self
    refine ⟨max m k, fun i hi => ?_⟩
    rcases List.mem_cons.1 hi with rfl | hi
    · exact hm _ _ _ (Nat.le_max_right _ _) h2
    · exact hm _ _ _ (Nat.le_max_left _ _) (h1 i hi)
theorem nextU_cont {s : Vs} {dst : Option Nat} {x : Opd} {k : Nat → Vs → Prop} (hk : ∀ a b t, a ≤ b → k a t → k b t) (h : nextU s dst x fun t => ∃ m, k m t) : ∃ m, nextU s dst x (k m) := by
  unfold nextU at h
  split at h <;> try exact h.elim
  rename_i q hx
  split at h <;> try exact h.elim
  · rename_i since seen last hq
    obtain ⟨m, hm⟩ := h
    exact ⟨m, by unfold nextU; simp only [hx, hq]; exact hm⟩
  · rename_i j since seen last hq
    split at h <;> try exact h.elim
    rename_i es clock hj
    obtain ⟨h1, h2⟩ := h
    obtain ⟨m, hm⟩ := list_max (Q := fun c m => nextK s dst q j since seen clock (k m) c) (fun c a b hab hh => nextK_mono (fun t ht => hk a b t hab ht) hh) (fun c hc => by
      have := h2 c hc
      cases c with
      | none => exact this
      | some e => exact this)
    exact ⟨m, by unfold nextU; simp only [hx, hq, hj]; exact ⟨h1, hm⟩⟩
theorem regU_le {F F' : FU} (hF : FLeU F F') {K K' : Ex → Vs → Prop} (hK : ∀ ex t, K ex t → K' ex t) {s : Vs} {ops : List COper} (h : regU M Q F s K ops) : regU M Q F' s K' ops := by
  unfold regU at h ⊢
  split at h
  · exact nextU_mono (fun t ht => regK_mono hK (regK_le (fun t h => opsU_le hF h) ht)) h
  · exact regK_mono hK (regK_le (fun t h => opsU_le hF h) h)
theorem drawK_le {F F' : FU} (hF : FLeU F F') {K K' : Ex → Vs → Prop} (hK : ∀ ex t, K ex t → K' ex t) {s : Vs} {l : Option (List Step)} (h : drawK M Q F s K l) : drawK M Q F' s K' l := by
  cases l with
  | none => exact h.elim
  | some l => exact regK_mono hK (regK_le (fun t h => stepsU_le hF h) h)
theorem kB_mono {fn : VFunc} {id n : Nat} {K K' : Ex → Vs → Prop} (hK : ∀ ex t, K ex t → K' ex t) {ex : Ex} {t : Vs} (h : kB fn id n K ex t) : kB fn id n K' ex t := by
  cases ex with
  | normal => exact hK _ _ h
  | ret => exact hK _ _ h
  | exit i =>
    simp only [kB] at h ⊢
    cases hb : Nat.beq i id with
    | true => rw [hb] at h; exact hK _ _ h
    | false => rw [hb] at h; exact hK _ _ h
theorem kB_and {fn : VFunc} {id n : Nat} {K K' : Ex → Vs → Prop} {ex : Ex} {t : Vs} (h : kB fn id n K ex t) (h' : kB fn id n K' ex t) : kB fn id n (fun ex t => K ex t ∧ K' ex t) ex t := by
  cases ex with
  | normal => exact ⟨h, h'⟩
  | ret => exact ⟨h, h'⟩
  | exit i =>
    simp only [kB] at h h' ⊢
    cases hb : Nat.beq i id with
    | true => rw [hb] at h h'; exact ⟨h, h'⟩
    | false => rw [hb] at h h'; exact ⟨h, h'⟩
theorem kB_ne {fn : VFunc} {id n : Nat} {K : Ex → Vs → Prop} {ex : Ex} {t : Vs} (h : kB fn id n K ex t) : ∃ ex t, K ex t := by
  cases ex with
  | normal => exact ⟨_, _, h⟩
  | ret => exact ⟨_, _, h⟩
  | exit i =>
    simp only [kB] at h
    cases hb : Nat.beq i id with
    | true => rw [hb] at h; exact ⟨_, _, h⟩
    | false => rw [hb] at h; exact ⟨_, _, h⟩
theorem kB_ex {fn : VFunc} {id n : Nat} {K : Nat → Ex → Vs → Prop} {ex : Ex} {t : Vs} (h : kB fn id n (fun ex t => ∃ m, K m ex t) ex t) : ∃ m, kB fn id n (K m) ex t := by
  cases ex with
  | normal => exact h
  | ret => exact h
  | exit i =>
    simp only [kB] at h ⊢
    cases hb : Nat.beq i id with
    | true => rw [hb] at h; exact h
    | false => rw [hb] at h; exact h
theorem regU_and {F : FU} {K K' : Ex → Vs → Prop} {s : Vs} {ops : List COper} (h : regU M Q F s K ops) (h' : regU M Q F s K' ops) : regU M Q F s (fun ex t => K ex t ∧ K' ex t) ops := by
  have key : ∀ o : Option Vs, regK K o → regK K' o → regK (fun ex t => K ex t ∧ K' ex t) o := fun o h h' => by
    cases o with
    | none => exact h.elim
    | some u => exact ⟨h, h'⟩
  cases ops with
  | nil => exact key (opsU M Q F [] s) h h'
  | cons o r =>
    obtain ⟨dst, op, g, p⟩ := o
    cases op with
    | next x =>
      cases g with
      | none =>
        have h1 : nextU s dst x fun t => regK K (opsU M Q F r t) := h
        have h2 : nextU s dst x fun t => regK K' (opsU M Q F r t) := h'
        have h3 : nextU s dst x fun t => regK (fun ex t => K ex t ∧ K' ex t) (opsU M Q F r t) := nextU_mono (fun t ht => key _ ht.1 ht.2) (nextU_and h1 h2)
        exact h3
      | some g => exact key _ h h'
    | _ => exact key _ h h'
theorem v_mono : ∀ n, (∀ {fn : VFunc} {c : CCode} {s : Vs} {K K' : Ex → Vs → Prop}, (∀ ex t, K ex t → K' ex t) → vC VF M Q Pm n fn c s K → vC VF M Q Pm n fn c s K') ∧
    ∀ {fn : VFunc} {id : Nat} {b : CCode} {m : Nat} {s : Vs} {K K' : Ex → Vs → Prop}, (∀ ex t, K ex t → K' ex t) → vL VF M Q Pm n fn id b m s K → vL VF M Q Pm n fn id b m s K' := by
  intro n
  induction n with
  | zero => exact ⟨fun _ h => by simp [vC] at h, fun _ h => by simp [vL] at h⟩
  | succ n ih =>
    obtain ⟨ihC, ihL⟩ := ih
    refine ⟨fun {fn c s K K'} hK h => ?_, fun {fn id b m s K K'} hK h => ?_⟩
    · cases c with
      | skip => exact hK _ _ h
      | ret => exact hK _ _ h
      | exit i => exact hK _ _ h
      | region ops => exact regU_le (fun _ _ _ _ _ h => h) hK h
      | draw ops => exact drawK_le (fun _ _ _ _ _ h => h) hK h
      | seq a b =>
        simp only [vC] at h ⊢
        refine ihC (fun ex t ht => ?_) h
        cases ex with
        | normal => exact ihC hK ht
        | ret => exact hK _ _ ht
        | exit i => exact hK _ _ ht
      | cond x a b =>
        simp only [vC] at h ⊢
        split at h <;> try exact h.elim
        · rename_i hx; (try simp only [hx]); exact ihC hK h
        · rename_i hx; (try simp only [hx]); exact ihC hK h
      | block id b =>
        cases b with
        | loop b => simp only [vC] at h ⊢; exact ihL hK h
        | _ => simp only [vC] at h ⊢; exact ihC (fun ex t ht => kB_mono hK ht) h
      | loop b => simp [vC] at h
      | bad => simp [vC] at h
      | prim a b => simp [vC] at h
    · simp only [vL] at h ⊢
      refine ihC (fun ex t ht => ?_) h
      cases ex with
      | normal => exact ihL hK ht
      | ret => exact kB_mono hK ht
      | exit i => exact kB_mono hK ht
theorem v_and : ∀ n, (∀ {fn : VFunc} {c : CCode} {s : Vs} {K K' : Ex → Vs → Prop}, vC VF M Q Pm n fn c s K → vC VF M Q Pm n fn c s K' → vC VF M Q Pm n fn c s fun ex t => K ex t ∧ K' ex t) ∧
    ∀ {fn : VFunc} {id : Nat} {b : CCode} {m : Nat} {s : Vs} {K K' : Ex → Vs → Prop}, vL VF M Q Pm n fn id b m s K → vL VF M Q Pm n fn id b m s K' → vL VF M Q Pm n fn id b m s fun ex t => K ex t ∧ K' ex t := by
  intro n
  induction n with
  | zero => exact ⟨fun h _ => by simp [vC] at h, fun h _ => by simp [vL] at h⟩
  | succ n ih =>
    obtain ⟨ihC, ihL⟩ := ih
    have mC := fun {fn c s K K'} => (v_mono (VF := VF) (M := M) (Q := Q) (Pm := Pm) n).1 (fn := fn) (c := c) (s := s) (K := K) (K' := K')
    refine ⟨fun {fn c s K K'} h h' => ?_, fun {fn id b m s K K'} h h' => ?_⟩
    · cases c with
      | skip => exact ⟨h, h'⟩
      | ret => exact ⟨h, h'⟩
      | exit i => exact ⟨h, h'⟩
      | region ops =>
        have h : regU M Q (vF VF M Q Pm n) s K ops := h
        have h' : regU M Q (vF VF M Q Pm n) s K' ops := h'
        exact regU_and h h'
      | draw ops =>
        have h : drawK M Q (vF VF M Q Pm n) s K (sched (ops.length + 1) (numbered ops 0) 0) := h
        have h' : drawK M Q (vF VF M Q Pm n) s K' (sched (ops.length + 1) (numbered ops 0) 0) := h'
        show drawK M Q (vF VF M Q Pm n) s _ (sched (ops.length + 1) (numbered ops 0) 0)
        generalize sched (ops.length + 1) (numbered ops 0) 0 = l at h h' ⊢
        cases l with
        | none => exact h.elim
        | some l =>
          simp only [drawK] at h h' ⊢
          generalize stepsU M Q (vF VF M Q Pm n) l s [] = o at h h' ⊢
          cases o with
          | none => exact h.elim
          | some u => exact ⟨h, h'⟩
      | seq a b =>
        simp only [vC] at h h' ⊢
        refine mC (fun ex t ht => ?_) (ihC h h')
        cases ex with
        | normal => exact ihC ht.1 ht.2
        | ret => exact ht
        | exit i => exact ht
      | cond x a b =>
        simp only [vC] at h h' ⊢
        split at h <;> try exact h.elim
        · rename_i hx; (try simp only [hx] at h'); (try simp only [hx]); exact ihC h h'
        · rename_i hx; (try simp only [hx] at h'); (try simp only [hx]); exact ihC h h'
      | block id b =>
        cases b with
        | loop b => simp only [vC] at h h' ⊢; exact ihL h h'
        | _ => simp only [vC] at h h' ⊢; exact mC (fun ex t ht => kB_and ht.1 ht.2) (ihC h h')
      | loop b => simp [vC] at h
      | bad => simp [vC] at h
      | prim a b => simp [vC] at h
    · simp only [vL] at h h' ⊢
      refine mC (fun ex t ht => ?_) (ihC h h')
      cases ex with
      | normal => exact ihL ht.1 ht.2
      | ret => exact kB_and ht.1 ht.2
      | exit i => exact kB_and ht.1 ht.2
theorem v_ne : ∀ n, (∀ {fn : VFunc} {c : CCode} {s : Vs} {K : Ex → Vs → Prop}, vC VF M Q Pm n fn c s K → ∃ ex t, K ex t) ∧
    ∀ {fn : VFunc} {id : Nat} {b : CCode} {m : Nat} {s : Vs} {K : Ex → Vs → Prop}, vL VF M Q Pm n fn id b m s K → ∃ ex t, K ex t := by
  intro n
  induction n with
  | zero => exact ⟨fun h => by simp [vC] at h, fun h => by simp [vL] at h⟩
  | succ n ih =>
    obtain ⟨ihC, ihL⟩ := ih
    have reg : ∀ {K : Ex → Vs → Prop} {o : Option Vs}, regK K o → ∃ ex t, K ex t := fun {K o} h => by
      cases o with
      | none => exact h.elim
      | some u => exact ⟨_, _, h⟩
    refine ⟨fun {fn c s K} h => ?_, fun {fn id b m s K} h => ?_⟩
    · cases c with
      | skip => exact ⟨_, _, h⟩
      | ret => exact ⟨_, _, h⟩
      | exit i => exact ⟨_, _, h⟩
      | region ops =>
        have h : regU M Q (vF VF M Q Pm n) s K ops := h
        unfold regU at h
        split at h
        · obtain ⟨t, ht⟩ := nextU_ne h; exact reg ht
        · exact reg h
      | draw ops =>
        have h : drawK M Q (vF VF M Q Pm n) s K (sched (ops.length + 1) (numbered ops 0) 0) := h
        generalize sched (ops.length + 1) (numbered ops 0) 0 = l at h
        cases l with
        | none => exact h.elim
        | some l => exact reg h
      | seq a b =>
        simp only [vC] at h
        obtain ⟨ex, t, ht⟩ := ihC h
        cases ex with
        | normal => exact ihC ht
        | ret => exact ⟨_, _, ht⟩
        | exit i => exact ⟨_, _, ht⟩
      | cond x a b =>
        simp only [vC] at h
        split at h <;> try exact h.elim
        · exact ihC h
        · exact ihC h
      | block id b =>
        cases b with
        | loop b => simp only [vC] at h; exact ihL h
        | _ => simp only [vC] at h; obtain ⟨ex, t, ht⟩ := ihC h; exact kB_ne ht
      | loop b => simp [vC] at h
      | bad => simp [vC] at h
      | prim a b => simp [vC] at h
    · simp only [vL] at h
      obtain ⟨ex, t, ht⟩ := ihC h
      cases ex with
      | normal => exact ihL ht
      | ret => exact kB_ne ht
      | exit i => exact kB_ne ht
theorem vC_one {n : Nat} {fn : VFunc} {c : CCode} {s : Vs} {k : Nat} {R R' : U × List Uo × Nat} (h : vC VF M Q Pm n fn c s (kE k fn R)) (h' : vC VF M Q Pm n fn c s (kE k fn R')) : R = R' := by
  obtain ⟨ex, t, h1, h2⟩ := (v_ne n).1 ((v_and n).1 h h')
  cases ex with
  | exit i => exact h1.elim
  | normal => simp only [kE] at h1 h2; rw [h1] at h2; simpa using h2
  | ret => simp only [kE] at h1 h2; rw [h1] at h2; simpa using h2
theorem pick_of {α : Type} {P : α → Prop} {x : α} (hx : P x) (hu : ∀ y, P y → x = y) : pick P = some x := by
  unfold pick
  have hh : ∃ x, P x := ⟨x, hx⟩
  rw [dif_pos hh]
  exact congrArg some (hu _ hh.choose_spec).symm
theorem v_step : ∀ n, FLeU (vF VF M Q Pm n) (vF VF M Q Pm (n + 1)) ∧ (∀ {fn : VFunc} {c : CCode} {s : Vs} {K : Ex → Vs → Prop}, vC VF M Q Pm n fn c s K → vC VF M Q Pm (n + 1) fn c s K) ∧
    ∀ {fn : VFunc} {id : Nat} {b : CCode} {m : Nat} {s : Vs} {K : Ex → Vs → Prop}, vL VF M Q Pm n fn id b m s K → vL VF M Q Pm (n + 1) fn id b m s K := by
  intro n
  induction n with
  | zero => exact ⟨fun f us h fl R hh => by simp [vF] at hh, fun h => by simp [vC] at h, fun h => by simp [vL] at h⟩
  | succ n ih =>
    obtain ⟨ihF, ihC, ihL⟩ := ih
    refine ⟨fun f us h fl R hh => ?_, fun {fn c s K} h => ?_, fun {fn id b m s K} h => ?_⟩
    · rw [vF] at hh ⊢
      split at hh
      · rename_i p hp; (try simp only [hp]); exact hh
      · rename_i hp
        (try simp only [hp])
        split at hh
        · cases hh
        · rename_i fn hfn
          (try simp only [hfn])
          obtain ⟨hb, hh⟩ := bif_some hh
          rw [hb]
          simp only [cond_true]
          have h1 := ihC (pick_some (P := fun R => vC VF M Q Pm n fn fn.body ⟨initU us 0, h, fl⟩ (kE h.length fn R)) hh)
          exact pick_of h1 fun y hy => vC_one h1 hy
    · cases c with
      | skip => exact h
      | ret => exact h
      | exit i => exact h
      | region ops => exact regU_le ihF (fun _ _ h => h) h
      | draw ops => exact drawK_le ihF (fun _ _ h => h) h
      | seq a b =>
        rw [vC] at h ⊢
        refine ihC ((v_mono n).1 (fun ex t ht => ?_) h)
        cases ex with
        | normal => exact ihC ht
        | ret => exact ht
        | exit i => exact ht
      | cond x a b =>
        rw [vC] at h ⊢
        split at h <;> try exact h.elim
        · rename_i hx; (try simp only [hx]); exact ihC h
        · rename_i hx; (try simp only [hx]); exact ihC h
      | block id b =>
        cases b with
        | loop b => simp only [vC] at h ⊢; exact ihL h
        | _ => simp only [vC] at h; first | (simp only [vC] at h ⊢; exact ihC h) | exact ihC h
      | loop b => simp [vC] at h
      | bad => simp [vC] at h
      | prim a b => simp [vC] at h
    · rw [vL] at h ⊢
      refine ihC ((v_mono n).1 (fun ex t ht => ?_) h)
      cases ex with
      | normal => exact ihL ht
      | ret => exact ht
      | exit i => exact ht
theorem vF_up {n m : Nat} (h : n ≤ m) : FLeU (vF VF M Q Pm n) (vF VF M Q Pm m) := by
  induction h with
  | refl => exact fun _ _ _ _ _ h => h
  | step _ ih => exact fun f us h fl R hh => (v_step _).1 _ _ _ _ _ (ih _ _ _ _ _ hh)
theorem vC_up {n m : Nat} (h : n ≤ m) {fn : VFunc} {c : CCode} {s : Vs} {K : Ex → Vs → Prop} (hx : vC VF M Q Pm n fn c s K) : vC VF M Q Pm m fn c s K := by
  induction h with
  | refl => exact hx
  | step _ ih => exact (v_step _).2.1 ih
theorem vL_up {n m : Nat} (h : n ≤ m) {fn : VFunc} {id : Nat} {b : CCode} {k : Nat} {s : Vs} {K : Ex → Vs → Prop} (hx : vL VF M Q Pm n fn id b k s K) : vL VF M Q Pm m fn id b k s K := by
  induction h with
  | refl => exact hx
  | step _ ih => exact (v_step _).2.2 ih
theorem v_cont : ∀ n, (∀ {fn : VFunc} {c : CCode} {s : Vs} {K : Nat → Ex → Vs → Prop}, (∀ a b ex t, a ≤ b → K a ex t → K b ex t) → vC VF M Q Pm n fn c s (fun ex t => ∃ m, K m ex t) → ∃ m, n ≤ m ∧ vC VF M Q Pm m fn c s (K m)) ∧
    ∀ {fn : VFunc} {id : Nat} {b : CCode} {k : Nat} {s : Vs} {K : Nat → Ex → Vs → Prop}, (∀ a b ex t, a ≤ b → K a ex t → K b ex t) → vL VF M Q Pm n fn id b k s (fun ex t => ∃ m, K m ex t) → ∃ m, n ≤ m ∧ vL VF M Q Pm m fn id b k s (K m) := by
  intro n
  induction n with
  | zero => exact ⟨fun _ h => by simp [vC] at h, fun _ h => by simp [vL] at h⟩
  | succ n ih =>
    obtain ⟨ihC, ihL⟩ := ih
    refine ⟨fun {fn c s K} hK h => ?_, fun {fn id b k s K} hK h => ?_⟩
    · have up : ∀ {m : Nat}, n ≤ m → vC VF M Q Pm (m + 1) fn c s (K m) → ∃ m, n + 1 ≤ m ∧ vC VF M Q Pm m fn c s (K m) := fun {m} hm h =>
        ⟨m + 1, by omega, (v_mono _).1 (fun ex t ht => hK _ _ _ _ (Nat.le_succ _) ht) h⟩
      have now : ∀ {ex t}, (∃ m, K m ex t) → ∃ m, n ≤ m ∧ K m ex t := fun ⟨m, hm⟩ => ⟨max n m, Nat.le_max_left _ _, hK _ _ _ _ (Nat.le_max_right _ _) hm⟩
      have reg : ∀ {o : Option Vs}, regK (fun ex t => ∃ m, K m ex t) o → ∃ m, n ≤ m ∧ regK (K m) o := fun {o} h => by
        cases o with
        | none => exact h.elim
        | some u => exact now h
      have regm : ∀ a b (o : Option Vs), a ≤ b → regK (K a) o → regK (K b) o := fun a b o hab h => regK_mono (fun ex t ht => hK a b ex t hab ht) h
      cases c with
      | skip => obtain ⟨m, h1, h2⟩ := now h; exact up h1 h2
      | ret => obtain ⟨m, h1, h2⟩ := now h; exact up h1 h2
      | exit i => obtain ⟨m, h1, h2⟩ := now h; exact up h1 h2
      | region ops =>
        have h : regU M Q (vF VF M Q Pm n) s (fun ex t => ∃ m, K m ex t) ops := h
        have key : ∃ m, n ≤ m ∧ regU M Q (vF VF M Q Pm n) s (K m) ops := by
          unfold regU at h ⊢
          split at h
          · obtain ⟨m, hm⟩ := nextU_cont (k := fun m t => regK (K m) (opsU M Q (vF VF M Q Pm n) _ t)) (fun a b t hab ht => regm a b _ hab ht) (nextU_mono (fun t ht => let ⟨m, _, hm⟩ := reg ht; ⟨m, hm⟩) h)
            exact ⟨max n m, Nat.le_max_left _ _, nextU_mono (fun t ht => regm _ _ _ (Nat.le_max_right _ _) ht) hm⟩
          · rename_i hno
            obtain ⟨m, h1, h2⟩ := reg h
            exact ⟨m, h1, h2⟩
        obtain ⟨m, h1, h2⟩ := key
        exact up h1 (regU_le (vF_up h1) (fun _ _ h => h) h2)
      | draw ops =>
        have h : drawK M Q (vF VF M Q Pm n) s (fun ex t => ∃ m, K m ex t) (sched (ops.length + 1) (numbered ops 0) 0) := h
        have key : ∃ m, n ≤ m ∧ drawK M Q (vF VF M Q Pm n) s (K m) (sched (ops.length + 1) (numbered ops 0) 0) := by
          generalize sched (ops.length + 1) (numbered ops 0) 0 = l at h ⊢
          cases l with
          | none => exact h.elim
          | some l => exact reg h
        obtain ⟨m, h1, h2⟩ := key
        exact up h1 (drawK_le (vF_up h1) (fun _ _ h => h) h2)
      | seq a b =>
        rw [vC] at h
        obtain ⟨m, h1, h2⟩ := ihC (K := fun m ex t => match ex with | .normal => vC VF M Q Pm m fn b t (K m) | ex => K m ex t) (fun x y ex t hxy ht => by
          cases ex with
          | normal => exact (v_mono _).1 (fun ex t ht => hK _ _ _ _ hxy ht) (vC_up hxy ht)
          | ret => exact hK _ _ _ _ hxy ht
          | exit i => exact hK _ _ _ _ hxy ht) ((v_mono n).1 (fun ex t ht => by
          cases ex with
          | normal => obtain ⟨m, _, hm⟩ := ihC hK ht; exact ⟨m, hm⟩
          | ret => exact ht
          | exit i => exact ht) h)
        exact up h1 (by rw [vC]; exact h2)
      | cond x a b =>
        rw [vC] at h
        split at h <;> try exact h.elim
        · rename_i hx; obtain ⟨m, h1, h2⟩ := ihC hK h; exact up h1 (by rw [vC]; simp only [hx]; exact h2)
        · rename_i hx; obtain ⟨m, h1, h2⟩ := ihC hK h; exact up h1 (by rw [vC]; simp only [hx]; exact h2)
      | block id b =>
        have blk : ∀ {b : CCode}, vC VF M Q Pm n fn b s (kB fn id s.h.length fun ex t => ∃ m, K m ex t) → ∃ m, n ≤ m ∧ vC VF M Q Pm m fn b s (kB fn id s.h.length (K m)) := fun {b} h =>
          ihC (K := fun m => kB fn id s.h.length (K m)) (fun x y ex t hxy ht => kB_mono (fun ex t ht => hK _ _ _ _ hxy ht) ht) ((v_mono n).1 (fun ex t ht => kB_ex ht) h)
        cases b with
        | loop b => simp only [vC] at h; obtain ⟨m, h1, h2⟩ := ihL hK h; exact up h1 (by simp only [vC]; exact h2)
        | _ => simp only [vC] at h; obtain ⟨m, h1, h2⟩ := blk h; exact up h1 (by simp only [vC]; exact h2)
      | loop b => simp [vC] at h
      | bad => simp [vC] at h
      | prim a b => simp [vC] at h
    · rw [vL] at h
      obtain ⟨m, h1, h2⟩ := ihC (K := fun m ex t => match ex with | .normal => vL VF M Q Pm m fn id b k (keep (fn.head id) k t) (K m) | ex => kB fn id k (K m) ex t) (fun x y ex t hxy ht => by
        cases ex with
        | normal => exact (v_mono _).2 (fun ex t ht => hK _ _ _ _ hxy ht) (vL_up hxy ht)
        | ret => exact kB_mono (fun ex t ht => hK _ _ _ _ hxy ht) ht
        | exit i => exact kB_mono (fun ex t ht => hK _ _ _ _ hxy ht) ht) ((v_mono n).1 (fun ex t ht => by
        cases ex with
        | normal => obtain ⟨m, _, hm⟩ := ihL hK ht; exact ⟨m, hm⟩
        | ret => exact kB_ex ht
        | exit i => exact kB_ex ht) h)
      exact ⟨m + 1, by omega, by rw [vL]; exact (v_mono _).1 (fun ex t ht => by
        cases ex with
        | normal => exact (v_mono _).2 (fun ex t ht => hK _ _ _ _ (Nat.le_succ _) ht) ht
        | ret => exact kB_mono (fun ex t ht => hK _ _ _ _ (Nat.le_succ _) ht) ht
        | exit i => exact kB_mono (fun ex t ht => hK _ _ _ _ (Nat.le_succ _) ht) ht) h2⟩
variable (VF M Q Pm)
noncomputable def gF : FU := fun f us h fl => sup fun n => vF VF M Q Pm n f us h fl
def gC (fn : VFunc) (c : CCode) (s : Vs) (K : Ex → Vs → Prop) : Prop := ∃ n, vC VF M Q Pm n fn c s K
def gL (fn : VFunc) (id : Nat) (b : CCode) (k : Nat) (s : Vs) (K : Ex → Vs → Prop) : Prop := ∃ n, vL VF M Q Pm n fn id b k s K
variable {VF M Q Pm}
theorem gFam : FamU (vF VF M Q Pm) (gF VF M Q Pm) := ⟨fun n m h => vF_up h, fun f us h fl R => sup_iff (fun n m x hnm hx => vF_up hnm _ _ _ _ _ hx)⟩
theorem gF_ok {C : Nat → Option CFunc} (T : Tabs C M VF Q Pm) : FOK (callW C M) (gF VF M Q Pm) := by
  intro f us h fl r h' fl' hh
  obtain ⟨n, hn⟩ := (gFam.lim _ _ _ _ _).1 hh
  exact (sound T n).1 f us h fl r h' fl' hn
variable {fn : VFunc} {s : Vs} {K : Ex → Vs → Prop}
@[simp] theorem gC_skip : gC VF M Q Pm fn .skip s K = K .normal s := propext ⟨fun ⟨n, h⟩ => by cases n with | zero => simp [vC] at h | succ n => exact h, fun h => ⟨1, h⟩⟩
@[simp] theorem gC_ret : gC VF M Q Pm fn .ret s K = K .ret s := propext ⟨fun ⟨n, h⟩ => by cases n with | zero => simp [vC] at h | succ n => exact h, fun h => ⟨1, h⟩⟩
@[simp] theorem gC_exit {i : Nat} : gC VF M Q Pm fn (.exit i) s K = K (.exit i) s := propext ⟨fun ⟨n, h⟩ => by cases n with | zero => simp [vC] at h | succ n => exact h, fun h => ⟨1, h⟩⟩
theorem regK_lim {ops : List COper} (h : regK K (opsU M Q (gF VF M Q Pm) ops s)) : ∃ n, regK K (opsU M Q (vF VF M Q Pm n) ops s) := by
  cases ho : opsU M Q (gF VF M Q Pm) ops s with
  | none => rw [ho] at h; exact h.elim
  | some t => rw [ho] at h; obtain ⟨n, hn⟩ := opsU_lim gFam ho; exact ⟨n, by rw [hn]; exact h⟩
theorem gC_region {ops : List COper} : gC VF M Q Pm fn (.region ops) s K = regU M Q (gF VF M Q Pm) s K ops := by
  refine propext ⟨fun ⟨n, h⟩ => ?_, fun h => ?_⟩
  · cases n with
    | zero => simp [vC] at h
    | succ n => exact regU_le (gFam.le n) (fun _ _ h => h) h
  · have key : ∃ n, regU M Q (vF VF M Q Pm n) s K ops := by
      unfold regU at h ⊢
      split at h
      · exact nextU_cont (k := fun m t => regK K (opsU M Q (vF VF M Q Pm m) _ t)) (fun a b t hab ht => regK_le (fun t h => opsU_le (vF_up hab) h) ht) (nextU_mono (fun t ht => regK_lim ht) h)
      · exact regK_lim h
    obtain ⟨n, hn⟩ := key
    exact ⟨n + 1, hn⟩
theorem gC_draw {ops : List COper} : gC VF M Q Pm fn (.draw ops) s K = drawK M Q (gF VF M Q Pm) s K (sched (ops.length + 1) (numbered ops 0) 0) := by
  refine propext ⟨fun ⟨n, h⟩ => ?_, fun h => ?_⟩
  · cases n with
    | zero => simp [vC] at h
    | succ n => exact drawK_le (gFam.le n) (fun _ _ h => h) h
  · have key : ∃ n, drawK M Q (vF VF M Q Pm n) s K (sched (ops.length + 1) (numbered ops 0) 0) := by
      generalize sched (ops.length + 1) (numbered ops 0) 0 = l at h ⊢
      cases l with
      | none => exact h.elim
      | some l =>
        simp only [drawK] at h ⊢
        cases ho : stepsU M Q (gF VF M Q Pm) l s [] with
        | none => rw [ho] at h; exact h.elim
        | some t => rw [ho] at h; obtain ⟨n, hn⟩ := stepsU_lim gFam ho; exact ⟨n, by rw [hn]; exact h⟩
    obtain ⟨n, hn⟩ := key
    exact ⟨n + 1, hn⟩
variable (VF M Q Pm) in
def seqK (fn : VFunc) (b : CCode) (K : Ex → Vs → Prop) (ex : Ex) (t : Vs) : Prop :=
  match ex with
  | .normal => gC VF M Q Pm fn b t K
  | ex => K ex t
theorem gC_seq {a b : CCode} : gC VF M Q Pm fn (.seq a b) s K = gC VF M Q Pm fn a s (seqK VF M Q Pm fn b K) := by
  refine propext ⟨fun ⟨n, h⟩ => ?_, fun ⟨n, h⟩ => ?_⟩
  · cases n with
    | zero => simp [vC] at h
    | succ n =>
      rw [vC] at h
      refine ⟨n, (v_mono n).1 (fun ex t ht => ?_) h⟩
      cases ex with
      | normal => exact ⟨n, ht⟩
      | ret => exact ht
      | exit i => exact ht
  · obtain ⟨m, _, hm⟩ := (v_cont n).1 (K := fun m ex t => match ex with | .normal => vC VF M Q Pm m fn b t K | ex => K ex t) (fun x y ex t hxy ht => by
      cases ex with
      | normal => exact vC_up hxy ht
      | ret => exact ht
      | exit i => exact ht) ((v_mono n).1 (fun ex t ht => by
      cases ex with
      | normal => exact ht
      | ret => exact ⟨0, ht⟩
      | exit i => exact ⟨0, ht⟩) h)
    exact ⟨m + 1, by rw [vC]; exact hm⟩
variable (VF M Q Pm) in
def condK (fn : VFunc) (a b : CCode) (s : Vs) (K : Ex → Vs → Prop) : Option U → Prop
  | some (.bool true) => gC VF M Q Pm fn a s K
  | some (.bool false) => gC VF M Q Pm fn b s K
  | _ => False
theorem gC_cond {x : Opd} {a b : CCode} : gC VF M Q Pm fn (.cond x a b) s K = condK VF M Q Pm fn a b s K (evO s.e x) := by
  refine propext ⟨fun ⟨n, h⟩ => ?_, fun h => ?_⟩
  · cases n with
    | zero => simp [vC] at h
    | succ n =>
      rw [vC] at h
      split at h <;> try exact h.elim
      · rename_i hx; (try rw [hx]); exact ⟨n, h⟩
      · rename_i hx; (try rw [hx]); exact ⟨n, h⟩
  · unfold condK at h
    split at h <;> try exact h.elim
    · rename_i hx; obtain ⟨n, h⟩ := h; exact ⟨n + 1, by rw [vC]; (try simp only [hx]); exact h⟩
    · rename_i hx; obtain ⟨n, h⟩ := h; exact ⟨n + 1, by rw [vC]; (try simp only [hx]); exact h⟩
theorem gC_loop {id : Nat} {b : CCode} : gC VF M Q Pm fn (.block id (.loop b)) s K = gL VF M Q Pm fn id b s.h.length (keep (fn.head id) s.h.length s) K := by
  refine propext ⟨fun ⟨n, h⟩ => ?_, fun ⟨n, h⟩ => ⟨n + 1, by simp only [vC]; exact h⟩⟩
  cases n with
  | zero => simp [vC] at h
  | succ n => simp only [vC] at h; exact ⟨n, h⟩
def CCode.isLoop : CCode → Bool
  | .loop _ => true
  | _ => false
theorem vC_block {n id : Nat} {b : CCode} (hb : b.isLoop = false) : vC VF M Q Pm (n + 1) fn (.block id b) s K = vC VF M Q Pm n fn b s (kB fn id s.h.length K) := by
  cases b with
  | loop b => simp [CCode.isLoop] at hb
  | _ => simp only [vC]
theorem gC_block {id : Nat} {b : CCode} (hb : b.isLoop = false) : gC VF M Q Pm fn (.block id b) s K = gC VF M Q Pm fn b s (kB fn id s.h.length K) := by
  refine propext ⟨fun ⟨n, h⟩ => ?_, fun ⟨n, h⟩ => ⟨n + 1, by rw [vC_block hb]; exact h⟩⟩
  cases n with
  | zero => simp [vC] at h
  | succ n => rw [vC_block hb] at h; exact ⟨n, h⟩
variable (VF M Q Pm) in
def rndK (fn : VFunc) (id : Nat) (b : CCode) (k : Nat) (K : Ex → Vs → Prop) (ex : Ex) (t : Vs) : Prop :=
  match ex with
  | .normal => gL VF M Q Pm fn id b k (keep (fn.head id) k t) K
  | ex => kB fn id k K ex t
theorem gL_round {id k : Nat} {b b' : CCode} (hb : b = b') : gL VF M Q Pm fn id b k s K = gC VF M Q Pm fn b' s (rndK VF M Q Pm fn id b k K) := by
  subst hb
  refine propext ⟨fun ⟨n, h⟩ => ?_, fun ⟨n, h⟩ => ?_⟩
  · cases n with
    | zero => simp [vL] at h
    | succ n =>
      rw [vL] at h
      refine ⟨n, (v_mono n).1 (fun ex t ht => ?_) h⟩
      cases ex with
      | normal => exact ⟨n, ht⟩
      | ret => exact ht
      | exit i => exact ht
  · obtain ⟨m, _, hm⟩ := (v_cont n).1 (K := fun m ex t => match ex with | .normal => vL VF M Q Pm m fn id b k (keep (fn.head id) k t) K | ex => kB fn id k K ex t) (fun x y ex t hxy ht => by
      cases ex with
      | normal => exact vL_up hxy ht
      | ret => exact ht
      | exit i => exact ht) ((v_mono n).1 (fun ex t ht => by
      cases ex with
      | normal => exact ht
      | ret => exact ⟨0, ht⟩
      | exit i => exact ⟨0, ht⟩) h)
    exact ⟨m + 1, by rw [vL]; exact hm⟩
theorem gF_of {f : Nat} {us : List U} {h : List Uo} {fl : Nat} {R : U × List Uo × Nat} (hp : Pm f = none) (hf : VF f = some fn) (ha : Nat.ble us.length fn.ntmps = true) (hR : gC VF M Q Pm fn fn.body ⟨initU us 0, h, fl⟩ (kE h.length fn R)) : gF VF M Q Pm f us h fl = some R := by
  obtain ⟨n, hn⟩ := hR
  refine (gFam.lim _ _ _ _ _).2 ⟨n + 1, ?_⟩
  rw [vF, hp]
  simp only [hf, ha, cond_true]
  exact pick_of hn fun y hy => vC_one hn hy
theorem gF_prim {f : Nat} {us : List U} {h : List Uo} {fl : Nat} {p : List U → List Uo → Nat → Option (U × List Uo × Nat)} (hp : Pm f = some p) : gF VF M Q Pm f us h fl = p us h fl := by
  ext x
  constructor
  · intro hh
    obtain ⟨n, hn⟩ := (gFam.lim _ _ _ _ _).1 hh
    cases n with
    | zero => simp [vF] at hn
    | succ n => rw [vF, hp] at hn; exact hn
  · intro hh
    exact (gFam.lim _ _ _ _ _).2 ⟨1, by rw [vF, hp]; exact hh⟩
end
end Go.RE
