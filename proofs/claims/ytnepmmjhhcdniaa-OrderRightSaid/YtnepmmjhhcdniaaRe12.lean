/- Regions in the order of their text, and regions whose order is open. -/
import Derived.Test.YtnepmmjhhcdniaaRe12b
import Derived.Scope
namespace Go.RE
section
variable {P : Program} {w0 : World} {M : Nat → String → Option Nat} {F : Nat → List V → St → (V → St → Prop) → Prop}

theorem seq_sound (hM : MSound P M) (hF : FSound P w0 F) {n : Nat} {ops : Array Oper} {k : PT V → St → Prop} {Q : Exit → Act → World → Prop} : ∀ (r pre : List Oper) (acc : List Nat) (cr : List COper) (env : PT V) (s : St) (a : Act) (w : World) (ρ : Ren),
    ops.toList = pre ++ r → cops P n ops.toList r acc = some cr → evSeq M F cr env s k → Rel w0 ρ s w → ERel w0 ρ n env a →
    (∀ env' s' ρ' a' w', k env' s' → Rel w0 ρ' s' w' → Stp ρ s w ρ' s' w' → ERel w0 ρ' n env' a' → a'.defers = a.defers → Q .normal a' w') →
    wpOps P ops Q (List.range' pre.length r.length) a w := by
  intro r
  induction r with
  | nil =>
    intro pre acc cr env s a w ρ ho hc he hR hE hk
    simp [cops] at hc; subst hc
    simp only [evSeq] at he
    simpa [wpOps] using hk env s ρ a w he hR (.refl _ _ _) hE rfl
  | cons o r ih =>
    intro pre acc cr env s a w ρ ho hc he hR hE hk
    obtain ⟨g, l', h1, h2, h3, rfl⟩ := cops_cons hc
    have hoi : ops[pre.length]? = some o := by rw [← Array.getElem?_toList, ho]; simp
    have hrest : ∀ env' s' ρ' a' w', evSeq M F l' env' s' k → Rel w0 ρ' s' w' → Stp ρ s w ρ' s' w' → ERel w0 ρ' n env' a' → a'.defers = a.defers → wpOps P ops Q (List.range' (pre.length + 1) r.length) a' w' := fun env' s' ρ' a' w' q1 q2 q3 q4 q5 => by
      have := ih (pre ++ [o]) _ l' env' s' a' w' ρ' (by rw [ho]; simp) h2 q1 q2 q4 fun e2 s2 ρ2 a2 w2 z1 z2 z3 z4 z5 => hk e2 s2 ρ2 a2 w2 z1 z2 (q3.trans z3) z4 (z5.trans q5)
      simpa using this
    rw [List.length_cons, List.range'_succ, wpOps_cons]
    unfold wpOp
    rw [hoi]
    simp only []
    simp only [evSeq] at he
    cases hg : guardEv g env with
    | none => rw [hg] at he; exact he.elim
    | some b =>
      rw [hg] at he
      have hw := guard_sound (tmps := a.tmps) (ρ := ρ) h1 hg (fun t v _ e => hE.2 t v e)
      cases b with
      | true =>
        rw [if_pos hw]
        left
        exact op_sound hM hF he hR (fun x _ => hE.opd x) fun v s' ρ' x w' q1 q2 q3 q4 => hrest _ s' ρ' _ w' q1 q2 q3 ((hE.mono q3.ren).put h3 q4) (put_defers _ _ _)
      | false =>
        rw [if_neg (by rw [hw]; simp)]
        exact hrest _ s ρ _ w he hR (.refl _ _ _) (hE.put h3 undef_rel) (put_defers _ _ _)

/-- What the code comes to, on both sides. -/
def Sim (w0 : World) (n : Nat) (ρ : Ren) (s : St) (w : World) (k : Ex → PT V → St → Prop) : Exit → Act → World → Prop := fun e a w' =>
  ∃ ex env' s' ρ', e = (match ex with | .normal => Exit.normal | .exit i => .exit i | .ret => .ret) ∧ k ex env' s' ∧ Rel w0 ρ' s' w' ∧ Stp ρ s w ρ' s' w' ∧ ERel w0 ρ' n env' a ∧ a.defers = []

def DrawOK (P : Program) : Prop := P.follows .mixedOrders = true

theorem wp_loop_unfold {c : Code} {Q : Exit → Act → World → Prop} {a : Act} {w : World} {J : Nat → Act → World → Prop} {m : Nat} (h0 : J m a w)
    (round : ∀ m a w, J m a w → c.wp P (Exit.then (fun a' w' => ∃ m', m' < m ∧ J m' a' w') Q) a w) : (Code.loop c).wp P Q a w := by
  intro b k cs
  have key : ∀ m a w, J m a w → ∃ e a' w', Q e a' w' ∧ Arrives P (lone (b.at a (.code c :: .inLoop c :: k)) cs w) b k cs e a' w' := by
    intro m
    induction m using Nat.strongRecOn with
    | _ m ih =>
      intro a w hJ
      obtain ⟨e, a₁, w₁, hq, harr⟩ := round m a w hJ b (.inLoop c :: k) cs
      cases e with
      | normal =>
        obtain ⟨m', hlt, hJ'⟩ := hq
        obtain ⟨e₂, a₂, w₂, hq₂, harr₂⟩ := ih m' hlt a₁ w₁ hJ'
        exact ⟨e₂, a₂, w₂, hq₂, .of_steps (Steps.trans harr (.one step_inLoop)) harr₂⟩
      | exit id => exact ⟨_, a₁, w₁, hq, .pass (x := .inLoop c) rfl (fun _ _ => .inl (by simp)) harr⟩
      | goto l => exact ⟨_, a₁, w₁, hq, .pass (x := .inLoop c) rfl (fun _ _ => .inl (by simp)) harr⟩
      | ret => exact ⟨_, a₁, w₁, hq, .pass (x := .inLoop c) rfl (fun _ _ => .inl (by simp)) harr⟩
      | panic ch => exact ⟨_, a₁, w₁, hq, .pass (x := .inLoop c) rfl (fun _ _ => .inl (by simp)) harr⟩
      | outgrown => exact ⟨_, a₁, w₁, hq, .pass (x := .inLoop c) rfl (fun _ _ => .inl (by simp)) harr⟩
  obtain ⟨e, a', w', hq, harr⟩ := key m a w h0
  exact ⟨e, a', w', hq, .of_steps (.one step_loop) harr⟩

theorem exit_then {w0 : World} {n : Nat} {ρ : Ren} {s : St} {w : World} {k : Ex → PT V → St → Prop} {k' : PT V → St → Prop} {N : Act → World → Prop} {Q : Exit → Act → World → Prop}
    (hn : ∀ env' s' ρ' a' w', k' env' s' → Rel w0 ρ' s' w' → Stp ρ s w ρ' s' w' → ERel w0 ρ' n env' a' → a'.defers = [] → N a' w')
    (hq : ∀ e a' w', Sim w0 n ρ s w k e a' w' → Q e a' w') : ∀ e a' w', Sim w0 n ρ s w (fun e env s => match e with | .normal => k' env s | .exit i => k (.exit i) env s | .ret => k .ret env s) e a' w' → Exit.then N Q e a' w' := by
  rintro e a' w' ⟨ex, env', s', ρ', rfl, h1, h2, h3, h4, h5⟩
  cases ex with
  | normal => exact hn env' s' ρ' a' w' h1 h2 h3 h4 h5
  | exit i => exact hq _ _ _ ⟨.exit i, env', s', ρ', rfl, h1, h2, h3, h4, h5⟩
  | ret => exact hq _ _ _ ⟨.ret, env', s', ρ', rfl, h1, h2, h3, h4, h5⟩

def CSound (P : Program) (C : Nat → Option CFunc) : Prop := ∀ f fn, C f = some fn → cfun P f = some fn

/-- The evaluator's calls, at some fuel. -/
def callAt (C : Nat → Option CFunc) (M : Nat → String → Option Nat) (n : Nat) : Nat → List V → St → (V → St → Prop) → Prop := fun f args s k => evF C M n f args s k

theorem Sim.trans {n : Nat} {ρ ρ' : Ren} {s s' : St} {w w' : World} {k : Ex → PT V → St → Prop} (h : Stp ρ s w ρ' s' w') {e : Exit} {a : Act} {w2 : World} (hs : Sim w0 n ρ' s' w' k e a w2) : Sim w0 n ρ s w k e a w2 := by
  obtain ⟨ex, env', s2, ρ2, h1, h2, h3, h4, h5, h6⟩ := hs
  exact ⟨ex, env', s2, ρ2, h1, h2, h3, h.trans h4, h5, h6⟩

theorem code_sound {C : Nat → Option CFunc} (hM : MSound P M) (hD : DrawOK P) (m : Nat) (hF : ∀ j, j < m → FSound P w0 (callAt C M j)) {n : Nat} : ∀ (j : Nat), j ≤ m → ∀ (c : Code) (env : PT V) (s : St) (a : Act) (w : World) (ρ : Ren) (k : Ex → PT V → St → Prop),
    evC C M j (ccode P n c) env s k → Rel w0 ρ s w → ERel w0 ρ n env a → a.defers = [] → c.wp P (Sim w0 n ρ s w k) a w := by
  intro j
  induction j using Nat.strongRecOn with
  | _ j ih =>
  cases j with
  | zero => intro _ c env s a w ρ k h; exact h.elim
  | succ j =>
    intro hj c env s a w ρ k h hR hE hd
    have ih' := ih j (by omega) (by omega)
    have hFj := hF j (by omega)
    cases c with
    | skip => simp only [ccode, evC] at h; exact wp_skip ⟨.normal, env, s, ρ, rfl, h, hR, .refl _ _ _, hE, hd⟩
    | label l => simp only [ccode, evC] at h; exact wp_label ⟨.normal, env, s, ρ, rfl, h, hR, .refl _ _ _, hE, hd⟩
    | exit i => simp only [ccode, evC] at h; exact wp_exit ⟨.exit i, env, s, ρ, rfl, h, hR, .refl _ _ _, hE, hd⟩
    | ret => simp only [ccode, evC] at h; exact wp_ret ⟨.ret, env, s, ρ, rfl, h, hR, .refl _ _ _, hE, hd⟩
    | goto l => simp only [ccode, evC] at h; exact h.elim
    | refuse y => simp only [ccode, evC] at h; exact h.elim
    | rangeFunc f p x y => simp only [ccode, evC] at h; exact h.elim
    | scope b =>
      simp only [ccode, evC] at h
      refine wp_scope_straight (wp_mono (ih' b env s a w ρ _ h hR hE hd) ?_)
      rintro e a' w' ⟨ex, env', s', ρ', rfl, h1, h2, h3, h4, h5⟩
      cases ex with
      | normal =>
        cases j with
        | zero => exact h1.elim
        | succ j => simp only [evC] at h1; exact ⟨.normal, env', s', ρ', rfl, h1, h2, h3, h4, h5⟩
      | exit i => exact ⟨.exit i, env', s', ρ', rfl, h1, h2, h3, h4, h5⟩
      | ret => exact ⟨.ret, env', s', ρ', rfl, h1, h2, h3, h4, h5⟩
    | region id ops draw =>
      simp only [ccode] at h
      split at h
      · rename_i l hl
        cases draw with
        | false =>
          simp only [cond_false, evC] at h
          refine wp_region ?_
          have := seq_sound (P := P) (w0 := w0) hM hFj (n := n) (ops := ops) (Q := Sim w0 n ρ s w k) ops.toList [] [] l env s a w ρ (by simp) hl h hR hE fun env' s' ρ' a' w' q1 q2 q3 q4 q5 => ⟨.normal, env', s', ρ', rfl, q1, q2, q3, q4, q5.trans hd⟩
          simpa [List.range_eq_range'] using this
        | true =>
          simp only [cond_true] at h
          cases hdo : drawOk ops.toList l with
          | false => rw [hdo] at h; simp only [cond_false, evC] at h; exact h.elim
          | true =>
            rw [hdo] at h
            simp only [cond_true, evC] at h
            exact draw_sound (P := P) (w0 := w0) hM hFj hD hl hdo h hR hE fun env' s' ρ' a' w' q1 q2 q3 q4 q5 => ⟨.normal, env', s', ρ', rfl, q1, q2, q3, q4, q5.trans hd⟩
      · simp only [evC] at h; exact h.elim
    | seq x y =>
      simp only [ccode, evC] at h
      refine wp_seq (wp_mono (ih' x env s a w ρ _ h hR hE hd) ?_)
      exact exit_then (fun env' s' ρ' a' w' q1 q2 q3 q4 q5 => wp_mono (ih' y env' s' a' w' ρ' k q1 q2 q4 q5) fun e a2 w2 hs => hs.trans q3) fun e a' w' hs => hs
    | cond c x y =>
      simp only [ccode] at h
      split at h
      · rename_i co hco
        simp only [evC] at h
        split at h
        · rename_i hv
          exact wp_cond_true ((hE.opd c co _ hco hv).bool_inv) (ih' x env s a w ρ k h hR hE hd)
        · rename_i hv
          exact wp_cond_false ((hE.opd c co _ hco hv).bool_inv) (ih' y env s a w ρ k h hR hE hd)
        · exact h.elim
      · simp only [evC] at h; exact h.elim
    | block id b =>
      simp only [ccode, evC] at h
      refine wp_block (wp_mono (ih' b env s a w ρ _ h hR hE hd) ?_)
      rintro e a' w' ⟨ex, env', s', ρ', rfl, h1, h2, h3, h4, h5⟩
      cases ex with
      | normal => exact ⟨.normal, env', s', ρ', rfl, h1, h2, h3, h4, h5⟩
      | ret => exact ⟨.ret, env', s', ρ', rfl, h1, h2, h3, h4, h5⟩
      | exit i =>
        simp only [Exit.inBlock] at h1 ⊢
        by_cases hi : i = id
        · subst hi
          rw [if_pos rfl]
          rw [show Nat.beq i i = true from Nat.beq_refl i] at h1
          exact ⟨.normal, env', s', ρ', rfl, h1, h2, h3, h4, h5⟩
        · rw [if_neg hi]
          have : Nat.beq i id = false := by
            cases hb : Nat.beq i id with
            | false => rfl
            | true => exact absurd (Nat.eq_of_beq_eq_true hb) hi
          rw [this] at h1
          exact ⟨.exit i, env', s', ρ', rfl, h1, h2, h3, h4, h5⟩
    | loop b =>
      refine wp_loop_unfold (J := fun i a' w' => i ≤ j + 1 ∧ ∃ env' s' ρ', evC C M i (.loop (ccode P n b)) env' s' k ∧ Rel w0 ρ' s' w' ∧ Stp ρ s w ρ' s' w' ∧ ERel w0 ρ' n env' a' ∧ a'.defers = []) (m := j + 1)
        ⟨Nat.le_refl _, env, s, ρ, by simpa only [ccode] using h, hR, .refl _ _ _, hE, hd⟩ ?_
      rintro i a1 w1 ⟨hi, env1, s1, ρ1, z1, z2, z3, z4, z5⟩
      cases i with
      | zero => exact z1.elim
      | succ i =>
        simp only [evC] at z1
        refine wp_mono (ih i (by omega) (by omega) b env1 s1 a1 w1 ρ1 _ z1 z2 z4 z5) ?_
        exact exit_then (fun env' s' ρ' a' w' q1 q2 q3 q4 q5 => ⟨i, by omega, by omega, env', s', ρ', q1, q2, z3.trans q3, q4, q5⟩) fun e a' w' hs => hs.trans z3

theorem initEnv_get : ∀ (args : List V) (i : Nat) (env : PT V) (t : Nat), (initEnv args i env).get t = if i ≤ t ∧ t < i + args.length then args[t - i]? else env.get t := by
  intro args
  induction args with
  | nil => intro i env t; simp only [initEnv]; rw [if_neg (by simp only [List.length_nil]; omega)]
  | cons v vs ih =>
    intro i env t
    simp only [initEnv, ih, PT.get_set, List.length_cons]
    by_cases h : i + 1 ≤ t ∧ t < i + 1 + vs.length
    · rw [if_pos h, if_pos (by omega), show t - i = (t - (i + 1)) + 1 from by omega, List.getElem?_cons_succ]
    · rw [if_neg h]
      by_cases ht : t = i
      · subst ht; rw [if_pos rfl, if_pos (by omega)]; simp
      · rw [if_neg ht, if_neg (by omega)]

theorem resL_sound {ρ : Ren} {n : Nat} {env : PT V} {s : St} {a : Act} {w : World} (hR : Rel w0 ρ s w) (hE : ERel w0 ρ n env a) : ∀ {rs : List ResultVar} {crs : List CRes} {vs : List V}, cress P rs = some crs → resL env s crs = some vs →
    ∃ xs, (rs.mapM (m := Sem) fun | .tmp t => pure (a.tmps.getD t undef) | .cell q t => do loadVar t (← asAddr (a.tmps.getD q undef))).run P w = .ok xs w ∧ LRel w0 ρ vs xs := by
  intro rs
  induction rs with
  | nil => intro crs vs h h'; simp [cress] at h; subst h; simp [resL] at h'; subst h'; exact ⟨[], by simp, .nil⟩
  | cons r rs ih =>
    intro crs vs h h'
    cases r with
    | tmp t =>
      simp only [cress] at h
      cases hc : cress P rs with
      | none => simp [hc] at h
      | some l =>
        simp [hc] at h; subst h
        simp only [resL, resV] at h'
        cases hv : env.get t with
        | none => simp [hv] at h'
        | some v =>
          cases hl : resL env s l with
          | none => simp [hv, hl] at h'
          | some us =>
            simp [hv, hl] at h'; subst h'
            obtain ⟨xs, h1, h2⟩ := ih hc hl
            refine ⟨a.tmps.getD t undef :: xs, ?_, .cons (hE.2 t v hv) h2⟩
            rw [List.mapM_cons]
            simp only [Sem.run_bind, Sem.run_pure, Result.andThen_ok]
            rw [h1]; rfl
    | cell q t =>
      simp only [cress] at h
      cases hs : spread P t with
      | none => simp [hs] at h
      | some m =>
        cases hc : cress P rs with
        | none => simp [hs, hc] at h
        | some l =>
          simp [hs, hc] at h; subst h
          simp only [resL] at h'
          cases hv : resV env s (.cell q m) with
          | none => simp [hv] at h'
          | some v =>
            cases hl : resL env s l with
            | none => simp [hv, hl] at h'
            | some us =>
              simp [hv, hl] at h'; subst h'
              obtain ⟨xs, h1, h2⟩ := ih hc hl
              simp only [resV] at hv
              split at hv <;> try (simp at hv; done)
              rename_i b off hb
              cases hrow : s.row b with
              | none => simp [hrow] at hv
              | some cs =>
                simp only [hrow] at hv
                have hp := hE.2 q _ hb
                generalize hx : a.tmps.getD q undef = x at hp
                cases hp with
                | ptr hρ =>
                  rename_i r o lim
                  obtain ⟨y, y1, y2⟩ := run_loadVar_of (P := P) (hR.cells hρ hrow) hs hv
                  have ha : (asAddr (a.tmps.getD q undef)).run P w = .ok ⟨r, o + off, none⟩ w := by rw [hx]; rfl
                  refine ⟨y :: xs, ?_, .cons y2 h2⟩
                  rw [List.mapM_cons]
                  simp only [Sem.run_bind, ha, Result.andThen_ok, y1]
                  rw [h1]; rfl

theorem res_sound {ρ : Ren} {n : Nat} {env : PT V} {s : St} {a : Act} {w : World} (hR : Rel w0 ρ s w) (hE : ERel w0 ρ n env a) {fn : Func} {crs : List CRes} {v : V} (hc : cress P fn.results.toList = some crs) (hv : resAll env s crs = some v) :
    ∃ x, (results fn a.tmps).run P w = .ok x w ∧ VRel w0 ρ v x := by
  unfold resAll at hv
  cases hl : resL env s crs with
  | none => simp [hl] at hv
  | some vs =>
    obtain ⟨xs, h1, h2⟩ := resL_sound (P := P) hR hE hc hl
    have hrun : (results fn a.tmps).run P w = .ok (if h : xs.toArray.size = 1 then xs.toArray[0] else .tuple xs.toArray) w := by
      unfold results
      rw [Array.mapM_eq_mapM_toList]
      simp only [Sem.run_bind, Sem.run_map]
      erw [h1]; rfl
    cases vs with
    | nil =>
      simp [hl] at hv; subst hv
      have := h2.inv_nil; subst this
      exact ⟨_, hrun, by simpa using VRel.tup_of h2⟩
    | cons u us =>
      obtain ⟨x, xs', rfl, hx, hxs⟩ := h2.inv_cons
      cases us with
      | nil =>
        simp [hl] at hv; subst hv
        have := hxs.inv_nil; subst this
        exact ⟨_, hrun, by simpa using hx⟩
      | cons u2 us =>
        simp [hl] at hv; subst hv
        obtain ⟨x2, xs2, rfl, hx2, hxs2⟩ := hxs.inv_cons
        exact ⟨_, hrun, by simpa using VRel.tup_of h2⟩

theorem F_sound {C : Nat → Option CFunc} (hC : CSound P C) (hM : MSound P M) (hD : DrawOK P) : ∀ n, FSound P w0 (callAt C M n) := by
  intro n
  induction n using Nat.strongRecOn with
  | _ n ihn =>
  intro f args s k ρ w args' h hR hA
  simp only [callAt, evF] at h
  cases hf : C f with
  | none => rw [hf] at h; exact h.elim
  | some cf =>
    rw [hf] at h
    have hcf := hC f cf hf
    unfold cfun at hcf
    cases hfn : P.funcs[f]? with
    | none => simp [hfn] at hcf
    | some fn =>
      simp only [hfn] at hcf
      cases hb : fn.body with
      | none => simp [hb] at hcf
      | some b =>
        simp only [hb] at hcf
        cases hnm : (fn.name == "runtime.NumGoroutine") with
        | true => simp [hnm] at hcf
        | false =>
          simp only [hnm, cond_false] at hcf
          cases hr : cress P fn.results.toList with
          | none => simp [hr] at hcf
          | some rs =>
            simp only [hr, Option.some.injEq] at hcf; subst hcf
            refine ⟨⟨fn, b, rfl, hb, hnm⟩, ?_⟩
            cases hle : Nat.ble args.length fn.ntmps with
            | false => simp only [hle, cond_false] at h; exact h.elim
            | true =>
              have hle' := Nat.le_of_ble_eq_true hle
              simp only [hle, cond_true] at h
              refine calls_of_wp hfn hb ?_
              have hlen := hA.1
              have hE : ERel w0 ρ fn.ntmps (initEnv args 0 .e) { tmps := args'.toArray ++ Array.replicate (fn.ntmps - args'.toArray.size) undef, defers := [] } := by
                refine ⟨by simp; omega, fun t v hv => ?_⟩
                rw [initEnv_get] at hv
                simp only [Nat.zero_le, true_and, Nat.zero_add, Nat.sub_zero, PT.get_e] at hv
                split at hv <;> try (simp at hv; done)
                rename_i hlt
                obtain ⟨x, x1, x2⟩ := hA.get hv
                rw [Array.getD_eq_getD_getElem?, Array.getElem?_append_left (by simp; omega)]
                simp [x1]; exact x2
              refine wp_mono (code_sound hM hD n ihn n (Nat.le_refl _) b _ s _ w ρ _ h hR hE rfl) ?_
              rintro e a' w' ⟨ex, env', s', ρ', rfl, h1, h2, h3, h4, h5⟩
              have fin : (match resAll env' s' rs with | some v => k v s' | none => (Ans.fail : Prop)) → a'.defers = [] ∧ ∃ v, (results fn a'.tmps).run P w' = .ok v w' ∧ (∃ v' s' ρ' x, Ending.returned v = .returned x ∧ k v' s' ∧ Rel w0 ρ' s' w' ∧ Stp ρ s w ρ' s' w' ∧ VRel w0 ρ' v' x) := fun hk => by
                cases hv : resAll env' s' rs with
                | none => rw [hv] at hk; exact hk.elim
                | some v =>
                  rw [hv] at hk
                  obtain ⟨x, x1, x2⟩ := res_sound (P := P) h2 h4 hr hv
                  exact ⟨h5, x, x1, v, s', ρ', x, rfl, hk, h2, h3, x2⟩
              cases ex with
              | normal => exact fin h1
              | ret => exact fin h1
              | exit i => exact h1.elim
end
end Go.RE
