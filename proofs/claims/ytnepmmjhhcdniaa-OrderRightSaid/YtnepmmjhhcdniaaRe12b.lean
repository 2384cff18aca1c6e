/- A region whose order is open does what the evaluator says, in whatever order. -/
import Derived.Test.YtnepmmjhhcdniaaRe12a
namespace Go.RE
set_option linter.unusedSimpArgs false
set_option linter.unusedVariables false
section
variable {P : Program} {w0 : World} {M : Nat → String → Option Nat} {F : Nat → List V → St → (V → St → Prop) → Prop}

/-- What is left of a region when all that is small has been taken. -/
def mainD (M : Nat → String → Option Nat) (F : Nat → List V → St → (V → St → Prop) → Prop) (n : Nat) (todo : List (Nat × COper)) (done : Nat) (env : PT V) (s : St) (recs : Recs) (k : PT V → St → Prop) : Prop :=
  match splitBig [] todo with
  | none => (match todo with | [] => k env s | _ => Ans.fail)
  | some (i, o, rest) =>
    bif within o.preds done && rest.all (fun x => x.2.small || Nat.testBit x.2.preds i) then
      (match guardEv o.guard env with
      | some true => evOp M F env s o.op fun v s' => recheck s' o.preds recs
          (evDraw M F n rest (Nat.lor done (2 ^ i)) (putD o.dst v env) s' (keepRecs o.preds recs) k)
      | some false => evDraw M F n rest (Nat.lor done (2 ^ i)) (putD o.dst (.tup []) env) s recs k
      | none => Ans.fail)
    else Ans.fail

theorem evDraw_succ {n : Nat} {todo : List (Nat × COper)} {done : Nat} {env : PT V} {s : St} {recs : Recs} {k : PT V → St → Prop} (h : evDraw M F n todo done env s recs k) :
    ∃ m todo' done' env' s' recs', n = m + 1 ∧ absorb todo done env s [] recs = some (todo', done', env', s', recs') ∧ mainD M F m todo' done' env' s' recs' k := by
  cases n with
  | zero => exact h.elim
  | succ m =>
    simp only [evDraw] at h
    cases ha : absorb todo done env s [] recs with
    | none => rw [ha] at h; exact h.elim
    | some x =>
      obtain ⟨todo', done', env', s', recs'⟩ := x
      rw [ha] at h
      exact ⟨m, todo', done', env', s', recs', rfl, rfl, h⟩

theorem splitBig_some : ∀ (todo pre : List (Nat × COper)) {i : Nat} {o : COper} {rest : List (Nat × COper)}, splitBig pre todo = some (i, o, rest) →
    ∃ b af, todo = b ++ (i, o) :: af ∧ rest = pre.reverse ++ b ++ af ∧ o.small = false := by
  intro todo
  induction todo with
  | nil => intro pre i o rest h; simp [splitBig] at h
  | cons x todo ih =>
    intro pre i o rest h
    obtain ⟨j, p⟩ := x
    simp only [splitBig] at h
    cases hp : p.small with
    | true =>
      rw [hp] at h
      obtain ⟨b, af, h1, h2, h3⟩ := ih _ h
      exact ⟨(j, p) :: b, af, by rw [h1]; rfl, by rw [h2]; simp, h3⟩
    | false =>
      rw [hp] at h
      simp only [cond_false, Option.some.injEq, Prod.mk.injEq] at h
      obtain ⟨rfl, rfl, rfl⟩ := h
      exact ⟨[], todo, rfl, by simp, hp⟩
theorem splitBig_none : ∀ (todo pre : List (Nat × COper)), splitBig pre todo = none → ∀ x ∈ todo, x.2.small = true := by
  intro todo
  induction todo with
  | nil => intro pre _ x hx; simp at hx
  | cons x todo ih =>
    intro pre h y hy
    obtain ⟨j, p⟩ := x
    simp only [splitBig] at h
    cases hp : p.small with
    | false => rw [hp] at h; simp at h
    | true =>
      rw [hp] at h
      rcases List.mem_cons.1 hy with rfl | hy
      · exact hp
      · exact ih _ h y hy

theorem recheck_inv {s : St} {preds : Nat} {R : Prop} : ∀ (recs : Recs), recheck s preds recs R → R ∧ ∀ x ∈ recs, preds.testBit x.1 = false → evS x.2.2.1 s x.2.1 = some x.2.2.2 := by
  intro recs
  induction recs with
  | nil => intro h; exact ⟨h, fun x hx => by simp at hx⟩
  | cons r recs ih =>
    intro h
    obtain ⟨i, so, env, v⟩ := r
    simp only [recheck] at h
    cases ht : preds.testBit i with
    | true =>
      rw [ht] at h
      obtain ⟨h1, h2⟩ := ih h
      exact ⟨h1, fun x hx hp => by
        rcases List.mem_cons.1 hx with rfl | hx
        · simp only at hp; rw [ht] at hp; simp at hp
        · exact h2 x hx hp⟩
    | false =>
      rw [ht] at h
      simp only [cond_false] at h
      cases hv : evS env s so with
      | none => rw [hv] at h; exact h.elim
      | some u =>
        rw [hv] at h
        obtain ⟨h0, h⟩ := h
        subst h0
        obtain ⟨h1, h2⟩ := ih h
        exact ⟨h1, fun x hx hp => by
          rcases List.mem_cons.1 hx with rfl | hx
          · exact hv
          · exact h2 x hx hp⟩

/-- What has been taken, and not yet come. -/
def Pend (P : Program) (ops : Array Oper) (l : List COper) (E0 : PT V) (s0 : St) (ρ : Ren) (env : PT V) (s : St) (recs : Recs) (nm : Nat → Option Nat) (i : Nat) : Prop :=
  ∃ o env1, ops[i]? = some o ∧ (∀ t ∈ tmpsIn o ops.toList, (∀ j, (pr l i).testBit j = true → dn l j = some t → env1.get t = env.get t) ∧ ((∀ j, (pr l i).testBit j = true → dn l j ≠ some t) → env1.get t = E0.get t)) ∧
    ((guardEv (l.getD i default).guard env1 = some false ∧ ∀ t, dn l i = some t → env.get t = some (.tup [])) ∨
     (guardEv (l.getD i default).guard env1 = some true ∧
      ((∃ so v, (l.getD i default).op = .s so ∧ evS env1 s so = some v ∧ (i, so, env1, v) ∈ recs ∧ ∀ t, dn l i = some t → env.get t = some v) ∨
       (∃ mo ob f c, (l.getD i default).op = .m mo ∧ evM env1 mo = some (ob, f) ∧ nm i = some c ∧ s0.next ≤ c ∧ ρ c = none ∧ s.get c = some ob ∧ ∀ t, dn l i = some t → env.get t = some (f c)))))

structure Inv (P : Program) (w0 : World) (n : Nat) (ops : Array Oper) (l : List COper) (E0 : PT V) (ρ0 : Ren) (s0 : St) (wS : World) (dfr : List Deferred)
    (listed : Array Bool) (a : Act) (w : World) (ρ : Ren) (done : Nat) (env : PT V) (s : St) (recs : Recs) (nm : Nat → Option Nat) : Prop where
  size : listed.size = ops.size
  rel : Rel w0 ρ s w
  stp : Stp ρ0 s0 wS ρ s w
  tsz : n ≤ a.tmps.size
  dfr : a.defers = dfr
  closed : ∀ i, done.testBit i = true → i < ops.size ∧ ∀ b, (pr l i).testBit b = true → done.testBit b = true
  sub : ∀ i, listed.getD i false = true → done.testBit i = true
  big : ∀ i, done.testBit i = true → sm l i = false → listed.getD i false = true
  lcl : ∀ i, listed.getD i false = true → ∀ b, (pr l i).testBit b = true → listed.getD b false = true
  envs : ∀ t, (∀ i, done.testBit i = true → dn l i ≠ some t) → env.get t = E0.get t
  tm : ∀ t, (∀ i, done.testBit i = true → listed.getD i false = false → dn l i ≠ some t) → ∀ v, env.get t = some v → VRel w0 ρ v (a.tmps.getD t undef)
  tm0 : ∀ t, (∀ i, listed.getD i false = true → dn l i ≠ some t) → ∀ v, E0.get t = some v → VRel w0 ρ v (a.tmps.getD t undef)
  pend : ∀ i, done.testBit i = true → listed.getD i false = false → Pend P ops l E0 s0 ρ env s recs nm i
  nml : ∀ i c, nm i = some c → c < s.next
  nmd : ∀ i j c, nm i = some c → nm j = some c → i = j

theorem opds_of {ρ : Ren} {env : PT V} {a : Act} {o : Oper} {all : List Oper} (h : ∀ t ∈ tmpsIn o all, ∀ v, env.get t = some v → VRel w0 ρ v (a.tmps.getD t undef)) : ∀ x ∈ o.op.operands, OpdOK w0 ρ env a.eval x := by
  intro x hx oo v ho hv
  cases x with
  | tmp t =>
    simp only [RE.opd, Option.some.injEq] at ho; subst ho
    exact h t (by unfold tmpsIn; rw [List.mem_append]; left; rw [List.mem_filterMap]; exact ⟨.tmp t, by simpa using hx, rfl⟩) v hv
  | const c =>
    obtain ⟨y, rfl, hy⟩ := opd_const (w0 := w0) (ρ := ρ) ho
    simp only [Opd.ev, Option.some.injEq] at hv; subst hv; exact hy
  | global g => simp [RE.opd] at ho
  | func f =>
    simp only [RE.opd, Option.some.injEq] at ho; subst ho
    simp only [Opd.ev, Option.some.injEq] at hv; subst hv
    exact .func rfl rfl (fun i h => by simp at h) (fun i h => by simp at h)

theorem guards_of {ρ : Ren} {env : PT V} {tmps : Array Value} {ops : Array Oper} {o : Oper} {g : Option (Nat × Bool)} {b : Bool} (hg : guardOf ops.toList o = some g) (hv : guardEv g env = some b)
    (h : ∀ t ∈ tmpsIn o ops.toList, ∀ v, env.get t = some v → VRel w0 ρ v (tmps.getD t undef)) : Region.wanted o (yielded ops tmps) = b := by
  refine guard_sound (ρ := ρ) (w0 := w0) hg hv fun t v ht he => h t ?_ v he
  unfold guardOf at hg
  split at hg
  · simp only [Option.some.injEq] at hg; subst hg; simp at ht
  · rename_i j want hgd
    cases hj : ops.toList[j]? with
    | none => simp [hj] at hg
    | some p =>
      simp only [hj] at hg
      cases hd : p.dst with
      | none => simp [hd] at hg
      | some d =>
        simp only [hd, Option.some.injEq] at hg; subst hg
        simp at ht; subst ht
        unfold tmpsIn
        rw [List.mem_append]; right
        simp [hgd] at hj ⊢
        rw [hj]; simp [hd]

variable {n : Nat} {ops : Array Oper} {l : List COper} {E0 : PT V} {ρ0 : Ren} {s0 : St} {wS : World} {dfr : List Deferred}

theorem get_putD (dst : Option Nat) (v : V) (env : PT V) (t : Nat) : (putD dst v env).get t = if dst = some t then some v else env.get t := by
  cases dst with
  | none => simp [putD]
  | some d => simp only [putD, PT.get_set, Option.some.injEq]; by_cases h : t = d <;> simp [h, eq_comm]

theorem Stp.fresh_alloc {ρ ρ' : Ren} {s s' : St} {w w' : World} (h : Stp ρ s w ρ' s' w') (ob : Ob) : Stp ρ s w ρ' (s'.alloc ob) w' :=
  ⟨Nat.le_succ_of_le h.next, h.ren, h.new, h.wsize, fun n hn e => by rw [St.get_alloc, if_neg (by have := h.next; omega)]; exact h.sk n hn e, h.wk⟩

/-- One small operation is taken. -/
theorem take_small (hs : Stat P n ops l) {listed : Array Bool} {a : Act} {w : World} {ρ : Ren} {done : Nat} {env : PT V} {s : St} {recs : Recs} {nm : Nat → Option Nat} (hI : Inv P w0 n ops l E0 ρ0 s0 wS dfr listed a w ρ done env s recs nm)
    {i : Nat} (hi : i < ops.size) (hnd : done.testBit i = false) (hsm : sm l i = true) (hpre : ∀ b, (pr l i).testBit b = true → done.testBit b = true) {v : V} {s' : St} {recs' : Recs}
    (hrecs : ∀ x ∈ recs, x ∈ recs')
    (hcase : (guardEv (l.getD i default).guard env = some false ∧ v = .tup [] ∧ s' = s) ∨ (guardEv (l.getD i default).guard env = some true ∧
      ((∃ so, (l.getD i default).op = .s so ∧ evS env s so = some v ∧ (i, so, env, v) ∈ recs' ∧ s' = s) ∨ (∃ mo ob f, (l.getD i default).op = .m mo ∧ evM env mo = some (ob, f) ∧ s' = s.alloc ob ∧ v = f s.next)))) :
    ∃ nm', Inv P w0 n ops l E0 ρ0 s0 wS dfr listed a w ρ (Nat.lor done (2 ^ i)) (putD (dn l i) v env) s' recs' nm' := by
  have hul : listed.getD i false = false := by
    cases h : listed.getD i false with
    | false => rfl
    | true => have := hI.sub i h; rw [hnd] at this; simp at this
  have hbit : ∀ j, (Nat.lor done (2 ^ i)).testBit j = true ↔ (done.testBit j = true ∨ j = i) := fun j => by rw [lor_bit]; simp
  have hself : (pr l i).testBit i = false := by
    cases h : (pr l i).testBit i with
    | false => rfl
    | true => have := hpre i h; rw [hnd] at this; simp at this
  have hss : s' = s ∨ ∃ ob, s' = s.alloc ob := by
    rcases hcase with ⟨_, _, h⟩ | ⟨_, ⟨_, _, _, _, h⟩ | ⟨_, ob, _, _, _, h, _⟩⟩
    · exact .inl h
    · exact .inl h
    · exact .inr ⟨ob, h⟩
  have hmore : ∀ m x, s.get m = some x → s'.get m = some x := fun m x hm => by
    rcases hss with rfl | ⟨ob, rfl⟩
    · exact hm
    · rw [St.get_alloc, if_neg (fun h => by subst h; rw [hI.rel.fresh _ (Nat.le_refl _)] at hm; simp at hm)]; exact hm
  have hrel : Rel w0 ρ s' w := by
    rcases hss with rfl | ⟨ob, rfl⟩
    · exact hI.rel
    · exact hI.rel.fresh_alloc ob
  have hstp : Stp ρ0 s0 wS ρ s' w := by
    rcases hss with rfl | ⟨ob, rfl⟩
    · exact hI.stp
    · exact hI.stp.fresh_alloc ob
  have hnext : s.next ≤ s'.next := by
    rcases hss with rfl | ⟨ob, rfl⟩
    · exact Nat.le_refl _
    · exact Nat.le_succ _
  have hdone_lt : ∀ j, done.testBit j = true → j < ops.size := fun j hj => (hI.closed j hj).1
  have hne : ∀ j, done.testBit j = true → j ≠ i := fun j hj h => by subst h; rw [hnd] at hj; simp at hj
  have huniq : ∀ j t, done.testBit j = true → dn l j = some t → dn l i ≠ some t := fun j t hj ht => hs.uniq i j t hi (hdone_lt j hj) (fun h => hne j hj h.symm) ht
  -- the names
  let nm' : Nat → Option Nat := fun j => if j = i then (match (l.getD i default).op with | .m _ => if guardEv (l.getD i default).guard env = some true then some s.next else none | _ => none) else nm j
  have hnm_ne : ∀ j, j ≠ i → nm' j = nm j := fun j hj => by simp only [nm']; rw [if_neg hj]
  have hnm_i : ∀ c, nm' i = some c → c = s.next ∧ s.next < s'.next := fun c hc => by
    simp only [nm', if_pos rfl] at hc
    split at hc
    · rename_i mo hop
      split at hc
      · rename_i hg
        simp only [Option.some.injEq] at hc
        refine ⟨hc.symm, ?_⟩
        rcases hcase with ⟨h1, _⟩ | ⟨_, ⟨so, h1, _⟩ | ⟨mo', ob, f, _, _, h3, _⟩⟩
        · rw [h1] at hg; simp at hg
        · rw [h1] at hop; cases hop
        · rw [h3]; exact Nat.lt_succ_self _
      · simp at hc
    · simp at hc
  refine ⟨nm', hI.size, hrel, hstp, hI.tsz, hI.dfr, fun j hj => ?_, fun j hj => (hbit j).2 (.inl (hI.sub j hj)), fun j hj hsj => ?_, hI.lcl, fun t ht => ?_, fun t ht u hu => ?_, hI.tm0, fun j hj hlj => ?_, fun j c hc => ?_, fun j1 j2 c h1 h2 => ?_⟩
  · rcases (hbit j).1 hj with h | rfl
    · exact ⟨(hI.closed j h).1, fun b hb => (hbit b).2 (.inl ((hI.closed j h).2 b hb))⟩
    · exact ⟨hi, fun b hb => (hbit b).2 (.inl (hpre b hb))⟩
  · rcases (hbit j).1 hj with h | rfl
    · exact hI.big j h hsj
    · rw [hsm] at hsj; simp at hsj
  · rw [get_putD, if_neg (ht i ((hbit i).2 (.inr rfl)))]
    exact hI.envs t fun j hj => ht j ((hbit j).2 (.inl hj))
  · rw [get_putD, if_neg (ht i ((hbit i).2 (.inr rfl)) hul)] at hu
    exact hI.tm t (fun j hj hlj => ht j ((hbit j).2 (.inl hj)) hlj) u hu
  · rcases (hbit j).1 hj with h | rfl
    · obtain ⟨o, env1, e1, e2, e3⟩ := hI.pend j h hlj
      have hji := hne j h
      have hdst : ∀ t, dn l j = some t → ∀ u, env.get t = some u → (putD (dn l i) v env).get t = some u := fun t ht u hu => by
        rw [get_putD, if_neg (huniq j t h ht)]; exact hu
      refine ⟨o, env1, e1, fun t ht => ⟨fun j' hj' hdj' => ?_, (e2 t ht).2⟩, ?_⟩
      · have hd' := (hI.closed j h).2 j' hj'
        rw [get_putD, if_neg (huniq j' t hd' hdj')]; exact (e2 t ht).1 j' hj' hdj'
      · rcases e3 with ⟨g1, g2⟩ | ⟨g1, ⟨so, u, q1, q2, q3, q4⟩ | ⟨mo, ob, f, c, q1, q2, q3, q4, q5, q6, q7⟩⟩
        · exact .inl ⟨g1, fun t ht => hdst t ht _ (g2 t ht)⟩
        · exact .inr ⟨g1, .inl ⟨so, u, q1, evS_more hmore q2, hrecs _ q3, fun t ht => hdst t ht _ (q4 t ht)⟩⟩
        · exact .inr ⟨g1, .inr ⟨mo, ob, f, c, q1, q2, by rw [hnm_ne j hji]; exact q3, q4, q5, hmore _ _ q6, fun t ht => hdst t ht _ (q7 t ht)⟩⟩
    · obtain ⟨o, ho⟩ : ∃ o, ops[j]? = some o := ⟨ops[j], Array.getElem?_eq_getElem hi⟩
      have hput : ∀ t, dn l j = some t → (putD (dn l j) v env).get t = some v := fun t ht => by rw [get_putD, if_pos ht]
      refine ⟨o, env, ho, fun t ht => ⟨fun j' hj' hdj' => ?_, fun hno => ?_⟩, ?_⟩
      · have hd' := hpre j' hj'
        rw [get_putD, if_neg (huniq j' t hd' hdj')]
      · refine hI.envs t fun j' hj' hdj' => ?_
        rcases hs.reads j j' o t ho (hdone_lt j' hj') (fun h => hne j' hj' h.symm) hdj' ht with h1 | h1
        · exact hno j' h1 hdj'
        · have := (hI.closed j' hj').2 j h1
          rw [hnd] at this; simp at this
      · rcases hcase with ⟨g1, rfl, _⟩ | ⟨g1, ⟨so, q1, q2, q3, rfl⟩ | ⟨mo, ob, f, q1, q2, rfl, rfl⟩⟩
        · exact .inl ⟨g1, hput⟩
        · exact .inr ⟨g1, .inl ⟨so, v, q1, q2, q3, hput⟩⟩
        · exact .inr ⟨g1, .inr ⟨mo, ob, f, s.next, q1, q2, by (show (if j = j then _ else _) = _; rw [if_pos rfl, q1]; show (if _ then _ else _) = _; rw [if_pos g1]), hI.stp.next, hI.rel.unnamed (Nat.le_refl _), by rw [St.get_alloc, if_pos rfl], hput⟩⟩
  · by_cases hji : j = i
    · subst hji; obtain ⟨rfl, h⟩ := hnm_i c hc; exact h
    · rw [hnm_ne j hji] at hc; exact Nat.lt_of_lt_of_le (hI.nml j c hc) hnext
  · by_cases k1 : j1 = i
    · by_cases k2 : j2 = i
      · omega
      · subst k1
        obtain ⟨rfl, _⟩ := hnm_i c h1
        rw [hnm_ne j2 k2] at h2
        have := hI.nml j2 _ h2; omega
    · by_cases k2 : j2 = i
      · subst k2
        obtain ⟨rfl, _⟩ := hnm_i c h2
        rw [hnm_ne j1 k1] at h1
        have := hI.nml j1 _ h1; omega
      · rw [hnm_ne j1 k1] at h1; rw [hnm_ne j2 k2] at h2
        exact hI.nmd j1 j2 c h1 h2

/-- All that is small and may come is taken. -/
theorem absorb_sound (hs : Stat P n ops l) {listed : Array Bool} {a : Act} {w : World} {ρ : Ren} : ∀ (r : List (Nat × COper)) (done : Nat) (env : PT V) (s : St) (left : List (Nat × COper)) (recs : Recs) (nm : Nat → Option Nat) (todo' : List (Nat × COper)) (done' : Nat) (env' : PT V) (s' : St) (recs' : Recs),
    Inv P w0 n ops l E0 ρ0 s0 wS dfr listed a w ρ done env s recs nm → (∀ x ∈ r, x.1 < ops.size ∧ l[x.1]? = some x.2 ∧ done.testBit x.1 = false) → r.Pairwise (fun x y => x.1 < y.1) →
    absorb r done env s left recs = some (todo', done', env', s', recs') →
    ∃ nm', Inv P w0 n ops l E0 ρ0 s0 wS dfr listed a w ρ done' env' s' recs' nm' ∧ (∀ i, done.testBit i = true → done'.testBit i = true) ∧ (∀ i, done'.testBit i = true → done.testBit i = true ∨ ∃ x ∈ r, x.1 = i) ∧
      (∃ r', todo' = left.reverse ++ r' ∧ r'.Sublist r ∧ (∀ x ∈ r, x ∈ r' ↔ done'.testBit x.1 = false)) ∧
      (∀ x ∈ r, x.2.small = true → (∀ b, x.2.preds.testBit b = true → done'.testBit b = true) → done'.testBit x.1 = true) := by
  intro r
  induction r with
  | nil =>
    intro done env s left recs nm todo' done' env' s' recs' hI _ _ h
    simp only [absorb, Option.some.injEq, Prod.mk.injEq] at h
    obtain ⟨rfl, rfl, rfl, rfl, rfl⟩ := h
    exact ⟨nm, hI, fun _ h => h, fun _ h => .inl h, ⟨[], by simp, .slnil, fun x hx => by simp at hx⟩, fun x hx => by simp at hx⟩
  | cons x r ih =>
    intro done env s left recs nm todo' done' env' s' recs' hI hr hp h
    obtain ⟨i, o⟩ := x
    obtain ⟨hi, hli, hnd⟩ := hr (i, o) (by simp)
    simp only at hi hli hnd
    have hgd : l.getD i default = o := getD_of hli
    have hpw := List.pairwise_cons.1 hp
    have hrest : ∀ (d2 : Nat), (∀ j, d2.testBit j = true ↔ (done.testBit j = true ∨ j = i)) → ∀ x ∈ r, x.1 < ops.size ∧ l[x.1]? = some x.2 ∧ d2.testBit x.1 = false := fun d2 hd2 x hx => by
      obtain ⟨a1, a2, a3⟩ := hr x (by simp [hx])
      refine ⟨a1, a2, ?_⟩
      cases hb : d2.testBit x.1 with
      | false => rfl
      | true =>
        rcases (hd2 x.1).1 hb with h | h
        · rw [a3] at h; simp at h
        · have := hpw.1 x hx; simp only at this; omega
    simp only [absorb] at h
    cases hw : (o.small && within o.preds done) with
    | false =>
      rw [hw] at h
      simp only [cond_false] at h
      obtain ⟨nm', q1, q2, q3, ⟨r', q4, q5, q6⟩, q7⟩ := ih done env s ((i, o) :: left) recs nm todo' done' env' s' recs' hI (fun x hx => hr x (by simp [hx])) hpw.2 h
      have hnd' : done'.testBit i = false := by
        cases hb : done'.testBit i with
        | false => rfl
        | true =>
          rcases q3 i hb with h | ⟨y, hy, hyi⟩
          · rw [hnd] at h; simp at h
          · have := hpw.1 y hy; simp only at this; omega
      refine ⟨nm', q1, q2, fun j hj => (q3 j hj).imp id fun ⟨y, hy, e⟩ => ⟨y, by simp [hy], e⟩, ⟨(i, o) :: r', by rw [q4]; simp, q5.cons_cons _, fun y hy => ?_⟩, fun y hy hsm hpre => ?_⟩
      · rcases List.mem_cons.1 hy with rfl | hy
        · simp [hnd']
        · rw [List.mem_cons]
          constructor
          · rintro (rfl | h)
            · exact hnd'
            · exact (q6 y hy).1 h
          · intro h; exact .inr ((q6 y hy).2 h)
      · rcases List.mem_cons.1 hy with rfl | hy
        · exfalso
          simp only at hsm hpre
          rw [hsm, Bool.true_and] at hw
          have : within o.preds done = true := within_of fun b hb => by
            have hb' := hpre b hb
            rcases q3 b hb' with h | ⟨y, hy, rfl⟩
            · exact h
            · have h1 := hpw.1 y hy
              have h2 := hs.below i y.1 hi (by unfold pr; rw [hgd]; exact hb)
              simp only at h1; omega
          rw [this] at hw; simp at hw
        · exact q7 y hy hsm hpre
    | true =>
      rw [hw] at h
      simp only [cond_true] at h
      simp only [Bool.and_eq_true] at hw
      have hsm : sm l i = true := by unfold sm; rw [hgd]; exact hw.1
      have hpre : ∀ b, (pr l i).testBit b = true → done.testBit b = true := fun b hb => within_bit hw.2 b (by unfold pr at hb; rwa [hgd] at hb)
      have hdn : dn l i = o.dst := by unfold dn; rw [hgd]
      have hbit : ∀ j, (Nat.lor done (2 ^ i)).testBit j = true ↔ (done.testBit j = true ∨ j = i) := fun j => by rw [lor_bit]; simp
      have fin : ∀ {v : V} {s1 : St} {recs1 : Recs}, (∀ x ∈ recs, x ∈ recs1) →
          ((guardEv (l.getD i default).guard env = some false ∧ v = .tup [] ∧ s1 = s) ∨ (guardEv (l.getD i default).guard env = some true ∧
            ((∃ so, (l.getD i default).op = .s so ∧ evS env s so = some v ∧ (i, so, env, v) ∈ recs1 ∧ s1 = s) ∨ (∃ mo ob f, (l.getD i default).op = .m mo ∧ evM env mo = some (ob, f) ∧ s1 = s.alloc ob ∧ v = f s.next)))) →
          absorb r (Nat.lor done (2 ^ i)) (putD o.dst v env) s1 left recs1 = some (todo', done', env', s', recs') →
          ∃ nm', Inv P w0 n ops l E0 ρ0 s0 wS dfr listed a w ρ done' env' s' recs' nm' ∧ (∀ i, done.testBit i = true → done'.testBit i = true) ∧ (∀ j, done'.testBit j = true → done.testBit j = true ∨ ∃ x ∈ (i, o) :: r, x.1 = j) ∧
            (∃ r', todo' = left.reverse ++ r' ∧ r'.Sublist ((i, o) :: r) ∧ (∀ x ∈ (i, o) :: r, x ∈ r' ↔ done'.testBit x.1 = false)) ∧
            (∀ x ∈ (i, o) :: r, x.2.small = true → (∀ b, x.2.preds.testBit b = true → done'.testBit b = true) → done'.testBit x.1 = true) := fun {v s1 recs1} hrecs hcase habs => by
        obtain ⟨nm1, hI1⟩ := take_small hs hI hi hnd hsm hpre hrecs hcase
        rw [hdn] at hI1
        obtain ⟨nm', q1, q2, q3, ⟨r', q4, q5, q6⟩, q7⟩ := ih _ _ s1 left recs1 nm1 todo' done' env' s' recs' hI1 (hrest _ hbit) hpw.2 habs
        have hid : done'.testBit i = true := q2 i ((hbit i).2 (.inr rfl))
        refine ⟨nm', q1, fun j hj => q2 j ((hbit j).2 (.inl hj)), fun j hj => ?_, ⟨r', q4, q5.cons _, fun y hy => ?_⟩, fun y hy hsmy hprey => ?_⟩
        · rcases q3 j hj with h | ⟨y, hy, e⟩
          · rcases (hbit j).1 h with h | rfl
            · exact .inl h
            · exact .inr ⟨_, List.mem_cons_self, rfl⟩
          · exact .inr ⟨y, by simp [hy], e⟩
        · rcases List.mem_cons.1 hy with rfl | hy
          · constructor
            · intro hmem
              have h1 := hpw.1 _ (q5.subset hmem)
              simp at h1
            · intro hf; simp only at hf; rw [hid] at hf; simp at hf
          · exact q6 y hy
        · rcases List.mem_cons.1 hy with rfl | hy
          · exact hid
          · exact q7 y hy hsmy hprey
      cases hg : guardEv o.guard env with
      | none => rw [hg] at h; simp at h
      | some b =>
        rw [hg] at h
        cases b with
        | false => exact fin (fun x hx => hx) (.inl ⟨by rw [hgd]; exact hg, rfl, rfl⟩) h
        | true =>
          simp only at h
          cases hop : o.op with
          | s so =>
            rw [hop] at h
            simp only at h
            cases hv : evS env s so with
            | none => rw [hv] at h; simp at h
            | some v =>
              rw [hv] at h
              exact fin (fun x hx => by simp [hx]) (.inr ⟨by rw [hgd]; exact hg, .inl ⟨so, by rw [hgd]; exact hop, hv, by simp, rfl⟩⟩) h
          | m mo =>
            rw [hop] at h
            simp only at h
            cases hv : evM env mo with
            | none => rw [hv] at h; simp at h
            | some obf =>
              obtain ⟨ob, f⟩ := obf
              rw [hv] at h
              exact fin (fun x hx => hx) (.inr ⟨by rw [hgd]; exact hg, .inr ⟨mo, ob, f, by rw [hgd]; exact hop, hv, rfl, rfl⟩⟩) h
          | _ => rw [hop] at h; simp at h

theorem filter_lt {p p' : Nat → Bool} : ∀ (r : List Nat) {i : Nat}, (∀ j, p' j = true → p j = true) → i ∈ r → p i = true → p' i = false → (r.filter p').length < (r.filter p).length := by
  have le : ∀ (r : List Nat), (∀ j, p' j = true → p j = true) → (r.filter p').length ≤ (r.filter p).length := by
    intro r h
    induction r with
    | nil => simp
    | cons x r ih =>
      rw [List.filter_cons, List.filter_cons]
      cases hx : p' x with
      | true => rw [h x hx]; simp; exact ih
      | false => simp only [Bool.false_eq_true, if_false]; split <;> (try simp only [List.length_cons]) <;> omega
  intro r
  induction r with
  | nil => intro i _ h; simp at h
  | cons x r ih =>
    intro i h hi hp hp'
    rw [List.filter_cons, List.filter_cons]
    rcases List.mem_cons.1 hi with rfl | hi
    · rw [hp, hp']; simp; have := le r h; omega
    · have := ih h hi hp hp'
      cases hx : p' x with
      | true => rw [h x hx]; simp; exact this
      | false => simp only [Bool.false_eq_true, if_false]; split <;> (try simp only [List.length_cons]) <;> omega

theorem getD_put {a : Act} {dst : Option Nat} {x : Value} {t : Nat} : ((a.put dst x).tmps.getD t undef) = if dst = some t ∧ t < a.tmps.size then x else a.tmps.getD t undef := by
  cases dst with
  | none => rw [if_neg (fun h => nomatch h.1)]; rfl
  | some d =>
    simp only [Act.put, Array.getD_eq_getD_getElem?, Array.getElem?_setIfInBounds, Option.some.injEq]
    by_cases h : d = t
    · subst h
      by_cases hlt : d < a.tmps.size
      · simp [hlt]
      · simp [hlt]
    · simp [h]

theorem size_put (a : Act) (dst : Option Nat) (x : Value) : (a.put dst x).tmps.size = a.tmps.size := by cases dst <;> simp [Act.put]

theorem list_bit {listed : Array Bool} {i j : Nat} (hsz : i < listed.size) : (listed.setIfInBounds i true).getD j false = (listed.getD j false || decide (j = i)) := by
  by_cases h : i = j
  · subst h
    simp [Array.getD_eq_getD_getElem?, Array.getElem?_setIfInBounds_self_of_lt hsz]
  · have h' : ¬ j = i := fun hh => h hh.symm
    simp [Array.getD_eq_getD_getElem?, Array.getElem?_setIfInBounds_ne h, h']

/-- What has been taken comes. -/
theorem list_small (hs : Stat P n ops l) {listed : Array Bool} {a : Act} {w : World} {ρ : Ren} {done : Nat} {env : PT V} {s : St} {recs : Recs} {nm : Nat → Option Nat} (hI : Inv P w0 n ops l E0 ρ0 s0 wS dfr listed a w ρ done env s recs nm)
    {i : Nat} (hi : i < ops.size) (hd : done.testBit i = true) (hpre : ∀ b, (pr l i).testBit b = true → listed.getD b false = true) {x : Value} {w' : World} {ρ' : Ren} (hρ : ρ.le ρ') (hR : Rel w0 ρ' s w') (hS : Stp ρ0 s0 wS ρ' s w')
    (hx : ∀ t, dn l i = some t → ∀ v, env.get t = some v → VRel w0 ρ' v x) (hnm : ∀ j c, j ≠ i → nm j = some c → ρ c = none → ρ' c = none) :
    Inv P w0 n ops l E0 ρ0 s0 wS dfr (listed.setIfInBounds i true) (a.put (dn l i) x) w' ρ' done env s recs nm := by
  have hlsz : i < listed.size := by rw [hI.size]; exact hi
  have hL : ∀ j, (listed.setIfInBounds i true).getD j false = true ↔ (listed.getD j false = true ∨ j = i) := fun j => by rw [list_bit hlsz]; simp
  have hLf : ∀ j, (listed.setIfInBounds i true).getD j false = false → listed.getD j false = false ∧ j ≠ i := fun j h => by rw [list_bit hlsz] at h; simpa using h
  have hdlt : ∀ t, dn l i = some t → t < a.tmps.size := fun t ht => by
    obtain ⟨o, ho⟩ : ∃ o, ops[i]? = some o := ⟨ops[i], Array.getElem?_eq_getElem hi⟩
    obtain ⟨co, c1, c2, _, _, c5⟩ := hs.op i o ho
    unfold dn at ht; rw [getD_of c1, c2] at ht
    exact Nat.lt_of_lt_of_le (c5 t ht) hI.tsz
  refine ⟨by simpa using hI.size, hR, hS, by rw [size_put]; exact hI.tsz, by rw [put_defers]; exact hI.dfr, hI.closed, fun j hj => ?_, fun j hj hsj => (hL j).2 (.inl (hI.big j hj hsj)), fun j hj b hb => ?_, hI.envs, fun t ht v hv => ?_, fun t ht v hv => ?_, fun j hj hlj => ?_, hI.nml, hI.nmd⟩
  · rcases (hL j).1 hj with h | rfl
    · exact hI.sub j h
    · exact hd
  · rcases (hL j).1 hj with h | rfl
    · exact (hL b).2 (.inl (hI.lcl j h b hb))
    · exact (hL b).2 (.inl (hpre b hb))
  · rw [getD_put]
    by_cases hdt : dn l i = some t
    · rw [if_pos ⟨hdt, hdlt t hdt⟩]; exact hx t hdt v hv
    · rw [if_neg (fun h => hdt h.1)]
      refine (hI.tm t (fun j hj hlj => ?_) v hv).mono hρ
      by_cases hji : j = i
      · subst hji; exact hdt
      · exact ht j hj (by rw [list_bit hlsz, hlj]; simp [hji])
  · have hdt : dn l i ≠ some t := ht i ((hL i).2 (.inr rfl))
    rw [getD_put, if_neg (fun h => hdt h.1)]
    exact (hI.tm0 t (fun j hj => ht j ((hL j).2 (.inl hj))) v hv).mono hρ
  · obtain ⟨h1, h2⟩ := hLf j hlj
    obtain ⟨o, env1, e1, e2, e3⟩ := hI.pend j hj h1
    refine ⟨o, env1, e1, e2, ?_⟩
    rcases e3 with e3 | ⟨g1, e3 | ⟨mo, ob, f, c, q1, q2, q3, q4, q5, q6, q7⟩⟩
    · exact .inl e3
    · exact .inr ⟨g1, .inl e3⟩
    · exact .inr ⟨g1, .inr ⟨mo, ob, f, c, q1, q2, q3, q4, hnm j c h2 q3 q5, q6, q7⟩⟩

/-- What is not small comes, on both sides at once. -/
theorem list_big (hs : Stat P n ops l) {listed : Array Bool} {a : Act} {w : World} {ρ : Ren} {done : Nat} {env : PT V} {s : St} {recs recs' : Recs} {nm : Nat → Option Nat} (hI : Inv P w0 n ops l E0 ρ0 s0 wS dfr listed a w ρ done env s recs nm)
    {i : Nat} (hi : i < ops.size) (hnd : done.testBit i = false) (hpre : ∀ b, (pr l i).testBit b = true → listed.getD b false = true) {v : V} {x : Value} {s' : St} {w' : World} {ρ' : Ren} (hR : Rel w0 ρ' s' w') (hS : Stp ρ s w ρ' s' w')
    (hx : VRel w0 ρ' v x) (hrec : ∀ y ∈ recs, (pr l i).testBit y.1 = false → evS y.2.2.1 s y.2.1 = some y.2.2.2 → y ∈ recs' ∧ evS y.2.2.1 s' y.2.1 = some y.2.2.2) :
    Inv P w0 n ops l E0 ρ0 s0 wS dfr (listed.setIfInBounds i true) (a.put (dn l i) x) w' ρ' (Nat.lor done (2 ^ i)) (putD (dn l i) v env) s' recs' nm := by
  have hlsz : i < listed.size := by rw [hI.size]; exact hi
  have hL : ∀ j, (listed.setIfInBounds i true).getD j false = true ↔ (listed.getD j false = true ∨ j = i) := fun j => by rw [list_bit hlsz]; simp
  have hLf : ∀ j, (listed.setIfInBounds i true).getD j false = false → listed.getD j false = false ∧ j ≠ i := fun j h => by rw [list_bit hlsz] at h; simpa using h
  have hbit : ∀ j, (Nat.lor done (2 ^ i)).testBit j = true ↔ (done.testBit j = true ∨ j = i) := fun j => by rw [lor_bit]; simp
  have hdlt : ∀ t, dn l i = some t → t < a.tmps.size := fun t ht => by
    obtain ⟨o, ho⟩ : ∃ o, ops[i]? = some o := ⟨ops[i], Array.getElem?_eq_getElem hi⟩
    obtain ⟨co, c1, c2, _, _, c5⟩ := hs.op i o ho
    unfold dn at ht; rw [getD_of c1, c2] at ht
    exact Nat.lt_of_lt_of_le (c5 t ht) hI.tsz
  have hne : ∀ j, done.testBit j = true → j ≠ i := fun j hj h => by subst h; rw [hnd] at hj; simp at hj
  have huniq : ∀ j t, done.testBit j = true → dn l j = some t → dn l i ≠ some t := fun j t hj ht => hs.uniq i j t hi (hI.closed j hj).1 (fun h => hne j hj h.symm) ht
  refine ⟨by simpa using hI.size, hR, hI.stp.trans hS, by rw [size_put]; exact hI.tsz, by rw [put_defers]; exact hI.dfr, fun j hj => ?_, fun j hj => ?_, fun j hj hsj => ?_, fun j hj b hb => ?_, fun t ht => ?_, fun t ht u hu => ?_, fun t ht u hu => ?_, fun j hj hlj => ?_, fun j c hc => Nat.lt_of_lt_of_le (hI.nml j c hc) hS.next, hI.nmd⟩
  · rcases (hbit j).1 hj with h | rfl
    · exact ⟨(hI.closed j h).1, fun b hb => (hbit b).2 (.inl ((hI.closed j h).2 b hb))⟩
    · exact ⟨hi, fun b hb => (hbit b).2 (.inl (hI.sub b (hpre b hb)))⟩
  · rcases (hL j).1 hj with h | rfl
    · exact (hbit j).2 (.inl (hI.sub j h))
    · exact (hbit j).2 (.inr rfl)
  · rcases (hbit j).1 hj with h | rfl
    · exact (hL j).2 (.inl (hI.big j h hsj))
    · exact (hL j).2 (.inr rfl)
  · rcases (hL j).1 hj with h | rfl
    · exact (hL b).2 (.inl (hI.lcl j h b hb))
    · exact (hL b).2 (.inl (hpre b hb))
  · rw [get_putD, if_neg (ht i ((hbit i).2 (.inr rfl)))]
    exact hI.envs t fun j hj => ht j ((hbit j).2 (.inl hj))
  · rw [get_putD] at hu
    rw [getD_put]
    by_cases hdt : dn l i = some t
    · rw [if_pos hdt] at hu
      simp only [Option.some.injEq] at hu; subst hu
      rw [if_pos ⟨hdt, hdlt t hdt⟩]; exact hx
    · rw [if_neg hdt] at hu
      rw [if_neg (fun h => hdt h.1)]
      refine (hI.tm t (fun j hj hlj => ?_) u hu).mono hS.ren
      exact ht j ((hbit j).2 (.inl hj)) (by rw [list_bit hlsz, hlj]; simp [hne j hj])
  · have hdt : dn l i ≠ some t := ht i ((hL i).2 (.inr rfl))
    rw [getD_put, if_neg (fun h => hdt h.1)]
    exact (hI.tm0 t (fun j hj => ht j ((hL j).2 (.inl hj))) u hu).mono hS.ren
  · obtain ⟨h1, h2⟩ := hLf j hlj
    have hdj : done.testBit j = true := ((hbit j).1 hj).resolve_right h2
    obtain ⟨o, env1, e1, e2, e3⟩ := hI.pend j hdj h1
    have hpj : (pr l i).testBit j = false := by
      cases hb : (pr l i).testBit j with
      | false => rfl
      | true => have := hpre j hb; rw [h1] at this; simp at this
    have hdst : ∀ t, dn l j = some t → ∀ u, env.get t = some u → (putD (dn l i) v env).get t = some u := fun t ht u hu => by
      rw [get_putD, if_neg (huniq j t hdj ht)]; exact hu
    refine ⟨o, env1, e1, fun t ht => ⟨fun j' hj' hdj' => ?_, (e2 t ht).2⟩, ?_⟩
    · have hd' := (hI.closed j hdj).2 j' hj'
      rw [get_putD, if_neg (huniq j' t hd' hdj')]; exact (e2 t ht).1 j' hj' hdj'
    · rcases e3 with ⟨g1, g2⟩ | ⟨g1, ⟨so, u, q1, q2, q3, q4⟩ | ⟨mo, ob, f, c, q1, q2, q3, q4, q5, q6, q7⟩⟩
      · exact .inl ⟨g1, fun t ht => hdst t ht _ (g2 t ht)⟩
      · obtain ⟨r1, r2⟩ := hrec _ q3 hpj q2
        exact .inr ⟨g1, .inl ⟨so, u, q1, r2, r1, fun t ht => hdst t ht _ (q4 t ht)⟩⟩
      · have hc := hI.nml j c q3
        refine .inr ⟨g1, .inr ⟨mo, ob, f, c, q1, q2, q3, q4, ?_, by rw [hS.sk c hc q5]; exact q6, fun t ht => hdst t ht _ (q7 t ht)⟩⟩
        cases hρc : ρ' c with
        | none => rfl
        | some y => have := hS.new c y q5 hρc; omega

theorem view_small (hs : Stat P n ops l) {listed : Array Bool} {a : Act} {w : World} {ρ : Ren} {done : Nat} {env : PT V} {s : St} {recs : Recs} {nm : Nat → Option Nat} (hI : Inv P w0 n ops l E0 ρ0 s0 wS dfr listed a w ρ done env s recs nm)
    {i : Nat} {o : Oper} {env1 : PT V} (ho : ops[i]? = some o) (hul : listed.getD i false = false) (hpre : ∀ b, (pr l i).testBit b = true → listed.getD b false = true)
    (he : ∀ t ∈ tmpsIn o ops.toList, (∀ j, (pr l i).testBit j = true → dn l j = some t → env1.get t = env.get t) ∧ ((∀ j, (pr l i).testBit j = true → dn l j ≠ some t) → env1.get t = E0.get t)) :
    ∀ t ∈ tmpsIn o ops.toList, ∀ v, env1.get t = some v → VRel w0 ρ v (a.tmps.getD t undef) := by
  intro t ht v hv
  by_cases hx : ∃ j, (pr l i).testBit j = true ∧ dn l j = some t
  · obtain ⟨j, hj, hdj⟩ := hx
    rw [(he t ht).1 j hj hdj] at hv
    have hlj := hpre j hj
    refine hI.tm t (fun j' hj' hlj' => ?_) v hv
    exact hs.uniq j' j t (hI.closed j' hj').1 (hI.closed j (hI.sub j hlj)).1 (fun h => by subst h; rw [hlj] at hlj'; simp at hlj') hdj
  · have hx' : ∀ j, (pr l i).testBit j = true → dn l j ≠ some t := fun j hj hdj => hx ⟨j, hj, hdj⟩
    rw [(he t ht).2 hx'] at hv
    refine hI.tm0 t (fun j hj hdj => ?_) v hv
    have hji : i ≠ j := fun h => by subst h; rw [hul] at hj; simp at hj
    rcases hs.reads i j o t ho (hI.closed j (hI.sub j hj)).1 hji hdj ht with h1 | h1
    · exact hx' j h1 hdj
    · have := hI.lcl j hj i h1; rw [hul] at this; simp at this

theorem view_big (hs : Stat P n ops l) {listed : Array Bool} {a : Act} {w : World} {ρ : Ren} {done : Nat} {env : PT V} {s : St} {recs : Recs} {nm : Nat → Option Nat} (hI : Inv P w0 n ops l E0 ρ0 s0 wS dfr listed a w ρ done env s recs nm)
    {i : Nat} {o : Oper} (ho : ops[i]? = some o) (hnd : done.testBit i = false) (hpre : ∀ b, (pr l i).testBit b = true → listed.getD b false = true) :
    ∀ t ∈ tmpsIn o ops.toList, ∀ v, env.get t = some v → VRel w0 ρ v (a.tmps.getD t undef) := by
  intro t ht v hv
  refine hI.tm t (fun j hj hlj hdj => ?_) v hv
  have hji : i ≠ j := fun h => by subst h; rw [hnd] at hj; simp at hj
  rcases hs.reads i j o t ho (hI.closed j hj).1 hji hdj ht with h1 | h1
  · have := hpre j h1; rw [hlj] at this; simp at this
  · have := (hI.closed j hj).2 i h1; rw [hnd] at this; simp at this

theorem finish_sound {k : PT V → St → Prop} {Q : Exit → Act → World → Prop}
    (hk : ∀ env' s' ρ' a' w', k env' s' → Rel w0 ρ' s' w' → Stp ρ0 s0 wS ρ' s' w' → ERel w0 ρ' n env' a' → a'.defers = dfr → Q .normal a' w')
    {listed : Array Bool} {a : Act} {w : World} {ρ : Ren} {m : Nat} {todo : List (Nat × COper)} {done : Nat} {env : PT V} {s : St} {recs : Recs} {nm : Nat → Option Nat}
    (hI : Inv P w0 n ops l E0 ρ0 s0 wS dfr listed a w ρ done env s recs nm) (ht1 : ∀ x ∈ todo, x.1 < ops.size ∧ l[x.1]? = some x.2 ∧ done.testBit x.1 = false) (hmain : mainD M F m todo done env s recs k)
    (hall : ∀ i, i < ops.size → listed.getD i false = true) : Q .normal a w := by
  have htodo : todo = [] := by
    cases todo with
    | nil => rfl
    | cons x r =>
      obtain ⟨h1, _, h3⟩ := ht1 x (by simp)
      have := hI.sub x.1 (hall x.1 h1)
      rw [h3] at this; simp at this
  subst htodo
  have hkk : k env s := hmain
  refine hk env s ρ a w hkk hI.rel hI.stp ⟨hI.tsz, fun t v hv => hI.tm t (fun i hd hl => ?_) v hv⟩ hI.dfr
  have := hall i (hI.closed i hd).1
  rw [hl] at this; simp at this

theorem ready_all (hs : Stat P n ops l) {listed : Array Bool} (hsz : listed.size = ops.size) (h : Region.ready .any ops listed = []) : ∀ i, i < ops.size → listed.getD i false = true := by
  intro i
  induction i using Nat.strongRecOn with
  | _ i ih =>
    intro hi
    cases hl : listed.getD i false with
    | true => rfl
    | false =>
      exfalso
      obtain ⟨o, ho⟩ : ∃ o, ops[i]? = some o := ⟨ops[i], Array.getElem?_eq_getElem hi⟩
      have : i ∈ Region.ready .any ops listed := mem_ready.2 ⟨by
        simp only [Array.getD_eq_getD_getElem?, Array.getElem?_eq_getElem (show i < listed.size by omega)] at hl ⊢
        exact hl, o, ho, fun e he hb => ih e.on (hs.lt i o ho e (by simpa using he) hb) (by have := hs.lt i o ho e (by simpa using he) hb; omega)⟩
      rw [h] at this; simp at this

theorem any_sound (hs : Stat P n ops l) (hM : MSound P M) (hF : FSound P w0 F) {k : PT V → St → Prop} {Q : Exit → Act → World → Prop}
    (hk : ∀ env' s' ρ' a' w', k env' s' → Rel w0 ρ' s' w' → Stp ρ0 s0 wS ρ' s' w' → ERel w0 ρ' n env' a' → a'.defers = dfr → Q .normal a' w') :
    ∀ (fuel : Nat) (listed : Array Bool) (a : Act) (w : World) (ρ : Ren) (m : Nat) (todo : List (Nat × COper)) (done : Nat) (env : PT V) (s : St) (recs : Recs) (nm : Nat → Option Nat),
      Inv P w0 n ops l E0 ρ0 s0 wS dfr listed a w ρ done env s recs nm → (∀ x ∈ todo, x.1 < ops.size ∧ l[x.1]? = some x.2 ∧ done.testBit x.1 = false) → (∀ i, i < ops.size → done.testBit i = false → ∃ o, (i, o) ∈ todo) →
      todo.Pairwise (fun x y => x.1 < y.1) → (∀ i, i < ops.size → sm l i = true → (∀ b, (pr l i).testBit b = true → done.testBit b = true) → done.testBit i = true) →
      mainD M F m todo done env s recs k → ((List.range ops.size).filter fun i => !listed.getD i false).length ≤ fuel → wpAny P .any ops Q fuel listed a w := by
  intro fuel
  induction fuel with
  | zero =>
    intro listed a w ρ m todo done env s recs nm hI ht1 ht2 ht3 hasap hmain hfuel
    have hall : ∀ i, i < ops.size → listed.getD i false = true := fun i hi => by
      cases h : listed.getD i false with
      | true => rfl
      | false =>
        have : i ∈ (List.range ops.size).filter fun i => !listed.getD i false := List.mem_filter.2 ⟨List.mem_range.2 hi, by simp only [h]; rfl⟩
        have h0 : (List.range ops.size).filter (fun i => !listed.getD i false) = [] := List.eq_nil_of_length_eq_zero (by omega)
        rw [h0] at this; simp at this
    refine ⟨?_, finish_sound hk hI ht1 hmain hall⟩
    cases hr : Region.ready .any ops listed with
    | nil => rfl
    | cons i r =>
      exfalso
      have hmem : i ∈ Region.ready .any ops listed := by rw [hr]; simp
      obtain ⟨h1, o, h2, _⟩ := mem_ready.1 hmem
      have hi : i < ops.size := (Array.getElem?_eq_some_iff.1 h2).1
      have hl := hall i hi
      simp only [Array.getD_eq_getD_getElem?, Array.getElem?_eq_getElem (show i < listed.size by rw [hI.size]; exact hi), Option.getD_some] at hl h1
      rw [h1] at hl; simp at hl
  | succ fuel ih =>
    intro listed a w ρ m todo done env s recs nm hI ht1 ht2 ht3 hasap hmain hfuel
    refine ⟨fun hr => finish_sound hk hI ht1 hmain (ready_all hs hI.size hr), fun i hmem => ?_⟩
    obtain ⟨h1, o, ho, hedges⟩ := mem_ready.1 hmem
    have hi : i < ops.size := (Array.getElem?_eq_some_iff.1 ho).1
    have hlsz : i < listed.size := by rw [hI.size]; exact hi
    have hul : listed.getD i false = false := by
      simp only [Array.getD_eq_getD_getElem?, Array.getElem?_eq_getElem hlsz] at h1 ⊢
      exact h1
    have hpre : ∀ b, (pr l i).testBit b = true → listed.getD b false = true := fun b hb => by
      obtain ⟨ed, e1, e2, e3⟩ := hs.pred i o ho b hb
      have hl := hedges ed (by simpa using e1) e2
      rcases e3 with rfl | e3
      · exact hl
      · exact hI.lcl ed.on hl b e3
    have hcount : ((List.range ops.size).filter fun j => !(listed.setIfInBounds i true).getD j false).length ≤ fuel := by
      have := filter_lt (p := fun j => !listed.getD j false) (p' := fun j => !(listed.setIfInBounds i true).getD j false) (List.range ops.size) (i := i) (fun j hj => by
        rw [list_bit hlsz] at hj
        cases hb : listed.getD j false with
        | false => rfl
        | true => rw [hb] at hj; simp at hj) (List.mem_range.2 hi) (by simp only [hul]; rfl) (by rw [list_bit hlsz]; simp)
      omega
    obtain ⟨co, c1, c2, c3, c4, c5⟩ := hs.op i o ho
    have hgd : l.getD i default = co := getD_of c1
    have hdn : dn l i = o.dst := by unfold dn; rw [hgd, c2]
    unfold wpOp
    rw [ho]
    simp only []
    -- what comes behind
    cases hsmall : sm l i with
    | true =>
      have hd : done.testBit i = true := hasap i hi hsmall fun b hb => hI.sub b (hpre b hb)
      have next : ∀ {x : Value} {w' : World} {ρ' : Ren}, ρ.le ρ' → Rel w0 ρ' s w' → Stp ρ0 s0 wS ρ' s w' → (∀ t, dn l i = some t → ∀ v, env.get t = some v → VRel w0 ρ' v x) → (∀ j c, j ≠ i → nm j = some c → ρ c = none → ρ' c = none) →
          wpAny P .any ops Q fuel (listed.setIfInBounds i true) (a.put o.dst x) w' := fun {x w' ρ'} q1 q2 q3 q4 q5 => by
        have := list_small hs hI hi hd hpre q1 q2 q3 q4 q5
        rw [hdn] at this
        exact ih _ _ _ _ m todo done env s recs nm this ht1 ht2 ht3 hasap hmain hcount
      obtain ⟨o', env1, e1, e2, e3⟩ := hI.pend i hd hul
      rw [ho] at e1; cases e1
      have hview := view_small hs hI ho hul hpre e2
      rw [hgd] at e3
      rcases e3 with ⟨g1, g2⟩ | ⟨g1, ⟨so, v, q1, q2, q3, q4⟩ | ⟨mo, ob, f, c, q1, q2, q3, q4, q5, q6, q7⟩⟩
      · have hw := guards_of (tmps := a.tmps) c4 g1 hview
        rw [if_neg (by rw [hw]; simp)]
        refine next (Ren.le_refl _) hI.rel hI.stp (fun t ht v hv => ?_) fun j c _ _ h => h
        rw [g2 t ht] at hv
        simp only [Option.some.injEq] at hv; subst hv; exact undef_rel
      · have hw := guards_of (tmps := a.tmps) c4 g1 hview
        rw [if_pos hw]
        left
        obtain ⟨x, x1, x2⟩ := evS_sound (P := P) (by rw [← c3]; exact q1) q2 hI.rel (opds_of (o := o) hview)
        unfold Oper.wp
        rw [x1]
        refine next (Ren.le_refl _) hI.rel hI.stp (fun t ht u hu => ?_) fun j c _ _ h => h
        rw [q4 t ht] at hu
        simp only [Option.some.injEq] at hu; subst hu; exact x2
      · have hw := guards_of (tmps := a.tmps) c4 g1 hview
        rw [if_pos hw]
        left
        obtain ⟨obj, lim, w', x, x1, x2, x3, x4, x5, x6⟩ := evM_sound (P := P) (w0 := w0) (ρ := ρ) (by rw [← c3]; exact q1) q2 (opds_of (o := o) hview) w
        unfold Oper.wp
        rw [x1]
        have hcn := hI.nml i c q3
        have hreal := hI.rel.realize hcn q5 q6 x5
        have hle := Ren.le_add (ρ := ρ) (n := c) (w.heap.size, 0, lim) q5
        have hwh : w'.heap = (w.alloc obj).heap := x2
        refine next hle (hreal.same hwh x3 x4) ⟨hI.stp.next, Ren.le_trans hI.stp.ren hle, fun m y hm hy => ?_, ?_, hI.stp.sk, fun r hr hx => ?_⟩ (fun t ht u hu => ?_) fun j c' hj hc' hn => ?_
        · unfold Ren.add at hy
          by_cases hmc : m = c
          · rw [hmc]; exact q4
          · rw [if_neg hmc] at hy; exact hI.stp.new m y hm hy
        · rw [hwh]; have := hI.stp.wsize; simp; omega
        · obtain ⟨y1, y2⟩ := hI.stp.wk r hr hx
          have hrw : r < w.heap.size := Nat.lt_of_lt_of_le hr hI.stp.wsize
          obtain ⟨z1, z2⟩ := wk_alloc (ρ := ρ) (n := c) (obj := obj) (lim := lim) r hrw y2
          rw [hwh]; exact ⟨z1.trans y1, z2⟩
        · rw [q7 t ht] at hu
          simp only [Option.some.injEq] at hu; subst hu
          exact x6 _ _ hle (Ren.add_same _ _ _)
        · unfold Ren.add
          rw [if_neg (fun h => hj (hI.nmd j i c' hc' (by rw [h]; exact q3)))]; exact hn
    | false =>
      have hnd : done.testBit i = false := by
        cases h : done.testBit i with
        | false => rfl
        | true => have := hI.big i h hsmall; rw [hul] at this; simp at this
      obtain ⟨p, hp⟩ := ht2 i hi hnd
      have hpo : p = co := by have := (ht1 _ hp).2.1; simp only at this; rw [c1] at this; exact (Option.some.inj this).symm
      subst hpo
      have hpsm : p.small = false := by unfold sm at hsmall; rwa [hgd] at hsmall
      unfold mainD at hmain
      cases hsp : splitBig [] todo with
      | none => have := splitBig_none _ _ hsp _ hp; simp only at this; rw [hpsm] at this; simp at this
      | some x =>
        obtain ⟨i0, o0, rest⟩ := x
        rw [hsp] at hmain
        simp only at hmain
        obtain ⟨bf, af, hb1, hb2, hb3⟩ := splitBig_some _ _ hsp
        simp only [List.reverse_nil, List.nil_append] at hb2
        cases hcnd : (within o0.preds done && rest.all (fun x => x.2.small || Nat.testBit x.2.preds i0)) with
        | false => rw [hcnd] at hmain; exact hmain.elim
        | true =>
          rw [hcnd] at hmain
          simp only [cond_true] at hmain
          simp only [Bool.and_eq_true] at hcnd
          have hi0 : (i0, o0) ∈ todo := by rw [hb1]; simp
          have hii : i0 = i := by
            rcases Decidable.em (i0 = i) with h | h
            · exact h
            · exfalso
              have hmem : (i, p) ∈ rest := by
                rw [hb2]
                rw [hb1] at hp
                rcases List.mem_append.1 hp with hp | hp
                · exact List.mem_append.2 (.inl hp)
                · rcases List.mem_cons.1 hp with hp | hp
                  · cases hp; exact absurd rfl h
                  · exact List.mem_append.2 (.inr hp)
              have hall := List.all_eq_true.1 hcnd.2 _ hmem
              simp only [hpsm, Bool.false_or] at hall
              have hl0 := hpre i0 (by unfold pr; rw [hgd]; exact hall)
              have := hI.sub i0 hl0
              rw [(ht1 _ hi0).2.2] at this; simp at this
          subst hii
          have hop : o0 = p := by have := (ht1 _ hi0).2.1; simp only at this; rw [c1] at this; exact (Option.some.inj this).symm
          subst hop
          have hview := view_big hs hI ho hnd hpre
          have hbit : ∀ j, (Nat.lor done (2 ^ i0)).testBit j = true ↔ (done.testBit j = true ∨ j = i0) := fun j => by rw [lor_bit]; simp
          have hrest1 : ∀ x ∈ rest, x ∈ todo ∧ x.1 ≠ i0 := fun x hx => by
            rw [hb2] at hx
            rw [hb1] at ht3 ⊢
            have hpw := List.pairwise_append.1 ht3
            rcases List.mem_append.1 hx with hx | hx
            · have := hpw.2.2 x hx (i0, o0) (by simp)
              simp only at this
              exact ⟨List.mem_append.2 (.inl hx), by omega⟩
            · have := (List.pairwise_cons.1 hpw.2.1).1 x hx
              simp only at this
              exact ⟨List.mem_append.2 (.inr (by simp [hx])), by omega⟩
          have hsub : rest.Sublist todo := by
            rw [hb1, hb2]; exact List.Sublist.append (List.Sublist.refl _) (List.sublist_cons_self _ _)
          -- what comes behind
          have next : ∀ {v : V} {x : Value} {s' : St} {w' : World} {ρ' : Ren} {recs' : Recs}, Rel w0 ρ' s' w' → Stp ρ s w ρ' s' w' → VRel w0 ρ' v x → (∀ y ∈ recs, (pr l i0).testBit y.1 = false → evS y.2.2.1 s y.2.1 = some y.2.2.2 → y ∈ recs' ∧ evS y.2.2.1 s' y.2.1 = some y.2.2.2) →
              evDraw M F m rest (Nat.lor done (2 ^ i0)) (putD o0.dst v env) s' recs' k → wpAny P .any ops Q fuel (listed.setIfInBounds i0 true) (a.put o.dst x) w' := fun {v x s' w' ρ' recs'} q1 q2 q3 q4 q5 => by
            have hI' := list_big hs hI hi hnd hpre q1 q2 q3 q4
            have hdn0 : dn l i0 = o0.dst := by unfold dn; rw [hgd]
            rw [hdn0, c2] at hI'
            rw [c2] at q5
            obtain ⟨m', todo2, done2, env2, s2, recs2, _, hab, hmain2⟩ := evDraw_succ q5
            obtain ⟨nm2, z1, z2, z3, ⟨r', z4, z5, z6⟩, z7⟩ := absorb_sound hs rest _ _ _ [] _ nm _ _ _ _ _ hI' (fun x hx => by
              obtain ⟨y1, y2⟩ := hrest1 x hx
              obtain ⟨y3, y4, y5⟩ := ht1 x y1
              refine ⟨y3, y4, ?_⟩
              cases hb : (Nat.lor done (2 ^ i0)).testBit x.1 with
              | false => rfl
              | true =>
                rcases (hbit x.1).1 hb with h | h
                · rw [y5] at h; simp at h
                · exact absurd h y2) (ht3.sublist hsub) hab
            simp only [List.reverse_nil, List.nil_append] at z4
            subst z4
            have hin : ∀ j, j < ops.size → done2.testBit j = false → ∃ p, (j, p) ∈ rest ∧ l[j]? = some p := fun j hj hdj => by
              have hdj0 : done.testBit j = false := by
                cases h : done.testBit j with
                | false => rfl
                | true => have := z2 j ((hbit j).2 (.inl h)); rw [hdj] at this; simp at this
              have hji : j ≠ i0 := fun h => by
                have := z2 j ((hbit j).2 (.inr h)); rw [hdj] at this; simp at this
              obtain ⟨p, hp⟩ := ht2 j hj hdj0
              refine ⟨p, ?_, (ht1 _ hp).2.1⟩
              rw [hb1] at hp; rw [hb2]
              rcases List.mem_append.1 hp with hp | hp
              · exact List.mem_append.2 (.inl hp)
              · rcases List.mem_cons.1 hp with hp | hp
                · cases hp; exact absurd rfl hji
                · exact List.mem_append.2 (.inr hp)
            refine ih _ _ _ _ m' todo2 done2 env2 s2 recs2 nm2 z1 (fun x hx => ?_) (fun j hj hdj => ?_) ((ht3.sublist hsub).sublist z5) (fun j hj hsj hprej => ?_) hmain2 hcount
            · have hxr := z5.subset hx
              obtain ⟨y1, y2⟩ := hrest1 x hxr
              obtain ⟨y3, y4, y5⟩ := ht1 x y1
              exact ⟨y3, y4, (z6 x hxr).1 hx⟩
            · obtain ⟨p, hp1, hp2⟩ := hin j hj hdj
              exact ⟨p, (z6 _ hp1).2 hdj⟩
            · cases hdj : done2.testBit j with
              | true => rfl
              | false =>
                obtain ⟨p, hp1, hp2⟩ := hin j hj hdj
                have hpd : l.getD j default = p := getD_of hp2
                have := z7 _ hp1 (by unfold sm at hsj; rw [hpd] at hsj; exact hsj) (fun b hb => hprej b (by unfold pr; rw [hpd]; exact hb))
                simp only at this; rw [hdj] at this; simp at this
          cases hg : guardEv o0.guard env with
          | none => rw [hg] at hmain; exact hmain.elim
          | some bb =>
            rw [hg] at hmain
            have hw := guards_of (tmps := a.tmps) c4 hg hview
            cases bb with
            | true =>
              rw [if_pos hw]
              left
              simp only at hmain
              rw [c3] at hmain
              refine op_sound hM hF hmain hI.rel (opds_of (o := o) hview) fun v s' ρ' x w' q1 q2 q3 q4 => ?_
              obtain ⟨r1, r2⟩ := recheck_inv _ q1
              refine next q2 q3 q4 (fun y hy hpy _ => ?_) r1
              have hpy' : o0.preds.testBit y.1 = false := by unfold pr at hpy; rwa [hgd] at hpy
              exact ⟨List.mem_filter.2 ⟨hy, by simp [hpy']⟩, r2 y hy hpy'⟩
            | false =>
              rw [if_neg (by rw [hw]; simp)]
              simp only at hmain
              exact next hI.rel (.refl _ _ _) undef_rel (fun y hy _ hev => ⟨hy, hev⟩) hmain

theorem numbered_get : ∀ (l : List COper) (i : Nat), (∀ x ∈ numbered l i, i ≤ x.1 ∧ l[x.1 - i]? = some x.2) ∧ (numbered l i).Pairwise (fun x y => x.1 < y.1) ∧ ∀ j, j < l.length → ∃ o, (i + j, o) ∈ numbered l i := by
  intro l
  induction l with
  | nil => intro i; exact ⟨fun x h => by simp [numbered] at h, .nil, fun j h => by simp at h⟩
  | cons o l ih =>
    intro i
    obtain ⟨h1, h2, h3⟩ := ih (i + 1)
    refine ⟨fun x hx => ?_, List.pairwise_cons.2 ⟨fun x hx => by have := (h1 x hx).1; simp only; omega, h2⟩, fun j hj => ?_⟩
    · rcases List.mem_cons.1 hx with rfl | hx
      · exact ⟨Nat.le_refl _, by simp⟩
      · obtain ⟨a1, a2⟩ := h1 x hx
        exact ⟨by omega, by rw [show x.1 - i = (x.1 - (i + 1)) + 1 from by omega]; simpa using a2⟩
    · cases j with
      | zero => exact ⟨o, by simp [numbered]⟩
      | succ j =>
        obtain ⟨p, hp⟩ := h3 j (by simpa using hj)
        exact ⟨p, by simp only [numbered]; rw [show i + (j + 1) = i + 1 + j from by omega]; exact List.mem_cons_of_mem _ hp⟩

theorem draw_sound (hM : MSound P M) (hF : FSound P w0 F) (hD : P.follows .mixedOrders = true) {n id : Nat} {ops : Array Oper} {l : List COper} {k : PT V → St → Prop} {Q : Exit → Act → World → Prop} {env : PT V} {s : St} {a : Act} {w : World} {ρ : Ren}
    (hc : cops P n ops.toList ops.toList [] = some l) (hd : drawOk ops.toList l = true) (he : evDraw M F (l.length + 1) (numbered l 0) 0 env s [] k) (hR : Rel w0 ρ s w) (hE : ERel w0 ρ n env a)
    (hk : ∀ env' s' ρ' a' w', k env' s' → Rel w0 ρ' s' w' → Stp ρ s w ρ' s' w' → ERel w0 ρ' n env' a' → a'.defers = a.defers → Q .normal a' w') : (Code.region id ops true).wp P Q a w := by
  have hs := Stat.of hc hd
  refine wp_region_any hD ?_
  have hR' : Rel w0 ρ s { w with drawn := w.drawn + 1 } := hR.same rfl rfl rfl
  obtain ⟨n1, n2, n3⟩ := numbered_get l 0
  have hget : ∀ i, (Array.replicate ops.size false).getD i false = false := fun i => by
    simp only [Array.getD_eq_getD_getElem?, Array.getElem?_replicate]; split <;> rfl
  have hI : Inv P w0 n ops l env ρ s w a.defers (Array.replicate ops.size false) a { w with drawn := w.drawn + 1 } ρ 0 env s [] (fun _ => none) :=
    ⟨by simp, hR', Stp.same rfl, hE.1, rfl, fun i h => by simp at h, fun i h => by rw [hget] at h; simp at h, fun i h => by simp at h, fun i h => by rw [hget] at h; simp at h, fun _ _ => rfl, fun t _ v hv => hE.2 t v hv, fun t _ v hv => hE.2 t v hv,
      fun i h => by simp at h, fun i c h => by simp at h, fun i j c h => by simp at h⟩
  obtain ⟨m', todo2, done2, env2, s2, recs2, _, hab, hmain2⟩ := evDraw_succ he
  have hr1 : ∀ x ∈ numbered l 0, x.1 < ops.size ∧ l[x.1]? = some x.2 ∧ (0 : Nat).testBit x.1 = false := fun x hx => by
    obtain ⟨_, h2⟩ := n1 x hx
    simp only [Nat.sub_zero] at h2
    exact ⟨by rw [← hs.len]; exact (List.getElem?_eq_some_iff.1 h2).1, h2, by simp⟩
  obtain ⟨nm2, z1, z2, z3, ⟨r', z4, z5, z6⟩, z7⟩ := absorb_sound hs (numbered l 0) _ _ _ [] _ _ _ _ _ _ _ hI hr1 n2 hab
  simp only [List.reverse_nil, List.nil_append] at z4
  subst z4
  have hin : ∀ j, j < ops.size → ∃ p, (j, p) ∈ numbered l 0 ∧ l[j]? = some p := fun j hj => by
    obtain ⟨p, hp⟩ := n3 j (by rw [hs.len]; exact hj)
    rw [Nat.zero_add] at hp
    exact ⟨p, hp, (hr1 _ hp).2.1⟩
  refine any_sound hs hM hF hk ops.size _ a _ ρ m' todo2 done2 env2 s2 recs2 nm2 z1 (fun x hx => ?_) (fun j hj hdj => ?_) (n2.sublist z5) (fun j hj hsj hprej => ?_) hmain2 ?_
  · have hxr := z5.subset hx
    obtain ⟨y1, y2, _⟩ := hr1 x hxr
    exact ⟨y1, y2, (z6 x hxr).1 hx⟩
  · obtain ⟨p, hp1, hp2⟩ := hin j hj
    exact ⟨p, (z6 _ hp1).2 hdj⟩
  · cases hdj : done2.testBit j with
    | true => rfl
    | false =>
      obtain ⟨p, hp1, hp2⟩ := hin j hj
      have hpd : l.getD j default = p := getD_of hp2
      have := z7 _ hp1 (by unfold sm at hsj; rw [hpd] at hsj; exact hsj) (fun b hb => hprej b (by unfold pr; rw [hpd]; exact hb))
      simp only at this; rw [hdj] at this; simp at this
  · exact Nat.le_trans (List.length_filter_le _ _) (by simp)
end
end Go.RE
