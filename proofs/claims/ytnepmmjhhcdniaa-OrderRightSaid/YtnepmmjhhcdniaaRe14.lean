/- Regions whose order is open, by a schedule that is fixed ahead of the walk. -/
import Derived.Test.YtnepmmjhhcdniaaRe13
namespace Go.RE
set_option linter.unusedSimpArgs false
set_option linter.unusedVariables false

inductive Step where
  | small (i : Nat) (o : COper)
  | big (i : Nat) (o : COper)
deriving Inhabited

/-- Which small operations are taken now, in order; what is left. -/
def sAbsorb : List (Nat × COper) → Nat → List (Nat × COper) → List Step → List (Nat × COper) × Nat × List Step
  | [], done, left, acc => (left.reverse, done, acc)
  | (i, o) :: r, done, left, acc =>
    bif o.small && within o.preds done then sAbsorb r (Nat.lor done (2 ^ i)) left (.small i o :: acc)
    else sAbsorb r done ((i, o) :: left) acc

/-- The whole schedule. -/
def sched : Nat → List (Nat × COper) → Nat → Option (List Step)
  | 0, _, _ => none
  | n + 1, todo, done =>
    let (todo, done, taken) := sAbsorb todo done [] []
    match splitBig [] todo with
    | none => (match todo with | [] => some taken.reverse | _ => none)
    | some (i, o, rest) =>
      bif within o.preds done && rest.all (fun x => x.2.small || Nat.testBit x.2.preds i) then
        (match sched n rest (Nat.lor done (2 ^ i)) with
        | some r => some (taken.reverse ++ .big i o :: r)
        | none => none)
      else none

/-- Whether what it says may turn with memory. -/
def SOp.impure : SOp → Bool
  | .load .. => true
  | .toStr .. => true
  | .lookup .. => true
  | .len 2 _ => true
  | .sliceArr .. => true
  | _ => false

theorem evS_pure {env : PT V} {s s' : St} : ∀ {o : SOp}, o.impure = false → evS env s o = evS env s' o
  | .mov _, _ => rfl
  | .pick .., _ => rfl
  | .load .., h => by simp [SOp.impure] at h
  | .nilCheck _, _ => rfl
  | .bin .., _ => rfl
  | .un .., _ => rfl
  | .convInt .., _ => rfl
  | .convId .., _ => rfl
  | .toStr .., h => by simp [SOp.impure] at h
  | .mkIface .., _ => rfl
  | .mkFunc .., _ => rfl
  | .build .., _ => rfl
  | .sliceStr .., _ => rfl
  | .slice .., _ => rfl
  | .sliceArr .., h => by simp [SOp.impure] at h
  | .fieldAddr .., _ => rfl
  | .field .., _ => rfl
  | .indexAddr .., _ => rfl
  | .indexArr .., _ => rfl
  | .index .., _ => rfl
  | .lookup .., h => by simp [SOp.impure] at h
  | .extract .., _ => rfl
  | .len k x, h => by
    have hk : k ≠ 2 := by rintro rfl; simp [SOp.impure] at h
    simp only [evS]
    cases x.ev env with
    | none => rfl
    | some v =>
      have : lenK s k v = lenK s' k v := by
        cases v <;> simp only [lenK]
        have : Nat.beq k 2 = false := by
          cases hb : Nat.beq k 2 with
          | false => rfl
          | true => exact absurd (Nat.eq_of_beq_eq_true hb) hk
        simp only [this, cond_false]
      simp only [this]
  | .cap .., _ => rfl
  | .max .., _ => rfl
  | .min .., _ => rfl
  | .assertTo .., _ => rfl

section
variable (M : Nat → String → Option Nat) (F : Nat → List V → St → (V → St → Prop) → Prop)

/-- A schedule's walk. -/
def evSt : List Step → PT V → St → Recs → (PT V → St → Prop) → Prop
  | [], env, s, _, k => k env s
  | .small i o :: r, env, s, recs, k =>
    match guardEv o.guard env with
    | some true => (match o.op with
      | .s op => (match evS env s op with
        | some v => evSt r (putD o.dst v env) s (bif op.impure then (i, op, env, v) :: recs else recs) k
        | none => False)
      | .m op => (match evM env op with
        | some (ob, f) => evSt r (putD o.dst (f s.next) env) (s.alloc ob) recs k
        | none => False)
      | _ => False)
    | some false => evSt r (putD o.dst (.tup []) env) s recs k
    | none => False
  | .big i o :: r, env, s, recs, k =>
    match guardEv o.guard env with
    | some true => evOp M F env s o.op fun v s' => recheck s' o.preds recs (evSt r (putD o.dst v env) s' (keepRecs o.preds recs) k)
    | some false => evSt r (putD o.dst (.tup []) env) s recs k
    | none => False
end

/-- The few records against the many. -/
def RecsLe (few many : Recs) : Prop := few = many.filter (fun x => x.2.1.impure) ∧ ∀ x ∈ many, x.2.1.impure = false → ∀ s, evS x.2.2.1 s x.2.1 = some x.2.2.2

theorem RecsLe.nil : RecsLe [] [] := ⟨rfl, fun x h => by simp at h⟩
theorem RecsLe.cons {few many : Recs} (h : RecsLe few many) {i : Nat} {op : SOp} {env : PT V} {v : V} {s : St} (hv : evS env s op = some v) :
    RecsLe (bif op.impure then (i, op, env, v) :: few else few) ((i, op, env, v) :: many) := by
  obtain ⟨h1, h2⟩ := h
  subst h1
  refine ⟨?_, ?_⟩
  · cases hi : op.impure <;> simp [hi]
  · intro x hx hp s'
    rcases List.mem_cons.1 hx with rfl | hx
    · exact (evS_pure hp).trans hv
    · exact h2 x hx hp s'
theorem RecsLe.keep {few many : Recs} (h : RecsLe few many) (p : Nat) : RecsLe (keepRecs p few) (keepRecs p many) := by
  obtain ⟨h1, h2⟩ := h
  subst h1
  refine ⟨?_, ?_⟩
  · simp only [keepRecs, List.filter_filter]
    congr 1
    funext x
    exact Bool.and_comm _ _
  · intro x hx hp s'
    exact h2 x (List.mem_filter.1 hx).1 hp s'

theorem RecsLe.recheck {s : St} {p : Nat} {r : Prop} : ∀ {many few : Recs}, RecsLe few many → RE.recheck s p few r → RE.recheck s p many r := by
  intro many
  induction many with
  | nil => intro few h hr; obtain ⟨rfl, _⟩ := h; exact hr
  | cons x many ih =>
    intro few h hr
    obtain ⟨i, op, env, v⟩ := x
    obtain ⟨rfl, h2⟩ := h
    have hle : RecsLe (many.filter fun x => x.2.1.impure) many := ⟨rfl, fun x hx => h2 x (List.mem_cons_of_mem _ hx)⟩
    cases hi : op.impure with
    | false =>
      rw [List.filter_cons_of_neg (by simp [hi])] at hr
      simp only [RE.recheck]
      cases hb : Nat.testBit p i with
      | true => exact ih hle hr
      | false =>
        simp only [cond_false]
        rw [h2 _ List.mem_cons_self hi s]
        exact ⟨rfl, ih hle hr⟩
    | true =>
      rw [List.filter_cons_of_pos (by simp [hi])] at hr
      simp only [RE.recheck] at hr ⊢
      cases hb : Nat.testBit p i with
      | true => rw [hb] at hr; exact ih hle hr
      | false =>
        rw [hb] at hr
        simp only [cond_false] at hr ⊢
        split at hr
        · exact ⟨hr.1, ih hle hr.2⟩
        · exact hr.elim

variable {M : Nat → String → Option Nat} {F : Nat → List V → St → (V → St → Prop) → Prop}

theorem sAbsorb_acc : ∀ (l : List (Nat × COper)) (done : Nat) (left : List (Nat × COper)) (acc : List Step),
    sAbsorb l done left acc = ((sAbsorb l done left []).1, (sAbsorb l done left []).2.1, (sAbsorb l done left []).2.2 ++ acc) := by
  intro l
  induction l with
  | nil => intro done left acc; simp [sAbsorb]
  | cons x r ih =>
    intro done left acc
    obtain ⟨i, o⟩ := x
    simp only [sAbsorb]
    cases (o.small && within o.preds done) with
    | false => simp only [cond_false]; exact ih _ _ _
    | true =>
      simp only [cond_true]
      rw [ih _ _ (.small i o :: acc), ih _ _ [.small i o]]
      simp

theorem evSt_absorb : ∀ (l : List (Nat × COper)) (done : Nat) (left : List (Nat × COper)) (env : PT V) (s : St) (few many : Recs) (rest : List Step) (k : PT V → St → Prop), RecsLe few many →
    evSt M F ((sAbsorb l done left []).2.2.reverse ++ rest) env s few k →
    ∃ env' s' few' many', absorb l done env s left many = some ((sAbsorb l done left []).1, (sAbsorb l done left []).2.1, env', s', many') ∧ RecsLe few' many' ∧ evSt M F rest env' s' few' k := by
  intro l
  induction l with
  | nil => intro done left env s few many rest k hle h; exact ⟨env, s, few, many, rfl, hle, h⟩
  | cons x r ih =>
    intro done left env s few many rest k hle h
    obtain ⟨i, o⟩ := x
    simp only [sAbsorb, absorb] at h ⊢
    cases hb : (o.small && within o.preds done) with
    | false =>
      rw [hb] at h
      simp only [cond_false] at h ⊢
      exact ih _ _ _ _ _ _ _ _ hle h
    | true =>
      rw [hb] at h
      simp only [cond_true] at h ⊢
      rw [sAbsorb_acc] at h ⊢
      simp only [List.reverse_append, List.reverse_cons, List.reverse_nil, List.nil_append, List.cons_append, evSt] at h
      cases hg : guardEv o.guard env with
      | none => rw [hg] at h; exact h.elim
      | some b =>
        rw [hg] at h
        cases b with
        | false => exact ih _ _ _ _ _ _ _ _ hle h
        | true =>
          dsimp only at h ⊢
          cases ho : o.op with
          | s op =>
            rw [ho] at h
            dsimp only at h ⊢
            cases hv : evS env s op with
            | none => rw [hv] at h; exact h.elim
            | some v =>
              rw [hv] at h
              exact ih _ _ _ _ _ _ _ _ (hle.cons hv) h
          | m op =>
            rw [ho] at h
            dsimp only at h ⊢
            cases hv : evM env op with
            | none => rw [hv] at h; exact h.elim
            | some x =>
              obtain ⟨ob, f⟩ := x
              rw [hv] at h
              exact ih _ _ _ _ _ _ _ _ hle h
          | _ => rw [ho] at h; exact h.elim

theorem evSt_draw (hF : FLe F F) : ∀ (n : Nat) (todo : List (Nat × COper)) (done : Nat) (env : PT V) (s : St) (few many : Recs) (k : PT V → St → Prop) (steps : List Step), sched n todo done = some steps → RecsLe few many →
    evSt M F steps env s few k → evDraw M F n todo done env s many k := by
  intro n
  induction n with
  | zero => intro _ _ _ _ _ _ _ _ h; simp [sched] at h
  | succ n ih =>
    intro todo done env s few many k steps hs hle h
    simp only [sched] at hs
    simp only [evDraw]
    generalize hA : sAbsorb todo done [] [] = A at hs
    obtain ⟨todo', done', taken⟩ := A
    dsimp only at hs
    have key : ∀ rest, evSt M F (taken.reverse ++ rest) env s few k → ∃ env' s' few' many', absorb todo done env s [] many = some (todo', done', env', s', many') ∧ RecsLe few' many' ∧ evSt M F rest env' s' few' k := by
      intro rest hr
      have := evSt_absorb (M := M) (F := F) todo done [] env s few many rest k hle (by rw [hA]; exact hr)
      rw [hA] at this
      exact this
    cases hsp : splitBig [] todo' with
    | none =>
      rw [hsp] at hs
      cases todo' with
      | cons => simp at hs
      | nil =>
        simp only [Option.some.injEq] at hs
        subst hs
        obtain ⟨env', s', few', many', ha, hl, hr⟩ := key [] (by simpa using h)
        simp only [ha, hsp]
        exact hr
    | some x =>
      obtain ⟨i, o, rest⟩ := x
      rw [hsp] at hs
      dsimp only at hs
      generalize hc : (within o.preds done' && rest.all fun x => x.2.small || Nat.testBit x.2.preds i) = c at hs
      cases c with
      | false => simp at hs
      | true =>
        simp only [cond_true] at hs
        cases hr : sched n rest (Nat.lor done' (2 ^ i)) with
        | none => rw [hr] at hs; simp at hs
        | some r =>
          rw [hr] at hs
          simp only [Option.some.injEq] at hs
          subst hs
          obtain ⟨env', s', few', many', ha, hl, hr'⟩ := key _ h
          simp only [ha, hsp, hc, cond_true]
          simp only [evSt] at hr'
          cases hg : guardEv o.guard env' with
          | none => rw [hg] at hr'; exact hr'.elim
          | some b =>
            rw [hg] at hr'
            cases b with
            | false => exact ih _ _ _ _ _ _ _ _ hr hl hr'
            | true =>
              refine evOp_mono (F := F) (F' := F) hF (fun v s2 h2 => ?_) hr'
              exact RecsLe.recheck hl (recheck_mono (fun h3 => ih _ _ _ _ _ _ _ _ hr (hl.keep _) h3) h2)

theorem callP_le {C : Nat → Option CFunc} {n : Nat} : FLe (callP C M n) (callP C M n) := fun _ _ _ _ _ hk h => callP_mono (Nat.le_refl _) hk h

/-- A region whose order is open, by its schedule. -/
theorem evC_sched {C : Nat → Option CFunc} {n : Nat} {ops : List COper} {env : PT V} {s : St} {k : Ex → PT V → St → Prop} {steps : List Step}
    (hs : sched (ops.length + 1) (numbered ops 0) 0 = some steps) (h : evSt M (callP C M n) steps env s [] fun env s => k .normal env s) : evC C M (n + 1) (.draw ops) env s k := by
  rw [evC_draw]
  exact evSt_draw callP_le _ _ _ _ _ _ _ _ _ hs RecsLe.nil h
end Go.RE
