/- The evaluator's answers grow with what follows and with the fuel; a loop by its invariant. -/
import Derived.Test.YtnepmmjhhcdniaaRe12
namespace Go.RE

/-- What a call is, at some fuel, as the code's own text has it. -/
def callP (C : Nat → Option CFunc) (M : Nat → String → Option Nat) (n f : Nat) (args : List V) (s : St) (k : V → St → Prop) : Prop := evF C M n f args s k

def FLe (F F' : Nat → List V → St → (V → St → Prop) → Prop) : Prop :=
  ∀ f args s (k k' : V → St → Prop), (∀ v s, k v s → k' v s) → F f args s k → F' f args s k'

variable {M : Nat → String → Option Nat} {F F' : Nat → List V → St → (V → St → Prop) → Prop}

theorem evOp_mono (hF : FLe F F') {env : PT V} {s : St} {o : COp} {k k' : V → St → Prop} (hk : ∀ v s, k v s → k' v s) (h : evOp M F env s o k) : evOp M F' env s o k' := by
  cases o with
  | s o => simp only [evOp] at h ⊢; split at h <;> simp_all [Ans.fail]
  | m o => simp only [evOp] at h ⊢; split at h <;> simp_all [Ans.fail]
  | h o => simp only [evOp] at h ⊢; split at h <;> simp_all [Ans.fail]
  | call f args =>
    simp only [evOp] at h ⊢
    split at h
    · rename_i e1 e2; exact hF _ _ _ _ _ hk h
    · exact h.elim
  | invoke name x args =>
    simp only [evOp] at h ⊢
    split at h
    · rename_i e1 e2
      split at h
      · rename_i e3; exact hF _ _ _ _ _ hk h
      · exact h.elim
    · exact h.elim
  | next x => exact h
  | bad => exact h

theorem evSeq_mono (hF : FLe F F') : ∀ {ops : List COper} {env : PT V} {s : St} {k k' : PT V → St → Prop}, (∀ env s, k env s → k' env s) → evSeq M F ops env s k → evSeq M F' ops env s k' := by
  intro ops
  induction ops with
  | nil => intro env s k k' hk h; exact hk _ _ h
  | cons o r ih =>
    intro env s k k' hk h
    simp only [evSeq] at h ⊢
    split at h
    · exact evOp_mono hF (fun v s h => ih hk h) h
    · exact ih hk h
    · exact h.elim

theorem recheck_mono {s : St} {p : Nat} : ∀ {recs : Recs} {a b : Prop}, (a → b) → recheck s p recs a → recheck s p recs b := by
  intro recs
  induction recs with
  | nil => intro a b hab h; exact hab h
  | cons x r ih =>
    intro a b hab h
    obtain ⟨i, op, env, v⟩ := x
    simp only [recheck] at h ⊢
    cases hb : Nat.testBit p i with
    | true => rw [hb] at h; exact ih hab h
    | false =>
      rw [hb] at h
      simp only [cond_false] at h ⊢
      split at h
      · exact ⟨h.1, ih hab h.2⟩
      · exact h.elim

theorem evDraw_mono (hF : FLe F F') : ∀ {n : Nat} {todo : List (Nat × COper)} {done : Nat} {env : PT V} {s : St} {recs : Recs} {k k' : PT V → St → Prop}, (∀ env s, k env s → k' env s) →
    evDraw M F n todo done env s recs k → evDraw M F' n todo done env s recs k' := by
  intro n
  induction n with
  | zero => intro _ _ _ _ _ _ _ _ h; exact h.elim
  | succ n ih =>
    intro todo done env s recs k k' hk h
    simp only [evDraw] at h ⊢
    split at h
    · exact h.elim
    · split at h
      · split at h
        · exact hk _ _ h
        · exact h.elim
      · rename_i i o rest _
        generalize (within o.preds _ && rest.all _) = b at h ⊢
        cases b with
        | false => exact h.elim
        | true =>
          simp only [cond_true] at h ⊢
          split at h
          · exact evOp_mono hF (fun v s h => recheck_mono (fun h => ih hk h) h) h
          · exact ih hk h
          · exact h.elim

variable {C : Nat → Option CFunc}

theorem evC_mono : ∀ {n m : Nat}, n ≤ m → ∀ {c : CCode} {env : PT V} {s : St} {k k' : Ex → PT V → St → Prop}, (∀ e env s, k e env s → k' e env s) → evC C M n c env s k → evC C M m c env s k' := by
  intro n
  induction n with
  | zero => intro m _ c env s k k' _ h; exact h.elim
  | succ n ih =>
    intro m hm c env s k k' hk h
    obtain ⟨m, rfl⟩ : ∃ m', m = m' + 1 := ⟨m - 1, by omega⟩
    have hm : n ≤ m := by omega
    have hF : FLe (fun f args s k => match C f with
      | none => Ans.fail
      | some fn =>
        bif Nat.ble args.length fn.ntmps then
          evC C M n fn.body (initEnv args 0 .e) s fun e env s => match e with
            | .exit _ => Ans.fail
            | _ => (match resAll env s fn.results with | some v => k v s | none => Ans.fail)
        else Ans.fail) (fun f args s k => match C f with
      | none => Ans.fail
      | some fn =>
        bif Nat.ble args.length fn.ntmps then
          evC C M m fn.body (initEnv args 0 .e) s fun e env s => match e with
            | .exit _ => Ans.fail
            | _ => (match resAll env s fn.results with | some v => k v s | none => Ans.fail)
        else Ans.fail) := by
      intro f args s k k' hk h
      split at h
      · exact h.elim
      · generalize Nat.ble _ _ = b at h ⊢
        cases b with
        | false => exact h.elim
        | true =>
          refine ih hm (fun e env s h => ?_) h
          split at h
          · exact h.elim
          · split at h
            · exact hk _ _ h
            · exact h.elim
    cases c with
    | skip => exact hk _ _ _ h
    | region ops => exact evSeq_mono hF (fun env s h => hk _ _ _ h) h
    | draw ops => exact evDraw_mono hF (fun env s h => hk _ _ _ h) h
    | seq a b =>
      refine ih hm (fun e env s h => ?_) h
      split at h
      · exact ih hm hk h
      · exact hk _ _ _ h
      · exact hk _ _ _ h
    | cond x a b =>
      simp only [evC] at h ⊢
      split at h
      · exact ih hm hk h
      · exact ih hm hk h
      · exact h.elim
    | block id b =>
      refine ih hm (fun e env s h => ?_) h
      split at h
      · exact hk _ _ _ h
      · generalize Nat.beq _ _ = b at h ⊢
        cases b with
        | false => exact hk _ _ _ h
        | true => exact hk _ _ _ h
      · exact hk _ _ _ h
    | loop b =>
      refine ih hm (fun e env s h => ?_) h
      split at h
      · exact ih hm hk h
      · exact hk _ _ _ h
      · exact hk _ _ _ h
    | exit i => exact hk _ _ _ h
    | ret => exact hk _ _ _ h
    | bad => exact h.elim

theorem evF_mono {n m : Nat} (hnm : n ≤ m) {f : Nat} {args : List V} {s : St} {k k' : V → St → Prop} (hk : ∀ v s, k v s → k' v s) (h : evF C M n f args s k) : evF C M m f args s k' := by
  unfold evF at h ⊢
  split at h
  · exact h.elim
  · generalize Nat.ble _ _ = b at h ⊢
    cases b with
    | false => exact h.elim
    | true =>
      refine evC_mono hnm (fun e env s h => ?_) h
      split at h
      · exact h.elim
      · split at h
        · exact hk _ _ h
        · exact h.elim

/- The steps, one by one. -/
theorem evC_skip {n : Nat} {env : PT V} {s : St} {k : Ex → PT V → St → Prop} : evC C M (n + 1) .skip env s k = k .normal env s := rfl
theorem evC_ret {n : Nat} {env : PT V} {s : St} {k : Ex → PT V → St → Prop} : evC C M (n + 1) .ret env s k = k .ret env s := rfl
theorem evC_exit {n i : Nat} {env : PT V} {s : St} {k : Ex → PT V → St → Prop} : evC C M (n + 1) (.exit i) env s k = k (.exit i) env s := rfl
theorem evC_region {n : Nat} {ops : List COper} {env : PT V} {s : St} {k : Ex → PT V → St → Prop} :
    evC C M (n + 1) (.region ops) env s k = evSeq M (callP C M n) ops env s fun env s => k .normal env s := rfl
theorem evC_draw {n : Nat} {ops : List COper} {env : PT V} {s : St} {k : Ex → PT V → St → Prop} :
    evC C M (n + 1) (.draw ops) env s k = evDraw M (callP C M n) (ops.length + 1) (numbered ops 0) 0 env s [] fun env s => k .normal env s := rfl
/-- What comes behind the first of two. -/
def kSeq (C : Nat → Option CFunc) (M : Nat → String → Option Nat) (n : Nat) (b : CCode) (k : Ex → PT V → St → Prop) : Ex → PT V → St → Prop := fun e env s => match e with
  | .normal => evC C M n b env s k
  | .exit i => k (.exit i) env s
  | .ret => k .ret env s
def kBlock (id : Nat) (k : Ex → PT V → St → Prop) : Ex → PT V → St → Prop := fun e env s => match e with
  | .normal => k .normal env s
  | .exit i => bif Nat.beq i id then k .normal env s else k (.exit i) env s
  | .ret => k .ret env s
def kFn (fn : CFunc) (k : V → St → Prop) : Ex → PT V → St → Prop := fun e env s => match e with
  | .exit _ => False
  | _ => (match resAll env s fn.results with | some v => k v s | none => False)
theorem evC_seq {n : Nat} {a b : CCode} {env : PT V} {s : St} {k : Ex → PT V → St → Prop} : evC C M (n + 1) (.seq a b) env s k = evC C M n a env s (kSeq C M n b k) := rfl
theorem evC_block {n id : Nat} {b : CCode} {env : PT V} {s : St} {k : Ex → PT V → St → Prop} : evC C M (n + 1) (.block id b) env s k = evC C M n b env s (kBlock id k) := rfl
theorem evC_cond {n : Nat} {x : Opd} {a b : CCode} {env : PT V} {s : St} {k : Ex → PT V → St → Prop} {t : Bool} (h : x.ev env = some (.bool t)) :
    evC C M (n + 1) (.cond x a b) env s k = (if t = true then evC C M n a env s k else evC C M n b env s k) := by
  simp only [evC, h]; cases t <;> simp
@[simp] theorem kSeq_normal {n : Nat} {b : CCode} {k : Ex → PT V → St → Prop} {env : PT V} {s : St} : kSeq C M n b k .normal env s = evC C M n b env s k := rfl
@[simp] theorem kSeq_exit {n i : Nat} {b : CCode} {k : Ex → PT V → St → Prop} {env : PT V} {s : St} : kSeq C M n b k (.exit i) env s = k (.exit i) env s := rfl
@[simp] theorem kSeq_ret {n : Nat} {b : CCode} {k : Ex → PT V → St → Prop} {env : PT V} {s : St} : kSeq C M n b k .ret env s = k .ret env s := rfl
@[simp] theorem kBlock_normal {id : Nat} {k : Ex → PT V → St → Prop} {env : PT V} {s : St} : kBlock id k .normal env s = k .normal env s := rfl
@[simp] theorem kBlock_ret {id : Nat} {k : Ex → PT V → St → Prop} {env : PT V} {s : St} : kBlock id k .ret env s = k .ret env s := rfl
@[simp] theorem kBlock_exit {id i : Nat} {k : Ex → PT V → St → Prop} {env : PT V} {s : St} : kBlock id k (.exit i) env s = (if i = id then k .normal env s else k (.exit i) env s) := by
  show (bif Nat.beq i id then k .normal env s else k (.exit i) env s) = _
  by_cases h : i = id
  · subst h; simp [Nat.beq_refl]
  · rw [if_neg h]
    have : Nat.beq i id = false := by
      cases hb : Nat.beq i id with
      | false => rfl
      | true => exact absurd (Nat.eq_of_beq_eq_true hb) h
    rw [this]; rfl
theorem kFn_normal {fn : CFunc} {k : V → St → Prop} {env : PT V} {s : St} : kFn fn k .normal env s = (match resAll env s fn.results with | some v => k v s | none => False) := rfl
theorem kFn_ret {fn : CFunc} {k : V → St → Prop} {env : PT V} {s : St} : kFn fn k .ret env s = (match resAll env s fn.results with | some v => k v s | none => False) := rfl
theorem callP_eq {n f : Nat} {fn : CFunc} (hf : C f = some fn) {args : List V} (ha : args.length ≤ fn.ntmps) {s : St} {k : V → St → Prop} :
    callP C M n f args s k = evC C M n fn.body (initEnv args 0 .e) s (kFn fn k) := by
  unfold callP evF
  rw [hf]
  have hb : Nat.ble args.length fn.ntmps = true := Nat.ble_eq_true_of_le ha
  simp only [hb, cond_true]
  rfl

theorem callP_mono {n m : Nat} (hnm : n ≤ m) {f : Nat} {args : List V} {s : St} {k k' : V → St → Prop} (hk : ∀ v s, k v s → k' v s) (h : callP C M n f args s k) : callP C M m f args s k' := evF_mono hnm hk h

/-- A loop, by what holds at its head. The fuel of a round is N. -/
theorem loop_rule (Inv : Nat → PT V → St → Prop) (N : Nat) {b : CCode} {k : Ex → PT V → St → Prop}
    (hb : ∀ j env s, Inv j env s → evC C M N b env s (fun e env s => match e with
      | .normal => ∃ j', j' < j ∧ Inv j' env s
      | .exit i => k (.exit i) env s
      | .ret => k .ret env s)) :
    ∀ (j : Nat) {n : Nat}, N + j < n → ∀ {env : PT V} {s : St}, Inv j env s → evC C M n (.loop b) env s k := by
  intro j
  induction j using Nat.strongRecOn with
  | _ j ih =>
    intro n hn env s hI
    obtain ⟨n, rfl⟩ : ∃ n', n = n' + 1 := ⟨n - 1, by omega⟩
    show evC C M n b env s _
    refine evC_mono (by omega) (fun e env s h => ?_) (hb j env s hI)
    cases e with
    | normal =>
      obtain ⟨j', hj, hI'⟩ := h
      exact ih j' hj (by omega) hI'
    | exit i => exact h
    | ret => exact h

/-- Memory that has but grown. -/
structure Grew (s s' : St) : Prop where
  next : s.next ≤ s'.next
  old : ∀ n, n < s.next → s'.get n = s.get n
theorem Grew.refl (s : St) : Grew s s := ⟨Nat.le_refl _, fun _ _ => rfl⟩
theorem Grew.trans {a b c : St} (h : Grew a b) (k : Grew b c) : Grew a c := ⟨Nat.le_trans h.next k.next, fun n hn => (k.old n (Nat.lt_of_lt_of_le hn h.next)).trans (h.old n hn)⟩
@[simp] theorem St.next_alloc (s : St) (o : Ob) : (s.alloc o).next = s.next + 1 := rfl
@[simp] theorem St.next_put (s : St) (m : Nat) (o : Ob) : (s.put m o).next = s.next := rfl
theorem Grew.alloc (s : St) (o : Ob) : Grew s (s.alloc o) := ⟨by simp, fun n hn => by rw [St.get_alloc, if_neg (by omega)]⟩
theorem Grew.put {s s' : St} (h : Grew s s') {m : Nat} (hm : s.next ≤ m) (o : Ob) : Grew s (s'.put m o) :=
  ⟨h.next, fun n hn => by rw [St.get_put, if_neg (by omega)]; exact h.old n hn⟩
end Go.RE
