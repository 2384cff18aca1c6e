/- Regions in the order of their text. -/
import Derived.Test.YtnepmmjhhcdniaaRe10
namespace Go.RE
section
variable {P : Program} {w0 : World}

/-- The temporaries of the evaluator are those of the model. -/
def ERel (w0 : World) (ρ : Ren) (n : Nat) (env : PT V) (a : Act) : Prop := n ≤ a.tmps.size ∧ ∀ t v, env.get t = some v → VRel w0 ρ v (a.tmps.getD t undef)

theorem ERel.mono {ρ ρ' : Ren} {n : Nat} {env : PT V} {a : Act} (hρ : ρ.le ρ') (h : ERel w0 ρ n env a) : ERel w0 ρ' n env a := ⟨h.1, fun t v e => (h.2 t v e).mono hρ⟩

theorem ERel.opd {ρ : Ren} {n : Nat} {env : PT V} {a : Act} (h : ERel w0 ρ n env a) (x : Operand) : OpdOK w0 ρ env a.eval x := by
  intro o v ho hv
  cases x with
  | tmp t => simp only [RE.opd, Option.some.injEq] at ho; subst ho; exact h.2 t v hv
  | const c =>
    obtain ⟨y, rfl, hy⟩ := opd_const (w0 := w0) (ρ := ρ) ho
    simp only [Opd.ev, Option.some.injEq] at hv; subst hv; exact hy
  | global g => simp [RE.opd] at ho
  | func f =>
    simp only [RE.opd, Option.some.injEq] at ho; subst ho
    simp only [Opd.ev, Option.some.injEq] at hv; subst hv
    exact .func rfl rfl (fun i h => by simp at h) (fun i h => by simp at h)

theorem ERel.put {ρ : Ren} {n : Nat} {env : PT V} {a : Act} (h : ERel w0 ρ n env a) {dst : Option Nat} (hd : ∀ d, dst = some d → d < n) {v : V} {x : Value} (hv : VRel w0 ρ v x) : ERel w0 ρ n (putD dst v env) (a.put dst x) := by
  cases dst with
  | none => exact h
  | some d =>
    have hd' := hd d rfl
    refine ⟨by simpa [Act.put] using h.1, fun t u e => ?_⟩
    simp only [putD, PT.get_set] at e
    simp only [Act.put]
    by_cases ht : t = d
    · subst ht
      rw [if_pos rfl] at e; simp at e; subst e
      have : t < a.tmps.size := Nat.lt_of_lt_of_le hd' h.1
      simp [Array.getD_eq_getD_getElem?, Array.getElem?_setIfInBounds_self_of_lt this]; exact hv
    · rw [if_neg ht] at e
      have := h.2 t u e
      simp only [Array.getD_eq_getD_getElem?] at this ⊢
      rw [Array.getElem?_setIfInBounds_ne (fun h => ht h.symm)]; exact this

theorem put_defers (a : Act) (dst : Option Nat) (x : Value) : (a.put dst x).defers = a.defers := by cases dst <;> rfl

theorem undef_rel {ρ : Ren} : VRel w0 ρ (.tup []) undef := .tup rfl fun i h => by simp at h

theorem guard_sound {ρ : Ren} {env : PT V} {tmps : Array Value} {ops : Array Oper} {o : Oper} {g : Option (Nat × Bool)} {b : Bool} (hg : guardOf ops.toList o = some g) (hv : guardEv g env = some b)
    (hr : ∀ t v, g.map (·.1) = some t → env.get t = some v → VRel w0 ρ v (tmps.getD t undef)) : Region.wanted o (yielded ops tmps) = b := by
  unfold guardOf at hg
  split at hg
  · rename_i h
    simp only [Option.some.injEq] at hg; subst hg
    simp [guardEv] at hv; subst hv
    simp [Region.wanted, h]
  · rename_i j want h
    cases hj : ops.toList[j]? with
    | none => simp [hj] at hg
    | some p =>
      have hj' : ops[j]? = some p := by simpa using hj
      simp only [hj] at hg
      cases hd : p.dst with
      | none => simp [hd] at hg
      | some d =>
        simp only [hd, Option.some.injEq] at hg; subst hg
        simp only [guardEv] at hv
        cases he : env.get d with
        | none => simp [he] at hv
        | some v =>
          have hvr := hr d v rfl he
          have hy : yielded ops tmps j = match tmps[d]? with | some (.bool b) => some b | _ => none := by
            simp only [yielded, hj', Option.bind_some, hd]; rfl
          simp only [Region.wanted, h, hy]
          rw [Array.getD_eq_getD_getElem?] at hvr
          cases v with
          | bool q =>
            simp [he] at hv; subst hv
            have hb := hvr.bool_inv
            cases ht : tmps[d]? with
            | none => rw [ht] at hb; simp [undef] at hb
            | some y => rw [ht] at hb; simp at hb; subst hb; cases q <;> cases want <;> rfl
          | _ =>
            simp [he] at hv; subst hv
            cases ht : tmps[d]? with
            | none => rfl
            | some y =>
              rw [ht] at hvr
              simp only [Option.getD_some] at hvr
              cases hvr <;> rfl

/-- Calls do what the evaluator says. -/
def FSound (P : Program) (w0 : World) (F : Nat → List V → St → (V → St → Prop) → Prop) : Prop :=
  ∀ (f : Nat) (args : List V) (s : St) (k : V → St → Prop) (ρ : Ren) (w : World) (args' : List Value), F f args s k → Rel w0 ρ s w → LRel w0 ρ args args' →
    (∃ fn b, P.funcs[f]? = some fn ∧ fn.body = some b ∧ (fn.name == "runtime.NumGoroutine") = false) ∧
    Calls P f args'.toArray w fun e w' => ∃ v s' ρ' x, e = .returned x ∧ k v s' ∧ Rel w0 ρ' s' w' ∧ Stp ρ s w ρ' s' w' ∧ VRel w0 ρ' v x

theorem run_callFunc {f : Nat} {args : Array Value} (h : ∃ fn b, P.funcs[f]? = some fn ∧ fn.body = some b ∧ (fn.name == "runtime.NumGoroutine") = false) (w : World) : (callFunc f args).run P w = .ok (.enter f args) w := by
  obtain ⟨fn, b, h1, h2, h3⟩ := h
  simp only [callFunc, Sem.run_bind, run_program, Result.andThen_ok, h1]
  rw [if_neg (by rw [h3]; simp), if_neg (by simp [h2])]
  rfl

def MSound (P : Program) (M : Nat → String → Option Nat) : Prop := ∀ t name f, M t name = some f → methodOf P t name = some f

theorem run_method {t : Nat} {name : String} {f : Nat} (h : methodOf P t name = some f) (v : Value) (n : Nat) (w : World) : (method (n + 1) t v name).run P w = .ok (f, v) w := by
  unfold methodOf at h
  split at h <;> try (simp at h; done)
  rename_i i hi
  split at h <;> try (simp at h; done)
  rename_i m hm
  cases hp : m.path.isEmpty with
  | false => simp [hp] at h
  | true =>
    have hpe : m.path = #[] := by simpa using hp
    simp only [hp, cond_true] at h
    split at h <;> simp only [Option.some.injEq, reduceCtorEq] at h
    · subst h
      rename_i f' el hf hu
      simp [method, typeInfo, hi, hm, hpe, follow, hf, receiverAt, run_underlying hu, Place.get]
    · subst h
      rename_i f' d hn hf hu
      simp only [method, typeInfo, Sem.run_bind, run_program, Result.andThen_ok, hi, Sem.run_pure, hm, hpe, follow, hf, receiverAt, run_underlying hu]
      cases d <;> first | exact absurd hu (hn _ _ hf) | simp [Place.get]

theorem cands_sound {ρ : Ren} {es : List ME} {es' : Array MapEntry} (h : MRel w0 ρ es es'.toList) (since : Nat) (seen : List Nat) :
    let left := es'.filter fun e => !seen.toArray.contains e.born
    let old := left.filter (·.born < since)
    let new := left.filter (·.born ≥ since)
    let cands := (if old.isEmpty then #[none] else #[]) ++ (old ++ new).map some
    (mapCands es since seen).length = cands.size ∧ ∀ (i : Nat) c, (mapCands es since seen)[i]? = some c → ∃ c', cands[i]? = some c' ∧
      (match c, c' with | none, none => True | some m, some m' => VRel w0 ρ m.key m'.key ∧ VRel w0 ρ m.val m'.val ∧ m.born = m'.born | _, _ => False) := by
  have filt : ∀ {p : ME → Bool} {q : MapEntry → Bool} {a : List ME} {b : List MapEntry}, MRel w0 ρ a b → (∀ m m', m.born = m'.born → p m = q m') → MRel w0 ρ (a.filter p) (b.filter q) := by
    intro p q a
    induction a with
    | nil =>
      intro b h _
      have : b = [] := List.eq_nil_of_length_eq_zero h.1.symm
      subst this; exact ⟨rfl, fun i h => by simp at h⟩
    | cons m a ih =>
      intro b h hpq
      cases b with
      | nil => have := h.1; simp at this
      | cons m' b =>
        have hm := h.2 0 (by simp) (by simp)
        simp only [List.getElem_cons_zero] at hm
        have hrest : MRel w0 ρ a b := ⟨by simpa using h.1, fun i h1 h2 => h.2 (i + 1) (by simpa using h1) (by simpa using h2)⟩
        have hh := ih hrest hpq
        rw [List.filter_cons, List.filter_cons, hpq m m' hm.2.2]
        split
        · refine ⟨by simp [hh.1], fun i h1 h2 => ?_⟩
          cases i with
          | zero => simpa using hm
          | succ i => simpa using hh.2 i (by simpa using h1) (by simpa using h2)
        · exact hh
  intro left old new cands
  have hleft : MRel w0 ρ (es.filter fun e => !seen.contains e.born) left.toList := by
    simp only [left, Array.toList_filter]
    exact filt h fun m m' hb => by rw [hb]; simp
  have hold : MRel w0 ρ ((es.filter fun e => !seen.contains e.born).filter fun e => Nat.blt e.born since) old.toList := by
    simp only [old, Array.toList_filter]
    exact filt hleft fun m m' hb => by rw [hb, Bool.eq_iff_iff, decide_eq_true_iff, Nat.blt_eq]
  have hnew : MRel w0 ρ ((es.filter fun e => !seen.contains e.born).filter fun e => Nat.ble since e.born) new.toList := by
    simp only [new, Array.toList_filter]
    exact filt hleft fun m m' hb => by rw [hb, Bool.eq_iff_iff, decide_eq_true_iff, Nat.ble_eq]
  have happ : MRel w0 ρ (((es.filter fun e => !seen.contains e.born).filter fun e => Nat.blt e.born since) ++ ((es.filter fun e => !seen.contains e.born).filter fun e => Nat.ble since e.born)) (old.toList ++ new.toList) := by
    refine MRel.of_get (by rw [List.length_append, List.length_append, hold.1, hnew.1]) fun i m hm => ?_
    by_cases hi : i < ((es.filter fun e => !seen.contains e.born).filter fun e => Nat.blt e.born since).length
    · rw [List.getElem?_append_left hi] at hm
      rw [List.getElem?_append_left (hold.1 ▸ hi)]; exact hold.get hm
    · rw [List.getElem?_append_right (by omega)] at hm
      rw [List.getElem?_append_right (by have := hold.1; omega), ← hold.1]; exact hnew.get hm
  have he : ((es.filter fun e => !seen.contains e.born).filter fun e => Nat.blt e.born since).isEmpty = old.isEmpty := by
    have h1 := hold.1
    rw [Bool.eq_iff_iff, List.isEmpty_iff_length_eq_zero, Array.isEmpty_iff_size_eq_zero, h1]; simp
  have hcl : cands.toList = (if old.isEmpty then [none] else []) ++ (old.toList ++ new.toList).map some := by
    simp only [cands]
    cases old.isEmpty <;> simp
  have hget : ∀ i : Nat, cands[i]? = ((if old.isEmpty then [none] else []) ++ (old.toList ++ new.toList).map some)[i]? := fun i => by rw [← hcl]; simp
  unfold mapCands
  simp only [he]
  refine ⟨?_, fun i c hc => ?_⟩
  · rw [← Array.length_toList, hcl]
    have := happ.1
    cases old.isEmpty <;> simp at this ⊢ <;> omega
  · rw [hget]
    have one : ∀ (j : Nat) c, ((((es.filter fun e => !seen.contains e.born).filter fun e => Nat.blt e.born since) ++ ((es.filter fun e => !seen.contains e.born).filter fun e => Nat.ble since e.born)).map some)[j]? = some c →
        ∃ c', ((old.toList ++ new.toList).map some)[j]? = some c' ∧ (match c, c' with | none, none => True | some m, some m' => VRel w0 ρ m.key m'.key ∧ VRel w0 ρ m.val m'.val ∧ m.born = m'.born | _, _ => False) := fun j c hj => by
      rw [List.getElem?_map] at hj
      cases hq : (((es.filter fun e => !seen.contains e.born).filter fun e => Nat.blt e.born since) ++ ((es.filter fun e => !seen.contains e.born).filter fun e => Nat.ble since e.born))[j]? with
      | none => rw [hq] at hj; simp at hj
      | some m =>
        rw [hq] at hj; simp at hj; subst hj
        obtain ⟨x, hx, hr⟩ := happ.get hq
        exact ⟨some x, by rw [List.getElem?_map, hx]; rfl, hr⟩
    cases ho : old.isEmpty with
    | false =>
      rw [ho] at hc
      simp only [cond_false, List.nil_append] at hc
      simp only [Bool.false_eq_true, if_false, List.nil_append]
      exact one i c hc
    | true =>
      rw [ho] at hc
      simp only [cond_true, List.singleton_append] at hc
      simp only [if_true, List.singleton_append]
      cases i with
      | zero => simp at hc; subst hc; exact ⟨none, by simp, trivial⟩
      | succ i => simp only [List.getElem?_cons_succ] at hc ⊢; exact one i c hc


def isCtl : COp → Bool
  | .call _ _ => true
  | .invoke _ _ _ => true
  | .next _ => true
  | _ => false

theorem cop_ctl {o : Op} (h : isCtl (cop P o) = true) : (∃ c, o = .call c) ∨ (∃ x, o = .next x false) := by
  cases o with
  | call c => exact .inl ⟨c, rfl⟩
  | next x b => cases b with
    | false => exact .inr ⟨x, rfl⟩
    | true => simp [cop, isCtl] at h
  | makeFunc fn a b =>
    exfalso; revert h
    cases fn <;> simp only [cop] <;> (repeat' split) <;> simp [isCtl]
  | typeAssert x t u b =>
    exfalso; revert h
    cases b <;> simp only [cop] <;> (repeat' split) <;> simp [isCtl]
  | _ =>
    exfalso; revert h
    simp only [cop]
    repeat' (first | split | (unfold cond; split))
    all_goals simp [isCtl]

theorem cb_ctl {b : Builtin} {ts : List TypeId} {xs : List Opd} (h : isCtl (cbuiltin P b ts xs) = true) : False := by
  revert h
  unfold cbuiltin
  repeat' (first | split | (unfold cond; split))
  all_goals simp [isCtl]

/-- What comes of an operation, to the model's walk. -/
theorem op_sound {M : Nat → String → Option Nat} {F : Nat → List V → St → (V → St → Prop) → Prop} (hM : MSound P M) (hF : FSound P w0 F) {ρ : Ren} {s : St} {w : World} {env : PT V} {a : Act} {o : Oper} {k : V → St → Prop}
    {next : Act → World → Prop} {Q : Exit → Act → World → Prop} (h : evOp M F env s (cop P o.op) k) (hR : Rel w0 ρ s w) (H : ∀ x ∈ o.op.operands, OpdOK w0 ρ env a.eval x)
    (hk : ∀ v s' ρ' x w', k v s' → Rel w0 ρ' s' w' → Stp ρ s w ρ' s' w' → VRel w0 ρ' v x → next (a.put o.dst x) w') : o.wp P a w next Q := by
  unfold Oper.wp
  cases hc : cop P o.op with
  | bad => rw [hc] at h; exact h.elim
  | s so =>
    rw [hc] at h
    simp only [evOp] at h
    cases hv : evS env s so with
    | none => rw [hv] at h; exact h.elim
    | some v =>
      rw [hv] at h
      obtain ⟨x, h1, h2⟩ := evS_sound hc hv hR H
      rw [h1]; exact hk v s ρ x w h hR (.refl _ _ _) h2
  | m mo =>
    rw [hc] at h
    simp only [evOp] at h
    cases hv : evM env mo with
    | none => rw [hv] at h; exact h.elim
    | some obf =>
      obtain ⟨ob, f⟩ := obf
      rw [hv] at h
      obtain ⟨obj, lim, w', x, h1, h2, h3, h4, h5, h6⟩ := evM_sound (ρ := ρ) (w0 := w0) hc hv H w
      rw [h1]
      obtain ⟨a1, a2⟩ := hR.alloc h5
      have hw : w'.heap = (w.alloc obj).heap := h2
      have hle := Ren.le_add (ρ := ρ) (n := s.next) (w.heap.size, 0, lim) (hR.unnamed (Nat.le_refl _))
      exact hk (f s.next) (s.alloc ob) _ x w' h (a1.same hw h3 h4) (a2.trans (Stp.same hw)) (h6 _ _ hle (Ren.add_same _ _ _))
  | h ho =>
    rw [hc] at h
    simp only [evOp] at h
    cases hv : evH env s ho with
    | none => rw [hv] at h; exact h.elim
    | some vs =>
      obtain ⟨v, s'⟩ := vs
      rw [hv] at h
      obtain ⟨ρ', w', nx, h1, h2, h3, h4⟩ := evH_sound hc hv hR H
      rw [h1]
      rcases h4 with ⟨x, rfl, h5⟩ | ⟨rfl, rfl⟩
      · exact hk v s' ρ' x w' h h2 h3 h5
      · exact hk _ s' ρ' undef w' h h2 h3 undef_rel
  | call f args =>
    rw [hc] at h
    simp only [evOp] at h
    split at h <;> try exact h.elim
    rename_i fn first captured vs hf hargs
    obtain ⟨dst, op, type, pos, after, guard⟩ := o
    simp only at hc H
    have hcall : ∃ c fo, op = .call c ∧ c.callee = .value fo ∧ opd fo = some f ∧ opds c.args.toList = some args := by
      rcases cop_ctl (P := P) (o := op) (by rw [hc]; rfl) with ⟨c, rfl⟩ | ⟨x, rfl⟩
      · simp only [cop] at hc
        split at hc
        · rename_i fo args' h1 h2
          split at hc <;> cases hc
          rename_i h3
          exact ⟨c, fo, rfl, h1, h3, h2⟩
        · exact (cb_ctl (P := P) (by rw [hc]; rfl)).elim
        · split at hc <;> cases hc
        · cases hc
      · simp only [cop] at hc; split at hc <;> cases hc
    obtain ⟨c, fo, rfl, hcal, hfo, hca⟩ := hcall
    have hFr := H fo (by simp [Op.operands, Call.operands, hcal]) f _ hfo hf
    have hAr := opds_rel hca hargs fun x hx => H x (by simp [Op.operands, Call.operands]; exact .inr (by simpa using hx))
    generalize hex : a.eval fo = ef at hFr
    cases hFr with
    | func ha hb va vb =>
      rename_i a' b'
      obtain ⟨g1, g2⟩ := hF _ _ _ _ _ _ _ h hR (((LRel.of_array ha va).append hAr).append (LRel.of_array hb vb))
      have hrun : (execOp a.eval ({ dst, op := .call c, type, pos, after, guard } : Oper)).run P w = .ok (.enter fn ((a'.toList ++ c.args.toList.map a.eval ++ b'.toList).toArray)) w := by
        simp only [execOp, resolve, hcal, hex, Deferred.ofValue, Sem.run_bind, Sem.run_pure, Result.andThen_ok, invoke]
        rw [run_callFunc g1]
        congr 2
        apply Array.ext'
        simp
      rw [hrun]
      exact g2.mono fun e w' ⟨v, s', ρ', x, he, hkk, r1, r2, r3⟩ => by subst he; exact hk v s' ρ' x w' hkk r1 r2 r3
  | invoke name x args =>
    rw [hc] at h
    simp only [evOp] at h
    split at h <;> try exact h.elim
    rename_i t v vs hx hargs
    cases hm : M t name with
    | none => rw [hm] at h; exact h.elim
    | some fn =>
      rw [hm] at h
      obtain ⟨dst, op, type, pos, after, guard⟩ := o
      simp only at hc H
      have hcall : ∃ c xo, op = .call c ∧ c.callee = .invoke xo name ∧ opd xo = some x ∧ opds c.args.toList = some args := by
        rcases cop_ctl (P := P) (o := op) (by rw [hc]; rfl) with ⟨c, rfl⟩ | ⟨x, rfl⟩
        · simp only [cop] at hc
          split at hc
          · split at hc <;> cases hc
          · exact (cb_ctl (P := P) (by rw [hc]; rfl)).elim
          · rename_i xo nm args' h1 h2
            split at hc <;> cases hc
            rename_i h3
            exact ⟨c, xo, rfl, h1, h3, h2⟩
          · cases hc
        · simp only [cop] at hc; split at hc <;> cases hc
      obtain ⟨c, xo, rfl, hcal, hxo, hca⟩ := hcall
      have hXr := H xo (by simp [Op.operands, Call.operands, hcal]) x _ hxo hx
      have hAr := opds_rel hca hargs fun x hx => H x (by simp [Op.operands, Call.operands]; exact .inr (by simpa using hx))
      generalize hex : a.eval xo = ex at hXr
      cases hXr with
      | iface hv =>
        rename_i v'
        obtain ⟨g1, g2⟩ := hF _ _ _ _ _ _ _ h hR (LRel.cons hv hAr)
        have hrun : (execOp a.eval ({ dst, op := .call c, type, pos, after, guard } : Oper)).run P w = .ok (.enter fn ((v' :: c.args.toList.map a.eval).toArray)) w := by
          simp only [execOp, resolve, hcal, hex, Sem.run_bind, Sem.run_pure, Result.andThen_ok, invoke]
          have h0 : (#[Value.iface t v'] ++ c.args.map a.eval)[0]? = some (Value.iface t v') := by rw [Array.getElem?_append_left (by simp)]; rfl
          have h1 : (#[Value.iface t v'] ++ c.args.map a.eval).extract 1 (#[Value.iface t v'] ++ c.args.map a.eval).size = c.args.map a.eval := by
            apply Array.ext_getElem?
            intro i
            rw [Array.getElem?_extract]
            by_cases hi : i < c.args.size
            · rw [if_pos (by simp; omega), Array.getElem?_append_right (by simp)]; simp
            · rw [if_neg (by simp; omega), Array.getElem?_eq_none (by simp; omega)]
          rw [h0]
          simp only [h1, callMethod, Sem.run_bind, run_program, Result.andThen_ok]
          have hmeth := run_method (P := P) (hM t name fn hm) v' (P.types.size + Made.depth - 1) w
          rw [show P.types.size + Made.depth - 1 + 1 = P.types.size + Made.depth from by have : 0 < Made.depth := by decide
                                                                                         omega] at hmeth
          rw [hmeth]
          simp only [Result.andThen_ok]
          rw [run_callFunc g1]
          congr 2
          apply Array.ext'
          simp
        rw [hrun]
        exact g2.mono fun e w' ⟨v, s', ρ', x, he, hkk, r1, r2, r3⟩ => by subst he; exact hk v s' ρ' x w' hkk r1 r2 r3
  | next x => rw [hc] at h; exact h.elim
end
end Go.RE
