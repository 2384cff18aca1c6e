/- The evaluator's steps as rules for rewriting. -/
import Derived.Test.YtnepmmjhhcdniaaRe14
namespace Go.RE

section
variable {C : Nat → Option CFunc} {M : Nat → String → Option Nat} {F : Nat → List V → St → (V → St → Prop) → Prop}

/-- What is left of a region, behind a call. -/
def kRest (M : Nat → String → Option Nat) (F : Nat → List V → St → (V → St → Prop) → Prop) (r : List COper) (d : Option Nat) (env : PT V) (k : PT V → St → Prop) : V → St → Prop :=
  fun v s => evSeq M F r (putD d v env) s k
theorem kRest_ap {r : List COper} {d : Option Nat} {env : PT V} {k : PT V → St → Prop} {v : V} {s : St} : kRest M F r d env k v s = evSeq M F r (putD d v env) s k := rfl

/-- Is it this truth? -/
def isB : Option V → Bool → Bool
  | some (.bool b), w => b == w
  | _, _ => false
theorem isB_bool {b w : Bool} : isB (some (.bool b)) w = (b == w) := rfl
theorem isB_iff {x : Option V} {w : Bool} : isB x w = true ↔ x = some (.bool w) := by
  unfold isB
  split
  · simp
  · rename_i h; simp only [Bool.false_eq_true, false_iff]; exact fun e => h _ e

theorem seq_nil {env : PT V} {s : St} {k : PT V → St → Prop} : evSeq M F [] env s k = k env s := rfl

theorem seq_s {d : Option Nat} {o : SOp} {p : Nat} {r : List COper} {env : PT V} {s : St} {k : PT V → St → Prop} :
    evSeq M F (⟨d, .s o, none, p⟩ :: r) env s k = if (evS env s o).isSome = true then evSeq M F r (putD d ((evS env s o).getD .nilp) env) s k else False := by
  simp only [evSeq, guardEv, evOp]
  cases evS env s o <;> simp [Ans.fail]
theorem seq_m {d : Option Nat} {o : MOp} {p : Nat} {r : List COper} {env : PT V} {s : St} {k : PT V → St → Prop} :
    evSeq M F (⟨d, .m o, none, p⟩ :: r) env s k = if (evM env o).isSome = true then
      evSeq M F r (putD d (((evM env o).getD (.dead, fun _ => .nilp)).2 s.next) env) (s.alloc ((evM env o).getD (.dead, fun _ => .nilp)).1) k else False := by
  simp only [evSeq, guardEv, evOp]
  cases evM env o <;> simp [Ans.fail]
theorem seq_h {d : Option Nat} {o : HOp} {p : Nat} {r : List COper} {env : PT V} {s : St} {k : PT V → St → Prop} :
    evSeq M F (⟨d, .h o, none, p⟩ :: r) env s k = if (evH env s o).isSome = true then
      evSeq M F r (putD d ((evH env s o).getD (.nilp, s)).1 env) ((evH env s o).getD (.nilp, s)).2 k else False := by
  simp only [evSeq, guardEv, evOp]
  cases evH env s o <;> simp [Ans.fail]
/-- Which function, and with what. -/
def calleeOf (env : PT V) (f : Opd) (args : List Opd) : Option (Nat × List V) := match f.ev env, evL env args with
  | some (.func f first captured), some vs => some (f, first ++ vs ++ captured)
  | _, _ => none
theorem op_call0 {f : Opd} {args : List Opd} {env : PT V} {s : St} {k : V → St → Prop} :
    evOp M F env s (.call f args) k = (match calleeOf env f args with | some x => F x.1 x.2 s k | none => False) := by
  simp only [evOp, calleeOf]
  cases f.ev env with
  | none => rfl
  | some v => cases v <;> first | rfl | (cases evL env args <;> rfl)
theorem op_call {f : Opd} {args : List Opd} {env : PT V} {s : St} {k : V → St → Prop} :
    evOp M F env s (.call f args) k = if (calleeOf env f args).isSome = true then F ((calleeOf env f args).getD (0, [])).1 ((calleeOf env f args).getD (0, [])).2 s k else False := by
  rw [op_call0]
  cases calleeOf env f args <;> simp
theorem seq_call {d : Option Nat} {f : Opd} {args : List Opd} {p : Nat} {r : List COper} {env : PT V} {s : St} {k : PT V → St → Prop} :
    evSeq M F (⟨d, .call f args, none, p⟩ :: r) env s k = if (calleeOf env f args).isSome = true then
      F ((calleeOf env f args).getD (0, [])).1 ((calleeOf env f args).getD (0, [])).2 s (kRest M F r d env k) else False := by
  rw [← op_call (M := M)]; rfl

theorem guard_ev {t : Nat} {w : Bool} {env : PT V} : guardEv (some (t, w)) env = (if isB (env.get t) w = true then some true else if (env.get t).isSome = true then some false else none) := by
  simp only [guardEv]
  cases h : env.get t with
  | none => simp [isB]
  | some v =>
    cases v with
    | bool b => cases b <;> cases w <;> simp [isB]
    | _ => simp [isB]
theorem seq_g {d : Option Nat} {o : COp} {t : Nat} {w : Bool} {p : Nat} {r : List COper} {env : PT V} {s : St} {k : PT V → St → Prop} :
    evSeq M F (⟨d, o, some (t, w), p⟩ :: r) env s k = if isB (env.get t) w = true then evSeq M F (⟨d, o, none, p⟩ :: r) env s k
      else if (env.get t).isSome = true then evSeq M F r (putD d (.tup []) env) s k else False := by
  simp only [evSeq]
  rw [guard_ev]
  by_cases h : isB (env.get t) w = true
  · simp only [if_pos h, guardEv]
  · by_cases h' : (env.get t).isSome = true
    · simp only [if_neg h, if_pos h']
    · simp only [if_neg h, if_neg h', Ans.fail]

theorem c_cond {n : Nat} {x : Opd} {a b : CCode} {env : PT V} {s : St} {k : Ex → PT V → St → Prop} :
    evC C M (n + 1) (.cond x a b) env s k = if isB (x.ev env) true = true then evC C M n a env s k else if isB (x.ev env) false = true then evC C M n b env s k else False := by
  simp only [evC]
  split
  · rename_i h; simp [h, isB]
  · rename_i h; simp [h, isB]
  · rename_i h1 h2
    rw [if_neg (fun h => h1 (isB_iff.1 h)), if_neg (fun h => h2 (isB_iff.1 h))]
    try rfl

theorem s_pick {env : PT V} {s : St} {c a b : Opd} : evS env s (.pick c a b) = if isB (c.ev env) true = true then a.ev env else if isB (c.ev env) false = true then b.ev env else none := by
  simp only [evS]
  split
  · rename_i h; simp [h, isB]
  · rename_i h; simp [h, isB]
  · rename_i h1 h2
    rw [if_neg (fun h => h1 (isB_iff.1 h)), if_neg (fun h => h2 (isB_iff.1 h))]

/- Schedules. -/
def kStep (M : Nat → String → Option Nat) (F : Nat → List V → St → (V → St → Prop) → Prop) (p : Nat) (recs : Recs) (r : List Step) (d : Option Nat) (env : PT V) (k : PT V → St → Prop) : V → St → Prop :=
  fun v s => recheck s p recs (evSt M F r (putD d v env) s (keepRecs p recs) k)
theorem kStep_ap {p : Nat} {recs : Recs} {r : List Step} {d : Option Nat} {env : PT V} {k : PT V → St → Prop} {v : V} {s : St} :
    kStep M F p recs r d env k v s = recheck s p recs (evSt M F r (putD d v env) s (keepRecs p recs) k) := rfl
theorem st_nil {env : PT V} {s : St} {recs : Recs} {k : PT V → St → Prop} : evSt M F [] env s recs k = k env s := rfl
theorem st_s {i : Nat} {d : Option Nat} {o : SOp} {p : Nat} {r : List Step} {env : PT V} {s : St} {recs : Recs} {k : PT V → St → Prop} :
    evSt M F (.small i ⟨d, .s o, none, p⟩ :: r) env s recs k = if (evS env s o).isSome = true then
      evSt M F r (putD d ((evS env s o).getD .nilp) env) s (bif o.impure then (i, o, env, (evS env s o).getD .nilp) :: recs else recs) k else False := by
  simp only [evSt, guardEv]
  cases evS env s o <;> simp
theorem st_m {i : Nat} {d : Option Nat} {o : MOp} {p : Nat} {r : List Step} {env : PT V} {s : St} {recs : Recs} {k : PT V → St → Prop} :
    evSt M F (.small i ⟨d, .m o, none, p⟩ :: r) env s recs k = if (evM env o).isSome = true then
      evSt M F r (putD d (((evM env o).getD (.dead, fun _ => .nilp)).2 s.next) env) (s.alloc ((evM env o).getD (.dead, fun _ => .nilp)).1) recs k else False := by
  simp only [evSt, guardEv]
  cases evM env o <;> simp
theorem st_call {i : Nat} {d : Option Nat} {f : Opd} {args : List Opd} {p : Nat} {r : List Step} {env : PT V} {s : St} {recs : Recs} {k : PT V → St → Prop} :
    evSt M F (.big i ⟨d, .call f args, none, p⟩ :: r) env s recs k = if (calleeOf env f args).isSome = true then
      F ((calleeOf env f args).getD (0, [])).1 ((calleeOf env f args).getD (0, [])).2 s (kStep M F p recs r d env k) else False := by
  rw [← op_call (M := M)]; rfl
theorem st_h {i : Nat} {d : Option Nat} {o : HOp} {p : Nat} {r : List Step} {env : PT V} {s : St} {recs : Recs} {k : PT V → St → Prop} :
    evSt M F (.big i ⟨d, .h o, none, p⟩ :: r) env s recs k = if (evH env s o).isSome = true then
      recheck ((evH env s o).getD (.nilp, s)).2 p recs (evSt M F r (putD d ((evH env s o).getD (.nilp, s)).1 env) ((evH env s o).getD (.nilp, s)).2 (keepRecs p recs) k) else False := by
  simp only [evSt, guardEv, evOp]
  cases evH env s o <;> simp [Ans.fail]
theorem st_gs {i : Nat} {d : Option Nat} {o : COp} {t : Nat} {w : Bool} {p : Nat} {r : List Step} {env : PT V} {s : St} {recs : Recs} {k : PT V → St → Prop} :
    evSt M F (.small i ⟨d, o, some (t, w), p⟩ :: r) env s recs k = if isB (env.get t) w = true then evSt M F (.small i ⟨d, o, none, p⟩ :: r) env s recs k
      else if (env.get t).isSome = true then evSt M F r (putD d (.tup []) env) s recs k else False := by
  simp only [evSt]
  rw [guard_ev]
  by_cases h : isB (env.get t) w = true
  · simp only [if_pos h, guardEv]
  · by_cases h' : (env.get t).isSome = true
    · simp only [if_neg h, if_pos h']
    · simp only [if_neg h, if_neg h']
theorem st_gb {i : Nat} {d : Option Nat} {o : COp} {t : Nat} {w : Bool} {p : Nat} {r : List Step} {env : PT V} {s : St} {recs : Recs} {k : PT V → St → Prop} :
    evSt M F (.big i ⟨d, o, some (t, w), p⟩ :: r) env s recs k = if isB (env.get t) w = true then evSt M F (.big i ⟨d, o, none, p⟩ :: r) env s recs k
      else if (env.get t).isSome = true then evSt M F r (putD d (.tup []) env) s recs k else False := by
  simp only [evSt]
  rw [guard_ev]
  by_cases h : isB (env.get t) w = true
  · simp only [if_pos h, guardEv]
  · by_cases h' : (env.get t).isSome = true
    · simp only [if_neg h, if_pos h']
    · simp only [if_neg h, if_neg h']
end

/- Memory. -/
theorem row_alloc {s : St} {cs : List V} {n : Nat} : (s.alloc (.row cs)).row n = if n = s.next then some cs else s.row n := by
  simp only [St.row, St.get_alloc]
  by_cases h : n = s.next <;> simp [h]
theorem row_put {s : St} {cs : List V} {m n : Nat} : (s.put m (.row cs)).row n = if n = m then some cs else s.row n := by
  simp only [St.row, St.get_put]
  by_cases h : n = m <;> simp [h]
theorem Grew.row {s s' : St} (h : Grew s s') {n : Nat} (hn : n < s.next) : s'.row n = s.row n := by
  simp only [St.row, h.old n hn]
end Go.RE
