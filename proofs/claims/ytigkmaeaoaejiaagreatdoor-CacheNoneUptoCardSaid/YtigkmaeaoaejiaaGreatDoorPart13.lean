/- Contracts: pairs, in the reference. -/
import Derived.Test.YtigkmaeaoaejiaaGreatDoorPart12
import Derived.Test.YtigkmaeaoaejiaaGreatDoorPart11
set_option linter.unusedVariables false
set_option linter.unusedSimpArgs false
namespace Go.RE
variable {M : Nat → String → Option Nat} {Q : Mut} {Pm : Nat → Option (List U → List Uo → Nat → Option (U × List Uo × Nat))}
abbrev Pr := By × By
abbrev NoPm (Pm : Nat → Option (List U → List Uo → Nat → Option (U × List Uo × Nat))) : Prop := ∀ f, f ≠ 49 → f ≠ 97 → Pm f = none
abbrev NoQ (Q : Mut) : Prop := ∀ f, f ≠ 90 → Q f = none
def pairC (p : Pr) : List U := [.str p.1, .sl 1 (bytesU p.2)]
theorem unbytes_bytes (b : By) : unbytes (bytesU b) = some b := by
  induction b with
  | nil => rfl
  | cons x b ih =>
    have h2 : unbytes (bytesU (x :: b)) = match byteOfU (byteU x) with | some b' => (match unbytes (bytesU b) with | some bs => some (b' :: bs) | none => none) | none => none := rfl
    have h3 : byteOfU (byteU x) = some x := by simp [byteU, byteOfU]
    rw [h2, h3, ih]
@[simp] theorem strV_bytes (s : Vs) (b : By) : strV s (.sl 1 (bytesU b)) = some (.str b, s) := by simp [strV, rowsOf, unbytes_bytes]
@[simp] theorem strV_ownb (s : Vs) (g : Tg) (b : By) : strV s (.own g 1 (bytesU b)) = some (.str b, s) := by simp [strV, rowsOf, unbytes_bytes]
abbrev lt (a b : By) : Bool := Op.bytesLess a b
def right (lo hi : By) : Bool := hi == [] || lt lo hi
def has (lo hi k : By) : Bool := !lt k lo && (hi == [] || lt k hi)
def small : Nat := 1000000000
theorem t53 (h : Pm 53 = none) (lo hi : By) : gF vTab M Q Pm 53 [.agg [.str lo, .str hi]] [] 0 = some (.bool (right lo hi), [], 0) := by
  refine gF_of (fn := v53) h rfl rfl ?_
  cases hh : hi == [] <;> simp [v53_body, v53_0, v53_1, hh, right]
theorem t102 (h : Pm 102 = none) (lo hi k : By) : gF vTab M Q Pm 102 [.agg [.str lo, .str hi], .str k] [] 0 = some (.bool (has lo hi k), [], 0) := by
  refine gF_of (fn := v102) h rfl rfl ?_
  cases h1 : lt k lo <;> cases h2 : hi == [] <;> simp [v102_body, v102_0, v102_1, h1, h2, has]
theorem t58 (h : Pm 58 = none) (lo hi k : By) : gF vTab M Q Pm 58 [.agg [.str lo, .str hi], .str k] [] 0 = some (.bool (has lo hi k), [], 0) := by
  refine gF_of (fn := v58) h rfl rfl ?_
  cases h1 : lt k lo <;> cases h2 : hi == [] <;> simp [v58_body, v58_0, v58_1, h1, h2, has]
end Go.RE
namespace Go.RE
theorem at_old {h l : List Uo} {i : Nat} {o : Uo} (hi : h[i]? = some o) : (h ++ l)[i]? = some o := by
  rw [List.getElem?_append_left (List.getElem?_eq_some_iff.1 hi).1]; exact hi
@[simp] theorem at0 (h l : List Uo) (a : Uo) : (h ++ a :: l)[h.length]? = some a := by simp
theorem cut0 {fl : Nat} {h : List Uo} (hf : fl ≤ h.length) (l : List Uo) : cut h.length fl (h ++ l) = h := cut_app hf
theorem cut1 {fl : Nat} {h : List Uo} (hf : fl ≤ h.length) (a : Uo) (l : List Uo) : cut (h.length + 1) fl (h ++ a :: l) = h ++ [a] := by
  unfold cut
  rw [Nat.max_eq_left (by omega), List.take_append, List.take_of_length_le (by omega), show h.length + 1 - h.length = 1 by omega]; rfl
@[simp] theorem landR_cons (d : Nat) (r : U) (a : Uo) (as : List Uo) (fc : Nat) (e : Env) (h : List Uo) (fl : Nat) : landR d r (a :: as) fc ⟨e, h, fl⟩ = bindR d (r.shift h.length) ⟨e, h ++ (a :: as).map (shiftO h.length), bif Nat.beq fc 0 then fl else h.length + fc⟩ := rfl
section
variable (k : Nat)
@[simp] theorem shift_ptr (i o : Nat) : U.shift k (.ptr i o) = .ptr (i + k) o := by simp only [U.shift]
@[simp] theorem shift_map (i : Nat) : U.shift k (.map i) = .map (i + k) := by simp only [U.shift]
@[simp] theorem shift_bool (b : Bool) : U.shift k (.bool b) = .bool b := by simp only [U.shift]
@[simp] theorem shift_int (j : IntKind) (n : Int) : U.shift k (.int j n) = .int j n := by simp only [U.shift]
@[simp] theorem shift_str (b : List UInt8) : U.shift k (.str b) = .str b := by simp only [U.shift]
@[simp] theorem shift_sl (w : Nat) (xs : List (List U)) : U.shift k (.sl w xs) = .sl w xs := by simp only [U.shift]
@[simp] theorem shift_nl (w : Nat) : U.shift k (.nl w) = .nl w := by simp only [U.shift]
@[simp] theorem shift_iface (t : Nat) (v : U) : U.shift k (.iface t v) = .iface t (v.shift k) := by simp only [U.shift]
@[simp] theorem shift_agg (a : List U) : U.shift k (.agg a) = .agg (U.shifts k a) := by simp only [U.shift]
@[simp] theorem shift_tup (a : List U) : U.shift k (.tup a) = .tup (U.shifts k a) := by simp only [U.shift]
@[simp] theorem shifts_nil : U.shifts k [] = [] := by simp only [U.shifts]
@[simp] theorem shifts_cons (a : U) (r : List U) : U.shifts k (a :: r) = a.shift k :: U.shifts k r := by simp only [U.shifts]
@[simp] theorem shiftO_row (cs : List U) : shiftO k (.row cs) = .row (U.shifts k cs) := rfl
theorem shiftO_map (es : List (U × U × Nat)) (c : Nat) : shiftO k (.map es c) = .map (es.map fun e => (e.1.shift k, e.2.1.shift k, e.2.2)) c := rfl
end
end Go.RE
namespace Go.RE
variable {M : Nat → String → Option Nat} {Q : Mut} {Pm : Nat → Option (List U → List Uo → Nat → Option (U × List Uo × Nat))}
abbrev Spn := By × By
def spC (s : Spn) : List U := [.str s.1, .str s.2]
def inB (l : List Spn) (k : By) : Bool := l.any fun s => has s.1 s.2 k
theorem t51_a (hp : NoPm Pm) (hq : NoQ Q) (l : List Spn) (k : By) (hl : l.length < small) : ∀ (j i : Nat), i + j = l.length →
    gL vTab M Q Pm v51 0 v51_b7 0 ⟨[(9, .int .i64 (i : Int)), (1, .str k), (7, .sl 2 (l.map spC)), (8, .int .i64 (l.length : Int))], [], 0⟩ (seqK vTab M Q Pm v51 (.seq (.region v51_8) .ret) (kE 0 v51 (.bool (inB (l.drop i) k), [], 0))) := by
  intro j
  induction j with
  | zero =>
    intro i hij
    have h1 : ¬ ((i : Int) < (l.length : Int)) := by omega
    have h2 : l.drop i = [] := List.drop_of_length_le (by omega)
    rw [gL_round v51_b7.eq_1, h2]
    simp [v51_2, h1, v51_8, inB]
  | succ j ih =>
    intro i hij
    have h1 : ((i : Int) < (l.length : Int)) := by omega
    have hi1 : i < l.length := by omega
    have e1 : (l.map spC)[i]? = some (spC l[i]) := by simp [hi1]
    have e3 : wrapA .i64 ((i : Int) + 1) = ((i + 1 : Nat) : Int) := wrap_succ (by unfold small at hl; omega)
    have d1 : l.drop i = l[i] :: l.drop (i + 1) := List.drop_eq_getElem_cons hi1
    have ih' := ih (i + 1) (by omega)
    have hI : inB (l.drop i) k = (has l[i].1 l[i].2 k || inB (l.drop (i + 1)) k) := by rw [d1]; rfl
    rw [gL_round v51_b7.eq_1, hI]
    cases hk : has l[i].1 l[i].2 k with
    | true => simp [v51_2, v51_3, v51_4, v51_5, h1, iaV_sl e1, spC, hk, hq, t102 (hp 102 (by decide) (by decide))]
    | false =>
      simp at ih'
      simp [v51_2, v51_3, v51_4, v51_5, v51_6, h1, iaV_sl e1, spC, hk, hq, t102 (hp 102 (by decide) (by decide)), e3]
      exact ih'
theorem t51 (hp : NoPm Pm) (hq : NoQ Q) (l : List Spn) (k : By) (hl : l.length < small) : gF vTab M Q Pm 51 [.sl 2 (l.map spC), .str k] [] 0 = some (.bool (inB l k), [], 0) := by
  refine gF_of (fn := v51) (hp 51 (by decide) (by decide)) rfl rfl ?_
  simp [v51_body, v51_0, v51_1]
  have := t51_a (M := M) hp hq l k hl l.length 0 (by omega)
  simpa using this
def fewL (l : List Pr) : Bool := l.all (fun p => decide (p.1.length ≤ 300) && decide (p.2.length ≤ 300)) && decide (l.length ≤ 100)
theorem bytes_len (b : By) : (bytesU b).length = b.length := by simp [bytesU]
theorem t12_a (l : List Pr) (hl : l.length ≤ 9223372036854775807) : ∀ (j i : Nat), i + j = l.length →
    gL vTab M Q Pm v12 0 v12_b7 0 ⟨[(7, .int .i64 (i : Int)), (5, .sl 2 (l.map pairC)), (0, .sl 2 (l.map pairC)), (6, .int .i64 (l.length : Int))], [], 0⟩ (seqK vTab M Q Pm v12 (.seq (.region v12_8) .ret) (kE 0 v12 (.bool ((l.drop i).all (fun p => decide (p.1.length ≤ 300) && decide (p.2.length ≤ 300)) && decide (l.length ≤ 100)), [], 0))) := by
  intro j
  induction j with
  | zero =>
    intro i hij
    have h1 : ¬ ((i : Int) < (l.length : Int)) := by omega
    have h2 : l.drop i = [] := List.drop_of_length_le (by omega)
    rw [gL_round v12_b7.eq_1, h2]
    simp [v12_2, h1, v12_8]
    omega
  | succ j ih =>
    intro i hij
    have h1 : ((i : Int) < (l.length : Int)) := by omega
    have hi1 : i < l.length := by omega
    have e1 : (l.map pairC)[i]? = some (pairC l[i]) := by simp [hi1]
    have e3 : wrapA .i64 ((i : Int) + 1) = ((i + 1 : Nat) : Int) := wrap_succ (by omega)
    have d1 : l.drop i = l[i] :: l.drop (i + 1) := List.drop_eq_getElem_cons hi1
    have ih' := ih (i + 1) (by omega)
    rw [gL_round v12_b7.eq_1, d1, List.all_cons]
    by_cases hk : l[i].1.length ≤ 300
    · have hk' : ¬ (300 : Int) < (l[i].1.length : Int) := by omega
      by_cases hk2 : l[i].2.length ≤ 300
      · have hk2' : ¬ (300 : Int) < (l[i].2.length : Int) := by omega
        simp at ih'
        simp [v12_2, v12_3, v12_4, v12_5, v12_6, h1, iaV_sl e1, pairC, hk, hk', hk2, hk2', e3, bytes_len]
        exact ih'
      · have hk2' : (300 : Int) < (l[i].2.length : Int) := by omega
        simp [v12_2, v12_3, v12_4, v12_5, h1, iaV_sl e1, pairC, hk, hk', hk2, hk2', bytes_len]
    · have hk' : (300 : Int) < (l[i].1.length : Int) := by omega
      simp [v12_2, v12_3, v12_4, v12_5, h1, iaV_sl e1, pairC, hk, hk']
theorem t12 (h : Pm 12 = none) (l : List Pr) (hl : l.length ≤ 9223372036854775807) : gF vTab M Q Pm 12 [.sl 2 (l.map pairC)] [] 0 = some (.bool (fewL l), [], 0) := by
  refine gF_of (fn := v12) h rfl rfl ?_
  simp [v12_body, v12_0, v12_1]
  have := t12_a (M := M) (Q := Q) (Pm := Pm) l hl l.length 0 (by omega)
  simpa [fewL] using this
def errZ : List U := [.bool false, .sl 1 [], .int .i64 0, .bool false, .str [], .str []]
end Go.RE
namespace Go.RE
variable {M : Nat → String → Option Nat} {Q : Mut} {Pm : Nat → Option (List U → List Uo → Nat → Option (U × List Uo × Nat))}
structure Ent1 where
  k : By
  d : By
  b : Nat
deriving DecidableEq, Inhabited
def entU (e : Ent1) : U × U × Nat := (.str e.k, .sl 1 (bytesU e.d), e.b)
def keyC (k : By) : List U := [.str k]
def insB (a : By) : List By → List By
  | [] => [a]
  | x :: l => if lt x a = true then x :: insB a l else a :: x :: l
def sortB (l : List By) : List By := l.foldr insB []
theorem lt_ge {a b : By} (h1 : lt a b = false) (h2 : lt b a = false) : a = b := by
  rcases lt_tri a b with h | h | h
  · rw [show lt a b = true from h] at h1; cases h1
  · exact h
  · rw [show lt b a = true from h] at h2; cases h2
theorem ge_lt {x a b : By} (h1 : lt x b = false) (h2 : lt x a = true) : lt b a = true := by
  rcases lt_tri b x with h | h | h
  · exact lt_tr h h2
  · subst h; exact h2
  · rw [show lt x b = true from h] at h1; cases h1
theorem ins_comm (a b : By) : ∀ l, insB a (insB b l) = insB b (insB a l) := by
  have two : ∀ l, (if lt b a = true then b :: a :: l else a :: b :: l) = (if lt a b = true then a :: b :: l else b :: a :: l) := by
    intro l
    cases h1 : lt b a with
    | true => have h2 : lt a b = false := lt_asy h1; simp [h2]
    | false =>
      cases h2 : lt a b with
      | true => simp
      | false => have := lt_ge h1 h2; subst this; simp
  intro l
  induction l with
  | nil => simpa [insB] using two []
  | cons x l ih =>
    simp only [insB]
    cases hb : lt x b with
    | true =>
      cases ha : lt x a with
      | true => simp [insB, ha, hb, ih]
      | false =>
        have h1 : lt a b = true := ge_lt ha hb
        simp [insB, ha, hb, h1]
    | false =>
      cases ha : lt x a with
      | true =>
        have h1 : lt b a = true := ge_lt hb ha
        simp [insB, ha, hb, h1]
      | false =>
        have := two (x :: l)
        simpa [insB, ha, hb] using this
theorem sortB_perm {l l' : List By} (h : l.Perm l') : sortB l = sortB l' := by
  unfold sortB
  induction h with
  | nil => rfl
  | cons x _ ih => simp only [List.foldr_cons, ih]
  | swap x y l => simp only [List.foldr_cons]; exact ins_comm y x _
  | trans _ _ ih1 ih2 => exact ih1.trans ih2
def unkey : List (List U) → Option (List By)
  | [] => some []
  | [.str k] :: r => match unkey r with
    | some l => some (k :: l)
    | none => none
  | _ => none
def sortQ : List (List U) → List U → Option (List (List U)) := fun xs rest => match rest with
  | [] => bif Nat.blt xs.length 4611686018427387904 then (match unkey xs with | some l => some ((sortB l).map keyC) | none => none) else none
  | _ => none
theorem callQ_some {F : FU} (s : Vs) (d f : Nat) (g : Tg) (w : Nat) (xs ys : List (List U)) (rest : List U) {q : List (List U) → List U → Option (List (List U))} (hy : q xs rest = some ys) :
    callQ F s d f (.own g w xs :: rest) (some q) = bif (s.ownC g).isSome then some (.tup [], s.upd g w ys) else none := by simp only [callQ, hy]
end Go.RE
namespace Go.RE
variable {M : Nat → String → Option Nat} {Q : Mut} {Pm : Nat → Option (List U → List Uo → Nat → Option (U × List Uo × Nat))}
def cloneP : List U → List Uo → Nat → Option (U × List Uo × Nat) := fun us h fl => match us with
  | [.sl w xs] => bif Nat.beq w 1 && Nat.ble xs.length big && xs.all (fun r => r.all U.cellok && U.lows 0 r && Nat.beq r.length 1) then some (.own .r w xs, h, fl) else none
  | _ => none
theorem bytes_ok (d : By) : (bytesU d).all (fun r => r.all U.cellok && U.lows 0 r && Nat.beq r.length 1) = true := by
  rw [List.all_eq_true]
  intro r hr
  obtain ⟨b, _, rfl⟩ := List.mem_map.1 hr
  rfl
theorem t49 (hc : Pm 49 = some cloneP) (d : By) (hd : d.length < small) : gF vTab M Q Pm 49 [.sl 1 (bytesU d)] [] 0 = some (.own .r 1 (bytesU d), [], 0) := by
  rw [gF_prim hc]
  have h1 : Nat.ble (bytesU d).length big = true := Nat.ble_eq_true_of_le (by simp only [bytesU, List.length_map]; unfold small at hd; unfold big; omega)
  show (bif Nat.beq 1 1 && Nat.ble (bytesU d).length big && (bytesU d).all (fun r => r.all U.cellok && U.lows 0 r && Nat.beq r.length 1) then _ else _) = _
  rw [bytes_ok, h1]; rfl
theorem flat_bytes (b : By) : U.flatss (bytesU b) = true := by
  induction b with
  | nil => rfl
  | cons x b ih => show (U.flats (byteU x) && U.flatss (bytesU b)) = true; rw [ih]; rfl
def entOf (k : By) (es : List Ent1) : Option Ent1 := es.find? (fun e => e.k == k)
theorem findU_ent (k : By) : ∀ (es : List Ent1) (j : Nat), ∃ r, findU .str (.str k) (es.map entU) j = some r ∧ (r = none ↔ entOf k es = none) ∧ ∀ i v, r = some (i, v) → ∃ e, entOf k es = some e ∧ v = .sl 1 (bytesU e.d) ∧ j ≤ i ∧ es[i - j]? = some e := by
  intro es
  induction es with
  | nil => intro j; exact ⟨none, rfl, by simp [entOf], fun i v h => by cases h⟩
  | cons e es ih =>
    intro j
    have hf : findU .str (.str k) ((e :: es).map entU) j = (match some (k == e.k) with
      | some true => some (some (j, .sl 1 (bytesU e.d)))
      | some false => findU .str (.str k) (es.map entU) (j + 1)
      | none => none) := rfl
    rw [hf]
    have hbe : (k == e.k) = (e.k == k) := by
      cases h1 : e.k == k with
      | true => rw [eq_of_beq h1]; exact beq_self_eq_true k
      | false =>
        cases h2 : k == e.k with
        | false => rfl
        | true => rw [eq_of_beq h2, beq_self_eq_true] at h1; cases h1
    cases hk : e.k == k with
    | true =>
      rw [hbe, hk]
      refine ⟨_, rfl, by simp [entOf, List.find?_cons, hk], fun i v h => ?_⟩
      simp only [Option.some.injEq, Prod.mk.injEq] at h
      obtain ⟨rfl, rfl⟩ := h
      exact ⟨e, by simp [entOf, List.find?_cons, hk], rfl, Nat.le_refl _, by simp⟩
    | false =>
      rw [hbe, hk]
      obtain ⟨r, r1, r2, r3⟩ := ih (j + 1)
      have hfe : entOf k (e :: es) = entOf k es := by simp [entOf, List.find?_cons, hk]
      refine ⟨r, r1, by rw [hfe]; exact r2, fun i v h => ?_⟩
      obtain ⟨e', k1, k2, k3, k4⟩ := r3 i v h
      refine ⟨e', by rw [hfe]; exact k1, k2, by omega, ?_⟩
      rw [show i - j = (i - (j + 1)) + 1 by omega]; simpa using k4
end Go.RE
namespace Go.RE
variable {M : Nat → String → Option Nat} {Q : Mut} {Pm : Nat → Option (List U → List Uo → Nat → Option (U × List Uo × Nat))}
def muP (kk : EqK) (i : Nat) (k v : U) (s : Vs) : Option Uo → Option (U × Vs)
  | some (.map es clock) => bif plainKeyU kk k then
            (let fl := bif v.low (i + 1) then s.fl else s.h.length
            match findU kk k es 0 with
            | some (some (j, _)) => some (.tup [], { s with h := s.h.set i (.map (modU j (fun e => (k, v, e.2.2)) es) clock), fl := fl })
            | some none => some (.tup [], { s with h := s.h.set i (.map (es ++ [(k, v, clock)]) (clock + 1)), fl := fl })
            | none => none) else none
  | _ => none
def muX (kk : EqK) (i : Nat) (k : U) : Option (U × Vs) → Option (U × Vs)
  | some (v, s) => muP kk i k v s s.h[i]?
  | none => none
@[simp] theorem muX_some (kk : EqK) (i : Nat) (k v : U) (s : Vs) : muX kk i k (some (v, s)) = muP kk i k v s s.h[i]? := rfl
def muK (kk : EqK) (i : Nat) (x : Opd) : Option (U × Vs) → Option (U × Vs)
  | some (k, s) => muX kk i k (escO x s)
  | none => none
@[simp] theorem muK_some (kk : EqK) (i : Nat) (x : Opd) (k : U) (s : Vs) : muK kk i x (some (k, s)) = muX kk i k (escO x s) := rfl
def muM (kk : EqK) (k x : Opd) : Option (U × Vs) → Option (U × Vs)
  | some (.map i, s) => muK kk i x (escO k s)
  | _ => none
@[simp] theorem muM_some (kk : EqK) (k x : Opd) (i : Nat) (s : Vs) : muM kk k x (some (.map i, s)) = muK kk i x (escO k s) := rfl
@[simp] theorem opH_mapUpdate (d : Nat) (s : Vs) (kk : EqK) (m k x : Opd) : opH d s (.mapUpdate kk m k x) = muM kk k x (escO m s) := by
  simp only [opH]
  cases escO m s with
  | none => rfl
  | some p =>
    obtain ⟨u, s1⟩ := p
    cases u with
    | map i =>
      simp only [muM]
      cases escO k s1 with
      | none => rfl
      | some p =>
        obtain ⟨k, s2⟩ := p
        simp only [muK]
        cases escO x s2 with
        | none => rfl
        | some p =>
          obtain ⟨v, s3⟩ := p
          simp only [muX]
          cases s3.h[i]? with
          | none => rfl
          | some o => cases o <;> rfl
    | _ => rfl
def delP (kk : EqK) (i : Nat) (k : U) (s : Vs) : Option Uo → Option (U × Vs)
  | some (.map es clock) => bif plainKeyU kk k then (match findU kk k es 0 with
        | some (some (j, _)) => some (.tup [], { s with h := s.h.set i (.map (eraseU j es) clock) })
        | some none => some (.tup [], s)
        | none => none) else none
  | _ => none
def delO (s : Vs) (kk : EqK) : Option U → Option U → Option (U × Vs)
  | some .nilm, some k => bif plainKeyU kk k then some (.tup [], s) else none
  | some (.map i), some k => delP kk i k s s.h[i]?
  | _, _ => none
@[simp] theorem delO_map (s : Vs) (kk : EqK) (i : Nat) (k : U) : delO s kk (some (.map i)) (some k) = delP kk i k s s.h[i]? := rfl
@[simp] theorem opH_delete (d : Nat) (s : Vs) (kk : EqK) (m k : Opd) : opH d s (.delete kk m k) = delO s kk (evO s.e m) (evO s.e k) := by
  simp only [opH]
  cases evO s.e m with
  | none => rfl
  | some u =>
    cases evO s.e k with
    | none => cases u <;> rfl
    | some k =>
      cases u with
      | map i =>
        simp only [delO]
        cases s.h[i]? with
        | none => rfl
        | some o => cases o <;> rfl
      | _ => rfl
def modE (k d : By) : List Ent1 → List Ent1
  | [] => []
  | e :: r => if (e.k == k) = true then ⟨k, d, e.b⟩ :: r else e :: modE k d r
def delE (k : By) : List Ent1 → List Ent1
  | [] => []
  | e :: r => if (e.k == k) = true then r else e :: delE k r
theorem beq_sym (a b : By) : (a == b) = (b == a) := by
  cases h1 : b == a with
  | true => rw [eq_of_beq h1]; exact beq_self_eq_true a
  | false =>
    cases h2 : a == b with
    | false => rfl
    | true => rw [eq_of_beq h2, beq_self_eq_true] at h1; cases h1
theorem find_mod (k d : By) : ∀ (es : List Ent1) (j i : Nat) (v : U), findU .str (.str k) (es.map entU) j = some (some (i, v)) → j ≤ i ∧ modU (i - j) (fun e => (.str k, .sl 1 (bytesU d), e.2.2)) (es.map entU) = (modE k d es).map entU ∧ eraseU (i - j) (es.map entU) = (delE k es).map entU := by
  intro es
  induction es with
  | nil => intro j i v h; cases h
  | cons e es ih =>
    intro j i v h
    have hf : findU .str (.str k) ((e :: es).map entU) j = (match some (k == e.k) with
      | some true => some (some (j, .sl 1 (bytesU e.d)))
      | some false => findU .str (.str k) (es.map entU) (j + 1)
      | none => none) := rfl
    rw [hf, beq_sym k e.k] at h
    cases hk : e.k == k with
    | true =>
      rw [hk] at h
      simp only [Option.some.injEq, Prod.mk.injEq] at h
      obtain ⟨rfl, _⟩ := h
      refine ⟨Nat.le_refl _, ?_, ?_⟩
      · simp [modE, hk, modU, entU]
      · simp [delE, hk, eraseU]
    | false =>
      rw [hk] at h
      obtain ⟨a, b, c⟩ := ih (j + 1) i v h
      have e1 : i - j = (i - (j + 1)) + 1 := by omega
      refine ⟨by omega, ?_, ?_⟩
      · rw [e1]; simp only [List.map_cons, modU, modE, hk]; rw [b]; simp
      · rw [e1]; simp only [List.map_cons, eraseU, delE, hk]; rw [c]; simp
def setE (k d : By) (c : Nat) (es : List Ent1) : List Ent1 := if (entOf k es).isSome = true then modE k d es else es ++ [⟨k, d, c⟩]
def clkE (k : By) (c : Nat) (es : List Ent1) : Nat := if (entOf k es).isSome = true then c else c + 1
theorem muP_ent (k d : By) (es : List Ent1) (c m : Nat) (s : Vs) : muP .str m (.str k) (.sl 1 (bytesU d)) s (some (.map (es.map entU) c)) = some (.tup [], ⟨s.e, s.h.set m (.map ((setE k d c es).map entU) (clkE k c es)), s.fl⟩) := by
  obtain ⟨r, r1, r2, r3⟩ := findU_ent k es 0
  have hk : plainKeyU .str (.str k) = true := rfl
  simp only [muP, hk, cond_true, r1, U.low]
  cases r with
  | none =>
    have := r2.1 rfl
    simp [setE, clkE, this, entU]
  | some p =>
    obtain ⟨i, v⟩ := p
    obtain ⟨e, e1, rfl, _⟩ := r3 i v rfl
    obtain ⟨a, b, _⟩ := find_mod k d es 0 i _ r1
    simp only [Nat.sub_zero] at b
    simp [setE, clkE, e1, b]
abbrev Tb := List Ent1 × Nat
def tabO (t : Tb) : Uo := .map (t.1.map entU) t.2
end Go.RE
namespace Go.RE
variable {M : Nat → String → Option Nat} {Q : Mut} {Pm : Nat → Option (List U → List Uo → Nat → Option (U × List Uo × Nat))}
def stepP (t : Tb) (p : Pr) : Tb := (setE p.1 p.2 t.2 t.1, clkE p.1 t.2 t.1)
theorem t44_a (hp : NoPm Pm) (hq : NoQ Q) (hc : Pm 49 = some cloneP) (l : List Pr) (hl : l.length < small) (hld : ∀ p ∈ l, p.2.length < small) (K : Ex → Vs → Prop) :
    ∀ (j q : Nat) (t : Tb), q + j = l.length →
    K .normal ⟨[(3, .ptr 1 0)], [tabO ((l.drop q).foldl stepP t), .row [.map 0]], 0⟩ →
    gL vTab M Q Pm v44 0 v44_b7 2 ⟨[(11, .int .i64 (q : Int)), (3, .ptr 1 0), (9, .sl 2 (l.map pairC)), (10, .int .i64 (l.length : Int))], [tabO t, .row [.map 0]], 0⟩ K := by
  intro j
  induction j with
  | zero =>
    intro q t hij hK
    have h1 : ¬ ((q : Int) < (l.length : Int)) := by omega
    have h2 : l.drop q = [] := List.drop_of_length_le (by omega)
    rw [h2] at hK
    rw [gL_round v44_b7.eq_1]
    simp [v44_3, h1] at hK ⊢
    exact hK
  | succ j ih =>
    intro q t hij hK
    have h1 : ((q : Int) < (l.length : Int)) := by omega
    have hi1 : q < l.length := by omega
    have e1 : (l.map pairC)[q]? = some (pairC l[q]) := by simp [hi1]
    have e3 : wrapA .i64 ((q : Int) + 1) = ((q + 1 : Nat) : Int) := wrap_succ (by unfold small at hl; omega)
    have d1 : l.drop q = l[q] :: l.drop (q + 1) := List.drop_eq_getElem_cons hi1
    rw [d1, List.foldl_cons] at hK
    have ih' := ih (q + 1) (stepP t l[q]) (by omega) hK
    have hmu := muP_ent l[q].1 l[q].2 t.1 t.2 0
    have ep : pairC l[q] = [.str l[q].1, .sl 1 (bytesU l[q].2)] := rfl
    rw [gL_round v44_b7.eq_1]
    simp [tabO, stepP] at ih'
    simp [v44_3, v44_4, v44_6, h1, iaV_sl e1, ep, e3, tabO, gC_drw v44_5h, v44_5s, hq, t49 hc _ (hld _ (List.getElem_mem hi1)), flat_bytes, hmu, Nat.testBit_eq_decide_div_mod_eq]
    exact ih'
theorem t44 (hp : NoPm Pm) (hq : NoQ Q) (hc : Pm 49 = some cloneP) (l : List Pr) (hl : l.length < small) (hld : ∀ p ∈ l, p.2.length < small) :
    gF vTab M Q Pm 44 [.sl 2 (l.map pairC)] [] 0 = some (.ptr 1 0, [tabO (l.foldl stepP ([], 0)), .row [.map 0]], 0) := by
  refine gF_of (fn := v44) (hp 44 (by decide) (by decide)) rfl rfl ?_
  have a := t44_a (M := M) hp hq hc l hl hld (seqK vTab M Q Pm v44 (.seq (.region v44_8) .ret) (kE 0 v44 (.ptr 1 0, [tabO (l.foldl stepP ([], 0)), .row [.map 0]], 0))) l.length 0 ([], 0) (by omega) (by simp [v44_8])
  simp [tabO] at a
  simp [v44_body, v44_0, v44_1, v44_2, tabO]
  exact a
end Go.RE
namespace Go.RE
def ixN (s : Vs) (b : List UInt8) (n : Int) : Option (U × Vs) := if 0 ≤ n then (match b[n.toNat]? with | some c => some (.int .u8 c.toNat, s) | none => none) else none
def ixO (s : Vs) : Option U → Option U → Option (U × Vs)
  | some (.str b), some (.int _ n) => ixN s b n
  | _, _ => none
@[simp] theorem ixO_some (s : Vs) (b : List UInt8) (k : IntKind) (n : Int) : ixO s (some (.str b)) (some (.int k n)) = ixN s b n := rfl
@[simp] theorem opS_index (d : Nat) (s : Vs) (x i : Opd) : opS d s (.index x i) = ixO s (evO s.e x) (evO s.e i) := by
  simp only [opS]
  cases evO s.e x with
  | none => rfl
  | some v =>
    cases v with
    | str b =>
      cases evO s.e i with
      | none => rfl
      | some w => cases w <;> rfl
    | _ => rfl
theorem ixN_at {s : Vs} {b : List UInt8} {i : Nat} {c : UInt8} (h : b[i]? = some c) : ixN s b (i : Int) = some (.int .u8 c.toNat, s) := by
  unfold ixN
  rw [if_pos (Int.natCast_nonneg i), Int.toNat_natCast, h]
def ssS (s : Vs) (b : List UInt8) (h : Nat) : Option Nat → Option (U × Vs)
  | some l => some (.str ((b.take h).drop l), s)
  | none => none
@[simp] theorem ssS_some (s : Vs) (b : List UInt8) (h l : Nat) : ssS s b h (some l) = some (.str ((b.take h).drop l), s) := rfl
def ssH (s : Vs) (lo : Option Opd) (b : List UInt8) : Option Nat → Option (U × Vs)
  | some h => ssS s b h (optNatU s.e lo 0 h)
  | none => none
@[simp] theorem ssH_some (s : Vs) (lo : Option Opd) (b : List UInt8) (h : Nat) : ssH s lo b (some h) = ssS s b h (optNatU s.e lo 0 h) := rfl
def ssV (s : Vs) (lo hi : Option Opd) : U → Option (U × Vs)
  | .str b => ssH s lo b (optNatU s.e hi b.length b.length)
  | _ => none
@[simp] theorem ssV_str (s : Vs) (lo hi : Option Opd) (b : List UInt8) : ssV s lo hi (.str b) = ssH s lo b (optNatU s.e hi b.length b.length) := rfl
@[simp] theorem optNatU_none (e : Env) (d m : Nat) : optNatU e none d m = some d := rfl
def onV (most : Nat) : Option U → Option Nat
  | some v => asNatU v most
  | none => none
@[simp] theorem onV_some (most : Nat) (v : U) : onV most (some v) = asNatU v most := rfl
def iaA (s : Vs) (len w : Nat) : Option U → Option U → Option (U × Vs)
  | some (.ptr j off), some (.int _ n) => if 0 ≤ n ∧ n < (len : Int) then some (.ptr j (off + n.toNat * w), s) else none
  | some (.cptr row off), some (.int _ n) => if 0 ≤ n ∧ n < (len : Int) then some (.cptr row (off + n.toNat * w), s) else none
  | _, _ => none
@[simp] theorem iaA_ptr (s : Vs) (len w j off : Nat) (k : IntKind) (n : Int) : iaA s len w (some (.ptr j off)) (some (.int k n)) = if 0 ≤ n ∧ n < (len : Int) then some (.ptr j (off + n.toNat * w), s) else none := rfl
@[simp] theorem iaA_cptr (s : Vs) (len w off : Nat) (row : List U) (k : IntKind) (n : Int) : iaA s len w (some (.cptr row off)) (some (.int k n)) = if 0 ≤ n ∧ n < (len : Int) then some (.cptr row (off + n.toNat * w), s) else none := rfl
def mxO (f : U → U → Option U) (s : Vs) : Option (List U) → Option (U × Vs)
  | some (v :: vs) => pairV s (foldU f v vs)
  | _ => none
@[simp] theorem mxO_some (f : U → U → Option U) (s : Vs) (v : U) (vs : List U) : mxO f s (some (v :: vs)) = pairV s (foldU f v vs) := rfl
def fdO (f : U → U → Option U) (r : List U) : Option U → Option U
  | some c => foldU f c r
  | none => none
@[simp] theorem fdO_some (f : U → U → Option U) (r : List U) (c : U) : fdO f r (some c) = foldU f c r := rfl
@[simp] theorem foldU_nil (f : U → U → Option U) (a : U) : foldU f a [] = some a := rfl
def asV (t : Nat) (z : U) (s : Vs) : U → Option (U × Vs)
  | .nili => some (.tup [z, .bool false], s)
  | .iface u v => some (if u = t then .tup [v, .bool true] else .tup [z, .bool false], s)
  | _ => none
@[simp] theorem asV_nili (t : Nat) (z : U) (s : Vs) : asV t z s .nili = some (.tup [z, .bool false], s) := rfl
@[simp] theorem asV_iface (t u : Nat) (z v : U) (s : Vs) : asV t z s (.iface u v) = some (if u = t then .tup [v, .bool true] else .tup [z, .bool false], s) := rfl
def asO (t : Nat) (s : Vs) : Option U → Option U → Option (U × Vs)
  | some z, some x => asV t z s x
  | _, _ => none
@[simp] theorem asO_some (t : Nat) (s : Vs) (z x : U) : asO t s (some z) (some x) = asV t z s x := rfl
section
variable {M : Nat → String → Option Nat} {Q : Mut} {F : FU}
def inM (F : FU) (s : Vs) (d : Nat) (args : List U) : Option Nat → Option (U × Vs)
  | some f => callU F d f args s
  | none => none
@[simp] theorem inM_some (s : Vs) (d f : Nat) (args : List U) : inM F s d args (some f) = callU F d f args s := rfl
def inO (M : Nat → String → Option Nat) (F : FU) (s : Vs) (d : Nat) (name : String) : Option U → Option (List U) → Option (U × Vs)
  | some (.iface t v), some vs => inM F s d (v :: vs) (M t name)
  | _, _ => none
@[simp] theorem inO_some (s : Vs) (d : Nat) (name : String) (t : Nat) (v : U) (vs : List U) : inO M F s d name (some (.iface t v)) (some vs) = inM F s d (v :: vs) (M t name) := rfl
@[simp] theorem opC_invoke (s : Vs) (dst : Option Nat) (name : String) (x : Opd) (args : List Opd) : opC M Q F s dst (.invoke name x args) = inO M F s (dst.getD 0) name (evO s.e x) (evOs s.e args) := by
  simp only [opC]
  cases evO s.e x with
  | none => rfl
  | some v =>
    cases v with
    | iface t v =>
      cases evOs s.e args with
      | none => rfl
      | some vs => simp only [inO, inM]; cases M t name <;> rfl
    | _ => rfl
end
@[simp] theorem iaV_ownI (s : Vs) (w w' : Nat) (g : Tg) (xs : List (List U)) (k : IntKind) (n : Int) : iaV s w (some (.own g w' xs)) (some (.int k n)) = if 0 ≤ n ∧ n < (xs.length : Int) then (bif Nat.beq w' w then some (.optr g n.toNat 0, s) else none) else none := rfl
@[simp] theorem toP_int (k : IntKind) (n : Int) : (V.int k n).toP = some (.int k n) := rfl
@[simp] theorem toP_bool (b : Bool) : (V.bool b).toP = some (.bool b) := rfl
@[simp] theorem toP_str (b : List UInt8) : (V.str b).toP = some (.str b) := rfl
@[simp] theorem toP_nilp : V.nilp.toP = some .nilp := rfl
@[simp] theorem toP_nili : V.nili.toP = some .nili := rfl
@[simp] theorem toP_cs0 (w : Nat) : (V.cslice [] 0 0 w).toP = some (.sl w []) := rfl
@[simp] theorem toP_agg (cs : List V) : (V.agg cs).toP = bif (V.toUs cs).all U.cellok then some (.agg (V.toUs cs)) else none := by
  simp only [V.toP, V.toU]
  cases (V.toUs cs).all U.cellok <;> rfl
def fqO (neg : Bool) : Option Bool → Option U
  | some b => some (.bool (b != neg))
  | none => none
@[simp] theorem fqO_some (neg b : Bool) : fqO neg (some b) = some (.bool (b != neg)) := rfl
@[simp] theorem flatEqU_nil (a b : List U) : flatEqU [] a b = some true := rfl
def fqA (a : Bool) : Option Bool → Option Bool
  | some b => some (a && b)
  | none => bif a then none else some false
@[simp] theorem fqA_some (a b : Bool) : fqA a (some b) = some (a && b) := rfl
def fqP (r : List (Nat × EqK)) (xs ys : List U) : Option Bool → Option Bool
  | some a => fqA a (flatEqU r xs ys)
  | none => none
@[simp] theorem fqP_some (r : List (Nat × EqK)) (xs ys : List U) (a : Bool) : fqP r xs ys (some a) = fqA a (flatEqU r xs ys) := rfl
def fqC (k : EqK) (r : List (Nat × EqK)) (xs ys : List U) : Option U → Option U → Option Bool
  | some a, some b => fqP r xs ys (plainEqU k a b)
  | _, _ => none
@[simp] theorem fqC_some (k : EqK) (r : List (Nat × EqK)) (xs ys : List U) (a b : U) : fqC k r xs ys (some a) (some b) = fqP r xs ys (plainEqU k a b) := rfl
@[simp] theorem flatEqU_cons (o : Nat) (k : EqK) (r : List (Nat × EqK)) (xs ys : List U) : flatEqU ((o, k) :: r) xs ys = fqC k r xs ys xs[o]? ys[o]? := by
  simp only [flatEqU]
  cases xs[o]? with
  | none => rfl
  | some a =>
    cases ys[o]? with
    | none => rfl
    | some b =>
      simp only [fqC]
      cases plainEqU k a b with
      | none => rfl
      | some c =>
        cases c with
        | true => simp only [fqP]; cases flatEqU r xs ys with
          | none => rfl
          | some d => rfl
        | false => simp only [fqP]; cases flatEqU r xs ys <;> rfl
@[simp] theorem plainEqU_int (j : IntKind) (a b : Int) : plainEqU .int (.int j a) (.int j b) = some (a == b) := by simp [plainEqU, U.toV, plainEq]
@[simp] theorem plainEqU_str (a b : List UInt8) : plainEqU .str (.str a) (.str b) = some (a == b) := rfl
@[simp] theorem plainEqU_bool (a b : Bool) : plainEqU .bool (.bool a) (.bool b) = some (a == b) := rfl
def tbV (d : Nat) (s : Vs) : U → Option (U × Vs)
  | .str b => some (.own (.t d) 1 (bytesU b), s.kill (.t d))
  | _ => none
@[simp] theorem tbV_str (d : Nat) (s : Vs) (b : List UInt8) : tbV d s (.str b) = some (.own (.t d) 1 (bytesU b), s.kill (.t d)) := rfl
end Go.RE
namespace Go.RE
variable {M : Nat → String → Option Nat} {Q : Mut} {Pm : Nat → Option (List U → List Uo → Nat → Option (U × List Uo × Nat))}
theorem t107_0 (hp : NoPm Pm) : gF vTab M Q Pm 107 [.int .i64 0] [] 0 = some (.nili, [], 0) := by
  refine gF_of (fn := v107) (hp 107 (by decide) (by decide)) rfl rfl ?_
  simp [v107_body, v107_0, v107_1, v107_2]
theorem t107 (hp : NoPm Pm) (n : Int) (hn : n ≠ 0) : gF vTab M Q Pm 107 [.int .i64 n] [] 0 = some (.iface 43 (.int .i64 n), [], 0) := by
  refine gF_of (fn := v107) (hp 107 (by decide) (by decide)) rfl rfl ?_
  simp [v107_body, v107_0, v107_1, v107_3, hn]
theorem t167_0 (hp : NoPm Pm) (p : By) : gF vTab M Q Pm 167 [.str p, .nili] [] 0 = some (.nili, [], 0) := by
  refine gF_of (fn := v167) (hp 167 (by decide) (by decide)) rfl rfl ?_
  simp [v167_body, v167_0, v167_1, v167_2]
theorem t167 (hp : NoPm Pm) (p : By) (t : Nat) (v : U) (hv : v.low 0 = true) : gF vTab M Q Pm 167 [.str p, .iface t v] [] 0 = some (.iface 191 (.ptr 0 0), [.row [.str p, .iface t v]], 0) := by
  refine gF_of (fn := v167) (hp 167 (by decide) (by decide)) rfl rfl ?_
  simp [v167_body, v167_0, v167_1, v167_3, hv]
theorem strV_own (s : Vs) (g : Tg) (xs : List (List U)) : strV s (.own g 1 xs) = (unbytes xs).bind fun bs => some (.str bs, s) := by simp [strV, rowsOf]
theorem unbytes_nil : unbytes [] = some [] := rfl
theorem unbytes_cons (b : UInt8) (r : List (List U)) : unbytes ([.int .u8 b.toNat] :: r) = (unbytes r).bind fun bs => some (b :: bs) := by
  simp only [unbytes, byteOfU]
  have : UInt8.ofNat (b.toNat : Int).toNat = b := by simp
  rw [this]
  cases unbytes r <;> rfl
theorem t106_0 (hp : NoPm Pm) (hq : NoQ Q) (b : UInt8) : gF vTab M Q Pm 106 [.int .u8 b.toNat, .nili] [] 0 = some (.nili, [], 0) := by
  refine gF_of (fn := v106) (hp 106 (by decide) (by decide)) rfl rfl ?_
  simp [v106_body, v106_0, v106_1, hq, t167_0 hp, strV_own, unbytes_nil, unbytes_cons]
theorem t99 (hp : NoPm Pm) (s : By) : gF vTab M Q Pm 99 [.str s] [] 0 = some (.agg [.int .u8 105, .str [], .str [], .str [], .str s, .int .u64 0, .int .u64 0, .int .u64 0], [], 0) := by
  refine gF_of (fn := v99) (hp 99 (by decide) (by decide)) rfl rfl ?_
  simp [v99_body, v99_0, v99_1]
theorem t171_i (hp : NoPm Pm) : gF vTab M Q Pm 171 [.int .u8 105] [] 0 = some (.tup [.str [105], .bool true], [], 0) := by
  refine gF_of (fn := v171) (hp 171 (by decide) (by decide)) rfl rfl ?_
  simp [v171_body, v171_0, v171_1, v171_2, v171_3, v171_4, v171_5, v171_6, v171_7, v171_8, v171_9, v171_10, v171_11, v171_12, v171_13, v171_14, v171_23]
def escB1 (b : UInt8) : By := if b = 0 then [0, 255] else [b]
def escP (s : By) : By := s.flatMap escB1
def keyB (k : UInt8) (l : List By) : By := k :: l.flatMap fun s => escP s ++ [0, 1]
theorem bytes_app (a b : By) : bytesU (a ++ b) = bytesU a ++ bytesU b := by simp [bytesU]
attribute [simp] bytes_len
theorem bytes_cons (a : UInt8) (r : By) : bytesU (a :: r) = [.int .u8 a.toNat] :: bytesU r := rfl
theorem bytes_nil : bytesU [] = [] := rfl
theorem escB1_len (b : UInt8) : (escB1 b).length ≤ 2 := by unfold escB1; split <;> simp
theorem fewB {n : Nat} (h : n < small) : n + 1 ≤ big ∧ n + 2 ≤ big := by unfold small at h; unfold big; omega
theorem u8_zero (b : UInt8) : ((b.toNat : Int) == 0) = decide (b = 0) := by
  cases h : decide (b = 0) with
  | true => have := of_decide_eq_true h; subst this; rfl
  | false =>
    have hb := of_decide_eq_false h
    rw [beq_eq_false_iff_ne]
    intro hh
    apply hb
    exact UInt8.toNat_inj.1 (by simpa using hh)
theorem t227_a (s : By) (ps : List (List U)) (n' i' : Int) (K : Ex → Vs → Prop) (hl : s.length < small) : ∀ (j i : Nat) (acc : By), i + j = s.length → acc.length + 2 * j < small →
    K .normal ⟨[(11, .sl 1 ps), (12, .int .i64 n'), (13, .int .i64 i'), (5, .own (.t 5) 1 (bytesU (acc ++ escP (s.drop i))))], [], 0⟩ →
    gL vTab M Q Pm v227 2 v227_b12 0 ⟨[(19, .int .i64 (i : Int)), (7, .str s), (5, .own (.t 5) 1 (bytesU acc)), (11, .sl 1 ps), (12, .int .i64 n'), (13, .int .i64 i'), (18, .int .i64 (s.length : Int))], [], 0⟩ K := by
  intro j
  induction j with
  | zero =>
    intro i acc hi ho hK
    have h1 : ¬ ((i : Int) < (s.length : Int)) := by omega
    have h2 : s.drop i = [] := List.drop_of_length_le (by omega)
    rw [h2] at hK
    rw [gL_round v227_b12.eq_1]
    simp [v227_6, h1, escP] at hK ⊢
    exact hK
  | succ j ih =>
    intro i acc hi ho hK
    have h1 : ((i : Int) < (s.length : Int)) := by omega
    have hi1 : i < s.length := by omega
    have e1 : s[i]? = some s[i] := by simp [hi1]
    have e3 : wrapA .i64 ((i : Int) + 1) = ((i + 1 : Nat) : Int) := wrap_succ (by unfold small at hl; omega)
    have d1 : s.drop i = s[i] :: s.drop (i + 1) := List.drop_eq_getElem_cons hi1
    obtain ⟨f1, f2⟩ := fewB (n := acc.length) (by omega)
    rw [d1] at hK
    rw [gL_round v227_b12.eq_1]
    generalize s[i] = b at *
    cases hb : decide (b = 0) with
    | true =>
      have := of_decide_eq_true hb; subst this
      have ih' := ih (i + 1) (acc ++ [0, 255]) (by omega) (by simp; omega)
      simp [escP, escB1, bytes_app, bytes_cons, bytes_nil] at hK ih'
      simp [v227_6, v227_7, v227_8, v227_9, v227_10, v227_11, h1, ixN_at e1, e3, f1, f2]
      exact ih' hK
    | false =>
      have hb' := of_decide_eq_false hb
      have ih' := ih (i + 1) (acc ++ [b]) (by omega) (by simp; omega)
      simp [escP, escB1, bytes_app, hb', bytes_cons, bytes_nil] at hK ih'
      simp [v227_6, v227_7, v227_8, v227_9, v227_11, h1, ixN_at e1, e3, f1, f2, u8_zero, hb']
      exact ih' hK
theorem keyB_snoc (k : UInt8) (l : List By) (s : By) : keyB k (l ++ [s]) = keyB k l ++ escP s ++ [0, 1] := by simp [keyB]
theorem keyB_split (k : UInt8) (a b : List By) (s : By) : (keyB k a).length ≤ (keyB k (a ++ s :: b)).length ∧ s.length ≤ ((a ++ s :: b).map List.length).sum := by
  constructor
  · simp [keyB]
  · simp; omega
theorem escP_len (s : By) : (escP s).length ≤ 2 * s.length := by
  unfold escP
  induction s with
  | nil => simp
  | cons b r ih => have := escB1_len b; simp at ih ⊢; omega
theorem t227_b (k : UInt8) (l : List By) (hl : l.length < small) (K : Ex → Vs → Prop) : ∀ (j i : Nat), i + j = l.length → (∀ s ∈ l, s.length < small) →
    (keyB k l).length + 2 * (l.map List.length).sum < small →
    K .normal ⟨[(5, .own (.t 5) 1 (bytesU (keyB k l)))], [], 0⟩ →
    gL vTab M Q Pm v227 0 v227_b15 0 ⟨[(5, .own (.t 5) 1 (bytesU (keyB k (l.take i)))), (13, .int .i64 (i : Int)), (11, .sl 1 (l.map fun s => [.str s])), (12, .int .i64 (l.length : Int))], [], 0⟩ K := by
  intro j
  induction j with
  | zero =>
    intro i hi hs hb hK
    have h1 : ¬ ((i : Int) < (l.length : Int)) := by omega
    have h2 : l.take i = l := List.take_of_length_le (by omega)
    rw [gL_round v227_b15.eq_1, h2]
    simp [v227_3, h1] at hK ⊢
    exact hK
  | succ j ih =>
    intro i hi hs hb hK
    have h1 : ((i : Int) < (l.length : Int)) := by omega
    have hi1 : i < l.length := by omega
    have e1 : (l.map fun s => [U.str s])[i]? = some [.str l[i]] := by simp [hi1]
    have e3 : wrapA .i64 ((i : Int) + 1) = ((i + 1 : Nat) : Int) := wrap_succ (by unfold small at hl; omega)
    have ih' := ih (i + 1) (by omega) hs hb hK
    have d2 : l.take (i + 1) = l.take i ++ [l[i]] := by simp
    have hlen : (keyB k (l.take i)).length + 2 * l[i].length < small := by
      have a1 : l.take i ++ l[i] :: l.drop (i + 1) = l := by rw [← List.drop_eq_getElem_cons hi1, List.take_append_drop]
      have a2 := keyB_split k (l.take i) (l.drop (i + 1)) l[i]
      rw [a1] at a2
      omega
    have hlen2 : (keyB k (l.take i)).length + (escP l[i]).length + 2 ≤ big := by
      have := escP_len l[i]
      unfold small at hlen; unfold big; omega
    have hin := t227_a (M := M) (Q := Q) (Pm := Pm) l[i] (l.map fun s => [.str s]) (l.length : Int) (i : Int)
    rw [d2, keyB_snoc] at ih'
    rw [gL_round v227_b15.eq_1]
    simp [v227_3, v227_4, v227_5, h1, iaV_sl e1]
    refine hin _ (hs _ (List.getElem_mem hi1)) l[i].length 0 _ (by omega) (by omega) ?_
    simp only [List.drop_zero]
    simp [bytes_app, bytes_cons, bytes_nil] at ih'
    simp [v227_13, v227_14, e3, bytes_app, bytes_cons, bytes_nil, hlen2]
    exact ih'
theorem t227 (hp : NoPm Pm) (k : UInt8) (l : List By) (hl : l.length < small) (hs : ∀ s ∈ l, s.length < small) (hb : (keyB k l).length + 2 * (l.map List.length).sum < small) :
    gF vTab M Q Pm 227 [.int .u8 k.toNat, .sl 1 (l.map fun s => [.str s])] [] 0 = some (.str (keyB k l), [], 0) := by
  refine gF_of (fn := v227) (hp 227 (by decide) (by decide)) rfl rfl ?_
  have h := t227_b (M := M) (Q := Q) (Pm := Pm) k l hl (seqK vTab M Q Pm v227 (.seq (.region v227_16) .ret) (kE 0 v227 (.str (keyB k l), [], 0))) l.length 0 (by omega) hs hb (by simp [v227_16])
  simp [keyB, bytes_cons, bytes_nil] at h
  simp [v227_body, v227_0, v227_1, v227_2]
  exact h
@[simp] theorem cut_same (h : List Uo) (fl : Nat) : cut h.length fl h = h := by unfold cut; exact List.take_of_length_le (Nat.le_max_left _ _)
theorem t172_i (hp : NoPm Pm) (h : List Uo) (fl i : Nat) (hi : i < h.length) : gF vTab M Q Pm 172 [.ptr i 0, .int .u8 105] h fl = some (.ptr i 4, h, fl) := by
  refine gF_of (fn := v172) (hp 172 (by decide) (by decide)) rfl rfl ?_
  have hi' : decide (i < h.length) = true := decide_eq_true hi
  simp [v172_body, v172_0, v172_1, v172_2, v172_4, v172_6, v172_8, v172_9, hi']
theorem wrap1 : wrapA .i64 1 = 1 := by decide
theorem t168_i (hp : NoPm Pm) (hq : NoQ Q) (s : By) : gF vTab M Q Pm 168 [.agg [.int .u8 105, .str [], .str [], .str [], .str s, .int .u64 0, .int .u64 0, .int .u64 0]] [] 0 =
    some (.tup [.sl 1 [[.str s]], .agg [.int .u8 105, .str [], .str [], .str [], .str [], .int .u64 0, .int .u64 0, .int .u64 0], .int .i64 0], [], 0) := by
  refine gF_of (fn := v168) (hp 168 (by decide) (by decide)) rfl rfl ?_
  simp [v168_body, v168_0, v168_1, hq, t171_i hp, v168_2, v168_4, v168_5]
  rw [gL_round v168_b16.eq_1]
  have h172 := t172_i (M := M) (Q := Q) hp [.row [.int .u8 105, .str [], .str [], .str [], .str s, .int .u64 0, .int .u64 0, .int .u64 0], .row [.int .u8 0, .str [], .str [], .str [], .str [], .int .u64 0, .int .u64 0, .int .u64 0]] 0 0 (by simp)
  simp [v168_6, v168_7, v168_8, ixN, hq, h172, v168_9, v168_10, v168_11, v168_15, big]
  rw [gL_round v168_b16.eq_1]
  simp [v168_6, gC_drw v168_17h, v168_17s, wrap1]
abbrev refI (s : By) : U := .agg [.int .u8 105, .str [], .str [], .str [], .str s, .int .u64 0, .int .u64 0, .int .u64 0]
theorem t166_i (hp : NoPm Pm) (hq : NoQ Q) (s : By) (hs : s.length < 1000) : gF vTab M Q Pm 166 [refI s] [] 0 = some (.tup [.str (keyB 105 [s]), .int .i64 0], [], 0) := by
  refine gF_of (fn := v166) (hp 166 (by decide) (by decide)) rfl rfl ?_
  have hl := escP_len s
  have h227 := t227 (M := M) (Q := Q) (Pm := Pm) hp 105 [s] (by unfold small; simp) (by unfold small; simp; omega) (by unfold small; simp [keyB]; omega)
  simp at h227
  simp [v166_body, v166_0, v166_1, hq, t168_i hp hq, v166_2, v166_4, v166_6, h227]
theorem t104 (hp : NoPm Pm) (hq : NoQ Q) (s : Spn) (k : By) (h : List Uo) (fl i : Nat) (hf : fl ≤ h.length) (hi : h[i]? = some (.row [.str k])) : gF vTab M Q Pm 104 [.agg (spC s), .ptr i 0] h fl = some (.bool (has s.1 s.2 k), h, fl) := by
  refine gF_of (fn := v104) (hp 104 (by decide) (by decide)) rfl rfl ?_
  have hlt := (List.getElem?_eq_some_iff.1 hi).1
  have e1 := at_old (l := [Uo.row [.str s.1, .str s.2]]) hi
  simp [v104_body, v104_0, v104_1, spC, hq, e1, t58 (hp 58 (by decide) (by decide)), cut0 hf]
def idxB (l : List Spn) (k : By) (i : Nat) : Int := match l with
  | [] => -1
  | s :: r => if has s.1 s.2 k = true then (i : Int) else idxB r k (i + 1)
theorem idxB_any : ∀ (l : List Spn) (k : By) (i : Nat), decide (0 ≤ idxB l k i) = inB l k := by
  intro l
  induction l with
  | nil => intro k i; rfl
  | cons s r ih =>
    intro k i
    have h1 : inB (s :: r) k = (has s.1 s.2 k || inB r k) := rfl
    have h2 : idxB (s :: r) k i = if has s.1 s.2 k = true then (i : Int) else idxB r k (i + 1) := rfl
    rw [h1, h2]
    by_cases hk : has s.1 s.2 k = true
    · rw [if_pos hk, hk]; simp
    · rw [if_neg hk, ih k (i + 1)]; simp at hk; rw [hk]; rfl
theorem t165_a (hp : NoPm Pm) (hq : NoQ Q) (l : List Spn) (k : By) (hl : l.length < small) (h : List Uo) (fl p : Nat) (hf : fl ≤ h.length) (hi : h[p]? = some (.row [.str k])) : ∀ (j i : Nat), i + j = l.length →
    gL vTab M Q Pm v165 0 v165_b7 h.length ⟨[(8, .int .i64 (i : Int)), (0, .sl 2 (l.map spC)), (1, .func 104 [] [.ptr p 0]), (7, .int .i64 (l.length : Int))], h, fl⟩ (seqK vTab M Q Pm v165 (.seq (.region v165_8) .ret) (kE h.length v165 (.int .i64 (idxB (l.drop i) k i), h, fl))) := by
  have hlt := (List.getElem?_eq_some_iff.1 hi).1
  have hlt' : decide (p < h.length) = true := decide_eq_true hlt
  intro j
  induction j with
  | zero =>
    intro i hij
    have h1 : ¬ ((i : Int) < (l.length : Int)) := by omega
    have h2 : l.drop i = [] := List.drop_of_length_le (by omega)
    rw [gL_round v165_b7.eq_1, h2]
    simp [v165_2, h1, v165_8, idxB]
  | succ j ih =>
    intro i hij
    have h1 : ((i : Int) < (l.length : Int)) := by omega
    have hi1 : i < l.length := by omega
    have e1 : (l.map spC)[i]? = some (spC l[i]) := by simp [hi1]
    have e3 : wrapA .i64 ((i : Int) + 1) = ((i + 1 : Nat) : Int) := wrap_succ (by unfold small at hl; omega)
    have d1 : l.drop i = l[i] :: l.drop (i + 1) := List.drop_eq_getElem_cons hi1
    have ih' := ih (i + 1) (by omega)
    have c104 := t104 (M := M) hp hq l[i] k h fl p hf hi
    rw [gL_round v165_b7.eq_1, d1]
    cases hk : has l[i].1 l[i].2 k with
    | true =>
      rw [hk] at c104
      simp [spC] at c104
      simp [v165_2, v165_3, v165_4, v165_5, h1, iaV_sl e1, spC, hq, c104, idxB, hk, hlt']
    | false =>
      rw [hk] at c104
      simp [spC] at c104
      simp [v165_8] at ih'
      simp [v165_2, v165_3, v165_4, v165_6, h1, iaV_sl e1, spC, hq, c104, idxB, hk, hlt', e3, v165_8]
      exact ih'
theorem t165 (hp : NoPm Pm) (hq : NoQ Q) (l : List Spn) (k : By) (hl : l.length < small) (h : List Uo) (fl p : Nat) (hf : fl ≤ h.length) (hi : h[p]? = some (.row [.str k])) :
    gF vTab M Q Pm 165 [.sl 2 (l.map spC), .func 104 [] [.ptr p 0]] h fl = some (.int .i64 (idxB l k 0), h, fl) := by
  refine gF_of (fn := v165) (hp 165 (by decide) (by decide)) rfl rfl ?_
  have h1 := t165_a (M := M) hp hq l k hl h fl p hf hi l.length 0 (by omega)
  have hlt' : decide (p < h.length) = true := decide_eq_true (List.getElem?_eq_some_iff.1 hi).1
  simp only [List.drop_zero] at h1
  simp [v165_body, v165_0, v165_1, hlt']
  exact h1
theorem t103 (hp : NoPm Pm) (hq : NoQ Q) (l : List Spn) (k : By) (hl : l.length < small) (h : List Uo) (fl p : Nat) (hf : fl ≤ h.length) (hi : h[p]? = some (.row [.str k])) :
    gF vTab M Q Pm 103 [.sl 2 (l.map spC), .func 104 [] [.ptr p 0]] h fl = some (.bool (inB l k), h, fl) := by
  refine gF_of (fn := v103) (hp 103 (by decide) (by decide)) rfl rfl ?_
  have hlt' : decide (p < h.length) = true := decide_eq_true (List.getElem?_eq_some_iff.1 hi).1
  simp [v103_body, v103_0, v103_1, hq, hlt', t165 hp hq l k hl h fl p hf hi]
  exact idxB_any l k 0
theorem t59 (hp : NoPm Pm) (hq : NoQ Q) (l : List Spn) (k : By) (hl : l.length < small) : gF vTab M Q Pm 59 [.sl 2 (l.map spC), .str k] [] 0 = some (.bool (inB l k), [], 0) := by
  refine gF_of (fn := v59) (hp 59 (by decide) (by decide)) rfl rfl ?_
  simp [v59_body, v59_0, v59_1, hq, t103 hp hq l k hl [.row [.str k]] 0 0 (by simp) rfl]
theorem t60 (hp : NoPm Pm) (lo hi : By) : gF vTab M Q Pm 60 [.str lo, .str hi] [] 0 = some (.iface 45 (.agg [.str lo, .str hi]), [], 0) := by
  refine gF_of (fn := v60) (hp 60 (by decide) (by decide)) rfl rfl ?_
  simp [v60_body, v60_0, v60_1]
def liveH : List Uo := [.map [] 0, .row [.map 0], .map [] 0, .row [.ptr 1 0, .map 2, .nl 2], .map [] 0, .row [.iface 58 (.ptr 3 0), .map 4]]
theorem t25 (hp : NoPm Pm) (hq : NoQ Q) (hc : Pm 49 = some cloneP) : gF vTab M Q Pm 25 [] [] 0 = some (.ptr 3 0, [.map [] 0, .row [.map 0], .map [] 0, .row [.ptr 1 0, .map 2, .nl 2]], 0) := by
  refine gF_of (fn := v25) (hp 25 (by decide) (by decide)) rfl rfl ?_
  have h44 := t44 (M := M) hp hq hc [] (by decide) (fun p hp => by cases hp)
  simp [tabO] at h44
  simp [v25_body, v25_0, v25_1, hq, h44, shiftO_map]
theorem t33 (hp : NoPm Pm) : gF vTab M Q Pm 33 [.iface 58 (.ptr 3 0)] [.map [] 0, .row [.map 0], .map [] 0, .row [.ptr 1 0, .map 2, .nl 2]] 0 = some (.ptr 5 0, liveH, 0) := by
  refine gF_of (fn := v33) (hp 33 (by decide) (by decide)) rfl rfl ?_
  simp [v33_body, v33_0, v33_1, v33_3, liveH]
def zI : Uo := .row [.str [], .int .u64 0, .int .i64 0, .str [], .int .u64 0]
def rI (s : By) : Uo := .row [.int .u8 105, .str [], .str [], .str [], .str s, .int .u64 0, .int .u64 0, .int .u64 0]
def liveX (s : By) : List Uo := [.map [] 0, .row [.map 0], .map [] 0, .row [.ptr 1 0, .map 2, .nl 2], .map [] 0, .row [.iface 58 (.ptr 3 0), .map 4], zI, rI s, zI, zI, rI s]
def liveY (s : By) : List Uo := [.map [] 0, .row [.map 0], .map [] 0, .row [.ptr 1 0, .map 2, .nl 2], .map [] 0, .row [.iface 58 (.ptr 3 0), .map 4], zI, rI s, zI, zI, rI s, .row [.bool false, .sl 1 []]]
def liveZ (s k : By) : List Uo := [.map [] 0, .row [.map 0], .map [] 0, .row [.ptr 1 0, .map 2, .nl 2], .map [] 0, .row [.iface 58 (.ptr 3 0), .map 4], zI, rI s, zI, zI, rI s, .row [.bool false, .sl 1 []], .row [.str [105], .iface 45 (.agg [.str k, .str k])]]
theorem t105_i (hp : NoPm Pm) (hq : NoQ Q) (s : By) (hs : s.length < 1000) : gF vTab M Q Pm 105 [.ptr 5 0, refI s] (liveX s) 0 = some (.tup [.str (keyB 105 [s]), .nili], liveX s, 0) := by
  refine gF_of (fn := v105) (hp 105 (by decide) (by decide)) rfl rfl ?_
  have h106 := t106_0 (M := M) (Q := Q) (Pm := Pm) hp hq 105
  simp at h106
  simp [v105_body, v105_0, v105_1, v105_3, liveX, zI, rI, hq, t166_i hp hq s hs, gC_drw v105_4h, v105_4s, t107_0 hp, h106, Nat.testBit_eq_decide_div_mod_eq]
  rfl
theorem t28_i (hp : NoPm Pm) (hq : NoQ Q) (s k : By) : gF vTab M Q Pm 28 [.ptr 3 0, .str k] (liveY s) 0 = some (.tup [.sl 1 [], .bool false, .iface 45 (.agg [.str k, .str k])], liveY s, 0) := by
  refine gF_of (fn := v28) (hp 28 (by decide) (by decide)) rfl rfl ?_
  have h59 := t59 (M := M) (Q := Q) (Pm := Pm) hp hq [] k (by decide)
  simp [inB] at h59
  simp [v28_body, v28_0, v28_1, v28_2, liveY, zI, rI, hq, h59, t60 hp, lookupU, findU, plainKeyU, U.toV, plainKey]
  rfl
theorem t106_n (hp : NoPm Pm) (hq : NoQ Q) (b : UInt8) (k : By) : gF vTab M Q Pm 106 [.int .u8 b.toNat, .iface 45 (.agg [.str k, .str k])] [] 0 = some (.iface 191 (.ptr 0 0), [.row [.str [b], .iface 45 (.agg [.str k, .str k])]], 0) := by
  refine gF_of (fn := v106) (hp 106 (by decide) (by decide)) rfl rfl ?_
  simp [v106_body, v106_0, v106_1, hq, strV_own, unbytes_nil, unbytes_cons, t167 hp [b] 45 (.agg [.str k, .str k]) (by simp)]
theorem t64_i (hp : NoPm Pm) (hq : NoQ Q) (hm : M 58 "Get" = some 28) (s : By) (hs : s.length < 1000) : gF vTab M Q Pm 64 [.ptr 5 0, refI s] [.map [] 0, .row [.map 0], .map [] 0, .row [.ptr 1 0, .map 2, .nl 2], .map [] 0, .row [.iface 58 (.ptr 3 0), .map 4], zI, rI s, zI, zI] 0 =
    some (.tup [.sl 1 [], .bool false, .iface 191 (.ptr 12 0)], liveZ s (keyB 105 [s]), 0) := by
  refine gF_of (fn := v64) (hp 64 (by decide) (by decide)) rfl rfl ?_
  have h105 := t105_i (M := M) hp hq s hs
  have h28 := t28_i (M := M) hp hq s (keyB 105 [s])
  have h106 := t106_n (M := M) hp hq 105 (keyB 105 [s])
  simp [liveX, liveY, zI, rI] at h105 h28 h106
  generalize keyB 105 [s] = k at *
  simp [v64_body, v64_0, v64_1, v64_2, v64_4, v64_5, v64_7, v64_8, v64_9, liveZ, zI, rI, hq, hm, h105, h28, h106, lookupU, findU, plainKeyU, U.toV, plainKey]
theorem t98_i (hp : NoPm Pm) (hq : NoQ Q) (hm : M 58 "Get" = some 28) (s : By) (hs : s.length < 1000) : gF vTab M Q Pm 98 [.ptr 5 0, refI s, .func 100 [] []] [.map [] 0, .row [.map 0], .map [] 0, .row [.ptr 1 0, .map 2, .nl 2], .map [] 0, .row [.iface 58 (.ptr 3 0), .map 4], zI] 0 =
    some (.tup [.agg [.str [], .int .u64 0, .int .i64 0, .str [], .int .u64 0], .bool false, .iface 191 (.ptr 12 0)], liveZ s (keyB 105 [s]), 0) := by
  refine gF_of (fn := v98) (hp 98 (by decide) (by decide)) rfl rfl ?_
  have h64 := t64_i (M := M) hp hq hm s hs
  simp [liveZ, zI, rI] at h64
  generalize keyB 105 [s] = k at *
  simp [v98_body, v98_0, v98_1, v98_2, v98_3, v98_4, liveZ, zI, rI, hq, h64]
theorem t42_i (hp : NoPm Pm) (hq : NoQ Q) (hm : M 58 "Get" = some 28) (s : By) (hs : s.length < 1000) : gF vTab M Q Pm 42 [.ptr 5 0, .str s] liveH 0 =
    some (.tup [.agg [.str [], .int .u64 0, .int .i64 0, .str [], .int .u64 0], .bool false, .iface 191 (.ptr 12 0)], liveZ s (keyB 105 [s]), 0) := by
  refine gF_of (fn := v42) (hp 42 (by decide) (by decide)) rfl rfl ?_
  have h98 := t98_i (M := M) hp hq hm s hs
  simp [liveZ, zI, rI] at h98
  generalize keyB 105 [s] = k at *
  simp [v42_body, v42_0, v42_1, liveZ, zI, rI, liveH, hq, t99 hp, h98]
def asShU : Nat → U → Bool
  | 45, .agg [.str _, .str _] => true
  | 43, .int .i64 _ => true
  | 191, .ptr _ _ => true
  | _, _ => false
def asWalk (h : List Uo) (tt : Nat) : Nat → U → Option (Option U)
  | 0, _ => none
  | n + 1, .iface t v => bif Nat.beq t tt then (bif asShU tt v then some (some v) else none) else
    bif Nat.beq t 43 || Nat.beq t 45 then some none else
    bif Nat.beq t 191 then (match v with
      | .ptr i 0 => (match h[i]? with
        | some (.row [.str _, .nili]) => some none
        | some (.row [.str _, .iface t' v']) => asWalk h tt n (.iface t' v')
        | _ => none)
      | _ => none) else none
  | _ + 1, _ => none
def asG (h : List Uo) (tt n : Nat) : Option Uo → Option (Option U)
  | some (.row [.str _, .nili]) => some none
  | some (.row [.str _, .iface t' v']) => asWalk h tt n (.iface t' v')
  | _ => none
section
variable {h : List Uo} {n : Nat} {v : U} {p : By} {t i : Nat}
@[simp] theorem asG_nil {tt : Nat} : asG h tt n (some (.row [.str p, .nili])) = some none := rfl
@[simp] theorem asG_if {tt : Nat} : asG h tt n (some (.row [.str p, .iface t v])) = asWalk h tt n (.iface t v) := rfl
@[simp] theorem asWalk_ff {o : Nat} : asWalk h 191 (n + 1) (.iface 191 (.ptr i o)) = some (some (.ptr i o)) := rfl
@[simp] theorem asWalk_nn {q : By} : asWalk h 45 (n + 1) (.iface 45 (.agg [.str p, .str q])) = some (some (.agg [.str p, .str q])) := rfl
@[simp] theorem asWalk_ee {k : Int} : asWalk h 43 (n + 1) (.iface 43 (.int .i64 k)) = some (some (.int .i64 k)) := rfl
@[simp] theorem asWalk_fn : asWalk h 191 (n + 1) (.iface 45 v) = some none := rfl
@[simp] theorem asWalk_fe : asWalk h 191 (n + 1) (.iface 43 v) = some none := rfl
@[simp] theorem asWalk_ne : asWalk h 45 (n + 1) (.iface 43 v) = some none := rfl
@[simp] theorem asWalk_en : asWalk h 43 (n + 1) (.iface 45 v) = some none := rfl
@[simp] theorem asWalk_nf : asWalk h 45 (n + 1) (.iface 191 (.ptr i 0)) = asG h 45 n h[i]? := rfl
@[simp] theorem asWalk_ef : asWalk h 43 (n + 1) (.iface 191 (.ptr i 0)) = asG h 43 n h[i]? := rfl
end
def asElem : Nat → Option Nat
  | 187 => some 45
  | 192 => some 191
  | 197 => some 43
  | _ => none
@[simp] theorem asElem_n : asElem 187 = some 45 := rfl
@[simp] theorem asElem_f : asElem 192 = some 191 := rfl
@[simp] theorem asElem_e : asElem 197 = some 43 := rfl
def asSet (h : List Uo) (fl j : Nat) (cs : List U) : Option (Option U) → Option (U × List Uo × Nat)
  | some none => some (.bool false, h, fl)
  | some (some v) => bif Nat.beq v.cells.length cs.length && v.cells.all U.cellok then some (.bool true, h.set j (.row v.cells), bif v.low (j + 1) then fl else h.length) else none
  | none => none
@[simp] theorem asSet_no (h : List Uo) (fl j : Nat) (cs : List U) : asSet h fl j cs (some none) = some (.bool false, h, fl) := rfl
@[simp] theorem asSet_some (h : List Uo) (fl j : Nat) (cs : List U) (v : U) : asSet h fl j cs (some (some v)) = bif Nat.beq v.cells.length cs.length && v.cells.all U.cellok then some (.bool true, h.set j (.row v.cells), bif v.low (j + 1) then fl else h.length) else none := rfl
def asT (h : List Uo) (fl j : Nat) (e : U) : Option Uo → Option Nat → Option (U × List Uo × Nat)
  | some (.row cs), some tt => asSet h fl j cs (asWalk h tt 64 e)
  | _, _ => none
@[simp] theorem asT_some (h : List Uo) (fl j : Nat) (e : U) (cs : List U) (tt : Nat) : asT h fl j e (some (.row cs)) (some tt) = asSet h fl j cs (asWalk h tt (63 + 1) e) := rfl
def asP : List U → List Uo → Nat → Option (U × List Uo × Nat)
  | [.nili, .iface _ _], h, fl => some (.bool false, h, fl)
  | [.iface t v, .iface tp (.ptr j 0)], h, fl => asT h fl j (.iface t v) h[j]? (asElem tp)
  | _, _, _ => none
@[simp] theorem asP_nil (t : Nat) (v : U) (h : List Uo) (fl : Nat) : asP [.nili, .iface t v] h fl = some (.bool false, h, fl) := rfl
@[simp] theorem asP_if (t tp j : Nat) (v : U) (h : List Uo) (fl : Nat) : asP [.iface t v, .iface tp (.ptr j 0)] h fl = asT h fl j (.iface t v) h[j]? (asElem tp) := rfl
theorem t97 (ha : Pm 97 = some asP) (us : List U) (h : List Uo) (fl : Nat) : gF vTab M Q Pm 97 us h fl = asP us h fl := by rw [gF_prim ha]
theorem t41_i (hp : NoPm Pm) (hq : NoQ Q) (ha : Pm 97 = some asP) (s k : By) (X : Uo) : gF vTab M Q Pm 41 [.iface 191 (.ptr 12 0)] (liveZ s k ++ [X]) 0 = some (.tup [.agg [.str k, .str k], .bool true], liveZ s k ++ [X], 0) := by
  refine gF_of (fn := v41) (hp 41 (by decide) (by decide)) rfl rfl ?_
  simp [v41_body, v41_0, v41_1, v41_2, v41_3, liveZ, zI, rI, hq, t97 ha]
  rfl
theorem t43_i (hp : NoPm Pm) (hq : NoQ Q) (ha : Pm 97 = some asP) (s k : By) (X Y : Uo) : gF vTab M Q Pm 43 [.iface 191 (.ptr 12 0)] (liveZ s k ++ [X, Y]) 0 = some (.own .r 1 [[.str [105]]], liveZ s k ++ [X, Y], 0) := by
  refine gF_of (fn := v43) (hp 43 (by decide) (by decide)) rfl rfl ?_
  simp [v43_body, v43_0, v43_1, v43_2, liveZ, zI, rI]
  rw [gL_round v43_b6.eq_1]
  simp [v43_3, v43_4, v43_5, hq, t97 ha, big, cut]
  rw [gL_round v43_b6.eq_1]
  simp [v43_3, v43_7, hq, t97 ha, cut]
theorem t11 (hp : NoPm Pm) (hq : NoQ Q) (hc : Pm 49 = some cloneP) (ha : Pm 97 = some asP) (hm : M 58 "Get" = some 28) : gF vTab M Q Pm 11 [] [] 0 = some (.bool true, [], 0) := by
  refine gF_of (fn := v11) (hp 11 (by decide) (by decide)) rfl rfl ?_
  have h42 := t42_i (M := M) (Q := Q) (Pm := Pm) hp hq hm [97] (by decide)
  have hk : keyB 105 [[97]] = [105, 97, 0, 1] := by decide
  rw [hk] at h42
  have h33 := t33 (M := M) (Q := Q) (Pm := Pm) hp
  have h41 := t41_i (M := M) hp hq ha [97] [105, 97, 0, 1] zI
  have h43 := t43_i (M := M) hp hq ha [97] [105, 97, 0, 1] zI (.row [.str [105, 97, 0, 1], .str [105, 97, 0, 1]])
  simp [liveZ, zI, rI, liveH] at h42 h33 h41 h43
  simp [v11_body, v11_0, v11_1, v11_2, v11_4, v11_5, v11_6, v11_7, hq, t25 hp hq hc, h33, h42, h41, h43, liveH, shiftO_map]
end Go.RE
namespace Go.RE
variable {M : Nat → String → Option Nat} {Q : Mut} {Pm : Nat → Option (List U → List Uo → Nat → Option (U × List Uo × Nat))}
theorem bool_two (b : Bool) : b = false ∨ b = true := by cases b <;> simp
def pl : Option Spn → List U
  | none => errZ
  | some s => [.bool true, .sl 1 [], .int .i64 20, .bool true, .str s.1, .str s.2]
def erU : Option Spn → U
  | none => .nili
  | some s => .iface 45 (.agg [.str s.1, .str s.2])
theorem t41_n (hp : NoPm Pm) (hq : NoQ Q) (ha : Pm 97 = some asP) (s : Spn) : gF vTab M Q Pm 41 [.iface 45 (.agg [.str s.1, .str s.2])] [] 0 = some (.tup [.agg [.str s.1, .str s.2], .bool true], [], 0) := by
  refine gF_of (fn := v41) (hp 41 (by decide) (by decide)) rfl rfl ?_
  simp [v41_body, v41_0, v41_1, v41_2, v41_3, hq, t97 ha]
theorem t43_n (hp : NoPm Pm) (hq : NoQ Q) (ha : Pm 97 = some asP) (s : Spn) : gF vTab M Q Pm 43 [.iface 45 (.agg [.str s.1, .str s.2])] [] 0 = some (.own .r 1 [], [], 0) := by
  refine gF_of (fn := v43) (hp 43 (by decide) (by decide)) rfl rfl ?_
  simp [v43_body, v43_0, v43_1, v43_2]
  rw [gL_round v43_b6.eq_1]
  simp [v43_3, v43_7, hq, t97 ha, cut]
theorem t62_n (hp : NoPm Pm) (hq : NoQ Q) (ha : Pm 97 = some asP) (s : Spn) : gF vTab M Q Pm 62 [.iface 45 (.agg [.str s.1, .str s.2])] [] 0 = some (.int .i64 20, [], 0) := by
  refine gF_of (fn := v62) (hp 62 (by decide) (by decide)) rfl rfl ?_
  simp [v62_body, v62_0, v62_1, v62_2, v62_3, v62_4, v62_5, v62_6, hq, t97 ha]
theorem t31 (hp : NoPm Pm) (hq : NoQ Q) (ha : Pm 97 = some asP) (e : Option Spn) : gF vTab M Q Pm 31 [erU e] [] 0 = some (.agg (pl e), [], 0) := by
  refine gF_of (fn := v31) (hp 31 (by decide) (by decide)) rfl rfl ?_
  cases e with
  | none => simp [v31_body, v31_0, v31_1, v31_2, erU, pl, errZ]
  | some s => simp [v31_body, v31_0, v31_1, v31_3, erU, pl, hq, t41_n hp hq ha s, gC_drw v31_4h, v31_4s, t43_n hp hq ha s, t62_n hp hq ha s, Nat.testBit_eq_decide_div_mod_eq]
end Go.RE
namespace Go.RE
variable {M : Nat → String → Option Nat} {Q : Mut} {Pm : Nat → Option (List U → List Uo → Nat → Option (U × List Uo × Nat))}
structure Rf where
  k : UInt8
  name : By
  key : By
  id : By
  inst : By
  tok : Int
  node : Int
  at_ : Int
def refC (r : Rf) : List U := [.int .u8 r.k.toNat, .str r.name, .str r.key, .str r.id, .str r.inst, .int .u64 r.tok, .int .u64 r.node, .int .u64 r.at_]
def fltO (k : UInt8) : Uo := .row [.str [k], .iface 43 (.int .i64 2)]
theorem t106_e (hp : NoPm Pm) (hq : NoQ Q) (b : UInt8) (n : Int) : gF vTab M Q Pm 106 [.int .u8 b.toNat, .iface 43 (.int .i64 n)] [] 0 = some (.iface 191 (.ptr 0 0), [.row [.str [b], .iface 43 (.int .i64 n)]], 0) := by
  refine gF_of (fn := v106) (hp 106 (by decide) (by decide)) rfl rfl ?_
  simp [v106_body, v106_0, v106_1, hq, strV_own, unbytes_nil, unbytes_cons, t167 hp [b] 43 (.int .i64 n) (by simp)]
@[simp] theorem dec_add (n k : Nat) : decide (n + k < n) = false := decide_eq_false (by omega)
@[simp] theorem dec_add2 (n k j : Nat) : decide (n + k + j < n) = false := decide_eq_false (by omega)
def NoC (c : U) (h : List Uo) (fl : Nat) : Prop := (c = .nilp ∧ h = [] ∧ fl = 0) ∨ ∃ i, c = .ptr i 0 ∧ h[i]? = some (.row [.nili, .nilm]) ∧ fl ≤ h.length
theorem noC_app {i : Nat} {h : List Uo} {fl : Nat} (hi : h[i]? = some (.row [.nili, .nilm])) (hf : fl ≤ h.length) (l : List Uo) : NoC (.ptr i 0) (h ++ l) fl := .inr ⟨i, rfl, at_old hi, by simp; omega⟩
theorem noC_nil : NoC .nilp [] 0 := .inl ⟨rfl, rfl, rfl⟩
theorem t105_m (hp : NoPm Pm) (hq : NoQ Q) (r : Rf) {c : U} {h : List Uo} {fl : Nat} (hc : NoC c h fl) : gF vTab M Q Pm 105 [c, .agg (refC r)] h fl = some (.tup [.str [], .iface 191 (.ptr (h.length + 1) 0)], h ++ [.row (refC r), fltO r.k], fl) := by
  refine gF_of (fn := v105) (hp 105 (by decide) (by decide)) rfl rfl ?_
  rcases hc with ⟨rfl, rfl, rfl⟩ | ⟨i, rfl, hi, hf⟩
  · simp [v105_body, v105_0, v105_1, refC, fltO, hq, gC_drw v105_2h, v105_2s, t107 hp 2 (by decide), t106_e hp hq, Nat.testBit_eq_decide_div_mod_eq]
  · simp [v105_body, v105_0, v105_1, at_old hi, refC, fltO, hq, gC_drw v105_2h, v105_2s, t107 hp 2 (by decide), t106_e hp hq, Nat.testBit_eq_decide_div_mod_eq]
theorem t64_m (hp : NoPm Pm) (hq : NoQ Q) (r : Rf) {c : U} {h : List Uo} {fl : Nat} (hc : NoC c h fl) : gF vTab M Q Pm 64 [c, .agg (refC r)] h fl = some (.tup [.sl 1 [], .bool false, .iface 191 (.ptr (h.length + 2) 0)], h ++ [.row (refC r), .row (refC r), fltO r.k], fl) := by
  refine gF_of (fn := v64) (hp 64 (by decide) (by decide)) rfl rfl ?_
  rcases hc with ⟨rfl, rfl, rfl⟩ | ⟨i, rfl, hi, hf⟩
  · have h105 := t105_m (M := M) hp hq r noC_nil
    simp [refC, fltO] at h105
    simp [v64_body, v64_0, v64_1, v64_2, v64_3, refC, fltO, hq, h105]
  · have h105 := t105_m (M := M) hp hq r (noC_app hi hf [.row (refC r)])
    have hd : decide (i < h.length + 1) = true := decide_eq_true (by have := (List.getElem?_eq_some_iff.1 hi).1; omega)
    simp [refC, fltO] at h105
    simp [v64_body, v64_0, v64_1, v64_2, v64_3, refC, fltO, hq, h105, hd]
theorem lt1 {i : Nat} {h : List Uo} {o : Uo} (hi : h[i]? = some o) (k : Nat) : decide (i < h.length + k) = true := decide_eq_true (by have := (List.getElem?_eq_some_iff.1 hi).1; omega)
theorem t66_m (hp : NoPm Pm) (hq : NoQ Q) (r : Rf) (d : By) {c : U} {h : List Uo} {fl : Nat} (hc : NoC c h fl) : gF vTab M Q Pm 66 [c, .agg (refC r), .sl 1 (bytesU d)] h fl = some (.iface 191 (.ptr (h.length + 2) 0), h ++ [.row (refC r), .row (refC r), fltO r.k], fl) := by
  refine gF_of (fn := v66) (hp 66 (by decide) (by decide)) rfl rfl ?_
  rcases hc with ⟨rfl, rfl, rfl⟩ | ⟨i, rfl, hi, hf⟩
  · have h105 := t105_m (M := M) hp hq r noC_nil
    simp [refC, fltO] at h105
    simp [v66_body, v66_0, v66_1, v66_2, v66_4, refC, fltO, hq, h105]
  · have h105 := t105_m (M := M) hp hq r (noC_app hi hf [.row (refC r)])
    simp [refC, fltO] at h105
    simp [v66_body, v66_0, v66_1, v66_2, v66_4, refC, fltO, hq, h105, lt1 hi]
theorem t67_m (hp : NoPm Pm) (hq : NoQ Q) (r : Rf) {c : U} {h : List Uo} {fl : Nat} (hc : NoC c h fl) : gF vTab M Q Pm 67 [c, .agg (refC r)] h fl = some (.iface 191 (.ptr (h.length + 2) 0), h ++ [.row (refC r), .row (refC r), fltO r.k], fl) := by
  refine gF_of (fn := v67) (hp 67 (by decide) (by decide)) rfl rfl ?_
  rcases hc with ⟨rfl, rfl, rfl⟩ | ⟨i, rfl, hi, hf⟩
  · have h105 := t105_m (M := M) hp hq r noC_nil
    simp [refC, fltO] at h105
    simp [v67_body, v67_0, v67_1, v67_2, v67_4, refC, fltO, hq, h105]
  · have h105 := t105_m (M := M) hp hq r (noC_app hi hf [.row (refC r)])
    simp [refC, fltO] at h105
    simp [v67_body, v67_0, v67_1, v67_2, v67_4, refC, fltO, hq, h105, lt1 hi]
theorem t65_m (hp : NoPm Pm) (hq : NoQ Q) (r : Rf) (n : Int) {c : U} {h : List Uo} {fl : Nat} (hc : NoC c h fl) : gF vTab M Q Pm 65 [c, .agg (refC r), .int .i64 n] h fl = some (.tup [.sl 9 [], .iface 191 (.ptr (h.length + 1) 0)], h ++ [.row (refC r), fltO r.k], fl) := by
  refine gF_of (fn := v65) (hp 65 (by decide) (by decide)) rfl rfl ?_
  rcases hc with ⟨rfl, rfl, rfl⟩ | ⟨i, rfl, hi, hf⟩
  · simp [v65_body, v65_0, v65_1, refC, fltO, hq, gC_drw v65_2h, v65_2s, t107 hp 2 (by decide), t106_e hp hq, Nat.testBit_eq_decide_div_mod_eq]
  · simp [v65_body, v65_0, v65_1, at_old hi, refC, fltO, hq, gC_drw v65_2h, v65_2s, t107 hp 2 (by decide), t106_e hp hq, Nat.testBit_eq_decide_div_mod_eq]
theorem t110_m (hp : NoPm Pm) (hq : NoQ Q) (r : Rf) {c : U} {h : List Uo} {fl : Nat} (hc : NoC c h fl) : gF vTab M Q Pm 110 [c, .agg (refC r), .func 111 [] []] h fl = some (.tup [.int .u64 0, .bool false, .iface 191 (.ptr (h.length + 3) 0)], h ++ [.row (refC r), .row (refC r), .row (refC r), fltO r.k], fl) := by
  refine gF_of (fn := v110) (hp 110 (by decide) (by decide)) rfl rfl ?_
  rcases hc with ⟨rfl, rfl, rfl⟩ | ⟨i, rfl, hi, hf⟩
  · have h64 := t64_m (M := M) hp hq r noC_nil
    simp [refC, fltO] at h64
    simp [v110_body, v110_0, v110_1, v110_2, v110_3, v110_4, refC, fltO, hq, h64]
  · have h64 := t64_m (M := M) hp hq r (noC_app hi hf [.row (refC r)])
    simp [refC, fltO] at h64
    simp [v110_body, v110_0, v110_1, v110_2, v110_3, v110_4, refC, fltO, hq, h64, lt1 hi]
theorem t68_m (hp : NoPm Pm) (hq : NoQ Q) (r : Rf) {c : U} {h : List Uo} {fl : Nat} (hc : NoC c h fl) : gF vTab M Q Pm 68 [c, .agg (refC r)] h fl = some (.tup [.int .u64 0, .bool false, .iface 191 (.ptr (h.length + 4) 0)], h ++ [.row (refC r), .row (refC r), .row (refC r), .row (refC r), fltO r.k], fl) := by
  refine gF_of (fn := v68) (hp 68 (by decide) (by decide)) rfl rfl ?_
  rcases hc with ⟨rfl, rfl, rfl⟩ | ⟨i, rfl, hi, hf⟩
  · have h110 := t110_m (M := M) hp hq r noC_nil
    simp [refC, fltO] at h110
    simp [v68_body, v68_0, v68_1, refC, fltO, hq, h110]
  · have h110 := t110_m (M := M) hp hq r (noC_app hi hf [.row (refC r)])
    simp [refC, fltO] at h110
    simp [v68_body, v68_0, v68_1, refC, fltO, hq, h110, lt1 hi]
end Go.RE
namespace Go.RE
variable {M : Nat → String → Option Nat} {Q : Mut} {Pm : Nat → Option (List U → List Uo → Nat → Option (U × List Uo × Nat))}
def rInst (s : By) : Rf := ⟨105, [], [], [], s, 0, 0, 0⟩
def rTok (s : By) (t : Int) : Rf := ⟨116, [], [], [], s, t, 0, 0⟩
def rArm (s : By) (t n : Int) : Rf := ⟨97, [], [], [], s, t, n, 0⟩
def rVar (s n : By) : Rf := ⟨118, n, [], [], s, 0, 0, 0⟩
def zInst : List U := [.str [], .int .u64 0, .int .i64 0, .str [], .int .u64 0]
def zTok : List U := [.int .i64 0, .int .u64 0, .int .i64 0]
def zArm : List U := [.int .i64 0, .str [], .str [], .int .u64 0]
def zVal : List U := [.int .i64 0, .int .i64 0, .str []]
theorem t113 (hp : NoPm Pm) (s : By) (t : Int) : gF vTab M Q Pm 113 [.str s, .int .u64 t] [] 0 = some (.agg (refC (rTok s t)), [], 0) := by
  refine gF_of (fn := v113) (hp 113 (by decide) (by decide)) rfl rfl ?_
  simp [v113_body, v113_0, v113_1, refC, rTok]
theorem t116 (hp : NoPm Pm) (s : By) (t n : Int) : gF vTab M Q Pm 116 [.str s, .int .u64 t, .int .u64 n] [] 0 = some (.agg (refC (rArm s t n)), [], 0) := by
  refine gF_of (fn := v116) (hp 116 (by decide) (by decide)) rfl rfl ?_
  simp [v116_body, v116_0, v116_1, refC, rArm]
theorem t119 (hp : NoPm Pm) (s n : By) : gF vTab M Q Pm 119 [.str s, .str n] [] 0 = some (.agg (refC (rVar s n)), [], 0) := by
  refine gF_of (fn := v119) (hp 119 (by decide) (by decide)) rfl rfl ?_
  simp [v119_body, v119_0, v119_1, refC, rVar]
theorem t99r (hp : NoPm Pm) (s : By) : gF vTab M Q Pm 99 [.str s] [] 0 = some (.agg (refC (rInst s)), [], 0) := t99 hp s
theorem t98_m (hp : NoPm Pm) (hq : NoQ Q) (r : Rf) {c : U} {h : List Uo} {fl : Nat} (hc : NoC c h fl) : gF vTab M Q Pm 98 [c, .agg (refC r), .func 100 [] []] h fl = some (.tup [.agg zInst, .bool false, .iface 191 (.ptr (h.length + 5) 0)], h ++ [.row (refC r), .row zInst, .row zInst, .row (refC r), .row (refC r), fltO r.k], fl) := by
  refine gF_of (fn := v98) (hp 98 (by decide) (by decide)) rfl rfl ?_
  rcases hc with ⟨rfl, rfl, rfl⟩ | ⟨i, rfl, hi, hf⟩
  · have h64 := t64_m (M := M) hp hq r noC_nil
    simp [refC, fltO] at h64
    simp [v98_body, v98_0, v98_1, v98_2, v98_3, v98_4, refC, fltO, zInst, hq, h64]
  · have h64 := t64_m (M := M) hp hq r (noC_app hi hf [.row (refC r), .row zInst, .row zInst])
    simp [refC, fltO, zInst] at h64
    simp [v98_body, v98_0, v98_1, v98_2, v98_3, v98_4, refC, fltO, zInst, hq, h64, lt1 hi]
theorem t112_m (hp : NoPm Pm) (hq : NoQ Q) (r : Rf) {c : U} {h : List Uo} {fl : Nat} (hc : NoC c h fl) : gF vTab M Q Pm 112 [c, .agg (refC r), .func 114 [] []] h fl = some (.tup [.agg zTok, .bool false, .iface 191 (.ptr (h.length + 5) 0)], h ++ [.row (refC r), .row zTok, .row zTok, .row (refC r), .row (refC r), fltO r.k], fl) := by
  refine gF_of (fn := v112) (hp 112 (by decide) (by decide)) rfl rfl ?_
  rcases hc with ⟨rfl, rfl, rfl⟩ | ⟨i, rfl, hi, hf⟩
  · have h64 := t64_m (M := M) hp hq r noC_nil
    simp [refC, fltO] at h64
    simp [v112_body, v112_0, v112_1, v112_2, v112_3, v112_4, refC, fltO, zTok, hq, h64]
  · have h64 := t64_m (M := M) hp hq r (noC_app hi hf [.row (refC r), .row zTok, .row zTok])
    simp [refC, fltO, zTok] at h64
    simp [v112_body, v112_0, v112_1, v112_2, v112_3, v112_4, refC, fltO, zTok, hq, h64, lt1 hi]
theorem t115_m (hp : NoPm Pm) (hq : NoQ Q) (r : Rf) {c : U} {h : List Uo} {fl : Nat} (hc : NoC c h fl) : gF vTab M Q Pm 115 [c, .agg (refC r), .func 117 [] []] h fl = some (.tup [.agg zArm, .bool false, .iface 191 (.ptr (h.length + 5) 0)], h ++ [.row (refC r), .row zArm, .row zArm, .row (refC r), .row (refC r), fltO r.k], fl) := by
  refine gF_of (fn := v115) (hp 115 (by decide) (by decide)) rfl rfl ?_
  rcases hc with ⟨rfl, rfl, rfl⟩ | ⟨i, rfl, hi, hf⟩
  · have h64 := t64_m (M := M) hp hq r noC_nil
    simp [refC, fltO] at h64
    simp [v115_body, v115_0, v115_1, v115_2, v115_3, v115_4, refC, fltO, zArm, hq, h64]
  · have h64 := t64_m (M := M) hp hq r (noC_app hi hf [.row (refC r), .row zArm, .row zArm])
    simp [refC, fltO, zArm] at h64
    simp [v115_body, v115_0, v115_1, v115_2, v115_3, v115_4, refC, fltO, zArm, hq, h64, lt1 hi]
theorem t118_m (hp : NoPm Pm) (hq : NoQ Q) (r : Rf) {c : U} {h : List Uo} {fl : Nat} (hc : NoC c h fl) : gF vTab M Q Pm 118 [c, .agg (refC r), .func 120 [] []] h fl = some (.tup [.agg zVal, .bool false, .iface 191 (.ptr (h.length + 5) 0)], h ++ [.row (refC r), .row zVal, .row zVal, .row (refC r), .row (refC r), fltO r.k], fl) := by
  refine gF_of (fn := v118) (hp 118 (by decide) (by decide)) rfl rfl ?_
  rcases hc with ⟨rfl, rfl, rfl⟩ | ⟨i, rfl, hi, hf⟩
  · have h64 := t64_m (M := M) hp hq r noC_nil
    simp [refC, fltO] at h64
    simp [v118_body, v118_0, v118_1, v118_2, v118_3, v118_4, refC, fltO, zVal, hq, h64]
  · have h64 := t64_m (M := M) hp hq r (noC_app hi hf [.row (refC r), .row zVal, .row zVal])
    simp [refC, fltO, zVal] at h64
    simp [v118_body, v118_0, v118_1, v118_2, v118_3, v118_4, refC, fltO, zVal, hq, h64, lt1 hi]
theorem t42_m (hp : NoPm Pm) (hq : NoQ Q) (s : By) {c : U} {h : List Uo} {fl : Nat} (hc : NoC c h fl) : gF vTab M Q Pm 42 [c, .str s] h fl = some (.tup [.agg zInst, .bool false, .iface 191 (.ptr (h.length + 6) 0)], h ++ [.row zInst, .row (refC (rInst s)), .row zInst, .row zInst, .row (refC (rInst s)), .row (refC (rInst s)), fltO (rInst s).k], fl) := by
  refine gF_of (fn := v42) (hp 42 (by decide) (by decide)) rfl rfl ?_
  have h0 := t99r (M := M) (Q := Q) (Pm := Pm) hp s
  rcases hc with ⟨rfl, rfl, rfl⟩ | ⟨i, rfl, hi, hf⟩
  · have h1 := t98_m (M := M) hp hq (rInst s) noC_nil
    simp [refC, fltO, zInst, rInst] at h0 h1
    simp [v42_body, v42_0, v42_1, refC, fltO, zInst, rInst, hq, h0, h1]
  · have h1 := t98_m (M := M) hp hq (rInst s) (noC_app hi hf [.row zInst])
    simp [refC, fltO, zInst, rInst] at h0 h1
    simp [v42_body, v42_0, v42_1, refC, fltO, zInst, rInst, hq, h0, h1, lt1 hi]
theorem t69_m (hp : NoPm Pm) (hq : NoQ Q) (s : By) (t : Int) {c : U} {h : List Uo} {fl : Nat} (hc : NoC c h fl) : gF vTab M Q Pm 69 [c, .str s, .int .u64 t] h fl = some (.tup [.agg zTok, .bool false, .iface 191 (.ptr (h.length + 6) 0)], h ++ [.row zTok, .row (refC (rTok s t)), .row zTok, .row zTok, .row (refC (rTok s t)), .row (refC (rTok s t)), fltO (rTok s t).k], fl) := by
  refine gF_of (fn := v69) (hp 69 (by decide) (by decide)) rfl rfl ?_
  have h0 := t113 (M := M) (Q := Q) (Pm := Pm) hp s t
  rcases hc with ⟨rfl, rfl, rfl⟩ | ⟨i, rfl, hi, hf⟩
  · have h1 := t112_m (M := M) hp hq (rTok s t) noC_nil
    simp [refC, fltO, zTok, rTok] at h0 h1
    simp [v69_body, v69_0, v69_1, refC, fltO, zTok, rTok, hq, h0, h1]
  · have h1 := t112_m (M := M) hp hq (rTok s t) (noC_app hi hf [.row zTok])
    simp [refC, fltO, zTok, rTok] at h0 h1
    simp [v69_body, v69_0, v69_1, refC, fltO, zTok, rTok, hq, h0, h1, lt1 hi]
theorem t70_m (hp : NoPm Pm) (hq : NoQ Q) (s : By) (t n : Int) {c : U} {h : List Uo} {fl : Nat} (hc : NoC c h fl) : gF vTab M Q Pm 70 [c, .str s, .int .u64 t, .int .u64 n] h fl = some (.tup [.agg zArm, .bool false, .iface 191 (.ptr (h.length + 6) 0)], h ++ [.row zArm, .row (refC (rArm s t n)), .row zArm, .row zArm, .row (refC (rArm s t n)), .row (refC (rArm s t n)), fltO (rArm s t n).k], fl) := by
  refine gF_of (fn := v70) (hp 70 (by decide) (by decide)) rfl rfl ?_
  have h0 := t116 (M := M) (Q := Q) (Pm := Pm) hp s t n
  rcases hc with ⟨rfl, rfl, rfl⟩ | ⟨i, rfl, hi, hf⟩
  · have h1 := t115_m (M := M) hp hq (rArm s t n) noC_nil
    simp [refC, fltO, zArm, rArm] at h0 h1
    simp [v70_body, v70_0, v70_1, refC, fltO, zArm, rArm, hq, h0, h1]
  · have h1 := t115_m (M := M) hp hq (rArm s t n) (noC_app hi hf [.row zArm])
    simp [refC, fltO, zArm, rArm] at h0 h1
    simp [v70_body, v70_0, v70_1, refC, fltO, zArm, rArm, hq, h0, h1, lt1 hi]
theorem t71_m (hp : NoPm Pm) (hq : NoQ Q) (s n : By) {c : U} {h : List Uo} {fl : Nat} (hc : NoC c h fl) : gF vTab M Q Pm 71 [c, .str s, .str n] h fl = some (.tup [.agg zVal, .bool false, .iface 191 (.ptr (h.length + 6) 0)], h ++ [.row zVal, .row (refC (rVar s n)), .row zVal, .row zVal, .row (refC (rVar s n)), .row (refC (rVar s n)), fltO (rVar s n).k], fl) := by
  refine gF_of (fn := v71) (hp 71 (by decide) (by decide)) rfl rfl ?_
  have h0 := t119 (M := M) (Q := Q) (Pm := Pm) hp s n
  rcases hc with ⟨rfl, rfl, rfl⟩ | ⟨i, rfl, hi, hf⟩
  · have h1 := t118_m (M := M) hp hq (rVar s n) noC_nil
    simp [refC, fltO, zVal, rVar] at h0 h1
    simp [v71_body, v71_0, v71_1, refC, fltO, zVal, rVar, hq, h0, h1]
  · have h1 := t118_m (M := M) hp hq (rVar s n) (noC_app hi hf [.row zVal])
    simp [refC, fltO, zVal, rVar] at h0 h1
    simp [v71_body, v71_0, v71_1, refC, fltO, zVal, rVar, hq, h0, h1, lt1 hi]
theorem t122_m (hp : NoPm Pm) (hq : NoQ Q) (r : Rf) (d : By) {c : U} {h : List Uo} {fl : Nat} (hc : NoC c h fl) : gF vTab M Q Pm 122 [c, .agg (refC r), .sl 1 (bytesU d)] h fl = some (.iface 191 (.ptr (h.length + 2) 0), h ++ [.row (refC r), .row (refC r), fltO r.k], fl) := by
  refine gF_of (fn := v122) (hp 122 (by decide) (by decide)) rfl rfl ?_
  rcases hc with ⟨rfl, rfl, rfl⟩ | ⟨i, rfl, hi, hf⟩
  · have h105 := t105_m (M := M) hp hq r noC_nil
    simp [refC, fltO] at h105
    simp [v122_body, v122_0, v122_1, v122_2, v122_3, refC, fltO, hq, h105]
  · have h105 := t105_m (M := M) hp hq r (noC_app hi hf [.row (refC r)])
    simp [refC, fltO] at h105
    simp [v122_body, v122_0, v122_1, v122_2, v122_3, refC, fltO, hq, h105, lt1 hi]
structure Vr where
  name : By
  kind : Int
  n : Int
  s : By
def varC (x : Vr) : List U := [.str x.name, .int .i64 x.kind, .int .i64 x.n, .str x.s]
theorem t74_m (hp : NoPm Pm) (hq : NoQ Q) (s : By) (x : Vr) {c : U} {h : List Uo} {fl : Nat} (hc : NoC c h fl) : gF vTab M Q Pm 74 [c, .str s, .agg (varC x)] h fl = some (.iface 191 (.ptr (h.length + 3) 0), h ++ [.row (varC x), .row (refC (rVar s x.name)), .row (refC (rVar s x.name)), fltO 118], fl) := by
  refine gF_of (fn := v74) (hp 74 (by decide) (by decide)) rfl rfl ?_
  have h0 := t119 (M := M) (Q := Q) (Pm := Pm) hp s x.name
  rcases hc with ⟨rfl, rfl, rfl⟩ | ⟨i, rfl, hi, hf⟩
  · have h105 := t105_m (M := M) hp hq (rVar s x.name) noC_nil
    simp [refC, fltO, rVar] at h0 h105
    simp [v74_body, v74_0, v74_1, v74_2, v74_3, v74_4, refC, fltO, rVar, varC, hq, h0, h105]
  · have h105 := t105_m (M := M) hp hq (rVar s x.name) (noC_app hi hf [.row (varC x), .row (refC (rVar s x.name))])
    simp [refC, fltO, rVar, varC] at h0 h105
    simp [v74_body, v74_0, v74_1, v74_2, v74_3, v74_4, refC, fltO, rVar, varC, hq, h0, h105, lt1 hi]
structure Ar where
  kind : Int
  name : By
  key : By
  due : Int
def armC (x : Ar) : List U := [.int .i64 x.kind, .str x.name, .str x.key, .int .u64 x.due]
theorem t75_m (hp : NoPm Pm) (hq : NoQ Q) (s : By) (t n : Int) (x : Ar) {c : U} {h : List Uo} {fl : Nat} (hc : NoC c h fl) : gF vTab M Q Pm 75 [c, .str s, .int .u64 t, .int .u64 n, .agg (armC x)] h fl = some (.iface 191 (.ptr (h.length + 3) 0), h ++ [.row (armC x), .row (refC (rArm s t n)), .row (refC (rArm s t n)), fltO 97], fl) := by
  refine gF_of (fn := v75) (hp 75 (by decide) (by decide)) rfl rfl ?_
  have h0 := t116 (M := M) (Q := Q) (Pm := Pm) hp s t n
  rcases hc with ⟨rfl, rfl, rfl⟩ | ⟨i, rfl, hi, hf⟩
  · have h105 := t105_m (M := M) hp hq (rArm s t n) noC_nil
    simp [refC, fltO, rArm] at h0 h105
    simp [v75_body, v75_0, v75_1, v75_2, v75_3, v75_4, refC, fltO, rArm, armC, hq, h0, h105]
  · have h105 := t105_m (M := M) hp hq (rArm s t n) (noC_app hi hf [.row (armC x), .row (refC (rArm s t n))])
    simp [refC, fltO, rArm, armC] at h0 h105
    simp [v75_body, v75_0, v75_1, v75_2, v75_3, v75_4, refC, fltO, rArm, armC, hq, h0, h105, lt1 hi]
theorem t76_m (hp : NoPm Pm) (hq : NoQ Q) (s : By) (t n : Int) {c : U} {h : List Uo} {fl : Nat} (hc : NoC c h fl) : gF vTab M Q Pm 76 [c, .str s, .int .u64 t, .int .u64 n] h fl = some (.iface 191 (.ptr (h.length + 6) 0), h ++ [.row zArm, .row (refC (rArm s t n)), .row zArm, .row zArm, .row (refC (rArm s t n)), .row (refC (rArm s t n)), fltO 97, .row zArm], fl) := by
  refine gF_of (fn := v76) (hp 76 (by decide) (by decide)) rfl rfl ?_
  have h0 := t70_m (M := M) hp hq s t n hc
  rcases hc with ⟨rfl, rfl, rfl⟩ | ⟨i, rfl, hi, hf⟩
  · simp [refC, fltO, rArm, zArm] at h0
    simp [v76_body, v76_0, v76_1, v76_2, v76_3, refC, fltO, rArm, zArm, hq, h0]
  · simp [refC, fltO, rArm, zArm] at h0
    simp [v76_body, v76_0, v76_1, v76_2, v76_3, refC, fltO, rArm, zArm, hq, h0, lt1 hi]
end Go.RE
namespace Go.RE
variable {M : Nat → String → Option Nat} {Q : Mut} {Pm : Nat → Option (List U → List Uo → Nat → Option (U × List Uo × Nat))}
def or8 (x y : Int) : Int := wrapA .u8 (BitVec.ofInt 8 x ||| BitVec.ofInt 8 y).toNat
@[simp] theorem binV_or8 (ek : EqK) (x y : Int) : binV .or ek (.int .u8 x) (.int .u8 y) = some (.int .u8 (or8 x y)) := rfl
@[simp] theorem binV_shr7 (ek : EqK) (n : Nat) : binV .shr ek (.int .u64 (n : Int)) (.int .u64 7) = some (.int .u64 ((n / 128 : Nat) : Int)) := by
  have h1 : binV .shr ek (.int .u64 (n : Int)) (.int .u64 7) = some (.int .u64 ((n : Int).fdiv 128)) := rfl
  rw [h1, Int.fdiv_eq_ediv_of_nonneg _ (by decide)]
  rfl
def msV (d : Nat) (s : Vs) (w bytes : Nat) (zero : List V) : Option U → Option U → Option (U × Vs)
  | some l, some c => (match asNatU c big with
      | some c => (match asNatU l c with
        | some l => bif Nat.ble (c * bytes) big && Nat.beq zero.length w && U.lows 0 (V.toUs zero) && (V.toUs zero).all U.cellok then some (.own (.t d) w (repRows (V.toUs zero) l), s.kill (.t d)) else none
        | none => none)
      | none => none)
  | _, _ => none
@[simp] theorem opM_makeSlice (d : Nat) (s : Vs) (w bytes : Nat) (zero : List V) (len cap : Opd) : opM d s (.makeSlice w bytes zero len cap) = msV d s w bytes zero (evO s.e len) (evO s.e cap) := by
  simp only [opM]
  cases evO s.e len with
  | none => rfl
  | some l => cases evO s.e cap <;> rfl
theorem ms_0 (d : Nat) (s : Vs) (n : Nat) (hn : n ≤ big) : msV d s 1 1 [.int .u8 0] (some (.int .i64 0)) (some (.int .i64 (n : Int))) = some (.own (.t d) 1 [], s.kill (.t d)) := by
  have h1 : asNatU (.int .i64 (n : Int)) big = some n := by
    show asNat (.int .i64 (n : Int)) big = some n
    simp only [asNat]; rw [if_pos ⟨Int.natCast_nonneg n, Int.ofNat_le.2 hn⟩]; rfl
  have h2 : asNatU (.int .i64 0) n = some 0 := by
    show asNat (.int .i64 0) n = some 0
    simp only [asNat]; rw [if_pos ⟨by decide, Int.natCast_nonneg n⟩]; rfl
  simp only [msV, h1, h2, Nat.mul_one, Nat.ble_eq_true_of_le hn, Bool.true_and]
  rfl
theorem ms_10 (d : Nat) (s : Vs) : msV d s 1 1 [.int .u8 0] (some (.int .i64 0)) (some (.int .i64 10)) = some (.own (.t d) 1 [], s.kill (.t d)) := ms_0 d s 10 (by decide)
theorem wrap8 (n : Int) : wrapA .u8 n = n % 256 := by
  rw [wrapA_eq]; unfold IntKind.wrap; simp [IntKind.bits, IntKind.signed]
def byteOf (x : Int) : UInt8 := UInt8.ofNat x.toNat
theorem byteOf_eq {x : Int} (h0 : 0 ≤ x) (h1 : x < 256) : ((byteOf x).toNat : Int) = x := by
  unfold byteOf
  have e1 : (UInt8.ofNat x.toNat).toNat = x.toNat % 256 := UInt8.toNat_ofNat'
  rw [e1]; omega
def lowB (n : Int) : UInt8 := byteOf (wrapA .u8 n)
def hiB (n : Int) : UInt8 := byteOf (or8 (wrapA .u8 n) 128)
theorem low_eq (n : Int) : wrapA .u8 n = ((lowB n).toNat : Int) := by
  unfold lowB; rw [byteOf_eq] <;> rw [wrap8] <;> omega
theorem hi_eq (n : Int) : or8 (wrapA .u8 n) 128 = ((hiB n).toNat : Int) := by
  unfold hiB; rw [byteOf_eq] <;> (unfold or8; rw [wrap8]; omega)
def preB : Nat → Nat → By × Nat
  | 0, n => ([], n)
  | j + 1, n => if n < 128 then ([], n) else (hiB n :: (preB j (n / 128)).1, (preB j (n / 128)).2)
def uvB (n : Nat) : By := (preB 9 n).1 ++ [lowB (preB 9 n).2]
theorem pre_len : ∀ j n, (preB j n).1.length ≤ j := by
  intro j
  induction j with
  | zero => intro n; simp [preB]
  | succ j ih => intro n; simp only [preB]; split <;> simp; exact ih _
theorem uvB_len (n : Nat) : (uvB n).length ≤ 10 := by have := pre_len 9 n; simp [uvB]; omega
theorem t191_a (K : Ex → Vs → Prop) : ∀ (j n : Nat) (acc : By), n < 128 ^ (j + 1) → n < 18446744073709551616 → acc.length + j < 100 →
    K .normal ⟨[(0, .int .u64 ((preB j n).2 : Int)), (3, .own (.t 3) 1 (bytesU (acc ++ (preB j n).1)))], [], 0⟩ →
    gL vTab M Q Pm v191 0 v191_b5 0 ⟨[(0, .int .u64 (n : Int)), (3, .own (.t 3) 1 (bytesU acc))], [], 0⟩ K := by
  intro j
  induction j with
  | zero =>
    intro n acc h1 h2 ha hK
    have hg : ¬ (128 : Int) ≤ (n : Int) := by omega
    rw [gL_round v191_b5.eq_1]
    simp [preB] at hK
    simp [v191_2, hg, hK]
  | succ j ih =>
    intro n acc h1 h2 ha hK
    rw [gL_round v191_b5.eq_1]
    by_cases hn : n < 128
    · have hg : ¬ (128 : Int) ≤ (n : Int) := by omega
      simp [preB, hn] at hK
      simp [v191_2, hg, hK]
    · have hg : (128 : Int) ≤ (n : Int) := by omega
      have hd : n / 128 < 128 ^ (j + 1) := by
        rw [Nat.div_lt_iff_lt_mul (by omega)]
        rw [Nat.pow_succ] at h1; exact h1
      have ih' := ih (n / 128) (acc ++ [hiB n]) hd (by omega) (by simp; omega) (by simp [preB, hn] at hK; simpa using hK)
      have hb : acc.length + 1 ≤ 1099511627776 := by omega
      simp [bytes_app, bytes_cons, bytes_nil] at ih'
      simp [v191_2, v191_3, v191_4, hg, big, hi_eq, hb]
      exact ih'
theorem t191 (hp : NoPm Pm) (n : Nat) (hn : n < 18446744073709551616) : gF vTab M Q Pm 191 [.int .u64 (n : Int)] [] 0 = some (.own .r 1 (bytesU (uvB n)), [], 0) := by
  refine gF_of (fn := v191) (hp 191 (by decide) (by decide)) rfl rfl ?_
  have hl := pre_len 9 n
  have hb : (preB 9 n).1.length + 1 ≤ 1099511627776 := by omega
  have a := t191_a (M := M) (Q := Q) (Pm := Pm) (seqK vTab M Q Pm v191 (.seq (.region v191_6) .ret) (kE 0 v191 (.own .r 1 (bytesU (uvB n)), [], 0))) 9 n [] (by omega) hn (by simp) (by simp [v191_6, low_eq, uvB, bytes_app, bytes_cons, bytes_nil, big, hb])
  simp [bytes_nil] at a
  simp [v191_body, v191_0, v191_1, ms_10]
  exact a
end Go.RE
namespace Go.RE
variable {M : Nat → String → Option Nat} {Q : Mut} {Pm : Nat → Option (List U → List Uo → Nat → Option (U × List Uo × Nat))}
theorem wrap64 {n : Nat} (h : n < 18446744073709551616) : wrapA .u64 (n : Int) = (n : Int) := by
  rw [wrapA_eq, wrap_in] <;> simp [IntKind.signed, IntKind.bits] <;> omega
theorem bytes_ok2 (d : By) : ((bytesU d).all fun r => r.all U.cellok && U.lows 0 r && decide (r.length = 1)) = true := by
  rw [List.all_eq_true]
  intro r hr
  obtain ⟨b, _, rfl⟩ := List.mem_map.1 hr
  rfl
def txB (s : By) : By := uvB s.length ++ s
theorem t190 (hp : NoPm Pm) (hq : NoQ Q) (s : By) (hs : s.length < small) : gF vTab M Q Pm 190 [.str s] [] 0 = some (.own .r 1 (bytesU (txB s)), [], 0) := by
  refine gF_of (fn := v190) (hp 190 (by decide) (by decide)) rfl rfl ?_
  have h0 := t191 (M := M) (Q := Q) (Pm := Pm) hp s.length (by unfold small at hs; omega)
  have hw := wrap64 (n := s.length) (by unfold small at hs; omega)
  have hl := uvB_len s.length
  have hb : (uvB s.length).length + s.length ≤ 1099511627776 := by unfold small at hs; omega
  simp [v190_body, v190_0, v190_1, hq, hw, h0, hb, big, txB, bytes_app, bytes_ok2]
def partC (ds : List By) : List (List U) := ds.map fun d => [U.sl 1 (bytesU d)]
def sumL (ds : List By) : Nat := (ds.map List.length).sum
theorem t189_a (ds : List By) (hl : ds.length < small) (hb : sumL ds < small) (K : Ex → Vs → Prop) : ∀ (j q n : Nat), q + j = ds.length → n + sumL (ds.drop q) = sumL ds →
    K .normal ⟨[(0, .sl 1 (partC ds)), (3, .int .i64 (sumL ds : Int))], [], 0⟩ →
    gL vTab M Q Pm v189 0 v189_b7 0 ⟨[(11, .int .i64 (q : Int)), (3, .int .i64 (n : Int)), (9, .sl 1 (partC ds)), (0, .sl 1 (partC ds)), (10, .int .i64 (ds.length : Int))], [], 0⟩ K := by
  intro j
  induction j with
  | zero =>
    intro q n hij hn hK
    have h1 : ¬ ((q : Int) < (ds.length : Int)) := by omega
    have h2 : ds.drop q = [] := List.drop_of_length_le (by omega)
    rw [h2] at hn
    have hn' : n = sumL ds := by simpa [sumL] using hn
    rw [gL_round v189_b7.eq_1, hn']
    simp [v189_3, h1, hK]
  | succ j ih =>
    intro q n hij hn hK
    have h1 : ((q : Int) < (ds.length : Int)) := by omega
    have hi1 : q < ds.length := by omega
    have e1 : (partC ds)[q]? = some [.sl 1 (bytesU ds[q])] := by simp [partC, hi1]
    have e3 : wrapA .i64 ((q : Int) + 1) = ((q + 1 : Nat) : Int) := wrap_succ (by unfold small at hl; omega)
    have d1 : ds.drop q = ds[q] :: ds.drop (q + 1) := List.drop_eq_getElem_cons hi1
    have hs : sumL (ds.drop q) = ds[q].length + sumL (ds.drop (q + 1)) := by rw [d1]; simp only [sumL, List.map_cons, List.sum_cons]
    have e4 : wrapA .i64 ((n : Int) + (ds[q].length : Int)) = ((n + ds[q].length : Nat) : Int) := wrap_add (by unfold small at hb; omega)
    have ih' := ih (q + 1) (n + ds[q].length) (by omega) (by omega) hK
    rw [gL_round v189_b7.eq_1]
    simp at ih'
    simp [v189_3, v189_4, v189_5, v189_6, h1, iaV_sl e1, e3, e4]
    exact ih'
theorem t189_b (ds : List By) (hl : ds.length < small) (hb : sumL ds < small) (K : Ex → Vs → Prop) : ∀ (j q : Nat) (acc : By), q + j = ds.length → acc.length + sumL (ds.drop q) < small →
    K .normal ⟨[(6, .own (.t 6) 1 (bytesU (acc ++ (ds.drop q).flatten)))], [], 0⟩ →
    gL vTab M Q Pm v189 2 v189_b14 0 ⟨[(24, .int .i64 (q : Int)), (6, .own (.t 6) 1 (bytesU acc)), (22, .sl 1 (partC ds)), (23, .int .i64 (ds.length : Int))], [], 0⟩ K := by
  intro j
  induction j with
  | zero =>
    intro q acc hij hn hK
    have h1 : ¬ ((q : Int) < (ds.length : Int)) := by omega
    have h2 : ds.drop q = [] := List.drop_of_length_le (by omega)
    rw [h2] at hK
    rw [gL_round v189_b14.eq_1]
    simp at hK
    simp [v189_10, h1, hK]
  | succ j ih =>
    intro q acc hij hn hK
    have h1 : ((q : Int) < (ds.length : Int)) := by omega
    have hi1 : q < ds.length := by omega
    have e1 : (partC ds)[q]? = some [.sl 1 (bytesU ds[q])] := by simp [partC, hi1]
    have e3 : wrapA .i64 ((q : Int) + 1) = ((q + 1 : Nat) : Int) := wrap_succ (by unfold small at hl; omega)
    have d1 : ds.drop q = ds[q] :: ds.drop (q + 1) := List.drop_eq_getElem_cons hi1
    have hs : sumL (ds.drop q) = ds[q].length + sumL (ds.drop (q + 1)) := by rw [d1]; simp only [sumL, List.map_cons, List.sum_cons]
    have hfl : (acc ++ ds[q]) ++ (ds.drop (q + 1)).flatten = acc ++ (ds.drop q).flatten := by rw [d1, List.flatten_cons, List.append_assoc]
    have hf : acc.length + ds[q].length ≤ 1099511627776 := by unfold small at hn; omega
    have ih' := ih (q + 1) (acc ++ ds[q]) (by omega) (by rw [List.length_append]; omega) (by rw [hfl]; exact hK)
    rw [gL_round v189_b14.eq_1]
    simp [bytes_app] at ih'
    simp [v189_10, v189_11, v189_12, v189_13, h1, iaV_sl e1, e3, big, hf, bytes_ok2]
    exact ih'
theorem t189 (hp : NoPm Pm) (ds : List By) (hl : ds.length < small) (hb : sumL ds < small) : gF vTab M Q Pm 189 [.sl 1 (partC ds)] [] 0 = some (.own .r 1 (bytesU ds.flatten), [], 0) := by
  refine gF_of (fn := v189) (hp 189 (by decide) (by decide)) rfl rfl ?_
  have hpl : (partC ds).length = ds.length := by simp [partC]
  have b := t189_b (M := M) (Q := Q) (Pm := Pm) ds hl hb (seqK vTab M Q Pm v189 (.seq (.region v189_15) .ret) (kE 0 v189 (.own .r 1 (bytesU ds.flatten), [], 0))) ds.length 0 [] (by omega) (by simpa using hb) (by simp [v189_15])
  have hm := fun d s => ms_0 d s (sumL ds) (by unfold small at hb; unfold big; omega)
  have a := t189_a (M := M) (Q := Q) (Pm := Pm) ds hl hb (seqK vTab M Q Pm v189 (.seq (.region v189_8) (.seq (.seq (.region v189_9) (.block 2 (.loop v189_b14))) (.seq (.region v189_15) .ret))) (kE 0 v189 (.own .r 1 (bytesU ds.flatten), [], 0))) ds.length 0 0 (by omega) (by simp) (by
    simp [bytes_nil] at b
    simp [v189_8, v189_9, hm, hpl]
    exact b)
  simp at a
  simp [v189_body, v189_0, v189_1, v189_2, hpl]
  exact a
end Go.RE
namespace Go.RE
variable {M : Nat → String → Option Nat} {Q : Mut} {Pm : Nat → Option (List U → List Uo → Nat → Option (U × List Uo × Nat))}
def nmC (c : UInt8) : Bool := (decide (97 ≤ (c.toNat : Int)) && decide ((c.toNat : Int) ≤ 122)) || (decide (48 ≤ (c.toNat : Int)) && decide ((c.toNat : Int) ≤ 57)) || ((c.toNat : Int) == 45)
theorem t226_a (s : By) (hl : s.length ≤ 16) (b0 : Bool) : ∀ (j q : Nat), q + j = s.length →
    gL vTab M Q Pm v226 0 v226_b12 0 ⟨[(24, .int .i64 (q : Int)), (0, .str s), (23, .int .i64 (s.length : Int))], [], 0⟩ (seqK vTab M Q Pm v226 (.seq (.region v226_13) .ret) (kE 0 v226 (.bool ((s.drop q).all nmC), [], 0))) := by
  intro j
  induction j with
  | zero =>
    intro q hij
    have h1 : ¬ ((q : Int) < (s.length : Int)) := by omega
    have h2 : s.drop q = [] := List.drop_of_length_le (by omega)
    rw [gL_round v226_b12.eq_1, h2]
    simp [v226_4, h1, v226_13]
  | succ j ih =>
    intro q hij
    have h1 : ((q : Int) < (s.length : Int)) := by omega
    have hi1 : q < s.length := by omega
    have e1 : s[q]? = some s[q] := by simp [hi1]
    have e3 : wrapA .i64 ((q : Int) + 1) = ((q + 1 : Nat) : Int) := wrap_succ (by omega)
    have d1 : s.drop q = s[q] :: s.drop (q + 1) := List.drop_eq_getElem_cons hi1
    have ih' := ih (q + 1) (by omega)
    rw [gL_round v226_b12.eq_1, d1, List.all_cons]
    generalize s[q] = c at *
    have hc : nmC c = ((decide (97 ≤ (c.toNat : Int)) && decide ((c.toNat : Int) ≤ 122)) || (decide (48 ≤ (c.toNat : Int)) && decide ((c.toNat : Int) ≤ 57)) || ((c.toNat : Int) == 45)) := rfl
    rw [hc]
    simp only [v226_13] at ih'
    rcases bool_two (decide (97 ≤ (c.toNat : Int))) with a1 | a1 <;> rcases bool_two (decide ((c.toNat : Int) ≤ 122)) with a2 | a2 <;> rcases bool_two (decide (48 ≤ (c.toNat : Int))) with a3 | a3 <;> rcases bool_two (decide ((c.toNat : Int) ≤ 57)) with a4 | a4 <;> rcases bool_two ((c.toNat : Int) == 45) with a5 | a5 <;> (
      simp [a1, a2, a3, a4, a5] at ih' ⊢
      simp [v226_4, v226_5, v226_6, v226_7, v226_8, v226_9, v226_10, v226_11, h1, ixN_at e1, e3, a1, a2, a3, a4, a5]
      try exact ih')
def nameB : By → Bool
  | [] => false
  | c :: r => bif decide (16 < (r.length : Int) + 1) then false else bif decide ((c.toNat : Int) < 97) then false else bif decide (122 < (c.toNat : Int)) then false else (c :: r).all nmC
theorem t226 (hp : NoPm Pm) (s : By) : gF vTab M Q Pm 226 [.str s] [] 0 = some (.bool (nameB s), [], 0) := by
  refine gF_of (fn := v226) (hp 226 (by decide) (by decide)) rfl rfl ?_
  cases s with
  | nil => simp [v226_body, v226_0, v226_1, v226_2, nameB]
  | cons c r =>
    have hc : nameB (c :: r) = (bif decide (16 < (r.length : Int) + 1) then false else bif decide ((c.toNat : Int) < 97) then false else bif decide (122 < (c.toNat : Int)) then false else (c :: r).all nmC) := rfl
    have hx := fun s => ixN_at (s := s) (b := c :: r) (i := 0) (c := c) rfl
    rw [hc]
    rcases bool_two (decide (16 < (r.length : Int) + 1)) with a1 | a1
    · rcases bool_two (decide ((c.toNat : Int) < 97)) with a2 | a2
      · rcases bool_two (decide (122 < (c.toNat : Int))) with a3 | a3
        · have hl : (c :: r).length ≤ 16 := by have := of_decide_eq_false a1; simp only [List.length_cons]; omega
          have a := t226_a (M := M) (Q := Q) (Pm := Pm) (c :: r) hl true (c :: r).length 0 (Nat.zero_add _)
          rw [List.drop_zero] at a
          simp at hx
          simp at a
          simp [a1, a2, a3]
          simp [v226_body, v226_0, v226_1, v226_3, a1, a2, a3, hx]
          exact a
        · simp at hx
          simp [a1, a2, a3]
          simp [v226_body, v226_0, v226_1, v226_2, a1, a2, a3, hx]
      · simp at hx
        simp [a1, a2]
        simp [v226_body, v226_0, v226_1, v226_2, a1, a2, hx]
    · simp [a1]
      simp [v226_body, v226_0, v226_1, v226_2, a1]
structure In where
  d : By
  v : Nat
  st : Int
  c : By
  nx : Nat
def inC (x : In) : List U := [.str x.d, .int .u64 (x.v : Int), .int .i64 x.st, .str x.c, .int .u64 (x.nx : Int)]
set_option maxHeartbeats 4000000 in
theorem t164 (hp : NoPm Pm) (hq : NoQ Q) (x : In) : ∃ n : Int, gF vTab M Q Pm 164 [.agg (inC x)] [] 0 = some (.int .i64 n, [], 0) := by
  have c1 := t226 (M := M) (Q := Q) (Pm := Pm) hp x.c
  have c2 := t226 (M := M) (Q := Q) (Pm := Pm) hp x.d
  refine ⟨bif (bif x.st == 3 then nameB x.c else x.c == []) && nameB x.d && !((x.v : Int) == 0) && !((x.nx : Int) == 0) && !decide (x.st < 1) && !decide (4 < x.st) then 0 else 1, gF_of (fn := v164) (hp 164 (by decide) (by decide)) rfl rfl ?_⟩
  rcases bool_two (x.st == 3) with b0 | b0
  · rcases bool_two (x.c == []) with b1 | b1 <;> rcases bool_two (nameB x.d) with b2 | b2 <;> rcases bool_two ((x.v : Int) == 0) with b3 | b3 <;> rcases bool_two ((x.nx : Int) == 0) with b4 | b4 <;> rcases bool_two (decide (x.st < 1)) with b5 | b5 <;> rcases bool_two (decide (4 < x.st)) with b6 | b6 <;>
      (rw [b2] at c2; simp only [b0, b1, b2, b3, b4, b5, b6]; simp [v164_body, v164_0, v164_1, v164_2, v164_4, v164_5, v164_6, inC, b0, b1, b3, b4, b5, b6, hq, c2])
  · rcases bool_two (nameB x.c) with b1 | b1 <;> rcases bool_two (nameB x.d) with b2 | b2 <;> rcases bool_two ((x.v : Int) == 0) with b3 | b3 <;> rcases bool_two ((x.nx : Int) == 0) with b4 | b4 <;> rcases bool_two (decide (x.st < 1)) with b5 | b5 <;> rcases bool_two (decide (4 < x.st)) with b6 | b6 <;>
      (rw [b2] at c2; rw [b1] at c1; simp only [b0, b1, b2, b3, b4, b5, b6]; simp [v164_body, v164_0, v164_1, v164_2, v164_3, v164_4, v164_5, v164_6, inC, b0, b3, b4, b5, b6, hq, c1, c2])
end Go.RE
namespace Go.RE
variable {M : Nat → String → Option Nat} {Q : Mut} {Pm : Nat → Option (List U → List Uo → Nat → Option (U × List Uo × Nat))}
theorem t123 (hp : NoPm Pm) (hq : NoQ Q) (x : In) (hd : x.d.length < 10000000) (hcl : x.c.length < 10000000) (hv : x.v < 18446744073709551616) (hx : x.nx < 18446744073709551616) : ∃ b : By, gF vTab M Q Pm 123 [.agg (inC x)] [] 0 = some (.own .r 1 (bytesU b), [], 0) := by
  obtain ⟨n, c164⟩ := t164 (M := M) hp hq x
  simp only [inC] at c164
  by_cases hn : n = 0
  · have sm : small = 1000000000 := rfl
    have c1 := t190 (M := M) hp hq x.d (by omega)
    have c2 := t191 (M := M) (Q := Q) (Pm := Pm) hp x.v hv
    have c3 := t190 (M := M) hp hq x.c (by omega)
    have c4 := t191 (M := M) (Q := Q) (Pm := Pm) hp x.nx hx
    have l1 := uvB_len x.d.length
    have l2 := uvB_len x.v
    have l3 := uvB_len x.c.length
    have l4 := uvB_len x.nx
    have c5 := t189 (M := M) (Q := Q) (Pm := Pm) hp [txB x.d, uvB x.v, [lowB x.st], txB x.c, uvB x.nx] (by simp [small]) (by simp [sumL, txB]; omega)
    simp only [partC, List.map_cons, List.map_nil, bytes_cons, bytes_nil] at c5
    subst hn
    refine ⟨[txB x.d, uvB x.v, [lowB x.st], txB x.c, uvB x.nx].flatten, gF_of (fn := v123) (hp 123 (by decide) (by decide)) rfl rfl ?_⟩
    generalize [txB x.d, uvB x.v, [lowB x.st], txB x.c, uvB x.nx].flatten = R at *
    simp [v123_body, v123_0, v123_1, inC, hq, c164]
    simp [gC_drw v123_3h, v123_3s, hq, c1, c2, c3, c4, c5, low_eq, flat_bytes, Nat.testBit_eq_decide_div_mod_eq]
  · refine ⟨[], gF_of (fn := v123) (hp 123 (by decide) (by decide)) rfl rfl ?_⟩
    simp [v123_body, v123_0, v123_1, v123_2, inC, hq, c164, hn, bytes_nil]
structure Tk where
  node : Int
  sc : Nat
  fl : Int
def tkC (x : Tk) : List U := [.int .i64 x.node, .int .u64 (x.sc : Int), .int .i64 x.fl]
theorem t179_y (hp : NoPm Pm) (x : Tk) (h1 : 0 ≤ x.node) (h2 : x.node < 40) (h3 : -1 ≤ x.fl) (h4 : x.fl < 80) : gF vTab M Q Pm 179 [.agg (tkC x)] [] 0 = some (.int .i64 0, [], 0) := by
  refine gF_of (fn := v179) (hp 179 (by decide) (by decide)) rfl rfl ?_
  have a1 : ¬ x.node < 0 := by omega
  have a2 : ¬ 40 ≤ x.node := by omega
  have a3 : ¬ x.fl < -1 := by omega
  have a4 : ¬ 80 ≤ x.fl := by omega
  simp [v179_body, v179_0, v179_1, v179_3, tkC, a1, a2, a3, a4]
theorem t179_n (hp : NoPm Pm) (x : Tk) (h : ¬ (0 ≤ x.node ∧ x.node < 40 ∧ -1 ≤ x.fl ∧ x.fl < 80)) : gF vTab M Q Pm 179 [.agg (tkC x)] [] 0 = some (.int .i64 1, [], 0) := by
  refine gF_of (fn := v179) (hp 179 (by decide) (by decide)) rfl rfl ?_
  by_cases a1 : x.node < 0
  · simp [v179_body, v179_0, v179_1, v179_2, tkC, a1]
  · by_cases a2 : 40 ≤ x.node
    · simp [v179_body, v179_0, v179_1, v179_2, tkC, a1, a2]
    · by_cases a3 : x.fl < -1
      · simp [v179_body, v179_0, v179_1, v179_2, tkC, a1, a2, a3]
      · by_cases a4 : 80 ≤ x.fl
        · simp [v179_body, v179_0, v179_1, v179_2, tkC, a1, a2, a3, a4]
        · omega
theorem t124 (hp : NoPm Pm) (hq : NoQ Q) (x : Tk) (hs : x.sc < 18446744073709551616) : ∃ b : By, gF vTab M Q Pm 124 [.agg (tkC x)] [] 0 = some (.own .r 1 (bytesU b), [], 0) := by
  by_cases h : 0 ≤ x.node ∧ x.node < 40 ∧ -1 ≤ x.fl ∧ x.fl < 80
  · obtain ⟨h1, h2, h3, h4⟩ := h
    have c0 := t179_y (M := M) (Q := Q) (Pm := Pm) hp x h1 h2 h3 h4
    obtain ⟨m, hm⟩ := Int.eq_ofNat_of_zero_le h1
    obtain ⟨m2, hm2⟩ := Int.eq_ofNat_of_zero_le (a := x.fl + 1) (by omega)
    have w1 := wrap64 (n := m) (by omega)
    have w2 := wrap64 (n := m2) (by omega)
    have w3 := wrap_nat (n := m2) (by omega)
    have c1 := t191 (M := M) (Q := Q) (Pm := Pm) hp m (by omega)
    have c2 := t191 (M := M) (Q := Q) (Pm := Pm) hp x.sc hs
    have c3 := t191 (M := M) (Q := Q) (Pm := Pm) hp m2 (by omega)
    have l1 := uvB_len m
    have l2 := uvB_len x.sc
    have l3 := uvB_len m2
    have c5 := t189 (M := M) (Q := Q) (Pm := Pm) hp [uvB m, uvB x.sc, uvB m2] (by simp [small]) (by simp [sumL, small]; omega)
    simp only [partC, List.map_cons, List.map_nil] at c5
    refine ⟨[uvB m, uvB x.sc, uvB m2].flatten, gF_of (fn := v124) (hp 124 (by decide) (by decide)) rfl rfl ?_⟩
    generalize [uvB m, uvB x.sc, uvB m2].flatten = R at *
    simp only [tkC, hm] at c0 ⊢
    simp [v124_body, v124_0, v124_1, hq, c0]
    simp [gC_drw v124_3h, v124_3s, hq, hm2, w1, w2, w3, c1, c2, c3, c5, flat_bytes, Nat.testBit_eq_decide_div_mod_eq]
  · have c0 := t179_n (M := M) (Q := Q) (Pm := Pm) hp x h
    simp only [tkC] at c0
    refine ⟨[], gF_of (fn := v124) (hp 124 (by decide) (by decide)) rfl rfl ?_⟩
    simp [v124_body, v124_0, v124_1, v124_2, tkC, hq, c0, bytes_nil]
theorem t72_m (hp : NoPm Pm) (hq : NoQ Q) (s : By) (x : In) (hd : x.d.length < 10000000) (hcl : x.c.length < 10000000) (hv : x.v < 18446744073709551616) (hx : x.nx < 18446744073709551616) {c : U} {h : List Uo} {fl : Nat} (hc : NoC c h fl) : gF vTab M Q Pm 72 [c, .str s, .agg (inC x)] h fl = some (.iface 191 (.ptr (h.length + 3) 0), h ++ [.row (inC x), .row (refC (rInst s)), .row (refC (rInst s)), fltO 105], fl) := by
  refine gF_of (fn := v72) (hp 72 (by decide) (by decide)) rfl rfl ?_
  have h0 := t99r (M := M) (Q := Q) (Pm := Pm) hp s
  obtain ⟨b, h1⟩ := t123 (M := M) hp hq x hd hcl hv hx
  rcases hc with ⟨rfl, rfl, rfl⟩ | ⟨i, rfl, hi, hf⟩
  · have h2 := t122_m (M := M) hp hq (rInst s) b noC_nil
    simp [refC, fltO, rInst, inC] at h0 h1 h2
    simp [v72_body, v72_0, refC, fltO, rInst, inC, hq, gC_drw v72_1h, v72_1s, h0, h1, h2, flat_bytes, Nat.testBit_eq_decide_div_mod_eq]
  · have h2 := fun X => t122_m (M := M) hp hq (rInst s) b (noC_app hi hf [X])
    simp [refC, fltO, rInst, inC] at h0 h1 h2
    simp [v72_body, v72_0, refC, fltO, rInst, inC, hq, gC_drw v72_1h, v72_1s, h0, h1, h2, lt1 hi, flat_bytes, Nat.testBit_eq_decide_div_mod_eq]
theorem t73_m (hp : NoPm Pm) (hq : NoQ Q) (s : By) (t : Int) (x : Tk) (hs : x.sc < 18446744073709551616) {c : U} {h : List Uo} {fl : Nat} (hc : NoC c h fl) : gF vTab M Q Pm 73 [c, .str s, .int .u64 t, .agg (tkC x)] h fl = some (.iface 191 (.ptr (h.length + 3) 0), h ++ [.row (tkC x), .row (refC (rTok s t)), .row (refC (rTok s t)), fltO 116], fl) := by
  refine gF_of (fn := v73) (hp 73 (by decide) (by decide)) rfl rfl ?_
  have h0 := t113 (M := M) (Q := Q) (Pm := Pm) hp s t
  obtain ⟨b, h1⟩ := t124 (M := M) hp hq x hs
  rcases hc with ⟨rfl, rfl, rfl⟩ | ⟨i, rfl, hi, hf⟩
  · have h2 := t122_m (M := M) hp hq (rTok s t) b noC_nil
    simp [refC, fltO, rTok, tkC] at h0 h1 h2
    simp [v73_body, v73_0, refC, fltO, rTok, tkC, hq, gC_drw v73_1h, v73_1s, h0, h1, h2, flat_bytes, Nat.testBit_eq_decide_div_mod_eq]
  · have h2 := fun X => t122_m (M := M) hp hq (rTok s t) b (noC_app hi hf [X])
    simp [refC, fltO, rTok, tkC] at h0 h1 h2
    simp [v73_body, v73_0, refC, fltO, rTok, tkC, hq, gC_drw v73_1h, v73_1s, h0, h1, h2, lt1 hi, flat_bytes, Nat.testBit_eq_decide_div_mod_eq]
end Go.RE
namespace Go.RE
variable {M : Nat → String → Option Nat} {Q : Mut} {Pm : Nat → Option (List U → List Uo → Nat → Option (U × List Uo × Nat))}
section
variable (k : UInt8) (h : List Uo) (fl p : Nat)
theorem t41_m (hp : NoPm Pm) (hq : NoQ Q) (ha : Pm 97 = some asP) (hi : h[p]? = some (fltO k)) (hf : fl ≤ h.length) : gF vTab M Q Pm 41 [.iface 191 (.ptr p 0)] h fl = some (.tup [.agg [.str [], .str []], .bool false], h, fl) := by
  refine gF_of (fn := v41) (hp 41 (by decide) (by decide)) rfl rfl ?_
  simp only [fltO] at hi
  simp [v41_body, v41_0, v41_1, v41_2, v41_3, v41_4, hq, t97 ha, at_old hi, lt1 hi, cut0 hf]
theorem t62_m (hp : NoPm Pm) (hq : NoQ Q) (ha : Pm 97 = some asP) (hi : h[p]? = some (fltO k)) (hf : fl ≤ h.length) : gF vTab M Q Pm 62 [.iface 191 (.ptr p 0)] h fl = some (.int .i64 2, h, fl) := by
  refine gF_of (fn := v62) (hp 62 (by decide) (by decide)) rfl rfl ?_
  simp only [fltO] at hi
  simp [v62_body, v62_0, v62_1, v62_2, v62_3, v62_4, v62_5, v62_6, hq, t97 ha, at_old hi, lt1 hi, cut0 hf]
theorem t43_m (hp : NoPm Pm) (hq : NoQ Q) (ha : Pm 97 = some asP) (hi : h[p]? = some (fltO k)) (hf : fl ≤ h.length) : gF vTab M Q Pm 43 [.iface 191 (.ptr p 0)] h fl = some (.own .r 1 [[.str [k]]], h, fl) := by
  refine gF_of (fn := v43) (hp 43 (by decide) (by decide)) rfl rfl ?_
  simp only [fltO] at hi
  simp [v43_body, v43_0, v43_1, v43_2, lt1 hi, cut1 hf, cut0 hf]
  rw [gL_round v43_b6.eq_1]
  simp [v43_3, v43_4, v43_5, hq, t97 ha, big, at_old hi, lt1 hi, cut1 hf, cut0 hf]
  rw [gL_round v43_b6.eq_1]
  simp [v43_3, v43_7, hq, t97 ha, at_old hi, lt1 hi, cut1 hf, cut0 hf]
def plM (k : UInt8) : List U := [.bool true, .sl 1 [[.str [k]]], .int .i64 2, .bool false, .str [], .str []]
theorem t31_m (hp : NoPm Pm) (hq : NoQ Q) (ha : Pm 97 = some asP) (hi : h[p]? = some (fltO k)) (hf : fl ≤ h.length) : gF vTab M Q Pm 31 [.iface 191 (.ptr p 0)] h fl = some (.agg (plM k), h, fl) := by
  refine gF_of (fn := v31) (hp 31 (by decide) (by decide)) rfl rfl ?_
  have c41 := fun X => t41_m (M := M) (Q := Q) (Pm := Pm) k (h ++ [X]) fl p hp hq ha (at_old hi) (by simp; omega)
  have c43 := fun X Y => t43_m (M := M) (Q := Q) (Pm := Pm) k (h ++ [X, Y]) fl p hp hq ha (at_old hi) (by simp; omega)
  have c62 := fun X Y => t62_m (M := M) (Q := Q) (Pm := Pm) k (h ++ [X, Y]) fl p hp hq ha (at_old hi) (by simp; omega)
  simp [v31_body, v31_0, v31_1, v31_3, hq, c41, lt1 hi, cut0 hf, plM]
  simp [gC_drw v31_4h, v31_4s, hq, c43, c62, lt1 hi, cut0 hf, Nat.testBit_eq_decide_div_mod_eq]
end
end Go.RE
