/- Contracts: what is known learns. -/
import Derived.Test.YtigkmaeaoaejiaaGreatDoorPart13
set_option linter.unusedVariables false
set_option linter.unusedSimpArgs false
namespace Go.RE
variable {M : Nat → String → Option Nat} {Q : Mut} {Pm : Nat → Option (List U → List Uo → Nat → Option (U × List Uo × Nat))}
structure Pt where
  k : By
  n : Nat
  b : Nat
def ptU (e : Pt) : U × U × Nat := (.str e.k, .int .i64 (e.n : Int), e.b)
def ptOf (k : By) (es : List Pt) : Option Pt := es.find? fun e => e.k == k
def cnt (k : By) (es : List Pt) : Nat := ((ptOf k es).map (·.n)).getD 0
def modN (k : By) (n : Nat) : List Pt → List Pt
  | [] => []
  | e :: r => if (e.k == k) = true then ⟨k, n, e.b⟩ :: r else e :: modN k n r
theorem find_pt (k : By) : ∀ (es : List Pt) (j : Nat), (ptOf k es = none ∧ findU .str (.str k) (es.map ptU) j = some none) ∨
    ∃ e i, ptOf k es = some e ∧ findU .str (.str k) (es.map ptU) j = some (some (j + i, .int .i64 (e.n : Int))) ∧ ∀ n : Nat, modU i (fun e => (.str k, .int .i64 (n : Int), e.2.2)) (es.map ptU) = (modN k n es).map ptU := by
  intro es
  induction es with
  | nil => intro j; exact .inl ⟨rfl, rfl⟩
  | cons e es ih =>
    intro j
    have hf : findU .str (.str k) ((e :: es).map ptU) j = (match some (k == e.k) with
      | some true => some (some (j, .int .i64 (e.n : Int)))
      | some false => findU .str (.str k) (es.map ptU) (j + 1)
      | none => none) := rfl
    rw [hf, beq_sym k e.k]
    cases hk : e.k == k with
    | true =>
      refine .inr ⟨e, 0, by simp [ptOf, List.find?_cons, hk], rfl, fun n => ?_⟩
      simp [modN, hk, modU, ptU]
    | false =>
      have hfe : ptOf k (e :: es) = ptOf k es := by simp [ptOf, List.find?_cons, hk]
      rcases ih (j + 1) with ⟨a, b⟩ | ⟨e', i, a, b, c⟩
      · exact .inl ⟨by rw [hfe]; exact a, b⟩
      · refine .inr ⟨e', i + 1, by rw [hfe]; exact a, by rw [show j + (i + 1) = j + 1 + i by omega]; exact b, fun n => ?_⟩
        simp only [List.map_cons, modU, modN, hk]; rw [c]; simp
theorem lookup_pt (k : By) (es : List Pt) (c m : Nat) (s : Vs) (hm : s.h[m]? = some (.map (es.map ptU) c)) :
    lookupU s .str (.int .i64 0) false (.map m) (.str k) = some (.int .i64 (cnt k es : Int)) := by
  have hk : plainKeyU .str (.str k) = true := rfl
  rcases find_pt k es 0 with ⟨a, b⟩ | ⟨e, i, a, b, _⟩
  · simp only [lookupU, hm, hk, cond_true, b, cnt, a]; rfl
  · simp only [lookupU, hm, hk, cond_true, b, cnt, a]; rfl
def setN (k : By) (n c : Nat) (es : List Pt) : List Pt := if (ptOf k es).isSome = true then modN k n es else es ++ [⟨k, n, c⟩]
def clkN (k : By) (c : Nat) (es : List Pt) : Nat := if (ptOf k es).isSome = true then c else c + 1
theorem muP_pt (k : By) (n : Nat) (es : List Pt) (c m : Nat) (s : Vs) : muP .str m (.str k) (.int .i64 (n : Int)) s (some (.map (es.map ptU) c)) = some (.tup [], ⟨s.e, s.h.set m (.map ((setN k n c es).map ptU) (clkN k c es)), s.fl⟩) := by
  have hk : plainKeyU .str (.str k) = true := rfl
  rcases find_pt k es 0 with ⟨a, b⟩ | ⟨e, i, a, b, d⟩
  · simp [muP, hk, cond_true, b, U.low, setN, clkN, a, ptU]
  · simp only [muP, hk, cond_true, b, U.low, setN, clkN, a, Nat.zero_add, d, Option.isSome_some, if_true]
def bump (k : By) (t : List Pt × Nat) : List Pt × Nat := (setN k (cnt k t.1 + 1) t.2 t.1, clkN k t.2 t.1)
def ptO (t : List Pt × Nat) : Uo := .map (t.1.map ptU) t.2
def delT (es : List Ent1) (k : By) : List Ent1 := if (entOf k es).isSome = true then delE k es else es
def delsT (es : List Ent1) (D : List Pr) : List Ent1 := D.foldl (fun es p => delT es p.1) es
def kH (T : Tb) (p : List Pt × Nat) (S : List Spn) (X Y : Uo) : List Uo := [tabO T, .row [.map 0], ptO p, .row [.ptr 1 0, .map 2, kcell S], X, Y]
theorem t26_a (T : Tb) (c : Nat) (p : List Pt × Nat) (S : List Spn) (X Y Z W : Uo) (N : List U) (D L : List Pr) (hl : D.length < small) (K : Ex → Vs → Prop) :
    ∀ (j q : Nat) (es : List Ent1), q + j = D.length →
    K .normal ⟨[(0, .ptr 3 0), (6, .ptr 7 0), (2, .sl 2 (L.map pairC))], kH (delsT es (D.drop q), c) p S X Y ++ [Z, W], 0⟩ →
    gL vTab M Q Pm v26 1 v26_b13 8 ⟨[(63, .int .i64 (q : Int)), (0, .ptr 3 0), (61, .own (.t 61) 2 (D.map pairC)), (6, .ptr 7 0), (2, .sl 2 (L.map pairC)), (62, .int .i64 (D.length : Int))], kH (es, c) p S X Y ++ [Z, W], 0⟩ K := by
  intro j
  induction j with
  | zero =>
    intro q es hij hK
    have h1 : ¬ ((q : Int) < (D.length : Int)) := by omega
    have h2 : D.drop q = [] := List.drop_of_length_le (by omega)
    rw [h2] at hK
    rw [gL_round v26_b13.eq_1]
    simp [v26_9, h1, kH, tabO, ptO, delsT] at hK ⊢
    exact hK
  | succ j ih =>
    intro q es hij hK
    have h1 : ((q : Int) < (D.length : Int)) := by omega
    have hi1 : q < D.length := by omega
    have e1 : (D.map pairC)[q]? = some (pairC D[q]) := by simp [hi1]
    have e2 : q < (D.map pairC).length := by simpa using hi1
    have e3 : wrapA .i64 ((q : Int) + 1) = ((q + 1 : Nat) : Int) := wrap_succ (by unfold small at hl; omega)
    have d1 : D.drop q = D[q] :: D.drop (q + 1) := List.drop_eq_getElem_cons hi1
    rw [d1] at hK
    have ih' := ih (q + 1) (delT es D[q].1) (by omega) hK
    have ep : pairC D[q] = [.str D[q].1, .sl 1 (bytesU D[q].2)] := rfl
    have hdl := fun s hs => delP_ent D[q].1 es c 0 s hs
    rw [gL_round v26_b13.eq_1]
    simp [kH, tabO, ptO, delT] at ih'
    simp [v26_9, v26_10, v26_12, h1, iaV_own e2, hi1, ep, e3, kH, tabO, ptO, gC_drw v26_11h, v26_11s, hdl, Nat.testBit_eq_decide_div_mod_eq]
    exact ih'
def putsT (t : Tb) (lo hi : By) (L : List Pr) : Tb := (L.filter fun x => has lo hi x.1).foldl stepP t
theorem t26_b (hp : NoPm Pm) (hq : NoQ Q) (hc : Pm 49 = some cloneP) (p : List Pt × Nat) (S : List Spn) (X Y Z : Uo) (lo hi : By) (L : List Pr) (hl : L.length < small) (hld : ∀ p ∈ L, p.2.length < small) (K : Ex → Vs → Prop) :
    ∀ (j q : Nat) (t : Tb), q + j = L.length →
    K .normal ⟨[], kH (putsT t lo hi (L.drop q)) p S X Y ++ [Z, .row [.str lo, .str hi]], 0⟩ →
    gL vTab M Q Pm v26 3 v26_b20 8 ⟨[(79, .int .i64 (q : Int)), (0, .ptr 3 0), (6, .ptr 7 0), (77, .sl 2 (L.map pairC)), (78, .int .i64 (L.length : Int))], kH t p S X Y ++ [Z, .row [.str lo, .str hi]], 0⟩ K := by
  intro j
  induction j with
  | zero =>
    intro q t hij hK
    have h1 : ¬ ((q : Int) < (L.length : Int)) := by omega
    have h2 : L.drop q = [] := List.drop_of_length_le (by omega)
    rw [h2] at hK
    rw [gL_round v26_b20.eq_1]
    simp [v26_15, h1, kH, tabO, ptO, putsT] at hK ⊢
    exact hK
  | succ j ih =>
    intro q t hij hK
    have h1 : ((q : Int) < (L.length : Int)) := by omega
    have hi1 : q < L.length := by omega
    have e1 : (L.map pairC)[q]? = some (pairC L[q]) := by simp [hi1]
    have e3 : wrapA .i64 ((q : Int) + 1) = ((q + 1 : Nat) : Int) := wrap_succ (by unfold small at hl; omega)
    have d1 : L.drop q = L[q] :: L.drop (q + 1) := List.drop_eq_getElem_cons hi1
    have ep : pairC L[q] = [.str L[q].1, .sl 1 (bytesU L[q].2)] := rfl
    have hmu := muP_ent L[q].1 L[q].2 t.1 t.2 0
    rw [d1] at hK
    rw [gL_round v26_b20.eq_1]
    cases hk : has lo hi L[q].1 with
    | false =>
      have hK' : K .normal ⟨[], kH (putsT t lo hi (L.drop (q + 1))) p S X Y ++ [Z, .row [.str lo, .str hi]], 0⟩ := by
        have : putsT t lo hi (L[q] :: L.drop (q + 1)) = putsT t lo hi (L.drop (q + 1)) := by unfold putsT; rw [List.filter_cons, hk]; rfl
        rw [← this]; exact hK
      have ih' := ih (q + 1) t (by omega) hK'
      simp [kH, tabO, ptO] at ih'
      simp [v26_15, v26_16, v26_17, v26_19, h1, iaV_sl e1, ep, e3, kH, tabO, ptO, hq, t58 (hp 58 (by decide) (by decide)), hk]
      exact ih'
    | true =>
      have hK' : K .normal ⟨[], kH (putsT (stepP t L[q]) lo hi (L.drop (q + 1))) p S X Y ++ [Z, .row [.str lo, .str hi]], 0⟩ := by
        have : putsT t lo hi (L[q] :: L.drop (q + 1)) = putsT (stepP t L[q]) lo hi (L.drop (q + 1)) := by unfold putsT; rw [List.filter_cons, hk]; rfl
        rw [← this]; exact hK
      have ih' := ih (q + 1) (stepP t L[q]) (by omega) hK'
      simp [kH, tabO, ptO, stepP] at ih'
      simp [v26_15, v26_16, v26_17, v26_19, h1, iaV_sl e1, ep, e3, kH, tabO, ptO, hq, t58 (hp 58 (by decide) (by decide)), hk, gC_drw v26_18h, v26_18s, t49 hc _ (hld _ (List.getElem_mem hi1)), flat_bytes, hmu, Nat.testBit_eq_decide_div_mod_eq]
      exact ih'
structure Kn where
  t : Tb
  p : List Pt × Nat
  s : List Spn
def lieT (t : Tb) (lo hi : By) (L : List Pr) : Tb := putsT (delsT t.1 (inT t.1 lo hi (keysT t.1)), t.2) lo hi L
def learnK (x : Les) (a : Kn) : Kn :=
  if x.1.1 = x.1.2 then ⟨lieT a.t x.1.1 (x.1.1 ++ [0]) x.2, bump x.1.1 a.p, a.s⟩
  else if right x.1.1 x.1.2 = true then ⟨lieT a.t x.1.1 x.1.2 x.2, a.p, a.s ++ [x.1]⟩ else a
def knH (a : Kn) (X Y : Uo) : List Uo := kH a.t a.p a.s X Y
theorem inT_len (es : List Ent1) (lo hi : By) : (inT es lo hi (keysT es)).length ≤ es.length := by
  unfold inT; rw [List.length_map]
  have := List.length_filter_le (has lo hi) (keysT es)
  have h2 : (keysT es).length = es.length := by unfold keysT; rw [sort_len, List.length_map]
  omega
theorem t26_c (hp : NoPm Pm) (hq : NoQ Q) (hs : Q 90 = some sortQ) (hc : Pm 49 = some cloneP) (t : Tb) (p : List Pt × Nat) (S : List Spn) (X Y Z : Uo) (lo hi : By) (L : List Pr) (hT : TabOk t.1 t.2) (hl : t.1.length < small) (hL : L.length < small) (hld : ∀ p ∈ L, p.2.length < small) (K : Ex → Vs → Prop)
    (hK : K .normal ⟨[], kH (lieT t lo hi L) p S X Y ++ [Z, .row [.str lo, .str hi]], 0⟩) :
    gC vTab M Q Pm v26 (.draw v26_8) ⟨[(0, .ptr 3 0), (6, .ptr 7 0), (2, .sl 2 (L.map pairC))], kH t p S X Y ++ [Z, .row [.str lo, .str hi]], 0⟩ (seqK vTab M Q Pm v26 (.block 1 (.loop v26_b13)) (seqK vTab M Q Pm v26 (.seq (.region v26_14) (.block 3 (.loop v26_b20))) K)) := by
  have c46 := fun (A B C D E F : Uo) => t46 (M := M) hp hq hs hc t.1 t.2 0 1 lo hi hT hl [tabO t, .row [.map 0], A, B, C, D, E, F] 0 (by simp) rfl rfl
  simp [tabO] at c46
  have hlp := t26_a (M := M) (Q := Q) (Pm := Pm) t t.2 p S X Y Z (.row [.str lo, .str hi]) [] (inT t.1 lo hi (keysT t.1)) L (by have := inT_len t.1 lo hi; omega)
  have hlq := t26_b (M := M) hp hq hc p S X Y Z lo hi L hL hld
  simp [kH, tabO, ptO] at hlp hlq
  simp [kH, tabO, ptO, hq, gC_drw v26_8h, v26_8s, c46, cut, Nat.testBit_eq_decide_div_mod_eq]
  refine hlp _ _ 0 t.1 (Nat.zero_add _) ?_
  simp only [List.drop_zero]
  simp [v26_14, cut]
  refine hlq _ _ 0 _ _ (Nat.zero_add _) ?_
  simp only [List.drop_zero]
  simp [lieT, kH, tabO, ptO] at hK
  exact hK
theorem t26 (hp : NoPm Pm) (hq : NoQ Q) (hs : Q 90 = some sortQ) (hc : Pm 49 = some cloneP) (a : Kn) (x : Les) (X Y : Uo) (hT : TabOk a.t.1 a.t.2) (hl : a.t.1.length < small) (hL : x.2.length < small) (hld : ∀ p ∈ x.2, p.2.length < small) (hk : x.1.1.length < small) (hn : ∀ k, cnt k a.p.1 < small) (hS : a.s.length < small) :
    gF vTab M Q Pm 26 [.ptr 3 0, .agg [.str x.1.1, .str x.1.2], .sl 2 (x.2.map pairC)] (knH a X Y) 0 = some (.tup [], knH (learnK x a) X Y, 0) := by
  refine gF_of (fn := v26) (hp 26 (by decide) (by decide)) rfl rfl ?_
  obtain ⟨⟨lo, hi⟩, L⟩ := x
  obtain ⟨t, p, S⟩ := a
  dsimp only at hT hl hL hld hk hn hS
  by_cases hlh : lo = hi
  · subst hlh
    have hcn := hn lo
    have e3 : wrapA .i64 ((cnt lo p.1 : Int) + 1) = (cnt lo p.1 : Int) + 1 := wrap_succ (by unfold small at hcn; omega)
    have hlk := fun s hs => lookup_pt lo p.1 p.2 2 s hs
    have hmu : ∀ s, muP .str 2 (.str lo) (.int .i64 ((cnt lo p.1 : Int) + 1)) s (some (.map (p.1.map ptU) p.2)) = _ := muP_pt lo (cnt lo p.1 + 1) p.1 p.2 2
    have hend := t26_c (M := M) hp hq hs hc t (bump lo p) S X Y (.row [.str lo, .str lo]) lo (lo ++ [0]) L hT hl hL hld
    have hres : learnK ((lo, lo), L) ⟨t, p, S⟩ = ⟨lieT t lo (lo ++ [0]) L, bump lo p, S⟩ := by simp [learnK]
    rw [hres]
    simp [kH, tabO, ptO, bump] at hend
    simp [v26_body, v26_0, v26_1, v26_2, v26_3, v26_4, knH, kH, tabO, ptO, hq, t56 (hp 56 (by decide) (by decide)) _ hk, gC_drw v26_5h, v26_5s, hlk, e3, hmu, cut, bump, Nat.testBit_eq_decide_div_mod_eq]
    refine hend _ ?_
    simp [kH, tabO, ptO, bump, cut]
  · have hlh' : (lo == hi) = false := beq_eq_false_iff_ne.2 hlh
    cases hr : right lo hi with
    | false =>
      have hres : learnK ((lo, hi), L) ⟨t, p, S⟩ = ⟨t, p, S⟩ := by simp [learnK, hlh, hr]
      rw [hres]
      simp [v26_body, v26_0, v26_1, v26_2, v26_3, v26_6, knH, kH, tabO, ptO, hq, hlh', hlh, t57 (hp 57 (by decide) (by decide)), hr, cut]
    | true =>
      have hend := t26_c (M := M) hp hq hs hc t p (S ++ [(lo, hi)]) X Y (.row [.str lo, .str hi]) lo hi L hT hl hL hld
      have hres : learnK ((lo, hi), L) ⟨t, p, S⟩ = ⟨lieT t lo hi L, p, S ++ [(lo, hi)]⟩ := by simp [learnK, hlh, hr]
      rw [hres]
      cases S with
      | nil =>
        simp [kH, tabO, ptO, kcell, spC] at hend
        simp [v26_body, v26_0, v26_1, v26_2, v26_3, v26_6, knH, kH, tabO, ptO, kcell, spC, hq, hlh', hlh, t57 (hp 57 (by decide) (by decide)), hr, gC_drw v26_7h, v26_7s, cut, big, Nat.testBit_eq_decide_div_mod_eq]
        refine hend _ ?_
        simp [kH, tabO, ptO, kcell, spC, cut]
      | cons s0 S =>
        have f1 : (S.length + 1 + 1) * 32 ≤ 1099511627776 ∧ S.length + 1 + 1 ≤ 1099511627776 := by simp only [List.length_cons] at hS; unfold small at hS; omega
        simp [kH, tabO, ptO, kcell, spC] at hend
        simp [v26_body, v26_0, v26_1, v26_2, v26_3, v26_6, knH, kH, tabO, ptO, kcell, spC, hq, hlh', hlh, t57 (hp 57 (by decide) (by decide)), hr, gC_drw v26_7h, v26_7s, cut, big, f1, Nat.testBit_eq_decide_div_mod_eq]
        refine hend _ ?_
        simp [kH, tabO, ptO, kcell, spC, cut]
end Go.RE
namespace Go.RE
theorem point_only : ∀ (k x : By), (!lt x k && lt x (k ++ [0])) = (x == k) := by
  intro k
  induction k with
  | nil =>
    intro x
    cases x with
    | nil => rfl
    | cons b y => simp [lt, Op.bytesLess]
  | cons a k ih =>
    intro x
    cases x with
    | nil => simp [lt, Op.bytesLess]
    | cons b y =>
      have := ih y
      simp only [lt, List.cons_append, Op.bytesLess] at this ⊢
      by_cases h1 : b < a
      · have hne : b ≠ a := fun hh => by subst hh; simp at h1
        have : (b :: y == a :: k) = false := by
          cases h : (b :: y == a :: k) with
          | false => rfl
          | true => have := eq_of_beq h; simp at this; exact absurd this.1 hne
        simp [h1, this]
      · by_cases h2 : b = a
        · subst h2
          have e : (b :: y == b :: k) = (y == k) := by show (b == b && y == k) = _; simp
          rw [e, ← this]; simp [h1]
        · have : (b :: y == a :: k) = false := by
            cases h : (b :: y == a :: k) with
            | false => rfl
            | true => have := eq_of_beq h; simp at this; exact absurd this.1 h2
          simp [h1, h2, this]
theorem has_point (k x : By) : has k (k ++ [0]) x = (x == k) := by
  unfold has
  have : (k ++ [0] == ([] : By)) = false := by cases k <;> rfl
  rw [this, Bool.false_or]
  exact point_only k x
def Srt (P : List Pr) : Prop := P.Pairwise fun a b => lt a.1 b.1 = true
theorem cutL_eq (l : List Pr) (k : By) : cutL l k = l.filter fun x => !(x.1 == k) := by
  unfold cutL; congr 1; funext x; rw [has_point]
theorem srt_filter {P : List Pr} (h : Srt P) (p : Pr → Bool) : Srt (P.filter p) := List.Pairwise.filter p h
theorem srt_put {P : List Pr} (h : Srt P) (p : Pr) : Srt (putL P p) := by
  unfold putL Srt
  rw [List.pairwise_append, List.pairwise_append]
  refine ⟨⟨srt_filter h _, List.pairwise_singleton _ _, fun a ha b hb => ?_⟩, srt_filter h _, fun a ha b hb => ?_⟩
  · simp at hb; subst hb
    exact (List.mem_filter.1 ha).2
  · have hb2 := (List.mem_filter.1 hb).2
    rcases List.mem_append.1 ha with ha | ha
    · exact lt_tr (List.mem_filter.1 ha).2 hb2
    · simp at ha; subst ha; exact hb2
theorem srt_pairs (l : List Pr) : Srt (pairsL l) := by
  unfold pairsL
  have : ∀ (l P : List Pr), Srt P → Srt (l.foldl putL P) := by
    intro l
    induction l with
    | nil => intro P h; exact h
    | cons p l ih => intro P h; exact ih _ (srt_put h p)
  exact this l [] List.Pairwise.nil
theorem lt_ne {a b : By} (h : a ≠ b) : lt a b = true ∨ lt b a = true := by
  rcases lt_tri a b with h1 | h1 | h1
  · exact .inl h1
  · exact absurd h1 h
  · exact .inr h1
theorem mem_put (P : List Pr) (p x : Pr) : x ∈ putL P p ↔ x = p ∨ (x ∈ P ∧ x.1 ≠ p.1) := by
  unfold putL
  simp only [List.mem_append, List.mem_filter, List.mem_singleton]
  constructor
  · rintro ((⟨h1, h2⟩ | h) | ⟨h1, h2⟩)
    · refine .inr ⟨h1, fun hh => ?_⟩
      rw [hh] at h2; rw [show lt p.1 p.1 = false from lt_irr _] at h2; cases h2
    · exact .inl h
    · refine .inr ⟨h1, fun hh => ?_⟩
      rw [hh] at h2; rw [show lt p.1 p.1 = false from lt_irr _] at h2; cases h2
  · rintro (h | ⟨h1, h2⟩)
    · exact .inl (.inr h)
    · rcases lt_ne h2 with h | h
      · exact .inl (.inl ⟨h1, h⟩)
      · exact .inr ⟨h1, h⟩
theorem mem_cut (P : List Pr) (k : By) (x : Pr) : x ∈ cutL P k ↔ x ∈ P ∧ x.1 ≠ k := by
  rw [cutL_eq, List.mem_filter]
  constructor
  · rintro ⟨h1, h2⟩
    exact ⟨h1, fun hh => by rw [hh] at h2; simp at h2⟩
  · rintro ⟨h1, h2⟩
    refine ⟨h1, ?_⟩
    cases h : x.1 == k with
    | false => rfl
    | true => exact absurd (eq_of_beq h) h2
theorem srt_ext : ∀ {P R : List Pr}, Srt P → Srt R → (∀ x, x ∈ P ↔ x ∈ R) → P = R := by
  intro P
  induction P with
  | nil =>
    intro R _ _ h
    cases R with
    | nil => rfl
    | cons a R => exact absurd ((h a).2 (by simp)) (by simp)
  | cons p P ih =>
    intro R hP hR h
    cases R with
    | nil => exact absurd ((h p).1 (by simp)) (by simp)
    | cons r R =>
      obtain ⟨hp1, hp2⟩ := List.pairwise_cons.1 hP
      obtain ⟨hr1, hr2⟩ := List.pairwise_cons.1 hR
      have hpr : p = r := by
        rcases List.mem_cons.1 ((h p).1 (by simp)) with h1 | h1
        · exact h1
        · rcases List.mem_cons.1 ((h r).2 (by simp)) with h2 | h2
          · exact h2.symm
          · have a := hr1 p h1
            have b := hp1 r h2
            have := lt_asy a
            rw [show Op.bytesLess p.1 r.1 = true from b] at this; cases this
      subst hpr
      congr 1
      refine ih hp2 hr2 fun x => ⟨fun hx => ?_, fun hx => ?_⟩
      · rcases List.mem_cons.1 ((h x).1 (List.mem_cons_of_mem _ hx)) with h1 | h1
        · subst h1; have := hp1 x hx; rw [show lt x.1 x.1 = false from lt_irr _] at this; cases this
        · exact h1
      · rcases List.mem_cons.1 ((h x).2 (List.mem_cons_of_mem _ hx)) with h1 | h1
        · subst h1; have := hr1 x hx; rw [show lt x.1 x.1 = false from lt_irr _] at this; cases this
        · exact h1
end Go.RE
namespace Go.RE
structure Rl (es : List Ent1) (P : List Pr) : Prop where
  nd : (es.map (·.k)).Nodup
  srt : Srt P
  mem : ∀ k d, (k, d) ∈ P ↔ ∃ e ∈ es, e.k = k ∧ e.d = d
theorem rl_nil : Rl [] [] := ⟨by simp, List.Pairwise.nil, fun k d => by simp⟩
theorem mod_keys (k d : By) : ∀ es, (modE k d es).map (·.k) = es.map (·.k) := by
  intro es
  induction es with
  | nil => rfl
  | cons e r ih =>
    simp only [modE]
    split
    · rename_i h; simp [eq_of_beq h]
    · simp [ih]
theorem mod_births (k d : By) : ∀ es, (modE k d es).map (·.b) = es.map (·.b) := by
  intro es
  induction es with
  | nil => rfl
  | cons e r ih =>
    simp only [modE]
    split
    · simp
    · simp [ih]
theorem mod_mem (k d : By) : ∀ es, (es.map (·.k)).Nodup → ∀ x, x ∈ modE k d es ↔ (x ∈ es ∧ x.k ≠ k) ∨ ∃ e ∈ es, e.k = k ∧ x = ⟨k, d, e.b⟩ := by
  intro es
  induction es with
  | nil => intro _ x; simp [modE]
  | cons e r ih =>
    intro hn x
    simp only [List.map_cons, List.nodup_cons] at hn
    simp only [modE]
    split
    · rename_i h
      have hk := eq_of_beq h
      have hr : ∀ y ∈ r, y.k ≠ k := fun y hy hh => hn.1 (by rw [hk, ← hh]; exact List.mem_map.2 ⟨y, hy, rfl⟩)
      simp only [List.mem_cons]
      constructor
      · rintro (h1 | h1)
        · exact .inr ⟨e, .inl rfl, hk, h1⟩
        · exact .inl ⟨.inr h1, hr x h1⟩
      · rintro (⟨h1 | h1, h2⟩ | ⟨y, h1 | h1, h2, h3⟩)
        · subst h1; exact absurd hk h2
        · exact .inr h1
        · subst h1; exact .inl h3
        · exact absurd h2 (hr y h1)
    · rename_i h
      have hk : e.k ≠ k := fun hh => h (by rw [hh]; exact beq_self_eq_true k)
      simp only [List.mem_cons, ih hn.2]
      constructor
      · rintro (h1 | ⟨h1, h2⟩ | ⟨y, h1, h2, h3⟩)
        · subst h1; exact .inl ⟨.inl rfl, hk⟩
        · exact .inl ⟨.inr h1, h2⟩
        · exact .inr ⟨y, .inr h1, h2, h3⟩
      · rintro (⟨h1 | h1, h2⟩ | ⟨y, h1 | h1, h2, h3⟩)
        · exact .inl h1
        · exact .inr (.inl ⟨h1, h2⟩)
        · subst h1; exact absurd h2 hk
        · exact .inr (.inr ⟨y, h1, h2, h3⟩)
theorem del_mem (k : By) : ∀ es, (es.map (·.k)).Nodup → ∀ x, x ∈ delE k es ↔ x ∈ es ∧ x.k ≠ k := by
  intro es
  induction es with
  | nil => intro _ x; simp [delE]
  | cons e r ih =>
    intro hn x
    simp only [List.map_cons, List.nodup_cons] at hn
    simp only [delE]
    split
    · rename_i h
      have hk := eq_of_beq h
      have hr : ∀ y ∈ r, y.k ≠ k := fun y hy hh => hn.1 (by rw [hk, ← hh]; exact List.mem_map.2 ⟨y, hy, rfl⟩)
      simp only [List.mem_cons]
      constructor
      · intro h1; exact ⟨.inr h1, hr x h1⟩
      · rintro ⟨h1 | h1, h2⟩
        · subst h1; exact absurd hk h2
        · exact h1
    · rename_i h
      have hk : e.k ≠ k := fun hh => h (by rw [hh]; exact beq_self_eq_true k)
      simp only [List.mem_cons, ih hn.2]
      constructor
      · rintro (h1 | ⟨h1, h2⟩)
        · subst h1; exact ⟨.inl rfl, hk⟩
        · exact ⟨.inr h1, h2⟩
      · rintro ⟨h1 | h1, h2⟩
        · exact .inl h1
        · exact .inr ⟨h1, h2⟩
theorem del_sub (k : By) : ∀ es, (delE k es).Sublist es := by
  intro es
  induction es with
  | nil => exact List.Sublist.refl _
  | cons e r ih =>
    simp only [delE]
    split
    · exact List.sublist_cons_self _ _
    · exact ih.cons_cons _
theorem ent_some {k : By} {es : List Ent1} (h : (entOf k es).isSome = true) : ∃ e ∈ es, e.k = k := by
  obtain ⟨e, he⟩ := Option.isSome_iff_exists.1 h
  have := List.find?_some he
  exact ⟨e, List.mem_of_find?_eq_some he, eq_of_beq this⟩
theorem ent_none {k : By} {es : List Ent1} (h : ¬ (entOf k es).isSome = true) : ∀ e ∈ es, e.k ≠ k := by
  intro e he hk
  apply h
  unfold entOf
  rw [List.find?_isSome]
  exact ⟨e, he, by rw [hk]; exact beq_self_eq_true k⟩
theorem rl_set {es : List Ent1} {P : List Pr} (h : Rl es P) (k d : By) (c : Nat) : Rl (setE k d c es) (putL P (k, d)) := by
  unfold setE
  split
  · rename_i hs
    obtain ⟨e0, m0, k0⟩ := ent_some hs
    refine ⟨by rw [mod_keys]; exact h.nd, srt_put h.srt _, fun k' d' => ?_⟩
    rw [mem_put]
    constructor
    · rintro (h1 | ⟨h1, h2⟩)
      · cases h1; exact ⟨_, (mod_mem k d es h.nd _).2 (.inr ⟨e0, m0, k0, rfl⟩), rfl, rfl⟩
      · obtain ⟨e, m, rfl, rfl⟩ := (h.mem k' d').1 h1
        exact ⟨e, (mod_mem k d es h.nd e).2 (.inl ⟨m, h2⟩), rfl, rfl⟩
    · rintro ⟨x, hx, rfl, rfl⟩
      rcases (mod_mem k d es h.nd x).1 hx with ⟨m, hne⟩ | ⟨e, m, hk, rfl⟩
      · exact .inr ⟨(h.mem _ _).2 ⟨x, m, rfl, rfl⟩, hne⟩
      · exact .inl rfl
  · rename_i hs
    have hno := ent_none hs
    refine ⟨?_, srt_put h.srt _, fun k' d' => ?_⟩
    · rw [List.map_append, List.nodup_append]
      refine ⟨h.nd, by simp, fun a ha b hb hab => ?_⟩
      obtain ⟨e, m, rfl⟩ := List.mem_map.1 ha
      simp at hb; subst hb
      exact hno e m hab
    · rw [mem_put]
      simp only [List.mem_append, List.mem_singleton]
      constructor
      · rintro (h1 | ⟨h1, h2⟩)
        · cases h1; exact ⟨⟨k, d, c⟩, .inr rfl, rfl, rfl⟩
        · obtain ⟨e, m, rfl, rfl⟩ := (h.mem k' d').1 h1; exact ⟨e, .inl m, rfl, rfl⟩
      · rintro ⟨x, hx | rfl, rfl, rfl⟩
        · exact .inr ⟨(h.mem _ _).2 ⟨x, hx, rfl, rfl⟩, hno x hx⟩
        · exact .inl rfl
theorem rl_del {es : List Ent1} {P : List Pr} (h : Rl es P) (k : By) : Rl (if (entOf k es).isSome = true then delE k es else es) (cutL P k) := by
  have hs : Srt (cutL P k) := srt_filter h.srt _
  split
  · refine ⟨((del_sub k es).map (·.k)).nodup h.nd, hs, fun k' d' => ?_⟩
    rw [mem_cut]
    constructor
    · rintro ⟨h1, h2⟩
      obtain ⟨e, m, rfl, rfl⟩ := (h.mem k' d').1 h1
      exact ⟨e, (del_mem k es h.nd e).2 ⟨m, h2⟩, rfl, rfl⟩
    · rintro ⟨x, hx, rfl, rfl⟩
      obtain ⟨m, hne⟩ := (del_mem k es h.nd x).1 hx
      exact ⟨(h.mem _ _).2 ⟨x, m, rfl, rfl⟩, hne⟩
  · rename_i hn
    have hno := ent_none hn
    refine ⟨h.nd, hs, fun k' d' => ?_⟩
    rw [mem_cut]
    constructor
    · rintro ⟨h1, h2⟩; exact (h.mem k' d').1 h1
    · intro h1
      obtain ⟨e, m, rfl, rfl⟩ := h1
      exact ⟨(h.mem _ _).2 ⟨e, m, rfl, rfl⟩, hno e m⟩
end Go.RE
namespace Go.RE
theorem rl_pairs : ∀ (l : List Pr) (t : Tb) (P : List Pr), Rl t.1 P → Rl (l.foldl stepP t).1 (l.foldl putL P) := by
  intro l
  induction l with
  | nil => intro t P h; exact h
  | cons p l ih => intro t P h; exact ih _ _ (rl_set h p.1 p.2 t.2)
theorem ins_mem (a x : By) : ∀ l, x ∈ insB a l ↔ x = a ∨ x ∈ l := by
  intro l
  induction l with
  | nil => simp [insB]
  | cons y l ih =>
    simp only [insB]
    split
    · simp only [List.mem_cons, ih]
      constructor
      · rintro (h | h | h)
        · exact .inr (.inl h)
        · exact .inl h
        · exact .inr (.inr h)
      · rintro (h | h | h)
        · exact .inr (.inl h)
        · exact .inl h
        · exact .inr (.inr h)
    · simp only [List.mem_cons]
theorem sort_mem (x : By) : ∀ l, x ∈ sortB l ↔ x ∈ l := by
  intro l
  induction l with
  | nil => exact Iff.rfl
  | cons a l ih => show x ∈ insB a (sortB l) ↔ _; rw [ins_mem, ih, List.mem_cons]
theorem ins_srt (a : By) : ∀ l, l.Pairwise (fun x y => lt x y = true) → a ∉ l → (insB a l).Pairwise (fun x y => lt x y = true) := by
  intro l
  induction l with
  | nil => intro _ _; exact List.pairwise_singleton _ _
  | cons y l ih =>
    intro h hn
    obtain ⟨h1, h2⟩ := List.pairwise_cons.1 h
    simp only [List.mem_cons, not_or] at hn
    simp only [insB]
    split
    · rename_i hlt
      refine List.pairwise_cons.2 ⟨fun z hz => ?_, ih h2 hn.2⟩
      rcases (ins_mem a z l).1 hz with rfl | hz
      · exact hlt
      · exact h1 z hz
    · rename_i hlt
      have hay : lt a y = true := by
        rcases lt_ne hn.1 with h3 | h3
        · exact h3
        · exact absurd h3 hlt
      refine List.pairwise_cons.2 ⟨fun z hz => ?_, h⟩
      rcases List.mem_cons.1 hz with rfl | hz
      · exact hay
      · exact lt_tr hay (h1 z hz)
theorem sort_srt : ∀ l : List By, l.Nodup → (sortB l).Pairwise (fun x y => lt x y = true) := by
  intro l
  induction l with
  | nil => intro _; exact List.Pairwise.nil
  | cons a l ih =>
    intro h
    obtain ⟨h1, h2⟩ := List.nodup_cons.1 h
    exact ins_srt a _ (ih h2) (fun hh => h1 ((sort_mem a l).1 hh))
theorem ent_of {es : List Ent1} (hn : (es.map (·.k)).Nodup) {e : Ent1} (he : e ∈ es) : entOf e.k es = some e := by
  unfold entOf
  induction es with
  | nil => cases he
  | cons a r ih =>
    simp only [List.map_cons, List.nodup_cons] at hn
    rw [List.find?_cons]
    rcases List.mem_cons.1 he with rfl | he
    · simp
    · have : (a.k == e.k) = false := by
        cases h : a.k == e.k with
        | false => rfl
        | true => exact absurd (List.mem_map.2 ⟨e, he, (eq_of_beq h).symm⟩) hn.1
      rw [this]; exact ih hn.2 he
theorem in_eq {es : List Ent1} {P : List Pr} (h : Rl es P) (lo hi : By) : inT es lo hi (keysT es) = P.filter fun x => has lo hi x.1 := by
  refine srt_ext ?_ (srt_filter h.srt _) fun x => ?_
  · unfold inT Srt
    rw [List.pairwise_map]
    exact (List.Pairwise.filter _ (sort_srt _ h.nd))
  · obtain ⟨k, d⟩ := x
    unfold inT keysT
    simp only [List.mem_map, List.mem_filter, sort_mem, Prod.mk.injEq]
    constructor
    · rintro ⟨k', ⟨⟨e, he, rfl⟩, hh⟩, rfl, rfl⟩
      refine ⟨(h.mem _ _).2 ⟨e, he, rfl, ?_⟩, hh⟩
      simp [dataE, ent_of h.nd he]
    · rintro ⟨hm, hh⟩
      obtain ⟨e, he, rfl, rfl⟩ := (h.mem k d).1 hm
      exact ⟨e.k, ⟨⟨e, he, rfl⟩, hh⟩, rfl, by simp [dataE, ent_of h.nd he]⟩
theorem get_eq {es : List Ent1} {P : List Pr} (h : Rl es P) (k : By) : getL P k = (entOf k es).map (·.d) := by
  cases hg : entOf k es with
  | some e =>
    have hm : e ∈ es := List.mem_of_find?_eq_some hg
    have hk : e.k = k := by have := List.find?_some hg; exact eq_of_beq this
    have hp := (h.mem k e.d).2 ⟨e, hm, hk, rfl⟩
    unfold getL
    cases hf : P.find? (fun p => p.1 == k) with
    | none =>
      have := List.find?_eq_none.1 hf _ hp
      simp at this
    | some p =>
      have hpm := List.mem_of_find?_eq_some hf
      have hpk : p.1 = k := by have := List.find?_some hf; exact eq_of_beq this
      obtain ⟨e', m', k', d'⟩ := (h.mem p.1 p.2).1 hpm
      have h1 := ent_of h.nd m'
      rw [k', hpk, hg] at h1
      have h2 : e = e' := Option.some.inj h1
      subst h2
      simp [d']
  | none =>
    have hno := ent_none (k := k) (es := es) (by rw [hg]; simp)
    unfold getL
    cases hf : P.find? (fun p => p.1 == k) with
    | none => rfl
    | some p =>
      have hpm := List.mem_of_find?_eq_some hf
      have hpk : p.1 = k := by have := List.find?_some hf; exact eq_of_beq this
      obtain ⟨e', m', k', d'⟩ := (h.mem p.1 p.2).1 hpm
      exact absurd (k'.trans hpk) (hno e' m')
theorem data_eq {es : List Ent1} {P : List Pr} (h : Rl es P) (k : By) : dataE k es = (getL P k).getD [] := by rw [get_eq h]; rfl
theorem some_eq {es : List Ent1} {P : List Pr} (h : Rl es P) (k : By) : (entOf k es).isSome = (getL P k).isSome := by rw [get_eq h]; cases entOf k es <;> rfl
end Go.RE
namespace Go.RE
theorem tab_nil : TabOk [] 0 := ⟨by simp, (fun e he => by cases he), fun e he => by cases he⟩
theorem mod_dat {k d : By} (hd : d.length < small) : ∀ {es : List Ent1}, (∀ e ∈ es, e.d.length < small) → ∀ e ∈ modE k d es, e.d.length < small := by
  intro es
  induction es with
  | nil => intro h e he; cases he
  | cons a r ih =>
    intro h e he
    simp only [modE] at he
    split at he
    · rcases List.mem_cons.1 he with rfl | he
      · exact hd
      · exact h e (List.mem_cons_of_mem _ he)
    · rcases List.mem_cons.1 he with rfl | he
      · exact h e List.mem_cons_self
      · exact ih (fun x hx => h x (List.mem_cons_of_mem _ hx)) e he
theorem mod_len (k d : By) (es : List Ent1) : (modE k d es).length = es.length := by
  have := congrArg List.length (mod_births k d es); simpa using this
theorem tab_set {es : List Ent1} {c : Nat} (h : TabOk es c) (k d : By) (hdl : d.length < small) : TabOk (setE k d c es) (clkE k c es) ∧ (setE k d c es).length ≤ es.length + 1 := by
  unfold setE clkE
  split
  · refine ⟨⟨by rw [mod_births]; exact h.nodup, fun e he => ?_, mod_dat hdl h.dat⟩, by rw [mod_len]; omega⟩
    have hb : e.b ∈ (modE k d es).map (·.b) := List.mem_map.2 ⟨e, he, rfl⟩
    rw [mod_births] at hb
    obtain ⟨e', m, hh⟩ := List.mem_map.1 hb
    rw [← hh]; exact h.lt e' m
  · refine ⟨⟨?_, fun e he => ?_, fun e he => ?_⟩, by simp⟩
    · rw [List.map_append, List.nodup_append]
      refine ⟨h.nodup, by simp, fun a ha b hb hab => ?_⟩
      obtain ⟨e, m, rfl⟩ := List.mem_map.1 ha
      simp at hb; subst hb
      have := h.lt e m
      omega
    · rcases List.mem_append.1 he with he | he
      · have := h.lt e he; omega
      · simp at he; subst he; simp
    · rcases List.mem_append.1 he with he | he
      · exact h.dat e he
      · simp at he; subst he; exact hdl
theorem tab_pairs : ∀ (l : List Pr) (t : Tb), (∀ p ∈ l, p.2.length < small) → TabOk t.1 t.2 → TabOk (l.foldl stepP t).1 (l.foldl stepP t).2 ∧ (l.foldl stepP t).1.length ≤ t.1.length + l.length := by
  intro l
  induction l with
  | nil => intro t _ h; exact ⟨h, by simp⟩
  | cons p l ih =>
    intro t hd h
    obtain ⟨h1, h2⟩ := tab_set h p.1 p.2 (hd p List.mem_cons_self)
    obtain ⟨h3, h4⟩ := ih (stepP t p) (fun x hx => hd x (List.mem_cons_of_mem _ hx)) h1
    refine ⟨h3, ?_⟩
    have : (stepP t p).1.length ≤ t.1.length + 1 := h2
    simp only [List.foldl_cons, List.length_cons]; omega
theorem pairs_len : ∀ (l P : List Pr), (l.foldl putL P).length ≤ P.length + l.length := by
  intro l
  induction l with
  | nil => intro P; simp
  | cons p l ih => intro P; have := ih (putL P p); have := putL_len P p; simp only [List.foldl_cons, List.length_cons]; omega
end Go.RE
namespace Go.RE
variable {M : Nat → String → Option Nat} {Q : Mut} {Pm : Nat → Option (List U → List Uo → Nat → Option (U × List Uo × Nat))}
structure Vw where
  P : List Pr
  K : List Spn
  S : List Spn
def vwO (a : Vw) : Uo := .row [.bool false, .sl 2 (a.P.map pairC), kcell a.K, kcell a.S]
def vH (A B C D : Uo) (a : Vw) (Y : Uo) : List Uo := [A, B, C, D, vwO a, Y]
theorem t27_a (hp : NoPm Pm) (hq : NoQ Q) (A B C D Y Z W : Uo) (Ks Ss : List Spn) (R : List Pr) (N : Nat) (hN : N + R.length < small) (K : Ex → Vs → Prop) :
    ∀ (j q : Nat) (P : List Pr), q + j = R.length → P.length ≤ N + q →
    K .normal ⟨[], vH A B C D ⟨(R.drop q).foldl putL P, Ks, Ss⟩ Y ++ [Z, W], 0⟩ →
    gL vTab M Q Pm v27 1 v27_b13 8 ⟨[(61, .int .i64 (q : Int)), (0, .ptr 4 0), (59, .own (.t 59) 2 (R.map pairC)), (60, .int .i64 (R.length : Int))], vH A B C D ⟨P, Ks, Ss⟩ Y ++ [Z, W], 0⟩ K := by
  intro j
  induction j with
  | zero =>
    intro q P hij hP hK
    have h1 : ¬ ((q : Int) < (R.length : Int)) := by omega
    have h2 : R.drop q = [] := List.drop_of_length_le (by omega)
    rw [h2] at hK
    rw [gL_round v27_b13.eq_1]
    simp [v27_9, h1, vH, vwO] at hK ⊢
    exact hK
  | succ j ih =>
    intro q P hij hP hK
    have h1 : ((q : Int) < (R.length : Int)) := by omega
    have hi1 : q < R.length := by omega
    have e2 : q < (R.map pairC).length := by simpa using hi1
    have e3 : wrapA .i64 ((q : Int) + 1) = ((q + 1 : Nat) : Int) := wrap_succ (by unfold small at hN; omega)
    have d1 : R.drop q = R[q] :: R.drop (q + 1) := List.drop_eq_getElem_cons hi1
    rw [d1] at hK
    have hPl := putL_len P R[q]
    have ih' := ih (q + 1) (putL P R[q]) (by omega) (by omega) hK
    have ep : pairC R[q] = [.str R[q].1, .sl 1 (bytesU R[q].2)] := rfl
    have c47 := t47 (M := M) (Q := Q) hp P R[q] (by omega)
    rw [ep] at c47
    rw [gL_round v27_b13.eq_1]
    simp [vH, vwO] at ih'
    cases hfl : U.flatss (P.map pairC) <;> (
      simp [v27_9, v27_10, v27_12, h1, iaV_own e2, hi1, ep, e3, vH, vwO, hq, gC_drw v27_11h, v27_11s, c47, hfl, Nat.testBit_eq_decide_div_mod_eq]
      exact ih')
def lieV (P : List Pr) (lo hi : By) (L : List Pr) : List Pr := ((pairsL L).filter fun x => has lo hi x.1).foldl putL (P.filter fun x => !has lo hi x.1)
theorem t27_c (hp : NoPm Pm) (hq : NoQ Q) (A B C D Y Z : Uo) (P : List Pr) (Ks Ss : List Spn) (lo hi : By) (L : List Pr) (hN : P.length + L.length < small) (K : Ex → Vs → Prop)
    (hK : K .normal ⟨[], vH A B C D ⟨lieV P lo hi L, Ks, Ss⟩ Y ++ [Z, .row [.str lo, .str hi]], 0⟩) :
    gC vTab M Q Pm v27 (.draw v27_7) ⟨[(0, .ptr 4 0), (2, .sl 2 (L.map pairC)), (6, .ptr 7 0)], vH A B C D ⟨P, Ks, Ss⟩ Y ++ [Z, .row [.str lo, .str hi]], 0⟩ (seqK vTab M Q Pm v27 (.seq (.draw v27_8) (.block 1 (.loop v27_b13))) K) := by
  have c50 := t50 (M := M) hp hq P lo hi (by omega)
  have c16 := t16 (M := M) hp hq L (by omega)
  have hpl : (pairsL L).length ≤ L.length := by have := pairs_len L []; simpa [pairsL] using this
  have c55 := t55 (M := M) hp hq (pairsL L) lo hi (by omega)
  have l1 := List.length_filter_le (fun x : Pr => !has lo hi x.1) P
  have l2 := List.length_filter_le (fun x : Pr => has lo hi x.1) (pairsL L)
  have hlp := t27_a (M := M) hp hq A B C D Y Z (.row [.str lo, .str hi]) Ks Ss ((pairsL L).filter fun x => has lo hi x.1) P.length (by omega) K _ 0 (P.filter fun x => !has lo hi x.1) (Nat.zero_add _) (by omega) (by simpa [lieV] using hK)
  generalize (P.filter fun x => !has lo hi x.1) = P1 at *
  generalize ((pairsL L).filter fun x => has lo hi x.1) = R at *
  simp [vH, vwO] at hlp
  cases hfl : U.flatss (P.map pairC) <;> cases hfl2 : U.flatss (L.map pairC) <;> cases hfl3 : U.flatss ((pairsL L).map pairC) <;> cases hfl4 : U.flatss (R.map pairC) <;> (
    simp [vH, vwO, hq, gC_drw v27_7h, v27_7s, gC_drw v27_8h, v27_8s, c50, c16, c55, hfl, hfl2, hfl3, hfl4, cut, Nat.testBit_eq_decide_div_mod_eq]
    exact hlp)
def learnV (x : Les) (a : Vw) : Vw :=
  if x.1.1 = x.1.2 then ⟨lieV a.P x.1.1 (x.1.1 ++ [0]) x.2, a.K ++ [(x.1.1, x.1.1 ++ [0])], a.S⟩
  else if right x.1.1 x.1.2 = true then ⟨lieV a.P x.1.1 x.1.2 x.2, a.K, a.S ++ [x.1]⟩ else a
theorem t27 (hp : NoPm Pm) (hq : NoQ Q) (A B C D Y : Uo) (a : Vw) (x : Les) (hN : a.P.length + x.2.length < small) (hk : x.1.1.length < small) (hKl : a.K.length < small) (hS : a.S.length < small) :
    gF vTab M Q Pm 27 [.ptr 4 0, .agg [.str x.1.1, .str x.1.2], .sl 2 (x.2.map pairC)] (vH A B C D a Y) 0 = some (.tup [], vH A B C D (learnV x a) Y, 0) := by
  refine gF_of (fn := v27) (hp 27 (by decide) (by decide)) rfl rfl ?_
  obtain ⟨⟨lo, hi⟩, L⟩ := x
  obtain ⟨P, Ks, S⟩ := a
  dsimp only at hN hk hKl hS
  by_cases hlh : lo = hi
  · subst hlh
    have hres : learnV ((lo, lo), L) ⟨P, Ks, S⟩ = ⟨lieV P lo (lo ++ [0]) L, Ks ++ [(lo, lo ++ [0])], S⟩ := by simp [learnV]
    have hend := t27_c (M := M) hp hq A B C D Y (.row [.str lo, .str lo]) P (Ks ++ [(lo, lo ++ [0])]) S lo (lo ++ [0]) L hN
    rw [hres]
    cases Ks with
    | nil =>
      simp [vH, vwO, kcell, spC] at hend
      simp [v27_body, v27_0, v27_1, v27_2, v27_3, vH, vwO, kcell, spC, hq, t40 (hp 40 (by decide) (by decide)) _ hk, gC_drw v27_4h, v27_4s, cut, big, Nat.testBit_eq_decide_div_mod_eq]
      refine hend _ ?_
      simp [vH, vwO, kcell, spC, cut]
    | cons s0 Ks =>
      have f1 : (Ks.length + 1 + 1) * 32 ≤ 1099511627776 ∧ Ks.length + 1 + 1 ≤ 1099511627776 := by simp only [List.length_cons] at hKl; unfold small at hKl; omega
      simp [vH, vwO, kcell, spC] at hend
      simp [v27_body, v27_0, v27_1, v27_2, v27_3, vH, vwO, kcell, spC, hq, t40 (hp 40 (by decide) (by decide)) _ hk, gC_drw v27_4h, v27_4s, cut, big, f1, Nat.testBit_eq_decide_div_mod_eq]
      refine hend _ ?_
      simp [vH, vwO, kcell, spC, cut]
  · have hlh' : (hi == lo) = false := beq_eq_false_iff_ne.2 fun h => hlh h.symm
    have hlh2 : ¬ hi = lo := fun h => hlh h.symm
    cases hr : right lo hi with
    | false =>
      have hres : learnV ((lo, hi), L) ⟨P, Ks, S⟩ = ⟨P, Ks, S⟩ := by simp [learnV, hlh, hr]
      rw [hres]
      simp [v27_body, v27_0, v27_1, v27_2, v27_5, vH, vwO, hq, hlh', hlh2, t53 (hp 53 (by decide) (by decide)), hr, cut]
    | true =>
      have hend := t27_c (M := M) hp hq A B C D Y (.row [.str lo, .str hi]) P Ks (S ++ [(lo, hi)]) lo hi L hN
      have hres : learnV ((lo, hi), L) ⟨P, Ks, S⟩ = ⟨lieV P lo hi L, Ks, S ++ [(lo, hi)]⟩ := by simp [learnV, hlh, hr]
      rw [hres]
      cases S with
      | nil =>
        simp [vH, vwO, kcell, spC] at hend
        simp [v27_body, v27_0, v27_1, v27_2, v27_5, vH, vwO, kcell, spC, hq, hlh', hlh2, t53 (hp 53 (by decide) (by decide)), hr, gC_drw v27_6h, v27_6s, cut, big, Nat.testBit_eq_decide_div_mod_eq]
        refine hend _ ?_
        simp [vH, vwO, kcell, spC, cut]
      | cons s0 S =>
        have f1 : (S.length + 1 + 1) * 32 ≤ 1099511627776 ∧ S.length + 1 + 1 ≤ 1099511627776 := by simp only [List.length_cons] at hS; unfold small at hS; omega
        simp [vH, vwO, kcell, spC] at hend
        simp [v27_body, v27_0, v27_1, v27_2, v27_5, vH, vwO, kcell, spC, hq, hlh', hlh2, t53 (hp 53 (by decide) (by decide)), hr, gC_drw v27_6h, v27_6s, cut, big, f1, Nat.testBit_eq_decide_div_mod_eq]
        refine hend _ ?_
        simp [vH, vwO, kcell, spC, cut]
end Go.RE
namespace Go.RE
variable {M : Nat → String → Option Nat} {Q : Mut} {Pm : Nat → Option (List U → List Uo → Nat → Option (U × List Uo × Nat))}
def askR (k : By) : U := .tup [.sl 1 [], .bool false, .agg (pl (some (k, k)))]
def getV (a : Vw) (k : By) : U := if (inB a.K k || inB a.S k) = true then getR (getL a.P k) else askR k
theorem t51k (hp : NoPm Pm) (hq : NoQ Q) (s : Spn) (l : List Spn) (k : By) (hl : (s :: l).length < small) : gF vTab M Q Pm 51 [.sl 2 ([.str s.1, .str s.2] :: l.map spC), .str k] [] 0 = some (.bool (inB (s :: l) k), [], 0) := t51 hp hq (s :: l) k hl
theorem t51n (hp : NoPm Pm) (hq : NoQ Q) (k : By) : gF vTab M Q Pm 51 [.sl 2 [], .str k] [] 0 = some (.bool (inB [] k), [], 0) := t51 hp hq [] k (by decide)
theorem inB_nil (k : By) : inB [] k = false := rfl
theorem t20 (hp : NoPm Pm) (hq : NoQ Q) (a : Vw) (k : By) (h : List Uo) (fl i : Nat) (hi : h[i]? = some (vwO a)) (hf : fl ≤ h.length) (hl : a.P.length < small) (hKl : a.K.length < small) (hS : a.S.length < small) :
    gF vTab M Q Pm 20 [.ptr i 0, .str k] h fl = some (getV a k, h, fl) := by
  refine gF_of (fn := v20) (hp 20 (by decide) (by decide)) rfl rfl ?_
  obtain ⟨P, Ks, S⟩ := a
  dsimp only at hl hKl hS
  have a := t20_a (M := M) (Q := Q) (Pm := Pm) P k h fl hf hl _ rfl P.length 0 (by omega)
  simp [errZ] at a
  have hn := t51n (M := M) (Q := Q) (Pm := Pm) hp hq k
  have hlt : i < h.length := (List.getElem?_eq_some_iff.1 hi).1
  have hd : decide (i < h.length + 1) = true := decide_eq_true (by omega)
  have h52 := t52 (M := M) (Q := Q) (Pm := Pm) (hp 52 (by decide) (by decide)) k k
  unfold getV
  simp only
  cases Ks with
  | nil =>
    cases S with
    | nil =>
      simp only [vwO, kcell] at hi
      simp [v20_body, v20_0, v20_1, v20_2, at_old hi, errZ, cut0 hf, cut1 hf, hq, hn, inB, h52, hd, askR, pl]
    | cons s0 S =>
      have hs := t51k (M := M) (Pm := Pm) hp hq s0 S k hS
      simp only [vwO, kcell, List.map_cons, spC] at hi
      cases hb : inB (s0 :: S) k with
      | false =>
        rw [hb] at hs
        simp [v20_body, v20_0, v20_1, v20_2, at_old hi, errZ, cut0 hf, cut1 hf, hq, hn, hs, inB_nil, h52, hd, askR, pl]
      | true =>
        rw [hb] at hs
        simp [v20_body, v20_0, v20_1, v20_3, at_old hi, errZ, cut0 hf, cut1 hf, hq, hn, hs, inB_nil, hd]
        exact a
  | cons k0 Ks =>
    have hk := t51k (M := M) (Pm := Pm) hp hq k0 Ks k hKl
    cases hb : inB (k0 :: Ks) k with
    | true =>
      rw [hb] at hk
      simp only [vwO, kcell, List.map_cons, spC] at hi
      simp [v20_body, v20_0, v20_1, v20_3, at_old hi, errZ, cut0 hf, cut1 hf, hq, hk, hd]
      exact a
    | false =>
      rw [hb] at hk
      cases S with
      | nil =>
        simp only [vwO, kcell, List.map_cons, spC] at hi
        simp [v20_body, v20_0, v20_1, v20_2, at_old hi, errZ, cut0 hf, cut1 hf, hq, hn, hk, inB_nil, h52, hd, askR, pl]
      | cons s0 S =>
        have hs := t51k (M := M) (Pm := Pm) hp hq s0 S k hS
        simp only [vwO, kcell, List.map_cons, spC] at hi
        cases hb2 : inB (s0 :: S) k with
        | false =>
          rw [hb2] at hs
          simp [v20_body, v20_0, v20_1, v20_2, at_old hi, errZ, cut0 hf, cut1 hf, hq, hk, hs, h52, hd, askR, pl]
        | true =>
          rw [hb2] at hs
          simp [v20_body, v20_0, v20_1, v20_3, at_old hi, errZ, cut0 hf, cut1 hf, hq, hk, hs, hd]
          exact a
end Go.RE
namespace Go.RE
variable {M : Nat → String → Option Nat} {Q : Mut} {Pm : Nat → Option (List U → List Uo → Nat → Option (U × List Uo × Nat))}
def askS (lo hi : By) : U := .tup [.sl 2 [], .agg (pl (some (lo, hi)))]
def knowsB (S : List Spn) (s : Spn) : Bool := S.any fun x => holdsB x s
def scanV (a : Vw) (lo hi : By) : U := if right lo hi = true then (if knowsB a.S (lo, hi) = true then scanR (a.P.filter fun x => has lo hi x.1) else askS lo hi) else scanR []
theorem t22_a (hp : NoPm Pm) (hq : NoQ Q) (l : List Spn) (lo hi : By) (c : List U) (h : List Uo) (fl i : Nat) (hg : h[i]? = some (.row c)) (hc3 : c[3]? = some (.cown 2 (l.map spC))) (hf : fl ≤ h.length) (hl : l.length < small) (n : Nat) (hn : n = h.length + 2) (K : Ex → Vs → Prop) :
    ∀ (j q : Nat) (b : Bool), q + j = l.length →
    K .normal ⟨[(7, .ptr h.length 0), (2, .str hi), (1, .str lo), (0, .ptr i 0), (8, .ptr (h.length + 1) 0), (9, .bool (b || knowsB (l.drop q) (lo, hi)))], h ++ [.row errZ, .row [.str lo, .str hi]], fl⟩ →
    gL vTab M Q Pm v22 0 v22_b10 n ⟨[(28, .int .i64 (q : Int)), (8, .ptr (h.length + 1) 0), (9, .bool b), (26, .own (.c i 3) 2 (l.map spC)), (7, .ptr h.length 0), (2, .str hi), (1, .str lo), (0, .ptr i 0), (27, .int .i64 (l.length : Int))], h ++ [.row errZ, .row [.str lo, .str hi]], fl⟩ K := by
  subst hn
  have hlt : i < h.length := (List.getElem?_eq_some_iff.1 hg).1
  have hd : decide (i < h.length + 2) = true := decide_eq_true (by omega)
  intro j
  induction j with
  | zero =>
    intro q b hij hK
    have h1 : ¬ ((q : Int) < (l.length : Int)) := by omega
    have h2 : l.drop q = [] := List.drop_of_length_le (by omega)
    rw [h2] at hK
    rw [gL_round v22_b10.eq_1]
    simp [v22_6, h1, errZ, cut2 hf, knowsB, hd] at hK ⊢
    exact hK
  | succ j ih =>
    intro q b hij hK
    have h1 : ((q : Int) < (l.length : Int)) := by omega
    have hi1 : q < l.length := by omega
    have e2 : q < (l.map spC).length := by simpa using hi1
    have e3 : wrapA .i64 ((q : Int) + 1) = ((q + 1 : Nat) : Int) := wrap_succ (by unfold small at hl; omega)
    have d1 : l.drop q = l[q] :: l.drop (q + 1) := List.drop_eq_getElem_cons hi1
    have hI : knowsB (l.drop q) (lo, hi) = (holdsB l[q] (lo, hi) || knowsB (l.drop (q + 1)) (lo, hi)) := by rw [d1]; rfl
    rw [hI] at hK
    have c54 := t54 (M := M) (Q := Q) (hp 54 (by decide) (by decide)) l[q] (lo, hi)
    rw [gL_round v22_b10.eq_1]
    simp only [spC] at c54
    cases b with
    | true =>
      have ih' := ih (q + 1) true (by omega) (by simpa using hK)
      simp [errZ] at ih'
      simp [v22_6, v22_7, v22_8, v22_9, h1, at_old hg, hc3, iaV_own e2, hi1, spC, e3, errZ, hq, c54, hd, cut2 hf]
      exact ih'
    | false =>
      have ih' := ih (q + 1) (holdsB l[q] (lo, hi)) (by omega) (by simpa using hK)
      simp [errZ] at ih'
      simp [v22_6, v22_7, v22_8, v22_9, h1, at_old hg, hc3, iaV_own e2, hi1, spC, e3, errZ, hq, c54, hd, cut2 hf]
      exact ih'
theorem t22 (hp : NoPm Pm) (hq : NoQ Q) (a : Vw) (lo hi : By) (h : List Uo) (fl i : Nat) (hg : h[i]? = some (vwO a)) (hf : fl ≤ h.length) (hl : a.P.length < small) (hS : a.S.length < small) :
    gF vTab M Q Pm 22 [.ptr i 0, .str lo, .str hi] h fl = some (scanV a lo hi, h, fl) := by
  refine gF_of (fn := v22) (hp 22 (by decide) (by decide)) rfl rfl ?_
  obtain ⟨P, Ks, S⟩ := a
  dsimp only at hl hS
  have hlt : i < h.length := (List.getElem?_eq_some_iff.1 hg).1
  have hlt2 : decide (i < h.length + 2) = true := decide_eq_true (by omega)
  have h52 := t52 (M := M) (Q := Q) (Pm := Pm) (hp 52 (by decide) (by decide)) lo hi
  unfold scanV
  simp only
  cases hr : right lo hi with
  | false =>
    simp [v22_body, v22_0, v22_1, v22_2, v22_3, at_old hg, vwO, errZ, t53 (hp 53 (by decide) (by decide)), hr, hq, scanR, cut0 hf]
  | true =>
    have hin := t55 (M := M) (Q := Q) hp hq P lo hi hl
    cases S with
    | nil =>
      simp only [vwO, kcell] at hg
      simp [v22_body, v22_0, v22_1, v22_2, v22_4, v22_5, at_old hg, errZ, t53 (hp 53 (by decide) (by decide)), hr, hq, hlt2, cut2 hf]
      rw [gL_round v22_b10.eq_1]
      simp [v22_6, v22_11, v22_12, cut0 hf, cut2 hf, hlt2, hq, h52, askS, pl, knowsB]
    | cons s0 S =>
      simp only [vwO, kcell] at hg
      simp [v22_body, v22_0, v22_1, v22_2, v22_4, v22_5, at_old hg, errZ, t53 (hp 53 (by decide) (by decide)), hr, hq, hlt2, cut2 hf]
      have hlp := fun K => t22_a (M := M) (Q := Q) hp hq (s0 :: S) lo hi _ h fl i hg rfl hf hS _ rfl K (s0 :: S).length 0 false (Nat.zero_add _)
      simp [errZ] at hlp
      refine hlp _ ?_
      cases hkn : knowsB (s0 :: S) (lo, hi) with
      | true => simp [v22_11, gC_drw v22_13h, v22_13s, at_old hg, hq, hin, scanR, errZ, cut0 hf, cut2 hf, hlt2, Nat.testBit_eq_decide_div_mod_eq]
      | false => simp [v22_11, v22_12, cut0 hf, cut2 hf, hlt2, hq, h52, askS, pl]
end Go.RE
namespace Go.RE
variable {M : Nat → String → Option Nat} {Q : Mut} {Pm : Nat → Option (List U → List Uo → Nat → Option (U × List Uo × Nat))}
theorem t59k (hp : NoPm Pm) (hq : NoQ Q) (s : Spn) (l : List Spn) (k : By) (hl : (s :: l).length < small) : gF vTab M Q Pm 59 [.sl 2 ([.str s.1, .str s.2] :: l.map spC), .str k] [] 0 = some (.bool (inB (s :: l) k), [], 0) := t59 hp hq (s :: l) k hl
theorem t59n (hp : NoPm Pm) (hq : NoQ Q) (k : By) : gF vTab M Q Pm 59 [.sl 2 [], .str k] [] 0 = some (.bool (inB [] k), [], 0) := t59 hp hq [] k (by decide)
def knGet (t : Tb) (p : List Pt × Nat) (S : List Spn) (k : By) : U :=
  if cnt k p.1 = 0 ∧ inB S k = false then .tup [.sl 1 [], .bool false, .iface 45 (.agg [.str k, .str k])] else .tup [.sl 1 (bytesU (dataE k t.1)), .bool (entOf k t.1).isSome, .nili]
theorem t28 (hp : NoPm Pm) (hq : NoQ Q) (hc : Pm 49 = some cloneP) (t : Tb) (p : List Pt × Nat) (S : List Spn) (k : By) (h : List Uo) (fl i ti pi mi : Nat) (hf : fl ≤ h.length) (hT : TabOk t.1 t.2) (hS : S.length < small)
    (hi : h[i]? = some (.row [.ptr ti 0, .map pi, kcell S])) (hti : h[ti]? = some (.row [.map mi])) (hmi : h[mi]? = some (tabO t)) (hpi : h[pi]? = some (ptO p)) :
    gF vTab M Q Pm 28 [.ptr i 0, .str k] h fl = some (knGet t p S k, h, fl) := by
  refine gF_of (fn := v28) (hp 28 (by decide) (by decide)) rfl rfl ?_
  have hlk := fun s hs => lookup_pt k p.1 p.2 pi s hs
  have c19 := t19 (M := M) hp hq hc t.1 t.2 mi ti hT k h fl hf hti hmi
  have h60 := t60 (M := M) (Q := Q) (Pm := Pm) hp k k
  have hlt : ti < h.length := (List.getElem?_eq_some_iff.1 hti).1
  simp only [ptO] at hpi
  unfold knGet
  by_cases hcn : cnt k p.1 = 0
  · have e0 : ((cnt k p.1 : Int) == 0) = true := by rw [hcn]; rfl
    cases S with
    | nil =>
      simp only [kcell] at hi
      simp [v28_body, v28_0, v28_1, v28_2, hi, hpi, hlk, e0, hcn, hq, t59n hp hq, inB_nil, h60, cut_self hf]
    | cons s0 S =>
      have hs := t59k (M := M) (Pm := Pm) hp hq s0 S k hS
      simp only [kcell, List.map_cons, spC] at hi
      cases hb : inB (s0 :: S) k with
      | false =>
        rw [hb] at hs
        simp [v28_body, v28_0, v28_1, v28_2, hi, hpi, hlk, e0, hcn, hq, hs, h60, cut_self hf]
      | true =>
        rw [hb] at hs
        simp [v28_body, v28_0, v28_1, v28_3, hi, hpi, hlk, e0, hcn, hq, hs, c19, cut_self hf]
  · have e0 : ((cnt k p.1 : Int) == 0) = false := by rw [beq_eq_false_iff_ne]; omega
    cases S with
    | nil =>
      simp only [kcell] at hi
      simp [v28_body, v28_0, v28_1, v28_3, hi, hpi, hlk, e0, hcn, hq, c19, cut_self hf]
    | cons s0 S =>
      simp only [kcell, List.map_cons, spC] at hi
      simp [v28_body, v28_0, v28_1, v28_3, hi, hpi, hlk, e0, hcn, hq, c19, cut_self hf]
def knScan (t : Tb) (S : List Spn) (lo hi : By) : U :=
  if right lo hi = true then (if knowsB S (lo, hi) = true then .tup [.sl 2 ((inT t.1 lo hi (keysT t.1)).map pairC), .nili] else .tup [.sl 2 [], .iface 45 (.agg [.str lo, .str hi])]) else .tup [.sl 2 [], .nili]
theorem t29_a (hp : NoPm Pm) (hq : NoQ Q) (hs : Q 90 = some sortQ) (hc : Pm 49 = some cloneP) (t : Tb) (p : List Pt × Nat) (l : List Spn) (V X : Uo) (lo hi : By) (hT : TabOk t.1 t.2) (hl : t.1.length < small) (hS : l.length < small) (hr : right lo hi = true) :
    ∀ (j q : Nat), q + j = l.length →
    gL vTab M Q Pm v29 0 v29_b11 7 ⟨[(0, .ptr 3 0), (8, .ptr 6 0), (24, .int .i64 (q : Int)), (2, .str hi), (1, .str lo), (22, .own (.c 3 2) 2 (l.map spC)), (23, .int .i64 (l.length : Int))], [tabO t, .row [.map 0], ptO p, .row [.ptr 1 0, .map 2, .cown 2 (l.map spC)], V, X, .row [.str lo, .str hi]], 0⟩
      (seqK vTab M Q Pm v29 (.seq (.region v29_12) .ret) (kE 6 v29 (if knowsB (l.drop q) (lo, hi) = true then .tup [.sl 2 ((inT t.1 lo hi (keysT t.1)).map pairC), .nili] else .tup [.sl 2 [], .iface 45 (.agg [.str lo, .str hi])], [tabO t, .row [.map 0], ptO p, .row [.ptr 1 0, .map 2, .cown 2 (l.map spC)], V, X], 0))) := by
  have c46 := fun (A B C D E F : Uo) => t46 (M := M) hp hq hs hc t.1 t.2 0 1 lo hi hT hl [tabO t, .row [.map 0], A, B, C, D, E, F] 0 (by simp) rfl rfl
  simp [tabO] at c46
  have h60 := t60 (M := M) (Q := Q) (Pm := Pm) hp lo hi
  intro j
  induction j with
  | zero =>
    intro q hij
    have h1 : ¬ ((q : Int) < (l.length : Int)) := by omega
    have h2 : l.drop q = [] := List.drop_of_length_le (by omega)
    rw [h2, gL_round v29_b11.eq_1]
    simp [v29_6, h1, v29_12, knowsB, hq, h60, cut]
  | succ j ih =>
    intro q hij
    have h1 : ((q : Int) < (l.length : Int)) := by omega
    have hi1 : q < l.length := by omega
    have e2 : q < (l.map spC).length := by simpa using hi1
    have e3 : wrapA .i64 ((q : Int) + 1) = ((q + 1 : Nat) : Int) := wrap_succ (by unfold small at hS; omega)
    have d1 : l.drop q = l[q] :: l.drop (q + 1) := List.drop_eq_getElem_cons hi1
    have hI : knowsB (l.drop q) (lo, hi) = (holdsB l[q] (lo, hi) || knowsB (l.drop (q + 1)) (lo, hi)) := by rw [d1]; rfl
    have ih' := ih (q + 1) (by omega)
    rw [hI, gL_round v29_b11.eq_1]
    simp only [holdsB]
    rcases bool_two (lt lo l[q].1) with h3 | h3 <;> rcases bool_two (l[q].2 == []) with h4 | h4 <;> rcases bool_two (hi == []) with h5 | h5 <;> rcases bool_two (lt l[q].2 hi) with h6 | h6 <;> (
      simp [tabO, ptO] at ih'
      simp [v29_6, v29_7, v29_8, v29_10, h1, iaV_own e2, hi1, spC, e3, tabO, ptO, h3, h4, h5, h6, bne, gC_drw v29_9h, v29_9s, hq, c46, cut, Nat.testBit_eq_decide_div_mod_eq]
      try exact ih')
theorem t29 (hp : NoPm Pm) (hq : NoQ Q) (hs : Q 90 = some sortQ) (hc : Pm 49 = some cloneP) (t : Tb) (p : List Pt × Nat) (S : List Spn) (V X : Uo) (lo hi : By) (hT : TabOk t.1 t.2) (hl : t.1.length < small) (hS : S.length < small) :
    gF vTab M Q Pm 29 [.ptr 3 0, .str lo, .str hi] [tabO t, .row [.map 0], ptO p, .row [.ptr 1 0, .map 2, kcell S], V, X] 0 = some (knScan t S lo hi, [tabO t, .row [.map 0], ptO p, .row [.ptr 1 0, .map 2, kcell S], V, X], 0) := by
  refine gF_of (fn := v29) (hp 29 (by decide) (by decide)) rfl rfl ?_
  have h60 := t60 (M := M) (Q := Q) (Pm := Pm) hp lo hi
  rcases bool_two (right lo hi) with hr | hr
  · simp [v29_body, v29_0, v29_1, v29_2, v29_3, hq, t57 (hp 57 (by decide) (by decide)), hr, knScan, cut]
  · cases S with
    | nil =>
      simp [v29_body, v29_0, v29_1, v29_2, v29_4, v29_5, hq, t57 (hp 57 (by decide) (by decide)), hr, kcell, cut]
      rw [gL_round v29_b11.eq_1]
      simp [v29_6, v29_12, hq, h60, cut, knScan, knowsB, hr]
    | cons s0 S =>
      have a := t29_a (M := M) hp hq hs hc t p (s0 :: S) V X lo hi hT hl hS hr (s0 :: S).length 0 (Nat.zero_add _)
      rw [List.drop_zero] at a
      have hk : knScan t (s0 :: S) lo hi = if knowsB (s0 :: S) (lo, hi) = true then .tup [.sl 2 ((inT t.1 lo hi (keysT t.1)).map pairC), .nili] else .tup [.sl 2 [], .iface 45 (.agg [.str lo, .str hi])] := by unfold knScan; rw [if_pos hr]
      rw [hk]
      simp at a
      simp [v29_body, v29_0, v29_1, v29_2, v29_4, v29_5, hq, t57 (hp 57 (by decide) (by decide)), hr, kcell, cut]
      exact a
end Go.RE
namespace Go.RE
variable {M : Nat → String → Option Nat} {Q : Mut} {Pm : Nat → Option (List U → List Uo → Nat → Option (U × List Uo × Nat))}
structure Szs (n : Nat) (a : Kn) (b : Vw) : Prop where
  tab : TabOk a.t.1 a.t.2
  len : a.t.1.length ≤ 100 * n
  cnt : ∀ k, cnt k a.p.1 ≤ n
  spn : a.s.length ≤ n
  prs : b.P.length ≤ 100 * n
  kys : b.K.length ≤ n
  sts : b.S.length ≤ n
def kvH (a : Kn) (b : Vw) : List Uo := [tabO a.t, .row [.map 0], ptO a.p, .row [.ptr 1 0, .map 2, kcell a.s], vwO b]
def bothL (l : List Les) (a : Kn) (b : Vw) : Kn × Vw := l.foldl (fun s x => (learnK x s.1, learnV x s.2)) (a, b)
theorem t4_a (hp : NoPm Pm) (hq : NoQ Q) (hs : Q 90 = some sortQ) (hc : Pm 49 = some cloneP) (l : List Les) (key hi : By) (hl : l.length ≤ 20) (hL : ∀ x ∈ l, x.2.length ≤ 100 ∧ (∀ p ∈ x.2, p.2.length < small) ∧ x.1.1.length < small)
    (hZ : ∀ n a b x, Szs n a b → x ∈ l → Szs (n + 1) (learnK x a) (learnV x b)) (K : Ex → Vs → Prop) :
    ∀ (j q : Nat) (a : Kn) (b : Vw), q + j = l.length → Szs q a b →
    K .normal ⟨[(2, .str hi), (1, .str key), (8, .ptr 4 0), (7, .ptr 3 0)], kvH (bothL (l.drop q) a b).1 (bothL (l.drop q) a b).2, 0⟩ →
    gL vTab M Q Pm v4 0 v4_b12 5 ⟨[(46, .int .i64 (q : Int)), (8, .ptr 4 0), (7, .ptr 3 0), (44, .sl 3 (l.map lesC)), (2, .str hi), (1, .str key), (45, .int .i64 (l.length : Int))], kvH a b, 0⟩ K := by
  intro j
  induction j with
  | zero =>
    intro q a b hij hsz hK
    have h1 : ¬ ((q : Int) < (l.length : Int)) := by omega
    have h2 : l.drop q = [] := List.drop_of_length_le (by omega)
    rw [h2] at hK
    rw [gL_round v4_b12.eq_1]
    simp [v4_7, h1, kvH, bothL, tabO, ptO, vwO] at hK ⊢
    exact hK
  | succ j ih =>
    intro q a b hij hsz hK
    have h1 : ((q : Int) < (l.length : Int)) := by omega
    have hi1 : q < l.length := by omega
    have e1 : (l.map lesC)[q]? = some (lesC l[q]) := by simp [hi1]
    have e3 : wrapA .i64 ((q : Int) + 1) = ((q + 1 : Nat) : Int) := wrap_succ (by omega)
    have d1 : l.drop q = l[q] :: l.drop (q + 1) := List.drop_eq_getElem_cons hi1
    have hm := List.getElem_mem hi1
    obtain ⟨x1, x2, x3⟩ := hL _ hm
    have hz' := hZ q a b l[q] hsz hm
    have hK' : K .normal ⟨[(2, .str hi), (1, .str key), (8, .ptr 4 0), (7, .ptr 3 0)], kvH (bothL (l.drop (q + 1)) (learnK l[q] a) (learnV l[q] b)).1 (bothL (l.drop (q + 1)) (learnK l[q] a) (learnV l[q] b)).2, 0⟩ := by rw [d1] at hK; exact hK
    have ih' := ih (q + 1) (learnK l[q] a) (learnV l[q] b) (by omega) hz' hK'
    generalize l[q] = x at *
    have sm : small = 1000000000 := rfl
    have z1 := hsz.len
    have z2 := hsz.spn
    have z3 := hsz.prs
    have z4 := hsz.kys
    have z5 := hsz.sts
    have c26 := t26 (M := M) hp hq hs hc a x (vwO b) (.row (lesC x)) hsz.tab (by omega) (by omega) x2 x3 (fun k => by have := hsz.cnt k; omega) (by omega)
    have c27 := t27 (M := M) hp hq (tabO (learnK x a).t) (.row [.map 0]) (ptO (learnK x a).p) (.row [.ptr 1 0, .map 2, kcell (learnK x a).s]) (.row (lesC x)) b x (by omega) x3 (by omega) (by omega)
    have ex : lesC x = [.str x.1.1, .str x.1.2, .sl 2 (x.2.map pairC)] := rfl
    rw [ex] at e1
    simp [knH, kH, lesC, tabO, ptO, vwO] at c26
    simp [vH, lesC, tabO, ptO, vwO] at c27
    rw [gL_round v4_b12.eq_1]
    simp [kvH, tabO, ptO, vwO] at ih'
    simp [v4_7, v4_8, v4_9, v4_10, v4_11, h1, iaV_sl e1, e3, kvH, tabO, ptO, vwO, hq, c26, c27, cut]
    exact ih'
def kn0 : Kn := ⟨([], 0), ([], 0), []⟩
def vw0 : Vw := ⟨[], [], []⟩
theorem szs0 : Szs 0 kn0 vw0 := ⟨tab_nil, Nat.le_refl _, fun k => Nat.le_refl _, Nat.le_refl _, Nat.le_refl _, Nat.le_refl _, Nat.le_refl _⟩
theorem t4 (hp : NoPm Pm) (hq : NoQ Q) (hs : Q 90 = some sortQ) (hc : Pm 49 = some cloneP) (ha : Pm 97 = some asP) (hlive : gF vTab M Q Pm 11 [] [] 0 = some (.bool true, [], 0)) (l : List Les) (key hi : By)
    (hB : l.length ≤ 9223372036854775807) (hB2 : ∀ x ∈ l, x.2.length ≤ 9223372036854775807)
    (hL : lesB l = true → l.length ≤ 20 ∧ ∀ x ∈ l, x.2.length ≤ 100 ∧ (∀ p ∈ x.2, p.2.length < small) ∧ x.1.1.length < small)
    (hZ : lesB l = true → ∀ n a b x, Szs n a b → x ∈ l → Szs (n + 1) (learnK x a) (learnV x b)) (a : Kn) (b : Vw) (hab : bothL l kn0 vw0 = (a, b)) (hsz : lesB l = true → Szs l.length a b)
    (d : By) (ib : Bool) (e e' : Option Spn) (R : List Pr) (hR : lesB l = true → R.length < 9223372036854775807)
    (g1 : knGet a.t a.p a.s key = .tup [.sl 1 (bytesU d), .bool ib, erU e]) (g2 : getV b key = .tup [.sl 1 (bytesU d), .bool ib, .agg (pl e)])
    (g3 : knScan a.t a.s key hi = .tup [.sl 2 (R.map pairC), erU e']) (g4 : scanV b key hi = .tup [.sl 2 (R.map pairC), .agg (pl e')]) :
    gF vTab M Q Pm 4 [.sl 3 (l.map lesC), .str key, .str hi] [] 0 = some (.bool true, [], 0) := by
  refine gF_of (fn := v4) (hp 4 (by decide) (by decide)) rfl rfl ?_
  have c24 := t24 (M := M) (Q := Q) (Pm := Pm) hp hq l hB hB2
  rcases bool_two (lesB l) with hf | hf
  · rw [hf] at c24
    simp [v4_body, v4_0, v4_1, v4_2, hq, hlive, c24]
  · rw [hf] at c24
    obtain ⟨l1, l2⟩ := hL hf
    by_cases w2 : key.length ≤ 300
    · have w2' : ¬ (300 : Int) < (key.length : Int) := by omega
      by_cases w3 : hi.length ≤ 300
      · have w3' : ¬ (300 : Int) < (hi.length : Int) := by omega
        have sz := hsz hf
        have sm : small = 1000000000 := rfl
        have z1 := sz.len
        have z2 := sz.spn
        have z3 := sz.prs
        have z4 := sz.kys
        have z5 := sz.sts
        have c25 := t25 (M := M) (Q := Q) (Pm := Pm) hp hq hc
        have hlp := fun K => t4_a (M := M) hp hq hs hc l key hi l1 l2 (hZ hf) K l.length 0 kn0 vw0 (Nat.zero_add _) szs0
        have c28 := t28 (M := M) hp hq hc a.t a.p a.s key (kvH a b) 0 3 1 2 0 (Nat.zero_le _) sz.tab (by omega) rfl rfl rfl rfl
        have c20 := t20 (M := M) (Q := Q) hp hq b key (kvH a b) 0 4 rfl (Nat.zero_le _) (by omega) (by omega) (by omega)
        have c29 := fun X => t29 (M := M) hp hq hs hc a.t a.p a.s (vwO b) X key hi sz.tab (by omega) (by omega)
        have c22 := fun X => t22 (M := M) (Q := Q) hp hq b key hi (kvH a b ++ [X]) 0 4 rfl (Nat.zero_le _) (by omega) (by omega)
        have c23 := t23 (M := M) (Q := Q) (Pm := Pm) (hp 23 (by decide) (by decide)) d d
        have c14 := t14 (M := M) hp hq R R (hR hf)
        have c31 := t31 (M := M) hp hq ha e
        have c31' := t31 (M := M) hp hq ha e'
        have c30 := t30 (M := M) (Q := Q) (Pm := Pm) hp hq e
        have c30' := t30 (M := M) (Q := Q) (Pm := Pm) hp hq e'
        rw [g1] at c28
        rw [g2] at c20
        rw [g3] at c29
        rw [g4] at c22
        simp only [List.drop_zero, hab] at hlp
        have knil : kcell [] = .nl 2 := rfl
        simp [kvH, kn0, vw0, tabO, ptO, vwO, knil] at hlp
        simp [kvH, tabO, ptO, vwO] at c28 c20 c29 c22
        simp [v4_body, v4_0, v4_1, v4_3, v4_4, v4_6, hq, hlive, c24, w2', w3', c25, shiftO_map]
        refine hlp _ ?_
        cases e <;> cases e' <;> (
          simp only [erU, pl, errZ] at c28 c20 c29 c22 c31 c31' c30 c30'
          simp [v4_13, v4_14, v4_15, v4_16, hq, c28, c20, c29, c22]
          simp [gC_drw v4_17h, v4_17s, hq, c23, c14, c31, c31', c30, c30', Nat.testBit_eq_decide_div_mod_eq])
      · have w3' : (300 : Int) < (hi.length : Int) := by omega
        simp [v4_body, v4_0, v4_1, v4_2, hq, hlive, c24, w2', w3']
    · have w2' : (300 : Int) < (key.length : Int) := by omega
      simp [v4_body, v4_0, v4_1, v4_2, hq, hlive, c24, w2']
end Go.RE
namespace Go.RE
def lastOf (k : By) : List Pr → Option By
  | [] => none
  | p :: L => match lastOf k L with
    | some d => some d
    | none => if (p.1 == k) = true then some p.2 else none
theorem last_cons (k : By) (p : Pr) (L : List Pr) : lastOf k (p :: L) = match lastOf k L with
    | some d => some d
    | none => if (p.1 == k) = true then some p.2 else none := rfl
theorem mem_puts : ∀ (L P : List Pr) (k d : By), (k, d) ∈ L.foldl putL P ↔ lastOf k L = some d ∨ (lastOf k L = none ∧ (k, d) ∈ P) := by
  intro L
  induction L with
  | nil => intro P k d; simp [lastOf]
  | cons p L ih =>
    intro P k d
    rw [List.foldl_cons, ih, last_cons, mem_put]
    cases hl : lastOf k L with
    | some d' => simp
    | none =>
      simp only [true_and, reduceCtorEq, false_or]
      by_cases hk : (p.1 == k) = true
      · have hk' := eq_of_beq hk
        rw [if_pos hk]
        simp only [Option.some.injEq, reduceCtorEq, false_and, or_false]
        constructor
        · rintro (h | ⟨_, h⟩)
          · rw [← h]
          · exact absurd hk'.symm h
        · intro h; left; rw [← h, ← hk']
      · rw [if_neg hk]
        simp only [reduceCtorEq, true_and, false_or]
        constructor
        · rintro (h | ⟨h, _⟩)
          · exact absurd (by rw [← h]; exact beq_self_eq_true _) hk
          · exact h
        · intro h; exact .inr ⟨h, fun hh => hk (by show (p.1 == k) = true; rw [show k = p.1 from hh]; exact beq_self_eq_true _)⟩
theorem last_mem {k d : By} : ∀ {R : List Pr}, lastOf k R = some d → (k, d) ∈ R := by
  intro R
  induction R with
  | nil => intro h; cases h
  | cons p R ih =>
    intro h
    rw [last_cons] at h
    cases hl : lastOf k R with
    | some d' => rw [hl] at h; cases h; exact List.mem_cons_of_mem _ (ih hl)
    | none =>
      rw [hl] at h
      simp only at h
      split at h
      · rename_i hk
        cases h
        rw [← eq_of_beq hk]; exact List.mem_cons_self
      · cases h
theorem last_none {k : By} : ∀ {R : List Pr}, lastOf k R = none → ∀ p ∈ R, p.1 ≠ k := by
  intro R
  induction R with
  | nil => intro _ p h; cases h
  | cons a R ih =>
    intro h p hp
    rw [last_cons] at h
    cases hl : lastOf k R with
    | some d' => rw [hl] at h; cases h
    | none =>
      rw [hl] at h
      simp only at h
      split at h
      · cases h
      · rename_i hk
        rcases List.mem_cons.1 hp with rfl | hp
        · intro hh; exact hk (by rw [hh]; exact beq_self_eq_true _)
        · exact ih hl p hp
theorem srt_key {R : List Pr} (h : Srt R) {k d d' : By} (h1 : (k, d) ∈ R) (h2 : (k, d') ∈ R) : d = d' := by
  induction R with
  | nil => cases h1
  | cons a R ih =>
    obtain ⟨ha, hr⟩ := List.pairwise_cons.1 h
    rcases List.mem_cons.1 h1 with e1 | m1 <;> rcases List.mem_cons.1 h2 with e2 | m2
    · rw [← e1] at e2; cases e2; rfl
    · have := ha _ m2; rw [← e1] at this; rw [show lt k k = false from lt_irr _] at this; cases this
    · have := ha _ m1; rw [← e2] at this; rw [show lt k k = false from lt_irr _] at this; cases this
    · exact ih hr m1 m2
theorem last_srt {R : List Pr} (h : Srt R) (k d : By) : lastOf k R = some d ↔ (k, d) ∈ R := by
  constructor
  · exact last_mem
  · intro hm
    cases hl : lastOf k R with
    | none => exact absurd rfl (last_none hl _ hm)
    | some d' => rw [srt_key h (last_mem hl) hm]
theorem last_filter (p : By → Bool) (k : By) : ∀ L : List Pr, lastOf k (L.filter fun x => p x.1) = if p k = true then lastOf k L else none := by
  intro L
  induction L with
  | nil => simp [lastOf]
  | cons a L ih =>
    rw [List.filter_cons]
    by_cases ha : p a.1 = true
    · rw [if_pos ha, last_cons, last_cons, ih]
      by_cases hk : p k = true
      · rw [if_pos hk, if_pos hk]
      · rw [if_neg hk, if_neg hk]
        simp only
        rw [if_neg]
        intro hh; exact hk (by rw [← eq_of_beq hh]; exact ha)
    · rw [if_neg ha, ih, last_cons]
      by_cases hk : p k = true
      · rw [if_pos hk, if_pos hk]
        cases lastOf k L with
        | some d => rfl
        | none =>
          simp only
          rw [if_neg]
          intro hh; exact ha (by rw [eq_of_beq hh]; exact hk)
      · rw [if_neg hk, if_neg hk]
theorem pairs_last (L : List Pr) (k d : By) : (k, d) ∈ pairsL L ↔ lastOf k L = some d := by
  unfold pairsL; rw [mem_puts]; simp
theorem srt_puts : ∀ (L P : List Pr), Srt P → Srt (L.foldl putL P) := by
  intro L
  induction L with
  | nil => intro P h; exact h
  | cons p L ih => intro P h; exact ih _ (srt_put h p)
theorem puts_pairs {P : List Pr} (hP : Srt P) (p : By → Bool) (L : List Pr) : (L.filter fun x => p x.1).foldl putL P = ((pairsL L).filter fun x => p x.1).foldl putL P := by
  have hs : Srt ((pairsL L).filter fun x => p x.1) := srt_filter (srt_pairs L) _
  have hl : ∀ k, lastOf k (L.filter fun x => p x.1) = lastOf k ((pairsL L).filter fun x => p x.1) := by
    intro k
    apply Option.ext
    intro d
    rw [last_srt hs, List.mem_filter, last_filter, pairs_last]
    by_cases hk : p k = true
    · rw [if_pos hk]; exact ⟨fun h => ⟨h, hk⟩, fun h => h.1⟩
    · rw [if_neg hk]; exact ⟨fun h => by (cases h), fun h => absurd h.2 hk⟩
  refine srt_ext (srt_puts _ _ hP) (srt_puts _ _ hP) fun x => ?_
  obtain ⟨k, d⟩ := x
  rw [mem_puts, mem_puts, hl]
theorem rl_dels : ∀ (D : List Pr) (es : List Ent1) (P : List Pr), Rl es P → Rl (delsT es D) (D.foldl (fun P p => cutL P p.1) P) := by
  intro D
  induction D with
  | nil => intro es P h; exact h
  | cons p D ih => intro es P h; exact ih _ _ (rl_del h p.1)
theorem mem_cuts : ∀ (D P : List Pr) (x : Pr), x ∈ D.foldl (fun P p => cutL P p.1) P ↔ x ∈ P ∧ ∀ p ∈ D, x.1 ≠ p.1 := by
  intro D
  induction D with
  | nil => intro P x; simp
  | cons p D ih =>
    intro P x
    rw [List.foldl_cons, ih, mem_cut]
    simp only [List.mem_cons, forall_eq_or_imp]
    constructor
    · rintro ⟨⟨h1, h2⟩, h3⟩; exact ⟨h1, h2, h3⟩
    · rintro ⟨h1, h2, h3⟩; exact ⟨⟨h1, h2⟩, h3⟩
theorem srt_cuts : ∀ (D P : List Pr), Srt P → Srt (D.foldl (fun P p => cutL P p.1) P) := by
  intro D
  induction D with
  | nil => intro P h; exact h
  | cons p D ih => intro P h; exact ih _ (srt_filter h _)
theorem cuts_eq {P : List Pr} (h : Srt P) (p : By → Bool) : (P.filter fun x => p x.1).foldl (fun P p => cutL P p.1) P = P.filter fun x => !p x.1 := by
  refine srt_ext (srt_cuts _ _ h) (srt_filter h _) fun x => ?_
  rw [mem_cuts, List.mem_filter]
  constructor
  · rintro ⟨h1, h2⟩
    refine ⟨h1, ?_⟩
    cases hp : p x.1 with
    | false => rfl
    | true => exact absurd rfl (h2 x (List.mem_filter.2 ⟨h1, hp⟩))
  · rintro ⟨h1, h2⟩
    refine ⟨h1, fun q hq hh => ?_⟩
    have h3 := (List.mem_filter.1 hq).2
    rw [← hh] at h3
    rw [h3] at h2; cases h2
theorem rl_lie {t : Tb} {P : List Pr} (h : Rl t.1 P) (lo hi : By) (L : List Pr) : Rl (lieT t lo hi L).1 (lieV P lo hi L) := by
  unfold lieT lieV putsT
  rw [in_eq h]
  have h1 := rl_dels (P.filter fun x => has lo hi x.1) t.1 P h
  rw [cuts_eq h.srt (has lo hi)] at h1
  have h2 := rl_pairs (L.filter fun x => has lo hi x.1) (delsT t.1 (P.filter fun x => has lo hi x.1), t.2) _ h1
  rw [puts_pairs (srt_filter h.srt _) (has lo hi) L] at h2
  exact h2
theorem pt_mod (k k' : By) (n : Nat) : ∀ es, ptOf k (modN k' n es) = if (k == k') = true then (ptOf k' es).map (fun e => ⟨k', n, e.b⟩) else ptOf k es := by
  intro es
  induction es with
  | nil => simp [modN, ptOf]
  | cons e es ih =>
    unfold ptOf at ih ⊢
    simp only [modN]
    by_cases he : (e.k == k') = true
    · rw [if_pos he, List.find?_cons, List.find?_cons, List.find?_cons, he]
      by_cases hk : (k == k') = true
      · rw [if_pos hk, eq_of_beq hk, beq_self_eq_true]; rfl
      · rw [if_neg hk]
        have h1 : (k' == k) = false := by rw [beq_sym]; simpa using hk
        have h2 : (e.k == k) = false := by rw [eq_of_beq he]; exact h1
        rw [h1, h2]
    · rw [if_neg he, List.find?_cons, List.find?_cons, List.find?_cons, ih]
      have he' : (e.k == k') = false := by simpa using he
      rw [he']
      by_cases hk : (k == k') = true
      · rw [if_pos hk, if_pos hk, eq_of_beq hk, he']
      · rw [if_neg hk, if_neg hk]
theorem cnt_set (k k' : By) (n c : Nat) (es : List Pt) : cnt k (setN k' n c es) = if (k == k') = true then n else cnt k es := by
  unfold setN cnt
  by_cases hs : (ptOf k' es).isSome = true
  · rw [if_pos hs, pt_mod]
    by_cases hk : (k == k') = true
    · rw [if_pos hk, if_pos hk]
      obtain ⟨e, he⟩ := Option.isSome_iff_exists.1 hs
      rw [he]; rfl
    · rw [if_neg hk, if_neg hk]
  · rw [if_neg hs]
    have hn : ptOf k' es = none := by simpa using hs
    unfold ptOf at hn ⊢
    rw [List.find?_append]
    by_cases hk : (k == k') = true
    · rw [if_pos hk, eq_of_beq hk, hn]
      simp
    · rw [if_neg hk]
      have h1 : (k' == k) = false := by rw [beq_sym]; simpa using hk
      simp [h1]
theorem cnt_bump (k k' : By) (p : List Pt × Nat) : cnt k (bump k' p).1 = if (k == k') = true then cnt k' p.1 + 1 else cnt k p.1 := cnt_set k k' _ _ _
structure Rkv (a : Kn) (b : Vw) : Prop where
  rl : Rl a.t.1 b.P
  sp : a.s = b.S
  pt : ∀ k, cnt k a.p.1 = 0 ↔ inB b.K k = false
theorem rk0 : Rkv kn0 vw0 := ⟨rl_nil, rfl, fun k => by simp [kn0, vw0, cnt, ptOf, inB]⟩
theorem rk_step {a : Kn} {b : Vw} (h : Rkv a b) (x : Les) : Rkv (learnK x a) (learnV x b) := by
  unfold learnK learnV
  by_cases h1 : x.1.1 = x.1.2
  · rw [if_pos h1, if_pos h1]
    refine ⟨rl_lie h.rl _ _ _, h.sp, fun k => ?_⟩
    simp only [cnt_bump, inB, List.any_append, List.any_cons, List.any_nil, Bool.or_false, has_point]
    have hk := h.pt k
    unfold inB at hk
    by_cases hx : (k == x.1.1) = true
    · rw [if_pos hx, hx]; simp
    · have hx' : (k == x.1.1) = false := by simpa using hx
      rw [if_neg hx, hx', Bool.or_false]; exact hk
  · rw [if_neg h1, if_neg h1]
    by_cases h2 : right x.1.1 x.1.2 = true
    · rw [if_pos h2, if_pos h2]
      exact ⟨rl_lie h.rl _ _ _, by simp [h.sp], h.pt⟩
    · rw [if_neg h2, if_neg h2]; exact h
theorem rk_both : ∀ (l : List Les) (a : Kn) (b : Vw), Rkv a b → Rkv (bothL l a b).1 (bothL l a b).2 := by
  intro l
  induction l with
  | nil => intro a b h; exact h
  | cons x l ih => intro a b h; exact ih _ _ (rk_step h x)
theorem tab_del {es : List Ent1} {c : Nat} (h : TabOk es c) (k : By) : TabOk (delT es k) c ∧ (delT es k).length ≤ es.length := by
  unfold delT
  split
  · exact ⟨⟨((del_sub k es).map (·.b)).nodup h.nodup, fun e he => h.lt e ((del_sub k es).subset he), fun e he => h.dat e ((del_sub k es).subset he)⟩, (del_sub k es).length_le⟩
  · exact ⟨h, Nat.le_refl _⟩
theorem tab_dels : ∀ (D : List Pr) {es : List Ent1} {c : Nat}, TabOk es c → TabOk (delsT es D) c ∧ (delsT es D).length ≤ es.length := by
  intro D
  induction D with
  | nil => intro es c h; exact ⟨h, Nat.le_refl _⟩
  | cons p D ih =>
    intro es c h
    obtain ⟨h1, h2⟩ := tab_del h p.1
    obtain ⟨h3, h4⟩ := ih h1
    exact ⟨h3, Nat.le_trans h4 h2⟩
theorem tab_lie {t : Tb} (h : TabOk t.1 t.2) (lo hi : By) (L : List Pr) (hd : ∀ p ∈ L, p.2.length < small) : TabOk (lieT t lo hi L).1 (lieT t lo hi L).2 ∧ (lieT t lo hi L).1.length ≤ t.1.length + L.length := by
  unfold lieT putsT
  obtain ⟨h1, h2⟩ := tab_dels (inT t.1 lo hi (keysT t.1)) h
  obtain ⟨h3, h4⟩ := tab_pairs (L.filter fun x => has lo hi x.1) (delsT t.1 (inT t.1 lo hi (keysT t.1)), t.2) (fun p hp => hd p (List.mem_filter.1 hp).1) h1
  have h5 := List.length_filter_le (fun x : Pr => has lo hi x.1) L
  exact ⟨h3, by simp only at h4; omega⟩
theorem lie_len (P : List Pr) (lo hi : By) (L : List Pr) : (lieV P lo hi L).length ≤ P.length + L.length := by
  unfold lieV
  have h1 := pairs_len ((pairsL L).filter fun x => has lo hi x.1) (P.filter fun x => !has lo hi x.1)
  have h2 := List.length_filter_le (fun x : Pr => has lo hi x.1) (pairsL L)
  have h3 := List.length_filter_le (fun x : Pr => !has lo hi x.1) P
  have h4 : (pairsL L).length ≤ L.length := by have := pairs_len L []; simpa [pairsL] using this
  omega
theorem szs_step {n : Nat} {a : Kn} {b : Vw} (h : Szs n a b) (x : Les) (hx : x.2.length ≤ 100) (hd : ∀ p ∈ x.2, p.2.length < small) : Szs (n + 1) (learnK x a) (learnV x b) := by
  have h1 := h.len
  have h2 := h.spn
  have h3 := h.prs
  have h4 := h.kys
  have h5 := h.sts
  unfold learnK learnV
  by_cases e1 : x.1.1 = x.1.2
  · rw [if_pos e1, if_pos e1]
    obtain ⟨k1, k2⟩ := tab_lie h.tab x.1.1 (x.1.1 ++ [0]) x.2 hd
    have k3 := lie_len b.P x.1.1 (x.1.1 ++ [0]) x.2
    refine ⟨k1, by simp only; omega, fun k => ?_, by simp only; omega, by simp only; omega, by simp; omega, by simp only; omega⟩
    simp only [cnt_bump]
    have := h.cnt k
    have := h.cnt x.1.1
    split <;> omega
  · rw [if_neg e1, if_neg e1]
    by_cases e2 : right x.1.1 x.1.2 = true
    · rw [if_pos e2, if_pos e2]
      obtain ⟨k1, k2⟩ := tab_lie h.tab x.1.1 x.1.2 x.2 hd
      have k3 := lie_len b.P x.1.1 x.1.2 x.2
      refine ⟨k1, by simp only; omega, fun k => by have := h.cnt k; simp only; omega, by simp; omega, by simp only; omega, by simp only; omega, by simp; omega⟩
    · rw [if_neg e2, if_neg e2]
      exact ⟨h.tab, by omega, fun k => by have := h.cnt k; omega, by omega, by omega, by omega, by omega⟩
theorem szs_both : ∀ (l : List Les) (n : Nat) (a : Kn) (b : Vw), (∀ x ∈ l, x.2.length ≤ 100 ∧ ∀ p ∈ x.2, p.2.length < small) → Szs n a b → Szs (n + l.length) (bothL l a b).1 (bothL l a b).2 := by
  intro l
  induction l with
  | nil => intro n a b _ h; exact h
  | cons x l ih =>
    intro n a b hl h
    have := ih (n + 1) (learnK x a) (learnV x b) (fun y hy => hl y (List.mem_cons_of_mem _ hy)) (szs_step h x (hl x List.mem_cons_self).1 (hl x List.mem_cons_self).2)
    rw [List.length_cons, show n + (l.length + 1) = n + 1 + l.length by omega]
    exact this
variable {M : Nat → String → Option Nat} {Q : Mut} {Pm : Nat → Option (List U → List Uo → Nat → Option (U × List Uo × Nat))}
theorem few_of {L : List Pr} (h : fewL L = true) : L.length ≤ 100 ∧ ∀ p ∈ L, p.2.length < small := by
  unfold fewL at h
  rw [Bool.and_eq_true, List.all_eq_true, decide_eq_true_eq] at h
  refine ⟨h.2, fun p hp => ?_⟩
  have := h.1 p hp
  rw [Bool.and_eq_true, decide_eq_true_eq, decide_eq_true_eq] at this
  unfold small; omega
theorem les_of {l : List Les} (h : lesB l = true) : l.length ≤ 20 ∧ ∀ x ∈ l, x.2.length ≤ 100 ∧ (∀ p ∈ x.2, p.2.length < small) ∧ x.1.1.length < small := by
  unfold lesB at h
  rw [Bool.and_eq_true, List.all_eq_true, decide_eq_true_eq] at h
  refine ⟨h.2, fun x hx => ?_⟩
  have h1 := h.1 x hx
  unfold les1 at h1
  rw [Bool.and_eq_true, Bool.and_eq_true, decide_eq_true_eq, decide_eq_true_eq] at h1
  obtain ⟨a, b⟩ := few_of h1.1.1
  exact ⟨a, b, by unfold small; omega⟩
theorem law4 (hp : NoPm Pm) (hq : NoQ Q) (hs : Q 90 = some sortQ) (hc : Pm 49 = some cloneP) (ha : Pm 97 = some asP) (hm : M 58 "Get" = some 28) (l : List Les) (key hi : By)
    (hB : l.length ≤ 9223372036854775807) (hB2 : ∀ x ∈ l, x.2.length ≤ 9223372036854775807) :
    gF vTab M Q Pm 4 [.sl 3 (l.map lesC), .str key, .str hi] [] 0 = some (.bool true, [], 0) := by
  obtain ⟨a, b, hab⟩ : ∃ a b, bothL l kn0 vw0 = (a, b) := ⟨_, _, rfl⟩
  have rk := rk_both l kn0 vw0 rk0
  rw [hab] at rk
  simp only at rk
  have hsz : lesB l = true → Szs l.length a b := fun h => by
    have := szs_both l 0 kn0 vw0 (fun x hx => ⟨((les_of h).2 x hx).1, ((les_of h).2 x hx).2.1⟩) szs0
    rw [hab, Nat.zero_add] at this
    exact this
  have hZ : lesB l = true → ∀ n a b x, Szs n a b → x ∈ l → Szs (n + 1) (learnK x a) (learnV x b) := fun h n a b x hz hx => szs_step hz x ((les_of h).2 x hx).1 ((les_of h).2 x hx).2.1
  have hpt := rk.pt key
  have hT := t11 (M := M) (Q := Q) (Pm := Pm) hp hq hc ha hm
  have hfl := List.length_filter_le (fun x : Pr => has key hi x.1) b.P
  by_cases hk : (inB b.K key || inB b.S key) = true
  · have g1 : knGet a.t a.p a.s key = .tup [.sl 1 (bytesU ((getL b.P key).getD [])), .bool (getL b.P key).isSome, erU none] := by
      unfold knGet
      rw [if_neg, data_eq rk.rl, some_eq rk.rl]
      · rfl
      · rintro ⟨h1, h2⟩
        rw [hpt.1 h1, ← rk.sp, h2] at hk
        cases hk
    have g2 : getV b key = .tup [.sl 1 (bytesU ((getL b.P key).getD [])), .bool (getL b.P key).isSome, .agg (pl none)] := by
      unfold getV; rw [if_pos hk]; rfl
    by_cases hr : right key hi = true
    · by_cases hw : knowsB b.S (key, hi) = true
      · exact t4 hp hq hs hc ha hT l key hi hB hB2 les_of hZ a b hab hsz _ _ none none (b.P.filter fun x => has key hi x.1) (fun h => by have := (hsz h).prs; have := (les_of h).1; omega) g1 g2
          (by unfold knScan; rw [if_pos hr, rk.sp, if_pos hw, in_eq rk.rl]; rfl) (by unfold scanV; rw [if_pos hr, if_pos hw]; rfl)
      · exact t4 hp hq hs hc ha hT l key hi hB hB2 les_of hZ a b hab hsz _ _ none (some (key, hi)) [] (fun h => by simp) g1 g2
          (by unfold knScan; rw [if_pos hr, rk.sp, if_neg hw]; rfl) (by unfold scanV; rw [if_pos hr, if_neg hw]; rfl)
    · exact t4 hp hq hs hc ha hT l key hi hB hB2 les_of hZ a b hab hsz _ _ none none [] (fun h => by simp) g1 g2
        (by unfold knScan; rw [if_neg hr]; rfl) (by unfold scanV; rw [if_neg hr]; rfl)
  · have hk' : inB b.K key = false ∧ inB b.S key = false := by simpa using hk
    have g1 : knGet a.t a.p a.s key = .tup [.sl 1 (bytesU []), .bool false, erU (some (key, key))] := by
      unfold knGet
      rw [if_pos ⟨hpt.2 hk'.1, by rw [rk.sp]; exact hk'.2⟩]
      rfl
    have g2 : getV b key = .tup [.sl 1 (bytesU []), .bool false, .agg (pl (some (key, key)))] := by
      unfold getV; rw [if_neg hk]; rfl
    by_cases hr : right key hi = true
    · by_cases hw : knowsB b.S (key, hi) = true
      · exact t4 hp hq hs hc ha hT l key hi hB hB2 les_of hZ a b hab hsz _ _ (some (key, key)) none (b.P.filter fun x => has key hi x.1) (fun h => by have := (hsz h).prs; have := (les_of h).1; omega) g1 g2
          (by unfold knScan; rw [if_pos hr, rk.sp, if_pos hw, in_eq rk.rl]; rfl) (by unfold scanV; rw [if_pos hr, if_pos hw]; rfl)
      · exact t4 hp hq hs hc ha hT l key hi hB hB2 les_of hZ a b hab hsz _ _ (some (key, key)) (some (key, hi)) [] (fun h => by simp) g1 g2
          (by unfold knScan; rw [if_pos hr, rk.sp, if_neg hw]; rfl) (by unfold scanV; rw [if_pos hr, if_neg hw]; rfl)
    · exact t4 hp hq hs hc ha hT l key hi hB hB2 les_of hZ a b hab hsz _ _ (some (key, key)) none [] (fun h => by simp) g1 g2
        (by unfold knScan; rw [if_neg hr]; rfl) (by unfold scanV; rw [if_neg hr]; rfl)
end Go.RE
