/- The operations that write memory: they are sound. -/
import Derived.Test.YtigkmaeaoaejiaaGreatDoorPart7
set_option linter.unusedVariables false
set_option linter.unusedSimpArgs false
set_option linter.constructorNameAsVariable false
namespace Go.RE
section
variable {E : Ent} {σ : Sg} {Z : Zs} {ω : Om} {s s' : Vs} {e : PT V} {st : St} {n : Nat}
theorem one_ok {u : U} {v : V} (h : UR σ Z n u v) (hc : u.cellok = true) : v.one = true := by
  cases h <;> first | rfl | (simp [U.cellok] at hc)
theorem ones_ok {us : List U} {vs : List V} (h : LU σ Z n us vs) (hc : us.all U.cellok = true) : vs.all V.one = true := by
  rw [List.all_eq_true] at hc ⊢
  intro v hv
  obtain ⟨j, hj, rfl⟩ := List.mem_iff_getElem.1 hv
  have hj' : j < us.length := h.1 ▸ hj
  exact one_ok (h.2 j _ _ (List.getElem?_eq_getElem hj') (List.getElem?_eq_getElem hj)) (hc _ (List.getElem_mem hj'))
theorem spl_cr {i off : Nat} {cs : List U} {cs' : List V} {us : List U} {vs : List V} (hl : cs.length = cs'.length) (hc : ∀ (o : Nat) u v, cs[o]? = some u → cs'[o]? = some v → CR σ Z ω n i o u v)
    (hul : us.length = vs.length) (hu : ∀ (o : Nat) u v, us[o]? = some u → vs[o]? = some v → CR σ Z ω n i (off + o) u v) (hle : off + us.length ≤ cs.length) :
    (splU cs off us).length = (spl cs' off vs).length ∧ ∀ (o : Nat) u v, (splU cs off us)[o]? = some u → (spl cs' off vs)[o]? = some v → CR σ Z ω n i o u v := by
  refine ⟨by simp [splU, spl]; omega, fun o u v h1 h2 => ?_⟩
  unfold splU at h1
  unfold spl at h2
  rw [List.append_assoc] at h1 h2
  by_cases ho : o < off
  · rw [List.getElem?_append_left (by simp; omega), List.getElem?_take, if_pos ho] at h1
    rw [List.getElem?_append_left (by simp; omega), List.getElem?_take, if_pos ho] at h2
    exact hc o u v h1 h2
  · rw [List.getElem?_append_right (by simp; omega)] at h1 h2
    have e1 : (cs.take off).length = off := by simp; omega
    have e2 : (cs'.take off).length = off := by simp; omega
    rw [e1] at h1; rw [e2] at h2
    by_cases ho2 : o - off < us.length
    · rw [List.getElem?_append_left ho2] at h1
      rw [List.getElem?_append_left (by omega)] at h2
      have := hu _ u v h1 h2
      rw [show off + (o - off) = o by omega] at this; exact this
    · rw [List.getElem?_append_right (by omega), List.getElem?_drop] at h1
      rw [List.getElem?_append_right (by omega), List.getElem?_drop] at h2
      have := hc _ u v h1 (by rw [← h2]; congr 1; omega)
      rw [show off + us.length + (o - off - us.length) = o by omega] at this; exact this
theorem write_of {b off : Nat} {vs cs : List V} (hr : st.get b = some (.row cs)) (hl : off + vs.length ≤ cs.length) (ho : vs.all V.one = true) : st.write b off vs = some (st.put b (.row (spl cs off vs))) := by
  simp only [St.write, row_get hr, Nat.ble_eq_true_of_le hl, ho, Bool.and_self, cond_true]
theorem store_sound {k i off : Nat} {u : U} {v : V} {cs : List U} (h : Ok E σ Z ω s e st) (hi : s.h[i]? = some (.row cs)) (hv : TR σ Z ω s.h.length u v) (hs : storeU s k i off u cs = some s') :
    ∃ ω' st', (bif Nat.beq v.cells.length k then (match st.write (σ i) off v.cells with | some s' => some (.tup [], s') | none => none) else none) = some (V.tup [], st') ∧ Ok E σ Z ω' s' e st' ∧ s'.h.length = s.h.length := by
  have hlt : i < s.h.length := (List.getElem?_eq_some_iff.1 hi).1
  obtain ⟨cs', g1, g2, g3⟩ := h.obj i _ hi
  unfold storeU at hs
  split at hs
  · rename_i g w xs
    cases hb : (Nat.beq k 1 && Nat.blt off cs.length) with
    | false => rw [hb] at hs; simp at hs
    | true =>
      rw [hb] at hs
      simp only [cond_true] at hs
      simp only [Bool.and_eq_true] at hb
      have hk1 : k = 1 := Nat.eq_of_beq_eq_true hb.1
      subst hk1
      have hoff : off < cs.length := by have := hb.2; simp only [Nat.blt, Nat.ble_eq] at this; omega
      split at hs <;> simp only [Option.some.injEq, reduceCtorEq] at hs
      rename_i hno
      subst hs
      obtain ⟨c1, c2⟩ := slice_cells1 hv.1
      have hg : ∀ i off, g ≠ .c i off := fun i off hh => hno i off hh
      have hw : st.write (σ i) off v.cells = some (st.put (σ i) (.row (spl cs' off [v]))) := by
        rw [c1]; exact write_of g1 (by simp; omega) (by simp [c2])
      -- the cell is given up
      have h1 := h.killIf (Tg.inC i off 1)
      have hspl : OB σ Z ω s.h.length i (.row (cs.set off .bad)) (some (.row (spl cs' off [v]))) := by
        have e1 : cs.set off .bad = splU cs off [.bad] := by
          unfold splU; rw [List.set_eq_take_append_cons_drop, if_pos hoff]; simp
        rw [e1]
        obtain ⟨s1, s2⟩ := spl_cr (off := off) (us := [.bad]) (vs := [v]) g2 g3 rfl (fun o u y hu hy => by
          cases o with
          | zero => simp at hu; subst hu; trivial
          | succ o => simp at hu) (by simp; omega)
        exact ⟨_, rfl, s1, s2⟩
      have h2 := h1.putOb hlt (by simp only [hi]; intro hh; cases hh) hspl
      have hnt : NoTag (.c i off) { e := Env.killIf (Tg.inC i off 1) s.e, h := s.h.set i (.row (cs.set off .bad)), fl := s.fl } := by
        refine ⟨fun t u hu htag => ?_, fun i' off' he cs2 w' xs' hc hx => ?_⟩
        · simp only at hu
          rw [look_killIf] at hu
          have hin : Tg.inC i off 1 (.c i off) = true := by simp [Tg.inC, Nat.blt]
          cases hq : look s.e t with
          | none => rw [hq] at hu; simp at hu
          | some x =>
            rw [hq] at hu; simp at hu; subst hu
            cases x with
            | own g' w' xs' =>
              simp only [U.killIf] at htag
              cases hp : Tg.inC i off 1 g' with
              | true => rw [hp] at htag; simp [U.tag] at htag
              | false => rw [hp] at htag; simp [U.tag] at htag; subst htag; rw [hin] at hp; cases hp
            | optr g' i' f =>
              simp only [U.killIf] at htag
              cases hp : Tg.inC i off 1 g' with
              | true => rw [hp] at htag; simp [U.tag] at htag
              | false => rw [hp] at htag; simp [U.tag] at htag; subst htag; rw [hin] at hp; cases hp
            | _ => simp [U.killIf, U.tag] at htag
        · cases he
          simp only at hc
          rw [List.getElem?_set, if_pos rfl, if_pos hlt] at hc
          simp at hc; subst hc
          rw [List.getElem?_set, if_pos rfl, if_pos hoff] at hx
          simp at hx
      obtain ⟨h3, h4⟩ := h2.retag (g := g) hnt hg (by simp) (fun i' off' hh => by cases hh; simpa using hlt)
      have h5 := h3.setOb (i := i) (o := .row (cs.set off (.cown w xs))) (by simpa using hlt) (by simp only; rw [List.getElem?_set, if_pos rfl, if_pos hlt]; intro hh; cases hh) (by
        rw [St.get_put, if_pos rfl]
        have e1 : cs.set off (.cown w xs) = splU cs off [.cown w xs] := by
          unfold splU; rw [List.set_eq_take_append_cons_drop, if_pos hoff]; simp
        rw [e1]
        have hcs : ∀ (o : Nat) u y, (cs.set off .bad)[o]? = some u → (spl cs' off [v])[o]? = some y → CR σ Z (updF (updF ω g none) (Tg.c i off) (ω g)) s.h.length i o u y := by
          obtain ⟨ds, q1, q2, q3⟩ := h3.obj i (.row (cs.set off .bad)) (by simp only; rw [List.getElem?_set, if_pos rfl, if_pos hlt])
          rw [St.get_put, if_pos rfl] at q1
          simp at q1; subst q1
          simpa using q3
        refine ⟨_, rfl, by simp [splU, spl]; omega, fun o u y hu hy => ?_⟩
        by_cases ho : o = off
        · subst ho
          have e2 : (splU cs o [.cown w xs])[o]? = some (.cown w xs) := by rw [← e1, List.getElem?_set, if_pos rfl, if_pos hoff]
          have e3 : (spl cs' o [v])[o]? = some v := by
            unfold spl
            rw [List.append_assoc, List.getElem?_append_right (by simp; omega)]
            have : (cs'.take o).length = o := by simp; omega
            rw [this]; simp
          rw [e2] at hu; rw [e3] at hy
          simp at hu hy; subst hu; subst hy
          exact h4 w xs _ hv.1
        · have e2 : (splU cs off [.cown w xs])[o]? = (cs.set off .bad)[o]? := by
            rw [← e1, List.getElem?_set, List.getElem?_set, if_neg (Ne.symm ho), if_neg (Ne.symm ho)]
          rw [e2] at hu
          simpa using hcs o u y hu hy)
      simp only [List.set_set] at h5
      rw [c1] at hw
      refine ⟨_, _, by rw [c1]; simp only [List.length_singleton, Nat.beq_refl, cond_true, hw], h5, by simp⟩
  · rename_i u' hno
    cases hb : (Nat.beq u.cells.length k && Nat.ble (off + k) cs.length && u.cells.all U.cellok) with
    | false => rw [hb] at hs; simp at hs
    | true =>
      rw [hb] at hs
      simp only [cond_true, Option.some.injEq] at hs
      subst hs
      simp only [Bool.and_eq_true] at hb
      have hk : u.cells.length = k := Nat.eq_of_beq_eq_true hb.1.1
      have hle := Nat.le_of_ble_eq_true hb.1.2
      have hur := cells_ok hv hb.2
      have hcl := hur.cells
      have hw : st.write (σ i) off v.cells = some (st.put (σ i) (.row (spl cs' off v.cells))) := write_of g1 (by rw [← hcl.1]; omega) (ones_ok hcl hb.2)
      obtain ⟨s1, s2⟩ := spl_cr (off := off) g2 g3 hcl.1 (fun o u y hu hy => CR.of_ur (hcl.2 o u y hu hy)) (by omega)
      have h2 := (h.killIf (Tg.inC i off k)).putOb hlt (by simp only [hi]; intro hh; cases hh) (ob := .row (spl cs' off v.cells)) (o := .row (splU cs off u.cells)) ⟨_, rfl, s1, s2⟩
      refine ⟨ω, _, by rw [← hcl.1, hb.1.1, hw]; rfl, h2.setFl _, by simp⟩
theorem src_tr (h : Ok E σ Z ω s e st) {w : Nat} {str : Bool} {u : U} {v : V} {ys : List (List U)} (hs : srcU s w str u = some ys) (hv : TR σ Z ω s.h.length u v) :
    ∃ cs, srcCells st w str v = some cs ∧ LU σ Z s.h.length ys.flatten cs ∧ lenV v = some ys.length ∧ ∀ r ∈ ys, r.length = w := by
  cases str with
  | true =>
    cases u <;> simp only [srcU, reduceCtorEq] at hs
    rename_i b
    cases hb : Nat.beq w 1 with
    | false => rw [hb] at hs; simp at hs
    | true =>
      rw [hb] at hs; simp at hs; subst hs
      have : w = 1 := Nat.eq_of_beq_eq_true hb
      subst this
      obtain rfl := TR.str hv
      exact ⟨_, by simp [srcCells], bytes_lu b, by simp [lenV, bytesU], bytesU_len b⟩
  | false =>
    have hs' : rowsOf s w u = some ys := by cases u <;> exact hs
    obtain ⟨cs, h1, h2, h3, h4⟩ := rows_cells h hs' hv
    refine ⟨cs, ?_, h2, h3, h4⟩
    cases v <;> simpa [srcCells] using h1
theorem flat_all {ys : List (List U)} (h : ys.all (fun r => r.all U.cellok && U.lows 0 r && Nat.beq r.length n) = true) : ys.flatten.all U.cellok = true ∧ U.lows 0 ys.flatten = true ∧ ∀ r ∈ ys, r.length = n := by
  induction ys with
  | nil => exact ⟨rfl, rfl, fun r hr => by cases hr⟩
  | cons y ys ih =>
    simp only [List.all_cons, Bool.and_eq_true] at h
    obtain ⟨h1, h2, h3⟩ := ih h.2
    have lows_app : ∀ {a b : List U}, U.lows 0 a = true → U.lows 0 b = true → U.lows 0 (a ++ b) = true := by
      intro a
      induction a with
      | nil => intro b _ hb; exact hb
      | cons x a iha => intro b ha hb; simp only [U.lows, Bool.and_eq_true, List.cons_append] at ha ⊢; exact ⟨ha.1, iha ha.2 hb⟩
    refine ⟨by simp only [List.flatten_cons, List.all_append, Bool.and_eq_true]; exact ⟨h.1.1.1, h1⟩, by simp only [List.flatten_cons]; exact lows_app h.1.1.2 h2, fun r hr => ?_⟩
    rcases List.mem_cons.1 hr with rfl | hr
    · exact Nat.eq_of_beq_eq_true h.1.2
    · exact h3 r hr
theorem free_name (h : Ok E σ Z ω s e st) {g : Tg} {I : OwnI} (hg : ω g = some I) : I.b < st.next ∧ (∀ i, i < s.h.length → σ i ≠ I.b) ∧ Z I.b = none ∧ (∀ g' J, g' ≠ g → ω g' = some J → J.b ≠ I.b) ∧ (I.b < E.st.next → E.I I.b) :=
  ⟨h.lt_next (h.wok g I hg), fun i hi => h.sw i g I hi hg, h.wz g I hg, fun g' J hgg hJ hb => hgg (h.winj g' g J I hJ hg hb), fun hlt => Classical.byContradiction fun hno => (h.out I.b hlt hno).2.2.1 g I hg rfl⟩
theorem lu_splice {a : List U} {row new : List V} {ys : List U} {off L : Nat} (h : LU σ Z 0 a ((row.drop off).take L)) (hn : LU σ Z 0 ys new) (hl : off + L ≤ row.length) (hb : off + L + new.length ≤ row.length) :
    LU σ Z 0 (a ++ ys) (((spl row (off + L) new).drop off).take (L + ys.length)) := by
  have e : ((spl row (off + L) new).drop off).take (L + ys.length) = ((row.drop off).take L) ++ new := by
    unfold spl
    rw [List.append_assoc, List.drop_append]
    have e1 : (List.take (off + L) row).length = off + L := by simp; omega
    rw [e1, show off - (off + L) = 0 by omega, List.drop_zero]
    have e2 : (List.take (off + L) row).drop off = (row.drop off).take L := by rw [List.drop_take]; congr 1; omega
    rw [e2, List.take_append]
    have e3 : ((row.drop off).take L).length = L := by simp; omega
    rw [e3, Nat.add_sub_cancel_left, List.take_of_length_le (by omega)]
    rw [hn.1, List.take_left]
  rw [e]; exact h.append hn
theorem flat_set {w f : Nat} {us : List U} : ∀ {xs : List (List U)}, (∀ r ∈ xs, r.length = w) → ∀ {i : Nat} {r : List U}, xs[i]? = some r → f + us.length ≤ w → (xs.set i (splU r f us)).flatten = splU xs.flatten (i * w + f) us := by
  intro xs
  induction xs with
  | nil => intro _ i r h; simp at h
  | cons x xs ih =>
    intro hw i r h hf
    have hx := hw x List.mem_cons_self
    cases i with
    | zero =>
      simp at h; subst h
      simp only [List.set_cons_zero, List.flatten_cons, Nat.zero_mul, Nat.zero_add]
      unfold splU
      rw [List.take_append_of_le_length (by omega), List.drop_append_of_le_length (by omega)]
      simp
    | succ i =>
      simp at h
      simp only [List.set_cons_succ, List.flatten_cons, ih (fun r hr => hw r (List.mem_cons_of_mem _ hr)) h hf, Nat.succ_mul]
      unfold splU
      rw [show i * w + w + f = x.length + (i * w + f) by omega, List.take_append, List.take_of_length_le (l := x) (by omega), Nat.add_sub_cancel_left,
        show x.length + (i * w + f) + us.length = x.length + (i * w + f + us.length) by omega, List.drop_append (l₁ := x), List.drop_of_length_le (l := x) (by omega), Nat.add_sub_cancel_left]
      simp
theorem window_spl {row vs : List V} {off p L : Nat} (h1 : p + vs.length ≤ L) (h2 : off + L ≤ row.length) : ((spl row (off + p) vs).drop off).take L = spl ((row.drop off).take L) p vs := by
  apply List.ext_getElem?
  intro j
  unfold spl
  rw [List.getElem?_take, List.getElem?_drop]
  by_cases hj : j < L
  · rw [if_pos hj]
    by_cases ha : j < p
    · rw [List.append_assoc, List.append_assoc, List.getElem?_append_left (by simp; omega), List.getElem?_append_left (by simp; omega), List.getElem?_take, List.getElem?_take, if_pos (by omega), if_pos ha, List.getElem?_take, if_pos hj, List.getElem?_drop]
    · have e1 : (row.take (off + p)).length = off + p := by simp; omega
      have e2 : (((row.drop off).take L).take p).length = p := by simp; omega
      rw [List.append_assoc, List.append_assoc]
      have l1 : ∀ D : List V, (row.take (off + p) ++ (vs ++ D))[off + j]? = (vs ++ D)[j - p]? := fun D => by
        rw [List.getElem?_append_right (by omega), e1]; congr 1; omega
      have l2 : ∀ D : List V, (((row.drop off).take L).take p ++ (vs ++ D))[j]? = (vs ++ D)[j - p]? := fun D => by
        rw [List.getElem?_append_right (by omega), e2]
      rw [l1, l2]
      by_cases hb : j - p < vs.length
      · rw [List.getElem?_append_left hb, List.getElem?_append_left hb]
      · rw [List.getElem?_append_right (by omega), List.getElem?_append_right (by omega), List.getElem?_drop, List.getElem?_drop, List.getElem?_take, if_pos (by omega), List.getElem?_drop]
        congr 1; omega
  · rw [if_neg hj, List.getElem?_eq_none]
    simp; omega
theorem append_sound' {d w bytes : Nat} {str : Bool} {g : Tg} {xs ys : List (List U)} {a x : V} {u : U} (h : Ok E σ Z ω s e st) (ha : OR σ Z ω g w xs a) (hx : TR σ Z ω s.h.length u x) (hs : srcU s w str u = some ys)
    (hb1 : Nat.ble ((xs.length + ys.length) * bytes) big = true) (hb2 : Nat.ble (xs.length + ys.length) big = true) (hy : ys.all (fun r => r.all U.cellok && U.lows 0 r && Nat.beq r.length w) = true) :
    ∃ ω' v st', appendV st w bytes str a x = some (v, st') ∧ Ok E σ Z ω' ((s.kill g).kill (.t d)) e st' ∧ OR σ Z ω' (.t d) w (xs ++ ys) v := by
  obtain ⟨cs, c1, c2, c3, c4⟩ := src_tr h hs hx
  obtain ⟨f1, f2, f3⟩ := flat_all hy
  have hone := ones_ok c2 f1
  have hlu0 := c2.low f2
  have hcl : cs.length = ys.length * w := by rw [← c2.1, flat_len c4]
  have hbl1 := Nat.le_of_ble_eq_true hb1
  have hbl2 := Nat.le_of_ble_eq_true hb2
  have hk1 := h.kill g
  unfold appendV
  rw [c1, c3]
  simp only [hone, cond_true]
  have hgr : ∀ I, ω g = some I → g ≠ .r := fun I hI hh => by subst hh; rw [h.wr] at hI; cases hI
  -- a new row
  have fresh : ∀ (ω1 : Om) (st1 : St) (old : List V), Ok E σ Z ω1 (s.kill g) e st1 → LU σ Z 0 xs.flatten old → (∀ r ∈ xs, r.length = w) →
      ∃ ω', Ok E σ Z ω' ((s.kill g).kill (.t d)) e (st1.alloc (.row (old ++ cs))) ∧ OR σ Z ω' (.t d) w (xs ++ ys) (.slice st1.next 0 (xs.length + ys.length) (xs.length + ys.length) w false) := by
    intro ω1 st1 old ho hold hw
    have hol : old.length = xs.length * w := by rw [← hold.1, flat_len hw]
    have hwl : ∀ r ∈ xs ++ ys, r.length = w := fun r hr => by
      rcases List.mem_append.1 hr with hr | hr
      · exact hw r hr
      · exact c4 r hr
    obtain ⟨ω', k1, k2⟩ := ho.newOwn (d := d) (w := w) (cap := xs.length + ys.length) (ex := false) (xs := xs ++ ys) (row := old ++ cs) (by simp) (by rw [List.length_append, hol, hcl, Nat.add_mul]; exact Nat.le_refl _) hwl (by
      rw [List.flatten_append, List.take_of_length_le (by rw [List.length_append, hol, hcl, List.length_append, Nat.add_mul]; exact Nat.le_refl _)]; exact hold.append hlu0)
    rw [List.length_append] at k2
    exact ⟨ω', k1, k2⟩
  unfold OR at ha
  split at ha
  · rename_i hg
    obtain ⟨rfl, hv⟩ := ha
    simp only [List.length_nil, Nat.zero_add] at hbl1 hbl2 hb1 hb2
    cases hk0 : Nat.beq ys.length 0 with
    | true =>
      have hy0 : ys = [] := List.eq_nil_of_length_eq_zero (Nat.eq_of_beq_eq_true hk0)
      subst hy0
      obtain ⟨ω', k1, k2, _⟩ := hk1.ownNil d
      have hor : ∀ v, v = .nils ∨ v = .zslice → OR σ Z ω' (.t d) w ([] ++ []) v := fun v hv => by unfold OR; rw [k2]; exact ⟨rfl, hv⟩
      rcases hv with rfl | rfl
      · exact ⟨ω', _, _, by simp, k1, hor _ (.inl rfl)⟩
      · exact ⟨ω', _, _, by simp, k1, hor _ (.inr rfl)⟩
    | false =>
      obtain ⟨ω', k1, k2⟩ := fresh ω st [] hk1 .nil (fun r hr => by cases hr)
      simp only [List.nil_append, List.length_nil, Nat.zero_add] at k1 k2
      rcases hv with rfl | rfl
      · exact ⟨ω', _, _, by simp only [hk0, cond_false, hb1, hb2, Bool.and_self, cond_true], k1, k2⟩
      · exact ⟨ω', _, _, by simp only [hk0, cond_false, hb1, hb2, Bool.and_self, cond_true], k1, k2⟩
  · rename_i I hg
    obtain ⟨rfl, ⟨rfl, rfl⟩, e1, e2, e3, e4⟩ := ha
    obtain ⟨n1, n2, n3, n4, n5⟩ := free_name h hg
    have hIr := h.wok g I hg
    have hcapw : I.xs.length * I.w ≤ I.cap * I.w := Nat.mul_le_mul_right _ e1
    -- the tag is given up
    have hk2 := hk1.setω (noTag_kill g s) (hgr I hg) (o := none) (fun J hJ => by cases hJ)
    have hfree : ∀ g' J, updF ω g none g' = some J → J.b ≠ I.b := fun g' J hJ => by
      by_cases hq : g' = g
      · subst hq; rw [updF_same] at hJ; cases hJ
      · rw [updF_ne _ _ hq] at hJ; exact n4 g' J hq hJ
    simp only [Nat.beq_refl, hb1, hb2, Bool.and_self, cond_true]
    cases hc : Nat.ble (I.xs.length + ys.length) I.cap with
    | true =>
      have hc' := Nat.le_of_ble_eq_true hc
      simp only [cond_true]
      have hin : ∀ (st1 : St) (row' : List V), Ok E σ Z (updF ω g none) (s.kill g) e st1 → st1.next = st.next → st1.get I.b = some (.row row') → row'.length = I.row.length →
          LU σ Z 0 (I.xs ++ ys).flatten ((row'.drop I.off).take ((I.xs ++ ys).length * I.w)) →
          ∃ ω', Ok E σ Z ω' ((s.kill g).kill (.t d)) e st1 ∧ OR σ Z ω' (.t d) I.w (I.xs ++ ys) (.slice I.b I.off (I.xs.length + ys.length) I.cap I.w I.ex) := by
        intro st1 row' ho hn hr hl hlu
        refine ⟨_, (ho.kill (.t d)).setω (noTag_kill _ _) (by simp) (o := some ⟨I.b, I.off, I.cap, I.ex, I.w, row', I.xs ++ ys⟩) (fun J hJ => ?_), ?_⟩
        · cases hJ
          refine ⟨hr, fun i hi => n2 i (by rw [kill_len, kill_len] at hi; exact hi), n3, fun g' J' _ hJ' => hfree g' J' hJ', fun b hb hbI hh => hbI (hh ▸ n5 (by rw [show I.b = b from hh]; exact hb)), fun i off hh => by cases hh⟩
        · unfold OR; rw [updF_same]
          refine ⟨by simp, ⟨rfl, rfl⟩, by simp; omega, by simp only [hl]; exact e2, fun r hr => ?_, hlu⟩
          rcases List.mem_append.1 hr with hr | hr
          · exact e3 r hr
          · exact c4 r hr
      cases hk0 : Nat.beq ys.length 0 with
      | true =>
        have hy0 : ys = [] := List.eq_nil_of_length_eq_zero (Nat.eq_of_beq_eq_true hk0)
        subst hy0
        obtain ⟨ω', k1, k2⟩ := hin st I.row hk2 rfl hIr rfl (by simpa using e4)
        exact ⟨ω', .slice I.b I.off I.xs.length I.cap I.w I.ex, st, by simp only [cond_true], k1, by simpa using k2⟩
      | false =>
        have hfit : (I.xs.length + ys.length) * I.w ≤ I.cap * I.w := Nat.mul_le_mul_right _ hc'
        rw [Nat.add_mul] at hfit
        have hwr := write_of hIr (off := I.off + I.xs.length * I.w) (vs := cs) (by omega) hone
        have hk3 := hk2.putFree n1 (fun i hi => n2 i (by rw [kill_len] at hi; exact hi)) n3 hfree n5 (.row (spl I.row (I.off + I.xs.length * I.w) cs))
        obtain ⟨ω', k1, k2⟩ := hin _ (spl I.row (I.off + I.xs.length * I.w) cs) hk3 rfl (by rw [St.get_put, if_pos rfl]) (by simp [spl]; omega) (by
          have := lu_splice e4 hlu0 (by omega) (by omega)
          rw [List.flatten_append, List.length_append, Nat.add_mul]
          rw [flat_len c4] at this; exact this)
        exact ⟨ω', _, _, by simp only [cond_false, hwr], k1, k2⟩
    | false =>
      simp only [cond_false]
      have hsc := slice_cells (cap := I.cap) (ex := I.ex) (row_get hIr) (show I.off + I.xs.length * I.w ≤ I.row.length by omega)
      rw [hsc]
      cases hex : I.ex with
      | true =>
        obtain ⟨ω', k1, k2⟩ := fresh _ st _ hk2 e4 e3
        exact ⟨ω', _, _, rfl, k1, k2⟩
      | false =>
        have hk3 := hk2.putFree n1 (fun i hi => n2 i (by rw [kill_len] at hi; exact hi)) n3 hfree n5 .dead
        obtain ⟨ω', k1, k2⟩ := fresh _ _ _ hk3 e4 e3
        exact ⟨ω', _, _, rfl, k1, k2⟩
theorem mod_tr {i : Nat} : ∀ {es : List (U × U × Nat)} {es' : List ME} {j : Nat} {k v : U} {k' v' : V}, es.length = es'.length →
    (∀ (j : Nat) x y, es[j]? = some x → es'[j]? = some y → UR σ Z n x.1 y.key ∧ UR σ Z n x.2.1 y.val ∧ y.born = x.2.2) → UR σ Z n k k' → UR σ Z n v v' →
    (modU j (fun e => (k, v, e.2.2)) es).length = (modME j (fun e => { e with key := k', val := v' }) es').length ∧
    ∀ (i : Nat) x y, (modU j (fun e => (k, v, e.2.2)) es)[i]? = some x → (modME j (fun e => { e with key := k', val := v' }) es')[i]? = some y → UR σ Z n x.1 y.key ∧ UR σ Z n x.2.1 y.val ∧ y.born = x.2.2 := by
  intro es
  induction es with
  | nil =>
    intro es' j k v k' v' hl hr hk hv
    have : es' = [] := List.eq_nil_of_length_eq_zero hl.symm
    subst this
    exact ⟨by simp [modU, modME], fun i x y h => by simp [modU] at h⟩
  | cons a es ih =>
    intro es' j k v k' v' hl hr hk hv
    cases es' with
    | nil => simp at hl
    | cons b es' =>
      have h0 := hr 0 a b rfl rfl
      cases j with
      | zero =>
        refine ⟨by simpa [modU, modME] using hl, fun i x y hx hy => ?_⟩
        cases i with
        | zero => simp [modU] at hx; simp [modME] at hy; subst hx; subst hy; exact ⟨hk, hv, h0.2.2⟩
        | succ i => simp [modU] at hx; simp [modME] at hy; exact hr (i + 1) x y (by simpa using hx) (by simpa using hy)
      | succ j =>
        obtain ⟨h1, h2⟩ := ih (j := j) (by simpa using hl) (fun i x y hx hy => hr (i + 1) x y (by simpa using hx) (by simpa using hy)) hk hv
        refine ⟨by simp [modU, modME, h1], fun i x y hx hy => ?_⟩
        cases i with
        | zero => simp [modU] at hx; simp [modME] at hy; subst hx; subst hy; exact h0
        | succ i => simp [modU] at hx; simp [modME] at hy; exact h2 i x y hx hy
theorem erase_tr : ∀ {es : List (U × U × Nat)} {es' : List ME} {j : Nat}, es.length = es'.length →
    (∀ (j : Nat) x y, es[j]? = some x → es'[j]? = some y → UR σ Z n x.1 y.key ∧ UR σ Z n x.2.1 y.val ∧ y.born = x.2.2) →
    (eraseU j es).length = (eraseME j es').length ∧ ∀ (i : Nat) x y, (eraseU j es)[i]? = some x → (eraseME j es')[i]? = some y → UR σ Z n x.1 y.key ∧ UR σ Z n x.2.1 y.val ∧ y.born = x.2.2 := by
  intro es
  induction es with
  | nil =>
    intro es' j hl hr
    have : es' = [] := List.eq_nil_of_length_eq_zero hl.symm
    subst this
    exact ⟨by simp [eraseU, eraseME], fun i x y h => by simp [eraseU] at h⟩
  | cons a es ih =>
    intro es' j hl hr
    cases es' with
    | nil => simp at hl
    | cons b es' =>
      cases j with
      | zero => exact ⟨by simpa [eraseU, eraseME] using hl, fun i x y hx hy => hr (i + 1) x y (by simpa [eraseU] using hx) (by simpa [eraseME] using hy)⟩
      | succ j =>
        obtain ⟨h1, h2⟩ := ih (j := j) (by simpa using hl) (fun i x y hx hy => hr (i + 1) x y (by simpa using hx) (by simpa using hy))
        refine ⟨by simp [eraseU, eraseME, h1], fun i x y hx hy => ?_⟩
        cases i with
        | zero => simp [eraseU] at hx; simp [eraseME] at hy; subst hx; subst hy; exact hr 0 _ _ rfl rfl
        | succ i => simp [eraseU] at hx; simp [eraseME] at hy; exact h2 i x y hx hy
theorem readyS_ok {off : Nat} {u : U} {v : V} {cs : List U} (h : Ok E σ Z ω s e st) (hv : TR σ Z ω s.h.length u v) :
    ∃ Z' ω', Ok E σ Z' ω' (readyS s off u cs).2 e st ∧ TR σ Z' ω' (readyS s off u cs).2.h.length (readyS s off u cs).1 v ∧ (readyS s off u cs).2.h.length = s.h.length ∧ ∀ b r, Z b = some r → Z' b = some r := by
  unfold readyS
  split
  · rename_i g w xs
    split
    · obtain ⟨Z', ω', q1, q2, q3, q4, q5, q6⟩ := h.frz g
      exact ⟨Z', ω', q1, TR.of_ur (by rw [q6]; exact hv.1.sl q2 q5), q6, q2⟩
    · exact ⟨Z, ω, h, hv, rfl, fun _ _ h => h⟩
  · exact ⟨Z, ω, h, hv, rfl, fun _ _ h => h⟩
theorem opH_sound {d : Nat} {o : HOp} {u : U} (h : opH d s o = some (u, s')) (hk : Ok E σ Z ω s e st) :
    ∃ Z' ω' v st', evH e st o.er = some (v, st') ∧ Ok E σ Z' ω' s' e st' ∧ TR σ Z' ω' s'.h.length u v ∧ s'.h.length = s.h.length ∧ ∀ b r, Z b = some r → Z' b = some r := by
  have hunit : ∀ {Z' ω' n}, TR σ Z' ω' n (.tup []) (.tup []) := fun {_ _ _} => UR.tup rfl (fun j u v h => by simp at h)
  cases o with
  | store k a x =>
    simp only [opH] at h
    split at h
    · rename_i i off u0 ha hx
      split at h <;> try (simp at h; done)
      rename_i cs0 hi0
      obtain ⟨va, a1, a2⟩ := hk.opd ha
      obtain ⟨vx, x1, x2⟩ := hk.opd hx
      obtain ⟨hlt, rfl⟩ := TR.ptr a2
      obtain ⟨Z1, ω1, r1, r2, r3, r4⟩ := readyS_ok (off := off) (cs := cs0) hk x2
      generalize readyS s off u0 cs0 = R at h r1 r2 r3
      obtain ⟨u1, t1⟩ := R
      simp only at h r1 r2 r3
      split at h <;> try (simp at h; done)
      rename_i cs hi
      split at h <;> simp only [Option.some.injEq, Prod.mk.injEq, reduceCtorEq] at h
      rename_i s1 hs
      obtain ⟨rfl, rfl⟩ := h
      obtain ⟨ω', st', k1, k2, k3⟩ := store_sound r1 hi r2 hs
      exact ⟨Z1, ω', .tup [], st', by simp only [HOp.er, evH, a1, x1]; exact k1, k2, hunit, k3.trans r3, r4⟩
    · rename_i g i f u0 ha hx
      split at h <;> try (simp at h; done)
      rename_i v1 s1 hesc
      split at h <;> try (simp at h; done)
      rename_i w xs hc
      split at h <;> try (simp at h; done)
      rename_i r hr
      cases hb : (Nat.beq v1.cells.length k && Nat.ble (f + k) r.length && v1.cells.all U.cellok && v1.low 0) with
      | false => rw [hb] at h; simp at h
      | true =>
        rw [hb] at h
        simp only [cond_true, Option.some.injEq, Prod.mk.injEq] at h
        obtain ⟨rfl, rfl⟩ := h
        simp only [Bool.and_eq_true] at hb
        obtain ⟨va, a1, ⟨I, hg, rfl⟩, _⟩ := hk.opd ha
        obtain ⟨vx, x1, x2⟩ := hk.opd hx
        have hesc2 : ∃ Z' ω', Ok E σ Z' ω' s1 e st ∧ UR σ Z' s.h.length v1 vx ∧ s1.h.length = s.h.length ∧ (∀ b r, Z b = some r → Z' b = some r) ∧ ω' g = some I := by
          cases u0 with
          | own g0 w0 xs0 =>
            simp only [esc, Option.some.injEq, Prod.mk.injEq] at hesc
            obtain ⟨rfl, rfl⟩ := hesc
            obtain ⟨Z', ω', q1, q2, q3, q4, q5, q6⟩ := hk.frz g0
            refine ⟨Z', ω', q1, x2.1.sl q2 q5, q6, q2, ?_⟩
            have hne : g ≠ g0 := fun hh => by subst hh; rw [noTag_own q4] at hc; cases hc
            rw [q3 g hne]; exact hg
          | bad => simp [esc] at hesc
          | cown w0 xs0 => simp [esc] at hesc
          | optr g0 i0 f0 => simp [esc] at hesc
          | asl i0 o0 l0 w0 => simp [esc] at hesc
          | tup vs => simp [esc] at hesc
          | _ =>
            simp only [esc, Option.some.injEq, Prod.mk.injEq] at hesc
            obtain ⟨rfl, rfl⟩ := hesc
            exact ⟨Z, ω, hk, x2, rfl, fun _ _ h => h, hg⟩
        obtain ⟨Z', ω', q1, q2, q3, q4, q5⟩ := hesc2
        obtain ⟨vo, hor⟩ := ownC_or q1 hc
        unfold OR at hor
        rw [q5] at hor
        obtain ⟨rfl, ⟨rfl, rfl⟩, e1, e2, e3, e4⟩ := hor
        have hrw : r.length = I.w := e3 r (List.mem_of_getElem? hr)
        have hil : i < I.xs.length := (List.getElem?_eq_some_iff.1 hr).1
        have hkl : v1.cells.length = k := Nat.eq_of_beq_eq_true hb.1.1.1
        have hfk := Nat.le_of_ble_eq_true hb.1.1.2
        have hcl := q2.cells
        have hcl0 : LU σ Z' 0 v1.cells vx.cells := (q2.low hb.2).cells
        have hone := ones_ok hcl hb.1.2
        have hIr := q1.wok g I q5
        have hcapw : I.xs.length * I.w ≤ I.cap * I.w := Nat.mul_le_mul_right _ e1
        have hiw : i * I.w + I.w ≤ I.xs.length * I.w := by rw [← Nat.succ_mul]; exact Nat.mul_le_mul_right _ hil
        have hwr := write_of hIr (off := I.off + i * I.w + f) (vs := vx.cells) (by rw [← hcl.1]; omega) hone
        -- the elements, told anew
        have hup := q1.updOwn hc q5 (ys := I.xs.set i (splU r f v1.cells)) (row' := spl I.row (I.off + i * I.w + f) vx.cells) (by simp) (by have := hcl.1; simp [spl]; omega) (fun r' hr' => by
          rcases List.mem_or_eq_of_mem_set hr' with hr' | rfl
          · exact e3 r' hr'
          · rw [splU_length (by omega)]; exact hrw) (by
          rw [List.length_set, flat_set e3 hr (by omega), Nat.add_assoc I.off, window_spl (by rw [← hcl.1]; omega) (by omega)]
          exact spl_lu e4 hcl0)
        refine ⟨Z', _, .tup [], _, by simp only [HOp.er, evH, a1, x1, ← hcl.1, hkl, Nat.beq_refl, cond_true, hwr], hup, hunit, ?_, q4⟩
        unfold Vs.upd
        split
        · simp only; unfold setCell; split <;> simp [q3]
        · exact q3
    · simp at h
  | mapUpdate kk m k x =>
    simp only [opH] at h
    split at h <;> try (simp at h; done)
    rename_i i s1 hm
    split at h <;> try (simp at h; done)
    rename_i ku s2 hkk
    split at h <;> try (simp at h; done)
    rename_i v s3 hx
    split at h <;> try (simp at h; done)
    rename_i es clock hi
    obtain ⟨Z1, ω1, vm, m1, m2, m3, m4, m5⟩ := hk.escO hm
    obtain ⟨Z2, ω2, vk, k1, k2, k3, k4, k5⟩ := m2.escO hkk
    obtain ⟨Z3, ω3, vx, x1, x2, x3, x4, x5⟩ := k2.escO hx
    have hlen : s3.h.length = s.h.length := by omega
    cases hp : plainKeyU kk ku with
    | false => rw [hp] at h; simp at h
    | true =>
      rw [hp] at h
      simp only [cond_true] at h
      have hml : i < s.h.length ∧ vm = .map (σ i) := by cases m3; exact ⟨‹_›, rfl⟩
      obtain ⟨hlt, rfl⟩ := hml
      obtain ⟨es', g1, g2, g3⟩ := map_get x2 hi
      have k3' : UR σ Z3 s3.h.length ku vk := k3.mono (by omega) (fun _ _ => rfl) x5
      have x3' : UR σ Z3 s3.h.length v vx := x3.mono (by omega) (fun _ _ => rfl) (fun _ _ h => h)
      have hpk := plainKey_tr (TR.of_ur (ω := ω3) k3') hp
      split at h <;> try (simp at h; done)
      · rename_i j uo hf
        simp only [Option.some.injEq, Prod.mk.injEq] at h
        obtain ⟨rfl, rfl⟩ := h
        obtain ⟨r', f1, f2⟩ := find_tr (TR.of_ur (ω := ω3) k3') g2 g3 hf
        cases r' with
        | none => exact f2.elim
        | some q =>
          obtain ⟨j', b⟩ := q
          obtain ⟨rfl, _⟩ := f2
          obtain ⟨l1, l2⟩ := mod_tr (i := 0) (j := j) g2 g3 k3' x3'
          have := x2.putOb (i := i) (o := .map (modU j (fun e => (ku, v, e.2.2)) es) clock) (ob := .map (modME j (fun e => { e with key := vk, val := vx }) es') clock) (by omega) (by rw [hi]; intro hh; cases hh) ⟨_, rfl, l1, l2⟩
          exact ⟨Z3, ω3, .tup [], _, by simp only [HOp.er, evH, m1, k1, x1, g1, hpk, cond_true, f1], this.setFl _, hunit, by simp [hlen], fun b r hb => x5 b r (k5 b r (m5 b r hb))⟩
      · rename_i hf
        simp only [Option.some.injEq, Prod.mk.injEq] at h
        obtain ⟨rfl, rfl⟩ := h
        obtain ⟨r', f1, f2⟩ := find_tr (TR.of_ur (ω := ω3) k3') g2 g3 hf
        cases r' with
        | some q => exact f2.elim
        | none =>
          have := x2.putOb (i := i) (o := .map (es ++ [(ku, v, clock)]) (clock + 1)) (ob := .map (es' ++ [{ key := vk, val := vx, born := clock }]) (clock + 1)) (by omega) (by rw [hi]; intro hh; cases hh) ⟨_, rfl, by simp [g2], fun j x y hx hy => by
            by_cases hj : j < es.length
            · rw [List.getElem?_append_left hj] at hx
              rw [List.getElem?_append_left (by omega)] at hy
              exact g3 j x y hx hy
            · rw [List.getElem?_append_right (by omega)] at hx hy
              rw [← g2] at hy
              cases hq : j - es.length with
              | zero => rw [hq] at hx hy; simp at hx hy; subst hx; subst hy; exact ⟨k3', x3', rfl⟩
              | succ m => rw [hq] at hx; simp at hx⟩
          exact ⟨Z3, ω3, .tup [], _, by simp only [HOp.er, evH, m1, k1, x1, g1, hpk, cond_true, f1], this.setFl _, hunit, by simp [hlen], fun b r hb => x5 b r (k5 b r (m5 b r hb))⟩
  | delete kk m k =>
    simp only [opH] at h
    split at h
    · rename_i ku hm hkk
      cases hp : plainKeyU kk ku with
      | false => rw [hp] at h; simp at h
      | true =>
        rw [hp] at h
        simp only [cond_true, Option.some.injEq, Prod.mk.injEq] at h
        obtain ⟨rfl, rfl⟩ := h
        obtain ⟨vm, m1, m2⟩ := hk.opd hm
        obtain ⟨vk, k1, k2⟩ := hk.opd hkk
        obtain rfl := TR.nilm m2
        exact ⟨Z, ω, .tup [], st, by simp only [HOp.er, evH, m1, k1, plainKey_tr k2 hp, cond_true], hk, hunit, rfl, fun _ _ h => h⟩
    · rename_i i ku hm hkk
      split at h <;> try (simp at h; done)
      rename_i es clock hi
      cases hp : plainKeyU kk ku with
      | false => rw [hp] at h; simp at h
      | true =>
        rw [hp] at h
        simp only [cond_true] at h
        obtain ⟨vm, m1, m2⟩ := hk.opd hm
        obtain ⟨vk, k1, k2⟩ := hk.opd hkk
        obtain ⟨hlt, rfl⟩ := TR.map m2
        obtain ⟨es', g1, g2, g3⟩ := map_get hk hi
        have hpk := plainKey_tr k2 hp
        split at h <;> try (simp at h; done)
        · rename_i j uo hf
          simp only [Option.some.injEq, Prod.mk.injEq] at h
          obtain ⟨rfl, rfl⟩ := h
          obtain ⟨r', f1, f2⟩ := find_tr k2 g2 g3 hf
          cases r' with
          | none => exact f2.elim
          | some q =>
            obtain ⟨j', b⟩ := q
            obtain ⟨rfl, _⟩ := f2
            obtain ⟨l1, l2⟩ := erase_tr (j := j) g2 g3
            have := hk.putOb (i := i) (o := .map (eraseU j es) clock) (ob := .map (eraseME j es') clock) hlt (by rw [hi]; intro hh; cases hh) ⟨_, rfl, l1, l2⟩
            exact ⟨Z, ω, .tup [], _, by simp only [HOp.er, evH, m1, k1, g1, hpk, cond_true, f1], this, hunit, by simp, fun _ _ h => h⟩
        · rename_i hf
          simp only [Option.some.injEq, Prod.mk.injEq] at h
          obtain ⟨rfl, rfl⟩ := h
          obtain ⟨r', f1, f2⟩ := find_tr k2 g2 g3 hf
          cases r' with
          | some q => exact f2.elim
          | none => exact ⟨Z, ω, .tup [], st, by simp only [HOp.er, evH, m1, k1, g1, hpk, cond_true, f1], hk, hunit, rfl, fun _ _ h => h⟩
    · simp at h
  | append w bytes str a x =>
    simp only [opH] at h
    split at h <;> try (simp at h; done)
    rename_i ua ux ha hx
    split at h <;> try (simp at h; done)
    rename_i ys hys
    obtain ⟨va, a1, a2⟩ := hk.opd ha
    obtain ⟨vx, x1, x2⟩ := hk.opd hx
    split at h
    · rename_i g w' xs
      cases hb : (Nat.beq w' w && Nat.ble ((xs.length + ys.length) * bytes) big && Nat.ble (xs.length + ys.length) big && ys.all (fun r => r.all U.cellok && U.lows 0 r && Nat.beq r.length w)) with
      | false => rw [hb] at h; simp at h
      | true =>
        rw [hb] at h
        simp only [cond_true, Option.some.injEq, Prod.mk.injEq] at h
        obtain ⟨rfl, rfl⟩ := h
        simp only [Bool.and_eq_true] at hb
        have hww : w' = w := Nat.eq_of_beq_eq_true hb.1.1.1
        subst hww
        obtain ⟨ω', v, st', k1, k2, k3⟩ := append_sound' (d := d) hk a2.1 x2 hys hb.1.1.2 hb.1.2 hb.2
        exact ⟨Z, ω', v, st', by simp only [HOp.er, evH, a1, x1]; exact k1, k2, ⟨k3, fun i off hh => by cases hh⟩, by rw [kill_len, kill_len], fun _ _ h => h⟩
    · rename_i w'
      cases hb : (Nat.beq w' w && Nat.ble (ys.length * bytes) big && Nat.ble ys.length big && ys.all (fun r => r.all U.cellok && U.lows 0 r && Nat.beq r.length w)) with
      | false => rw [hb] at h; simp at h
      | true =>
        rw [hb] at h
        simp only [cond_true, Option.some.injEq, Prod.mk.injEq] at h
        obtain ⟨rfl, rfl⟩ := h
        simp only [Bool.and_eq_true] at hb
        have hww : w' = w := Nat.eq_of_beq_eq_true hb.1.1.1
        subst hww
        have hor : OR σ Z ω .r w' [] va := by
          have a3 : UR σ Z s.h.length (.nl w') va := a2
          unfold OR; rw [hk.wr]
          cases a3 with
          | nl1 => exact ⟨rfl, .inl rfl⟩
          | nl2 => exact ⟨rfl, .inr rfl⟩
        obtain ⟨ω', v, st', k1, k2, k3⟩ := append_sound' (d := d) hk hor x2 hys (by simpa using hb.1.1.2) (by simpa using hb.1.2) hb.2
        exact ⟨Z, ω', v, st', by simp only [HOp.er, evH, a1, x1]; exact k1, k2, ⟨by simpa using k3, fun i off hh => by cases hh⟩, by rw [kill_len, kill_len], fun _ _ h => h⟩
    · rename_i w' xs
      cases hb : (Nat.beq w' w && ys.isEmpty && Nat.ble (xs.length * bytes) big && Nat.ble xs.length big) with
      | false => rw [hb] at h; simp at h
      | true =>
        rw [hb] at h
        simp only [cond_true, Option.some.injEq, Prod.mk.injEq] at h
        obtain ⟨rfl, rfl⟩ := h
        simp only [Bool.and_eq_true] at hb
        have hww : w' = w := Nat.eq_of_beq_eq_true hb.1.1.1
        subst hww
        have hy0 : ys = [] := by cases ys with | nil => rfl | cons a r => simp at hb
        subst hy0
        obtain ⟨cs, c1, c2, c3, c4⟩ := src_tr hk hys x2
        rw [List.flatten_nil] at c2
        have hcs := c2.inv_nil
        subst hcs
        have hap : appendV st w' bytes str va vx = some (va, st) := by
          unfold appendV
          rw [c1, c3]
          have a3 : UR σ Z s.h.length (.sl w' xs) va := a2
          cases a3 with
          | slnil => simp
          | slz => simp
          | slZ hn hz hl hcap hr hv =>
            subst hn
            simp [hb.1.2, hb.2, Nat.ble_eq_true_of_le hcap]
          | slC hn hl hr hv => simp
        exact ⟨Z, ω, va, st, by simp only [HOp.er, evH, a1, x1]; exact hap, hk, a2, rfl, fun _ _ h => h⟩
    · simp at h
  | copy w str a x =>
    simp only [opH] at h
    split at h <;> try (simp at h; done)
    rename_i g w' xs ux ha hx
    split at h <;> try (simp at h; done)
    rename_i ys hys
    cases hb : (Nat.beq w' w && (s.ownC g).isSome && ys.all (fun r => r.all U.cellok && U.lows 0 r && Nat.beq r.length w)) with
    | false => rw [hb] at h; simp at h
    | true =>
      rw [hb] at h
      simp only [cond_true, Option.some.injEq, Prod.mk.injEq] at h
      obtain ⟨rfl, rfl⟩ := h
      simp only [Bool.and_eq_true] at hb
      have hww : w' = w := Nat.eq_of_beq_eq_true hb.1.1
      subst hww
      obtain ⟨va, a1, a2, a3⟩ := hk.opd ha
      obtain ⟨vx, x1, x2⟩ := hk.opd hx
      obtain ⟨cs, c1, c2, c3, c4⟩ := src_tr hk hys x2
      obtain ⟨f1, f2, f3⟩ := flat_all hb.2
      have hone := ones_ok c2 f1
      have hlu0 := c2.low f2
      obtain ⟨p0, hp0⟩ := Option.isSome_iff_exists.1 hb.1.2
      unfold OR at a2
      split at a2
      · rename_i hg
        obtain ⟨rfl, hv⟩ := a2
        have hupd : s.upd g w' (List.take 0 ys ++ List.drop ys.length []) = s.upd g w' [] := by simp
        -- nothing turns
        obtain ⟨vo, hor⟩ := ownC_or hk (g := g) (w := p0.1) (xs := p0.2) hp0
        have hx0 : p0.2 = [] := by unfold OR at hor; rw [hg] at hor; exact hor.1
        have hOk : Ok E σ Z ω (s.upd g w' []) e st ∧ (s.upd g w' []).h.length = s.h.length := by
          have henv : ∀ t u, look (Env.upd g [] s.e) t = some u → ∃ v, e.get t = some v ∧ TR σ Z ω s.h.length u v := by
            intro t u hu
            rw [look_upd] at hu
            cases hq : look s.e t with
            | none => rw [hq] at hu; simp at hu
            | some x =>
              rw [hq] at hu; simp at hu
              obtain ⟨v, h1, h2⟩ := hk.env t x hq
              refine ⟨v, h1, ?_⟩
              subst hu
              cases x with
              | own g' w2 xs2 =>
                simp only [U.upd]
                by_cases hgg : g' = g
                · subst hgg
                  rw [if_pos rfl]
                  refine ⟨?_, h2.2⟩
                  have h3 := h2.1
                  unfold OR at h3 ⊢
                  rw [hg] at h3 ⊢
                  exact ⟨rfl, h3.2⟩
                · rw [if_neg hgg]; exact h2
              | _ => exact h2
          unfold Vs.upd
          split
          · rename_i i off
            simp only [Vs.ownC] at hp0
            split at hp0 <;> try (simp at hp0; done)
            rename_i cs' hi
            split at hp0 <;> try (simp at hp0; done)
            rename_i w0 xs0 hc0
            have hlt := (List.getElem?_eq_some_iff.1 hi).1
            have hoff := (List.getElem?_eq_some_iff.1 hc0).1
            simp only [setCell, hi]
            refine ⟨(hk.setEnv henv).setRow (cs := cs') hi (by simp) fun o u u' v h1 h2 h3 => ?_, by simp⟩
            rw [List.getElem?_set] at h2
            by_cases ho : off = o
            · subst ho
              rw [if_pos rfl, if_pos hoff] at h2
              simp at h2; subst h2
              rw [hc0] at h1; simp at h1; subst h1
              have h4 : OR σ Z ω (.c i off) w0 xs0 v := h3
              show OR σ Z ω (.c i off) w' [] v
              unfold OR at h4 ⊢
              rw [hg] at h4 ⊢
              exact ⟨rfl, h4.2⟩
            · rw [if_neg ho, h1] at h2; simp at h2; subst h2; exact h3
          · exact ⟨hk.setEnv henv, rfl⟩
        have hcp : copyV st w' str va vx = some (.int .i64 0, st) := by
          unfold copyV
          rw [c1, c3]
          rcases hv with rfl | rfl <;> rfl
        refine ⟨Z, ω, .int .i64 0, st, by simp only [HOp.er, evH, a1, x1]; exact hcp, by simpa using hOk.1, ?_, by simpa using hOk.2, fun _ _ h => h⟩
        have : ((min ys.length ([] : List (List U)).length : Nat) : Int) = 0 := by simp
        rw [this]; exact TR.of_ur (.int _ _)
      · rename_i I hg
        obtain ⟨rfl, ⟨rfl, rfl⟩, e1, e2, e3, e4⟩ := a2
        have hIr := hk.wok g I hg
        have hcl : cs.length = ys.length * I.w := by rw [← c2.1, flat_len c4]
        have hcapw : I.xs.length * I.w ≤ I.cap * I.w := Nat.mul_le_mul_right _ e1
        have hmin : min ys.length I.xs.length * I.w ≤ I.xs.length * I.w := Nat.mul_le_mul_right _ (Nat.min_le_right _ _)
        have hmin2 : min ys.length I.xs.length * I.w ≤ ys.length * I.w := Nat.mul_le_mul_right _ (Nat.min_le_left _ _)
        have htl : (cs.take (min ys.length I.xs.length * I.w)).length = min ys.length I.xs.length * I.w := by rw [List.length_take]; omega
        have hwr := write_of hIr (off := I.off) (vs := cs.take (min ys.length I.xs.length * I.w)) (by rw [htl]; omega) (by
          rw [List.all_eq_true] at hone ⊢; exact fun v hv => hone v (List.mem_of_mem_take hv))
        have hfl : (ys.take I.xs.length ++ I.xs.drop ys.length).flatten = splU I.xs.flatten 0 (ys.flatten.take (min ys.length I.xs.length * I.w)) := by
          unfold splU
          rw [List.flatten_append, flat_take c4, flat_drop e3, List.take_zero, List.nil_append, List.length_take, flat_len c4]
          rw [Nat.zero_add, Nat.min_eq_left hmin2]
          rcases Nat.le_total ys.length I.xs.length with hle | hle
          · rw [Nat.min_eq_left hle, List.take_of_length_le (by rw [flat_len c4]; exact Nat.mul_le_mul_right _ hle), List.take_of_length_le (by rw [flat_len c4]; exact Nat.le_refl _)]
          · rw [Nat.min_eq_right hle, List.drop_of_length_le (by rw [flat_len e3]; exact Nat.mul_le_mul_right _ hle), List.drop_of_length_le (by rw [flat_len e3]; exact Nat.le_refl _)]
        have hup := hk.updOwn hp0 hg (ys := ys.take I.xs.length ++ I.xs.drop ys.length) (row' := spl I.row I.off (cs.take (min ys.length I.xs.length * I.w))) (by simp; omega) (by simp only [spl, List.length_append, List.length_take, List.length_drop] at htl ⊢; omega) (fun r hr => by
          rcases List.mem_append.1 hr with hr | hr
          · exact c4 r (List.mem_of_mem_take hr)
          · exact e3 r (List.mem_of_mem_drop hr)) (by
          have hll : (ys.take I.xs.length ++ I.xs.drop ys.length).length = I.xs.length := by simp; omega
          rw [hll, hfl]
          have := window_spl (row := I.row) (vs := cs.take (min ys.length I.xs.length * I.w)) (off := I.off) (p := 0) (L := I.xs.length * I.w) (by rw [htl]; omega) (by omega)
          rw [Nat.add_zero] at this
          rw [this]
          exact spl_lu e4 (hlu0.take _))
        have hcp : copyV st I.w str (.slice I.b I.off I.xs.length I.cap I.w I.ex) vx = some (.int .i64 (min ys.length I.xs.length : Nat), st.put I.b (.row (spl I.row I.off (cs.take (min ys.length I.xs.length * I.w))))) := by
          unfold copyV
          rw [c1, c3]
          simp only [Nat.beq_refl, cond_true, hwr]
        refine ⟨Z, _, _, _, by simp only [HOp.er, evH, a1, x1]; exact hcp, hup, TR.of_ur (.int _ _), ?_, fun _ _ h => h⟩
        unfold Vs.upd
        split
        · simp only; unfold setCell; split <;> simp
        · rfl
  | clear w z x => simp [opH] at h
  | range x => simp [opH] at h
end
end Go.RE
namespace Go.RE
def entLow (m : Nat) (x : U × U × Nat) : Bool := x.1.low m && x.2.1.low m
def Uo.low (m : Nat) : Uo → Bool
  | .row cs => U.lows m cs
  | .map es _ => es.all (entLow m)
  | .iter (some j) _ _ _ => Nat.blt j m
  | .iter none _ _ _ => true
  | .gone => true
structure Fl (s : Vs) : Prop where
  le : s.fl ≤ s.h.length
  ob : ∀ (i : Nat) o, s.h[i]? = some o → o.low (max (i + 1) s.fl) = true
theorem lows_all {m : Nat} : ∀ {us : List U}, U.lows m us = true ↔ ∀ u ∈ us, u.low m = true := by
  intro us
  induction us with
  | nil => simp [U.lows]
  | cons a r ih => simp [U.lows, ih]
mutual
theorem low_up {m k : Nat} (hm : m ≤ k) : ∀ {u : U}, u.low m = true → u.low k = true
  | .ptr i _, h => by simp only [U.low, Nat.blt, Nat.ble_eq] at h ⊢; omega
  | .map i, h => by simp only [U.low, Nat.blt, Nat.ble_eq] at h ⊢; omega
  | .asl i _ _ _, h => by simp only [U.low, Nat.blt, Nat.ble_eq] at h ⊢; omega
  | .own (.c i _) _ _, h => by simp only [U.low, Nat.blt, Nat.ble_eq] at h ⊢; omega
  | .optr (.c i _) _ _, h => by simp only [U.low, Nat.blt, Nat.ble_eq] at h ⊢; omega
  | .func _ a b, h => by simp only [U.low, Bool.and_eq_true] at h ⊢; exact ⟨lows_up hm h.1, lows_up hm h.2⟩
  | .iface _ v, h => by simp only [U.low] at h ⊢; exact low_up hm h
  | .agg a, h => by simp only [U.low] at h ⊢; exact lows_up hm h
  | .tup a, h => by simp only [U.low] at h ⊢; exact lows_up hm h
  | .bad, _ => rfl
  | .bool _, _ => rfl
  | .int _ _, _ => rfl
  | .str _, _ => rfl
  | .nilp, _ => rfl
  | .nils, _ => rfl
  | .nilm, _ => rfl
  | .nilf, _ => rfl
  | .nili, _ => rfl
  | .cptr _ _, _ => rfl
  | .sl _ _, _ => rfl
  | .nl _, _ => rfl
  | .own (.t _) _ _, _ => rfl
  | .own .r _ _, _ => rfl
  | .optr (.t _) _ _, _ => rfl
  | .optr .r _ _, _ => rfl
  | .cown _ _, _ => rfl
theorem lows_up {m k : Nat} (hm : m ≤ k) : ∀ {us : List U}, U.lows m us = true → U.lows k us = true
  | [], _ => rfl
  | u :: us, h => by simp only [U.lows, Bool.and_eq_true] at h ⊢; exact ⟨low_up hm h.1, lows_up hm h.2⟩
end
mutual
theorem low_shift {m k : Nat} : ∀ {u : U}, u.low m = true → (u.shift k).low (m + k) = true
  | .ptr i _, h => by simp only [U.shift, U.low, Nat.blt, Nat.ble_eq] at h ⊢; omega
  | .map i, h => by simp only [U.shift, U.low, Nat.blt, Nat.ble_eq] at h ⊢; omega
  | .asl i _ _ _, h => by simp only [U.shift, U.low, Nat.blt, Nat.ble_eq] at h ⊢; omega
  | .own (.c i _) _ _, h => by simp only [U.shift, U.low, Nat.blt, Nat.ble_eq] at h ⊢; omega
  | .optr (.c i _) _ _, h => by simp only [U.shift, U.low, Nat.blt, Nat.ble_eq] at h ⊢; omega
  | .func _ a b, h => by simp only [U.shift, U.low, Bool.and_eq_true] at h ⊢; exact ⟨lows_shift h.1, lows_shift h.2⟩
  | .iface _ v, h => by simp only [U.shift, U.low] at h ⊢; exact low_shift h
  | .agg a, h => by simp only [U.shift, U.low] at h ⊢; exact lows_shift h
  | .tup a, h => by simp only [U.shift, U.low] at h ⊢; exact lows_shift h
  | .bad, _ => rfl
  | .bool _, _ => rfl
  | .int _ _, _ => rfl
  | .str _, _ => rfl
  | .nilp, _ => rfl
  | .nils, _ => rfl
  | .nilm, _ => rfl
  | .nilf, _ => rfl
  | .nili, _ => rfl
  | .cptr _ _, _ => rfl
  | .sl _ _, _ => rfl
  | .nl _, _ => rfl
  | .own (.t _) _ _, _ => rfl
  | .own .r _ _, _ => rfl
  | .optr (.t _) _ _, _ => rfl
  | .optr .r _ _, _ => rfl
  | .cown _ _, _ => rfl
theorem lows_shift {m k : Nat} : ∀ {us : List U}, U.lows m us = true → U.lows (m + k) (U.shifts k us) = true
  | [], _ => rfl
  | u :: us, h => by simp only [U.shifts, U.lows, Bool.and_eq_true] at h ⊢; exact ⟨low_shift h.1, lows_shift h.2⟩
end
theorem Uo.low_up {m k : Nat} (hm : m ≤ k) {o : Uo} (h : o.low m = true) : o.low k = true := by
  cases o with
  | row cs => exact lows_up hm h
  | map es c =>
    simp only [Uo.low, List.all_eq_true, entLow, Bool.and_eq_true] at h ⊢
    exact fun x hx => ⟨RE.low_up hm (h x hx).1, RE.low_up hm (h x hx).2⟩
  | iter q a b c =>
    cases q with
    | none => rfl
    | some j => simp only [Uo.low, Nat.blt, Nat.ble_eq] at h ⊢; omega
  | gone => rfl
theorem Uo.low_shift {m k : Nat} {o : Uo} (h : o.low m = true) : (shiftO k o).low (m + k) = true := by
  cases o with
  | row cs => exact lows_shift h
  | map es c =>
    simp only [Uo.low, shiftO, List.all_eq_true, entLow, Bool.and_eq_true, List.mem_map] at h ⊢
    rintro x ⟨y, hy, rfl⟩
    exact ⟨RE.low_shift (h y hy).1, RE.low_shift (h y hy).2⟩
  | iter q a b c =>
    cases q with
    | none => rfl
    | some j => simp only [shiftO, Option.map_some, Uo.low, Nat.blt, Nat.ble_eq] at h ⊢; omega
  | gone => rfl
section
variable {E : Ent} {σ : Sg} {Z : Zs} {ω : Om} {s s' : Vs} {e : PT V} {st : St} {n : Nat}
theorem lows_of {a : List U} {b : List V} (hab : a.length = b.length) (hh : ∀ (j : Nat) u v, a[j]? = some u → b[j]? = some v → u.low n = true) : U.lows n a = true := by
  rw [lows_all]
  intro u hu
  obtain ⟨j, hj, rfl⟩ := List.mem_iff_getElem.1 hu
  exact hh j _ _ (List.getElem?_eq_getElem hj) (List.getElem?_eq_getElem (by omega))
theorem UR.lowOf {u : U} {v : V} (h : UR σ Z n u v) : u.low n = true := by
  induction h with
  | ptr h => simp only [U.low, Nat.blt, Nat.ble_eq]; omega
  | map h => simp only [U.low, Nat.blt, Nat.ble_eq]; omega
  | func h1 _ h2 _ ih1 ih2 => simp only [U.low, Bool.and_eq_true]; exact ⟨lows_of ‹_› ih1, lows_of ‹_› ih2⟩
  | iface _ ih => exact ih
  | agg h _ ih => exact lows_of h ih
  | tup h _ ih => exact lows_of h ih
  | _ => rfl
theorem TR.lowOf {u : U} {v : V} (h : TR σ Z ω n u v) : u.low n = true := by
  cases u with
  | bad => rfl
  | cown _ _ => rfl
  | own g w xs =>
    cases g with
    | c i o => have := h.2 i o rfl; simp only [U.low, Nat.blt, Nat.ble_eq]; omega
    | t d => rfl
    | r => rfl
  | optr g i f =>
    cases g with
    | c i o => have := h.2 i o rfl; simp only [U.low, Nat.blt, Nat.ble_eq]; omega
    | t d => rfl
    | r => rfl
  | asl i off len w => have := h.1; simp only [U.low, Nat.blt, Nat.ble_eq]; omega
  | _ => exact UR.lowOf h
theorem CR.lowOf {i off : Nat} {u : U} {v : V} (h : CR σ Z ω n i off u v) : u.low n = true := by
  cases u with
  | bad => rfl
  | cown _ _ => rfl
  | _ => exact UR.lowOf h
theorem LU.lowOf {us : List U} {vs : List V} (h : LU σ Z n us vs) : U.lows n us = true := by
  rw [lows_all]
  intro u hu
  obtain ⟨j, hj, rfl⟩ := List.mem_iff_getElem.1 hu
  exact (h.2 j _ _ (List.getElem?_eq_getElem hj) (List.getElem?_eq_getElem (by have := h.1; omega))).lowOf
theorem Ok.lowOb (h : Ok E σ Z ω s e st) {i : Nat} {o : Uo} (ho : s.h[i]? = some o) : o.low s.h.length = true := by
  have h1 := h.obj i o ho
  cases o with
  | row cs =>
    obtain ⟨cs', q1, q2, q3⟩ := h1
    simp only [Uo.low]
    rw [lows_all]
    intro u hu
    obtain ⟨j, hj, rfl⟩ := List.mem_iff_getElem.1 hu
    exact (q3 j _ _ (List.getElem?_eq_getElem hj) (List.getElem?_eq_getElem (by omega))).lowOf
  | map es c =>
    obtain ⟨es', q1, q2, q3⟩ := h1
    simp only [Uo.low, List.all_eq_true, entLow, Bool.and_eq_true]
    intro u hu
    obtain ⟨j, hj, rfl⟩ := List.mem_iff_getElem.1 hu
    have := q3 j _ _ (List.getElem?_eq_getElem hj) (List.getElem?_eq_getElem (by omega))
    exact ⟨this.1.lowOf, this.2.1.lowOf⟩
  | iter q a b c =>
    cases q with
    | none => rfl
    | some j => simp only [Uo.low, Nat.blt, Nat.ble_eq]; exact h1.2 j rfl
  | gone => rfl
theorem Fl.env (h : Fl s) (E' : Env) : Fl { s with e := E' } := ⟨h.le, h.ob⟩
theorem Fl.set (h : Fl s) {i : Nat} {o : Uo} (ho : o.low (max (i + 1) s.fl) = true) (E' : Env) : Fl { s with e := E', h := s.h.set i o } := by
  refine ⟨by simpa using h.le, fun j x hx => ?_⟩
  simp only at hx
  rw [List.getElem?_set] at hx
  by_cases hj : i = j
  · subst hj
    rw [if_pos rfl] at hx
    split at hx <;> simp at hx
    subst hx; exact ho
  · rw [if_neg hj] at hx; exact h.ob j x hx
theorem Fl.push (h : Fl s) {o : Uo} (ho : o.low (s.h.length + 1) = true) (E' : Env) : Fl { s with e := E', h := s.h ++ [o] } := by
  refine ⟨by have := h.le; simp; omega, fun j x hx => ?_⟩
  simp only at hx
  rcases Nat.lt_or_ge j s.h.length with hj | hj
  · rw [List.getElem?_append_left hj] at hx; exact h.ob j x hx
  · rw [List.getElem?_append_right hj] at hx
    have : j = s.h.length := by
      have := (List.getElem?_eq_some_iff.1 hx).1
      simp at this; omega
    subst this
    simp at hx; subst hx
    exact Uo.low_up (Nat.le_max_left _ _) ho
theorem Fl.raise (h : Fl s) {E' : Env} {H : List Uo} (hl : H.length = s.h.length) (hH : ∀ (i : Nat) o, H[i]? = some o → o.low s.h.length = true) : Fl { e := E', h := H, fl := s.h.length } :=
  ⟨by simp [hl], fun i o ho => Uo.low_up (Nat.le_max_right _ _) (hH i o ho)⟩
theorem lows_set {m off : Nat} {cs : List U} {v : U} (h : U.lows m cs = true) (hv : v.low m = true) : U.lows m (cs.set off v) = true := by
  rw [lows_all] at h ⊢
  intro u hu
  rcases List.mem_or_eq_of_mem_set hu with hu | rfl
  · exact h u hu
  · exact hv
theorem lows_spl {m off : Nat} {cs vs : List U} (h : U.lows m cs = true) (hv : U.lows m vs = true) : U.lows m (splU cs off vs) = true := by
  rw [lows_all] at h hv ⊢
  intro u hu
  unfold splU at hu
  simp only [List.mem_append] at hu
  rcases hu with (hu | hu) | hu
  · exact h u (List.mem_of_mem_take hu)
  · exact hv u hu
  · exact h u (List.mem_of_mem_drop hu)
theorem Fl.setCell (h : Fl s) {i off : Nat} {v : U} (hv : ∀ m, v.low m = true) (E' : Env) : Fl { s with e := E', h := setCell s.h i off v } := by
  unfold RE.setCell
  split
  · rename_i cs hi
    exact h.set (o := .row (cs.set off v)) (lows_set (h.ob i _ hi) (hv _)) E'
  · exact h.env E'
theorem Fl.kill (h : Fl s) (g : Tg) : Fl (s.kill g) := by
  unfold Vs.kill
  split
  · exact h.setCell (fun _ => rfl) _
  · exact h.env _
theorem Fl.frz (h : Fl s) (g : Tg) : Fl (s.frz g) := by
  unfold Vs.frz
  split
  · split
    · split
      · rename_i i off _ cs hi _ w xs hc
        exact h.set (o := .row (cs.set off (.sl w xs))) (lows_set (h.ob _ _ hi) rfl) _
      · exact h.env _
    · exact h.env _
  · exact h.env _
theorem Fl.upd (h : Fl s) (g : Tg) (w : Nat) (ys : List (List U)) : Fl (s.upd g w ys) := by
  unfold Vs.upd
  split
  · exact h.setCell (fun _ => rfl) _
  · exact h.env _
theorem Fl.esc (h : Fl s) {u u' : U} (he : esc u s = some (u', s')) : Fl s' := by
  unfold RE.esc at he
  split at he <;> simp only [Option.some.injEq, Prod.mk.injEq, reduceCtorEq] at he
  · obtain ⟨_, rfl⟩ := he; exact h.frz _
  · obtain ⟨_, rfl⟩ := he; exact h
theorem Fl.escO (h : Fl s) {x : Opd} {u' : U} (he : escO x s = some (u', s')) : Fl s' := by
  unfold RE.escO at he
  split at he
  · exact h.esc he
  · simp at he
theorem Fl.escOs : ∀ {xs : List Opd} {s s' : Vs} {us : List U}, Fl s → escOs xs s = some (us, s') → Fl s' := by
  intro xs
  induction xs with
  | nil => intro s s' us h he; simp [RE.escOs] at he; obtain ⟨_, rfl⟩ := he; exact h
  | cons x xs ih =>
    intro s s' us h he
    simp only [RE.escOs] at he
    split at he
    · rename_i v s1 h1
      split at he <;> simp only [Option.some.injEq, Prod.mk.injEq, reduceCtorEq] at he
      rename_i vs s2 h2
      obtain ⟨_, rfl⟩ := he
      exact ih (h.escO h1) h2
    · simp at he
theorem Fl.fill : ∀ {parts : List (Nat × Nat × Opd)} {s s' : Vs} {us cs : List U}, Fl s → fillU parts us s = some (cs, s') → Fl s' := by
  intro parts
  induction parts with
  | nil => intro s s' us cs h he; simp [fillU] at he; obtain ⟨_, rfl⟩ := he; exact h
  | cons p parts ih =>
    intro s s' us cs h he
    obtain ⟨off, size, x⟩ := p
    simp only [fillU] at he
    split at he
    · rename_i v s1 h1
      cases hb : (Nat.beq v.cells.length size && Nat.ble (off + v.cells.length) us.length) with
      | false => rw [hb] at he; simp at he
      | true => rw [hb] at he; exact ih (h.escO h1) he
    · simp at he
end
end Go.RE
namespace Go.RE
section
variable {E : Ent} {σ : Sg} {Z : Zs} {ω : Om} {s s' : Vs} {e : PT V} {st : St} {n : Nat}
theorem bif_some {α : Type} {b : Bool} {x : Option α} {y : α} (h : (bif b then x else none) = some y) : b = true ∧ x = some y := by
  cases b with
  | true => exact ⟨rfl, h⟩
  | false => simp at h
theorem sliceU_fl {d w : Nat} {lo hi mx : Option Opd} {v u : U} (h : sliceU d w lo hi mx v s = some (u, s')) (hf : Fl s) : Fl s' := by
  unfold sliceU at h
  split at h
  · obtain ⟨_, h⟩ := bif_some h
    split at h <;> try (simp at h; done)
    split at h <;> try (simp at h; done)
    split at h
    · simp at h; obtain ⟨_, rfl⟩ := h; exact hf
    · split at h <;> try (simp at h; done)
      obtain ⟨_, h⟩ := bif_some h
      rename_i m _ _ _
      cases hm : Nat.beq m 0 with
      | true => rw [hm] at h; simp at h; obtain ⟨_, rfl⟩ := h; exact hf.kill _
      | false => rw [hm] at h; simp at h; obtain ⟨_, rfl⟩ := h; exact hf
  · obtain ⟨_, h⟩ := bif_some h
    split at h
    · split at h <;> try (simp at h; done)
      split at h <;> try (simp at h; done)
      simp at h; obtain ⟨_, rfl⟩ := h; exact (hf.kill _).kill _
    · split at h <;> try (simp at h; done)
      simp at h; obtain ⟨_, rfl⟩ := h; exact hf.kill _
  · simp at h
theorem opS_fl {d : Nat} {o : SOp} {u : U} (h : opS d s o = some (u, s')) (hf : Fl s) : Fl s' := by
  cases o with
  | mkIface t x =>
    simp only [opS] at h
    split at h <;> simp only [Option.some.injEq, Prod.mk.injEq, reduceCtorEq] at h
    rename_i v s1 h1
    obtain ⟨_, rfl⟩ := h; exact hf.escO h1
  | mkFunc f a b =>
    simp only [opS] at h
    split at h <;> try (simp at h; done)
    rename_i v s1 h1
    split at h <;> simp only [Option.some.injEq, Prod.mk.injEq, reduceCtorEq] at h
    rename_i v2 s2 h2
    obtain ⟨_, rfl⟩ := h; exact (hf.escOs h1).escOs h2
  | build z parts =>
    simp only [opS] at h
    obtain ⟨_, h⟩ := bif_some h
    split at h <;> simp only [Option.some.injEq, Prod.mk.injEq, reduceCtorEq] at h
    rename_i v s1 h1
    obtain ⟨_, rfl⟩ := h; exact hf.fill h1
  | slice w x lo hi mx =>
    simp only [opS] at h
    split at h <;> try (simp at h; done)
    exact sliceU_fl h hf
  | mov x =>
    simp only [opS] at h
    split at h <;> simp only [Option.some.injEq, Prod.mk.injEq, reduceCtorEq] at h
    · obtain ⟨_, rfl⟩ := h; exact hf.kill _
    · obtain ⟨_, rfl⟩ := h; exact hf
  | sliceArr n w x lo hi =>
    simp only [opS] at h
    split at h <;> try (simp at h; done)
    split at h <;> try (simp at h; done)
    split at h <;> try (simp at h; done)
    split at h <;> try (simp at h; done)
    obtain ⟨_, h⟩ := bif_some h
    simp only [Option.some.injEq, Prod.mk.injEq] at h
    obtain ⟨_, rfl⟩ := h; exact hf
  | cap x => simp [opS] at h
  | entry x =>
    simp only [opS] at h
    split at h <;> try (simp at h; done)
    split at h <;> simp only [Option.some.injEq, Prod.mk.injEq, reduceCtorEq] at h
    obtain ⟨_, rfl⟩ := h; exact hf
  | indexAddr w x i =>
    simp only [opS] at h
    split at h <;> try (simp at h; done)
    · split at h <;> try (simp at h; done)
      split at h <;> try (simp at h; done)
      obtain ⟨_, h⟩ := bif_some h
      simp only [Option.some.injEq, Prod.mk.injEq] at h
      obtain ⟨_, rfl⟩ := h; exact hf
    · split at h <;> try (simp at h; done)
      obtain ⟨_, h⟩ := bif_some h
      simp only [Option.some.injEq, Prod.mk.injEq] at h
      obtain ⟨_, rfl⟩ := h; exact hf
    · split at h <;> try (simp at h; done)
      obtain ⟨_, h⟩ := bif_some h
      simp only [Option.some.injEq, Prod.mk.injEq] at h
      obtain ⟨_, rfl⟩ := h; exact hf
  | _ =>
    simp only [opS] at h
    repeat' (first | (split at h) | (simp only [Option.some.injEq, Prod.mk.injEq, reduceCtorEq] at h))
    all_goals (obtain ⟨_, rfl⟩ := h; exact hf)
theorem const_low (v : V) (h : v.toU.cellok = true) (m : Nat) : v.toU.low m = true := by
  have h1 : UR (fun _ => 0) (fun _ => none) 0 v.toU v.er := const_ur v (fun hh => by rw [hh] at h; simp [U.cellok] at h) (fun g w xs hh => by rw [hh] at h; simp [U.cellok] at h) (fun w xs hh => by rw [hh] at h; simp [U.cellok] at h)
  exact low_up (Nat.zero_le _) h1.lowOf
theorem consts_low : ∀ (vs : List V), (V.toUs vs).all (fun u => u.cellok || u.isCown) = true → ∀ m, U.lows m (V.toUs vs) = true
  | [], _, _ => rfl
  | v :: vs, h, m => by
    simp only [V.toUs, List.all_cons, Bool.and_eq_true, Bool.or_eq_true] at h
    simp only [V.toUs, U.lows, Bool.and_eq_true]
    refine ⟨?_, consts_low vs h.2 m⟩
    rcases h.1 with hh | hh
    · exact const_low v hh m
    · cases hv : v.toU <;> rw [hv] at hh <;> simp [U.isCown] at hh
      rfl
theorem cells_low {m : Nat} {u : U} (h : u.low m = true) : U.lows m u.cells = true := by
  cases u <;> simp_all [U.cells, U.lows, U.low]
theorem opM_fl {d : Nat} {o : MOp} {u : U} (h : opM d s o = some (u, s')) (hk : Ok E σ Z ω s e st) (hf : Fl s) : Fl s' := by
  cases o with
  | alloc z =>
    simp only [opM] at h
    obtain ⟨hc, h⟩ := bif_some h
    simp only [Option.some.injEq, Prod.mk.injEq] at h
    obtain ⟨_, rfl⟩ := h
    exact hf.push (o := .row (V.toUs z)) (consts_low z hc _) s.e
  | box x =>
    simp only [opM] at h
    split at h <;> try (simp at h; done)
    · simp only [Option.some.injEq, Prod.mk.injEq] at h
      obtain ⟨_, rfl⟩ := h
      exact hf.push (o := .row [.cown _ _]) rfl _
    · rename_i v _ _ hx
      obtain ⟨_, h⟩ := bif_some h
      simp only [Option.some.injEq, Prod.mk.injEq] at h
      obtain ⟨_, rfl⟩ := h
      obtain ⟨vx, _, x2⟩ := hk.opd hx
      exact hf.push (o := .row v.cells) (cells_low (low_up (Nat.le_succ _) x2.lowOf)) s.e
  | buildSlice w len z parts =>
    simp only [opM] at h
    split at h <;> try (simp at h; done)
    rename_i cs s1 h1
    obtain ⟨_, h1⟩ := bif_some h1
    obtain ⟨_, h⟩ := bif_some h
    simp only [Option.some.injEq, Prod.mk.injEq] at h
    obtain ⟨_, rfl⟩ := h
    exact (hf.fill h1).kill _
  | makeMap =>
    simp only [opM, Option.some.injEq, Prod.mk.injEq] at h
    obtain ⟨_, rfl⟩ := h
    exact hf.push (o := .map [] 0) rfl s.e
  | makeSlice w bytes z len cap =>
    simp only [opM] at h
    split at h <;> try (simp at h; done)
    split at h <;> try (simp at h; done)
    split at h <;> try (simp at h; done)
    obtain ⟨_, h⟩ := bif_some h
    simp only [Option.some.injEq, Prod.mk.injEq] at h
    obtain ⟨_, rfl⟩ := h
    exact hf.kill _
  | toBytes x =>
    simp only [opM] at h
    split at h <;> simp only [Option.some.injEq, Prod.mk.injEq, reduceCtorEq] at h
    obtain ⟨_, rfl⟩ := h; exact hf.kill _
theorem storeU_fl {k i off : Nat} {v : U} {cs : List U} (hi : s.h[i]? = some (.row cs)) (h : storeU s k i off v cs = some s') (hk : Ok E σ Z ω s e st) (hv : v.low s.h.length = true) (hf : Fl s) : Fl s' := by
  unfold storeU at h
  split at h
  · rename_i g w xs
    obtain ⟨_, h⟩ := bif_some h
    split at h <;> simp only [Option.some.injEq, reduceCtorEq] at h
    subst h
    exact hf.set (o := .row (cs.set off (.cown w xs))) (lows_set (hf.ob _ _ hi) rfl) _
  · obtain ⟨_, h⟩ := bif_some h
    simp only [Option.some.injEq] at h
    subst h
    cases hl : v.low (i + 1) with
    | true => exact hf.set (o := .row (splU cs off v.cells)) (lows_spl (hf.ob _ _ hi) (cells_low (low_up (Nat.le_max_left _ _) hl))) _
    | false =>
      refine hf.raise (by simp) fun j o ho => ?_
      rw [List.getElem?_set] at ho
      split at ho
      · split at ho <;> simp at ho
        subst ho
        exact lows_spl (hk.lowOb hi) (cells_low hv)
      · exact hk.lowOb ho
theorem mod_low {m i : Nat} {f : U × U × Nat → U × U × Nat} (hfm : ∀ x, entLow m x = true → entLow m (f x) = true) : ∀ {es : List (U × U × Nat)} {i : Nat}, es.all (entLow m) = true → (modU i f es).all (entLow m) = true := by
  intro es
  induction es with
  | nil => intro i h; cases i <;> rfl
  | cons x es ih =>
    intro i h
    simp only [List.all_cons, Bool.and_eq_true] at h
    cases i with
    | zero => simp only [modU, List.all_cons, Bool.and_eq_true]; exact ⟨hfm x h.1, h.2⟩
    | succ i => simp only [modU, List.all_cons, Bool.and_eq_true]; exact ⟨h.1, ih h.2⟩
theorem erase_low {m : Nat} : ∀ {es : List (U × U × Nat)} {i : Nat}, es.all (entLow m) = true → (eraseU i es).all (entLow m) = true := by
  intro es
  induction es with
  | nil => intro i h; cases i <;> rfl
  | cons x es ih =>
    intro i h
    simp only [List.all_cons, Bool.and_eq_true] at h
    cases i with
    | zero => exact h.2
    | succ i => simp only [eraseU, List.all_cons, Bool.and_eq_true]; exact ⟨h.1, ih h.2⟩
theorem key_low {kk : EqK} {k : U} (h : plainKeyU kk k = true) (m : Nat) : k.low m = true := by
  unfold plainKeyU at h
  cases k <;> simp [U.toV] at h <;> rfl
theorem map_fl {i : Nat} {es es' : List (U × U × Nat)} {c c' : Nat} {v : U} (hi : s.h[i]? = some (.map es c)) (hk : Ok E σ Z ω s e st) (hf : Fl s) (hv : v.low s.h.length = true)
    (hm : ∀ m, v.low m = true → es.all (entLow m) = true → es'.all (entLow m) = true) : Fl { s with h := s.h.set i (.map es' c'), fl := bif v.low (i + 1) then s.fl else s.h.length } := by
  cases hl : v.low (i + 1) with
  | true => exact hf.set (o := .map es' c') (hm _ (low_up (Nat.le_max_left _ _) hl) (hf.ob _ _ hi)) _
  | false =>
    refine hf.raise (by simp) fun j o ho => ?_
    rw [List.getElem?_set] at ho
    split at ho
    · split at ho <;> simp at ho
      subst ho
      exact hm _ hv (hk.lowOb hi)
    · exact hk.lowOb ho
theorem opH_fl {d : Nat} {o : HOp} {u : U} (h : opH d s o = some (u, s')) (hk : Ok E σ Z ω s e st) (hf : Fl s) : Fl s' := by
  cases o with
  | store k a x =>
    simp only [opH] at h
    split at h <;> try (simp at h; done)
    · rename_i i off v ha hx
      split at h <;> try (simp at h; done)
      rename_i cs0 hi0
      obtain ⟨vx, _, x2⟩ := hk.opd hx
      obtain ⟨Z1, ω1, r1, r2, r3, r4⟩ := readyS_ok (off := off) (cs := cs0) hk x2
      have rf : Fl (readyS s off v cs0).2 := by
        unfold readyS
        split
        · split
          · exact hf.frz _
          · exact hf
        · exact hf
      generalize readyS s off v cs0 = R at h r1 r2 r3 rf
      obtain ⟨u1, t1⟩ := R
      simp only at h r1 r2 r3 rf
      split at h <;> try (simp at h; done)
      rename_i cs hi
      split at h <;> simp only [Option.some.injEq, Prod.mk.injEq, reduceCtorEq] at h
      rename_i s1 hs
      obtain ⟨_, rfl⟩ := h
      exact storeU_fl hi hs r1 r2.lowOf rf
    · split at h <;> try (simp at h; done)
      rename_i v s1 h1
      split at h <;> try (simp at h; done)
      split at h <;> try (simp at h; done)
      obtain ⟨_, h⟩ := bif_some h
      simp only [Option.some.injEq, Prod.mk.injEq] at h
      obtain ⟨_, rfl⟩ := h
      exact (hf.esc h1).upd _ _ _
  | mapUpdate kk m k x =>
    simp only [opH] at h
    split at h <;> try (simp at h; done)
    rename_i i s1 h1
    split at h <;> try (simp at h; done)
    rename_i k1 s2 h2
    split at h <;> try (simp at h; done)
    rename_i v s3 h3
    split at h <;> try (simp at h; done)
    rename_i es clock hi
    obtain ⟨hpk, h⟩ := bif_some h
    obtain ⟨Z1, ω1, _, _, k1, _, e1, _⟩ := hk.escO h1
    obtain ⟨Z2, ω2, _, _, k2, _, e2, _⟩ := k1.escO h2
    obtain ⟨Z3, ω3, vv, _, k3, u3, e3, _⟩ := k2.escO h3
    have hv : v.low s3.h.length = true := by rw [e3]; exact u3.lowOf
    have hf3 := ((hf.escO h1).escO h2).escO h3
    split at h <;> simp only [Option.some.injEq, Prod.mk.injEq, reduceCtorEq] at h
    · obtain ⟨_, rfl⟩ := h
      exact map_fl hi k3 hf3 hv fun m hm hes => mod_low (i := 0) (fun y hy => by simp only [entLow, Bool.and_eq_true]; exact ⟨key_low hpk m, hm⟩) hes
    · obtain ⟨_, rfl⟩ := h
      exact map_fl hi k3 hf3 hv fun m hm hes => by
        rw [List.all_append, hes]
        simp only [List.all_cons, List.all_nil, entLow, key_low hpk m, hm, Bool.and_self]
  | delete kk m k =>
    simp only [opH] at h
    split at h <;> try (simp at h; done)
    · obtain ⟨_, h⟩ := bif_some h
      simp only [Option.some.injEq, Prod.mk.injEq] at h
      obtain ⟨_, rfl⟩ := h; exact hf
    · split at h <;> try (simp at h; done)
      rename_i es clock hi
      obtain ⟨_, h⟩ := bif_some h
      split at h <;> simp only [Option.some.injEq, Prod.mk.injEq, reduceCtorEq] at h
      · obtain ⟨_, rfl⟩ := h
        exact hf.set (o := .map (eraseU _ es) clock) (erase_low (hf.ob _ _ hi)) s.e
      · obtain ⟨_, rfl⟩ := h; exact hf
  | append w bytes str a x =>
    simp only [opH] at h
    split at h <;> try (simp at h; done)
    split at h <;> try (simp at h; done)
    split at h <;> try (simp at h; done)
    · obtain ⟨_, h⟩ := bif_some h
      simp only [Option.some.injEq, Prod.mk.injEq] at h
      obtain ⟨_, rfl⟩ := h; exact (hf.kill _).kill _
    · obtain ⟨_, h⟩ := bif_some h
      simp only [Option.some.injEq, Prod.mk.injEq] at h
      obtain ⟨_, rfl⟩ := h; exact (hf.kill _).kill _
    · obtain ⟨_, h⟩ := bif_some h
      simp only [Option.some.injEq, Prod.mk.injEq] at h
      obtain ⟨_, rfl⟩ := h; exact hf
  | copy w str a x =>
    simp only [opH] at h
    split at h <;> try (simp at h; done)
    split at h <;> try (simp at h; done)
    obtain ⟨_, h⟩ := bif_some h
    simp only [Option.some.injEq, Prod.mk.injEq] at h
    obtain ⟨_, rfl⟩ := h; exact hf.upd _ _ _
  | clear _ _ _ => simp [opH] at h
  | range _ => simp [opH] at h
theorem Fl.bindR (h : Fl s) (d : Nat) (r : U) : Fl (bindR d r s).2 := by
  unfold RE.bindR
  split
  · exact Fl.kill h (.t d)
  · exact h
theorem Fl.frzArgs : ∀ {args : List U} {s : Vs}, Fl s → Fl (frzArgs args s) := by
  intro args
  induction args with
  | nil => intro s h; exact h
  | cons a r ih =>
    intro s h
    cases a <;> simp only [RE.frzArgs] <;> first | exact ih h | exact ih (h.frz _)
theorem Fl.land (h : Fl s) {hc : List Uo} {fc : Nat} (hh : Fl ⟨[], hc, fc⟩) (d : Nat) (r : U) : Fl (landR d r hc fc s).2 := by
  unfold landR
  split
  · exact h.bindR d r
  · refine Fl.bindR (s := { s with h := s.h ++ hc.map (shiftO s.h.length), fl := bif Nat.beq fc 0 then s.fl else s.h.length + fc }) ?_ d _
    have hle := h.le
    have hle2 := hh.le
    simp only at hle2
    have hge : s.fl ≤ (bif Nat.beq fc 0 then s.fl else s.h.length + fc) := by
      cases Nat.beq fc 0 with
      | true => exact Nat.le_refl _
      | false => simp only [cond_false]; omega
    have hge2 : s.h.length + fc ≤ max s.h.length (bif Nat.beq fc 0 then s.fl else s.h.length + fc) := by
      cases hb : Nat.beq fc 0 with
      | true => have := Nat.eq_of_beq_eq_true hb; simp only [cond_true]; omega
      | false => simp only [cond_false]; omega
    refine ⟨?_, fun i o ho => ?_⟩
    · simp only [List.length_append, List.length_map]
      cases hb : Nat.beq fc 0 with
      | true => simp only [cond_true]; omega
      | false => simp only [cond_false]; omega
    · simp only at ho
      rcases Nat.lt_or_ge i s.h.length with hi | hi
      · rw [List.getElem?_append_left hi] at ho
        exact Uo.low_up (by simp only; omega) (h.ob i o ho)
      · rw [List.getElem?_append_right hi, List.getElem?_map] at ho
        cases hq : hc[i - s.h.length]? with
        | none => rw [hq] at ho; simp at ho
        | some x =>
          rw [hq] at ho
          simp only [Option.map_some, Option.some.injEq] at ho
          subst ho
          exact Uo.low_up (by simp only; omega) (Uo.low_shift (k := s.h.length) (hh.ob _ x hq))
end
end Go.RE
namespace Go.RE
def RR (σ : Sg) (Z : Zs) (ω : Om) (n : Nat) (r : U) (v : V) : Prop :=
  match r with
  | .own .r w xs => OR σ Z ω (.t 0) w xs v
  | .own _ _ _ => False
  | r => UR σ Z n r v
def images (σ : Sg) (ω : Om) (n : Nat) : Nat → Prop := fun b => (∃ i, i < n ∧ σ i = b) ∨ ∃ g I, ω g = some I ∧ I.b = b
def FOK (P : Nat → List V → St → (V → St → Prop) → Prop) (F : FU) : Prop :=
  ∀ (f : Nat) (us : List U) (h : List Uo) (fl : Nat) (r : U) (h' : List Uo) (fl' : Nat), F f us h fl = some (r, h', fl') →
    ∀ (σ : Sg) (Z : Zs) (ω : Om) (st : St) (vs : List V), Ok ⟨h.length, σ, images σ ω h.length, Z, st, fun i => h[i]? = some .gone⟩ σ Z ω ⟨[], h, fl⟩ .e st → Fl ⟨[], h, fl⟩ → (∀ d, ω (.t d) = none) → LU σ Z h.length us vs →
      P f vs st fun v st' => Fl ⟨[], h', fl'⟩ ∧ ∃ σ' Z' ω', Ok ⟨h.length, σ, images σ ω h.length, Z, st, fun i => h[i]? = some .gone⟩ σ' Z' ω' ⟨[], h', fl'⟩ .e st' ∧ (∀ d, d ≠ 0 → ω' (.t d) = none) ∧ RR σ' Z' ω' h'.length r v
section
variable {E : Ent} {σ : Sg} {Z : Zs} {ω : Om} {s s' : Vs} {e : PT V} {st : St} {n : Nat}
theorem UR.flat {Z2 : Zs} {u : U} {v : V} (h : UR σ Z n u v) (hf : u.flat = true) : UR σ Z2 n u v := by
  have hl : ∀ {a : List U}, U.flats a = true → ∀ (j : Nat) u, a[j]? = some u → u.flat = true := by
    intro a
    induction a with
    | nil => intro _ j u h; simp at h
    | cons x a ih =>
      intro h j u hu
      simp only [U.flats, Bool.and_eq_true] at h
      cases j with
      | zero => simp at hu; subst hu; exact h.1
      | succ j => exact ih h.2 j u (by simpa using hu)
  induction h with
  | bool b => exact .bool b
  | int k x => exact .int k x
  | str s => exact .str s
  | nilp => exact .nilp
  | nils => exact .nils
  | nilm => exact .nilm
  | nilf => exact .nilf
  | nili => exact .nili
  | ptr h => exact .ptr h
  | map h => exact .map h
  | iface h ih => exact .iface (ih (by simpa [U.flat] using hf))
  | agg ha va ih => exact .agg ha fun j u v h1 h2 => ih j u v h1 h2 (hl (by simpa [U.flat] using hf) j u h1)
  | tup ha va ih => exact .tup ha fun j u v h1 h2 => ih j u v h1 h2 (hl (by simpa [U.flat] using hf) j u h1)
  | _ => simp [U.flat] at hf
theorem flatss_get : ∀ {xs : List (List U)}, U.flatss xs = true → ∀ (j : Nat) u, xs.flatten[j]? = some u → u.flat = true := by
  have hl : ∀ {a : List U}, U.flats a = true → ∀ u ∈ a, u.flat = true := by
    intro a
    induction a with
    | nil => intro _ u h; cases h
    | cons x a ih =>
      intro h u hu
      simp only [U.flats, Bool.and_eq_true] at h
      rcases List.mem_cons.1 hu with rfl | hu
      · exact h.1
      · exact ih h.2 u hu
  intro xs
  induction xs with
  | nil => intro _ j u h; simp at h
  | cons x xs ih =>
    intro h j u hu
    simp only [U.flatss, Bool.and_eq_true] at h
    have hm := List.mem_of_getElem? hu
    rw [List.flatten_cons] at hm
    rcases List.mem_append.1 hm with hm | hm
    · exact hl h.1 u hm
    · obtain ⟨i, hi, rfl⟩ := List.mem_iff_getElem.1 hm
      exact ih h.2 i _ (List.getElem?_eq_getElem hi)
theorem OR.flat {σ2 : Sg} {Z2 : Zs} {ω2 : Om} {g g2 : Tg} {w : Nat} {xs : List (List U)} {v : V} (h : OR σ Z ω g w xs v) (hω : ω2 g2 = ω g) (hf : U.flatss xs = true) : OR σ2 Z2 ω2 g2 w xs v := by
  unfold OR at h ⊢
  rw [hω]
  split at h
  · exact h
  · refine ⟨h.1, h.2.1, h.2.2.1, h.2.2.2.1, h.2.2.2.2.1, h.2.2.2.2.2.1, fun j u v hu hv => ?_⟩
    exact (((h.2.2.2.2.2.2 j u v hu hv).flat (flatss_get hf j u hu)).mono (Nat.le_refl 0) (fun i hi => by omega) (fun _ _ h => h))
theorem frzArgs_ok : ∀ {args : List U} {s : Vs} {Z : Zs} {ω : Om}, Ok E σ Z ω s e st → ∃ Z' ω', Ok E σ Z' ω' (frzArgs args s) e st ∧ (∀ b r, Z b = some r → Z' b = some r) ∧ (frzArgs args s).h.length = s.h.length ∧
    (∀ g, (∀ w xs, .own g w xs ∉ args) → ω' g = ω g) ∧ ∀ g w xs I, .own g w xs ∈ args → ω g = some I → Z' I.b = some I.row := by
  intro args
  induction args with
  | nil => intro s Z ω h; exact ⟨Z, ω, h, fun _ _ h => h, rfl, fun _ _ => rfl, fun g w xs I hm => by cases hm⟩
  | cons a args ih =>
    intro s Z ω h
    cases a with
    | own g w xs =>
      simp only [frzArgs]
      obtain ⟨Z1, ω1, a1, a2, a3, a4, a5, a6⟩ := h.frz g
      obtain ⟨Z2, ω2, b1, b2, b3, b4, b5⟩ := ih a1
      refine ⟨Z2, ω2, b1, fun b r hb => b2 b r (a2 b r hb), by omega, fun g' hg' => ?_, fun g' w' xs' I hm hI => ?_⟩
      · rw [b4 g' (fun w xs hm => hg' w xs (List.mem_cons_of_mem _ hm)), a3 g' (fun hh => hg' w xs (by rw [hh]; exact List.mem_cons_self))]
      · by_cases hgg : g' = g
        · subst hgg; exact b2 _ _ (a5 I hI)
        · have hm' : U.own g' w' xs' ∈ args := by
            rcases List.mem_cons.1 hm with hh | hh
            · cases hh; exact absurd rfl hgg
            · exact hh
          exact b5 g' w' xs' I hm' (by rw [a3 g' hgg]; exact hI)
    | _ =>
      simp only [frzArgs]
      obtain ⟨Z2, ω2, b1, b2, b3, b4, b5⟩ := ih h
      refine ⟨Z2, ω2, b1, b2, b3, fun g' hg' => b4 g' (fun w xs hm => hg' w xs (List.mem_cons_of_mem _ hm)), fun g' w' xs' I hm hI => ?_⟩
      rcases List.mem_cons.1 hm with hh | hh
      · cases hh
      · exact b5 g' w' xs' I hh hI
theorem args_lu {Z' : Zs} (hZ : ∀ b r, Z b = some r → Z' b = some r) : ∀ {args us : List U} {vs : List V}, argsU args = some us → args.length = vs.length → (∀ (j : Nat) u v, args[j]? = some u → vs[j]? = some v → TR σ Z ω n u v) →
    (∀ g w xs I, .own g w xs ∈ args → ω g = some I → Z' I.b = some I.row) → LU σ Z' n us vs := by
  intro args
  induction args with
  | nil => intro us vs h hl _ _; simp [argsU] at h; subst h; have : vs = [] := List.eq_nil_of_length_eq_zero hl.symm; subst this; exact .nil
  | cons a args ih =>
    intro us vs h hl hr hI
    cases vs with
    | nil => simp at hl
    | cons v vs =>
      simp only [argsU] at h
      cases ha : argU a with
      | none => rw [ha] at h; simp at h
      | some u =>
        rw [ha] at h
        simp only at h
        cases hb : argsU args with
        | none => rw [hb] at h; simp at h
        | some us' =>
          rw [hb] at h
          simp only [Option.some.injEq] at h; subst h
          refine LU.cons ?_ (ih hb (by simpa using hl) (fun j p q hp hq => hr (j + 1) p q (by simpa using hp) (by simpa using hq)) (fun g w xs I hm => hI g w xs I (List.mem_cons_of_mem _ hm)))
          have h0 := hr 0 a v rfl rfl
          cases a with
          | own g w xs =>
            simp [argU] at ha; subst ha
            exact h0.1.sl hZ (fun I hg => hI g w xs I List.mem_cons_self hg)
          | nl w =>
            simp [argU] at ha; subst ha
            have h1 : UR σ Z n (.nl w) v := h0
            cases h1 with
            | nl1 => exact .slnil
            | nl2 => exact .slz
          | bad => simp [argU] at ha
          | cown _ _ => simp [argU] at ha
          | optr _ _ _ => simp [argU] at ha
          | asl _ _ _ _ => simp [argU] at ha
          | tup _ => simp [argU] at ha
          | _ => simp [argU] at ha; subst ha; exact UR.mono (Nat.le_refl _) (fun _ _ => rfl) hZ h0
noncomputable def lend (ω : Om) (Z : Zs) : Zs := fun b => open Classical in if h : ∃ g I, ω g = some I ∧ I.b = b then some h.choose_spec.choose.row else Z b
theorem lend_own (h : Ok E σ Z ω s e st) {g : Tg} {I : OwnI} (hg : ω g = some I) : lend ω Z I.b = some I.row := by
  have hex : ∃ g J, ω g = some J ∧ J.b = I.b := ⟨g, I, hg, rfl⟩
  unfold lend
  rw [dif_pos hex]
  obtain ⟨k1, k2⟩ := hex.choose_spec.choose_spec
  have key : ∀ g' J, ω g' = some J → J.b = I.b → J = I := fun g' J hJ hb => by
    have := h.winj _ _ _ _ hJ hg hb
    subst this
    rw [hg] at hJ; cases hJ; rfl
  exact congrArg (fun J : OwnI => some J.row) (key _ _ k1 k2)
theorem lend_Z (h : Ok E σ Z ω s e st) {b : Nat} {r : List V} (hb : Z b = some r) : lend ω Z b = some r := by
  unfold lend
  rw [dif_neg]
  · exact hb
  · rintro ⟨g, I, hg, rfl⟩; rw [h.wz g I hg] at hb; cases hb
theorem lend_cases {b : Nat} {r : List V} (hb : lend ω Z b = some r) : Z b = some r ∨ ∃ g I, ω g = some I ∧ I.b = b ∧ r = I.row := by
  unfold lend at hb
  split at hb
  · rename_i hex
    simp at hb
    exact .inr ⟨_, _, hex.choose_spec.choose_spec.1, hex.choose_spec.choose_spec.2, hb.symm⟩
  · exact .inl hb
theorem Ok.iso (h : Ok E σ Z ω s e st) {Z' : Zs} (hz : ∀ b r, Z' b = some r → st.get b = some (.row r)) (fl : Nat) : Ok ⟨0, σ, images σ (fun _ => none) 0, Z', st, fun i => ([] : List Uo)[i]? = some .gone⟩ σ Z' (fun _ => none) ⟨[], [], fl⟩ .e st :=
  ⟨fun t u hu => by simp [look] at hu, fun i o ho => by simp at ho, hz, fun g I hI => by simp at hI, h.fresh, fun i j hi => by simp at hi, fun g g' I I' hI => by simp at hI, fun i g I hi => by simp at hi, fun i hi => by simp at hi, fun g I hI => by simp at hI,
    fun i hi => by simp at hi, rfl, fun i off I hI => by simp at hI, Nat.le_refl _, fun i hi => by simp at hi, fun b r hb => hb, Nat.le_refl _, fun b hb _ => ⟨rfl, fun i hi => by simp at hi, fun g I hI => by simp at hI, fun r hr => hr⟩, fun i hi => by simp at hi⟩
def onlyC (ω : Om) : Om := fun g => match g with
  | .c i o => ω (.c i o)
  | _ => none
theorem onlyC_some {g : Tg} {I : OwnI} (h : onlyC ω g = some I) : ω g = some I ∧ ∃ i o, g = .c i o := by
  cases g with
  | c i o => exact ⟨h, i, o, rfl⟩
  | t d => simp [onlyC] at h
  | r => simp [onlyC] at h
theorem Ok.shared (h : Ok E σ Z ω s e st) (fl : Nat) : Ok ⟨s.h.length, σ, images σ (onlyC ω) s.h.length, Z, st, fun i => s.h[i]? = some .gone⟩ σ Z (onlyC ω) ⟨[], s.h, fl⟩ .e st :=
  ⟨fun t u hu => by simp [look] at hu, fun i o ho => (h.obj i o ho).mono (Nat.le_refl _) (fun _ _ => rfl) (fun _ _ h => h) (fun _ => rfl), h.zok, fun g I hI => h.wok g I (onlyC_some hI).1, h.fresh, h.inj, fun g g' I I' hI hI' => h.winj g g' I I' (onlyC_some hI).1 (onlyC_some hI').1,
    fun i g I hi hI => h.sw i g I hi (onlyC_some hI).1, h.sz, fun g I hI => h.wz g I (onlyC_some hI).1, h.sb, rfl, fun i off I hI => h.wc i off I hI, Nat.le_refl _, fun i hi => rfl, fun b r hb => hb, Nat.le_refl _,
    fun b hb hbI => ⟨rfl, fun i hi hh => hbI (.inl ⟨i, hi, hh⟩), fun g I hI hh => hbI (.inr ⟨g, I, hI, hh⟩), fun r hr => hr⟩, fun i hi => ⟨(List.getElem?_eq_some_iff.1 hi).1, hi, rfl⟩⟩
theorem Ok.backShared (h : Ok E σ Z ω s e st) {σ' : Sg} {Z' : Zs} {ω' : Om} {h' : List Uo} {fl' : Nat} {st' : St} {r : U} {v : V} {d : Nat}
    (hb : Ok ⟨s.h.length, σ, images σ (onlyC ω) s.h.length, Z, st, fun i => s.h[i]? = some .gone⟩ σ' Z' ω' ⟨[], h', fl'⟩ .e st') (ht : ∀ d, d ≠ 0 → ω' (.t d) = none) (hr : RR σ' Z' ω' h'.length r v) :
    ∃ ω2, Ok E σ' Z' ω2 (bindR d r { e := Env.killIf Tg.isC s.e, h := h', fl := fl' }).2 e st' ∧ TR σ' Z' ω2 (bindR d r { e := Env.killIf Tg.isC s.e, h := h', fl := fl' }).2.h.length (bindR d r { e := Env.killIf Tg.isC s.e, h := h', fl := fl' }).1 v ∧
      (bindR d r { e := Env.killIf Tg.isC s.e, h := h', fl := fl' }).2.h = h' := by
  have hn0 : s.h.length ≤ h'.length := hb.n0
  have hσ : ∀ i, i < s.h.length → σ' i = σ i := hb.sig
  have hZ : ∀ b r, Z b = some r → Z' b = some r := hb.zz
  -- what is not handed on stays
  have hout : ∀ b, b < st.next → ¬ images σ (onlyC ω) s.h.length b → st'.get b = st.get b ∧ (∀ i, i < h'.length → σ' i ≠ b) ∧ (∀ g I, ω' g = some I → I.b ≠ b) ∧ (∀ r, Z' b = some r → Z b = some r) := fun b hb1 hb2 => hb.out b hb1 hb2
  have hT : ∀ x I, ω (.t x) = some I → I.b < st.next ∧ ¬ images σ (onlyC ω) s.h.length I.b := fun x I hI => ⟨h.lt_next (h.wok _ I hI), by
    rintro (⟨i, hi, hh⟩ | ⟨g, J, hJ, hh⟩)
    · exact h.sw i _ I hi hI hh
    · obtain ⟨j1, i, o, rfl⟩ := onlyC_some hJ
      have := h.winj _ _ _ _ j1 hI hh
      cases this⟩
  -- the tags
  let ω2 : Om := fun g => match g with
    | .t x => ω (.t x)
    | .c i o => ω' (.c i o)
    | .r => none
  have hc2 : ∀ g I, ω2 g = some I → (∃ x, g = .t x ∧ ω (.t x) = some I) ∨ (∃ i o, g = .c i o ∧ ω' (.c i o) = some I) := fun g I hI => by
    cases g with
    | t x => exact .inl ⟨x, rfl, hI⟩
    | c i o => exact .inr ⟨i, o, rfl, hI⟩
    | r => cases hI
  have hOk : Ok E σ' Z' ω2 { e := Env.killIf Tg.isC s.e, h := h', fl := fl' } e st' := by
    refine ⟨fun t u hu => ?_, fun i o ho => (hb.obj i o ho).mono (Nat.le_refl _) (fun _ _ => rfl) (fun _ _ h => h) (fun _ => rfl), hb.zok, fun g I hI => ?_, hb.fresh, hb.inj, fun g1 g2 I1 I2 h1 h2 hbb => ?_, fun i g I hi hI => ?_, hb.sz, fun g I hI => ?_, hb.sb, rfl, fun i off I hI => hb.wc i off I hI,
      Nat.le_trans h.n0 hn0, fun i hi => by rw [hσ i (Nat.lt_of_lt_of_le hi h.n0)]; exact h.sig i hi, fun b r hbr => hZ b r (h.zz b r hbr), Nat.le_trans h.nx hb.nx, fun b hb1 hb2 => ?_, fun i hi => ⟨(h.gn i hi).1, (hb.gn i (h.gn i hi).2.1).2.1, (hb.gn i (h.gn i hi).2.1).2.2.trans (h.gn i hi).2.2⟩⟩
    · rw [look_killIf] at hu
      cases hq : look s.e t with
      | none => rw [hq] at hu; simp at hu
      | some x =>
        rw [hq] at hu; simp at hu; subst hu
        obtain ⟨v, h1, h2⟩ := h.env t x hq
        refine ⟨v, h1, ?_⟩
        cases x with
        | own g w xs =>
          simp only [U.killIf]
          cases g with
          | t x => exact h2.mono hn0 hσ hZ (fun g hg => by simp [U.tag, Tg.isC, U.killIf] at hg; subst hg; rfl)
          | c i o => trivial
          | r =>
            refine h2.mono hn0 hσ hZ (fun g hg => ?_)
            simp [U.tag, Tg.isC, U.killIf] at hg; subst hg; exact h.wr.symm
        | optr g i f =>
          simp only [U.killIf]
          cases g with
          | t x => exact h2.mono hn0 hσ hZ (fun g hg => by simp [U.tag, Tg.isC, U.killIf] at hg; subst hg; rfl)
          | c i o => trivial
          | r =>
            refine h2.mono hn0 hσ hZ (fun g hg => ?_)
            simp [U.tag, Tg.isC, U.killIf] at hg; subst hg; exact h.wr.symm
        | _ => exact h2.mono hn0 hσ hZ (fun g hg => by simp [U.tag, U.killIf] at hg)
    · rcases hc2 g I hI with ⟨x, rfl, hx⟩ | ⟨i, o, rfl, hx⟩
      · obtain ⟨k1, k2⟩ := hT x I hx
        rw [(hout _ k1 k2).1]; exact h.wok _ I hx
      · exact hb.wok _ I hx
    · rcases hc2 g1 I1 h1 with ⟨x, rfl, hx⟩ | ⟨i, o, rfl, hx⟩ <;> rcases hc2 g2 I2 h2 with ⟨y, rfl, hy⟩ | ⟨j, p, rfl, hy⟩
      · exact h.winj _ _ _ _ hx hy hbb
      · obtain ⟨k1, k2⟩ := hT x I1 hx
        exact absurd hbb.symm ((hout _ k1 k2).2.2.1 _ _ hy)
      · obtain ⟨k1, k2⟩ := hT y I2 hy
        exact absurd hbb ((hout _ k1 k2).2.2.1 _ _ hx)
      · exact hb.winj _ _ _ _ hx hy hbb
    · rcases hc2 g I hI with ⟨x, rfl, hx⟩ | ⟨j, o, rfl, hx⟩
      · obtain ⟨k1, k2⟩ := hT x I hx
        exact (hout _ k1 k2).2.1 i hi
      · exact hb.sw i _ I hi hx
    · rcases hc2 g I hI with ⟨x, rfl, hx⟩ | ⟨j, o, rfl, hx⟩
      · obtain ⟨k1, k2⟩ := hT x I hx
        cases hz : Z' I.b with
        | none => rfl
        | some r => have := (hout _ k1 k2).2.2.2 r hz; rw [h.wz _ I hx] at this; cases this
      · exact hb.wz _ I hx
    · obtain ⟨k1, k2, k3, k4⟩ := h.out b hb1 hb2
      have hni : ¬ images σ (onlyC ω) s.h.length b := by
        rintro (⟨i, hi, hh⟩ | ⟨g, J, hJ, hh⟩)
        · exact k2 i hi hh
        · exact k3 g J (onlyC_some hJ).1 hh
      obtain ⟨q1, q2, q3, q4⟩ := hout b (Nat.lt_of_lt_of_le hb1 h.nx) hni
      refine ⟨by rw [q1, k1], q2, fun g I hI => ?_, fun r hr => k4 r (q4 r hr)⟩
      rcases hc2 g I hI with ⟨x, rfl, hx⟩ | ⟨j, o, rfl, hx⟩
      · exact k3 _ I hx
      · exact q3 _ I hx
  -- what comes back
  unfold bindR
  split
  · rename_i w xs
    have hor : OR σ' Z' ω' (.t 0) w xs v := hr
    have hk := hOk.kill (.t d)
    refine ⟨_, hk.setω (noTag_kill _ _) (by simp) (o := ω' (.t 0)) (fun J hJ => ?_), ?_, rfl⟩
    · refine ⟨hb.wok _ J hJ, fun i hi => hb.sw i _ J hi hJ, hb.wz _ J hJ, fun g' I' hg' hI' hbb => ?_, fun b hb1 hb2 => ?_, fun i off hh => by cases hh⟩
      · rcases hc2 g' I' hI' with ⟨x, rfl, hx⟩ | ⟨j, o, rfl, hx⟩
        · obtain ⟨k1, k2⟩ := hT x I' hx
          exact (hout _ k1 k2).2.2.1 _ _ hJ hbb.symm
        · have := hb.winj _ _ _ _ hx hJ hbb
          cases this
      · obtain ⟨k1, k2, k3, k4⟩ := h.out b hb1 hb2
        have hni : ¬ images σ (onlyC ω) s.h.length b := by
          rintro (⟨i, hi, hh⟩ | ⟨g, J, hJ, hh⟩)
          · exact k2 i hi hh
          · exact k3 g J (onlyC_some hJ).1 hh
        exact (hout b (Nat.lt_of_lt_of_le hb1 h.nx) hni).2.2.1 _ _ hJ
    · refine ⟨?_, fun i off hh => by cases hh⟩
      unfold OR at hor ⊢
      rw [updF_same]; exact hor
  · rename_i hno
    refine ⟨ω2, hOk, ?_, rfl⟩
    cases r with
    | own g w xs =>
      cases g with
      | r => exact absurd rfl (hno w xs)
      | t x => exact hr.elim
      | c i o => exact hr.elim
    | _ => exact TR.of_ur hr
end
end Go.RE
