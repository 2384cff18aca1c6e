/- The state of the second evaluator against that of the first. -/
import Derived.Test.YtigkmaeaoaejiaaGreatDoorPart5
set_option linter.unusedVariables false
set_option linter.unusedSimpArgs false
set_option linter.constructorNameAsVariable false
namespace Go.RE
structure OwnI where
  b : Nat
  off : Nat
  cap : Nat
  ex : Bool
  w : Nat
  row : List V
  xs : List (List U)
abbrev Sg := Nat → Nat
abbrev Zs := Nat → Option (List V)
abbrev Om := Tg → Option OwnI
def OR (σ : Sg) (Z : Zs) (ω : Om) (g : Tg) (w : Nat) (xs : List (List U)) (v : V) : Prop :=
  match ω g with
  | none => xs = [] ∧ (v = .nils ∨ v = .zslice)
  | some I => v = .slice I.b I.off xs.length I.cap w I.ex ∧ (I.w = w ∧ I.xs = xs) ∧ xs.length ≤ I.cap ∧ I.off + I.cap * w ≤ I.row.length ∧ (∀ r ∈ xs, r.length = w) ∧ LU σ Z 0 xs.flatten ((I.row.drop I.off).take (xs.length * w))
def TR (σ : Sg) (Z : Zs) (ω : Om) (n : Nat) : U → V → Prop
  | .bad, _ => True
  | .cown .., _ => True
  | .own g w xs, v => OR σ Z ω g w xs v ∧ ∀ i off, g = .c i off → i < n
  | .optr g i f, v => (∃ I, ω g = some I ∧ v = .ptr I.b (I.off + i * I.w + f)) ∧ ∀ i off, g = .c i off → i < n
  | .asl i off len w, v => i < n ∧ ∃ cap, len ≤ cap ∧ v = .slice (σ i) off len cap w true
  | u, v => UR σ Z n u v
def CR (σ : Sg) (Z : Zs) (ω : Om) (n i off : Nat) : U → V → Prop
  | .bad, _ => True
  | .cown w xs, v => OR σ Z ω (.c i off) w xs v
  | u, v => UR σ Z n u v
def OB (σ : Sg) (Z : Zs) (ω : Om) (n i : Nat) : Uo → Option Ob → Prop
  | .row cs, ob => ∃ cs', ob = some (.row cs') ∧ cs.length = cs'.length ∧ ∀ (off : Nat) u v, cs[off]? = some u → cs'[off]? = some v → CR σ Z ω n i off u v
  | .map es c, ob => ∃ es', ob = some (.map es' c) ∧ es.length = es'.length ∧ ∀ (j : Nat) e e', es[j]? = some e → es'[j]? = some e' → UR σ Z n e.1 e'.key ∧ UR σ Z n e.2.1 e'.val ∧ e'.born = e.2.2
  | .iter m a b c, ob => ob = some (.miter (m.map σ) a b c) ∧ ∀ j, m = some j → j < n
  | .gone, _ => True
structure Ent where
  n : Nat
  σ : Sg
  I : Nat → Prop
  Z : Zs
  st : St
  G : Nat → Prop      -- what lies hidden
structure Ok (E : Ent) (σ : Sg) (Z : Zs) (ω : Om) (s : Vs) (e : PT V) (st : St) : Prop where
  env : ∀ t u, look s.e t = some u → ∃ v, e.get t = some v ∧ TR σ Z ω s.h.length u v
  obj : ∀ (i : Nat) o, s.h[i]? = some o → OB σ Z ω s.h.length i o (st.get (σ i))
  zok : ∀ b r, Z b = some r → st.get b = some (.row r)
  wok : ∀ g I, ω g = some I → st.get I.b = some (.row I.row)
  fresh : ∀ b, st.next ≤ b → st.get b = none
  inj : ∀ i j, i < s.h.length → j < s.h.length → σ i = σ j → i = j
  winj : ∀ g g' I I', ω g = some I → ω g' = some I' → I.b = I'.b → g = g'
  sw : ∀ i g I, i < s.h.length → ω g = some I → σ i ≠ I.b
  sz : ∀ i, i < s.h.length → Z (σ i) = none
  wz : ∀ g I, ω g = some I → Z I.b = none
  sb : ∀ i, i < s.h.length → σ i < st.next
  wr : ω .r = none
  wc : ∀ i off I, ω (.c i off) = some I → i < s.h.length
  n0 : E.n ≤ s.h.length
  sig : ∀ i, i < E.n → σ i = E.σ i
  zz : ∀ b r, E.Z b = some r → Z b = some r
  nx : E.st.next ≤ st.next
  out : ∀ b, b < E.st.next → ¬ E.I b → st.get b = E.st.get b ∧ (∀ i, i < s.h.length → σ i ≠ b) ∧ (∀ g I, ω g = some I → I.b ≠ b) ∧ (∀ r, Z b = some r → E.Z b = some r)
  gn : ∀ (i : Nat), E.G i → i < E.n ∧ s.h[i]? = some .gone ∧ st.get (σ i) = E.st.get (E.σ i)
def U.tag : U → Option Tg
  | .own g _ _ => some g
  | .optr g _ _ => some g
  | _ => none
section
variable {E : Ent} {σ σ' : Sg} {Z Z' : Zs} {ω ω' : Om} {s : Vs} {e : PT V} {st : St} {n m : Nat}
theorem OR.mono (hZ : ∀ b r, Z b = some r → Z' b = some r) {g : Tg} (hg : ω' g = ω g) {w : Nat} {xs : List (List U)} {v : V} (h : OR σ Z ω g w xs v) : OR σ' Z' ω' g w xs v := by
  unfold OR at h ⊢
  rw [hg]
  split at h
  · exact h
  · exact ⟨h.1, h.2.1, h.2.2.1, h.2.2.2.1, h.2.2.2.2.1, h.2.2.2.2.2.mono (Nat.le_refl 0) (fun i hi => by omega) hZ⟩
theorem TR.mono (hn : n ≤ m) (hσ : ∀ i, i < n → σ' i = σ i) (hZ : ∀ b r, Z b = some r → Z' b = some r) {u : U} {v : V} (hg : ∀ g, u.tag = some g → ω' g = ω g) (h : TR σ Z ω n u v) : TR σ' Z' ω' m u v := by
  cases u with
  | bad => trivial
  | cown _ _ => trivial
  | own g w xs => exact ⟨h.1.mono hZ (hg g rfl), fun i off e => by have := h.2 i off e; omega⟩
  | optr g i f => obtain ⟨⟨I, h1, h2⟩, h3⟩ := h; exact ⟨⟨I, by rw [hg g rfl]; exact h1, h2⟩, fun i off e => by have := h3 i off e; omega⟩
  | asl i off len w => obtain ⟨h1, cap, h2, h3⟩ := h; exact ⟨by omega, cap, h2, by rw [hσ i h1]; exact h3⟩
  | _ => exact UR.mono hn hσ hZ h
theorem CR.mono (hn : n ≤ m) (hσ : ∀ i, i < n → σ' i = σ i) (hZ : ∀ b r, Z b = some r → Z' b = some r) {i off : Nat} (hg : ω' (.c i off) = ω (.c i off)) {u : U} {v : V} (h : CR σ Z ω n i off u v) : CR σ' Z' ω' m i off u v := by
  cases u with
  | bad => trivial
  | cown w xs => exact OR.mono hZ hg h
  | _ => exact UR.mono hn hσ hZ h
theorem OB.mono (hn : n ≤ m) (hσ : ∀ i, i < n → σ' i = σ i) (hZ : ∀ b r, Z b = some r → Z' b = some r) {i : Nat} (hg : ∀ off, ω' (.c i off) = ω (.c i off)) {o : Uo} {ob : Option Ob} (h : OB σ Z ω n i o ob) : OB σ' Z' ω' m i o ob := by
  cases o with
  | row cs => obtain ⟨cs', h1, h2, h3⟩ := h; exact ⟨cs', h1, h2, fun off u v a b => (h3 off u v a b).mono hn hσ hZ (hg off)⟩
  | map es c => obtain ⟨es', h1, h2, h3⟩ := h; exact ⟨es', h1, h2, fun j x y a b => ⟨(h3 j x y a b).1.mono hn hσ hZ, (h3 j x y a b).2.1.mono hn hσ hZ, (h3 j x y a b).2.2⟩⟩
  | iter q a b c =>
    obtain ⟨h1, h2⟩ := h
    refine ⟨?_, fun j hj => by have := h2 j hj; omega⟩
    rw [h1]
    cases q with
    | none => rfl
    | some j => simp only [Option.map_some, hσ j (h2 j rfl)]
  | gone => trivial
theorem TR.of_ur {u : U} {v : V} (h : UR σ Z n u v) : TR σ Z ω n u v := by
  cases h <;> first | exact UR.bool _ | exact UR.int _ _ | exact UR.str _ | exact UR.nilp | exact UR.nils | exact UR.nilm | exact UR.nilf | exact UR.nili | exact UR.ptr ‹_› | exact UR.map ‹_› |
    exact UR.cptrZ ‹_› ‹_› ‹_› | exact UR.cptrC ‹_› ‹_› | exact UR.slnil | exact UR.slz | exact UR.nl1 | exact UR.nl2 | exact UR.slZ ‹_› ‹_› ‹_› ‹_› ‹_› ‹_› | exact UR.slC ‹_› ‹_› ‹_› ‹_› | exact UR.func ‹_› ‹_› ‹_› ‹_› | exact UR.iface ‹_› | exact UR.agg ‹_› ‹_› | exact UR.tup ‹_› ‹_›
theorem CR.of_ur {i off : Nat} {u : U} {v : V} (h : UR σ Z n u v) : CR σ Z ω n i off u v := by
  cases h <;> first | exact UR.bool _ | exact UR.int _ _ | exact UR.str _ | exact UR.nilp | exact UR.nils | exact UR.nilm | exact UR.nilf | exact UR.nili | exact UR.ptr ‹_› | exact UR.map ‹_› |
    exact UR.cptrZ ‹_› ‹_› ‹_› | exact UR.cptrC ‹_› ‹_› | exact UR.slnil | exact UR.slz | exact UR.nl1 | exact UR.nl2 | exact UR.slZ ‹_› ‹_› ‹_› ‹_› ‹_› ‹_› | exact UR.slC ‹_› ‹_› ‹_› ‹_› | exact UR.func ‹_› ‹_› ‹_› ‹_› | exact UR.iface ‹_› | exact UR.agg ‹_› ‹_› | exact UR.tup ‹_› ‹_›
def NoTag (g : Tg) (s : Vs) : Prop := (∀ t u, look s.e t = some u → u.tag ≠ some g) ∧ ∀ (i off : Nat), g = .c i off → ∀ cs w xs, s.h[i]? = some (.row cs) → cs[off]? ≠ some (.cown w xs)
def updF {α β : Type} [DecidableEq α] (f : α → β) (a : α) (b : β) : α → β := fun x => if x = a then b else f x
theorem updF_same {α β : Type} [DecidableEq α] (f : α → β) (a : α) (b : β) : updF f a b a = b := by simp [updF]
theorem updF_ne {α β : Type} [DecidableEq α] (f : α → β) {a x : α} (b : β) (h : x ≠ a) : updF f a b x = f x := by simp [updF, h]
theorem look_map (f : U → U) (F : Env → Env) (h0 : F [] = []) (h1 : ∀ k v r, F ((k, v) :: r) = (k, f v) :: F r) : ∀ (e : Env) (t : Nat), look (F e) t = (look e t).map f := by
  intro e
  induction e with
  | nil => intro t; rw [h0]; rfl
  | cons x r ih =>
    intro t
    obtain ⟨k, v⟩ := x
    rw [h1]
    simp only [look]
    cases Nat.beq k t <;> simp [ih]
theorem look_kill (g : Tg) (e : Env) (t : Nat) : look (Env.kill g e) t = (look e t).map (U.kill g) := look_map _ _ rfl (fun _ _ _ => rfl) e t
theorem look_frz (g : Tg) (e : Env) (t : Nat) : look (Env.frz g e) t = (look e t).map (U.frz g) := look_map _ _ rfl (fun _ _ _ => rfl) e t
theorem look_retag (g g2 : Tg) (e : Env) (t : Nat) : look (Env.retag g g2 e) t = (look e t).map (U.retag g g2) := look_map _ _ rfl (fun _ _ _ => rfl) e t
theorem look_upd (g : Tg) (ys : List (List U)) (e : Env) (t : Nat) : look (Env.upd g ys e) t = (look e t).map (U.upd g ys) := look_map _ _ rfl (fun _ _ _ => rfl) e t
theorem look_killIf (p : Tg → Bool) (e : Env) (t : Nat) : look (Env.killIf p e) t = (look e t).map (U.killIf p) := look_map _ _ rfl (fun _ _ _ => rfl) e t
theorem look_put (d : Nat) (u : U) (e : Env) (t : Nat) : look (putE (some d) u e) t = if t = d then some u else look e t := by
  simp only [putE, look]
  by_cases h : t = d
  · subst h; simp
  · have : Nat.beq d t = false := by cases hb : Nat.beq d t with | false => rfl | true => exact absurd (Nat.eq_of_beq_eq_true hb).symm h
    simp [this, h]
theorem kill_tag {g : Tg} {u u' : U} (h : u.kill g = u') : u'.tag ≠ some g ∧ (u' = u ∨ u' = .bad) := by
  subst h
  cases u with
  | own g' w xs => by_cases hg : g' = g <;> simp [U.kill, U.tag, hg]
  | optr g' i f => by_cases hg : g' = g <;> simp [U.kill, U.tag, hg]
  | _ => simp [U.kill, U.tag]
theorem Ok.setEnv (h : Ok E σ Z ω s e st) {E' : Env} {e2 : PT V} (he : ∀ t u, look E' t = some u → ∃ v, e2.get t = some v ∧ TR σ Z ω s.h.length u v) : Ok E σ Z ω { s with e := E' } e2 st :=
  ⟨he, h.obj, h.zok, h.wok, h.fresh, h.inj, h.winj, h.sw, h.sz, h.wz, h.sb, h.wr, h.wc, h.n0, h.sig, h.zz, h.nx, h.out, h.gn⟩
theorem Ok.setFl (h : Ok E σ Z ω s e st) (k : Nat) : Ok E σ Z ω { s with fl := k } e st :=
  ⟨h.env, h.obj, h.zok, h.wok, h.fresh, h.inj, h.winj, h.sw, h.sz, h.wz, h.sb, h.wr, h.wc, h.n0, h.sig, h.zz, h.nx, h.out, h.gn⟩
theorem Ok.put (h : Ok E σ Z ω s e st) {dst : Option Nat} {u : U} {v : V} (hv : TR σ Z ω s.h.length u v) : Ok E σ Z ω { s with e := putE dst u s.e } (putD dst v e) st := by
  refine h.setEnv fun t x hx => ?_
  cases dst with
  | none => exact h.env t x hx
  | some d =>
    rw [look_put] at hx
    simp only [putD, PT.get_set]
    by_cases ht : t = d
    · rw [if_pos ht] at hx ⊢; simp at hx; subst hx; exact ⟨v, rfl, hv⟩
    · rw [if_neg ht] at hx ⊢; exact h.env t x hx
theorem Ok.killE (h : Ok E σ Z ω s e st) (g : Tg) : Ok E σ Z ω { s with e := Env.kill g s.e } e st := by
  refine h.setEnv fun t x hx => ?_
  rw [look_kill] at hx
  cases hl : look s.e t with
  | none => rw [hl] at hx; simp at hx
  | some u =>
    rw [hl] at hx; simp at hx
    obtain ⟨v, h1, h2⟩ := h.env t u hl
    rcases (kill_tag hx).2 with rfl | rfl
    · exact ⟨v, h1, h2⟩
    · exact ⟨v, h1, trivial⟩
theorem Ok.killIf (h : Ok E σ Z ω s e st) (p : Tg → Bool) : Ok E σ Z ω { s with e := Env.killIf p s.e } e st := by
  refine h.setEnv fun t x hx => ?_
  rw [look_killIf] at hx
  cases hl : look s.e t with
  | none => rw [hl] at hx; simp at hx
  | some u =>
    rw [hl] at hx; simp at hx
    obtain ⟨v, h1, h2⟩ := h.env t u hl
    refine ⟨v, h1, ?_⟩
    subst hx
    cases u <;> try exact h2
    all_goals
      simp only [U.killIf]
      rename_i g _ _
      cases p g <;> first | exact h2 | trivial
theorem Ok.setRow (h : Ok E σ Z ω s e st) {i : Nat} {cs' : List U} {cs : List U} (hi : s.h[i]? = some (.row cs)) (hlen : cs'.length = cs.length)
    (hc : ∀ (off : Nat) u u' v, cs[off]? = some u → cs'[off]? = some u' → CR σ Z ω s.h.length i off u v → CR σ Z ω s.h.length i off u' v) : Ok E σ Z ω { s with h := s.h.set i (.row cs') } e st := by
  have hl : (s.h.set i (.row cs')).length = s.h.length := List.length_set
  have hlt : i < s.h.length := (List.getElem?_eq_some_iff.1 hi).1
  have hgn : ∀ j, E.G j → j < E.n ∧ (s.h.set i (.row cs'))[j]? = some .gone ∧ st.get (σ j) = E.st.get (E.σ j) := fun j hj => by
    obtain ⟨q1, q2, q3⟩ := h.gn j hj
    exact ⟨q1, by rw [List.getElem?_set, if_neg (by rintro rfl; rw [hi] at q2; cases q2)]; exact q2, q3⟩
  refine ⟨fun t u hu => by rw [hl]; exact h.env t u hu, fun j o ho => ?_, h.zok, h.wok, h.fresh, by rw [hl]; exact h.inj, h.winj, by rw [hl]; exact h.sw, by rw [hl]; exact h.sz, h.wz, by rw [hl]; exact h.sb, h.wr, by rw [hl]; exact h.wc,
    by rw [hl]; exact h.n0, h.sig, h.zz, h.nx, by rw [hl]; exact h.out, hgn⟩
  rw [hl]
  rw [List.getElem?_set] at ho
  by_cases hj : i = j
  · subst hj
    rw [if_pos rfl, if_pos hlt] at ho
    simp at ho; subst ho
    obtain ⟨ds, h1, h2, h3⟩ := h.obj i _ hi
    refine ⟨ds, h1, by omega, fun off u v hu hv => ?_⟩
    obtain ⟨ho1, ho2⟩ := List.getElem?_eq_some_iff.1 hu
    have hx := List.getElem?_eq_getElem (l := cs) (i := off) (by omega)
    exact hc off _ u v hx hu (h3 off _ v hx hv)
  · rw [if_neg hj] at ho; exact h.obj j o ho
theorem Ok.setCellBad (h : Ok E σ Z ω s e st) (i off : Nat) : Ok E σ Z ω { s with h := setCell s.h i off .bad } e st := by
  unfold setCell
  split
  · rename_i cs hi
    refine h.setRow hi (by simp) fun o u u' v h1 h2 h3 => ?_
    rw [List.getElem?_set] at h2
    split at h2
    · split at h2 <;> simp at h2
      subst h2; trivial
    · rw [h1] at h2; simp at h2; subst h2; exact h3
  · exact h
theorem Ok.kill (h : Ok E σ Z ω s e st) (g : Tg) : Ok E σ Z ω (s.kill g) e st := by
  unfold Vs.kill
  split
  · exact (h.killE _).setCellBad _ _
  · exact h.killE _
theorem setCell_get {h : List Uo} {i off : Nat} {v : U} {cs : List U} (hc : (setCell h i off v)[i]? = some (.row cs)) (hlt : off < cs.length) : cs[off]? = some v := by
  unfold setCell at hc
  split at hc
  · rename_i ds hi
    rw [List.getElem?_set, if_pos rfl, if_pos (List.getElem?_eq_some_iff.1 hi).1] at hc
    simp at hc; subst hc
    rw [List.length_set] at hlt
    rw [List.getElem?_set, if_pos rfl, if_pos hlt]
  · rename_i hno; exact absurd hc (hno _)
theorem noTag_killE (g : Tg) (s : Vs) : ∀ t u, look (Env.kill g s.e) t = some u → u.tag ≠ some g := by
  intro t u hu
  rw [look_kill] at hu
  cases hl : look s.e t with
  | none => rw [hl] at hu; simp at hu
  | some x => rw [hl] at hu; simp at hu; exact (kill_tag hu).1
theorem noTag_kill (g : Tg) (s : Vs) : NoTag g (s.kill g) := by
  unfold Vs.kill
  split
  · rename_i i off
    refine ⟨noTag_killE _ s, fun i' off' he cs w xs hc hx => ?_⟩
    cases he
    obtain ⟨hlt, _⟩ := List.getElem?_eq_some_iff.1 hx
    rw [setCell_get hc hlt] at hx
    cases hx
  · rename_i hno
    exact ⟨noTag_killE _ s, fun i off he => absurd he (hno i off)⟩
theorem NoTag.kill {g g' : Tg} {s : Vs} (h : NoTag g s) : NoTag g (s.kill g') := by
  have h1 : ∀ t u, look (Env.kill g' s.e) t = some u → u.tag ≠ some g := fun t u hu => by
    rw [look_kill] at hu
    cases hl : look s.e t with
    | none => rw [hl] at hu; simp at hu
    | some x =>
      rw [hl] at hu; simp at hu
      rcases (kill_tag hu).2 with rfl | rfl
      · exact h.1 t _ hl
      · simp [U.tag]
  unfold Vs.kill
  split
  · rename_i i off
    refine ⟨h1, fun i' off' he cs w xs hc hx => ?_⟩
    simp only at hc
    unfold setCell at hc
    split at hc
    · rename_i ds hi
      rw [List.getElem?_set] at hc
      split at hc
      · rename_i hii; subst hii
        split at hc <;> simp at hc
        subst hc
        rw [List.getElem?_set] at hx
        split at hx
        · split at hx <;> simp at hx
        · exact h.2 i off' he ds w xs hi hx
      · exact h.2 i' off' he cs w xs hc hx
    · exact h.2 i' off' he cs w xs hc hx
  · exact ⟨h1, h.2⟩
theorem Ok.setω (h : Ok E σ Z ω s e st) {g : Tg} (hn : NoTag g s) {o : Option OwnI} (hr : g ≠ .r)
    (ho : ∀ I, o = some I → st.get I.b = some (.row I.row) ∧ (∀ i, i < s.h.length → σ i ≠ I.b) ∧ Z I.b = none ∧ (∀ g' I', g' ≠ g → ω g' = some I' → I'.b ≠ I.b) ∧ (∀ b, b < E.st.next → ¬ E.I b → I.b ≠ b) ∧ ∀ i off, g = .c i off → i < s.h.length) :
    Ok E σ Z (updF ω g o) s e st := by
  have hne : ∀ g', g' ≠ g → updF ω g o g' = ω g' := fun g' hg => updF_ne ω o hg
  have hsame : updF ω g o g = o := updF_same ω g o
  have hcase : ∀ g' I, updF ω g o g' = some I → (g' = g ∧ o = some I) ∨ (g' ≠ g ∧ ω g' = some I) := fun g' I hI => by
    by_cases hg : g' = g
    · subst hg; rw [hsame] at hI; exact .inl ⟨rfl, hI⟩
    · rw [hne g' hg] at hI; exact .inr ⟨hg, hI⟩
  refine ⟨fun t u hu => ?_, fun i ob hob => ?_, h.zok, fun g' I hI => ?_, h.fresh, h.inj, fun g1 g2 I1 I2 h1 h2 hb => ?_, fun i g' I hi hI => ?_, h.sz, fun g' I hI => ?_, h.sb, ?_, fun i off I hI => ?_, h.n0, h.sig, h.zz, h.nx, fun b hb hbI => ?_, h.gn⟩
  · obtain ⟨v, h1, h2⟩ := h.env t u hu
    exact ⟨v, h1, h2.mono (Nat.le_refl _) (fun _ _ => rfl) (fun _ _ h => h) fun g' hg' => hne g' fun hh => hn.1 t u hu (hh ▸ hg')⟩
  · have h1 := h.obj i ob hob
    cases ob with
    | row cs =>
      obtain ⟨cs', q1, q2, q3⟩ := h1
      refine ⟨cs', q1, q2, fun off u v hu hv => ?_⟩
      have h2 := q3 off u v hu hv
      cases u with
      | cown w xs =>
        refine OR.mono (fun _ _ h => h) (hne _ fun hh => ?_) h2
        exact hn.2 i off hh.symm cs w xs hob hu
      | bad => trivial
      | _ => exact h2
    | map es c => exact h1
    | iter q a b c => exact h1
    | gone => trivial
  · rcases hcase g' I hI with ⟨_, hh⟩ | ⟨_, hh⟩
    · exact (ho I hh).1
    · exact h.wok g' I hh
  · rcases hcase g1 I1 h1 with ⟨e1, k1⟩ | ⟨e1, k1⟩ <;> rcases hcase g2 I2 h2 with ⟨e2, k2⟩ | ⟨e2, k2⟩
    · rw [e1, e2]
    · exact absurd hb.symm ((ho I1 k1).2.2.2.1 g2 I2 e2 k2)
    · exact absurd hb ((ho I2 k2).2.2.2.1 g1 I1 e1 k1)
    · exact h.winj g1 g2 I1 I2 k1 k2 hb
  · rcases hcase g' I hI with ⟨_, hh⟩ | ⟨_, hh⟩
    · exact (ho I hh).2.1 i hi
    · exact h.sw i g' I hi hh
  · rcases hcase g' I hI with ⟨_, hh⟩ | ⟨_, hh⟩
    · exact (ho I hh).2.2.1
    · exact h.wz g' I hh
  · rw [hne _ (Ne.symm hr)]; exact h.wr
  · rcases hcase _ I hI with ⟨hg, hh⟩ | ⟨_, hh⟩
    · exact (ho I hh).2.2.2.2.2 i off hg.symm
    · exact h.wc i off I hh
  · obtain ⟨k1, k2, k3, k4⟩ := h.out b hb hbI
    refine ⟨k1, k2, fun g' I hI => ?_, k4⟩
    rcases hcase g' I hI with ⟨_, hh⟩ | ⟨_, hh⟩
    · exact (ho I hh).2.2.2.2.1 b hb hbI
    · exact k3 g' I hh
theorem frz_tag {g : Tg} {u u' : U} (h : u.frz g = u') : u'.tag ≠ some g ∧ (u' = u ∨ u' = .bad ∨ ∃ w xs, u = .own g w xs ∧ u' = .sl w xs) := by
  subst h
  cases u with
  | own g' w xs => by_cases hg : g' = g <;> simp [U.frz, U.tag, hg]
  | optr g' i f => by_cases hg : g' = g <;> simp [U.frz, U.tag, hg]
  | _ => simp [U.frz, U.tag]
theorem OR.sl {g : Tg} {w : Nat} {xs : List (List U)} {v : V} (h : OR σ Z ω g w xs v) (hZ : ∀ b r, Z b = some r → Z' b = some r) (hI : ∀ I, ω g = some I → Z' I.b = some I.row) : UR σ Z' n (.sl w xs) v := by
  unfold OR at h
  split at h
  · obtain ⟨rfl, rfl | rfl⟩ := h
    · exact .slnil
    · exact .slz
  · rename_i I hg
    obtain ⟨rfl, h0, h1, h2, h3, h4⟩ := h
    have hle : xs.length * w ≤ I.cap * w := Nat.mul_le_mul_right _ h1
    have h4' := h4.mono (Nat.le_refl 0) (σ' := σ) (fun i hi => rfl) hZ
    exact .slZ rfl (hI I hg) h3 h1 (by omega) fun j u v a b => h4'.2 j u v a b
theorem Ok.frz (h : Ok E σ Z ω s e st) (g : Tg) : ∃ Z' ω', Ok E σ Z' ω' (s.frz g) e st ∧ (∀ b r, Z b = some r → Z' b = some r) ∧ (∀ g', g' ≠ g → ω' g' = ω g') ∧ NoTag g (s.frz g) ∧ (∀ I, ω g = some I → Z' I.b = some I.row) ∧ (s.frz g).h.length = s.h.length := by
  -- what is told of the cells
  have key : ∀ (s1 : Vs), s1.h.length = s.h.length → (∀ (i : Nat), s.h[i]? = some Uo.gone → s1.h[i]? = some Uo.gone) → NoTag g s1 →
      (∀ (Z' : Zs), (∀ b r, Z b = some r → Z' b = some r) → (∀ I, ω g = some I → Z' I.b = some I.row) → ∀ (ω' : Om), (∀ g', g' ≠ g → ω' g' = ω g') →
        (∀ t u, look s1.e t = some u → ∃ v, e.get t = some v ∧ TR σ Z' ω' s.h.length u v) ∧ ∀ (i : Nat) o, s1.h[i]? = some o → OB σ Z' ω' s.h.length i o (st.get (σ i))) →
      ∃ Z' ω', Ok E σ Z' ω' s1 e st ∧ (∀ b r, Z b = some r → Z' b = some r) ∧ (∀ g', g' ≠ g → ω' g' = ω g') ∧ NoTag g s1 ∧ (∀ I, ω g = some I → Z' I.b = some I.row) ∧ s1.h.length = s.h.length := by
    intro s1 hl hgo hnt hk
    have hgn : ∀ j, E.G j → j < E.n ∧ s1.h[j]? = some .gone ∧ st.get (σ j) = E.st.get (E.σ j) := fun j hj => ⟨(h.gn j hj).1, hgo j (h.gn j hj).2.1, (h.gn j hj).2.2⟩
    cases hg : ω g with
    | none =>
      obtain ⟨k1, k2⟩ := hk Z (fun _ _ h => h) (fun I hI => by rw [hg] at hI; cases hI) ω (fun _ _ => rfl)
      refine ⟨Z, ω, ⟨by rw [hl]; exact k1, by rw [hl]; exact k2, h.zok, h.wok, h.fresh, by rw [hl]; exact h.inj, h.winj, by rw [hl]; exact h.sw, by rw [hl]; exact h.sz, h.wz, by rw [hl]; exact h.sb, h.wr, by rw [hl]; exact h.wc,
        by rw [hl]; exact h.n0, h.sig, h.zz, h.nx, by rw [hl]; exact h.out, hgn⟩, fun _ _ h => h, fun _ _ => rfl, hnt, (fun I hI => by cases hI), hl⟩
    | some I =>
      have hZn : Z I.b = none := h.wz g I hg
      have hZ : ∀ b r, Z b = some r → updF Z I.b (some I.row) b = some r := fun b r hb => by
        rw [updF_ne]; exact hb
        intro hh; subst hh; rw [hZn] at hb; cases hb
      have hω : ∀ g', g' ≠ g → updF ω g none g' = ω g' := fun g' hh => updF_ne _ _ hh
      have hzc : ∀ b r, updF Z I.b (some I.row) b = some r → (b = I.b ∧ r = I.row) ∨ Z b = some r := fun b r hb => by
        by_cases hbb : b = I.b
        · subst hbb; rw [updF_same] at hb; simp at hb; exact .inl ⟨rfl, hb.symm⟩
        · rw [updF_ne _ _ hbb] at hb; exact .inr hb
      have hwc : ∀ g' J, updF ω g none g' = some J → g' ≠ g ∧ ω g' = some J := fun g' J hJ => by
        by_cases hgg : g' = g
        · subst hgg; rw [updF_same] at hJ; cases hJ
        · rw [updF_ne _ _ hgg] at hJ; exact ⟨hgg, hJ⟩
      have hIn : ∀ J, some I = some J → updF Z I.b (some I.row) J.b = some J.row := fun J hJ => by cases hJ; exact updF_same _ _ _
      obtain ⟨k1, k2⟩ := hk (updF Z I.b (some I.row)) hZ (fun J hJ => hIn J (hg ▸ hJ)) (updF ω g none) hω
      refine ⟨_, _, ⟨by rw [hl]; exact k1, by rw [hl]; exact k2, fun b r hb => ?_, fun g' J hJ => h.wok g' J (hwc g' J hJ).2, h.fresh, by rw [hl]; exact h.inj, fun g1 g2 J1 J2 h1 h2 => h.winj g1 g2 J1 J2 (hwc _ _ h1).2 (hwc _ _ h2).2,
        fun i g' J hi hJ => h.sw i g' J (by omega) (hwc _ _ hJ).2, fun i hi => ?_, fun g' J hJ => ?_, by rw [hl]; exact h.sb, ?_, fun i off J hJ => by rw [hl]; exact h.wc i off J (hwc _ _ hJ).2,
        by rw [hl]; exact h.n0, h.sig, fun b r hb => hZ b r (h.zz b r hb), h.nx, fun b hb hbI => ?_, hgn⟩, hZ, hω, hnt, hIn, hl⟩
      · rcases hzc b r hb with ⟨rfl, rfl⟩ | hb
        · exact h.wok g I hg
        · exact h.zok b r hb
      · rw [updF_ne _ _ (h.sw i g I (by omega) hg)]; exact h.sz i (by omega)
      · obtain ⟨j1, j2⟩ := hwc g' J hJ
        rw [updF_ne]; exact h.wz g' J j2
        intro hh; exact j1 (h.winj g' g J I j2 hg hh)
      · by_cases hgr : Tg.r = g
        · subst hgr; exact updF_same _ _ _
        · rw [updF_ne _ _ hgr]; exact h.wr
      · obtain ⟨q1, q2, q3, q4⟩ := h.out b hb hbI
        refine ⟨q1, by rw [hl]; exact q2, fun g' J hJ => q3 g' J (hwc _ _ hJ).2, fun r hr => ?_⟩
        rcases hzc b r hr with ⟨rfl, _⟩ | hr
        · exact absurd rfl (q3 g I hg)
        · exact q4 r hr
  -- the temporaries
  have henv : ∀ (Z' : Zs), (∀ b r, Z b = some r → Z' b = some r) → (∀ I, ω g = some I → Z' I.b = some I.row) → ∀ (ω' : Om), (∀ g', g' ≠ g → ω' g' = ω g') →
      ∀ t u, look (Env.frz g s.e) t = some u → ∃ v, e.get t = some v ∧ TR σ Z' ω' s.h.length u v := by
    intro Z' hZ hI ω' hω t u hu
    rw [look_frz] at hu
    cases hl : look s.e t with
    | none => rw [hl] at hu; simp at hu
    | some x =>
      rw [hl] at hu; simp at hu
      obtain ⟨v, h1, h2⟩ := h.env t x hl
      refine ⟨v, h1, ?_⟩
      obtain ⟨f1, f2⟩ := frz_tag hu
      rcases f2 with rfl | rfl | ⟨w, xs, rfl, rfl⟩
      · exact h2.mono (Nat.le_refl _) (fun _ _ => rfl) hZ fun g' hg' => hω g' fun hh => f1 (hh ▸ hg')
      · trivial
      · exact TR.of_ur (h2.1.sl hZ hI)
  have henvk : ∀ (Z' : Zs), (∀ b r, Z b = some r → Z' b = some r) → ∀ (ω' : Om), (∀ g', g' ≠ g → ω' g' = ω g') →
      ∀ t u, look (Env.kill g s.e) t = some u → ∃ v, e.get t = some v ∧ TR σ Z' ω' s.h.length u v := by
    intro Z' hZ ω' hω t u hu
    rw [look_kill] at hu
    cases hl : look s.e t with
    | none => rw [hl] at hu; simp at hu
    | some x =>
      rw [hl] at hu; simp at hu
      obtain ⟨v, h1, h2⟩ := h.env t x hl
      refine ⟨v, h1, ?_⟩
      obtain ⟨f1, f2⟩ := kill_tag hu
      rcases f2 with rfl | rfl
      · exact h2.mono (Nat.le_refl _) (fun _ _ => rfl) hZ fun g' hg' => hω g' fun hh => f1 (hh ▸ hg')
      · trivial
  have hnf : ∀ t u, look (Env.frz g s.e) t = some u → u.tag ≠ some g := fun t u hu => by
    rw [look_frz] at hu
    cases hl : look s.e t with
    | none => rw [hl] at hu; simp at hu
    | some x => rw [hl] at hu; simp at hu; exact (frz_tag hu).1
  have hobj : ∀ (Z' : Zs), (∀ b r, Z b = some r → Z' b = some r) → ∀ (ω' : Om), (∀ g', g' ≠ g → ω' g' = ω g') → ∀ (i : Nat) o, s.h[i]? = some o →
      (∀ off cs w xs, g = .c i off → o = .row cs → cs[off]? ≠ some (.cown w xs)) → OB σ Z' ω' s.h.length i o (st.get (σ i)) := by
    intro Z' hZ ω' hω i o ho hno
    have h1 := h.obj i o ho
    cases o with
    | row cs =>
      obtain ⟨cs', q1, q2, q3⟩ := h1
      refine ⟨cs', q1, q2, fun off u v hu hv => ?_⟩
      have h2 := q3 off u v hu hv
      cases u with
      | bad => trivial
      | cown w xs =>
        refine OR.mono hZ (hω _ fun hh => ?_) h2
        exact hno off cs w xs hh.symm rfl hu
      | _ => exact UR.mono (Nat.le_refl _) (fun _ _ => rfl) hZ h2
    | map es c => exact h1.mono (Nat.le_refl _) (fun _ _ => rfl) hZ (ω' := ω) (fun _ => rfl)
    | iter q a b c => exact h1
    | gone => trivial
  unfold Vs.frz
  split
  · rename_i i off
    split
    · rename_i cs hi
      have hlt : i < s.h.length := (List.getElem?_eq_some_iff.1 hi).1
      split
      · rename_i w xs hc
        have hoff : off < cs.length := (List.getElem?_eq_some_iff.1 hc).1
        refine key _ (by simp) (fun j hj => by simp only; rw [List.getElem?_set, if_neg (by rintro rfl; rw [hi] at hj; cases hj)]; exact hj) ⟨hnf, fun i' off' he cs' w' xs' hh hx => ?_⟩ fun Z' hZ hI ω' hω => ⟨henv Z' hZ hI ω' hω, fun j o ho => ?_⟩
        · cases he
          rw [List.getElem?_set, if_pos rfl, if_pos hlt] at hh
          simp at hh; subst hh
          rw [List.getElem?_set, if_pos rfl, if_pos hoff] at hx
          simp at hx
        · rw [List.getElem?_set] at ho
          by_cases hj : i = j
          · subst hj
            rw [if_pos rfl, if_pos hlt] at ho
            simp at ho; subst ho
            obtain ⟨cs', q1, q2, q3⟩ := h.obj i _ hi
            refine ⟨cs', q1, by rw [List.length_set]; exact q2, fun o u v hu hv => ?_⟩
            rw [List.getElem?_set] at hu
            by_cases ho : off = o
            · subst ho
              rw [if_pos rfl, if_pos hoff] at hu
              simp at hu; subst hu
              exact CR.of_ur (OR.sl (q3 off _ v hc hv) hZ hI)
            · rw [if_neg ho] at hu
              have h2 := q3 o u v hu hv
              exact h2.mono (Nat.le_refl _) (fun _ _ => rfl) hZ (hω _ fun hh => ho (by simp at hh; omega))
          · rw [if_neg hj] at ho
            exact hobj Z' hZ ω' hω j o ho fun off' cs' w' xs' he _ => by simp at he; exact absurd he.1 hj
      · rename_i hno
        refine key _ rfl (fun _ h => h) ⟨noTag_killE _ s, fun i' off' he cs' w' xs' hh hx => ?_⟩ fun Z' hZ hI ω' hω => ⟨henvk Z' hZ ω' hω, fun j o ho => hobj Z' hZ ω' hω j o ho fun off' cs' w' xs' he hoo hx => ?_⟩
        · cases he
          rw [hi] at hh; simp at hh; subst hh
          exact hno w' xs' hx
        · cases he
          rw [hi] at ho; simp at ho; subst ho
          simp at hoo; subst hoo
          exact hno w' xs' hx
    · rename_i hno
      refine key _ rfl (fun _ h => h) ⟨noTag_killE _ s, fun i' off' he cs' w' xs' hh hx => ?_⟩ fun Z' hZ hI ω' hω => ⟨henvk Z' hZ ω' hω, fun j o ho => hobj Z' hZ ω' hω j o ho fun off' cs' w' xs' he hoo hx => ?_⟩
      · cases he; exact hno _ hh
      · cases he; subst hoo; exact hno _ ho
  · rename_i hno
    exact key _ rfl (fun _ h => h) ⟨hnf, fun i off he => absurd he (hno i off)⟩ fun Z' hZ hI ω' hω => ⟨henv Z' hZ hI ω' hω, fun j o ho => hobj Z' hZ ω' hω j o ho fun off cs w xs he => absurd he (hno j off)⟩
end
end Go.RE
namespace Go.RE
section
variable {E : Ent} {σ : Sg} {Z : Zs} {ω : Om} {s s' : Vs} {e : PT V} {st : St} {n : Nat}
mutual
theorem const_ur : ∀ (v : V), (v.toU ≠ .bad) → (∀ g w xs, v.toU ≠ .own g w xs) → (∀ w xs, v.toU ≠ .cown w xs) → UR σ Z n v.toU v.er
  | .bool b, _, _, _ => .bool b
  | .int k x, _, _, _ => .int k x
  | .str s, _, _, _ => .str s
  | .nilp, _, _, _ => .nilp
  | .nils, _, _, _ => .nils
  | .nilm, _, _, _ => .nilm
  | .nilf, _, _, _ => .nilf
  | .nili, _, _, _ => .nili
  | .zslice, h, _, _ => absurd rfl h
  | .ptr _ _, h, _, _ => absurd rfl h
  | .cptr _ _, h, _, _ => absurd rfl h
  | .slice .., h, _, _ => absurd rfl h
  | .map _, h, _, _ => absurd rfl h
  | .cslice [] 0 0 w, _, _, _ => .slnil
  | .cslice [] 1 0 w, _, h, _ => absurd rfl (h _ _ _)
  | .cslice [] 2 0 w, _, _, h => absurd rfl (h _ _)
  | .cslice [] 3 0 w, _, _, _ => .nl1
  | .cslice [] (k + 4) 0 w, h, _, _ => absurd rfl h
  | .cslice [] 0 (l + 1) w, h, _, _ => absurd rfl h
  | .cslice [] 1 (l + 1) w, h, _, _ => absurd rfl h
  | .cslice [] 2 (l + 1) w, h, _, _ => absurd rfl h
  | .cslice [] 3 (l + 1) w, h, _, _ => absurd rfl h
  | .cslice [] (k + 4) (l + 1) w, h, _, _ => absurd rfl h
  | .cslice (a :: r) o l w, h, _, _ => absurd rfl h
  | .func f a b, h, _, _ => by
    simp only [V.toU, V.er] at h ⊢
    cases hc : ((V.toUs a).all U.cellok && (V.toUs b).all U.cellok) with
    | false => rw [hc] at h; exact absurd rfl h
    | true =>
      simp only [Bool.and_eq_true] at hc
      have h1 := consts_lu a hc.1
      have h2 := consts_lu b hc.2
      simp only [hc.1, hc.2, Bool.and_self, cond_true]
      exact .func h1.1 h2.1 h1.2 h2.2
  | .iface t v, h, _, _ => by
    simp only [V.toU, V.er] at h ⊢
    cases hc : v.toU.cellok with
    | false => rw [hc] at h; exact absurd rfl h
    | true =>
      simp only [cond_true]
      exact .iface (const_ur v (fun hh => by rw [hh] at hc; cases hc) (fun g w xs hh => by rw [hh] at hc; cases hc) (fun w xs hh => by rw [hh] at hc; cases hc))
  | .agg cs, h, _, _ => by
    simp only [V.toU, V.er] at h ⊢
    cases hc : (V.toUs cs).all U.cellok with
    | false => rw [hc] at h; exact absurd rfl h
    | true =>
      have h1 := consts_lu cs hc
      simp only [cond_true]
      exact .agg h1.1 h1.2
  | .tup cs, h, _, _ => by
    simp only [V.toU, V.er] at h ⊢
    cases hc : (V.toUs cs).all U.cellok with
    | false => rw [hc] at h; exact absurd rfl h
    | true =>
      have h1 := consts_lu cs hc
      simp only [cond_true]
      exact .tup h1.1 h1.2
theorem consts_lu : ∀ (vs : List V), (V.toUs vs).all U.cellok = true → LU σ Z n (V.toUs vs) (V.ers vs)
  | [], _ => LU.nil
  | v :: vs, h => by
    simp only [V.toUs, List.all_cons, Bool.and_eq_true] at h
    exact LU.cons (const_ur v (fun hh => by rw [hh] at h; cases h.1) (fun g w xs hh => by rw [hh] at h; cases h.1) (fun w xs hh => by rw [hh] at h; cases h.1)) (consts_lu vs h.2)
end
theorem toP_ur {v : V} {u : U} (h : v.toP = some u) : UR σ Z n u v.er := by
  unfold V.toP at h
  have := const_ur (σ := σ) (Z := Z) (n := n) v
  generalize v.toU = x at h this
  cases x <;> simp at h <;> subst h <;> exact this (by simp) (by simp) (by simp)
theorem const_own {v : V} : ∀ {g w xs}, v.toU = .own g w xs → g = .r ∧ xs = [] ∧ v.er = .nils := by
  intro g w xs h
  cases v with
  | cslice r o l z =>
    match r, o, l with
    | [], 0, 0 => simp [V.toU] at h
    | [], 1, 0 => simp [V.toU] at h; exact ⟨h.1.symm, h.2.2, rfl⟩
    | [], 2, 0 => simp [V.toU] at h
    | [], 3, 0 => simp [V.toU] at h
    | [], k + 4, 0 => simp [V.toU] at h
    | [], _, l + 1 => simp [V.toU] at h
    | a :: r, _, _ => simp [V.toU] at h
  | func f a b => simp only [V.toU] at h; generalize (_ && _ : Bool) = c at h; cases c <;> simp at h
  | iface t v => simp only [V.toU] at h; generalize U.cellok _ = c at h; cases c <;> simp at h
  | agg cs => simp only [V.toU] at h; generalize List.all _ _ = c at h; cases c <;> simp at h
  | tup cs => simp only [V.toU] at h; generalize List.all _ _ = c at h; cases c <;> simp at h
  | _ => simp [V.toU] at h
theorem Ok.opd (h : Ok E σ Z ω s e st) {x : Opd} {u : U} (hu : evO s.e x = some u) : ∃ v, x.er.ev e = some v ∧ TR σ Z ω s.h.length u v := by
  cases x with
  | t t => exact h.env t u hu
  | c v =>
    simp only [evO, Option.some.injEq] at hu
    refine ⟨v.er, rfl, ?_⟩
    subst hu
    have hc := const_ur (σ := σ) (Z := Z) (n := s.h.length) v
    cases hq : v.toU with
    | bad => trivial
    | cown w xs => trivial
    | own g w xs =>
      obtain ⟨rfl, rfl, he⟩ := const_own hq
      refine ⟨?_, fun i off hh => by cases hh⟩
      unfold OR; rw [h.wr, he]; exact ⟨rfl, .inl rfl⟩
    | _ => rw [← hq]; exact TR.of_ur (hc (by rw [hq]; simp) (by rw [hq]; simp) (by rw [hq]; simp))
theorem TR.bool {b : Bool} {v : V} (h : TR σ Z ω n (.bool b) v) : v = .bool b := by cases h; rfl
theorem TR.int {k : IntKind} {x : Int} {v : V} (h : TR σ Z ω n (.int k x) v) : v = .int k x := by cases h; rfl
theorem TR.str {b : List UInt8} {v : V} (h : TR σ Z ω n (.str b) v) : v = .str b := by cases h; rfl
theorem TR.ptr {i off : Nat} {v : V} (h : TR σ Z ω n (.ptr i off) v) : i < n ∧ v = .ptr (σ i) off := by cases h; exact ⟨‹_›, rfl⟩
theorem TR.map {i : Nat} {v : V} (h : TR σ Z ω n (.map i) v) : i < n ∧ v = .map (σ i) := by cases h; exact ⟨‹_›, rfl⟩
theorem TR.nilm {v : V} (h : TR σ Z ω n .nilm v) : v = .nilm := by cases h; rfl
theorem TR.nili {v : V} (h : TR σ Z ω n .nili v) : v = .nili := by cases h; rfl
theorem TR.agg {cs : List U} {v : V} (h : TR σ Z ω n (.agg cs) v) : ∃ cs', v = .agg cs' ∧ LU σ Z n cs cs' := by cases h; exact ⟨_, rfl, ‹_›, ‹_›⟩
theorem TR.tup {cs : List U} {v : V} (h : TR σ Z ω n (.tup cs) v) : ∃ cs', v = .tup cs' ∧ LU σ Z n cs cs' := by cases h; exact ⟨_, rfl, ‹_›, ‹_›⟩
theorem TR.iface {t : Nat} {u : U} {v : V} (h : TR σ Z ω n (.iface t u) v) : ∃ v', v = .iface t v' ∧ UR σ Z n u v' := by cases h; exact ⟨_, rfl, ‹_›⟩
theorem TR.func {f : Nat} {a b : List U} {v : V} (h : TR σ Z ω n (.func f a b) v) : ∃ a' b', v = .func f a' b' ∧ LU σ Z n a a' ∧ LU σ Z n b b' := by cases h; exact ⟨_, _, rfl, ⟨‹_›, ‹_›⟩, ⟨‹_›, ‹_›⟩⟩
theorem toV_tr {u : U} {x v : V} (hx : u.toV = some x) (h : TR σ Z ω n u v) : v = x := by
  cases u <;> simp [U.toV] at hx <;> subst hx
  · exact TR.bool h
  · exact TR.int h
  · exact TR.str h
theorem ofV_tr {u : U} {x : V} (hx : U.ofV x = some u) : UR σ Z n u x := by
  cases x <;> simp [U.ofV] at hx <;> subst hx
  · exact .bool _
  · exact .int _ _
  · exact .str _
theorem upV_tr {o : Option V} {u : U} (h : upV o = some u) : ∃ x, o = some x ∧ UR σ Z n u x := by
  cases o with
  | none => simp [upV] at h
  | some x => exact ⟨x, rfl, ofV_tr h⟩
theorem UR.cells {u : U} {v : V} (h : UR σ Z n u v) : LU σ Z n u.cells v.cells := by
  cases h with
  | agg ha va => exact ⟨ha, va⟩
  | bool b => exact LU.cons (.bool b) .nil
  | int k x => exact LU.cons (.int k x) .nil
  | str b => exact LU.cons (.str b) .nil
  | nilp => exact LU.cons .nilp .nil
  | nils => exact LU.cons .nils .nil
  | nilm => exact LU.cons .nilm .nil
  | nilf => exact LU.cons .nilf .nil
  | nili => exact LU.cons .nili .nil
  | ptr h => exact LU.cons (.ptr h) .nil
  | map h => exact LU.cons (.map h) .nil
  | cptrZ a b c => exact LU.cons (.cptrZ a b c) .nil
  | cptrC a b => exact LU.cons (.cptrC a b) .nil
  | slnil => exact LU.cons .slnil .nil
  | slz => exact LU.cons .slz .nil
  | nl1 => exact LU.cons .nl1 .nil
  | nl2 => exact LU.cons .nl2 .nil
  | slZ a b c d f g => exact LU.cons (.slZ a b c d f g) .nil
  | slC a b c d => exact LU.cons (.slC a b c d) .nil
  | func a b c d => exact LU.cons (.func a b c d) .nil
  | iface a => exact LU.cons (.iface a) .nil
  | tup a b => exact LU.cons (.tup a b) .nil
theorem Ok.esc (h : Ok E σ Z ω s e st) {u u' : U} {v : V} (hu : TR σ Z ω s.h.length u v) (he : esc u s = some (u', s')) :
    ∃ Z' ω', Ok E σ Z' ω' s' e st ∧ UR σ Z' s.h.length u' v ∧ s'.h.length = s.h.length ∧ ∀ b r, Z b = some r → Z' b = some r := by
  cases u with
  | own g w xs =>
    simp only [RE.esc, Option.some.injEq, Prod.mk.injEq] at he
    obtain ⟨rfl, rfl⟩ := he
    obtain ⟨Z', ω', h1, h2, h3, h4, h5, h6⟩ := h.frz g
    exact ⟨Z', ω', h1, hu.1.sl h2 h5, h6, h2⟩
  | bad => simp [RE.esc] at he
  | cown w xs => simp [RE.esc] at he
  | optr g i f => simp [RE.esc] at he
  | asl i o l w => simp [RE.esc] at he
  | tup vs => simp [RE.esc] at he
  | _ =>
    simp only [RE.esc, Option.some.injEq, Prod.mk.injEq] at he
    obtain ⟨rfl, rfl⟩ := he
    exact ⟨Z, ω, h, hu, rfl, fun _ _ h => h⟩
theorem Ok.escO (h : Ok E σ Z ω s e st) {x : Opd} {u' : U} (he : escO x s = some (u', s')) :
    ∃ Z' ω' v, x.er.ev e = some v ∧ Ok E σ Z' ω' s' e st ∧ UR σ Z' s.h.length u' v ∧ s'.h.length = s.h.length ∧ ∀ b r, Z b = some r → Z' b = some r := by
  unfold RE.escO at he
  cases hx : evO s.e x with
  | none => rw [hx] at he; simp at he
  | some u =>
    rw [hx] at he
    obtain ⟨v, h1, h2⟩ := h.opd hx
    obtain ⟨Z', ω', h3⟩ := h.esc h2 he
    exact ⟨Z', ω', v, h1, h3⟩
theorem Ok.escOs : ∀ {xs : List Opd} {s s' : Vs} {Z : Zs} {ω : Om} {us : List U}, Ok E σ Z ω s e st → escOs xs s = some (us, s') →
    ∃ Z' ω' vs, evL e (opdsEr xs) = some vs ∧ Ok E σ Z' ω' s' e st ∧ LU σ Z' s.h.length us vs ∧ s'.h.length = s.h.length ∧ ∀ b r, Z b = some r → Z' b = some r := by
  intro xs
  induction xs with
  | nil =>
    intro s s' Z ω us h he
    simp [RE.escOs] at he
    obtain ⟨rfl, rfl⟩ := he
    exact ⟨Z, ω, [], rfl, h, .nil, rfl, fun _ _ h => h⟩
  | cons x xs ih =>
    intro s s' Z ω us h he
    simp only [RE.escOs] at he
    cases hx : RE.escO x s with
    | none => rw [hx] at he; simp at he
    | some r =>
      obtain ⟨u, s1⟩ := r
      rw [hx] at he
      simp only at he
      cases hr : RE.escOs xs s1 with
      | none => rw [hr] at he; simp at he
      | some r =>
        obtain ⟨us', s2⟩ := r
        rw [hr] at he
        simp only [Option.some.injEq, Prod.mk.injEq] at he
        obtain ⟨rfl, rfl⟩ := he
        obtain ⟨Z1, ω1, v, a1, a2, a3, a4, a5⟩ := h.escO hx
        obtain ⟨Z2, ω2, vs, b1, b2, b3, b4, b5⟩ := ih a2 hr
        refine ⟨Z2, ω2, v :: vs, by simp only [opdsEr, evL, a1, b1], b2, LU.cons (a3.mono (Nat.le_refl _) (fun _ _ => rfl) b5) (by rw [← a4]; exact b3), by omega, fun b r hb => b5 b r (a5 b r hb)⟩
theorem spl_lu {a : List U} {b : List V} {off : Nat} {us : List U} {vs : List V} (h : LU σ Z n a b) (hs : LU σ Z n us vs) : LU σ Z n (splU a off us) (spl b off vs) := by
  unfold splU spl
  rw [hs.1]
  exact ((h.take off).append hs).append (h.drop _)
theorem splU_length {a : List U} {off : Nat} {us : List U} (h : off + us.length ≤ a.length) : (splU a off us).length = a.length := by
  simp [splU]; omega
theorem Ok.fill : ∀ {parts : List (Nat × Nat × Opd)} {s s' : Vs} {Z : Zs} {ω : Om} {us cs : List U} {vs : List V}, Ok E σ Z ω s e st → LU σ Z s.h.length us vs → fillU parts us s = some (cs, s') →
    ∃ Z' ω' ws, fillV e vs (partsEr parts) = some ws ∧ Ok E σ Z' ω' s' e st ∧ LU σ Z' s.h.length cs ws ∧ s'.h.length = s.h.length ∧ ∀ b r, Z b = some r → Z' b = some r := by
  intro parts
  induction parts with
  | nil =>
    intro s s' Z ω us cs vs h hl he
    simp [fillU] at he
    obtain ⟨rfl, rfl⟩ := he
    exact ⟨Z, ω, vs, rfl, h, hl, rfl, fun _ _ h => h⟩
  | cons p parts ih =>
    intro s s' Z ω us cs vs h hl he
    obtain ⟨off, size, x⟩ := p
    simp only [fillU] at he
    cases hx : RE.escO x s with
    | none => rw [hx] at he; simp at he
    | some r =>
      obtain ⟨u, s1⟩ := r
      rw [hx] at he
      simp only at he
      obtain ⟨Z1, ω1, v, a1, a2, a3, a4, a5⟩ := h.escO hx
      have hc := a3.cells
      cases hb : (Nat.beq u.cells.length size && Nat.ble (off + u.cells.length) us.length) with
      | false => rw [hb] at he; simp at he
      | true =>
        rw [hb] at he
        simp only [cond_true] at he
        have hl1 := hl.mono (Nat.le_refl _) (σ' := σ) (fun _ _ => rfl) a5
        obtain ⟨Z2, ω2, ws, b1, b2, b3, b4, b5⟩ := ih (vs := spl vs off v.cells) a2 (by rw [a4]; exact spl_lu hl1 hc) he
        refine ⟨Z2, ω2, ws, ?_, b2, by rw [← a4]; exact b3, by omega, fun b r hb => b5 b r (a5 b r hb)⟩
        simp only [partsEr, fillV, a1]
        rw [hc.1, hl.1] at hb
        rw [hb]; exact b1
theorem asNat_tr {u : U} {v : V} {most k : Nat} (h : asNatU u most = some k) (hu : TR σ Z ω n u v) : asNat v most = some k := by
  cases u <;> simp [asNatU] at h
  rw [TR.int hu]; exact h
theorem Ok.optNat (h : Ok E σ Z ω s e st) {x : Option Opd} {d most k : Nat} (hx : optNatU s.e x d most = some k) : optNat e (optEr x) d most = some k := by
  cases x with
  | none => exact hx
  | some x =>
    simp only [optNatU] at hx
    cases hq : evO s.e x with
    | none => rw [hq] at hx; simp at hx
    | some u =>
      rw [hq] at hx
      obtain ⟨v, h1, h2⟩ := h.opd hq
      simp only [optEr, RE.optNat, h1]
      exact asNat_tr hx h2
theorem load_lu {cs : List U} {cs' : List V} {k : Option Nat} {off : Nat} {u : U} (h : LU σ Z n cs cs') (hl : loadU k cs off = some u) : ∃ v, loadRow k cs' off = some v ∧ UR σ Z n u v := by
  cases k with
  | none =>
    simp only [loadU] at hl
    cases hq : cs[off]? with
    | none => rw [hq] at hl; simp at hl
    | some x =>
      rw [hq] at hl
      simp only at hl
      cases hc : x.notC with
      | false => rw [hc] at hl; simp at hl
      | true =>
        rw [hc] at hl; simp at hl; subst hl
        obtain ⟨v, h1, h2⟩ := h.get hq
        exact ⟨v, h1, h2⟩
  | some k =>
    simp only [loadU] at hl
    cases hb : (Nat.ble (off + k) cs.length && ((cs.drop off).take k).all U.notC) with
    | false => rw [hb] at hl; simp at hl
    | true =>
      rw [hb] at hl; simp at hl; subst hl
      simp only [Bool.and_eq_true] at hb
      rw [h.1] at hb
      have h1 := (h.drop off).take k
      exact ⟨_, by simp only [loadRow, hb.1, cond_true], .agg h1.1 h1.2⟩
theorem flat_row {w : Nat} : ∀ {xs : List (List U)}, (∀ r ∈ xs, r.length = w) → ∀ {i : Nat} {r : List U}, xs[i]? = some r → i * w + w ≤ xs.flatten.length ∧ (xs.flatten.drop (i * w)).take w = r := by
  intro xs
  induction xs with
  | nil => intro _ i r h; simp at h
  | cons x xs ih =>
    intro hw i r h
    have hx := hw x List.mem_cons_self
    cases i with
    | zero =>
      simp at h; subst h
      simp only [List.flatten_cons, Nat.zero_mul, List.drop_zero, List.length_append]
      exact ⟨by omega, by rw [List.take_append_of_le_length (by omega), List.take_of_length_le (by omega)]⟩
    | succ i =>
      simp at h
      obtain ⟨h1, h2⟩ := ih (fun r hr => hw r (List.mem_cons_of_mem _ hr)) h
      simp only [List.flatten_cons, List.length_append, Nat.succ_mul]
      refine ⟨by omega, ?_⟩
      rw [show i * w + w = x.length + i * w by omega, ← List.drop_drop, List.drop_left]; exact h2
theorem flat_len {w : Nat} : ∀ {xs : List (List U)}, (∀ r ∈ xs, r.length = w) → xs.flatten.length = xs.length * w := by
  intro xs
  induction xs with
  | nil => intro _; simp
  | cons x xs ih =>
    intro hw
    have hx := hw x List.mem_cons_self
    simp only [List.flatten_cons, List.length_append, List.length_cons, Nat.succ_mul, ih (fun r hr => hw r (List.mem_cons_of_mem _ hr))]; omega
theorem flat_take {w : Nat} {xs : List (List U)} (hw : ∀ r ∈ xs, r.length = w) (k : Nat) : (xs.take k).flatten = xs.flatten.take (k * w) := by
  induction xs generalizing k with
  | nil => simp
  | cons x xs ih =>
    have hx := hw x List.mem_cons_self
    cases k with
    | zero => simp
    | succ k =>
      simp only [List.take_succ_cons, List.flatten_cons, ih (fun r hr => hw r (List.mem_cons_of_mem _ hr)), Nat.succ_mul]
      rw [List.take_append, List.take_of_length_le (l := x) (by omega), hx, Nat.add_sub_cancel]
theorem flat_drop {w : Nat} {xs : List (List U)} (hw : ∀ r ∈ xs, r.length = w) (k : Nat) : (xs.drop k).flatten = xs.flatten.drop (k * w) := by
  induction xs generalizing k with
  | nil => simp
  | cons x xs ih =>
    have hx := hw x List.mem_cons_self
    cases k with
    | zero => simp
    | succ k =>
      simp only [List.drop_succ_cons, List.flatten_cons, ih (fun r hr => hw r (List.mem_cons_of_mem _ hr)), Nat.succ_mul]
      rw [show k * w + w = x.length + k * w by omega, ← List.drop_drop, List.drop_left]
end
end Go.RE
namespace Go.RE
section
variable {E : Ent} {σ : Sg} {Z : Zs} {ω : Om} {s s' : Vs} {e : PT V} {st : St} {n : Nat}
theorem row_get {b : Nat} {r : List V} (h : st.get b = some (.row r)) : st.row b = some r := by unfold St.row; rw [h]
theorem ownE_or (h : Ok E σ Z ω s e st) {g : Tg} {w : Nat} {xs : List (List U)} : ∀ {r : Env}, Env.ownC g s.e r = some (w, xs) → ∃ v, OR σ Z ω g w xs v := by
  intro r
  induction r with
  | nil => intro h; cases h
  | cons x r ih =>
    intro hx
    obtain ⟨k, u⟩ := x
    cases u with
    | own g' w' xs' =>
      simp only [Env.ownC] at hx
      split at hx
      · split at hx
        · rename_i g2 w2 xs2 hl
          split at hx
          · rename_i hg; subst hg
            simp only [Option.some.injEq, Prod.mk.injEq] at hx
            obtain ⟨rfl, rfl⟩ := hx
            obtain ⟨v, _, h2⟩ := h.env _ _ hl
            exact ⟨v, h2.1⟩
          · exact ih hx
        · exact ih hx
      · exact ih hx
    | _ => exact ih hx
theorem ownC_or (h : Ok E σ Z ω s e st) {g : Tg} {w : Nat} {xs : List (List U)} (hx : s.ownC g = some (w, xs)) : ∃ v, OR σ Z ω g w xs v := by
  unfold Vs.ownC at hx
  split at hx
  · rename_i i off
    split at hx <;> try (cases hx; done)
    rename_i cs hi
    split at hx <;> try (cases hx; done)
    rename_i w' xs' hc
    simp only [Option.some.injEq, Prod.mk.injEq] at hx
    obtain ⟨rfl, rfl⟩ := hx
    obtain ⟨cs', h1, h2, h3⟩ := h.obj i _ hi
    have hlt : off < cs.length := (List.getElem?_eq_some_iff.1 hc).1
    exact ⟨_, h3 off _ _ hc (List.getElem?_eq_getElem (by omega))⟩
  · exact ownE_or h hx
theorem cr_ur {i off : Nat} {u : U} {v : V} (hn : u.notC = true) (h : CR σ Z ω n i off u v) : UR σ Z n u v := by
  cases u <;> first | exact h | (simp [U.notC] at hn)
theorem load_ob {i : Nat} {cs : List U} {cs' : List V} (hlen : cs.length = cs'.length) (hc : ∀ (off : Nat) u v, cs[off]? = some u → cs'[off]? = some v → CR σ Z ω n i off u v) {k : Option Nat} {off : Nat} {u : U}
    (hl : loadU k cs off = some u) : ∃ v, loadRow k cs' off = some v ∧ UR σ Z n u v := by
  cases k with
  | none =>
    simp only [loadU] at hl
    cases hq : cs[off]? with
    | none => rw [hq] at hl; simp at hl
    | some x =>
      rw [hq] at hl
      simp only at hl
      cases hx : x.notC with
      | false => rw [hx] at hl; simp at hl
      | true =>
        rw [hx] at hl; simp at hl; subst hl
        have hlt := (List.getElem?_eq_some_iff.1 hq).1
        have hv := List.getElem?_eq_getElem (l := cs') (i := off) (by omega)
        exact ⟨_, hv, cr_ur hx (hc off _ _ hq hv)⟩
  | some k =>
    simp only [loadU] at hl
    cases hb : (Nat.ble (off + k) cs.length && ((cs.drop off).take k).all U.notC) with
    | false => rw [hb] at hl; simp at hl
    | true =>
      rw [hb] at hl; simp at hl; subst hl
      simp only [Bool.and_eq_true, List.all_eq_true] at hb
      have hle := Nat.le_of_ble_eq_true hb.1
      refine ⟨.agg ((cs'.drop off).take k), by simp only [loadRow, Nat.ble_eq_true_of_le (show off + k ≤ cs'.length by omega), cond_true], .agg (by simp; omega) fun j u v hu hv => ?_⟩
      have hmem : u ∈ (cs.drop off).take k := List.mem_of_getElem? hu
      rw [List.getElem?_take] at hu hv
      split at hu
      · rw [if_pos ‹_›] at hv
        rw [List.getElem?_drop] at hu hv
        exact cr_ur (hb.2 u hmem) (hc _ u v hu hv)
      · simp at hu
theorem loadRow_window {row : List V} {o L off : Nat} {k : Option Nat} {v : V} (ho : o + L ≤ row.length) (h : loadRow k ((row.drop o).take L) off = some v) : loadRow k row (o + off) = some v := by
  cases k with
  | none =>
    simp only [loadRow] at h ⊢
    rw [List.getElem?_take] at h
    split at h
    · rw [List.getElem?_drop] at h; exact h
    · simp at h
  | some k =>
    simp only [loadRow] at h ⊢
    cases hb : Nat.ble (off + k) ((row.drop o).take L).length with
    | false => rw [hb] at h; simp at h
    | true =>
      rw [hb] at h
      have hle := Nat.le_of_ble_eq_true hb
      simp only [List.length_take, List.length_drop] at hle
      simp only [cond_true, Option.some.injEq] at h
      rw [Nat.ble_eq_true_of_le (show o + off + k ≤ row.length by omega)]
      simp only [cond_true, Option.some.injEq]
      rw [← h]
      congr 1
      rw [List.drop_take, List.drop_drop, List.take_take, Nat.min_eq_left (by omega)]
theorem loadO_tr (h : Ok E σ Z ω s e st) {i : Nat} {cs : List U} (hi : s.h[i]? = some (.row cs)) {k : Option Nat} {off : Nat} {u : U} (hl : loadO i k cs off = some u) :
    ∃ cs' v, st.row (σ i) = some cs' ∧ loadRow k cs' off = some v ∧ TR σ Z ω s.h.length u v := by
  have hlt : i < s.h.length := (List.getElem?_eq_some_iff.1 hi).1
  obtain ⟨cs', h1, h2, h3⟩ := h.obj i _ hi
  unfold loadO at hl
  split at hl
  · rename_i w xs hc
    simp at hl; subst hl
    have hoff : off < cs.length := (List.getElem?_eq_some_iff.1 hc).1
    have hv := List.getElem?_eq_getElem (l := cs') (i := off) (by omega)
    exact ⟨cs', _, row_get h1, hv, h3 off _ _ hc hv, fun i' off' he => by cases he; exact hlt⟩
  · obtain ⟨v, a, b⟩ := load_ob h2 h3 hl
    exact ⟨cs', v, row_get h1, a, TR.of_ur b⟩
theorem sl_cells (h : Ok E σ Z ω s e st) {w : Nat} {xs : List (List U)} {v : V} (hv : UR σ Z n (.sl w xs) v) :
    ∃ cs, sliceCells st w v = some cs ∧ LU σ Z 0 xs.flatten cs ∧ lenV v = some xs.length ∧ ∀ r ∈ xs, r.length = w := by
  cases hv with
  | slnil => exact ⟨[], rfl, .nil, rfl, fun r hr => by cases hr⟩
  | slz => exact ⟨[], rfl, .nil, rfl, fun r hr => by cases hr⟩
  | slZ hn hz hl hcap hr hv =>
    subst hn
    refine ⟨_, slice_cells (row_get (h.zok _ _ hz)) hr, ⟨?_, hv⟩, rfl, hl⟩
    rw [flat_len hl]; simp; omega
  | slC hn hl hr hv =>
    subst hn
    refine ⟨_, by simp only [sliceCells, Nat.beq_refl, Nat.ble_eq_true_of_le hr, Bool.and_self, cond_true], ⟨?_, hv⟩, rfl, hl⟩
    rw [flat_len hl]; simp; omega
theorem own_cells (h : Ok E σ Z ω s e st) {g : Tg} {w : Nat} {xs : List (List U)} {v : V} (hv : OR σ Z ω g w xs v) :
    ∃ cs, sliceCells st w v = some cs ∧ LU σ Z 0 xs.flatten cs ∧ lenV v = some xs.length ∧ ∀ r ∈ xs, r.length = w := by
  unfold OR at hv
  split at hv
  · obtain ⟨rfl, rfl | rfl⟩ := hv
    · exact ⟨[], rfl, .nil, rfl, fun r hr => by cases hr⟩
    · exact ⟨[], rfl, .nil, rfl, fun r hr => by cases hr⟩
  · rename_i I hg
    obtain ⟨rfl, h0, h1, h2, h3, h4⟩ := hv
    have hle : xs.length * w ≤ I.cap * w := Nat.mul_le_mul_right _ h1
    exact ⟨_, slice_cells (row_get (h.wok g I hg)) (by omega), h4, rfl, h3⟩
theorem rows_cells (h : Ok E σ Z ω s e st) {w : Nat} {u : U} {xs : List (List U)} {v : V} (hx : rowsOf s w u = some xs) (hv : TR σ Z ω s.h.length u v) :
    ∃ cs, sliceCells st w v = some cs ∧ LU σ Z s.h.length xs.flatten cs ∧ lenV v = some xs.length ∧ ∀ r ∈ xs, r.length = w := by
  have up : ∀ {cs}, LU σ Z 0 xs.flatten cs → LU σ Z s.h.length xs.flatten cs := fun hh => hh.mono (Nat.zero_le _) (fun _ _ => rfl) (fun _ _ h => h)
  cases u <;> simp only [rowsOf, reduceCtorEq] at hx
  · rename_i w' ys
    cases hb : Nat.beq w' w with
    | false => simp [hb] at hx
    | true =>
      simp [hb] at hx; subst hx
      have : w' = w := Nat.eq_of_beq_eq_true hb
      subst this
      obtain ⟨cs, a, b, c, d⟩ := sl_cells h hv
      exact ⟨cs, a, up b, c, d⟩
  · rename_i w'
    cases hb : Nat.beq w' w with
    | false => simp [hb] at hx
    | true =>
      simp [hb] at hx; subst hx
      have hv : UR σ Z s.h.length (.nl w') v := hv
      cases hv with
      | nl1 => exact ⟨[], rfl, .nil, rfl, fun r hr => by cases hr⟩
      | nl2 => exact ⟨[], rfl, .nil, rfl, fun r hr => by cases hr⟩
  · rename_i g w' ys
    cases hb : Nat.beq w' w with
    | false => simp [hb] at hx
    | true =>
      simp [hb] at hx; subst hx
      have : w' = w := Nat.eq_of_beq_eq_true hb
      subst this
      obtain ⟨cs, a, b, c, d⟩ := own_cells h hv.1
      exact ⟨cs, a, up b, c, d⟩
  · rename_i i off len w'
    split at hx <;> try (simp at hx; done)
    rename_i cs hi
    cases hb : (Nat.beq w' w && Nat.beq w 1 && Nat.ble (off + len) cs.length && ((cs.drop off).take len).all U.notC) with
    | false => rw [hb] at hx; simp at hx
    | true =>
      rw [hb] at hx; simp only [cond_true, Option.some.injEq] at hx; subst hx
      simp only [Bool.and_eq_true, List.all_eq_true] at hb
      have e1 : w' = w := Nat.eq_of_beq_eq_true hb.1.1.1
      have e2 : w = 1 := Nat.eq_of_beq_eq_true hb.1.1.2
      subst e1; subst e2
      have hle := Nat.le_of_ble_eq_true hb.1.2
      obtain ⟨hi', cap, hcap, rfl⟩ := hv
      obtain ⟨cs', h1, h2, h3⟩ := h.obj i _ hi
      have hfl : (List.map (fun c => [c]) (List.take len (List.drop off cs))).flatten = (cs.drop off).take len := by
        generalize (cs.drop off).take len = l
        induction l with
        | nil => rfl
        | cons a l ih => simpa using ih
      refine ⟨_, slice_cells (row_get h1) (by omega), ?_, by simp only [lenV, List.length_map, List.length_take, List.length_drop, Option.some.injEq]; omega, fun r hr => by simp only [List.mem_map] at hr; obtain ⟨x, _, rfl⟩ := hr; rfl⟩
      rw [hfl, Nat.mul_one]
      refine ⟨by simp; omega, fun j u v hu hv => ?_⟩
      have hmem : u ∈ (cs.drop off).take len := List.mem_of_getElem? hu
      rw [List.getElem?_take] at hu hv
      split at hu
      · rw [if_pos ‹_›] at hv
        rw [List.getElem?_drop] at hu hv
        exact cr_ur (hb.2 u hmem) (h3 _ u v hu hv)
      · simp at hu
theorem unbytes_cells : ∀ {xs : List (List U)} {bs : List UInt8} {cs : List V}, unbytes xs = some bs → LU σ Z n xs.flatten cs → bytesOf cs = some bs := by
  intro xs
  induction xs with
  | nil => intro bs cs h hl; simp [unbytes] at h; subst h; rw [hl.inv_nil]; rfl
  | cons r xs ih =>
    intro bs cs h hl
    simp only [unbytes] at h
    cases hr : byteOfU r with
    | none => rw [hr] at h; simp at h
    | some b =>
      rw [hr] at h
      simp only at h
      cases hx : unbytes xs with
      | none => rw [hx] at h; simp at h
      | some bs' =>
        rw [hx] at h; simp at h; subst h
        unfold byteOfU at hr
        split at hr <;> simp at hr
        rename_i m
        simp only [List.flatten_cons, List.singleton_append] at hl
        obtain ⟨v, vs, rfl, h1, h2⟩ := hl.inv_cons
        cases h1
        simp only [bytesOf, ih hx h2, hr]
theorem find_tr {kk : EqK} {k : U} {k' : V} (hk : TR σ Z ω n k k') : ∀ {es : List (U × U × Nat)} {es' : List ME}, es.length = es'.length →
    (∀ (j : Nat) x y, es[j]? = some x → es'[j]? = some y → UR σ Z n x.1 y.key ∧ UR σ Z n x.2.1 y.val ∧ y.born = x.2.2) → ∀ {i : Nat} {r : Option (Nat × U)}, findU kk k es i = some r →
    ∃ r', findE kk k' es' i = some r' ∧ (match r, r' with | none, none => True | some (j, u), some (j', v) => j = j' ∧ UR σ Z n u v | _, _ => False) := by
  intro es
  induction es with
  | nil =>
    intro es' hl _ i r h
    have : es' = [] := List.eq_nil_of_length_eq_zero hl.symm
    subst this
    simp [findU] at h; subst h
    exact ⟨none, rfl, trivial⟩
  | cons x es ih =>
    intro es' hl hr i r h
    cases es' with
    | nil => simp at hl
    | cons y es' =>
      have h0 := hr 0 x y rfl rfl
      simp only [findU] at h
      simp only [findE]
      cases hp : plainEqU kk k x.1 with
      | none => rw [hp] at h; simp at h
      | some b =>
        rw [hp] at h
        have hpe : plainEq kk k' y.key = some b := by
          unfold plainEqU at hp
          split at hp
          · rename_i a c e1 e2
            rw [toV_tr e1 hk, toV_tr e2 (TR.of_ur (ω := ω) h0.1)]; exact hp
          · simp at hp
        rw [hpe]
        cases b with
        | true => simp at h; subst h; exact ⟨_, rfl, rfl, h0.2.1⟩
        | false => exact ih (by simpa using hl) (fun j a c ha hc => hr (j + 1) a c (by simpa using ha) (by simpa using hc)) h
theorem plainKey_tr {kk : EqK} {k : U} {k' : V} (hk : TR σ Z ω n k k') (h : plainKeyU kk k = true) : plainKey kk k' = true := by
  unfold plainKeyU at h
  split at h
  · rename_i v e1; rw [toV_tr e1 hk]; exact h
  · cases h
theorem map_get (h : Ok E σ Z ω s e st) {i : Nat} {es : List (U × U × Nat)} {c : Nat} (hi : s.h[i]? = some (.map es c)) :
    ∃ es', st.get (σ i) = some (.map es' c) ∧ es.length = es'.length ∧ ∀ (j : Nat) x y, es[j]? = some x → es'[j]? = some y → UR σ Z s.h.length x.1 y.key ∧ UR σ Z s.h.length x.2.1 y.val ∧ y.born = x.2.2 := h.obj i _ hi
theorem lookup_tr (h : Ok E σ Z ω s e st) {kk : EqK} {zero : U} {z' : V} {ok : Bool} {m k u : U} {m' k' : V} (hz : UR σ Z s.h.length zero z') (hm : TR σ Z ω s.h.length m m') (hk : TR σ Z ω s.h.length k k')
    (hl : lookupU s kk zero ok m k = some u) : ∃ v, lookupV st kk z' ok m' k' = some v ∧ UR σ Z s.h.length u v := by
  have hzz : UR σ Z s.h.length (bif ok then .tup [zero, .bool false] else zero) (if ok then .tup [z', .bool false] else z') := by
    cases ok with
    | true => exact .tup rfl (LU.cons hz (LU.cons (.bool _) .nil)).2
    | false => exact hz
  cases m with
  | nilm =>
    obtain rfl := TR.nilm hm
    simp only [lookupU] at hl
    cases hp : plainKeyU kk k with
    | false => rw [hp] at hl; simp at hl
    | true =>
      rw [hp] at hl
      simp only [cond_true, Option.some.injEq] at hl; subst hl
      simp only [lookupV, plainKey_tr hk hp, cond_true]
      exact ⟨_, rfl, hzz⟩
  | map i =>
    obtain ⟨hi, rfl⟩ := TR.map hm
    simp only [lookupU] at hl
    cases hq : s.h[i]? with
    | none => rw [hq] at hl; simp at hl
    | some o =>
      rw [hq] at hl
      cases o with
      | map es c =>
        simp only at hl
        cases hp : plainKeyU kk k with
        | false => rw [hp] at hl; simp at hl
        | true =>
          rw [hp] at hl
          simp only [cond_true] at hl
          obtain ⟨es', g1, g2, g3⟩ := map_get h hq
          simp only [lookupV, g1, plainKey_tr hk hp, cond_true]
          cases hf : findU kk k es 0 with
          | none => rw [hf] at hl; simp at hl
          | some r =>
            rw [hf] at hl
            obtain ⟨r', f1, f2⟩ := find_tr hk g2 g3 hf
            rw [f1]
            cases r with
            | none =>
              cases r' with
              | none => simp only [Option.some.injEq] at hl; subst hl; exact ⟨_, rfl, hzz⟩
              | some _ => exact f2.elim
            | some p =>
              cases r' with
              | none => exact f2.elim
              | some q =>
                obtain ⟨j, a⟩ := p
                obtain ⟨j', b⟩ := q
                simp only [Option.some.injEq] at hl; subst hl
                refine ⟨_, rfl, ?_⟩
                cases ok with
                | true => exact .tup rfl (LU.cons f2.2 (LU.cons (.bool _) .nil)).2
                | false => exact f2.2
      | row _ => simp at hl
      | iter a b c d => simp at hl
      | gone => simp at hl
  | _ => simp [lookupU] at hl
theorem isPtr_tr {u : U} {v : V} (h : TR σ Z ω n u v) {b : Bool} (hu : u.isPtr = some b) : (b = false ∧ v = .nilp) ∨ (b = true ∧ ((∃ x y, v = .ptr x y) ∨ ∃ x y, v = .cptr x y)) := by
  cases u <;> simp [U.isPtr] at hu <;> subst hu
  · cases h; exact .inl ⟨rfl, rfl⟩
  · exact .inr ⟨rfl, .inl ⟨_, _, (TR.ptr h).2⟩⟩
  · cases h
    · exact .inr ⟨rfl, .inl ⟨_, _, rfl⟩⟩
    · exact .inr ⟨rfl, .inr ⟨_, _, rfl⟩⟩
  · obtain ⟨⟨I, _, rfl⟩, _⟩ := h; exact .inr ⟨rfl, .inl ⟨_, _, rfl⟩⟩
theorem isMap_tr {u : U} {v : V} (h : TR σ Z ω n u v) {b : Bool} (hu : u.isMap = some b) : (b = false ∧ v = .nilm) ∨ (b = true ∧ ∃ x, v = .map x) := by
  cases u <;> simp [U.isMap] at hu <;> subst hu
  · exact .inl ⟨rfl, TR.nilm h⟩
  · exact .inr ⟨rfl, _, (TR.map h).2⟩
theorem isFn_tr {u : U} {v : V} (h : TR σ Z ω n u v) {b : Bool} (hu : u.isFn = some b) : (b = false ∧ v = .nilf) ∨ (b = true ∧ ∃ x y z, v = .func x y z) := by
  cases u <;> simp [U.isFn] at hu <;> subst hu
  · cases h; exact .inl ⟨rfl, rfl⟩
  · obtain ⟨a, b, rfl, _⟩ := TR.func h; exact .inr ⟨rfl, _, _, _, rfl⟩
theorem isSl_tr {u : U} {v : V} (h : TR σ Z ω n u v) {b : Bool} (hu : u.isSl = some b) : (b = false ∧ v = .nils) ∨ (b = true ∧ ((∃ a b c d e f, v = .slice a b c d e f) ∨ ∃ a b c d, v = .cslice a b c d)) := by
  cases u with
  | nils => simp [U.isSl] at hu; subst hu; cases h; exact .inl ⟨rfl, rfl⟩
  | sl w xs =>
    cases xs with
    | nil => simp [U.isSl] at hu
    | cons a r =>
      simp [U.isSl] at hu; subst hu
      cases h
      · exact .inr ⟨rfl, .inl ⟨_, _, _, _, _, _, rfl⟩⟩
      · exact .inr ⟨rfl, .inr ⟨_, _, _, _, rfl⟩⟩
  | own g w xs =>
    cases xs with
    | nil => simp [U.isSl] at hu
    | cons a r =>
      simp [U.isSl] at hu; subst hu
      obtain ⟨h, _⟩ := h
      unfold OR at h
      split at h
      · cases h.1
      · exact .inr ⟨rfl, .inl ⟨_, _, _, _, _, _, h.1⟩⟩
  | _ => simp [U.isSl] at hu
theorem nilEq_some {a b : Option Bool} {r : Bool} (h : nilEq a b = some r) : ∃ x y, a = some x ∧ b = some y ∧ (x = false ∧ r = !y ∨ x = true ∧ y = false ∧ r = false) := by
  unfold nilEq at h
  split at h <;> simp at h
  · rename_i x; exact ⟨false, x, rfl, rfl, .inl ⟨rfl, by subst h; simp⟩⟩
  · exact ⟨true, false, rfl, rfl, .inr ⟨rfl, rfl, by subst h; rfl⟩⟩
theorem plainEq_tr {k : EqK} {a b : U} {x y : V} {r : Bool} (h : plainEqU k a b = some r) (ha : TR σ Z ω n a x) (hb : TR σ Z ω n b y) : plainEq k x y = some r := by
  unfold plainEqU at h
  split at h
  · rename_i p q e1 e2; rw [toV_tr e1 ha, toV_tr e2 hb]; exact h
  · simp at h
theorem flatEq_tr : ∀ {ks : List (Nat × EqK)} {a b : List U} {x y : List V} {r : Bool}, flatEqU ks a b = some r → LU σ Z n a x → LU σ Z n b y → flatEq ks x y = some r := by
  intro ks
  induction ks with
  | nil => intro a b x y r h _ _; simpa [flatEqU, flatEq] using h
  | cons k ks ih =>
    intro a b x y r h ha hb
    obtain ⟨o, k⟩ := k
    simp only [flatEqU] at h
    split at h <;> try (simp at h; done)
    rename_i p q e1 e2
    obtain ⟨p', f1, f2⟩ := ha.get e1
    obtain ⟨q', g1, g2⟩ := hb.get e2
    simp only [flatEq, f1, g1]
    cases hp : plainEqU k p q with
    | none => rw [hp] at h; simp at h
    | some c =>
      rw [hp] at h
      rw [plainEq_tr (ω := fun _ => none) hp (TR.of_ur f2) (TR.of_ur g2)]
      cases c with
      | true => exact ih h ha hb
      | false => exact h
theorem eq_tr {ek : EqK} {a b : U} {x y : V} {r : Bool} (h : eqU ek a b = some r) (ha : TR σ Z ω n a x) (hb : TR σ Z ω n b y) : eqV ek x y = some r := by
  cases ek with
  | bool =>
    simp only [eqU] at h
    split at h <;> simp at h
    subst h; rw [TR.bool ha, TR.bool hb]; rfl
  | nilp =>
    obtain ⟨p, q, h1, h2, h3⟩ := nilEq_some (by simpa only [eqU] using h)
    rcases isPtr_tr ha h1 with ⟨rfl, rfl⟩ | ⟨rfl, h4⟩ <;> rcases isPtr_tr hb h2 with ⟨rfl, rfl⟩ | ⟨rfl, h5⟩
    · simp at h3; subst h3; rfl
    · simp at h3; subst h3; rcases h5 with ⟨_, _, rfl⟩ | ⟨_, _, rfl⟩ <;> rfl
    · simp at h3; subst h3; rcases h4 with ⟨_, _, rfl⟩ | ⟨_, _, rfl⟩ <;> rfl
    · simp at h3
  | nils =>
    obtain ⟨p, q, h1, h2, h3⟩ := nilEq_some (by simpa only [eqU] using h)
    rcases isSl_tr ha h1 with ⟨rfl, rfl⟩ | ⟨rfl, h4⟩ <;> rcases isSl_tr hb h2 with ⟨rfl, rfl⟩ | ⟨rfl, h5⟩
    · simp at h3; subst h3; rfl
    · simp at h3; subst h3; rcases h5 with ⟨_, _, _, _, _, _, rfl⟩ | ⟨_, _, _, _, rfl⟩ <;> rfl
    · simp at h3; subst h3; rcases h4 with ⟨_, _, _, _, _, _, rfl⟩ | ⟨_, _, _, _, rfl⟩ <;> rfl
    · simp at h3
  | nilm =>
    obtain ⟨p, q, h1, h2, h3⟩ := nilEq_some (by simpa only [eqU] using h)
    rcases isMap_tr ha h1 with ⟨rfl, rfl⟩ | ⟨rfl, _, rfl⟩ <;> rcases isMap_tr hb h2 with ⟨rfl, rfl⟩ | ⟨rfl, _, rfl⟩
    · simp at h3; subst h3; rfl
    · simp at h3; subst h3; rfl
    · simp at h3; subst h3; rfl
    · simp at h3
  | nilf =>
    obtain ⟨p, q, h1, h2, h3⟩ := nilEq_some (by simpa only [eqU] using h)
    rcases isFn_tr ha h1 with ⟨rfl, rfl⟩ | ⟨rfl, _, _, _, rfl⟩ <;> rcases isFn_tr hb h2 with ⟨rfl, rfl⟩ | ⟨rfl, _, _, _, rfl⟩
    · simp at h3; subst h3; rfl
    · simp at h3; subst h3; rfl
    · simp at h3; subst h3; rfl
    · simp at h3
  | iface g =>
    simp only [eqU] at h
    split at h
    · rw [TR.nili ha, TR.nili hb]
      cases g with
      | true => simp at h
      | false => simp at h; subst h; rfl
    · simp at h; subst h
      obtain ⟨v', rfl, _⟩ := TR.iface hb
      rw [TR.nili ha]; cases g <;> rfl
    · simp at h; subst h
      obtain ⟨v', rfl, _⟩ := TR.iface ha
      rw [TR.nili hb]; cases g <;> rfl
    · simp at h
  | flat ks =>
    simp only [eqU] at h
    split at h <;> try (simp at h; done)
    obtain ⟨p, rfl, h1⟩ := TR.agg ha
    obtain ⟨q, rfl, h2⟩ := TR.agg hb
    exact flatEq_tr h h1 h2
  | int => simp [eqU] at h
  | str => simp [eqU] at h
  | no => simp [eqU] at h
end
end Go.RE
namespace Go.RE
section
variable {E : Ent} {σ : Sg} {Z : Zs} {ω : Om} {s s' : Vs} {e : PT V} {st : St} {n : Nat}
theorem kill_len (g : Tg) (s : Vs) : (s.kill g).h.length = s.h.length := by
  unfold Vs.kill
  split
  · unfold setCell
    split <;> simp
  · rfl
theorem Ok.ownNil (h : Ok E σ Z ω s e st) (d : Nat) : ∃ ω', Ok E σ Z ω' (s.kill (.t d)) e st ∧ ω' (.t d) = none ∧ ∀ g, g ≠ .t d → ω' g = ω g :=
  ⟨_, (h.kill (.t d)).setω (noTag_kill _ _) (by simp) (o := none) (fun I hI => by cases hI), updF_same _ _ _, fun g hg => updF_ne _ _ hg⟩
theorem TR.empty {d w : Nat} {v : V} (h : ω (.t d) = none) (hv : v = .nils ∨ v = .zslice) : TR σ Z ω n (.own (.t d) w []) v := by
  refine ⟨?_, fun i off hh => by cases hh⟩
  unfold OR; rw [h]; exact ⟨rfl, hv⟩
theorem lu_window {a : List U} {row : List V} {off L i k : Nat} (h : LU σ Z n a ((row.drop off).take L)) (hk : k ≤ L) : LU σ Z n ((a.take k).drop i) ((row.drop (off + i)).take (k - i)) := by
  have e : (((row.drop off).take L).take k).drop i = (row.drop (off + i)).take (k - i) := by
    rw [List.take_take, Nat.min_eq_left hk, List.drop_take, List.drop_drop]
  rw [← e]; exact (h.take k).drop i
theorem own_slice (h : Ok E σ Z ω s e st) {d : Nat} {g : Tg} {w : Nat} {xs : List (List U)} {v : V} (hv : OR σ Z ω g w xs v) {l hh : Nat} (h1 : l ≤ hh) (h2 : hh ≤ xs.length) :
    ∃ ω' v', Ok E σ Z ω' ((s.kill g).kill (.t d)) e st ∧ OR σ Z ω' (.t d) w ((xs.take hh).drop l) v' ∧
      (match v with
      | .nils => v' = .nils
      | .zslice => v' = .zslice
      | .slice b off len cap sz ex => v' = .slice b (off + l * sz) (hh - l) (cap - l) sz ex ∧ sz = w ∧ len = xs.length ∧ hh ≤ cap
      | _ => False) := by
  have hk1 := h.kill g
  have hk2 := hk1.kill (.t d)
  unfold OR at hv
  split at hv
  · rename_i hg
    obtain ⟨rfl, hvv⟩ := hv
    have hh0 : hh = 0 := by simpa using h2
    have hl0 : l = 0 := by omega
    subst hh0; subst hl0
    refine ⟨_, v, hk2.setω (noTag_kill _ _) (by simp) (o := none) (fun I hI => by cases hI), ?_, ?_⟩
    · unfold OR; rw [updF_same]; exact ⟨by simp, hvv⟩
    · rcases hvv with rfl | rfl <;> rfl
  · rename_i I hg
    obtain ⟨rfl, e0, e1, e2, e3, e4⟩ := hv
    -- the old tag is given up, the new one takes what it had
    have hgr : g ≠ .r := fun hh => by subst hh; rw [h.wr] at hg; cases hg
    have hnt : NoTag g ((s.kill g).kill (.t d)) := (noTag_kill g s).kill
    have hka := hk2.setω hnt hgr (o := none) (fun I hI => by cases hI)
    have hlen : ((s.kill g).kill (.t d)).h.length = s.h.length := by rw [kill_len, kill_len]
    have hwl : ∀ a : Nat, I.off + a * w + (I.cap - a) * w ≤ I.row.length ∨ ¬ a ≤ I.cap := fun a => by
      by_cases ha : a ≤ I.cap
      · left
        have : a * w + (I.cap - a) * w = I.cap * w := by rw [← Nat.add_mul]; congr 1; omega
        omega
      · exact .inr ha
    have hkb := hka.setω (g := .t d) (noTag_kill _ _) (by simp) (o := some ⟨I.b, I.off + l * w, I.cap - l, I.ex, w, I.row, (xs.take hh).drop l⟩) (fun J hJ => by
      cases hJ
      refine ⟨h.wok g I hg, fun i hi => h.sw i g I (by omega) hg, h.wz g I hg, fun g' I' hg' hI' hb => ?_, fun b hb hbI => ?_, fun i off hh => by cases hh⟩
      · by_cases hgg : g' = g
        · subst hgg; rw [updF_same] at hI'; cases hI'
        · rw [updF_ne _ _ hgg] at hI'
          exact hgg (h.winj g' g I' I hI' hg hb)
      · exact (h.out b hb hbI).2.2.1 g I hg)
    refine ⟨_, _, hkb, ?_, rfl, rfl, rfl, by omega⟩
    unfold OR; rw [updF_same]
    have hle : ((xs.take hh).drop l).length = hh - l := by simp; omega
    refine ⟨by rw [hle], ⟨rfl, rfl⟩, by rw [hle]; simp only; omega, ?_, fun r hr => e3 r (List.mem_of_mem_take (List.mem_of_mem_drop hr)), ?_⟩
    · rcases hwl l with hq | hq
      · exact hq
      · omega
    · rw [flat_drop (fun r hr => e3 r (List.mem_of_mem_take hr)), flat_take e3, hle]
      rw [show (hh - l) * w = hh * w - l * w from Nat.sub_mul _ _ _]
      exact lu_window e4 (Nat.mul_le_mul_right _ h2)
theorem slice_sound {d w : Nat} {lo hi mx : Option Opd} {u u' : U} {v : V} {x : Opd} (h : Ok E σ Z ω s e st) (hx : x.er.ev e = some v) (hu : TR σ Z ω s.h.length u v) (hs : sliceU d w lo hi mx u s = some (u', s')) :
    ∃ Z' ω' v', evS e st (.slice w x.er (optEr lo) (optEr hi) (optEr mx)) = some v' ∧ Ok E σ Z' ω' s' e st ∧ TR σ Z' ω' s'.h.length u' v' ∧ s'.h.length = s.h.length ∧ ∀ b r, Z b = some r → Z' b = some r := by
  have hmx : (optEr mx).isSome = mx.isSome := by cases mx <;> rfl
  cases u with
  | sl w' xs =>
    simp only [sliceU] at hs
    cases hb : Nat.beq w' w with
    | false => rw [hb] at hs; simp at hs
    | true =>
      have hww : w' = w := Nat.eq_of_beq_eq_true hb
      subst hww
      rw [hb] at hs
      simp only [cond_true] at hs
      cases n2 : optNatU s.e hi xs.length xs.length with
      | none => rw [n2] at hs; simp at hs
      | some hh =>
        rw [n2] at hs; simp only at hs
        cases n1 : optNatU s.e lo 0 hh with
        | none => rw [n1] at hs; simp at hs
        | some l =>
          rw [n1] at hs; simp only at hs
          have q2 := h.optNat n2
          have q1 := h.optNat n1
          have b1 : l ≤ hh := optNat_le (Nat.zero_le _) q1
          have b2 : hh ≤ xs.length := optNat_le (Nat.le_refl _) q2
          -- what a part shows
          have part : ∀ {n : Nat}, UR σ Z n (.sl w' xs) v → ∀ (m : Nat), hh ≤ m → m ≤ xs.length → (∀ k, optNat e (optEr mx) k k = if mx.isSome then (if m ≤ k then some m else none) else some k) →
              (mx.isSome = false → m = xs.length) → (mx.isSome = true → hh = m) →
              ∃ y, evS e st (.slice w' x.er (optEr lo) (optEr hi) (optEr mx)) = some y ∧ ((mx.isSome && Nat.beq m 0) = false → UR σ Z n (.sl w' ((xs.take hh).drop l)) y) ∧ ((mx.isSome && Nat.beq m 0) = true → y = .nils ∨ y = .zslice) := by
            intro n hur m hm1 hm2 hopt hm3 hm4
            have hl0 : (optEr hi = none ∨ ∀ a b, optNat e (optEr hi) a b = optNat e (optEr hi) b b) := by
              cases hi with
              | none => exact .inl rfl
              | some y => exact .inr fun a b => rfl
            have q2m : ∀ k, optNat e (optEr hi) xs.length m = some k → k = hh := fun k hk => by
              cases hi with
              | none => simp [optEr, optNat] at hk q2; omega
              | some y =>
                simp only [optEr, optNat] at hk q2
                cases hyv : y.er.ev e with
                | none => rw [hyv] at hk; simp at hk
                | some a =>
                  rw [hyv] at hk q2
                  simp only at hk q2
                  cases a <;> simp [asNat] at hk q2
                  omega
            have q2' : optNat e (optEr hi) xs.length m = some hh := by
              cases hi with
              | none =>
                simp only [optEr, optNat, Option.some.injEq] at q2 ⊢
                cases hq : mx.isSome with
                | true => omega
                | false => omega
              | some y =>
                simp only [optEr, optNat] at q2 ⊢
                cases hyv : y.er.ev e with
                | none => rw [hyv] at q2; simp at q2
                | some a =>
                  rw [hyv] at q2
                  simp only at q2 ⊢
                  cases a <;> simp [asNat] at q2 ⊢
                  omega
            cases hur with
            | slnil =>
              have z1 : hh = 0 := by simpa using b2
              have z2 : m = 0 := by simpa using hm2
              have z3 : l = 0 := by omega
              subst z1; subst z2; subst z3
              have h3 : optNat e (optEr mx) 0 0 = some 0 := by rw [hopt]; cases mx.isSome <;> simp
              refine ⟨.nils, ?_, fun _ => by simpa using UR.slnil, fun _ => .inl rfl⟩
              simp only [evS, hx, h3]
              simp only [List.length_nil] at q2'
              simp only [q2', q1]
            | slz =>
              have z1 : hh = 0 := by simpa using b2
              have z2 : m = 0 := by simpa using hm2
              have z3 : l = 0 := by omega
              subst z1; subst z2; subst z3
              have h3 : optNat e (optEr mx) 0 0 = some 0 := by rw [hopt]; cases mx.isSome <;> simp
              refine ⟨.zslice, ?_, fun _ => by simpa using UR.slz, fun _ => .inr rfl⟩
              simp only [evS, hx, h3]
              simp only [List.length_nil] at q2'
              simp only [q2', q1]
            | slZ hn hz hl hcap hr hv =>
              rename_i b off len cap ex row'
              subst hn
              -- the room
              have hM : ∃ M, optNat e (optEr mx) cap cap = some M ∧ m ≤ M ∧ M ≤ cap ∧ optNat e (optEr hi) xs.length M = some hh ∧ (mx.isSome = true → M = m) := by
                rw [hopt]
                cases hq : mx.isSome with
                | true => exact ⟨m, by simp; omega, Nat.le_refl _, by omega, q2', fun _ => rfl⟩
                | false =>
                  refine ⟨cap, by simp, by omega, Nat.le_refl _, ?_, fun hh => by simp at hh⟩
                  cases hi with
                  | none => simpa [optEr, optNat] using q2
                  | some y =>
                    simp only [optEr, optNat] at q2 ⊢
                    cases hyv : y.er.ev e with
                    | none => rw [hyv] at q2; simp at q2
                    | some a =>
                      rw [hyv] at q2
                      simp only at q2 ⊢
                      cases a <;> simp [asNat] at q2 ⊢
                      omega
              obtain ⟨M, m1, m2, m3, m4, m5⟩ := hM
              have hev : evS e st (.slice w' x.er (optEr lo) (optEr hi) (optEr mx)) = (bif (optEr mx).isSome && Nat.beq M 0 then some .zslice else some (.slice b (off + l * w') (hh - l) (M - l) w' (ex || (optEr mx).isSome))) := by
                simp only [evS, hx, m1, m4, q1, Nat.beq_refl, cond_true]
              rw [hev, hmx]
              cases hz0 : (mx.isSome && Nat.beq M 0) with
              | true =>
                simp only [Bool.and_eq_true] at hz0
                have hMm := m5 hz0.1
                have hm0 : M = 0 := Nat.eq_of_beq_eq_true hz0.2
                refine ⟨.zslice, rfl, fun hf => ?_, fun _ => .inr rfl⟩
                rw [hz0.1, ← hMm, hz0.2] at hf; simp at hf
              | false =>
                refine ⟨_, rfl, fun _ => ?_, fun ht => ?_⟩
                · have hle : ((xs.take hh).drop l).length = hh - l := by simp; omega
                  have hmul : hh * w' ≤ xs.length * w' := Nat.mul_le_mul_right _ b2
                  have hsub : (hh - l) * w' = hh * w' - l * w' := Nat.sub_mul _ _ _
                  have hlw : l * w' ≤ hh * w' := Nat.mul_le_mul_right _ b1
                  refine .slZ hle.symm hz (fun r hr => hl r (List.mem_of_mem_take (List.mem_of_mem_drop hr))) (by omega) (by rw [hle]; omega) fun j a c ha hc => ?_
                  rw [flat_drop (fun r hr => hl r (List.mem_of_mem_take hr)), flat_take hl] at ha
                  rw [hle] at hc
                  have hlu : LU σ Z 0 xs.flatten ((row'.drop off).take (xs.length * w')) := ⟨by rw [flat_len hl]; simp; omega, hv⟩
                  exact (lu_window hlu hmul).2 j a c ha (by rw [← hsub]; exact hc)
                · simp only [Bool.and_eq_true] at ht
                  have := m5 ht.1
                  rw [this, ht.1, ht.2] at hz0; simp at hz0
            | slC hn hl hr hv =>
              rename_i off len row'
              subst hn
              have h3 : optNat e (optEr mx) xs.length xs.length = some m := by
                rw [hopt]
                cases hq : mx.isSome with
                | true => simp; omega
                | false => simp [hm3 hq]
              have hev : evS e st (.slice w' x.er (optEr lo) (optEr hi) (optEr mx)) = (bif (optEr mx).isSome && Nat.beq m 0 then some .zslice else some (.cslice row' (off + l * w') (hh - l) w')) := by
                simp only [evS, hx, h3, q2', q1, Nat.beq_refl, cond_true]
              rw [hev, hmx]
              cases hz0 : (mx.isSome && Nat.beq m 0) with
              | true => exact ⟨.zslice, rfl, (fun hf => by cases hf), fun _ => .inr rfl⟩
              | false =>
                refine ⟨_, rfl, fun _ => ?_, fun ht => by cases ht⟩
                have hle : ((xs.take hh).drop l).length = hh - l := by simp; omega
                have hmul : hh * w' ≤ xs.length * w' := Nat.mul_le_mul_right _ b2
                have hsub : (hh - l) * w' = hh * w' - l * w' := Nat.sub_mul _ _ _
                have hlw : l * w' ≤ hh * w' := Nat.mul_le_mul_right _ b1
                refine .slC hle.symm (fun r hr => hl r (List.mem_of_mem_take (List.mem_of_mem_drop hr))) (by rw [hle]; omega) fun j a c ha hc => ?_
                rw [flat_drop (fun r hr => hl r (List.mem_of_mem_take hr)), flat_take hl] at ha
                rw [hle] at hc
                have hlu : LU σ Z 0 xs.flatten ((row'.drop off).take (xs.length * w')) := ⟨by rw [flat_len hl]; simp; omega, hv⟩
                exact (lu_window hlu hmul).2 j a c ha (by rw [← hsub]; exact hc)
          have hu0 : UR σ Z s.h.length (.sl w' xs) v := hu
          cases mx with
          | none =>
            simp only [Option.some.injEq, Prod.mk.injEq] at hs
            obtain ⟨rfl, rfl⟩ := hs
            obtain ⟨y, y1, y2, _⟩ := part hu0 xs.length b2 (Nat.le_refl _) (fun k => by simp [optEr, optNat]) (fun _ => rfl) (fun hh => by simp at hh)
            exact ⟨Z, ω, y, y1, h, TR.of_ur (y2 (by simp)), rfl, fun _ _ h => h⟩
          | some mo =>
            simp only at hs
            cases n3 : optNatU s.e (some mo) xs.length xs.length with
            | none => rw [n3] at hs; simp at hs
            | some m =>
              rw [n3] at hs; simp only at hs
              have q3 := h.optNat n3
              have b3 : m ≤ xs.length := optNat_le (Nat.le_refl _) q3
              cases hb2 : Nat.beq m hh with
              | false => rw [hb2] at hs; simp at hs
              | true =>
                have hmh : m = hh := Nat.eq_of_beq_eq_true hb2
                rw [hb2] at hs; simp only [cond_true] at hs
                have hopt : ∀ k, optNat e (optEr (some mo)) k k = if (some mo).isSome then (if m ≤ k then some m else none) else some k := fun k => by
                  simp only [optEr, optNat] at q3 ⊢
                  cases hyv : mo.er.ev e with
                  | none => rw [hyv] at q3; simp at q3
                  | some a =>
                    rw [hyv] at q3
                    simp only at q3 ⊢
                    cases a <;> simp [asNat] at q3 ⊢
                    by_cases hk : m ≤ k
                    · rw [if_pos hk, if_pos (by omega)]; simp; omega
                    · rw [if_neg hk, if_neg (by omega)]
                obtain ⟨y, y1, y2, y3⟩ := part hu0 m (by omega) b3 hopt (fun hh => by simp at hh) (fun _ => hmh.symm)
                cases hb0 : Nat.beq m 0 with
                | true =>
                  rw [hb0] at hs
                  simp only [cond_true, Option.some.injEq, Prod.mk.injEq] at hs
                  obtain ⟨rfl, rfl⟩ := hs
                  obtain ⟨ω', k1, k2, k3⟩ := h.ownNil d
                  exact ⟨Z, ω', y, y1, k1, TR.empty k2 (y3 (by simp [hb0])), rfl, fun _ _ h => h⟩
                | false =>
                  rw [hb0] at hs
                  simp only [cond_false, Option.some.injEq, Prod.mk.injEq] at hs
                  obtain ⟨rfl, rfl⟩ := hs
                  exact ⟨Z, ω, y, y1, h, TR.of_ur (y2 (by simp [hb0])), rfl, fun _ _ h => h⟩
  | own g w' xs =>
    simp only [sliceU] at hs
    cases hb : Nat.beq w' w with
    | false => rw [hb] at hs; simp at hs
    | true =>
      have hww : w' = w := Nat.eq_of_beq_eq_true hb
      subst hww
      rw [hb] at hs
      simp only [cond_true] at hs
      cases mx with
      | none =>
        simp only at hs
        cases n2 : optNatU s.e hi xs.length xs.length with
        | none => rw [n2] at hs; simp at hs
        | some hh =>
          rw [n2] at hs; simp only at hs
          cases n1 : optNatU s.e lo 0 hh with
          | none => rw [n1] at hs; simp at hs
          | some l =>
            rw [n1] at hs
            simp only [Option.some.injEq, Prod.mk.injEq] at hs
            obtain ⟨rfl, rfl⟩ := hs
            have q2 := h.optNat n2
            have q1 := h.optNat n1
            have b1 : l ≤ hh := optNat_le (Nat.zero_le _) q1
            have b2 : hh ≤ xs.length := optNat_le (Nat.le_refl _) q2
            obtain ⟨ω', v', k1, k2, k3⟩ := own_slice (d := d) h hu.1 b1 b2
            refine ⟨Z, ω', v', ?_, k1, ⟨k2, fun i off hh => by cases hh⟩, by rw [kill_len, kill_len], fun _ _ h => h⟩
            have hor := hu.1
            unfold OR at hor
            split at hor
            · obtain ⟨rfl, rfl | rfl⟩ := hor
              · simp only at k3; subst k3
                simp only [List.length_nil] at q2
                have z1 : hh = 0 := by simpa using b2
                subst z1
                have q3 : optNat e (optEr none) 0 0 = some 0 := rfl
                simp only [evS, hx, q3, q2, q1]
              · simp only at k3; subst k3
                simp only [List.length_nil] at q2
                have z1 : hh = 0 := by simpa using b2
                subst z1
                have q3 : optNat e (optEr none) 0 0 = some 0 := rfl
                simp only [evS, hx, q3, q2, q1]
            · rename_i I hg
              obtain ⟨rfl, _⟩ := hor
              simp only at k3
              obtain ⟨rfl, _, _, k4⟩ := k3
              have q2' : optNat e (optEr hi) xs.length I.cap = some hh := by
                cases hi with
                | none => simpa [optEr, optNat] using q2
                | some y =>
                  simp only [optEr, optNat] at q2 ⊢
                  cases hyv : y.er.ev e with
                  | none => rw [hyv] at q2; simp at q2
                  | some a =>
                    rw [hyv] at q2
                    simp only at q2 ⊢
                    cases a <;> simp [asNat] at q2 ⊢
                    omega
              have q3' : optNat e (optEr none) I.cap I.cap = some I.cap := rfl
              simp only [evS, hx, q3', q2', q1, Nat.beq_refl, cond_true]
              simp [optEr]
      | some mo =>
        simp only at hs
        split at hs <;> simp only [Option.some.injEq, Prod.mk.injEq, reduceCtorEq] at hs
        rename_i n2 n3 n1
        obtain ⟨rfl, rfl⟩ := hs
        have q2 := h.optNat n2
        have q3 := h.optNat n3
        have q1 := h.optNat n1
        obtain ⟨ω', k1, k2, k3⟩ := h.ownNil d
        have hm0 : ∀ k, optNat e (optEr (some mo)) k k = some 0 := fun k => by
          simp only [optEr, optNat] at q3 ⊢
          cases hyv : mo.er.ev e with
          | none => rw [hyv] at q3; simp at q3
          | some a =>
            rw [hyv] at q3
            simp only at q3 ⊢
            cases a <;> simp [asNat] at q3 ⊢
            omega
        have hh0 : optNat e (optEr hi) xs.length 0 = some 0 := by
          cases hi with
          | none => simpa [optEr, optNat] using q2
          | some y =>
            simp only [optEr, optNat] at q2 ⊢
            cases hyv : y.er.ev e with
            | none => rw [hyv] at q2; simp at q2
            | some a =>
              rw [hyv] at q2
              simp only at q2 ⊢
              cases a <;> simp [asNat] at q2 ⊢
              omega
        have hor := hu.1
        unfold OR at hor
        split at hor
        · obtain ⟨rfl, rfl | rfl⟩ := hor
          · refine ⟨Z, ω', .nils, ?_, k1, TR.empty k2 (.inl rfl), rfl, fun _ _ h => h⟩
            simp only [List.length_nil] at hh0
            simp only [evS, hx, hm0, hh0, q1]
          · refine ⟨Z, ω', .zslice, ?_, k1, TR.empty k2 (.inr rfl), rfl, fun _ _ h => h⟩
            simp only [List.length_nil] at hh0
            simp only [evS, hx, hm0, hh0, q1]
        · rename_i I hg
          obtain ⟨rfl, _⟩ := hor
          refine ⟨Z, ω', .zslice, ?_, k1, TR.empty k2 (.inr rfl), rfl, fun _ _ h => h⟩
          simp only [evS, hx, hm0, hh0, q1, Nat.beq_refl, cond_true]
          rfl
  | _ => simp [sliceU] at hs
end
end Go.RE
