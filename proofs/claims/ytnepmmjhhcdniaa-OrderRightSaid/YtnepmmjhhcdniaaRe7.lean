/- Each small operation, as it is compiled, does what the evaluator says. -/
import Derived.Test.YtnepmmjhhcdniaaRe6
namespace Go.RE
set_option linter.unusedSimpArgs false
set_option linter.unusedVariables false
section
variable {P : Program} {w0 : World} {ρ : Ren} {s : St} {w : World} {env : PT V} {e : Operand → Value}

theorem binV_sound {op : BinOp} {t : TypeId} {x y : Operand} {a b v : V} {u z : Value} (h : binV op (eqK P op t x y) a b = some v) (hu : VRel w0 ρ a u) (hz : VRel w0 ρ b z) (w : World) :
    ∃ r, ((do eqGuard op t x y u z; Go.binOp op t u z) : Sem Value).run P w = .ok r w ∧ VRel w0 ρ v r := by
  have plain : unguarded u z = true → (∃ r, (Go.binOp op t u z).run P w = .ok r w ∧ VRel w0 ρ v r) → ∃ r, ((do eqGuard op t x y u z; Go.binOp op t u z) : Sem Value).run P w = .ok r w ∧ VRel w0 ρ v r :=
    fun hg ⟨r, h1, h2⟩ => ⟨r, by simp [run_unguarded hg, h1], h2⟩
  have cmp : ∀ (neg : Bool), op = (if neg then .neq else .eql) → (∀ k n, a ≠ .int k n) → (∀ l, a ≠ .str l) → (∃ r, eqV (eqK P op t x y) a b = some r ∧ V.bool (if neg then !r else r) = v) →
      ∃ r, ((do eqGuard op t x y u z; Go.binOp op t u z) : Sem Value).run P w = .ok r w ∧ VRel w0 ρ v r := fun neg hop ha1 ha2 hh => by
    obtain ⟨r, hq, rfl⟩ := hh
    · obtain ⟨g1, g2⟩ := eqV_sound (op := op) (eqK_ok (P := P) op t x y) hq hu hz w
      refine ⟨.bool (if neg then !r else r), ?_, .bool _⟩
      simp only [Sem.run_bind, g2, Result.andThen_ok]
      have hnum : ∀ (p q : Value), (∀ k n, p ≠ .int k n) → (∀ s, p ≠ .string s) → (∀ k n, p ≠ .float k n) → (∀ k n m, p ≠ .complex k n m) → (Go.binOp .eql t p q = do pure (.bool (← Op.equal t p q))) ∧ (Go.binOp .neq t p q = do pure (.bool (!(← Op.equal t p q)))) := fun p q n1 n2 n3 n4 => by
        cases p <;> first
          | exact absurd rfl (n1 _ _)
          | exact absurd rfl (n2 _)
          | exact absurd rfl (n3 _ _)
          | exact absurd rfl (n4 _ _ _)
          | exact ⟨rfl, rfl⟩
      have hp := hnum u z (by cases hu <;> simp at ha1 ⊢) (by cases hu <;> simp at ha2 ⊢) (by cases hu <;> simp) (by cases hu <;> simp)
      cases neg
      · simp only [Bool.false_eq_true, if_false] at hop ⊢; subst hop; rw [hp.1]; simp [g1]
      · simp only [if_true] at hop ⊢; subst hop; rw [hp.2]; simp [g1]
  unfold binV at h
  split at h
  · cases hu; cases hz; exact plain rfl (shiftV_sound t (.inl rfl) h w)
  · cases hu; cases hz; exact plain rfl (shiftV_sound t (.inr rfl) h w)
  · split at h
    · rename_i hkj; subst hkj; cases hu; cases hz; exact plain rfl (intBin_sound t h w)
    · simp at h
  · cases hu with
    | str hx =>
      cases hz with
      | str hy =>
        refine plain rfl ?_
        have : ∀ p q, Go.binOp op t (.string p) (.string q) = Op.stringOp op p q := fun p q => by cases op <;> rfl
        rw [this]; exact strBin_sound hx hy h w
  · rename_i h1 h2 h3 h4
    refine cmp false rfl ?_ ?_ (by
      cases hq : eqV (eqK P .eql t x y) a b with
      | none => rw [hq] at h; simp at h
      | some r => rw [hq] at h; exact ⟨r, rfl, by simpa using h⟩)
    · rintro k n rfl
      cases b <;> first
        | (simp [eqV] at h; done)
        | exact absurd rfl (h3 _ _ _ _ rfl)
        | (revert h; cases eqK P .eql t x y <;> simp [eqV])
    · rintro l rfl
      revert h; cases eqK P .eql t x y <;> simp [eqV]
  · rename_i h1 h2 h3 h4 h5
    refine cmp true rfl ?_ ?_ (by
      cases hq : eqV (eqK P .neq t x y) a b with
      | none => rw [hq] at h; simp at h
      | some r => rw [hq] at h; exact ⟨r, rfl, by simpa using h⟩)
    · rintro k n rfl
      revert h; cases eqK P .neq t x y <;> simp [eqV]
    · rintro l rfl
      revert h; cases eqK P .neq t x y <;> simp [eqV]
  · simp at h

theorem unV_sound {op : UnOp} {a v : V} {u : Value} (h : unV op a = some v) (hu : VRel w0 ρ a u) (w : World) : ∃ r, (Op.unary op u).run P w = .ok r w ∧ VRel w0 ρ v r := by
  unfold unV at h
  split at h
  · simp only [Option.some.injEq] at h; subst h; cases hu; exact ⟨_, rfl, by rw [wrapA_eq]; exact .int _ _⟩
  · simp only [Option.some.injEq] at h; subst h; cases hu; exact ⟨_, rfl, .bool _⟩
  · cases hu
    simp only [intBin, wrapA_eq, Option.some.injEq] at h; subst h
    exact ⟨_, rfl, .int _ _⟩
  · simp at h

theorem max2_sound {a b c : V} {x y : Value} (h : max2V a b = some c) (hx : VRel w0 ρ a x) (hy : VRel w0 ρ b y) (w : World) : ∃ z, (Builtin.max2 x y).run P w = .ok z w ∧ VRel w0 ρ c z := by
  unfold max2V at h
  split at h
  · split at h
    · simp only [Option.some.injEq] at h; subst h; cases hx; cases hy; exact ⟨_, rfl, .int _ _⟩
    · simp at h
  · simp only [Option.some.injEq] at h; subst h
    obtain ⟨p, rfl, hp⟩ := hx.str_inv
    obtain ⟨q, rfl, hq⟩ := hy.str_inv
    refine ⟨.string (if Op.bytesLess p.toList q.toList then q else p), ?_, ?_⟩
    · simp only [Builtin.max2, Op.stringOp, Sem.run_bind, Sem.run_pure, Result.andThen_ok, asBool]
      cases Op.bytesLess p.toList q.toList <;> simp
    · rw [byteArray_toList, byteArray_toList, hp, hq]
      split
      · exact .str hq
      · exact .str hp
  · simp at h
theorem min2_sound {a b c : V} {x y : Value} (h : min2V a b = some c) (hx : VRel w0 ρ a x) (hy : VRel w0 ρ b y) (w : World) : ∃ z, (Builtin.min2 x y).run P w = .ok z w ∧ VRel w0 ρ c z := by
  unfold min2V at h
  split at h
  · split at h
    · simp only [Option.some.injEq] at h; subst h; cases hx; cases hy; exact ⟨_, rfl, .int _ _⟩
    · simp at h
  · simp only [Option.some.injEq] at h; subst h
    obtain ⟨p, rfl, hp⟩ := hx.str_inv
    obtain ⟨q, rfl, hq⟩ := hy.str_inv
    refine ⟨.string (if (Op.bytesLess p.toList q.toList || p.toList == q.toList) then p else q), ?_, ?_⟩
    · simp only [Builtin.min2, Op.stringOp, Sem.run_bind, Sem.run_pure, Result.andThen_ok, asBool]
      first | done | (cases (Op.bytesLess p.toList q.toList || p.toList == q.toList) <;> simp)
    · rw [byteArray_toList, byteArray_toList, hp, hq]
      split
      · exact .str hp
      · exact .str hq
  · simp at h
theorem foldV_sound {f : V → V → Option V} {g : Value → Value → Sem Value} (hf : ∀ {a b c x y}, f a b = some c → VRel w0 ρ a x → VRel w0 ρ b y → ∀ w : World, ∃ z, (g x y).run P w = .ok z w ∧ VRel w0 ρ c z) :
    ∀ {l : List V} {l' : List Value} {a c : V} {x : Value}, foldV f a l = some c → VRel w0 ρ a x → LRel w0 ρ l l' → ∀ w : World, ∃ z, (l'.foldlM g x).run P w = .ok z w ∧ VRel w0 ρ c z := by
  intro l
  induction l with
  | nil => intro l' a c x h hx hl w; rw [hl.inv_nil]; simp [foldV] at h; subst h; exact ⟨x, by simp, hx⟩
  | cons b l ih =>
    intro l' a c x h hx hl w
    obtain ⟨y, ys, rfl, hy, hys⟩ := hl.inv_cons
    simp only [foldV] at h
    cases hh : f a b with
    | none => simp [hh] at h
    | some d =>
      simp only [hh] at h
      obtain ⟨z, z1, z2⟩ := hf hh hx hy w
      obtain ⟨z', z3, z4⟩ := ih h z2 hys w
      exact ⟨z', by simp [List.foldlM_cons, z1, z3], z4⟩

theorem spread_isAgg {t : TypeId} (h : spread P t = some none) (w : World) : (isAgg t).run P w = .ok false w := by
  unfold spread at h
  split at h
  · split at h <;> simp at h
  · split at h <;> simp at h
  · rename_i d h1 h2 hu
    unfold isAgg
    rw [Sem.run_bind, run_underlying hu w]
    cases d <;> simp_all
  · simp at h
theorem spread_some {t : TypeId} {n : Nat} (h : spread P t = some (some n)) (w : World) : (isAgg t).run P w = .ok true w ∧ (sizeOf t).run P w = .ok n w := by
  unfold spread at h
  split at h
  · rename_i fs hu
    split at h <;> simp at h
    rename_i m hm; subst h
    exact ⟨by unfold isAgg; rw [Sem.run_bind, run_underlying hu w]; rfl, run_sizeO hm w⟩
  · rename_i k el hu
    split at h <;> simp at h
    rename_i m hm; subst h
    exact ⟨by unfold isAgg; rw [Sem.run_bind, run_underlying hu w]; rfl, run_sizeO hm w⟩
  · simp at h
  · simp at h

theorem part_sound {t : TypeId} {n : Option Nat} {cs : List V} {cs' : Array Value} {off : Nat} {v : V} (hn : spread P t = some n) (hr : LRel w0 ρ cs cs'.toList) (hv : loadRow n cs off = some v) (w : World) :
    ∃ x, (part t cs' off).run P w = .ok x w ∧ VRel w0 ρ v x := by
  cases n with
  | none =>
    simp only [loadRow] at hv
    obtain ⟨x, h1, h2⟩ := hr.get hv
    refine ⟨x, ?_, h2⟩
    have h1' : cs'[off]? = some x := by simpa using h1
    simp [part, spread_isAgg hn, h1']
  | some n =>
    simp only [loadRow] at hv
    cases hb : Nat.ble (off + n) cs.length with
    | false => simp [hb] at hv
    | true =>
      simp only [hb, cond_true, Option.some.injEq] at hv; subst hv
      obtain ⟨g1, g2⟩ := spread_some hn w
      refine ⟨.agg (cs'.extract off (off + n)), by simp [part, g1, g2], ?_⟩
      have hh := VRel.agg_of ((hr.drop off).take n)
      have : (List.take n (List.drop off cs'.toList)).toArray = cs'.extract off (off + n) := by
        apply Array.ext'
        simp [List.take_drop]
      rwa [this] at hh

theorem sliceStr_data (b : ByteArray) (l h : Nat) : (b.extract l h).data.toList = (b.data.toList.take h).drop l := by
  rw [ByteArray.data_extract]; simp [List.drop_take]

theorem str_get (b : ByteArray) (i : Nat) : b[i]? = b.data.toList[i]? := by
  rw [Array.getElem?_toList]
  by_cases h : i < b.size
  · rw [getElem?_pos b i h, getElem?_pos b.data i h]; rfl
  · rw [getElem?_neg b i h, getElem?_neg b.data i h]

theorem cb_s {b : Builtin} {ts : List TypeId} {xs : List Opd} {so : SOp} (h : cbuiltin P b ts xs = .s so) :
    (b = .len ∧ ∃ t ts' x xs', ts = t :: ts' ∧ xs = x :: xs' ∧ ((P.underlying t = some .string ∧ so = .len 0 x) ∨ ((∃ el, P.underlying t = some (.slice el)) ∧ so = .len 1 x) ∨ ((∃ k el, P.underlying t = some (.map k el)) ∧ so = .len 2 x))) ∨
    (b = .cap ∧ ∃ t ts' x xs', ts = t :: ts' ∧ xs = x :: xs' ∧ (∃ el, P.underlying t = some (.slice el)) ∧ so = .cap x) ∨ (b = .max ∧ so = .max xs) ∨ (b = .min ∧ so = .min xs) := by
  unfold cbuiltin at h
  split at h
  · rename_i t ts' x xs'
    split at h <;> cases h
    · exact .inl ⟨rfl, t, ts', x, xs', rfl, rfl, .inl ⟨by assumption, rfl⟩⟩
    · exact .inl ⟨rfl, t, ts', x, xs', rfl, rfl, .inr (.inl ⟨⟨_, by assumption⟩, rfl⟩)⟩
    · exact .inl ⟨rfl, t, ts', x, xs', rfl, rfl, .inr (.inr ⟨⟨_, _, by assumption⟩, rfl⟩)⟩
  · rename_i t ts' x xs'
    split at h <;> cases h
    exact .inr (.inl ⟨rfl, t, ts', x, xs', rfl, rfl, ⟨_, by assumption⟩, rfl⟩)
  · cases h; exact .inr (.inr (.inl ⟨rfl, rfl⟩))
  · cases h; exact .inr (.inr (.inr ⟨rfl, rfl⟩))
  · split at h
    · split at h
      · unfold cond at h; split at h <;> cases h
      · unfold cond at h; split at h <;> cases h
      · cases h
    · cases h
  · split at h
    · split at h <;> cases h
    · cases h
  · split at h
    · split at h <;> cases h
    · cases h
  · cases h

theorem opds_cons {l : List Operand} {o : Opd} {os : List Opd} (h : opds l = some (o :: os)) : ∃ x xs, l = x :: xs ∧ opd x = some o ∧ opds xs = some os := by
  cases l with
  | nil => simp [opds] at h
  | cons x xs =>
    simp only [opds] at h
    cases hx : opd x with
    | none => simp [hx] at h
    | some o' =>
      cases hxs : opds xs with
      | none => simp [hx, hxs] at h
      | some os' => simp [hx, hxs] at h; obtain ⟨rfl, rfl⟩ := h; exact ⟨x, xs, rfl, hx, hxs⟩

theorem Rel.row_room (h : Rel w0 ρ s w) {b r o lim : Nat} {cs : List V} (e : ρ b = some (r, o, lim)) (hs : s.row b = some cs) : o + cs.length ≤ lim := by
  have ho := h.ob b r o lim e
  unfold St.row at hs
  split at hs
  · rename_i cs' hg
    simp at hs; subst hs
    rw [hg] at ho
    obtain ⟨c, t, fr, h1, h2, h3, h4, h5⟩ := ho
    exact h3
  · simp at hs

theorem beq00 : Nat.beq 0 0 = true := rfl
theorem beq01 : Nat.beq 0 1 = false := rfl
theorem beq02 : Nat.beq 0 2 = false := rfl
theorem beq10 : Nat.beq 1 0 = false := rfl
theorem beq11 : Nat.beq 1 1 = true := rfl
theorem beq12 : Nat.beq 1 2 = false := rfl
theorem beq20 : Nat.beq 2 0 = false := rfl
theorem beq21 : Nat.beq 2 1 = false := rfl
theorem beq22 : Nat.beq 2 2 = true := rfl

theorem evS_sound {o : Oper} {so : SOp} {v : V} (hc : cop P o.op = .s so) (hv : evS env s so = some v) (hR : Rel w0 ρ s w) (H : ∀ x ∈ o.op.operands, OpdOK w0 ρ env e x) : Gives P w0 ρ w e o v := by
  obtain ⟨dst, op, type, pos, after, guard⟩ := o
  simp only at hc H
  cases op with
  | move x =>
    simp only [cop] at hc; split at hc <;> cases hc
    rename_i o ho
    exact ⟨e x, rfl, H x (by simp [Op.operands]) o v ho hv⟩
  | assign x =>
    simp only [cop] at hc; split at hc <;> cases hc
    rename_i o ho
    exact ⟨e x, rfl, H x (by simp [Op.operands]) o v ho hv⟩
  | pick c a b =>
    simp only [cop] at hc; split at hc <;> cases hc
    rename_i co ao bo hco hao hbo
    simp only [evS] at hv
    split at hv
    · rename_i hcv
      have h1 := H c (by simp [Op.operands]) co _ hco hcv
      refine ⟨e a, ?_, H a (by simp [Op.operands]) ao v hao hv⟩
      simp [execOp, h1.bool_inv, asBool]
    · rename_i hcv
      have h1 := H c (by simp [Op.operands]) co _ hco hcv
      refine ⟨e b, ?_, H b (by simp [Op.operands]) bo v hbo hv⟩
      simp [execOp, h1.bool_inv, asBool]
    · simp at hv
  | load t a =>
    simp only [cop] at hc; split at hc <;> cases hc
    rename_i n ao hn hao
    exact gives_of rfl (load_sound hn hao hv hR (H a (by simp [Op.operands])))
  | nilCheck x =>
    simp only [cop] at hc; split at hc <;> cases hc
    rename_i xo hxo
    simp only [evS] at hv
    split at hv <;> try (simp at hv; done)
    rename_i h1 h2 h3
    have hx := H x (by simp [Op.operands]) xo v hxo hv
    refine ⟨e x, ?_, hx⟩
    simp only [execOp]
    generalize e x = ex at hx
    cases hx <;> first | rfl | exact absurd hv h1 | exact absurd hv h2 | exact absurd hv h3
  | binOp op t x y yt =>
    simp only [cop] at hc; split at hc <;> cases hc
    rename_i a b ha hb
    simp only [evS] at hv
    split at hv <;> try (simp at hv; done)
    rename_i p q hp hq
    exact gives_of rfl (binV_sound hv (H x (by simp [Op.operands]) a p ha hp) (H y (by simp [Op.operands]) b q hb hq) w)
  | unOp op t x =>
    simp only [cop] at hc; split at hc <;> cases hc
    rename_i a ha
    simp only [evS] at hv
    split at hv <;> try (simp at hv; done)
    rename_i p hp
    exact gives_of rfl (unV_sound hv (H x (by simp [Op.operands]) a p ha hp) w)
  | convert src dst x =>
    simp only [cop] at hc
    split at hc
    · rename_i d k xo hs hd hxo
      cases hc
      simp only [evS] at hv
      split at hv <;> try (simp at hv; done)
      rename_i k' n hn
      simp only [Option.some.injEq] at hv; subst hv
      have hx := (H x (by simp [Op.operands]) xo _ hxo hn).int_inv
      refine gives_of rfl ⟨.int k (k.wrap n), ?_, by rw [wrapA_eq]; exact .int _ _⟩
      rw [hx]; simp [convert, run_underlying hs, run_underlying hd, Conv.intToInt]
    · rename_i xo hs hd hxo
      cases hc
      simp only [evS] at hv
      split at hv <;> try (simp at hv; done)
      rename_i b hb
      simp only [Option.some.injEq] at hv; subst hv
      have hx := H x (by simp [Op.operands]) xo _ hxo hb
      obtain ⟨p, hp, hp2⟩ := hx.str_inv
      refine gives_of rfl ⟨.string p, ?_, .str hp2⟩
      rw [hp]; simp [convert, run_underlying hs, run_underlying hd]
    · rename_i el xo hs hd hxo
      cases hu8 : isU8 P el with
      | false => simp [hu8] at hc
      | true =>
        simp only [hu8, cond_true, COp.s.injEq] at hc; subst hc
        have he : P.underlying el = some (.int .u8) := by unfold isU8 at hu8; split at hu8 <;> simp_all
        simp only [evS] at hv
        split at hv <;> try (simp at hv; done)
        rename_i u hu
        cases hsc : sliceCells s 1 u with
        | none => simp [hsc] at hv
        | some cs =>
          cases hbs : bytesOf cs with
          | none => simp [hsc, hbs] at hv
          | some bs =>
            simp only [hsc, hbs, Option.some.injEq] at hv; subst hv
            have hx := H x (by simp [Op.operands]) xo _ hxo hu
            obtain ⟨y, h1, h2⟩ := toStr_sound (P := P) hsc hbs hR hx
            refine gives_of rfl ⟨.string y, ?_, .str h2⟩
            have hsl : ∃ a l c, e x = .slice a l c := by
              rcases sliceCells_sound hsc hR hx with ⟨h, _⟩ | ⟨a, l, c, _, h, _⟩
              · exact ⟨_, _, _, h⟩
              · exact ⟨_, _, _, h⟩
            obtain ⟨a, l, c, hsl⟩ := hsl
            rw [hsl] at h1 ⊢
            rw [run_convert_bytes_string w src dst el a l c hs he hd]; exact h1
    · rename_i el xo hs hd hxo
      cases hu8 : isU8 P el <;> simp [hu8] at hc
    · cases hc
  | makeInterface t x =>
    simp only [cop] at hc; split at hc <;> cases hc
    rename_i d xo h1 hu hxo
    simp only [evS] at hv
    split at hv <;> try (simp at hv; done)
    rename_i p hp
    simp only [Option.some.injEq] at hv; subst hv
    refine gives_of rfl ⟨.iface t (e x), ?_, .iface (H x (by simp [Op.operands]) xo p hxo hp)⟩
    simp only [Instr.makeInterface, Sem.run_bind, run_underlying hu, Result.andThen_ok]
    cases d <;> simp_all
  | makeFunc fn first captured =>
    cases fn <;> simp only [cop] at hc <;> try (cases hc; done)
    rename_i f
    split at hc <;> cases hc
    rename_i a b ha hb
    simp only [evS] at hv
    split at hv <;> try (simp at hv; done)
    rename_i p q hp hq
    simp only [Option.some.injEq] at hv; subst hv
    have h1 := opds_rel ha hp fun x hx => H x (by simp [Op.operands]; exact .inl (by simpa using hx))
    have h2 := opds_rel hb hq fun x hx => H x (by simp [Op.operands]; exact .inr (by simpa using hx))
    refine gives_of rfl ⟨.func (.func f) (first.map e) (captured.map e), rfl, ?_⟩
    exact .func (by simpa using h1.1) (by simpa using h2.1) (fun i g1 g2 => by have := h1.2 i g1 (by simpa using g2); simpa [List.getElem_map] using this) (fun i g1 g2 => by have := h2.2 i g1 (by simpa using g2); simpa [List.getElem_map] using this)
  | build t parts =>
    simp only [cop] at hc
    split at hc <;> try (cases hc; done)
    rename_i fs hu
    split at hc <;> try (cases hc; done)
    rename_i z ps hz hps
    split at hc <;> cases hc
    rename_i l hl
    simp only [evS] at hv
    cases hf : fillV env z.cells l with
    | none => simp [hf] at hv
    | some out =>
      simp only [hf, Option.some.injEq] at hv; subst hv
      have := build_sound (P := P) (e := e) hu hz hps hl hf (fun p hp => H p.2 (by simp [Op.operands]; exact ⟨p.1, by simpa using hp⟩)) w
      exact gives_of rfl (by simpa using this)
  | slice t x lo hi mx =>
    simp only [cop] at hc
    have hx := H x (by simp [Op.operands])
    have hlo : ∀ y, lo = some y → OpdOK w0 ρ env e y := fun y hy => H y (by simp [Op.operands, hy])
    have hhi : ∀ y, hi = some y → OpdOK w0 ρ env e y := fun y hy => H y (by simp [Op.operands, hy])
    have hmx : ∀ y, mx = some y → OpdOK w0 ρ env e y := fun y hy => H y (by simp [Op.operands, hy])
    split at hc
    · rename_i xo lo' hi' hu hxo e1 e2 e3
      cases hc
      have hm : mx = none := by
        cases mx with
        | none => rfl
        | some y => simp only [opdO] at e3; split at e3 <;> simp at e3
      subst hm
      simp only [evS] at hv
      split at hv <;> try (simp at hv; done)
      rename_i b hb
      cases n2 : optNat env hi' b.length b.length with
      | none => simp [n2] at hv
      | some h =>
        cases n1 : optNat env lo' 0 h with
        | none => simp [n2, n1] at hv
        | some l =>
          simp only [n2, n1, Option.some.injEq] at hv; subst hv
          obtain ⟨p, hp, hp2⟩ := (hx xo _ hxo hb).str_inv
          have hsz : p.size = b.length := by rw [← hp2]; simp
          have hbd := run_sliceBounds_of (P := P) (isSlice := false) (len := b.length) (cap := b.length) (cap' := b.length) (m := b.length) e1 e2 (show opdO none = some none from rfl) (by simp) (by simp [optNat]) n2 n1 (Nat.le_refl _) hlo hhi (by simp) w
          refine gives_of rfl ⟨.string (p.extract l h), ?_, .str (by rw [sliceStr_data, hp2])⟩
          simp only [Option.map_none] at hbd
          simp only [Instr.sliceAt, Sem.run_bind, run_underlying hu, Result.andThen_ok, Instr.slice, hp, Option.map_none, Option.isSome_none, Bool.false_eq_true, if_false, hsz, hbd]
          rfl
    · rename_i el xo lo' hi' mx' hu hxo e1 e2 e3
      split at hc <;> try (cases hc; done)
      rename_i sz hsz
      have hmxe : mx'.isSome = mx.isSome := by
        cases mx with
        | none => simp [opdO] at e3; subst e3; rfl
        | some y => simp only [opdO] at e3; split at e3 <;> simp at e3; subst e3; rfl
      have hhie : hi'.isSome = hi.isSome := by
        cases hi with
        | none => simp [opdO] at e2; subst e2; rfl
        | some y => simp only [opdO] at e2; split at e2 <;> simp at e2; subst e2; rfl
      rw [hmxe, hhie] at hc
      cases hm : (mx.isSome && !hi.isSome) with
      | true => rw [hm] at hc; simp at hc
      | false =>
        rw [hm] at hc
        simp only [cond_false, COp.s.injEq] at hc; subst hc
        have hm' : mx.isSome = true → hi.isSome = true := fun h => by simpa [h] using hm
        have hrun : ∀ {l h m len cap' : Nat} {a : Option Addr}, (Instr.sliceBounds true len cap' (lo.map e) (hi.map e) (mx.map e)).run P w = .ok (l, h, m) w →
            (Instr.sliceAt t (.slice a len cap') (lo.map e) (hi.map e) (mx.map e)).run P w = .ok (.slice (if m = l then a else a.map (·.add (l * sz))) (h - l) (m - l)) w := fun {l h m len cap' a} hb => by
          simp only [Instr.sliceAt, Sem.run_bind, run_underlying hu, Result.andThen_ok, Instr.slice, hb, run_sizeO hsz]
          rfl
        simp only [evS] at hv
        split at hv
        · rename_i hxv
          cases n3 : optNat env mx' 0 0 with
          | none => simp [n3] at hv
          | some m =>
            cases n2 : optNat env hi' 0 m with
            | none => simp [n3, n2] at hv
            | some h =>
              cases n1 : optNat env lo' 0 h with
              | none => simp [n3, n2, n1] at hv
              | some l =>
                simp only [n3, n2, n1, Option.some.injEq] at hv; subst hv
                have hbd := run_sliceBounds_of (P := P) (isSlice := true) e1 e2 e3 hm' n3 n2 n1 (Nat.le_refl 0) hlo hhi hmx w
                have b3 := optNat_le (Nat.le_refl 0) n3
                have b2 : h ≤ 0 := by
                  have : h ≤ m := by
                    cases hi' with
                    | none => simp [optNat] at n2; omega
                    | some o => exact optNat_le (d := 0) (by omega) n2
                  omega
                have b1 := optNat_le (Nat.zero_le h) n1
                have hz := hx xo _ hxo hxv
                generalize hex : e x = ex at hz
                cases hz
                refine gives_of rfl ⟨.slice none 0 0, ?_, .nils⟩
                show (Instr.sliceAt t (e x) _ _ _).run P w = _
                rw [hex, hrun hbd]
                have hl0 : l = 0 := by omega
                have hh0 : h = 0 := by omega
                have hm0 : (if mx.isSome = true then m else 0) = 0 := by split <;> omega
                simp [hl0, hh0, hm0]
        · rename_i b off len cap sz' ex hxv
          cases n3 : optNat env mx' cap cap with
          | none => simp [n3] at hv
          | some m =>
            cases n2 : optNat env hi' len m with
            | none => simp [n3, n2] at hv
            | some h =>
              cases n1 : optNat env lo' 0 h with
              | none => simp [n3, n2, n1] at hv
              | some l =>
                simp only [n3, n2, n1] at hv
                cases hbq : Nat.beq sz sz' with
                | false => simp [hbq] at hv
                | true =>
                  have hszz : sz = sz' := Nat.eq_of_beq_eq_true hbq
                  subst hszz
                  simp only [hbq, cond_true, Option.some.injEq] at hv; subst hv
                  have hz := hx xo _ hxo hxv
                  generalize hex : e x = ex' at hz
                  cases hz with
                  | slice hρ h1 h2 h3 h4 =>
                    rename_i r o lim a cap'
                    have hbd := run_sliceBounds_of (P := P) (isSlice := true) e1 e2 e3 hm' n3 n2 n1 h1 hlo hhi hmx w
                    have b3 := optNat_le (Nat.le_refl cap) n3
                    have b1 := optNat_le (Nat.zero_le h) n1
                    have hm0 : mx.isSome = false → m = cap := fun hn => by
                      cases mx with
                      | some _ => simp at hn
                      | none => simp [opdO] at e3; subst e3; simp [optNat] at n3; exact n3.symm
                    have bh : h ≤ m := by
                      cases hi with
                      | none =>
                        simp [opdO] at e2; subst e2
                        simp [optNat] at n2
                        have : mx.isSome = false := by cases hq : mx.isSome with | false => rfl | true => have := hm' hq; simp at this
                        rw [hm0 this]; omega
                      | some y => 
                        simp only [opdO] at e2
                        split at e2 <;> simp at e2
                        subst e2
                        simp only [optNat] at n2
                        split at n2
                        · exact asNat_le n2
                        · simp at n2
                    refine gives_of rfl ⟨_, by show (Instr.sliceAt t (e x) _ _ _).run P w = _; rw [hex]; exact hrun hbd, ?_⟩
                    generalize hM : (if mx.isSome = true then m else cap') = M
                    have hMm : m ≤ M ∧ M ≤ cap' ∧ (ex = true ∨ mx.isSome = true → M = m) := by
                      subst hM
                      cases hq : mx.isSome with
                      | true => simp; omega
                      | false =>
                        have := hm0 hq
                        simp
                        refine ⟨by omega, fun hex => ?_⟩
                        rw [h2 hex, this]
                    have hsome : ∃ a', (if M = l then some a else Option.map (fun x => x.add (l * sz)) (some a)) = some a' ∧ (M - l = 0 ∨ (a' = ⟨r, o + (off + l * sz), none⟩ ∧ o + (off + l * sz) + (M - l) * sz ≤ lim)) := by
                      by_cases hml : M = l
                      · exact ⟨a, by rw [if_pos hml], .inl (by omega)⟩
                      · refine ⟨a.add (l * sz), by rw [if_neg hml]; rfl, ?_⟩
                        rcases h4 with h4 | ⟨rfl, h5⟩
                        · left; omega
                        · right
                          refine ⟨by rw [addr_add]; simp [Nat.add_assoc], ?_⟩
                          have : l * sz + (M - l) * sz ≤ cap' * sz := by rw [← Nat.add_mul]; exact Nat.mul_le_mul_right _ (by omega)
                          omega
                    obtain ⟨a', ha', hd⟩ := hsome
                    rw [ha']
                    refine .slice hρ (by omega) (fun hx => ?_) (by omega) hd
                    have := hMm.2.2 (by
                      rw [hmxe] at hx
                      cases ex
                      · simp at hx; exact .inr hx
                      · exact .inl rfl)
                    omega
        · rename_i row off len sz' hxv
          cases mx' with
          | some _ => simp at hv
          | none =>
            have hmn : mx = none := by cases mx with | none => rfl | some _ => simp at hmxe
            subst hmn
            cases n2 : optNat env hi' len len with
            | none => simp [n2] at hv
            | some h =>
              cases n1 : optNat env lo' 0 h with
              | none => simp [n2, n1] at hv
              | some l =>
                simp only [n2, n1] at hv
                cases hbq : Nat.beq sz sz' with
                | false => simp [hbq] at hv
                | true =>
                  have hszz : sz = sz' := Nat.eq_of_beq_eq_true hbq
                  subst hszz
                  simp only [hbq, cond_true, Option.some.injEq] at hv; subst hv
                  have hz := hx xo _ hxo hxv
                  generalize hex : e x = ex' at hz
                  cases hz with
                  | cslice c hr hc hcv h3 h4 =>
                    rename_i r o a cap'
                    have hbd := run_sliceBounds_of (P := P) (isSlice := true) (cap := len) (m := len) e1 e2 e3 (by simp) (by simp [optNat]) n2 n1 h3 hlo hhi (by simp) w
                    have b2 := optNat_le (Nat.le_refl len) n2
                    have b1 := optNat_le (Nat.zero_le h) n1
                    simp only [Option.isSome_none, Bool.false_eq_true, if_false, Option.map_none] at hbd
                    refine gives_of rfl ⟨_, by show (Instr.sliceAt t (e x) _ _ _).run P w = _; rw [hex]; exact hrun hbd, ?_⟩
                    have hsome : ∃ a', (if cap' = l then some a else Option.map (fun x => x.add (l * sz)) (some a)) = some a' ∧ (cap' - l = 0 ∨ a' = ⟨r, o + (off + l * sz), none⟩) := by
                      by_cases hml : cap' = l
                      · exact ⟨a, by rw [if_pos hml], .inl (by omega)⟩
                      · refine ⟨a.add (l * sz), by rw [if_neg hml]; rfl, ?_⟩
                        rcases h4 with h4 | rfl
                        · left; omega
                        · right; rw [addr_add]; simp [Nat.add_assoc]
                    obtain ⟨a', ha', hd⟩ := hsome
                    rw [ha']
                    exact .cslice c hr hc hcv (by omega) hd
        · simp at hv
    · rename_i n el xo lo' hi' hu hxo e1 e2 e3
      split at hc <;> cases hc
      rename_i sz hsz
      have hm : mx = none := by
        cases mx with
        | none => rfl
        | some y => simp only [opdO] at e3; split at e3 <;> simp at e3
      subst hm
      simp only [evS] at hv
      split at hv <;> try (simp at hv; done)
      rename_i b off hb
      cases n2 : optNat env hi' n n with
      | none => simp [n2] at hv
      | some h =>
        cases n1 : optNat env lo' 0 h with
        | none => simp [n2, n1] at hv
        | some l =>
          simp only [n2, n1] at hv
          cases hs : s.row b with
          | none => simp [hs] at hv
          | some cs =>
            simp only [hs] at hv
            cases hbl : Nat.ble (off + n * sz) cs.length with
            | false => simp [hbl] at hv
            | true =>
              simp only [hbl, cond_true, Option.some.injEq] at hv; subst hv
              have hble := Nat.le_of_ble_eq_true hbl
              have hz := hx xo _ hxo hb
              generalize hex : e x = ex' at hz
              cases hz with
              | ptr hρ =>
                rename_i r o lim
                have hrow := hR.row_room hρ hs
                have hbd := run_sliceBounds_of (P := P) (isSlice := false) (len := n) (cap := n) (cap' := n) (m := n) e1 e2 (show opdO none = some none from rfl) (by simp) (by simp [optNat]) n2 n1 (Nat.le_refl _) hlo hhi (by simp) w
                have b2 := optNat_le (Nat.le_refl n) n2
                have b1 := optNat_le (Nat.zero_le h) n1
                simp only [Option.map_none, Option.isSome_none, Bool.false_eq_true, if_false] at hbd
                refine gives_of rfl ⟨.slice (some (if n = l then ⟨r, o + off, none⟩ else (⟨r, o + off, none⟩ : Addr).add (l * sz))) (h - l) (n - l), ?_, ?_⟩
                · simp only [Instr.sliceAt, Sem.run_bind, run_underlying hu, Result.andThen_ok, hex, Instr.sureAddr, Sem.run_pure, Option.map_none, hbd, run_sizeO hsz]
                · refine .slice hρ (Nat.le_refl _) (fun _ => rfl) (by omega) ?_
                  by_cases hml : n = l
                  · left; omega
                  · right
                    rw [if_neg hml, addr_add]
                    have : l * sz + (n - l) * sz = n * sz := by rw [← Nat.add_mul]; congr 1; omega
                    exact ⟨by simp [Nat.add_assoc], by omega⟩
    · cases hc
  | fieldAddr t x f =>
    simp only [cop] at hc
    split at hc <;> try (cases hc; done)
    rename_i fs xo hu hxo
    split at hc <;> try (cases hc; done)
    rename_i fd hfd
    split at hc <;> cases hc
    rename_i k hk
    simp only [evS] at hv
    have hx := H x (by simp [Op.operands]) xo
    have hrun : ∀ {r q : Nat}, e x = .pointer (some ⟨r, q, none⟩) → (Instr.fieldAt t (e x) f).run P w = .ok (.pointer (some ⟨r, q + fd.offset, none⟩)) w := fun {r q} hh => by
      simp [Instr.fieldAt, run_underlying hu, hfd, hh, Instr.sureAddr, fieldPlace, run_sizeO hk, addr_add]
    split at hv <;> simp only [Option.some.injEq, reduceCtorEq] at hv <;> subst hv
    · rename_i b o' hb
      have hz := hx _ hxo hb
      generalize hex : e x = ex at hz
      cases hz with
      | ptr hρ => exact gives_of rfl ⟨_, hrun hex, by rw [Nat.add_assoc]; exact .ptr hρ⟩
    · rename_i row o' hb
      have hz := hx _ hxo hb
      generalize hex : e x = ex at hz
      cases hz with
      | cptr c hr hc hcv => exact gives_of rfl ⟨_, hrun hex, by rw [Nat.add_assoc]; exact .cptr c hr hc hcv⟩
  | field t x f =>
    simp only [cop] at hc
    split at hc <;> try (cases hc; done)
    rename_i fs xo hu hxo
    split at hc <;> try (cases hc; done)
    rename_i fd hfd
    split at hc <;> cases hc
    rename_i n hn
    simp only [evS] at hv
    split at hv <;> try (simp at hv; done)
    rename_i cs hcs
    have hz := H x (by simp [Op.operands]) xo _ hxo hcs
    generalize hex : e x = ex at hz
    cases hz with
    | agg ha va =>
      obtain ⟨y, h1, h2⟩ := part_sound (P := P) hn (LRel.of_array ha va) hv w
      refine gives_of rfl ⟨y, ?_, h2⟩
      simp [Instr.field, run_underlying hu, hfd, hex, asAgg, h1]
  | indexAddr t x i =>
    simp only [cop] at hc
    have hx := H x (by simp [Op.operands])
    have hi := H i (by simp [Op.operands])
    split at hc
    · rename_i el xo io hu hxo hio
      split at hc <;> cases hc
      rename_i sz hsz
      simp only [evS] at hv
      split at hv
      · rename_i b off len cap z ex k n hb hn
        split at hv <;> try (simp at hv; done)
        rename_i hlt
        cases hbq : Nat.beq z sz with
        | false => simp [hbq] at hv
        | true =>
          have hzz : z = sz := Nat.eq_of_beq_eq_true hbq
          subst hzz
          simp only [hbq, cond_true, Option.some.injEq] at hv; subst hv
          have hz := hx xo _ hxo hb
          have hii := (hi io _ hio hn).int_inv
          generalize hex : e x = ex' at hz
          cases hz with
          | slice hρ h1 h2 h3 h4 =>
            rename_i r o lim a cap'
            rcases h4 with h4 | ⟨rfl, h5⟩
            · exfalso; omega
            · refine gives_of rfl ⟨.pointer (some ⟨r, o + (off + n.toNat * z), none⟩), ?_, .ptr hρ⟩
              simp [Instr.indexAt, hii, hex, asIntOf, run_underlying hu, hlt, run_sizeO hsz, addr_add, Nat.add_assoc]
      · rename_i row off len z k n hb hn
        split at hv <;> try (simp at hv; done)
        rename_i hlt
        cases hbq : Nat.beq z sz with
        | false => simp [hbq] at hv
        | true =>
          have hzz : z = sz := Nat.eq_of_beq_eq_true hbq
          subst hzz
          simp only [hbq, cond_true, Option.some.injEq] at hv; subst hv
          have hz := hx xo _ hxo hb
          have hii := (hi io _ hio hn).int_inv
          generalize hex : e x = ex' at hz
          cases hz with
          | cslice c hr hc hcv h3 h4 =>
            rename_i r o a cap'
            rcases h4 with h4 | rfl
            · exfalso; omega
            · refine gives_of rfl ⟨.pointer (some ⟨r, o + (off + n.toNat * z), none⟩), ?_, .cptr c hr hc hcv⟩
              simp [Instr.indexAt, hii, hex, asIntOf, run_underlying hu, hlt, run_sizeO hsz, addr_add, Nat.add_assoc]
      · simp at hv
    · rename_i len el xo io hu hxo hio
      split at hc <;> cases hc
      rename_i sz hsz
      simp only [evS] at hv
      have hrun : ∀ {r q : Nat} {k : IntKind} {n : Int}, e x = .pointer (some ⟨r, q, none⟩) → e i = .int k n → 0 ≤ n ∧ n < (len : Int) → (Instr.indexAt t (e x) (e i)).run P w = .ok (.pointer (some ⟨r, q + n.toNat * sz, none⟩)) w := fun {r q k n} g1 g2 g3 => by
        simp [Instr.indexAt, g1, g2, asIntOf, run_underlying hu, g3, run_sizeO hsz, addr_add, Instr.sureAddr]
      split at hv
      · rename_i b off k n hb hn
        split at hv <;> simp only [Option.some.injEq, reduceCtorEq] at hv
        rename_i hlt
        subst hv
        have hz := hx xo _ hxo hb
        have hii := (hi io _ hio hn).int_inv
        generalize hex : e x = ex' at hz
        cases hz with
        | ptr hρ => exact gives_of rfl ⟨_, hrun hex hii hlt, by rw [Nat.add_assoc]; exact .ptr hρ⟩
      · rename_i row off k n hb hn
        split at hv <;> simp only [Option.some.injEq, reduceCtorEq] at hv
        rename_i hlt
        subst hv
        have hz := hx xo _ hxo hb
        have hii := (hi io _ hio hn).int_inv
        generalize hex : e x = ex' at hz
        cases hz with
        | cptr c hr hc hcv => exact gives_of rfl ⟨_, hrun hex hii hlt, by rw [Nat.add_assoc]; exact .cptr c hr hc hcv⟩
      · simp at hv
    · cases hc
  | index t x i =>
    simp only [cop] at hc
    split at hc <;> cases hc
    rename_i xo io hu hxo hio
    simp only [evS] at hv
    split at hv <;> try (simp at hv; done)
    rename_i b k n hb hn
    split at hv <;> try (simp at hv; done)
    rename_i h0
    cases hg : b[n.toNat]? with
    | none => simp [hg] at hv
    | some c =>
      simp only [hg, Option.some.injEq] at hv; subst hv
      obtain ⟨p, hp, hp2⟩ := (H x (by simp [Op.operands]) xo _ hxo hb).str_inv
      have hii := (H i (by simp [Op.operands]) io _ hio hn).int_inv
      refine gives_of rfl ⟨.int .u8 c.toNat, ?_, .int _ _⟩
      have : p[n.toNat]? = some c := by rw [str_get, hp2, hg]
      simp [Instr.index, hii, hp, asIntOf, run_underlying hu, h0, this]
  | lookup t x i ok =>
    simp only [cop] at hc
    split at hc <;> try (cases hc; done)
    rename_i k el xo io hu hxo hio
    split at hc <;> cases hc
    rename_i z kk hz hkk
    simp only [evS] at hv
    split at hv <;> try (simp at hv; done)
    rename_i m kv hxv hiv
    exact gives_of rfl (lookup_sound hu hz hkk hR (H x (by simp [Op.operands]) xo m hxo hxv) (H i (by simp [Op.operands]) io kv hio hiv) hv)
  | extract x i =>
    simp only [cop] at hc
    split at hc <;> cases hc
    rename_i xo hxo
    simp only [evS] at hv
    split at hv <;> try (simp at hv; done)
    rename_i vs hvs
    have hz := H x (by simp [Op.operands]) xo _ hxo hvs
    generalize hex : e x = ex at hz
    cases hz with
    | tup ha va =>
      rename_i vs'
      obtain ⟨y, h1, h2⟩ := (LRel.of_array ha va).get hv
      refine gives_of rfl ⟨y, ?_, h2⟩
      have h1' : vs'[i]? = some y := by simpa using h1
      simp [hex, Instr.extract, h1']
  | typeAssert x xt t ok =>
    cases ok <;> simp only [cop] at hc <;> try (cases hc; done)
    split at hc <;> cases hc
    rename_i d xo z h1 hu hxo hz
    obtain ⟨zx, hzr, hzv⟩ := run_zeroOf hz
    simp only [evS] at hv
    split at hv
    · rename_i hxv
      simp only [Option.some.injEq] at hv; subst hv
      have hx := H x (by simp [Op.operands]) xo _ hxo hxv
      generalize hex : e x = ex at hx
      cases hx
      refine gives_of rfl ⟨.tuple #[zx, .bool false], ?_, by simpa using VRel.tup_of (LRel.cons (hzv w0 ρ) (LRel.cons (.bool false) .nil))⟩
      simp only [hex, Instr.typeAssert, Sem.run_bind, run_underlying hu, Result.andThen_ok]
      cases d <;> first | exact absurd hu (h1 _) | simp [hzr]
    · rename_i u y hxv
      simp only [Option.some.injEq] at hv
      have hx := H x (by simp [Op.operands]) xo _ hxo hxv
      generalize hex : e x = ex at hx
      cases hx with
      | iface hy =>
        rename_i y'
        by_cases hut : u = t
        · rw [if_pos hut] at hv; subst hv
          refine gives_of rfl ⟨.tuple #[y', .bool true], ?_, by simpa using VRel.tup_of (LRel.cons hy (LRel.cons (.bool true) .nil))⟩
          simp only [hex, Instr.typeAssert, Sem.run_bind, run_underlying hu, Result.andThen_ok]
          cases d <;> first | exact absurd hu (h1 _) | simp [hut]
        · rw [if_neg hut] at hv; subst hv
          refine gives_of rfl ⟨.tuple #[zx, .bool false], ?_, by simpa using VRel.tup_of (LRel.cons (hzv w0 ρ) (LRel.cons (.bool false) .nil))⟩
          simp only [hex, Instr.typeAssert, Sem.run_bind, run_underlying hu, Result.andThen_ok]
          cases d <;> first | exact absurd hu (h1 _) | simp [hut, hzr]
    · simp at hv
  | call c =>
    simp only [cop] at hc
    split at hc <;> try first | (cases hc; done) | (split at hc <;> cases hc; done)
    rename_i b args hcal hargs
    have hHa : ∀ x ∈ c.args.toList, OpdOK w0 ρ env e x := fun x hx => H x (by simp [Op.operands, Call.operands]; exact .inr (by simpa using hx))
    have hres : ∀ {S : Sem Value} {r : V}, (∀ cs, builtin b c.argTypes type cs (c.args.map e) = (do pure (.value (← S)))) → (∃ x, S.run P w = .ok x w ∧ VRel w0 ρ r x) →
        Gives P w0 ρ w e { dst, op := .call c, type, pos, after, guard } r := fun {S r} hb ⟨x, h1, h2⟩ => by
      refine ⟨x, ?_, h2⟩
      simp only [execOp, resolve, hcal, Sem.run_bind, Sem.run_pure, Result.andThen_ok, invoke]
      rw [hb]; simp [h1]
    rcases cb_s hc with ⟨rfl, t, ts', xo, xs', ht, hx, hh⟩ | ⟨rfl, t, ts', xo, xs', ht, hx, ⟨el, hu⟩, rfl⟩ | ⟨rfl, rfl⟩ | ⟨rfl, rfl⟩
    · subst hx
      obtain ⟨x, xs, ha, hxo, _⟩ := opds_cons hargs
      have hX := hHa x (by rw [ha]; simp)
      have ht0 : c.argTypes[0]? = some t := by rw [← Array.getElem?_toList, ht]; rfl
      have hx0 : (c.args.map e)[0]? = some (e x) := by rw [← Array.getElem?_toList]; simp [ha]
      refine hres (fun _ => rfl) ?_
      have fin : ∀ {k : Nat}, evS env s (.len k xo) = some v → ∃ u n, xo.ev env = some u ∧ lenK s k u = some n ∧ v = .int .i64 (n : Nat) := fun {k} hh => by
        simp only [evS] at hh
        cases hxv : xo.ev env with
        | none => simp [hxv] at hh
        | some u =>
          cases hl : lenK s k u with
          | none => simp [hxv, hl] at hh
          | some n => simp only [hxv, hl, Option.some.injEq] at hh; exact ⟨u, n, rfl, hl, hh.symm⟩
      rcases hh with ⟨hu, rfl⟩ | ⟨⟨el, hu⟩, rfl⟩ | ⟨⟨k, el, hu⟩, rfl⟩
      · obtain ⟨u, n, h1, h2, rfl⟩ := fin hv
        have hr := hX xo u hxo h1
        generalize hex : e x = ex at hr hx0
        cases hr <;> simp [lenK, beq00, beq01, beq02, beq10, beq11, beq12, beq20, beq21, beq22] at h2
        rename_i p hp
        refine ⟨goInt p.size, by simp [Builtin.len_, ht0, hx0, run_underlying hu], ?_⟩
        have : p.size = n := by rw [← h2, ← hp]; simp
        rw [this]; exact .int _ _
      · obtain ⟨u, n, h1, h2, rfl⟩ := fin hv
        have hr := hX xo u hxo h1
        generalize hex : e x = ex at hr hx0
        cases hr <;> simp [lenK, beq00, beq01, beq02, beq10, beq11, beq12, beq20, beq21, beq22] at h2 <;> subst h2
        · exact ⟨goInt 0, by simp [Builtin.len_, ht0, hx0, run_underlying hu], .int _ _⟩
        · exact ⟨_, by simp [Builtin.len_, ht0, hx0, run_underlying hu]; rfl, .int _ _⟩
        · exact ⟨_, by simp [Builtin.len_, ht0, hx0, run_underlying hu]; rfl, .int _ _⟩
      · obtain ⟨u, n, h1, h2, rfl⟩ := fin hv
        have hr := hX xo u hxo h1
        generalize hex : e x = ex at hr hx0
        cases hr <;> simp [lenK, beq00, beq01, beq02, beq10, beq11, beq12, beq20, beq21, beq22] at h2
        · subst h2; exact ⟨goInt 0, by simp [Builtin.len_, ht0, hx0, run_underlying hu], .int _ _⟩
        · rename_i m r o lim hρ
          cases hs : s.get m with
          | none => simp [hs] at h2
          | some ob =>
            cases ob <;> simp [hs] at h2
            rename_i es clock
            obtain ⟨es', g1, g2, g3⟩ := hR.map_at hρ hs
            refine ⟨goInt es'.size, by simp [Builtin.len_, ht0, hx0, run_underlying hu, run_getObj_map g1], ?_⟩
            rw [← g2, h2]; exact .int _ _
    · subst hx
      obtain ⟨x, xs, ha, hxo, _⟩ := opds_cons hargs
      have hX := hHa x (by rw [ha]; simp)
      have ht0 : c.argTypes[0]? = some t := by rw [← Array.getElem?_toList, ht]; rfl
      have hx0 : (c.args.map e)[0]? = some (e x) := by rw [← Array.getElem?_toList]; simp [ha]
      refine hres (fun _ => rfl) ?_
      simp only [evS] at hv
      split at hv <;> simp only [Option.some.injEq, reduceCtorEq] at hv <;> subst hv
      · rename_i h1
        have hr := hX xo _ hxo h1
        generalize hex : e x = ex at hr hx0
        cases hr
        exact ⟨goInt 0, by simp [Builtin.cap_, ht0, hx0, run_underlying hu], .int _ _⟩
      · rename_i h1
        have hr := hX xo _ hxo h1
        generalize hex : e x = ex at hr hx0
        cases hr with
        | slice hρ h1 h2 h3 h4 =>
          rename_i cap'
          refine ⟨goInt cap', by simp [Builtin.cap_, ht0, hx0, run_underlying hu], ?_⟩
          rw [h2 rfl]; exact .int _ _
    · simp only [evS] at hv
      split at hv <;> try (simp at hv; done)
      rename_i a l hl
      have hlr := opds_rel hargs hl hHa
      obtain ⟨y, ys, hy1, hy2, hy3⟩ := hlr.inv_cons
      obtain ⟨z, z1, z2⟩ := foldV_sound (P := P) max2_sound hv hy2 hy3 w
      exact hres (fun _ => rfl) ⟨z, by simp [Builtin.max_, hy1, z1], z2⟩
    · simp only [evS] at hv
      split at hv <;> try (simp at hv; done)
      rename_i a l hl
      have hlr := opds_rel hargs hl hHa
      obtain ⟨y, ys, hy1, hy2, hy3⟩ := hlr.inv_cons
      obtain ⟨z, z1, z2⟩ := foldV_sound (P := P) min2_sound hv hy2 hy3 w
      exact hres (fun _ => rfl) ⟨z, by simp [Builtin.min_, hy1, z1], z2⟩
  | makeMap t r => 
    simp only [cop] at hc
    split at hc <;> cases hc
  | makeSlice t l c =>
    simp only [cop] at hc
    split at hc <;> try (cases hc; done)
    split at hc <;> try (cases hc; done)
    rename_i sz bs z l c h1 h2 h3 h4 h5
    cases hq : (Nat.beq z.cells.length sz && Nat.ble 1 sz) <;> simp [hq] at hc
  | buildSlice t len parts =>
    simp only [cop] at hc
    split at hc <;> try (cases hc; done)
    split at hc <;> try (cases hc; done)
    rename_i sz z h1 h2
    cases hq : (Nat.ble (len * sz) 16777216 && Nat.beq z.cells.length sz && Nat.ble 1 sz) <;> simp only [hq, cond_true, cond_false, reduceCtorEq] at hc
    split at hc <;> cases hc
  | next x b => cases b <;> simp only [cop] at hc <;> (try split at hc) <;> cases hc
  | mapUpdate t m k x => simp only [cop] at hc; split at hc <;> (try split at hc) <;> cases hc
  | insert t m k x => simp only [cop] at hc; split at hc <;> (try split at hc) <;> cases hc
  | alloc t => simp only [cop] at hc; split at hc <;> cases hc
  | box t x => simp only [cop] at hc; split at hc <;> cases hc
  | store t a x => simp only [cop] at hc; split at hc <;> cases hc
  | range t x => simp only [cop] at hc; split at hc <;> cases hc
  | _ => simp [cop] at hc
end
end Go.RE
