/- Each operation that neither writes nor makes memory does what the evaluator says, all of them. -/
import Derived.Test.YtnepmmjhhcdniaaRe5
namespace Go.RE
section
variable {P : Program} {w0 : World} {ρ : Ren} {s : St} {w : World} {env : PT V} {e : Operand → Value}

/-- What the operation comes to. -/
def Gives (P : Program) (w0 : World) (ρ : Ren) (w : World) (e : Operand → Value) (o : Oper) (v : V) : Prop := ∃ x, (execOp e o).run P w = .ok (.value x) w ∧ VRel w0 ρ v x

theorem gives_of {o : Oper} {v : V} {S : Sem Value} (he : execOp e o = (do pure (.value (← S)))) (h : ∃ x, S.run P w = .ok x w ∧ VRel w0 ρ v x) : Gives P w0 ρ w e o v := by
  obtain ⟨x, h1, h2⟩ := h
  exact ⟨x, by rw [he]; simp [h1], h2⟩

theorem opdO_bound {x : Option Operand} {x' : Option Opd} (h : opdO x = some x') {d most n : Nat} (hn : optNat env x' d most = some n) (H : ∀ y, x = some y → OpdOK w0 ρ env e y) :
    (x = none ∧ n = d) ∨ (∃ y v, x = some y ∧ asNat v most = some n ∧ VRel w0 ρ v (e y)) := by
  cases x with
  | none => simp [opdO] at h; subst h; simp [optNat] at hn; exact .inl ⟨rfl, hn.symm⟩
  | some y =>
    simp only [opdO] at h
    split at h
    · rename_i o ho
      simp at h; subst h
      simp only [optNat] at hn
      split at hn
      · rename_i v hv; exact .inr ⟨y, v, rfl, hn, H y rfl o v ho hv⟩
      · simp at hn
    · simp at h

theorem asNat_le {v : V} {most n : Nat} (h : asNat v most = some n) : n ≤ most := by
  obtain ⟨k, m, rfl, h1, h2, h3⟩ := asNat_inv h; omega

/-- The bounds of a slice, as the model finds them. -/
theorem run_sliceBounds_of {isSlice : Bool} {len cap cap' : Nat} {lo hi mx : Option Operand} {lo' hi' mx' : Option Opd} {l h m : Nat} (e1 : opdO lo = some lo') (e2 : opdO hi = some hi') (e3 : opdO mx = some mx')
    (hmx : mx.isSome = true → hi.isSome = true) (n3 : optNat env mx' cap cap = some m) (n2 : optNat env hi' len m = some h) (n1 : optNat env lo' 0 h = some l) (hcap : cap ≤ cap')
    (H1 : ∀ y, lo = some y → OpdOK w0 ρ env e y) (H2 : ∀ y, hi = some y → OpdOK w0 ρ env e y) (H3 : ∀ y, mx = some y → OpdOK w0 ρ env e y) (w : World) :
    (Instr.sliceBounds isSlice len cap' (lo.map e) (hi.map e) (mx.map e)).run P w = .ok (l, h, if mx.isSome then m else cap') w := by
  have up : ∀ {v : V} {a b n : Nat}, asNat v a = some n → a ≤ b → asNat v b = some n := fun {v a b n} hh hab => by
    obtain ⟨k, q, rfl, h1, h2, h3⟩ := asNat_inv hh
    simp only [asNat]; rw [if_pos ⟨h1, by omega⟩, h3]
  unfold Instr.sliceBounds
  rcases opdO_bound e3 n3 H3 with ⟨rfl, rfl⟩ | ⟨y3, v3, rfl, a3, r3⟩
  · rcases opdO_bound e2 n2 H2 with ⟨rfl, rfl⟩ | ⟨y2, v2, rfl, a2, r2⟩
    · rcases opdO_bound e1 n1 H1 with ⟨rfl, rfl⟩ | ⟨y1, v1, rfl, a1, r1⟩
      · simp
      · simp [run_sliceBound _ a1 r1]
    · rcases opdO_bound e1 n1 H1 with ⟨rfl, rfl⟩ | ⟨y1, v1, rfl, a1, r1⟩
      · simp [run_sliceBound _ (up a2 hcap) r2]
      · simp [run_sliceBound _ (up a2 hcap) r2, run_sliceBound _ a1 r1]
  · rcases opdO_bound e2 n2 H2 with ⟨rfl, rfl⟩ | ⟨y2, v2, rfl, a2, r2⟩
    · simp at hmx
    · rcases opdO_bound e1 n1 H1 with ⟨rfl, rfl⟩ | ⟨y1, v1, rfl, a1, r1⟩
      · simp [run_sliceBound _ (up a3 hcap) r3, run_sliceBound _ a2 r2]
      · simp [run_sliceBound _ (up a3 hcap) r3, run_sliceBound _ a2 r2, run_sliceBound _ a1 r1]

theorem optNat_le {x : Option Opd} {d most n : Nat} (hd : d ≤ most) (h : optNat env x d most = some n) : n ≤ most := by
  cases x with
  | none => simp [optNat] at h; omega
  | some o =>
    simp only [optNat] at h
    split at h
    · exact asNat_le h
    · simp at h

theorem load_sound {t : TypeId} {n : Option Nat} {x : Operand} {o : Opd} {v : V} (hn : spread P t = some n) (ho : opd x = some o) (hv : evS env s (.load n o) = some v) (hR : Rel w0 ρ s w) (H : OpdOK w0 ρ env e x) :
    ∃ y, (Instr.loadAt t (e x)).run P w = .ok y w ∧ VRel w0 ρ v y := by
  simp only [evS] at hv
  split at hv
  · rename_i b off ho'
    have hx := H o _ ho ho'
    cases hs : s.row b with
    | none => simp [hs] at hv
    | some cs =>
      simp only [hs] at hv
      generalize e x = z at hx
      cases hx with
      | ptr hρ =>
        obtain ⟨y, h1, h2⟩ := run_loadVar_of (hR.cells hρ hs) hn hv
        exact ⟨y, by simp [Instr.loadAt, Instr.sureAddr, h1], h2⟩
  · rename_i row off ho'
    have hx := H o _ ho ho'
    generalize e x = z at hx
    cases hx with
    | cptr c hr hc hcv =>
      obtain ⟨y, h1, h2⟩ := run_loadVar_of (P := P) (hR.ccells hr hc hcv) hn hv
      exact ⟨y, by simp [Instr.loadAt, Instr.sureAddr, h1], h2⟩
  · simp at hv

theorem spl_size (cs : List V) (off : Nat) (vs : List V) (h : off + vs.length ≤ cs.length) : (spl cs off vs).length = cs.length := by
  simp [spl]; omega

theorem LRel.of_get {a : List V} {b : List Value} (hl : a.length = b.length) (h : ∀ (i : Nat) v, a[i]? = some v → ∃ x, b[i]? = some x ∧ VRel w0 ρ v x) : LRel w0 ρ a b :=
  ⟨hl, fun i h1 h2 => by
    obtain ⟨x, hx, hr⟩ := h i a[i] (List.getElem?_eq_getElem h1)
    rw [List.getElem?_eq_getElem h2] at hx
    simp at hx; rw [hx]; exact hr⟩

theorem spl_get (cs : List V) (off : Nat) (vs : List V) (h : off + vs.length ≤ cs.length) (j : Nat) :
    (spl cs off vs)[j]? = if j < off then cs[j]? else if j < off + vs.length then vs[j - off]? else cs[j]? := by
  unfold spl
  by_cases h1 : j < off
  · rw [if_pos h1, List.append_assoc, List.getElem?_append_left (by simp; omega), List.getElem?_take, if_pos h1]
  · rw [if_neg h1]
    by_cases h2 : j < off + vs.length
    · rw [if_pos h2, List.getElem?_append_left (by simp; omega), List.getElem?_append_right (by simp; omega)]
      simp [show min off cs.length = off from by omega]
    · rw [if_neg h2, List.getElem?_append_right (by simp; omega), List.getElem?_drop]
      congr 1
      simp; omega

theorem foldl_set (o : Nat) : ∀ (l : List Value) (k : Nat) (A : Array Value), ∃ B : Array Value, (l.zipIdx k).foldl (fun cs (c, j) => cs.setIfInBounds (o + j) c) A = B ∧ B.size = A.size ∧
    ∀ j, B[j]? = if o + k ≤ j ∧ j < o + k + l.length ∧ j < A.size then l[j - (o + k)]? else A[j]? := by
  intro l
  induction l with
  | nil => intro k A; exact ⟨A, rfl, rfl, fun j => by rw [if_neg (by simp; omega)]⟩
  | cons c l ih =>
    intro k A
    obtain ⟨B, h1, h2, h3⟩ := ih (k + 1) (A.setIfInBounds (o + k) c)
    refine ⟨B, by simpa [List.zipIdx_cons] using h1, by simpa using h2, fun j => ?_⟩
    rw [h3, Array.getElem?_setIfInBounds]
    simp only [Array.size_setIfInBounds, List.length_cons]
    by_cases hj : o + (k + 1) ≤ j ∧ j < o + (k + 1) + l.length ∧ j < A.size
    · rw [if_pos hj, if_pos (by omega), show j - (o + k) = (j - (o + (k + 1))) + 1 from by omega]; simp
    · rw [if_neg hj]
      by_cases hk : o + k = j
      · subst hk
        by_cases hs : o + k < A.size
        · rw [if_pos rfl, if_pos hs, if_pos (by omega)]; simp
        · rw [if_pos rfl, if_neg hs, if_neg (by omega), Array.getElem?_eq_none (by omega)]
      · rw [if_neg hk, if_neg (by omega)]

theorem fill_sound {place : Nat → Option (Nat × Nat)} : ∀ {parts : List (Nat × Operand)} {parts' : List (Nat × Nat × Opd)} {cells : List V} {cells' : Array Value} {out : List V},
    partsBy place parts = some parts' → fillV env cells parts' = some out → LRel w0 ρ cells cells'.toList → (∀ p ∈ parts, OpdOK w0 ρ env e p.2) →
    ∃ out' : Array Value, Instr.fill place cells' (parts.map fun p => (p.1, e p.2)) = some out' ∧ LRel w0 ρ out out'.toList := by
  intro parts
  induction parts with
  | nil =>
    intro parts' cells cells' out h h' hr _
    simp [partsBy] at h; subst h
    simp [fillV] at h'; subst h'
    exact ⟨cells', rfl, hr⟩
  | cons p parts ih =>
    intro parts' cells cells' out h h' hr H
    obtain ⟨i, x⟩ := p
    simp only [partsBy] at h
    cases hp : place i with
    | none => simp [hp] at h
    | some on =>
      obtain ⟨o, n⟩ := on
      cases hx : opd x with
      | none => simp [hp, hx] at h
      | some xo =>
        cases hq : partsBy place parts with
        | none => simp [hp, hx, hq] at h
        | some rest =>
          simp [hp, hx, hq] at h; subst h
          simp only [fillV] at h'
          cases hv : xo.ev env with
          | none => simp [hv] at h'
          | some v =>
            simp only [hv] at h'
            cases hb : (Nat.beq v.cells.length n && Nat.ble (o + v.cells.length) cells.length) with
            | false => simp [hb] at h'
            | true =>
              simp only [hb, cond_true] at h'
              simp only [Bool.and_eq_true] at hb
              have b1 : v.cells.length = n := Nat.eq_of_beq_eq_true hb.1
              have b2 := Nat.le_of_ble_eq_true hb.2
              have hvr := (H (i, x) (by simp) xo v hx hv).cells
              have e1 : (e x).cells.size = n := by rw [← b1, hvr.1]; simp
              have e2 : cells'.size = cells.length := by have := hr.1; simp at this; omega
              obtain ⟨B, h1, h2, h3⟩ := foldl_set o (e x).cells.toList 0 cells'
              have hB : (e x).cells.zipIdx.foldl (fun cs (c, j) => cs.setIfInBounds (o + j) c) cells' = B := by
                rw [← h1, ← Array.foldl_toList]; simp
              have hl := hvr.1
              simp only [Array.length_toList] at hl
              have hnew : LRel w0 ρ (spl cells o v.cells) B.toList := LRel.of_get (by rw [spl_size _ _ _ b2]; simp [h2, e2]) fun j u hu => by
                rw [spl_get _ _ _ b2] at hu
                rw [Array.getElem?_toList, h3]
                simp only [Nat.add_zero, Array.length_toList]
                by_cases c1 : j < o
                · rw [if_pos c1] at hu; rw [if_neg (by omega)]; simpa using hr.get hu
                · rw [if_neg c1] at hu
                  by_cases c2 : j < o + v.cells.length
                  · rw [if_pos c2] at hu; rw [if_pos (by omega)]; exact hvr.get hu
                  · rw [if_neg c2] at hu; rw [if_neg (by omega)]; simpa using hr.get hu
              obtain ⟨out', g1, g2⟩ := ih hq h' hnew fun p hp => H p (by simp [hp])
              refine ⟨out', ?_, g2⟩
              simp only [List.map_cons, Instr.fill, hp]
              rw [if_neg]
              · rw [hB]; exact g1
              · simp; omega

theorem places_get : ∀ {fs : List Field} {ps : List (Nat × Nat)}, places P fs = some ps → ∀ w : World, (fs.mapM (m := Sem) fun (f : Field) => Prod.mk f.offset <$> sizeOf f.type).run P w = .ok ps w := by
  intro fs
  induction fs with
  | nil => intro ps h w; simp [places] at h; subst h; simp
  | cons f fs ih =>
    intro ps h w
    simp only [places] at h
    cases h1 : sizeO P f.type with
    | none => simp [h1] at h
    | some n =>
      cases h2 : places P fs with
      | none => simp [h1, h2] at h
      | some r => simp [h1, h2] at h; subst h; simp [List.mapM_cons, run_sizeO h1, ih h2]

theorem build_sound {t : TypeId} {parts : List (Nat × Operand)} {fs : Array Field} {z : V} {ps : List (Nat × Nat)} {l : List (Nat × Nat × Opd)} {out : List V}
    (hu : P.underlying t = some (.struct fs)) (hz : zeroOf P t = some z) (hp : places P fs.toList = some ps) (hl : partsBy (fun i => ps[i]?) parts = some l) (hf : fillV env z.cells l = some out)
    (H : ∀ p ∈ parts, OpdOK w0 ρ env e p.2) (w : World) : ∃ x, (Instr.build t (parts.toArray.map fun p => (p.1, e p.2))).run P w = .ok x w ∧ VRel w0 ρ (.agg out) x := by
  obtain ⟨zx, hzr, hzv⟩ := run_zeroOf hz
  obtain ⟨out', h1, h2⟩ := fill_sound (cells' := zx.cells) hl hf (hzv w0 ρ).cells H
  refine ⟨.agg out', ?_, by simpa using VRel.agg_of h2⟩
  have hm : (fs.mapM (m := Sem) fun (f : Field) => do pure (f.offset, ← sizeOf f.type)).run P w = .ok ps.toArray w := by
    rw [show (fun (f : Field) => (do pure (f.offset, ← sizeOf f.type) : Sem (Nat × Nat))) = (fun (f : Field) => Prod.mk f.offset <$> sizeOf f.type) from by funext f; simp, Array.mapM_eq_mapM_toList]
    simp [places_get hp w]
  unfold Instr.build
  simp only [Sem.run_bind, hzr, Result.andThen_ok, run_underlying hu, hm]
  have hfill : Instr.fill (fun x => ps.toArray[x]?) zx.cells (parts.toArray.map fun p => (p.1, e p.2)).toList = some out' := by
    simpa using h1
  simp only [hfill]
  rfl

theorem bytesOf_sound : ∀ {cs : List V} {bs : List UInt8} {xs : List Value}, bytesOf cs = some bs → LRel w0 ρ cs xs → ∃ ns : List Int, xs = ns.map (Value.int .u8) ∧ ns.map (fun n => UInt8.ofNat n.toNat) = bs := by
  intro cs
  induction cs with
  | nil => intro bs xs h hr; simp [bytesOf] at h; subst h; exact ⟨[], hr.inv_nil, rfl⟩
  | cons c cs ih =>
    intro bs xs h hr
    obtain ⟨x, xs', rfl, hx, hxs⟩ := hr.inv_cons
    cases c with
    | int k n =>
      cases k <;> simp only [bytesOf, reduceCtorEq] at h
      cases hb : bytesOf cs with
      | none => simp [hb] at h
      | some r =>
        simp [hb] at h; subst h
        obtain ⟨ns, rfl, h2⟩ := ih hb hxs
        exact ⟨n :: ns, by rw [hx.int_inv]; rfl, by simp [h2]⟩
    | _ => simp [bytesOf] at h

theorem foldl_push (ns : List Int) : ∀ (b : ByteArray), (ns.foldl (fun r n => r.push (UInt8.ofNat n.toNat)) b).data.toList = b.data.toList ++ ns.map (fun n => UInt8.ofNat n.toNat) := by
  induction ns with
  | nil => intro b; simp
  | cons n ns ih => intro b; simp only [List.foldl_cons, ih, List.map_cons]; simp [ByteArray.push]

/-- The cells that a slice shows, as the model reads them. -/
theorem sliceCells_sound {wd : Nat} {v : V} {x : Value} {cs : List V} (hv : sliceCells s wd v = some cs) (hR : Rel w0 ρ s w) (hx : VRel w0 ρ v x) :
    (x = .slice none 0 0 ∧ cs = []) ∨ ∃ a len cap xs, x = .slice (some a) len cap ∧ lenV v = some len ∧ xs.length = len * wd ∧ (∀ j u, xs[j]? = some u → w.cell? (a.add j) = some u) ∧ LRel w0 ρ cs xs := by
  unfold sliceCells at hv
  split at hv
  · simp at hv; subst hv; cases hx; exact .inl ⟨rfl, rfl⟩
  · rename_i b off len cap sz ex
    cases hs : s.row b with
    | none => simp [hs] at hv
    | some row =>
      simp only [hs] at hv
      cases hb : (Nat.beq sz wd && Nat.ble (off + len * sz) row.length) with
      | false => simp [hb] at hv
      | true =>
        simp only [hb, cond_true, Option.some.injEq] at hv; subst hv
        simp only [Bool.and_eq_true] at hb
        have b1 : sz = wd := Nat.eq_of_beq_eq_true hb.1
        have b2 := Nat.le_of_ble_eq_true hb.2
        subst b1
        cases hx with
        | slice hρ h1 h2 h3 h4 =>
          obtain ⟨xs, g1, g2, g3⟩ := (hR.cells hρ hs).list off (len * sz) b2
          rename_i r o lim a cap'
          refine .inr ⟨a, len, cap', xs, rfl, rfl, g1, fun j u hj => ?_, g3⟩
          rcases h4 with h4 | ⟨rfl, _⟩
          · have : len = 0 := by omega
            subst this
            have : xs = [] := List.eq_nil_of_length_eq_zero (by rw [g1]; simp)
            subst this; simp at hj
          · rw [addr_add]; exact g2 j u hj
  · rename_i row off len sz
    cases hb : (Nat.beq sz wd && Nat.ble (off + len * sz) row.length) with
    | false => simp [hb] at hv
    | true =>
      simp only [hb, cond_true, Option.some.injEq] at hv; subst hv
      simp only [Bool.and_eq_true] at hb
      have b1 : sz = wd := Nat.eq_of_beq_eq_true hb.1
      have b2 := Nat.le_of_ble_eq_true hb.2
      subst b1
      cases hx with
      | cslice c hr hc hcv h3 h4 =>
        obtain ⟨xs, g1, g2, g3⟩ := (hR.ccells hr hc hcv).list off (len * sz) b2
        rename_i r o a cap'
        refine .inr ⟨a, len, cap', xs, rfl, rfl, g1, fun j u hj => ?_, g3⟩
        rcases h4 with h4 | rfl
        · have : len = 0 := by omega
          subst this
          have : xs = [] := List.eq_nil_of_length_eq_zero (by rw [g1]; simp)
          subst this; simp at hj
        · rw [addr_add]; exact g2 j u hj
  · simp at hv

theorem toStr_sound {v : V} {x : Value} {cs : List V} {bs : List UInt8} (hv : sliceCells s 1 v = some cs) (hb : bytesOf cs = some bs) (hR : Rel w0 ρ s w) (hx : VRel w0 ρ v x) :
    ∃ y, (Conv.bytesToString x).run P w = .ok (.string y) w ∧ y.data.toList = bs := by
  rcases sliceCells_sound hv hR hx with ⟨rfl, rfl⟩ | ⟨a, len, cap, xs, rfl, _, g1, g2, g3⟩
  · simp [bytesOf] at hb; subst hb
    exact ⟨.empty, by simp [Conv.bytesToString], rfl⟩
  · obtain ⟨ns, rfl, h2⟩ := bytesOf_sound hb g3
    have hl : (loadCells a len).run P w = .ok (ns.map (Value.int .u8)).toArray w := by
      have := run_loadCells_list (P := P) w a (ns.map (Value.int .u8)) g2
      rwa [g1, Nat.mul_one] at this
    exact ⟨_, run_bytesToString w a len cap ns hl, by rw [foldl_push, h2]; rfl⟩

theorem asIntOf_int (k : IntKind) (n : Int) (w : World) : (asIntOf (.int k n)).run P w = .ok (k, n) w := rfl

theorem findE_sound {kk : EqK} {k : V} {y : Value} {t : TypeId} (hk : KindOK P t kk) (hy : VRel w0 ρ k y) : ∀ {es : List ME} {es' : List MapEntry} {i : Nat} {r : Option (Nat × V)},
    findE kk k es i = some r → es.length = es'.length → (∀ j (h : j < es.length) (h' : j < es'.length), VRel w0 ρ es[j].key es'[j].key ∧ VRel w0 ρ es[j].val es'[j].val ∧ es[j].born = es'[j].born) →
    ∃ D r', P.underlying t = some D ∧ Instr.findNow D y es' i = some r' ∧ (match r, r' with | none, none => True | some (j, v), some (j', v') => j = j' ∧ VRel w0 ρ v v' ∧ i ≤ j ∧ ∃ h : j - i < es'.length, Instr.sameNow D y (es'[j - i]).key = some true | _, _ => False) := by
  have hD : ∃ D, P.underlying t = some D ∧ ∀ {a b : V} {x z : Value} {q : Bool}, plainEq kk a b = some q → VRel w0 ρ a x → VRel w0 ρ b z → Instr.sameNow D x z = some q := by
    cases kk <;> simp only [KindOK] at hk <;> try exact hk.elim
    · refine ⟨_, hk, fun {a b x z q} h hx hz => ?_⟩
      rcases plainEq_inv h with ⟨p, q, hh, rfl, rfl, rfl⟩ | ⟨j, p, q, hh, rfl, rfl, rfl⟩ | ⟨p, q, hh, rfl, rfl, rfl⟩ <;> try cases hh
      rw [hx.bool_inv, hz.bool_inv]; rfl
    · obtain ⟨j, hj⟩ := hk
      refine ⟨_, hj, fun {a b x z q} h hx hz => ?_⟩
      rcases plainEq_inv h with ⟨p, q, hh, rfl, rfl, rfl⟩ | ⟨j, p, q, hh, rfl, rfl, rfl⟩ | ⟨p, q, hh, rfl, rfl, rfl⟩ <;> try cases hh
      rw [hx.int_inv, hz.int_inv]; simp [Instr.sameNow]
    · refine ⟨_, hk, fun {a b x z q} h hx hz => ?_⟩
      rcases plainEq_inv h with ⟨p, q, hh, rfl, rfl, rfl⟩ | ⟨j, p, q, hh, rfl, rfl, rfl⟩ | ⟨p, q, hh, rfl, rfl, rfl⟩ <;> try cases hh
      obtain ⟨p', rfl, hp⟩ := hx.str_inv
      obtain ⟨q', rfl, hq⟩ := hz.str_inv
      simp only [Instr.sameNow]
      rw [beq_toListBytes, byteArray_toList, byteArray_toList, hp, hq]
  obtain ⟨D, hD1, hD2⟩ := hD
  intro es
  induction es with
  | nil =>
    intro es' i r h hl _
    have : es' = [] := List.eq_nil_of_length_eq_zero hl.symm
    subst this
    simp [findE] at h; subst h
    exact ⟨D, none, hD1, rfl, trivial⟩
  | cons m es ih =>
    intro es' i r h hl hes
    cases es' with
    | nil => simp at hl
    | cons m' es' =>
      have hm := hes 0 (by simp) (by simp)
      simp only [List.getElem_cons_zero] at hm
      simp only [findE] at h
      cases hp : plainEq kk k m.key with
      | none => simp [hp] at h
      | some q =>
        have hs := hD2 hp hy hm.1
        cases q with
        | true =>
          simp [hp] at h; subst h
          exact ⟨D, some (i, m'.val), hD1, by simp [Instr.findNow, hs], rfl, hm.2.1, Nat.le_refl _, by simp, by simpa using hs⟩
        | false =>
          simp only [hp] at h
          obtain ⟨D', r', e1, e2, e3⟩ := ih h (by simpa using hl) fun j h1 h2 => by
            have := hes (j + 1) (by simpa using h1) (by simpa using h2)
            simpa using this
          rw [hD1] at e1; cases e1
          refine ⟨D, r', hD1, by simp [Instr.findNow, hs, e2], ?_⟩
          cases r with
          | none => cases r' <;> simp_all
          | some jv =>
            obtain ⟨j, v⟩ := jv
            cases r' with
            | none => simp at e3
            | some jv' =>
              obtain ⟨j', v'⟩ := jv'
              obtain ⟨a1, a2, a3, a4, a5⟩ := e3
              refine ⟨a1, a2, by omega, by simp; omega, ?_⟩
              have : j - i = (j - (i + 1)) + 1 := by omega
              simp only [this, List.getElem_cons_succ]; exact a5

theorem checkKey_plain {kk : EqK} {k : V} {y : Value} {t : TypeId} (hk : KindOK P t kk) (hp : plainKey kk k = true) (hy : VRel w0 ρ k y) (b : Bool) (n : Nat) (w : World) : (Instr.checkKey b (n + 1) t y).run P w = .ok () w := by
  cases kk <;> simp only [KindOK] at hk <;> try exact hk.elim
  · cases k <;> simp [plainKey] at hp
    rw [hy.bool_inv]; simp [Instr.checkKey, run_underlying hk]
  · obtain ⟨j, hj⟩ := hk
    cases k <;> simp [plainKey] at hp
    rw [hy.int_inv]; simp [Instr.checkKey, run_underlying hj]
  · cases k <;> simp [plainKey] at hp
    obtain ⟨p, rfl, _⟩ := hy.str_inv
    simp [Instr.checkKey, run_underlying hk]

theorem basicKey_ok {t : TypeId} {kk : EqK} (h : basicKey P t = some kk) : KindOK P t kk := by
  unfold basicKey at h
  split at h <;> simp at h <;> subst h
  · assumption
  · exact ⟨_, by assumption⟩
  · assumption

theorem Rel.map_at (hR : Rel w0 ρ s w) {m r o lim : Nat} {es : List ME} {clock : Nat} (hρ : ρ m = some (r, o, lim)) (hs : s.get m = some (.map es clock)) :
    ∃ es', w.heap[r]? = some (.map es' clock) ∧ es.length = es'.size ∧ ∀ i (h : i < es.length) (h' : i < es'.size), VRel w0 ρ es[i].key es'[i].key ∧ VRel w0 ρ es[i].val es'[i].val ∧ es[i].born = es'[i].born := by
  have := hR.ob m r o lim hρ
  rw [hs] at this
  exact this

theorem run_getObj_map {r : Nat} {es' : Array MapEntry} {clock : Nat} (h : w.heap[r]? = some (.map es' clock)) : (getObj r).run P w = .ok (.map es' clock) w := by
  simp [getObj, Sem.run, h]

theorem lookup_sound {t kt et : TypeId} {kk : EqK} {z : V} {ok : Bool} {m k : V} {x y : Value} {v : V} (hu : P.underlying t = some (.map kt et)) (hz : zeroOf P et = some z) (hkk : basicKey P kt = some kk)
    (hR : Rel w0 ρ s w) (hm : VRel w0 ρ m x) (hk : VRel w0 ρ k y) (hv : lookupV s kk z ok m k = some v) :
    ∃ u, (Instr.lookup t x y ok).run P w = .ok u w ∧ VRel w0 ρ v u := by
  have hK := basicKey_ok hkk
  obtain ⟨zx, hzr, hzv⟩ := run_zeroOf hz
  simp only [lookupV] at hv
  have fin : ∀ {a : V} {a' : Value} (b : Bool), VRel w0 ρ a a' → VRel w0 ρ (if ok then .tup [a, .bool b] else a) (if ok then .tuple #[a', .bool b] else a') := fun {a a'} b ha => by
    cases ok
    · simpa using ha
    · simpa using VRel.tup_of (LRel.cons ha (LRel.cons (.bool b) .nil))
  split at hv
  · cases hp : plainKey kk k with
    | false => simp [hp] at hv
    | true =>
      simp [hp] at hv
      cases hm
      refine ⟨if ok then .tuple #[zx, .bool false] else zx, ?_, by rw [← hv]; exact fin false (hzv w0 ρ)⟩
      have hc := checkKey_plain (P := P) hK hp hk true 9999 w
      have hf : (Instr.findKey kt y []).run P w = .ok none w := by
        obtain ⟨D, r', e1, e2, e3⟩ := findE_sound (P := P) (es := []) (es' := []) (i := 0) hK hk rfl rfl (fun j h => by simp at h)
        simp [Instr.findKey, run_underlying e1, Instr.findNow]
      simp [Instr.lookup, run_underlying hu, hc, hf, hzr]
  · rename_i mm
    cases hs : s.get mm with
    | none => simp [hs] at hv
    | some ob =>
      cases ob <;> simp only [hs, reduceCtorEq] at hv
      rename_i es clock
      cases hp : plainKey kk k with
      | false => simp [hp] at hv
      | true =>
        simp only [hp, cond_true] at hv
        cases hm with
        | map hρ =>
          rename_i r o lim
          obtain ⟨es', g1, g2, g3⟩ := hR.map_at hρ hs
          have hc := checkKey_plain (P := P) hK hp hk es'.isEmpty 9999 w
          cases hf : findE kk k es 0 with
          | none => simp [hf] at hv
          | some res =>
            obtain ⟨D, r', e1, e2, e3⟩ := findE_sound (P := P) (es := es) (es' := es'.toList) (i := 0) hK hk hf (by simpa using g2) (fun j h h' => by simpa using g3 j h (by simpa using h'))
            have hfk : (Instr.findKey kt y es'.toList).run P w = .ok r' w := by simp [Instr.findKey, run_underlying e1, e2]
            simp only [hf] at hv
            cases res with
            | none =>
              cases r' with
              | some _ => simp at e3
              | none =>
                simp only [Option.some.injEq] at hv
                refine ⟨if ok then .tuple #[zx, .bool false] else zx, ?_, by rw [← hv]; exact fin false (hzv w0 ρ)⟩
                simp [Instr.lookup, run_underlying hu, run_getObj_map g1, hc, hfk, hzr]
            | some jv =>
              obtain ⟨j, u⟩ := jv
              cases r' with
              | none => simp at e3
              | some jv' =>
                obtain ⟨j', u'⟩ := jv'
                simp only [Option.some.injEq] at hv
                refine ⟨if ok then .tuple #[u', .bool true] else u', ?_, by rw [← hv]; exact fin true e3.2.1⟩
                simp [Instr.lookup, run_underlying hu, run_getObj_map g1, hc, hfk]
  · simp at hv
end
end Go.RE
