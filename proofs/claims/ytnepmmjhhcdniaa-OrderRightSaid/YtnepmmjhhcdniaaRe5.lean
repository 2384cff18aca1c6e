/- Each operation that neither writes nor makes memory does what the evaluator says. -/
import Derived.Test.YtnepmmjhhcdniaaRe4
import Derived.Deep.AppendSrc
import Derived.Laws.BytesString
import Derived.Laws.StructEq
namespace Go.RE

def aggD : TypeDesc → Bool
  | .struct _ => true
  | .array _ _ => true
  | _ => false

theorem addr_add (r o n : Nat) : (⟨r, o, none⟩ : Addr).add n = ⟨r, o + n, none⟩ := by
  unfold Addr.add; split <;> simp_all

section
variable {P : Program} {w0 : World} {ρ : Ren} {s : St} {w : World} {env : PT V} {e : Operand → Value}

/-- What an operand is to the evaluator, it is to the model. -/
def OpdOK (w0 : World) (ρ : Ren) (env : PT V) (e : Operand → Value) (x : Operand) : Prop := ∀ o v, opd x = some o → o.ev env = some v → VRel w0 ρ v (e x)

theorem ofValue0_rel {x : Value} {v : V} (h : ofValue0 x = some v) : VRel w0 ρ v x := by
  unfold ofValue0 at h
  split at h <;> simp at h <;> subst h
  · exact .bool _
  · exact .int _ _
  · exact .str rfl
  · exact .nilp
  · exact .nils
  · exact .nilm
  · exact .nilf
  · exact .nili

theorem ofL_rel {f : Value → Option V} (hf : ∀ x v, f x = some v → VRel w0 ρ v x) : ∀ {l : List Value} {vs : List V}, ofL f l = some vs → LRel w0 ρ vs l := by
  intro l
  induction l with
  | nil => intro vs h; simp [ofL] at h; subst h; exact .nil
  | cons x xs ih =>
    intro vs h
    simp only [ofL] at h
    cases hx : f x with
    | none => simp [hx] at h
    | some v =>
      cases hxs : ofL f xs with
      | none => simp [hx, hxs] at h
      | some us => simp [hx, hxs] at h; subst h; exact .cons (hf _ _ hx) (ih hxs)

theorem ofValue_rel {x : Value} {v : V} (h : ofValue x = some v) : VRel w0 ρ v x := by
  unfold ofValue at h
  split at h
  · split at h
    · rename_i cs l hl
      simp at h; subst h
      have := ofL_rel (w0 := w0) (ρ := ρ) (fun _ _ => ofValue0_rel) hl
      simpa using VRel.agg_of this
    · simp at h
  · split at h
    · rename_i y hy
      simp at h; subst h; exact .iface (ofValue0_rel hy)
    · simp at h
  · exact ofValue0_rel h

theorem opd_const {v : Value} {o : Opd} (h : opd (.const v) = some o) : ∃ x, o = .c x ∧ VRel w0 ρ x v := by
  simp only [opd] at h
  split at h
  · rename_i x hx; simp at h; exact ⟨x, h.symm, ofValue_rel hx⟩
  · simp at h

theorem opds_rel : ∀ {l : List Operand} {os : List Opd} {vs : List V}, opds l = some os → evL env os = some vs → (∀ x ∈ l, OpdOK w0 ρ env e x) → LRel w0 ρ vs (l.map e) := by
  intro l
  induction l with
  | nil => intro os vs h h' _; simp [opds] at h; subst h; simp [evL] at h'; subst h'; exact .nil
  | cons x xs ih =>
    intro os vs h h' H
    simp only [opds] at h
    cases hx : opd x with
    | none => simp [hx] at h
    | some o =>
      cases hxs : opds xs with
      | none => simp [hx, hxs] at h
      | some os' =>
        simp [hx, hxs] at h; subst h
        simp only [evL] at h'
        cases hv : o.ev env with
        | none => simp [hv] at h'
        | some v =>
          cases hvs : evL env os' with
          | none => simp [hv, hvs] at h'
          | some us =>
            simp [hv, hvs] at h'; subst h'
            exact .cons (H x (by simp) o v hx hv) (ih hxs hvs fun y hy => H y (by simp [hy]))

theorem run_sizeO {t : TypeId} {n : Nat} (h : sizeO P t = some n) (w : World) : (sizeOf t).run P w = .ok n w := by
  unfold sizeO at h
  split at h
  · rename_i i hi; simp at h; simp [sizeOf, typeInfo, hi, h]
  · simp at h
theorem run_zeroOf {t : TypeId} {z : V} (h : zeroOf P t = some z) : ∃ x, (∀ w : World, (zeroValue t).run P w = .ok x w) ∧ ∀ w0 ρ, VRel w0 ρ z x := by
  unfold zeroOf at h
  split at h
  · rename_i i hi
    split at h
    · rename_i x hx
      exact ⟨x, fun w => by simp [zeroValue, typeInfo, hi, hx], fun w0 ρ => ofValue_rel h⟩
    · simp at h
  · simp at h
theorem info_of_size {t : TypeId} {n : Nat} (h : sizeO P t = some n) : ∃ i, P.info? t = some i ∧ i.size = n := by
  unfold sizeO at h
  split at h
  · rename_i i hi; simp at h; exact ⟨i, hi, h⟩
  · simp at h

/-- Cells of the model that a row of the evaluator stands for. -/
def Cells (w0 : World) (ρ : Ren) (w : World) (cs : List V) (r o : Nat) : Prop := ∀ i v, cs[i]? = some v → ∃ x, w.cell? ⟨r, o + i, none⟩ = some x ∧ VRel w0 ρ v x

theorem Rel.cells (h : Rel w0 ρ s w) {b r o lim : Nat} {cs : List V} (e : ρ b = some (r, o, lim)) (hs : s.row b = some cs) : Cells w0 ρ w cs r o := by
  have ho := h.ob b r o lim e
  unfold St.row at hs
  split at hs
  · rename_i cs' hg
    simp at hs; subst hs
    rw [hg] at ho
    obtain ⟨c, t, fr, h1, h2, h3, h4, h5⟩ := ho
    intro i v hv
    obtain ⟨hi, rfl⟩ := List.getElem?_eq_some_iff.1 hv
    obtain ⟨x, hx, hr⟩ := h5 i hi
    exact ⟨x, by simp [World.cell?, h1, hx], hr⟩
  · simp at hs
theorem Rel.ccells (h : Rel w0 ρ s w) {row : List V} {r o : Nat} {c : Nat → Value} (hr : row ≠ [] → r < w0.heap.size) (hc : ∀ i, i < row.length → w0.cell? ⟨r, o + i, none⟩ = some (c i))
    (hv : ∀ i (h : i < row.length), VRel w0 ρ row[i] (c i)) : Cells w0 ρ w row r o := by
  intro i v he
  obtain ⟨hi, rfl⟩ := List.getElem?_eq_some_iff.1 he
  refine ⟨c i, ?_, hv i hi⟩
  have := hc i hi
  unfold World.cell? at this ⊢
  rw [h.old r (hr (fun e => by subst e; simp at hi))]; exact this

theorem Cells.list {cs : List V} {r o : Nat} (h : Cells w0 ρ w cs r o) (off n : Nat) (hn : off + n ≤ cs.length) :
    ∃ xs : List Value, xs.length = n ∧ (∀ j x, xs[j]? = some x → w.cell? ⟨r, o + off + j, none⟩ = some x) ∧ LRel w0 ρ ((cs.drop off).take n) xs := by
  have key : ∀ i, i < n → ∃ x, w.cell? ⟨r, o + off + i, none⟩ = some x ∧ VRel w0 ρ (cs[off + i]?.getD .nilp) x := fun i hi => by
    obtain ⟨x, a, b⟩ := h (off + i) (cs[off + i]'(by omega)) (List.getElem?_eq_getElem _)
    refine ⟨x, by rw [Nat.add_assoc]; exact a, ?_⟩
    rw [List.getElem?_eq_getElem (by omega)]; exact b
  refine ⟨(List.range n).map fun i => (w.cell? ⟨r, o + off + i, none⟩).getD undef, by simp, fun j x hj => ?_, ?_, fun i h1 h2 => ?_⟩
  · simp only [List.getElem?_map] at hj
    by_cases hjn : j < n
    · rw [List.getElem?_range hjn] at hj
      obtain ⟨y, hy, _⟩ := key j hjn
      simp [hy] at hj; rw [hy, hj]
    · rw [List.getElem?_eq_none (by simp; omega)] at hj; simp at hj
  · simp; omega
  · simp at h1 h2
    obtain ⟨x, hx, hr⟩ := key i h2
    simp only [List.getElem_map, List.getElem_range, hx, Option.getD_some, List.getElem_take, List.getElem_drop]
    rw [List.getElem?_eq_getElem (by omega)] at hr; exact hr

theorem run_loadCells_of {cs : List V} {r o : Nat} (h : Cells w0 ρ w cs r o) (off n : Nat) (hn : off + n ≤ cs.length) :
    ∃ xs : List Value, (loadCells ⟨r, o + off, none⟩ n).run P w = .ok xs.toArray w ∧ LRel w0 ρ ((cs.drop off).take n) xs := by
  obtain ⟨xs, hl, hc, hr⟩ := h.list off n hn
  refine ⟨xs, ?_, hr⟩
  have := run_loadCells_list (P := P) w ⟨r, o + off, none⟩ xs (fun j v hv => by rw [addr_add]; exact hc j v hv)
  rwa [hl] at this

theorem run_loadVar_of {cs : List V} {r o : Nat} (h : Cells w0 ρ w cs r o) {t : TypeId} {n : Option Nat} (hn : spread P t = some n) {off : Nat} {v : V} (hv : loadRow n cs off = some v) :
    ∃ x, (loadVar t ⟨r, o + off, none⟩).run P w = .ok x w ∧ VRel w0 ρ v x := by
  unfold spread at hn
  have agg : ∀ {d : TypeDesc}, P.underlying t = some d → aggD d = true → ∀ m, sizeO P t = some m → n = some m →
      ∃ x, (loadVar t ⟨r, o + off, none⟩).run P w = .ok x w ∧ VRel w0 ρ v x := fun {d} hu hd m hm hnm => by
    subst hnm
    simp only [loadRow] at hv
    cases hb : Nat.ble (off + m) cs.length with
    | false => simp [hb] at hv
    | true =>
      simp [hb] at hv; subst hv
      obtain ⟨xs, hx, hr⟩ := run_loadCells_of (P := P) h off m (Nat.le_of_ble_eq_true hb)
      refine ⟨.agg xs.toArray, ?_, VRel.agg_of hr⟩
      have hagg : (isAgg t).run P w = .ok true w := by
        unfold isAgg
        rw [Sem.run_bind, run_underlying hu w]
        cases d <;> simp_all [aggD]
      simp [loadVar, hagg, run_sizeO hm, hx]
  split at hn
  · rename_i fs hu
    split at hn
    · rename_i m hm; simp at hn; exact agg hu rfl m hm hn.symm
    · simp at hn
  · rename_i k el hu
    split at hn
    · rename_i m hm; simp at hn; exact agg hu rfl m hm hn.symm
    · simp at hn
  · rename_i d h1 h2 hu
    simp at hn; subst hn
    simp only [loadRow] at hv
    obtain ⟨x, hx, hr⟩ := h off v hv
    refine ⟨x, ?_, hr⟩
    have hagg : (isAgg t).run P w = .ok false w := by
      unfold isAgg
      rw [Sem.run_bind, run_underlying hu w]
      cases d <;> simp_all [aggD]
    simp [loadVar, hagg, hx]
  · simp at hn

/-- The number that an index, or a bound, is. -/
theorem asNat_inv {v : V} {most n : Nat} (h : asNat v most = some n) : ∃ k m, v = .int k m ∧ 0 ≤ m ∧ m ≤ (most : Int) ∧ m.toNat = n := by
  unfold asNat at h
  split at h
  · rename_i k m
    split at h
    · rename_i hh; simp at h; exact ⟨k, m, rfl, hh.1, hh.2, h⟩
    · simp at h
  · simp at h

theorem VRel.int_inv {k : IntKind} {n : Int} {x : Value} (h : VRel w0 ρ (.int k n) x) : x = .int k n := by cases h; rfl

theorem run_sliceBound {v : V} {x : Value} {y n : Nat} (c : BoundsCode) (h : asNat v y = some n) (hx : VRel w0 ρ v x) (w : World) :
    (Instr.sliceBound x y c).run P w = .ok n w := by
  obtain ⟨k, m, rfl, h1, h2, h3⟩ := asNat_inv h
  rw [hx.int_inv]
  simp [Instr.sliceBound, asIntOf, h1, h2, h3]


theorem wrap_in (k : IntKind) (n : Int) (h0 : (if k.signed then -(2:Int)^(k.bits-1) else 0) ≤ n) (h1 : n < (if k.signed then (2:Int)^(k.bits-1) else (2:Int)^k.bits)) : k.wrap n = n := by
  unfold IntKind.wrap
  cases k <;> simp only [IntKind.signed, IntKind.bits, Bool.true_and, Bool.false_and, if_true, if_false, Bool.false_eq_true] at h0 h1 ⊢ <;> first
    | omega
    | (split
       · rename_i hh; have hh' := of_decide_eq_true hh; omega
       · rename_i hh; have hh' := of_decide_eq_false (Bool.eq_false_iff.2 hh); omega)
theorem wrapA_eq (k : IntKind) (n : Int) : wrapA k n = k.wrap n := by
  unfold wrapA
  cases n with
  | ofNat m =>
    simp only []
    cases h : Nat.ble m (kmax k) with
    | false => rfl
    | true =>
      have := Nat.le_of_ble_eq_true h
      simp only [cond_true]
      rw [wrap_in]
      · cases k <;> simp only [IntKind.signed, IntKind.bits, if_true, if_false, Bool.false_eq_true] <;> show _ ≤ (m : Int) <;> omega
      · cases k <;> simp only [kmax] at this <;> simp only [IntKind.signed, IntKind.bits, if_true, if_false, Bool.false_eq_true] <;> show (m : Int) < _ <;> omega
  | negSucc m =>
    simp only []
    cases h : k.signed && Nat.ble m (kmax k) with
    | false => rfl
    | true =>
      rw [Bool.and_eq_true] at h
      have := Nat.le_of_ble_eq_true h.2
      have hs := h.1
      simp only [cond_true]
      rw [wrap_in]
      · cases k <;> simp only [IntKind.signed, Bool.false_eq_true] at hs <;> simp only [kmax] at this <;> simp only [IntKind.signed, IntKind.bits, if_true] <;> omega
      · cases k <;> simp only [IntKind.signed, Bool.false_eq_true] at hs <;> simp only [IntKind.signed, IntKind.bits, if_true] <;> omega

theorem byteArray_toList (b : ByteArray) : b.toList = b.data.toList := by
  have key : ∀ (n i : Nat) (r : List UInt8), b.size - i = n → ByteArray.toList.loop b i r = r.reverse ++ b.data.toList.drop i := by
    intro n
    induction n with
    | zero =>
      intro i r h
      rw [ByteArray.toList.loop, if_neg (by omega), List.drop_eq_nil_of_le (by show b.data.toList.length ≤ i; simp; have : b.size = b.data.size := rfl; omega)]
      simp
    | succ n ih =>
      intro i r h
      have hi : i < b.size := by omega
      have hi' : i < b.data.toList.length := by simpa using hi
      rw [ByteArray.toList.loop, if_pos hi, ih (i + 1) _ (by omega), List.drop_eq_getElem_cons hi']
      have hg : b.get! i = b.data.toList[i] := by
        show b.data[i]! = _
        have h2 : i < b.data.size := hi
        rw [getElem!_pos b.data i h2]; simp
      simp [hg]
  have := key b.size 0 [] (by omega)
  simpa [ByteArray.toList] using this

theorem intBin_sound {op : BinOp} {k : IntKind} {a b : Int} {v : V} (t : TypeId) (h : intBin op k a b = some v) (w : World) :
    ∃ x, (Go.binOp op t (.int k a) (.int k b)).run P w = .ok x w ∧ VRel w0 ρ v x := by
  cases op <;> simp only [intBin, wrapA_eq] at h <;> try (simp at h; done)
  case quo =>
    split at h
    · simp at h
    · rename_i hb; simp at h; subst h; exact ⟨_, by simp [Go.binOp, Op.intDiv, hb], .int _ _⟩
  case rem =>
    split at h
    · simp at h
    · rename_i hb; simp at h; subst h; exact ⟨_, by simp [Go.binOp, Op.intDiv, hb], .int _ _⟩
  all_goals (simp only [Option.some.injEq] at h; subst h; refine ⟨_, ?_, by first | exact .int _ _ | exact .bool _⟩; simp only [Go.binOp, ne_eq, not_true_eq_false, if_false]; rfl)

theorem shiftV_sound {op : BinOp} {k j : IntKind} {a b : Int} {v : V} (t : TypeId) (ho : op = .shl ∨ op = .shr) (h : shiftV op k a b = some v) (w : World) :
    ∃ x, (Go.binOp op t (.int k a) (.int j b)).run P w = .ok x w ∧ VRel w0 ρ v x := by
  rcases ho with rfl | rfl <;> simp only [shiftV, wrapA_eq] at h <;> split at h <;> simp only [reduceCtorEq, Option.some.injEq] at h <;> rename_i hb <;> subst h
  · exact ⟨_, by simp only [Go.binOp, Op.shift, hb, if_false, Sem.run_pure], .int _ _⟩
  · exact ⟨_, by simp only [Go.binOp, Op.shift, hb, if_false, Sem.run_pure], .int _ _⟩

theorem strBin_sound {op : BinOp} {a b : List UInt8} {x y : ByteArray} {v : V} (hx : x.data.toList = a) (hy : y.data.toList = b) (h : strBin op a b = some v) (w : World) :
    ∃ z, (Op.stringOp op x y).run P w = .ok z w ∧ VRel w0 ρ v z := by
  have ex : x.toList = a := (byteArray_toList x).trans hx
  have ey : y.toList = b := (byteArray_toList y).trans hy
  have sx : x.size = a.length := by rw [← hx]; simp
  have sy : y.size = b.length := by rw [← hy]; simp
  cases op <;> simp only [strBin] at h <;> try (simp at h; done)
  case add =>
    cases hb : Nat.ble (a.length + b.length) big with
    | false => simp [hb] at h
    | true =>
      have hb' := Nat.le_of_ble_eq_true hb
      simp only [hb, cond_true, Option.some.injEq] at h; subst h
      refine ⟨.string (x ++ y), ?_, .str (by rw [← hx, ← hy]; simp)⟩
      have : ¬ ((x.size + y.size : Nat) : Int) > IntKind.i64.max := by
        rw [sx, sy]; unfold big at hb'; simp [IntKind.max, IntKind.bits]; omega
      simp only [Op.stringOp]
      rw [if_neg this]; rfl
  all_goals (simp only [Option.some.injEq] at h; subst h; refine ⟨_, ?_, .bool _⟩; simp only [Op.stringOp, ex, ey]; rfl)

theorem VRel.bool_inv {b : Bool} {x : Value} (h : VRel w0 ρ (.bool b) x) : x = .bool b := by cases h; rfl
theorem VRel.str_inv {l : List UInt8} {x : Value} (h : VRel w0 ρ (.str l) x) : ∃ s, x = .string s ∧ s.data.toList = l := by cases h; exact ⟨_, rfl, by assumption⟩

/-- A type whose values are told apart so. -/
def KindOK (P : Program) (t : TypeId) : EqK → Prop
  | .bool => P.underlying t = some .bool
  | .int => ∃ j, P.underlying t = some (.int j)
  | .str => P.underlying t = some .string
  | _ => False

theorem plainEq_inv {k : EqK} {a b : V} {r : Bool} (h : plainEq k a b = some r) :
    (∃ x y, k = .bool ∧ a = .bool x ∧ b = .bool y ∧ r = (x == y)) ∨ (∃ j x y, k = .int ∧ a = .int j x ∧ b = .int j y ∧ r = (x == y)) ∨ (∃ x y, k = .str ∧ a = .str x ∧ b = .str y ∧ r = (x == y)) := by
  unfold plainEq at h
  split at h
  · simp only [Option.some.injEq] at h; exact .inl ⟨_, _, rfl, rfl, rfl, h.symm⟩
  · split at h
    · rename_i hjk
      simp only [Option.some.injEq] at h; subst hjk; exact .inr (.inl ⟨_, _, _, rfl, rfl, rfl, h.symm⟩)
    · simp at h
  · simp only [Option.some.injEq] at h; exact .inr (.inr ⟨_, _, rfl, rfl, rfl, h.symm⟩)
  · simp at h

theorem plainEq_sound {k : EqK} {a b : V} {x y : Value} {r : Bool} (h : plainEq k a b = some r) (hx : VRel w0 ρ a x) (hy : VRel w0 ρ b y) {t : TypeId}
    (ht : KindOK P t k) (d : Nat) (w : World) : (Op.equalIn (d + 1) t x y).run P w = .ok r w := by
  rcases plainEq_inv h with ⟨p, q, rfl, rfl, rfl, rfl⟩ | ⟨j, p, q, rfl, rfl, rfl, rfl⟩ | ⟨p, q, rfl, rfl, rfl, rfl⟩
  · rw [hx.bool_inv, hy.bool_inv]
    exact run_equalIn_bool' w d t _ _ ht
  · rw [hx.int_inv, hy.int_inv]
    obtain ⟨j', hj'⟩ := ht
    exact run_equalIn_int w d t _ _ _ _ hj'
  · obtain ⟨p, rfl, hp⟩ := hx.str_inv
    obtain ⟨q, rfl, hq⟩ := hy.str_inv
    rw [run_equalIn_string w d t _ _ ht, byteArray_toList, byteArray_toList, hp, hq]

theorem flatK_cons {f : Field} {fs : List Field} {ks : List (Nat × EqK)} (h : flatK P (f :: fs) = some ks) :
    ∃ k r, ks = (f.offset, k) :: r ∧ flatK P fs = some r ∧ f.name ≠ "_" ∧ (∃ d, P.underlying f.type = some d ∧ aggD d = false) ∧ KindOK P f.type k := by
  simp only [flatK] at h
  cases hn : f.name == "_" with
  | true => simp [hn] at h
  | false =>
    have hn' : f.name ≠ "_" := by simpa using hn
    simp only [hn, cond_false] at h
    cases hr : flatK P fs with
    | none => rw [hr] at h; split at h <;> simp_all
    | some r =>
      rw [hr] at h
      split at h <;> simp only [Option.some.injEq, reduceCtorEq] at h
      · rename_i hu he; cases he; exact ⟨.bool, r, h.symm, rfl, hn', ⟨_, hu, rfl⟩, hu⟩
      · rename_i j hu he; cases he; exact ⟨.int, r, h.symm, rfl, hn', ⟨_, hu, rfl⟩, ⟨_, hu⟩⟩
      · rename_i hu he; cases he; exact ⟨.str, r, h.symm, rfl, hn', ⟨_, hu, rfl⟩, hu⟩

theorem run_part_one {t : TypeId} {d : TypeDesc} (hu : P.underlying t = some d) (hd : aggD d = false) {cs : Array Value} {off : Nat} {x : Value}
    (hx : cs[off]? = some x) (w : World) : (part t cs off).run P w = .ok x w := by
  have hagg : (isAgg t).run P w = .ok false w := by
    unfold isAgg
    rw [Sem.run_bind, run_underlying hu w]
    cases d <;> simp_all [aggD]
  simp [part, hagg, hx]

theorem flatEq_sound {xs' ys' : Array Value} {xs ys : List V} (hx : LRel w0 ρ xs xs'.toList) (hy : LRel w0 ρ ys ys'.toList) (d : Nat) (w : World) :
    ∀ {fs : List Field} {ks : List (Nat × EqK)} {r : Bool}, flatK P fs = some ks → flatEq ks xs ys = some r → (Op.eqFields (d + 1) xs' ys' fs).run P w = .ok r w := by
  intro fs
  induction fs with
  | nil =>
    intro ks r h h'
    simp [flatK] at h; subst h
    simp [flatEq] at h'; subst h'
    simp [Op.eqFields]
  | cons f fs ih =>
    intro ks r h h'
    obtain ⟨k, rest, rfl, hr, hn, ⟨dd, hu, hdd⟩, hk⟩ := flatK_cons h
    simp only [flatEq] at h'
    cases ha : xs[f.offset]? with
    | none => simp [ha] at h'
    | some a =>
      cases hb : ys[f.offset]? with
      | none => simp [ha, hb] at h'
      | some b =>
        simp only [ha, hb] at h'
        obtain ⟨x, hx1, hx2⟩ := hx.get ha
        obtain ⟨y, hy1, hy2⟩ := hy.get hb
        have px := run_part_one (P := P) hu hdd (cs := xs') (off := f.offset) (x := x) (by simpa using hx1) w
        have py := run_part_one (P := P) hu hdd (cs := ys') (off := f.offset) (x := y) (by simpa using hy1) w
        cases he : plainEq k a b with
        | none => simp [he] at h'
        | some q =>
          have hq := plainEq_sound he hx2 hy2 hk d w
          simp only [Op.eqFields, if_pos hn, Sem.run_bind, px, py, hq, Result.andThen_ok]
          cases q with
          | true => simp only [he] at h'; simpa using ih hr h'
          | false => simp [he] at h'; subst h'; simp

def EqOK (P : Program) (t : TypeId) (x y : Operand) : EqK → Prop
  | .bool => P.underlying t = some .bool
  | .int => ∃ j, P.underlying t = some (.int j)
  | .str => P.underlying t = some .string
  | .nilp => ∃ el, P.underlying t = some (.pointer el)
  | .nils => ∃ el, P.underlying t = some (.slice el)
  | .nilm => ∃ a b, P.underlying t = some (.map a b)
  | .nilf => ∃ a b c, P.underlying t = some (.func a b c)
  | .iface g => (∃ ms, P.underlying t = some (.interface ms)) ∧ g = !(isConstOperand x || isConstOperand y)
  | .flat ks => ∃ fs, P.underlying t = some (.struct fs) ∧ flatK P fs.toList = some ks ∧ P.stoodInHeld t = false ∧ P.eqGuardType P.depth t = false
  | .no => True

theorem eqK_ok (op : BinOp) (t : TypeId) (x y : Operand) : EqOK P t x y (eqK P op t x y) := by
  have key : EqOK P t x y (eqK P .eql t x y) := by
    simp only [eqK]
    split
    · assumption
    · exact ⟨_, by assumption⟩
    · assumption
    · exact ⟨_, by assumption⟩
    · exact ⟨_, by assumption⟩
    · exact ⟨_, _, by assumption⟩
    · exact ⟨_, _, _, by assumption⟩
    · exact ⟨⟨_, by assumption⟩, rfl⟩
    · rename_i fs hu
      split
      · rename_i ks hks
        cases hs : P.stoodInHeld t with
        | true => simp [EqOK]
        | false =>
          cases hg : P.eqGuardType P.depth t with
          | true => simp [EqOK]
          | false => exact ⟨fs, hu, hks, hs, hg⟩
      · trivial
    · trivial
  cases op <;> first | exact key | trivial

theorem eq_nilp {t el : TypeId} (h : P.underlying t = some (.pointer el)) (d : Nat) (w : World) (a : Addr) :
    (Op.equalIn (d + 1) t (.pointer none) (.pointer none)).run P w = .ok true w ∧ (Op.equalIn (d + 1) t (.pointer none) (.pointer (some a))).run P w = .ok false w ∧
    (Op.equalIn (d + 1) t (.pointer (some a)) (.pointer none)).run P w = .ok false w := by
  refine ⟨?_, ?_, ?_⟩ <;> (unfold Op.equalIn; rw [Sem.run_bind, run_underlying h]; rfl)
theorem eq_nils {t el : TypeId} (h : P.underlying t = some (.slice el)) (d : Nat) (w : World) (a : Addr) (l c : Nat) :
    (Op.equalIn (d + 1) t (.slice none 0 0) (.slice none 0 0)).run P w = .ok true w ∧ (Op.equalIn (d + 1) t (.slice none 0 0) (.slice (some a) l c)).run P w = .ok false w ∧
    (Op.equalIn (d + 1) t (.slice (some a) l c) (.slice none 0 0)).run P w = .ok false w := by
  refine ⟨?_, ?_, ?_⟩ <;> (unfold Op.equalIn; rw [Sem.run_bind, run_underlying h]; rfl)
theorem eq_nilm {t k el : TypeId} (h : P.underlying t = some (.map k el)) (d : Nat) (w : World) (a : Nat) :
    (Op.equalIn (d + 1) t (.map none) (.map none)).run P w = .ok true w ∧ (Op.equalIn (d + 1) t (.map none) (.map (some a))).run P w = .ok false w ∧
    (Op.equalIn (d + 1) t (.map (some a)) (.map none)).run P w = .ok false w := by
  refine ⟨?_, ?_, ?_⟩ <;> (unfold Op.equalIn; rw [Sem.run_bind, run_underlying h]; rfl)
theorem eq_nilf {t : TypeId} {p q : Array TypeId} {b : Bool} (h : P.underlying t = some (.func p q b)) (d : Nat) (w : World) (f : Fn) (x y : Array Value) :
    (Op.equalIn (d + 1) t .nilFunc .nilFunc).run P w = .ok true w ∧ (Op.equalIn (d + 1) t .nilFunc (.func f x y)).run P w = .ok false w ∧
    (Op.equalIn (d + 1) t (.func f x y) .nilFunc).run P w = .ok false w := by
  refine ⟨?_, ?_, ?_⟩ <;> (unfold Op.equalIn; rw [Sem.run_bind, run_underlying h]; rfl)
theorem eq_nili {t : TypeId} {ms : Array (String × TypeId)} (h : P.underlying t = some (.interface ms)) (d : Nat) (w : World) (u : TypeId) (x : Value) :
    (Op.equalIn (d + 1) t .nilIface .nilIface).run P w = .ok true w ∧ (Op.equalIn (d + 1) t .nilIface (.iface u x)).run P w = .ok false w ∧
    (Op.equalIn (d + 1) t (.iface u x) .nilIface).run P w = .ok false w := by
  refine ⟨?_, ?_, ?_⟩ <;> (unfold Op.equalIn; rw [Sem.run_bind, run_underlying h]; rfl)

/-- Two values at which a comparison is not guarded. -/
def unguarded : Value → Value → Bool
  | .nilIface, .nilIface => false
  | .agg _, .agg _ => false
  | _, _ => true
theorem run_unguarded {op : BinOp} {t : TypeId} {x y : Operand} {u v : Value} (h : unguarded u v = true) (w : World) : (eqGuard op t x y u v).run P w = .ok () w := by
  cases op <;> first
    | rfl
    | (unfold eqGuard
       simp only [Bool.not_true, Bool.false_eq_true, if_false]
       split <;> first | (simp [unguarded] at h; done) | rfl)

theorem eqV_sound' (d : Nat) {op : BinOp} {ek : EqK} {t : TypeId} {x y : Operand} {a b : V} {r : Bool} {u v : Value} (hk : EqOK P t x y ek) (h : eqV ek a b = some r) (hu : VRel w0 ρ a u) (hv : VRel w0 ρ b v) (w : World) :
    (Op.equalIn (d + 2) t u v).run P w = .ok r w ∧ (eqGuard op t x y u v).run P w = .ok () w := by
  unfold eqV at h
  split at h
  · simp only [Option.some.injEq] at h; subst h; rw [hu.bool_inv, hv.bool_inv]
    exact ⟨run_equalIn_bool' w _ t _ _ hk, run_unguarded rfl w⟩
  · simp only [Option.some.injEq] at h; subst h; obtain ⟨el, hk⟩ := hk; cases hu; cases hv; exact ⟨(eq_nilp hk _ w ⟨0, 0, none⟩).1, run_unguarded rfl w⟩
  · simp only [Option.some.injEq] at h; subst h; obtain ⟨el, hk⟩ := hk; cases hu; cases hv; exact ⟨(eq_nilp hk _ w _).2.1, run_unguarded rfl w⟩
  · simp only [Option.some.injEq] at h; subst h; obtain ⟨el, hk⟩ := hk; cases hu; cases hv; exact ⟨(eq_nilp hk _ w _).2.1, run_unguarded rfl w⟩
  · simp only [Option.some.injEq] at h; subst h; obtain ⟨el, hk⟩ := hk; cases hu; cases hv; exact ⟨(eq_nilp hk _ w _).2.2, run_unguarded rfl w⟩
  · simp only [Option.some.injEq] at h; subst h; obtain ⟨el, hk⟩ := hk; cases hu; cases hv; exact ⟨(eq_nilp hk _ w _).2.2, run_unguarded rfl w⟩
  · simp only [Option.some.injEq] at h; subst h; obtain ⟨el, hk⟩ := hk; cases hu; cases hv; exact ⟨(eq_nils hk _ w ⟨0, 0, none⟩ 0 0).1, run_unguarded rfl w⟩
  · simp only [Option.some.injEq] at h; subst h; obtain ⟨el, hk⟩ := hk; cases hu; cases hv; exact ⟨(eq_nils hk _ w _ _ _).2.1, run_unguarded rfl w⟩
  · simp only [Option.some.injEq] at h; subst h; obtain ⟨el, hk⟩ := hk; cases hu; cases hv; exact ⟨(eq_nils hk _ w _ _ _).2.1, run_unguarded rfl w⟩
  · simp only [Option.some.injEq] at h; subst h; obtain ⟨el, hk⟩ := hk; cases hu; cases hv; exact ⟨(eq_nils hk _ w _ _ _).2.2, run_unguarded rfl w⟩
  · simp only [Option.some.injEq] at h; subst h; obtain ⟨el, hk⟩ := hk; cases hu; cases hv; exact ⟨(eq_nils hk _ w _ _ _).2.2, run_unguarded rfl w⟩
  · simp only [Option.some.injEq] at h; subst h; obtain ⟨k, el, hk⟩ := hk; cases hu; cases hv; exact ⟨(eq_nilm hk _ w 0).1, run_unguarded rfl w⟩
  · simp only [Option.some.injEq] at h; subst h; obtain ⟨k, el, hk⟩ := hk; cases hu; cases hv; exact ⟨(eq_nilm hk _ w _).2.1, run_unguarded rfl w⟩
  · simp only [Option.some.injEq] at h; subst h; obtain ⟨k, el, hk⟩ := hk; cases hu; cases hv; exact ⟨(eq_nilm hk _ w _).2.2, run_unguarded rfl w⟩
  · simp only [Option.some.injEq] at h; subst h; obtain ⟨p, q, bb, hk⟩ := hk; cases hu; cases hv; exact ⟨(eq_nilf hk _ w (.func 0) #[] #[]).1, run_unguarded rfl w⟩
  · simp only [Option.some.injEq] at h; subst h; obtain ⟨p, q, bb, hk⟩ := hk; cases hu; cases hv; exact ⟨(eq_nilf hk _ w _ _ _).2.1, run_unguarded rfl w⟩
  · simp only [Option.some.injEq] at h; subst h; obtain ⟨p, q, bb, hk⟩ := hk; cases hu; cases hv; exact ⟨(eq_nilf hk _ w _ _ _).2.2, run_unguarded rfl w⟩
  · obtain ⟨⟨ms, hk⟩, hg⟩ := hk
    simp only [Option.some.injEq] at h; subst h; cases hu; cases hv
    refine ⟨(eq_nili hk _ w 0 .nilFunc).1, ?_⟩
    have hg' : isConstOperand x = true ∨ isConstOperand y = true := by
      cases hx : isConstOperand x
      · rw [hx] at hg; right; simpa using hg.symm
      · exact .inl rfl
    cases op <;> first
      | rfl
      | (unfold eqGuard
         simp only [Bool.not_true, Bool.false_eq_true, if_false]
         rw [if_pos]
         · rfl
         · rcases hg' with hg' | hg'
           · cases x <;> simp [isConstOperand] at hg' ⊢
           · cases y <;> simp [isConstOperand] at hg' ⊢)
  · obtain ⟨⟨ms, hk⟩, hg⟩ := hk
    simp only [Option.some.injEq] at h; subst h; cases hu; cases hv
    exact ⟨(eq_nili hk _ w _ _).2.1, run_unguarded rfl w⟩
  · obtain ⟨⟨ms, hk⟩, hg⟩ := hk
    simp only [Option.some.injEq] at h; subst h; cases hu; cases hv
    exact ⟨(eq_nili hk _ w _ _).2.2, run_unguarded rfl w⟩
  · obtain ⟨fs, hk, hks, hs, hg⟩ := hk
    cases hu with
    | agg ha va =>
      cases hv with
      | agg hb vb =>
        refine ⟨?_, run_eqGuard_agg w op t x y _ _ hg⟩
        have hf : P.fieldsOf t = fs := by simp [Program.fieldsOf, hk]
        rw [run_equalIn_struct (P := P) w (d + 1) t _ _ (by rw [hf]; exact hk) hs, hf]
        exact flatEq_sound (LRel.of_array ha va) (LRel.of_array hb vb) d w hks h
  · simp at h

theorem eqV_sound {op : BinOp} {ek : EqK} {t : TypeId} {x y : Operand} {a b : V} {r : Bool} {u v : Value} (hk : EqOK P t x y ek) (h : eqV ek a b = some r) (hu : VRel w0 ρ a u) (hv : VRel w0 ρ b v) (w : World) :
    (Op.equal t u v).run P w = .ok r w ∧ (eqGuard op t x y u v).run P w = .ok () w := eqV_sound' 9998 hk h hu hv w
end
end Go.RE
