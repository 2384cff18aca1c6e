/- Each operation that neither writes nor makes memory does what the evaluator says. -/
import Derived.Test.YtigkmaeaoaejiaaGreatDoorPart1
import Derived.Deep.AppendSrc
import Derived.Laws.BytesString
import Derived.Laws.StructEq
set_option linter.unusedVariables false
set_option linter.unusedSimpArgs false
namespace Go.RE
def aggD : TypeDesc → Bool
  | .struct _ => true
  | .array _ _ => true
  | _ => false
theorem addr_add (r o n : Nat) : (⟨r, o, none⟩ : Addr).add n = ⟨r, o + n, none⟩ := by
  unfold Addr.add; split <;> simp_all
section
variable {P : Program} {w0 : World} {ρ : Ren} {s : St} {w : World} {env : PT V} {e : Operand → Value}
def OpdOK (w0 : World) (ρ : Ren) (env : PT V) (e : Operand → Value) (x : Operand) : Prop := ∀ o v, opd x = some o → o.ev env = some v → VRel w0 ρ v (e x)
theorem ofValue0_rel {x : Value} {v : V} (h : ofValue0 x = some v) : VRel w0 ρ v x := by
  unfold ofValue0 at h
  split at h <;> simp at h <;> subst h
  · exact .bool _
  · exact .int _ _
  · exact .str rfl
  · exact .nilp
  · exact .nils
  · exact .nilm
  · exact .nilf
  · exact .nili
theorem ofL_rel {f : Value → Option V} (hf : ∀ x v, f x = some v → VRel w0 ρ v x) : ∀ {l : List Value} {vs : List V}, ofL f l = some vs → LRel w0 ρ vs l := by
  intro l
  induction l with
  | nil => intro vs h; simp [ofL] at h; subst h; exact .nil
  | cons x xs ih =>
    intro vs h
    simp only [ofL] at h
    cases hx : f x with
    | none => simp [hx] at h
    | some v =>
      cases hxs : ofL f xs with
      | none => simp [hx, hxs] at h
      | some us => simp [hx, hxs] at h; subst h; exact .cons (hf _ _ hx) (ih hxs)
theorem ofValue_rel {x : Value} {v : V} (h : ofValue x = some v) : VRel w0 ρ v x := by
  unfold ofValue at h
  split at h
  · split at h
    · rename_i cs l hl
      simp at h; subst h
      have := ofL_rel (w0 := w0) (ρ := ρ) (fun _ _ => ofValue0_rel) hl
      simpa using VRel.agg_of this
    · simp at h
  · split at h
    · rename_i y hy
      simp at h; subst h; exact .iface (ofValue0_rel hy)
    · simp at h
  · exact ofValue0_rel h
theorem opd_const {v : Value} {o : Opd} (h : opd (.const v) = some o) : ∃ x, o = .c x ∧ VRel w0 ρ x v := by
  simp only [opd] at h
  split at h
  · rename_i x hx; simp at h; exact ⟨x, h.symm, ofValue_rel hx⟩
  · simp at h
theorem opds_rel : ∀ {l : List Operand} {os : List Opd} {vs : List V}, opds l = some os → evL env os = some vs → (∀ x ∈ l, OpdOK w0 ρ env e x) → LRel w0 ρ vs (l.map e) := by
  intro l
  induction l with
  | nil => intro os vs h h' _; simp [opds] at h; subst h; simp [evL] at h'; subst h'; exact .nil
  | cons x xs ih =>
    intro os vs h h' H
    simp only [opds] at h
    cases hx : opd x with
    | none => simp [hx] at h
    | some o =>
      cases hxs : opds xs with
      | none => simp [hx, hxs] at h
      | some os' =>
        simp [hx, hxs] at h; subst h
        simp only [evL] at h'
        cases hv : o.ev env with
        | none => simp [hv] at h'
        | some v =>
          cases hvs : evL env os' with
          | none => simp [hv, hvs] at h'
          | some us =>
            simp [hv, hvs] at h'; subst h'
            exact .cons (H x (by simp) o v hx hv) (ih hxs hvs fun y hy => H y (by simp [hy]))
theorem run_sizeO {t : TypeId} {n : Nat} (h : sizeO P t = some n) (w : World) : (sizeOf t).run P w = .ok n w := by
  unfold sizeO at h
  split at h
  · rename_i i hi; simp at h; simp [sizeOf, typeInfo, hi, h]
  · simp at h
theorem run_zeroOf {t : TypeId} {z : V} (h : zeroOf P t = some z) : ∃ x, (∀ w : World, (zeroValue t).run P w = .ok x w) ∧ ∀ w0 ρ, VRel w0 ρ z x := by
  unfold zeroOf at h
  split at h
  · rename_i i hi
    split at h
    · rename_i x hx
      exact ⟨x, fun w => by simp [zeroValue, typeInfo, hi, hx], fun w0 ρ => ofValue_rel h⟩
    · simp at h
  · simp at h
theorem info_of_size {t : TypeId} {n : Nat} (h : sizeO P t = some n) : ∃ i, P.info? t = some i ∧ i.size = n := by
  unfold sizeO at h
  split at h
  · rename_i i hi; simp at h; exact ⟨i, hi, h⟩
  · simp at h
def Cells (w0 : World) (ρ : Ren) (w : World) (cs : List V) (r o : Nat) : Prop := ∀ i v, cs[i]? = some v → ∃ x, w.cell? ⟨r, o + i, none⟩ = some x ∧ VRel w0 ρ v x
theorem Rel.cells (h : Rel w0 ρ s w) {b r o lim : Nat} {cs : List V} (e : ρ b = some (r, o, lim)) (hs : s.row b = some cs) : Cells w0 ρ w cs r o := by
  have ho := h.ob b r o lim e
  unfold St.row at hs
  split at hs
  · rename_i cs' hg
    simp at hs; subst hs
    rw [hg] at ho
    obtain ⟨c, t, fr, h1, h2, h3, h4, h5⟩ := ho
    intro i v hv
    obtain ⟨hi, rfl⟩ := List.getElem?_eq_some_iff.1 hv
    obtain ⟨x, hx, hr⟩ := h5 i hi
    exact ⟨x, by simp [World.cell?, h1, hx], hr⟩
  · simp at hs
theorem Rel.ccells (h : Rel w0 ρ s w) {row : List V} {r o : Nat} {c : Nat → Value} (hr : row ≠ [] → r < w0.heap.size) (hc : ∀ i, i < row.length → w0.cell? ⟨r, o + i, none⟩ = some (c i))
    (hv : ∀ i (h : i < row.length), VRel w0 ρ row[i] (c i)) : Cells w0 ρ w row r o := by
  intro i v he
  obtain ⟨hi, rfl⟩ := List.getElem?_eq_some_iff.1 he
  refine ⟨c i, ?_, hv i hi⟩
  have := hc i hi
  unfold World.cell? at this ⊢
  rw [h.old r (hr (fun e => by subst e; simp at hi))]; exact this
theorem Cells.list {cs : List V} {r o : Nat} (h : Cells w0 ρ w cs r o) (off n : Nat) (hn : off + n ≤ cs.length) :
    ∃ xs : List Value, xs.length = n ∧ (∀ j x, xs[j]? = some x → w.cell? ⟨r, o + off + j, none⟩ = some x) ∧ LRel w0 ρ ((cs.drop off).take n) xs := by
  have key : ∀ i, i < n → ∃ x, w.cell? ⟨r, o + off + i, none⟩ = some x ∧ VRel w0 ρ (cs[off + i]?.getD .nilp) x := fun i hi => by
    obtain ⟨x, a, b⟩ := h (off + i) (cs[off + i]'(by omega)) (List.getElem?_eq_getElem _)
    refine ⟨x, by rw [Nat.add_assoc]; exact a, ?_⟩
    rw [List.getElem?_eq_getElem (by omega)]; exact b
  refine ⟨(List.range n).map fun i => (w.cell? ⟨r, o + off + i, none⟩).getD undef, by simp, fun j x hj => ?_, ?_, fun i h1 h2 => ?_⟩
  · simp only [List.getElem?_map] at hj
    by_cases hjn : j < n
    · rw [List.getElem?_range hjn] at hj
      obtain ⟨y, hy, _⟩ := key j hjn
      simp [hy] at hj; rw [hy, hj]
    · rw [List.getElem?_eq_none (by simp; omega)] at hj; simp at hj
  · simp; omega
  · simp at h1 h2
    obtain ⟨x, hx, hr⟩ := key i h2
    simp only [List.getElem_map, List.getElem_range, hx, Option.getD_some, List.getElem_take, List.getElem_drop]
    rw [List.getElem?_eq_getElem (by omega)] at hr; exact hr
theorem run_loadCells_of {cs : List V} {r o : Nat} (h : Cells w0 ρ w cs r o) (off n : Nat) (hn : off + n ≤ cs.length) :
    ∃ xs : List Value, (loadCells ⟨r, o + off, none⟩ n).run P w = .ok xs.toArray w ∧ LRel w0 ρ ((cs.drop off).take n) xs := by
  obtain ⟨xs, hl, hc, hr⟩ := h.list off n hn
  refine ⟨xs, ?_, hr⟩
  have := run_loadCells_list (P := P) w ⟨r, o + off, none⟩ xs (fun j v hv => by rw [addr_add]; exact hc j v hv)
  rwa [hl] at this
theorem run_loadVar_of {cs : List V} {r o : Nat} (h : Cells w0 ρ w cs r o) {t : TypeId} {n : Option Nat} (hn : spread P t = some n) {off : Nat} {v : V} (hv : loadRow n cs off = some v) :
    ∃ x, (loadVar t ⟨r, o + off, none⟩).run P w = .ok x w ∧ VRel w0 ρ v x := by
  unfold spread at hn
  have agg : ∀ {d : TypeDesc}, P.underlying t = some d → aggD d = true → ∀ m, sizeO P t = some m → n = some m →
      ∃ x, (loadVar t ⟨r, o + off, none⟩).run P w = .ok x w ∧ VRel w0 ρ v x := fun {d} hu hd m hm hnm => by
    subst hnm
    simp only [loadRow] at hv
    cases hb : Nat.ble (off + m) cs.length with
    | false => simp [hb] at hv
    | true =>
      simp [hb] at hv; subst hv
      obtain ⟨xs, hx, hr⟩ := run_loadCells_of (P := P) h off m (Nat.le_of_ble_eq_true hb)
      refine ⟨.agg xs.toArray, ?_, VRel.agg_of hr⟩
      have hagg : (isAgg t).run P w = .ok true w := by
        unfold isAgg
        rw [Sem.run_bind, run_underlying hu w]
        cases d <;> simp_all [aggD]
      simp [loadVar, hagg, run_sizeO hm, hx]
  split at hn
  · rename_i fs hu
    split at hn
    · rename_i m hm; simp at hn; exact agg hu rfl m hm hn.symm
    · simp at hn
  · rename_i k el hu
    split at hn
    · rename_i m hm; simp at hn; exact agg hu rfl m hm hn.symm
    · simp at hn
  · rename_i d h1 h2 hu
    simp at hn; subst hn
    simp only [loadRow] at hv
    obtain ⟨x, hx, hr⟩ := h off v hv
    refine ⟨x, ?_, hr⟩
    have hagg : (isAgg t).run P w = .ok false w := by
      unfold isAgg
      rw [Sem.run_bind, run_underlying hu w]
      cases d <;> simp_all [aggD]
    simp [loadVar, hagg, hx]
  · simp at hn
theorem asNat_inv {v : V} {most n : Nat} (h : asNat v most = some n) : ∃ k m, v = .int k m ∧ 0 ≤ m ∧ m ≤ (most : Int) ∧ m.toNat = n := by
  unfold asNat at h
  split at h
  · rename_i k m
    split at h
    · rename_i hh; simp at h; exact ⟨k, m, rfl, hh.1, hh.2, h⟩
    · simp at h
  · simp at h
theorem VRel.int_inv {k : IntKind} {n : Int} {x : Value} (h : VRel w0 ρ (.int k n) x) : x = .int k n := by cases h; rfl
theorem run_sliceBound {v : V} {x : Value} {y n : Nat} (c : BoundsCode) (h : asNat v y = some n) (hx : VRel w0 ρ v x) (w : World) :
    (Instr.sliceBound x y c).run P w = .ok n w := by
  obtain ⟨k, m, rfl, h1, h2, h3⟩ := asNat_inv h
  rw [hx.int_inv]
  simp [Instr.sliceBound, asIntOf, h1, h2, h3]
theorem wrap_in (k : IntKind) (n : Int) (h0 : (if k.signed then -(2:Int)^(k.bits-1) else 0) ≤ n) (h1 : n < (if k.signed then (2:Int)^(k.bits-1) else (2:Int)^k.bits)) : k.wrap n = n := by
  unfold IntKind.wrap
  cases k <;> simp only [IntKind.signed, IntKind.bits, Bool.true_and, Bool.false_and, if_true, if_false, Bool.false_eq_true] at h0 h1 ⊢ <;> first
    | omega
    | (split
       · rename_i hh; have hh' := of_decide_eq_true hh; omega
       · rename_i hh; have hh' := of_decide_eq_false (Bool.eq_false_iff.2 hh); omega)
theorem wrapA_eq (k : IntKind) (n : Int) : wrapA k n = k.wrap n := by
  unfold wrapA
  cases n with
  | ofNat m =>
    simp only []
    cases h : Nat.ble m (kmax k) with
    | false => rfl
    | true =>
      have := Nat.le_of_ble_eq_true h
      simp only [cond_true]
      rw [wrap_in]
      · cases k <;> simp only [IntKind.signed, IntKind.bits, if_true, if_false, Bool.false_eq_true] <;> show _ ≤ (m : Int) <;> omega
      · cases k <;> simp only [kmax] at this <;> simp only [IntKind.signed, IntKind.bits, if_true, if_false, Bool.false_eq_true] <;> show (m : Int) < _ <;> omega
  | negSucc m =>
    simp only []
    cases h : k.signed && Nat.ble m (kmax k) with
    | false => rfl
    | true =>
      rw [Bool.and_eq_true] at h
      have := Nat.le_of_ble_eq_true h.2
      have hs := h.1
      simp only [cond_true]
      rw [wrap_in]
      · cases k <;> simp only [IntKind.signed, Bool.false_eq_true] at hs <;> simp only [kmax] at this <;> simp only [IntKind.signed, IntKind.bits, if_true] <;> omega
      · cases k <;> simp only [IntKind.signed, Bool.false_eq_true] at hs <;> simp only [IntKind.signed, IntKind.bits, if_true] <;> omega
theorem byteArray_toList (b : ByteArray) : b.toList = b.data.toList := by
  have key : ∀ (n i : Nat) (r : List UInt8), b.size - i = n → ByteArray.toList.loop b i r = r.reverse ++ b.data.toList.drop i := by
    intro n
    induction n with
    | zero =>
      intro i r h
      rw [ByteArray.toList.loop, if_neg (by omega), List.drop_eq_nil_of_le (by show b.data.toList.length ≤ i; simp; have : b.size = b.data.size := rfl; omega)]
      simp
    | succ n ih =>
      intro i r h
      have hi : i < b.size := by omega
      have hi' : i < b.data.toList.length := by simpa using hi
      rw [ByteArray.toList.loop, if_pos hi, ih (i + 1) _ (by omega), List.drop_eq_getElem_cons hi']
      have hg : b.get! i = b.data.toList[i] := by
        show b.data[i]! = _
        have h2 : i < b.data.size := hi
        rw [getElem!_pos b.data i h2]; simp
      simp [hg]
  have := key b.size 0 [] (by omega)
  simpa [ByteArray.toList] using this
theorem intBin_sound {op : BinOp} {k : IntKind} {a b : Int} {v : V} (t : TypeId) (h : intBin op k a b = some v) (w : World) :
    ∃ x, (Go.binOp op t (.int k a) (.int k b)).run P w = .ok x w ∧ VRel w0 ρ v x := by
  cases op <;> simp only [intBin, wrapA_eq] at h <;> try (simp at h; done)
  case quo =>
    split at h
    · simp at h
    · rename_i hb; simp at h; subst h; exact ⟨_, by simp [Go.binOp, Op.intDiv, hb], .int _ _⟩
  case rem =>
    split at h
    · simp at h
    · rename_i hb; simp at h; subst h; exact ⟨_, by simp [Go.binOp, Op.intDiv, hb], .int _ _⟩
  all_goals (simp only [Option.some.injEq] at h; subst h; refine ⟨_, ?_, by first | exact .int _ _ | exact .bool _⟩; simp only [Go.binOp, ne_eq, not_true_eq_false, if_false]; rfl)
theorem shiftV_sound {op : BinOp} {k j : IntKind} {a b : Int} {v : V} (t : TypeId) (ho : op = .shl ∨ op = .shr) (h : shiftV op k a b = some v) (w : World) :
    ∃ x, (Go.binOp op t (.int k a) (.int j b)).run P w = .ok x w ∧ VRel w0 ρ v x := by
  rcases ho with rfl | rfl <;> simp only [shiftV, wrapA_eq] at h <;> split at h <;> simp only [reduceCtorEq, Option.some.injEq] at h <;> rename_i hb <;> subst h
  · exact ⟨_, by simp only [Go.binOp, Op.shift, hb, if_false, Sem.run_pure], .int _ _⟩
  · exact ⟨_, by simp only [Go.binOp, Op.shift, hb, if_false, Sem.run_pure], .int _ _⟩
theorem strBin_sound {op : BinOp} {a b : List UInt8} {x y : ByteArray} {v : V} (hx : x.data.toList = a) (hy : y.data.toList = b) (h : strBin op a b = some v) (w : World) :
    ∃ z, (Op.stringOp op x y).run P w = .ok z w ∧ VRel w0 ρ v z := by
  have ex : x.toList = a := (byteArray_toList x).trans hx
  have ey : y.toList = b := (byteArray_toList y).trans hy
  have sx : x.size = a.length := by rw [← hx]; simp
  have sy : y.size = b.length := by rw [← hy]; simp
  cases op <;> simp only [strBin] at h <;> try (simp at h; done)
  case add =>
    cases hb : Nat.ble (a.length + b.length) big with
    | false => simp [hb] at h
    | true =>
      have hb' := Nat.le_of_ble_eq_true hb
      simp only [hb, cond_true, Option.some.injEq] at h; subst h
      refine ⟨.string (x ++ y), ?_, .str (by rw [← hx, ← hy]; simp)⟩
      have : ¬ ((x.size + y.size : Nat) : Int) > IntKind.i64.max := by
        rw [sx, sy]; unfold big at hb'; simp [IntKind.max, IntKind.bits]; omega
      simp only [Op.stringOp]
      rw [if_neg this]; rfl
  all_goals (simp only [Option.some.injEq] at h; subst h; refine ⟨_, ?_, .bool _⟩; simp only [Op.stringOp, ex, ey]; rfl)
theorem VRel.bool_inv {b : Bool} {x : Value} (h : VRel w0 ρ (.bool b) x) : x = .bool b := by cases h; rfl
theorem VRel.str_inv {l : List UInt8} {x : Value} (h : VRel w0 ρ (.str l) x) : ∃ s, x = .string s ∧ s.data.toList = l := by cases h; exact ⟨_, rfl, by assumption⟩
def KindOK (P : Program) (t : TypeId) : EqK → Prop
  | .bool => P.underlying t = some .bool
  | .int => ∃ j, P.underlying t = some (.int j)
  | .str => P.underlying t = some .string
  | _ => False
theorem plainEq_inv {k : EqK} {a b : V} {r : Bool} (h : plainEq k a b = some r) :
    (∃ x y, k = .bool ∧ a = .bool x ∧ b = .bool y ∧ r = (x == y)) ∨ (∃ j x y, k = .int ∧ a = .int j x ∧ b = .int j y ∧ r = (x == y)) ∨ (∃ x y, k = .str ∧ a = .str x ∧ b = .str y ∧ r = (x == y)) := by
  unfold plainEq at h
  split at h
  · simp only [Option.some.injEq] at h; exact .inl ⟨_, _, rfl, rfl, rfl, h.symm⟩
  · split at h
    · rename_i hjk
      simp only [Option.some.injEq] at h; subst hjk; exact .inr (.inl ⟨_, _, _, rfl, rfl, rfl, h.symm⟩)
    · simp at h
  · simp only [Option.some.injEq] at h; exact .inr (.inr ⟨_, _, rfl, rfl, rfl, h.symm⟩)
  · simp at h
theorem plainEq_sound {k : EqK} {a b : V} {x y : Value} {r : Bool} (h : plainEq k a b = some r) (hx : VRel w0 ρ a x) (hy : VRel w0 ρ b y) {t : TypeId}
    (ht : KindOK P t k) (d : Nat) (w : World) : (Op.equalIn (d + 1) t x y).run P w = .ok r w := by
  rcases plainEq_inv h with ⟨p, q, rfl, rfl, rfl, rfl⟩ | ⟨j, p, q, rfl, rfl, rfl, rfl⟩ | ⟨p, q, rfl, rfl, rfl, rfl⟩
  · rw [hx.bool_inv, hy.bool_inv]
    exact run_equalIn_bool' w d t _ _ ht
  · rw [hx.int_inv, hy.int_inv]
    obtain ⟨j', hj'⟩ := ht
    exact run_equalIn_int w d t _ _ _ _ hj'
  · obtain ⟨p, rfl, hp⟩ := hx.str_inv
    obtain ⟨q, rfl, hq⟩ := hy.str_inv
    rw [run_equalIn_string w d t _ _ ht, byteArray_toList, byteArray_toList, hp, hq]
theorem flatK_cons {f : Field} {fs : List Field} {ks : List (Nat × EqK)} (h : flatK P (f :: fs) = some ks) :
    ∃ k r, ks = (f.offset, k) :: r ∧ flatK P fs = some r ∧ f.name ≠ "_" ∧ (∃ d, P.underlying f.type = some d ∧ aggD d = false) ∧ KindOK P f.type k := by
  simp only [flatK] at h
  cases hn : f.name == "_" with
  | true => simp [hn] at h
  | false =>
    have hn' : f.name ≠ "_" := by simpa using hn
    simp only [hn, cond_false] at h
    cases hr : flatK P fs with
    | none => rw [hr] at h; split at h <;> simp_all
    | some r =>
      rw [hr] at h
      split at h <;> simp only [Option.some.injEq, reduceCtorEq] at h
      · rename_i hu he; cases he; exact ⟨.bool, r, h.symm, rfl, hn', ⟨_, hu, rfl⟩, hu⟩
      · rename_i j hu he; cases he; exact ⟨.int, r, h.symm, rfl, hn', ⟨_, hu, rfl⟩, ⟨_, hu⟩⟩
      · rename_i hu he; cases he; exact ⟨.str, r, h.symm, rfl, hn', ⟨_, hu, rfl⟩, hu⟩
theorem run_part_one {t : TypeId} {d : TypeDesc} (hu : P.underlying t = some d) (hd : aggD d = false) {cs : Array Value} {off : Nat} {x : Value}
    (hx : cs[off]? = some x) (w : World) : (part t cs off).run P w = .ok x w := by
  have hagg : (isAgg t).run P w = .ok false w := by
    unfold isAgg
    rw [Sem.run_bind, run_underlying hu w]
    cases d <;> simp_all [aggD]
  simp [part, hagg, hx]
theorem flatEq_sound {xs' ys' : Array Value} {xs ys : List V} (hx : LRel w0 ρ xs xs'.toList) (hy : LRel w0 ρ ys ys'.toList) (d : Nat) (w : World) :
    ∀ {fs : List Field} {ks : List (Nat × EqK)} {r : Bool}, flatK P fs = some ks → flatEq ks xs ys = some r → (Op.eqFields (d + 1) xs' ys' fs).run P w = .ok r w := by
  intro fs
  induction fs with
  | nil =>
    intro ks r h h'
    simp [flatK] at h; subst h
    simp [flatEq] at h'; subst h'
    simp [Op.eqFields]
  | cons f fs ih =>
    intro ks r h h'
    obtain ⟨k, rest, rfl, hr, hn, ⟨dd, hu, hdd⟩, hk⟩ := flatK_cons h
    simp only [flatEq] at h'
    cases ha : xs[f.offset]? with
    | none => simp [ha] at h'
    | some a =>
      cases hb : ys[f.offset]? with
      | none => simp [ha, hb] at h'
      | some b =>
        simp only [ha, hb] at h'
        obtain ⟨x, hx1, hx2⟩ := hx.get ha
        obtain ⟨y, hy1, hy2⟩ := hy.get hb
        have px := run_part_one (P := P) hu hdd (cs := xs') (off := f.offset) (x := x) (by simpa using hx1) w
        have py := run_part_one (P := P) hu hdd (cs := ys') (off := f.offset) (x := y) (by simpa using hy1) w
        cases he : plainEq k a b with
        | none => simp [he] at h'
        | some q =>
          have hq := plainEq_sound he hx2 hy2 hk d w
          simp only [Op.eqFields, if_pos hn, Sem.run_bind, px, py, hq, Result.andThen_ok]
          cases q with
          | true => simp only [he] at h'; simpa using ih hr h'
          | false => simp [he] at h'; subst h'; simp
def EqOK (P : Program) (t : TypeId) (x y : Operand) : EqK → Prop
  | .bool => P.underlying t = some .bool
  | .int => ∃ j, P.underlying t = some (.int j)
  | .str => P.underlying t = some .string
  | .nilp => ∃ el, P.underlying t = some (.pointer el)
  | .nils => ∃ el, P.underlying t = some (.slice el)
  | .nilm => ∃ a b, P.underlying t = some (.map a b)
  | .nilf => ∃ a b c, P.underlying t = some (.func a b c)
  | .iface g => (∃ ms, P.underlying t = some (.interface ms)) ∧ g = !(isConstOperand x || isConstOperand y)
  | .flat ks => ∃ fs, P.underlying t = some (.struct fs) ∧ flatK P fs.toList = some ks ∧ P.stoodInHeld t = false ∧ P.eqGuardType P.depth t = false
  | .no => True
theorem eqK_ok (op : BinOp) (t : TypeId) (x y : Operand) : EqOK P t x y (eqK P op t x y) := by
  have key : EqOK P t x y (eqK P .eql t x y) := by
    simp only [eqK]
    split
    · assumption
    · exact ⟨_, by assumption⟩
    · assumption
    · exact ⟨_, by assumption⟩
    · exact ⟨_, by assumption⟩
    · exact ⟨_, _, by assumption⟩
    · exact ⟨_, _, _, by assumption⟩
    · exact ⟨⟨_, by assumption⟩, rfl⟩
    · rename_i fs hu
      split
      · rename_i ks hks
        cases hs : P.stoodInHeld t with
        | true => simp [EqOK]
        | false =>
          cases hg : P.eqGuardType P.depth t with
          | true => simp [EqOK]
          | false => exact ⟨fs, hu, hks, hs, hg⟩
      · trivial
    · trivial
  cases op <;> first | exact key | trivial
theorem eq_nilp {t el : TypeId} (h : P.underlying t = some (.pointer el)) (d : Nat) (w : World) (a : Addr) :
    (Op.equalIn (d + 1) t (.pointer none) (.pointer none)).run P w = .ok true w ∧ (Op.equalIn (d + 1) t (.pointer none) (.pointer (some a))).run P w = .ok false w ∧
    (Op.equalIn (d + 1) t (.pointer (some a)) (.pointer none)).run P w = .ok false w := by
  refine ⟨?_, ?_, ?_⟩ <;> (unfold Op.equalIn; rw [Sem.run_bind, run_underlying h]; rfl)
theorem eq_nils {t el : TypeId} (h : P.underlying t = some (.slice el)) (d : Nat) (w : World) (a : Addr) (l c : Nat) :
    (Op.equalIn (d + 1) t (.slice none 0 0) (.slice none 0 0)).run P w = .ok true w ∧ (Op.equalIn (d + 1) t (.slice none 0 0) (.slice (some a) l c)).run P w = .ok false w ∧
    (Op.equalIn (d + 1) t (.slice (some a) l c) (.slice none 0 0)).run P w = .ok false w := by
  refine ⟨?_, ?_, ?_⟩ <;> (unfold Op.equalIn; rw [Sem.run_bind, run_underlying h]; rfl)
theorem eq_nilm {t k el : TypeId} (h : P.underlying t = some (.map k el)) (d : Nat) (w : World) (a : Nat) :
    (Op.equalIn (d + 1) t (.map none) (.map none)).run P w = .ok true w ∧ (Op.equalIn (d + 1) t (.map none) (.map (some a))).run P w = .ok false w ∧
    (Op.equalIn (d + 1) t (.map (some a)) (.map none)).run P w = .ok false w := by
  refine ⟨?_, ?_, ?_⟩ <;> (unfold Op.equalIn; rw [Sem.run_bind, run_underlying h]; rfl)
theorem eq_nilf {t : TypeId} {p q : Array TypeId} {b : Bool} (h : P.underlying t = some (.func p q b)) (d : Nat) (w : World) (f : Fn) (x y : Array Value) :
    (Op.equalIn (d + 1) t .nilFunc .nilFunc).run P w = .ok true w ∧ (Op.equalIn (d + 1) t .nilFunc (.func f x y)).run P w = .ok false w ∧
    (Op.equalIn (d + 1) t (.func f x y) .nilFunc).run P w = .ok false w := by
  refine ⟨?_, ?_, ?_⟩ <;> (unfold Op.equalIn; rw [Sem.run_bind, run_underlying h]; rfl)
theorem eq_nili {t : TypeId} {ms : Array (String × TypeId)} (h : P.underlying t = some (.interface ms)) (d : Nat) (w : World) (u : TypeId) (x : Value) :
    (Op.equalIn (d + 1) t .nilIface .nilIface).run P w = .ok true w ∧ (Op.equalIn (d + 1) t .nilIface (.iface u x)).run P w = .ok false w ∧
    (Op.equalIn (d + 1) t (.iface u x) .nilIface).run P w = .ok false w := by
  refine ⟨?_, ?_, ?_⟩ <;> (unfold Op.equalIn; rw [Sem.run_bind, run_underlying h]; rfl)
def unguarded : Value → Value → Bool
  | .nilIface, .nilIface => false
  | .agg _, .agg _ => false
  | _, _ => true
theorem run_unguarded {op : BinOp} {t : TypeId} {x y : Operand} {u v : Value} (h : unguarded u v = true) (w : World) : (eqGuard op t x y u v).run P w = .ok () w := by
  cases op <;> first
    | rfl
    | (unfold eqGuard
       simp only [Bool.not_true, Bool.false_eq_true, if_false]
       split <;> first | (simp [unguarded] at h; done) | rfl)
theorem eqV_sound' (d : Nat) {op : BinOp} {ek : EqK} {t : TypeId} {x y : Operand} {a b : V} {r : Bool} {u v : Value} (hk : EqOK P t x y ek) (h : eqV ek a b = some r) (hu : VRel w0 ρ a u) (hv : VRel w0 ρ b v) (w : World) :
    (Op.equalIn (d + 2) t u v).run P w = .ok r w ∧ (eqGuard op t x y u v).run P w = .ok () w := by
  unfold eqV at h
  split at h
  · simp only [Option.some.injEq] at h; subst h; rw [hu.bool_inv, hv.bool_inv]
    exact ⟨run_equalIn_bool' w _ t _ _ hk, run_unguarded rfl w⟩
  · simp only [Option.some.injEq] at h; subst h; obtain ⟨el, hk⟩ := hk; cases hu; cases hv; exact ⟨(eq_nilp hk _ w ⟨0, 0, none⟩).1, run_unguarded rfl w⟩
  · simp only [Option.some.injEq] at h; subst h; obtain ⟨el, hk⟩ := hk; cases hu; cases hv; exact ⟨(eq_nilp hk _ w _).2.1, run_unguarded rfl w⟩
  · simp only [Option.some.injEq] at h; subst h; obtain ⟨el, hk⟩ := hk; cases hu; cases hv; exact ⟨(eq_nilp hk _ w _).2.1, run_unguarded rfl w⟩
  · simp only [Option.some.injEq] at h; subst h; obtain ⟨el, hk⟩ := hk; cases hu; cases hv; exact ⟨(eq_nilp hk _ w _).2.2, run_unguarded rfl w⟩
  · simp only [Option.some.injEq] at h; subst h; obtain ⟨el, hk⟩ := hk; cases hu; cases hv; exact ⟨(eq_nilp hk _ w _).2.2, run_unguarded rfl w⟩
  · simp only [Option.some.injEq] at h; subst h; obtain ⟨el, hk⟩ := hk; cases hu; cases hv; exact ⟨(eq_nils hk _ w ⟨0, 0, none⟩ 0 0).1, run_unguarded rfl w⟩
  · simp only [Option.some.injEq] at h; subst h; obtain ⟨el, hk⟩ := hk; cases hu; cases hv; exact ⟨(eq_nils hk _ w _ _ _).2.1, run_unguarded rfl w⟩
  · simp only [Option.some.injEq] at h; subst h; obtain ⟨el, hk⟩ := hk; cases hu; cases hv; exact ⟨(eq_nils hk _ w _ _ _).2.1, run_unguarded rfl w⟩
  · simp only [Option.some.injEq] at h; subst h; obtain ⟨el, hk⟩ := hk; cases hu; cases hv; exact ⟨(eq_nils hk _ w _ _ _).2.1, run_unguarded rfl w⟩
  · simp only [Option.some.injEq] at h; subst h; obtain ⟨el, hk⟩ := hk; cases hu; cases hv; exact ⟨(eq_nils hk _ w _ _ _).2.2, run_unguarded rfl w⟩
  · simp only [Option.some.injEq] at h; subst h; obtain ⟨el, hk⟩ := hk; cases hu; cases hv; exact ⟨(eq_nils hk _ w _ _ _).2.2, run_unguarded rfl w⟩
  · simp only [Option.some.injEq] at h; subst h; obtain ⟨el, hk⟩ := hk; cases hu; cases hv; exact ⟨(eq_nils hk _ w _ _ _).2.2, run_unguarded rfl w⟩
  · simp only [Option.some.injEq] at h; subst h; obtain ⟨k, el, hk⟩ := hk; cases hu; cases hv; exact ⟨(eq_nilm hk _ w 0).1, run_unguarded rfl w⟩
  · simp only [Option.some.injEq] at h; subst h; obtain ⟨k, el, hk⟩ := hk; cases hu; cases hv; exact ⟨(eq_nilm hk _ w _).2.1, run_unguarded rfl w⟩
  · simp only [Option.some.injEq] at h; subst h; obtain ⟨k, el, hk⟩ := hk; cases hu; cases hv; exact ⟨(eq_nilm hk _ w _).2.2, run_unguarded rfl w⟩
  · simp only [Option.some.injEq] at h; subst h; obtain ⟨p, q, bb, hk⟩ := hk; cases hu; cases hv; exact ⟨(eq_nilf hk _ w (.func 0) #[] #[]).1, run_unguarded rfl w⟩
  · simp only [Option.some.injEq] at h; subst h; obtain ⟨p, q, bb, hk⟩ := hk; cases hu; cases hv; exact ⟨(eq_nilf hk _ w _ _ _).2.1, run_unguarded rfl w⟩
  · simp only [Option.some.injEq] at h; subst h; obtain ⟨p, q, bb, hk⟩ := hk; cases hu; cases hv; exact ⟨(eq_nilf hk _ w _ _ _).2.2, run_unguarded rfl w⟩
  · obtain ⟨⟨ms, hk⟩, hg⟩ := hk
    simp only [Option.some.injEq] at h; subst h; cases hu; cases hv
    refine ⟨(eq_nili hk _ w 0 .nilFunc).1, ?_⟩
    have hg' : isConstOperand x = true ∨ isConstOperand y = true := by
      cases hx : isConstOperand x
      · rw [hx] at hg; right; simpa using hg.symm
      · exact .inl rfl
    cases op <;> first
      | rfl
      | (unfold eqGuard
         simp only [Bool.not_true, Bool.false_eq_true, if_false]
         rw [if_pos]
         · rfl
         · rcases hg' with hg' | hg'
           · cases x <;> simp [isConstOperand] at hg' ⊢
           · cases y <;> simp [isConstOperand] at hg' ⊢)
  · obtain ⟨⟨ms, hk⟩, hg⟩ := hk
    simp only [Option.some.injEq] at h; subst h; cases hu; cases hv
    exact ⟨(eq_nili hk _ w _ _).2.1, run_unguarded rfl w⟩
  · obtain ⟨⟨ms, hk⟩, hg⟩ := hk
    simp only [Option.some.injEq] at h; subst h; cases hu; cases hv
    exact ⟨(eq_nili hk _ w _ _).2.2, run_unguarded rfl w⟩
  · obtain ⟨fs, hk, hks, hs, hg⟩ := hk
    cases hu with
    | agg ha va =>
      cases hv with
      | agg hb vb =>
        refine ⟨?_, run_eqGuard_agg w op t x y _ _ hg⟩
        have hf : P.fieldsOf t = fs := by simp [Program.fieldsOf, hk]
        rw [run_equalIn_struct (P := P) w (d + 1) t _ _ (by rw [hf]; exact hk) hs, hf]
        exact flatEq_sound (LRel.of_array ha va) (LRel.of_array hb vb) d w hks h
  · simp at h
theorem eqV_sound {op : BinOp} {ek : EqK} {t : TypeId} {x y : Operand} {a b : V} {r : Bool} {u v : Value} (hk : EqOK P t x y ek) (h : eqV ek a b = some r) (hu : VRel w0 ρ a u) (hv : VRel w0 ρ b v) (w : World) :
    (Op.equal t u v).run P w = .ok r w ∧ (eqGuard op t x y u v).run P w = .ok () w := eqV_sound' 9998 hk h hu hv w
end
end Go.RE
namespace Go.RE
section
variable {P : Program} {w0 : World} {ρ : Ren} {s : St} {w : World} {env : PT V} {e : Operand → Value}
def Gives (P : Program) (w0 : World) (ρ : Ren) (w : World) (e : Operand → Value) (o : Oper) (v : V) : Prop := ∃ x, (execOp e o).run P w = .ok (.value x) w ∧ VRel w0 ρ v x
theorem gives_of {o : Oper} {v : V} {S : Sem Value} (he : execOp e o = (do pure (.value (← S)))) (h : ∃ x, S.run P w = .ok x w ∧ VRel w0 ρ v x) : Gives P w0 ρ w e o v := by
  obtain ⟨x, h1, h2⟩ := h
  exact ⟨x, by rw [he]; simp [h1], h2⟩
theorem opdO_bound {x : Option Operand} {x' : Option Opd} (h : opdO x = some x') {d most n : Nat} (hn : optNat env x' d most = some n) (H : ∀ y, x = some y → OpdOK w0 ρ env e y) :
    (x = none ∧ n = d) ∨ (∃ y v, x = some y ∧ asNat v most = some n ∧ VRel w0 ρ v (e y)) := by
  cases x with
  | none => simp [opdO] at h; subst h; simp [optNat] at hn; exact .inl ⟨rfl, hn.symm⟩
  | some y =>
    simp only [opdO] at h
    split at h
    · rename_i o ho
      simp at h; subst h
      simp only [optNat] at hn
      split at hn
      · rename_i v hv; exact .inr ⟨y, v, rfl, hn, H y rfl o v ho hv⟩
      · simp at hn
    · simp at h
theorem asNat_le {v : V} {most n : Nat} (h : asNat v most = some n) : n ≤ most := by
  obtain ⟨k, m, rfl, h1, h2, h3⟩ := asNat_inv h; omega
theorem run_sliceBounds_of {isSlice : Bool} {len cap cap' : Nat} {lo hi mx : Option Operand} {lo' hi' mx' : Option Opd} {l h m : Nat} (e1 : opdO lo = some lo') (e2 : opdO hi = some hi') (e3 : opdO mx = some mx')
    (hmx : mx.isSome = true → hi.isSome = true) (n3 : optNat env mx' cap cap = some m) (n2 : optNat env hi' len m = some h) (n1 : optNat env lo' 0 h = some l) (hcap : cap ≤ cap')
    (H1 : ∀ y, lo = some y → OpdOK w0 ρ env e y) (H2 : ∀ y, hi = some y → OpdOK w0 ρ env e y) (H3 : ∀ y, mx = some y → OpdOK w0 ρ env e y) (w : World) :
    (Instr.sliceBounds isSlice len cap' (lo.map e) (hi.map e) (mx.map e)).run P w = .ok (l, h, if mx.isSome then m else cap') w := by
  have up : ∀ {v : V} {a b n : Nat}, asNat v a = some n → a ≤ b → asNat v b = some n := fun {v a b n} hh hab => by
    obtain ⟨k, q, rfl, h1, h2, h3⟩ := asNat_inv hh
    simp only [asNat]; rw [if_pos ⟨h1, by omega⟩, h3]
  unfold Instr.sliceBounds
  rcases opdO_bound e3 n3 H3 with ⟨rfl, rfl⟩ | ⟨y3, v3, rfl, a3, r3⟩
  · rcases opdO_bound e2 n2 H2 with ⟨rfl, rfl⟩ | ⟨y2, v2, rfl, a2, r2⟩
    · rcases opdO_bound e1 n1 H1 with ⟨rfl, rfl⟩ | ⟨y1, v1, rfl, a1, r1⟩
      · simp
      · simp [run_sliceBound _ a1 r1]
    · rcases opdO_bound e1 n1 H1 with ⟨rfl, rfl⟩ | ⟨y1, v1, rfl, a1, r1⟩
      · simp [run_sliceBound _ (up a2 hcap) r2]
      · simp [run_sliceBound _ (up a2 hcap) r2, run_sliceBound _ a1 r1]
  · rcases opdO_bound e2 n2 H2 with ⟨rfl, rfl⟩ | ⟨y2, v2, rfl, a2, r2⟩
    · simp at hmx
    · rcases opdO_bound e1 n1 H1 with ⟨rfl, rfl⟩ | ⟨y1, v1, rfl, a1, r1⟩
      · simp [run_sliceBound _ (up a3 hcap) r3, run_sliceBound _ a2 r2]
      · simp [run_sliceBound _ (up a3 hcap) r3, run_sliceBound _ a2 r2, run_sliceBound _ a1 r1]
theorem optNat_le {x : Option Opd} {d most n : Nat} (hd : d ≤ most) (h : optNat env x d most = some n) : n ≤ most := by
  cases x with
  | none => simp [optNat] at h; omega
  | some o =>
    simp only [optNat] at h
    split at h
    · exact asNat_le h
    · simp at h
theorem load_sound {t : TypeId} {n : Option Nat} {x : Operand} {o : Opd} {v : V} (hn : spread P t = some n) (ho : opd x = some o) (hv : evS env s (.load n o) = some v) (hR : Rel w0 ρ s w) (H : OpdOK w0 ρ env e x) :
    ∃ y, (Instr.loadAt t (e x)).run P w = .ok y w ∧ VRel w0 ρ v y := by
  simp only [evS] at hv
  split at hv
  · rename_i b off ho'
    have hx := H o _ ho ho'
    cases hs : s.row b with
    | none => simp [hs] at hv
    | some cs =>
      simp only [hs] at hv
      generalize e x = z at hx
      cases hx with
      | ptr hρ =>
        obtain ⟨y, h1, h2⟩ := run_loadVar_of (hR.cells hρ hs) hn hv
        exact ⟨y, by simp [Instr.loadAt, Instr.sureAddr, h1], h2⟩
  · rename_i row off ho'
    have hx := H o _ ho ho'
    generalize e x = z at hx
    cases hx with
    | cptr c hr hc hcv =>
      obtain ⟨y, h1, h2⟩ := run_loadVar_of (P := P) (hR.ccells hr hc hcv) hn hv
      exact ⟨y, by simp [Instr.loadAt, Instr.sureAddr, h1], h2⟩
  · simp at hv
theorem spl_size (cs : List V) (off : Nat) (vs : List V) (h : off + vs.length ≤ cs.length) : (spl cs off vs).length = cs.length := by
  simp [spl]; omega
theorem LRel.of_get {a : List V} {b : List Value} (hl : a.length = b.length) (h : ∀ (i : Nat) v, a[i]? = some v → ∃ x, b[i]? = some x ∧ VRel w0 ρ v x) : LRel w0 ρ a b :=
  ⟨hl, fun i h1 h2 => by
    obtain ⟨x, hx, hr⟩ := h i a[i] (List.getElem?_eq_getElem h1)
    rw [List.getElem?_eq_getElem h2] at hx
    simp at hx; rw [hx]; exact hr⟩
theorem spl_get (cs : List V) (off : Nat) (vs : List V) (h : off + vs.length ≤ cs.length) (j : Nat) :
    (spl cs off vs)[j]? = if j < off then cs[j]? else if j < off + vs.length then vs[j - off]? else cs[j]? := by
  unfold spl
  by_cases h1 : j < off
  · rw [if_pos h1, List.append_assoc, List.getElem?_append_left (by simp; omega), List.getElem?_take, if_pos h1]
  · rw [if_neg h1]
    by_cases h2 : j < off + vs.length
    · rw [if_pos h2, List.getElem?_append_left (by simp; omega), List.getElem?_append_right (by simp; omega)]
      simp [show min off cs.length = off from by omega]
    · rw [if_neg h2, List.getElem?_append_right (by simp; omega), List.getElem?_drop]
      congr 1
      simp; omega
theorem foldl_set (o : Nat) : ∀ (l : List Value) (k : Nat) (A : Array Value), ∃ B : Array Value, (l.zipIdx k).foldl (fun cs (c, j) => cs.setIfInBounds (o + j) c) A = B ∧ B.size = A.size ∧
    ∀ j, B[j]? = if o + k ≤ j ∧ j < o + k + l.length ∧ j < A.size then l[j - (o + k)]? else A[j]? := by
  intro l
  induction l with
  | nil => intro k A; exact ⟨A, rfl, rfl, fun j => by rw [if_neg (by simp; omega)]⟩
  | cons c l ih =>
    intro k A
    obtain ⟨B, h1, h2, h3⟩ := ih (k + 1) (A.setIfInBounds (o + k) c)
    refine ⟨B, by simpa [List.zipIdx_cons] using h1, by simpa using h2, fun j => ?_⟩
    rw [h3, Array.getElem?_setIfInBounds]
    simp only [Array.size_setIfInBounds, List.length_cons]
    by_cases hj : o + (k + 1) ≤ j ∧ j < o + (k + 1) + l.length ∧ j < A.size
    · rw [if_pos hj, if_pos (by omega), show j - (o + k) = (j - (o + (k + 1))) + 1 from by omega]; simp
    · rw [if_neg hj]
      by_cases hk : o + k = j
      · subst hk
        by_cases hs : o + k < A.size
        · rw [if_pos rfl, if_pos hs, if_pos (by omega)]; simp
        · rw [if_pos rfl, if_neg hs, if_neg (by omega), Array.getElem?_eq_none (by omega)]
      · rw [if_neg hk, if_neg (by omega)]
theorem fill_sound {place : Nat → Option (Nat × Nat)} : ∀ {parts : List (Nat × Operand)} {parts' : List (Nat × Nat × Opd)} {cells : List V} {cells' : Array Value} {out : List V},
    partsBy place parts = some parts' → fillV env cells parts' = some out → LRel w0 ρ cells cells'.toList → (∀ p ∈ parts, OpdOK w0 ρ env e p.2) →
    ∃ out' : Array Value, Instr.fill place cells' (parts.map fun p => (p.1, e p.2)) = some out' ∧ LRel w0 ρ out out'.toList := by
  intro parts
  induction parts with
  | nil =>
    intro parts' cells cells' out h h' hr _
    simp [partsBy] at h; subst h
    simp [fillV] at h'; subst h'
    exact ⟨cells', rfl, hr⟩
  | cons p parts ih =>
    intro parts' cells cells' out h h' hr H
    obtain ⟨i, x⟩ := p
    simp only [partsBy] at h
    cases hp : place i with
    | none => simp [hp] at h
    | some on =>
      obtain ⟨o, n⟩ := on
      cases hx : opd x with
      | none => simp [hp, hx] at h
      | some xo =>
        cases hq : partsBy place parts with
        | none => simp [hp, hx, hq] at h
        | some rest =>
          simp [hp, hx, hq] at h; subst h
          simp only [fillV] at h'
          cases hv : xo.ev env with
          | none => simp [hv] at h'
          | some v =>
            simp only [hv] at h'
            cases hb : (Nat.beq v.cells.length n && Nat.ble (o + v.cells.length) cells.length) with
            | false => simp [hb] at h'
            | true =>
              simp only [hb, cond_true] at h'
              simp only [Bool.and_eq_true] at hb
              have b1 : v.cells.length = n := Nat.eq_of_beq_eq_true hb.1
              have b2 := Nat.le_of_ble_eq_true hb.2
              have hvr := (H (i, x) (by simp) xo v hx hv).cells
              have e1 : (e x).cells.size = n := by rw [← b1, hvr.1]; simp
              have e2 : cells'.size = cells.length := by have := hr.1; simp at this; omega
              obtain ⟨B, h1, h2, h3⟩ := foldl_set o (e x).cells.toList 0 cells'
              have hB : (e x).cells.zipIdx.foldl (fun cs (c, j) => cs.setIfInBounds (o + j) c) cells' = B := by
                rw [← h1, ← Array.foldl_toList]; simp
              have hl := hvr.1
              simp only [Array.length_toList] at hl
              have hnew : LRel w0 ρ (spl cells o v.cells) B.toList := LRel.of_get (by rw [spl_size _ _ _ b2]; simp [h2, e2]) fun j u hu => by
                rw [spl_get _ _ _ b2] at hu
                rw [Array.getElem?_toList, h3]
                simp only [Nat.add_zero, Array.length_toList]
                by_cases c1 : j < o
                · rw [if_pos c1] at hu; rw [if_neg (by omega)]; simpa using hr.get hu
                · rw [if_neg c1] at hu
                  by_cases c2 : j < o + v.cells.length
                  · rw [if_pos c2] at hu; rw [if_pos (by omega)]; exact hvr.get hu
                  · rw [if_neg c2] at hu; rw [if_neg (by omega)]; simpa using hr.get hu
              obtain ⟨out', g1, g2⟩ := ih hq h' hnew fun p hp => H p (by simp [hp])
              refine ⟨out', ?_, g2⟩
              simp only [List.map_cons, Instr.fill, hp]
              rw [if_neg]
              · rw [hB]; exact g1
              · simp; omega
theorem places_get : ∀ {fs : List Field} {ps : List (Nat × Nat)}, places P fs = some ps → ∀ w : World, (fs.mapM (m := Sem) fun (f : Field) => Prod.mk f.offset <$> sizeOf f.type).run P w = .ok ps w := by
  intro fs
  induction fs with
  | nil => intro ps h w; simp [places] at h; subst h; simp
  | cons f fs ih =>
    intro ps h w
    simp only [places] at h
    cases h1 : sizeO P f.type with
    | none => simp [h1] at h
    | some n =>
      cases h2 : places P fs with
      | none => simp [h1, h2] at h
      | some r => simp [h1, h2] at h; subst h; simp [List.mapM_cons, run_sizeO h1, ih h2]
theorem build_sound {t : TypeId} {parts : List (Nat × Operand)} {fs : Array Field} {z : V} {ps : List (Nat × Nat)} {l : List (Nat × Nat × Opd)} {out : List V}
    (hu : P.underlying t = some (.struct fs)) (hz : zeroOf P t = some z) (hp : places P fs.toList = some ps) (hl : partsBy (fun i => ps[i]?) parts = some l) (hf : fillV env z.cells l = some out)
    (H : ∀ p ∈ parts, OpdOK w0 ρ env e p.2) (w : World) : ∃ x, (Instr.build t (parts.toArray.map fun p => (p.1, e p.2))).run P w = .ok x w ∧ VRel w0 ρ (.agg out) x := by
  obtain ⟨zx, hzr, hzv⟩ := run_zeroOf hz
  obtain ⟨out', h1, h2⟩ := fill_sound (cells' := zx.cells) hl hf (hzv w0 ρ).cells H
  refine ⟨.agg out', ?_, by simpa using VRel.agg_of h2⟩
  have hm : (fs.mapM (m := Sem) fun (f : Field) => do pure (f.offset, ← sizeOf f.type)).run P w = .ok ps.toArray w := by
    rw [show (fun (f : Field) => (do pure (f.offset, ← sizeOf f.type) : Sem (Nat × Nat))) = (fun (f : Field) => Prod.mk f.offset <$> sizeOf f.type) from by funext f; simp, Array.mapM_eq_mapM_toList]
    simp [places_get hp w]
  unfold Instr.build
  simp only [Sem.run_bind, hzr, Result.andThen_ok, run_underlying hu, hm]
  have hfill : Instr.fill (fun x => ps.toArray[x]?) zx.cells (parts.toArray.map fun p => (p.1, e p.2)).toList = some out' := by
    simpa using h1
  simp only [hfill]
  rfl
theorem bytesOf_sound : ∀ {cs : List V} {bs : List UInt8} {xs : List Value}, bytesOf cs = some bs → LRel w0 ρ cs xs → ∃ ns : List Int, xs = ns.map (Value.int .u8) ∧ ns.map (fun n => UInt8.ofNat n.toNat) = bs := by
  intro cs
  induction cs with
  | nil => intro bs xs h hr; simp [bytesOf] at h; subst h; exact ⟨[], hr.inv_nil, rfl⟩
  | cons c cs ih =>
    intro bs xs h hr
    obtain ⟨x, xs', rfl, hx, hxs⟩ := hr.inv_cons
    cases c with
    | int k n =>
      cases k <;> simp only [bytesOf, reduceCtorEq] at h
      cases hb : bytesOf cs with
      | none => simp [hb] at h
      | some r =>
        simp [hb] at h; subst h
        obtain ⟨ns, rfl, h2⟩ := ih hb hxs
        exact ⟨n :: ns, by rw [hx.int_inv]; rfl, by simp [h2]⟩
    | _ => simp [bytesOf] at h
theorem foldl_push (ns : List Int) : ∀ (b : ByteArray), (ns.foldl (fun r n => r.push (UInt8.ofNat n.toNat)) b).data.toList = b.data.toList ++ ns.map (fun n => UInt8.ofNat n.toNat) := by
  induction ns with
  | nil => intro b; simp
  | cons n ns ih => intro b; simp only [List.foldl_cons, ih, List.map_cons]; simp [ByteArray.push]
theorem sliceCells_sound {wd : Nat} {v : V} {x : Value} {cs : List V} (hv : sliceCells s wd v = some cs) (hR : Rel w0 ρ s w) (hx : VRel w0 ρ v x) :
    (x = .slice none 0 0 ∧ cs = []) ∨ ∃ a len cap xs, x = .slice (some a) len cap ∧ lenV v = some len ∧ xs.length = len * wd ∧ (∀ j u, xs[j]? = some u → w.cell? (a.add j) = some u) ∧ LRel w0 ρ cs xs := by
  unfold sliceCells at hv
  split at hv
  · simp at hv; subst hv; cases hx; exact .inl ⟨rfl, rfl⟩
  · simp at hv; subst hv; cases hx; exact .inr ⟨_, 0, 0, [], rfl, rfl, by simp, fun j u hj => by simp at hj, .nil⟩
  · rename_i b off len cap sz ex
    cases hs : s.row b with
    | none => simp [hs] at hv
    | some row =>
      simp only [hs] at hv
      cases hb : (Nat.beq sz wd && Nat.ble (off + len * sz) row.length) with
      | false => simp [hb] at hv
      | true =>
        simp only [hb, cond_true, Option.some.injEq] at hv; subst hv
        simp only [Bool.and_eq_true] at hb
        have b1 : sz = wd := Nat.eq_of_beq_eq_true hb.1
        have b2 := Nat.le_of_ble_eq_true hb.2
        subst b1
        cases hx with
        | slice hρ h1 h2 h3 h4 =>
          obtain ⟨xs, g1, g2, g3⟩ := (hR.cells hρ hs).list off (len * sz) b2
          rename_i r o lim a cap'
          refine .inr ⟨a, len, cap', xs, rfl, rfl, g1, fun j u hj => ?_, g3⟩
          rcases h4 with h4 | ⟨rfl, _⟩
          · have : len = 0 := by omega
            subst this
            have : xs = [] := List.eq_nil_of_length_eq_zero (by rw [g1]; simp)
            subst this; simp at hj
          · rw [addr_add]; exact g2 j u hj
  · rename_i row off len sz
    cases hb : (Nat.beq sz wd && Nat.ble (off + len * sz) row.length) with
    | false => simp [hb] at hv
    | true =>
      simp only [hb, cond_true, Option.some.injEq] at hv; subst hv
      simp only [Bool.and_eq_true] at hb
      have b1 : sz = wd := Nat.eq_of_beq_eq_true hb.1
      have b2 := Nat.le_of_ble_eq_true hb.2
      subst b1
      cases hx with
      | cslice c hr hc hcv h3 h4 =>
        obtain ⟨xs, g1, g2, g3⟩ := (hR.ccells hr hc hcv).list off (len * sz) b2
        rename_i r o a cap'
        refine .inr ⟨a, len, cap', xs, rfl, rfl, g1, fun j u hj => ?_, g3⟩
        rcases h4 with h4 | rfl
        · have : len = 0 := by omega
          subst this
          have : xs = [] := List.eq_nil_of_length_eq_zero (by rw [g1]; simp)
          subst this; simp at hj
        · rw [addr_add]; exact g2 j u hj
  · simp at hv
theorem toStr_sound {v : V} {x : Value} {cs : List V} {bs : List UInt8} (hv : sliceCells s 1 v = some cs) (hb : bytesOf cs = some bs) (hR : Rel w0 ρ s w) (hx : VRel w0 ρ v x) :
    ∃ y, (Conv.bytesToString x).run P w = .ok (.string y) w ∧ y.data.toList = bs := by
  rcases sliceCells_sound hv hR hx with ⟨rfl, rfl⟩ | ⟨a, len, cap, xs, rfl, _, g1, g2, g3⟩
  · simp [bytesOf] at hb; subst hb
    exact ⟨.empty, by simp [Conv.bytesToString], rfl⟩
  · obtain ⟨ns, rfl, h2⟩ := bytesOf_sound hb g3
    have hl : (loadCells a len).run P w = .ok (ns.map (Value.int .u8)).toArray w := by
      have := run_loadCells_list (P := P) w a (ns.map (Value.int .u8)) g2
      rwa [g1, Nat.mul_one] at this
    exact ⟨_, run_bytesToString w a len cap ns hl, by rw [foldl_push, h2]; rfl⟩
theorem findE_sound {kk : EqK} {k : V} {y : Value} {t : TypeId} (hk : KindOK P t kk) (hy : VRel w0 ρ k y) : ∀ {es : List ME} {es' : List MapEntry} {i : Nat} {r : Option (Nat × V)},
    findE kk k es i = some r → es.length = es'.length → (∀ j (h : j < es.length) (h' : j < es'.length), VRel w0 ρ es[j].key es'[j].key ∧ VRel w0 ρ es[j].val es'[j].val ∧ es[j].born = es'[j].born) →
    ∃ D r', P.underlying t = some D ∧ Instr.findNow D y es' i = some r' ∧ (match r, r' with | none, none => True | some (j, v), some (j', v') => j = j' ∧ VRel w0 ρ v v' ∧ i ≤ j ∧ ∃ h : j - i < es'.length, Instr.sameNow D y (es'[j - i]).key = some true | _, _ => False) := by
  have hD : ∃ D, P.underlying t = some D ∧ ∀ {a b : V} {x z : Value} {q : Bool}, plainEq kk a b = some q → VRel w0 ρ a x → VRel w0 ρ b z → Instr.sameNow D x z = some q := by
    cases kk <;> simp only [KindOK] at hk <;> try exact hk.elim
    · refine ⟨_, hk, fun {a b x z q} h hx hz => ?_⟩
      rcases plainEq_inv h with ⟨p, q, hh, rfl, rfl, rfl⟩ | ⟨j, p, q, hh, rfl, rfl, rfl⟩ | ⟨p, q, hh, rfl, rfl, rfl⟩ <;> try cases hh
      rw [hx.bool_inv, hz.bool_inv]; rfl
    · obtain ⟨j, hj⟩ := hk
      refine ⟨_, hj, fun {a b x z q} h hx hz => ?_⟩
      rcases plainEq_inv h with ⟨p, q, hh, rfl, rfl, rfl⟩ | ⟨j, p, q, hh, rfl, rfl, rfl⟩ | ⟨p, q, hh, rfl, rfl, rfl⟩ <;> try cases hh
      rw [hx.int_inv, hz.int_inv]; simp [Instr.sameNow]
    · refine ⟨_, hk, fun {a b x z q} h hx hz => ?_⟩
      rcases plainEq_inv h with ⟨p, q, hh, rfl, rfl, rfl⟩ | ⟨j, p, q, hh, rfl, rfl, rfl⟩ | ⟨p, q, hh, rfl, rfl, rfl⟩ <;> try cases hh
      obtain ⟨p', rfl, hp⟩ := hx.str_inv
      obtain ⟨q', rfl, hq⟩ := hz.str_inv
      simp only [Instr.sameNow]
      rw [beq_toListBytes, byteArray_toList, byteArray_toList, hp, hq]
  obtain ⟨D, hD1, hD2⟩ := hD
  intro es
  induction es with
  | nil =>
    intro es' i r h hl _
    have : es' = [] := List.eq_nil_of_length_eq_zero hl.symm
    subst this
    simp [findE] at h; subst h
    exact ⟨D, none, hD1, rfl, trivial⟩
  | cons m es ih =>
    intro es' i r h hl hes
    cases es' with
    | nil => simp at hl
    | cons m' es' =>
      have hm := hes 0 (by simp) (by simp)
      simp only [List.getElem_cons_zero] at hm
      simp only [findE] at h
      cases hp : plainEq kk k m.key with
      | none => simp [hp] at h
      | some q =>
        have hs := hD2 hp hy hm.1
        cases q with
        | true =>
          simp [hp] at h; subst h
          exact ⟨D, some (i, m'.val), hD1, by simp [Instr.findNow, hs], rfl, hm.2.1, Nat.le_refl _, by simp, by simpa using hs⟩
        | false =>
          simp only [hp] at h
          obtain ⟨D', r', e1, e2, e3⟩ := ih h (by simpa using hl) fun j h1 h2 => by
            have := hes (j + 1) (by simpa using h1) (by simpa using h2)
            simpa using this
          rw [hD1] at e1; cases e1
          refine ⟨D, r', hD1, by simp [Instr.findNow, hs, e2], ?_⟩
          cases r with
          | none => cases r' <;> simp_all
          | some jv =>
            obtain ⟨j, v⟩ := jv
            cases r' with
            | none => simp at e3
            | some jv' =>
              obtain ⟨j', v'⟩ := jv'
              obtain ⟨a1, a2, a3, a4, a5⟩ := e3
              refine ⟨a1, a2, by omega, by simp; omega, ?_⟩
              have : j - i = (j - (i + 1)) + 1 := by omega
              simp only [this, List.getElem_cons_succ]; exact a5
theorem checkKey_plain {kk : EqK} {k : V} {y : Value} {t : TypeId} (hk : KindOK P t kk) (hp : plainKey kk k = true) (hy : VRel w0 ρ k y) (b : Bool) (n : Nat) (w : World) : (Instr.checkKey b (n + 1) t y).run P w = .ok () w := by
  cases kk <;> simp only [KindOK] at hk <;> try exact hk.elim
  · cases k <;> simp [plainKey] at hp
    rw [hy.bool_inv]; simp [Instr.checkKey, run_underlying hk]
  · obtain ⟨j, hj⟩ := hk
    cases k <;> simp [plainKey] at hp
    rw [hy.int_inv]; simp [Instr.checkKey, run_underlying hj]
  · cases k <;> simp [plainKey] at hp
    obtain ⟨p, rfl, _⟩ := hy.str_inv
    simp [Instr.checkKey, run_underlying hk]
theorem basicKey_ok {t : TypeId} {kk : EqK} (h : basicKey P t = some kk) : KindOK P t kk := by
  unfold basicKey at h
  split at h <;> simp at h <;> subst h
  · assumption
  · exact ⟨_, by assumption⟩
  · assumption
theorem Rel.map_at (hR : Rel w0 ρ s w) {m r o lim : Nat} {es : List ME} {clock : Nat} (hρ : ρ m = some (r, o, lim)) (hs : s.get m = some (.map es clock)) :
    ∃ es', w.heap[r]? = some (.map es' clock) ∧ es.length = es'.size ∧ ∀ i (h : i < es.length) (h' : i < es'.size), VRel w0 ρ es[i].key es'[i].key ∧ VRel w0 ρ es[i].val es'[i].val ∧ es[i].born = es'[i].born := by
  have := hR.ob m r o lim hρ
  rw [hs] at this
  exact this
theorem run_getObj_map {r : Nat} {es' : Array MapEntry} {clock : Nat} (h : w.heap[r]? = some (.map es' clock)) : (getObj r).run P w = .ok (.map es' clock) w := by
  simp [getObj, Sem.run, h]
theorem lookup_sound {t kt et : TypeId} {kk : EqK} {z : V} {ok : Bool} {m k : V} {x y : Value} {v : V} (hu : P.underlying t = some (.map kt et)) (hz : zeroOf P et = some z) (hkk : basicKey P kt = some kk)
    (hR : Rel w0 ρ s w) (hm : VRel w0 ρ m x) (hk : VRel w0 ρ k y) (hv : lookupV s kk z ok m k = some v) :
    ∃ u, (Instr.lookup t x y ok).run P w = .ok u w ∧ VRel w0 ρ v u := by
  have hK := basicKey_ok hkk
  obtain ⟨zx, hzr, hzv⟩ := run_zeroOf hz
  simp only [lookupV] at hv
  have fin : ∀ {a : V} {a' : Value} (b : Bool), VRel w0 ρ a a' → VRel w0 ρ (if ok then .tup [a, .bool b] else a) (if ok then .tuple #[a', .bool b] else a') := fun {a a'} b ha => by
    cases ok
    · simpa using ha
    · simpa using VRel.tup_of (LRel.cons ha (LRel.cons (.bool b) .nil))
  split at hv
  · cases hp : plainKey kk k with
    | false => simp [hp] at hv
    | true =>
      simp [hp] at hv
      cases hm
      refine ⟨if ok then .tuple #[zx, .bool false] else zx, ?_, by rw [← hv]; exact fin false (hzv w0 ρ)⟩
      have hc := checkKey_plain (P := P) hK hp hk true 9999 w
      have hf : (Instr.findKey kt y []).run P w = .ok none w := by
        obtain ⟨D, r', e1, e2, e3⟩ := findE_sound (P := P) (es := []) (es' := []) (i := 0) hK hk rfl rfl (fun j h => by simp at h)
        simp [Instr.findKey, run_underlying e1, Instr.findNow]
      simp [Instr.lookup, run_underlying hu, hc, hf, hzr]
  · rename_i mm
    cases hs : s.get mm with
    | none => simp [hs] at hv
    | some ob =>
      cases ob <;> simp only [hs, reduceCtorEq] at hv
      rename_i es clock
      cases hp : plainKey kk k with
      | false => simp [hp] at hv
      | true =>
        simp only [hp, cond_true] at hv
        cases hm with
        | map hρ =>
          rename_i r o lim
          obtain ⟨es', g1, g2, g3⟩ := hR.map_at hρ hs
          have hc := checkKey_plain (P := P) hK hp hk es'.isEmpty 9999 w
          cases hf : findE kk k es 0 with
          | none => simp [hf] at hv
          | some res =>
            obtain ⟨D, r', e1, e2, e3⟩ := findE_sound (P := P) (es := es) (es' := es'.toList) (i := 0) hK hk hf (by simpa using g2) (fun j h h' => by simpa using g3 j h (by simpa using h'))
            have hfk : (Instr.findKey kt y es'.toList).run P w = .ok r' w := by simp [Instr.findKey, run_underlying e1, e2]
            simp only [hf] at hv
            cases res with
            | none =>
              cases r' with
              | some _ => simp at e3
              | none =>
                simp only [Option.some.injEq] at hv
                refine ⟨if ok then .tuple #[zx, .bool false] else zx, ?_, by rw [← hv]; exact fin false (hzv w0 ρ)⟩
                simp [Instr.lookup, run_underlying hu, run_getObj_map g1, hc, hfk, hzr]
            | some jv =>
              obtain ⟨j, u⟩ := jv
              cases r' with
              | none => simp at e3
              | some jv' =>
                obtain ⟨j', u'⟩ := jv'
                simp only [Option.some.injEq] at hv
                refine ⟨if ok then .tuple #[u', .bool true] else u', ?_, by rw [← hv]; exact fin true e3.2.1⟩
                simp [Instr.lookup, run_underlying hu, run_getObj_map g1, hc, hfk]
  · simp at hv
end
end Go.RE
namespace Go.RE
section
variable {P : Program} {w0 : World} {ρ : Ren} {s : St} {w : World} {env : PT V} {e : Operand → Value}
theorem binV_sound {op : BinOp} {t : TypeId} {x y : Operand} {a b v : V} {u z : Value} (h : binV op (eqK P op t x y) a b = some v) (hu : VRel w0 ρ a u) (hz : VRel w0 ρ b z) (w : World) :
    ∃ r, ((do eqGuard op t x y u z; Go.binOp op t u z) : Sem Value).run P w = .ok r w ∧ VRel w0 ρ v r := by
  have plain : unguarded u z = true → (∃ r, (Go.binOp op t u z).run P w = .ok r w ∧ VRel w0 ρ v r) → ∃ r, ((do eqGuard op t x y u z; Go.binOp op t u z) : Sem Value).run P w = .ok r w ∧ VRel w0 ρ v r :=
    fun hg ⟨r, h1, h2⟩ => ⟨r, by simp [run_unguarded hg, h1], h2⟩
  have cmp : ∀ (neg : Bool), op = (if neg then .neq else .eql) → (∀ k n, a ≠ .int k n) → (∀ l, a ≠ .str l) → (∃ r, eqV (eqK P op t x y) a b = some r ∧ V.bool (if neg then !r else r) = v) →
      ∃ r, ((do eqGuard op t x y u z; Go.binOp op t u z) : Sem Value).run P w = .ok r w ∧ VRel w0 ρ v r := fun neg hop ha1 ha2 hh => by
    obtain ⟨r, hq, rfl⟩ := hh
    · obtain ⟨g1, g2⟩ := eqV_sound (op := op) (eqK_ok (P := P) op t x y) hq hu hz w
      refine ⟨.bool (if neg then !r else r), ?_, .bool _⟩
      simp only [Sem.run_bind, g2, Result.andThen_ok]
      have hnum : ∀ (p q : Value), (∀ k n, p ≠ .int k n) → (∀ s, p ≠ .string s) → (∀ k n, p ≠ .float k n) → (∀ k n m, p ≠ .complex k n m) → (Go.binOp .eql t p q = do pure (.bool (← Op.equal t p q))) ∧ (Go.binOp .neq t p q = do pure (.bool (!(← Op.equal t p q)))) := fun p q n1 n2 n3 n4 => by
        cases p <;> first
          | exact absurd rfl (n1 _ _)
          | exact absurd rfl (n2 _)
          | exact absurd rfl (n3 _ _)
          | exact absurd rfl (n4 _ _ _)
          | exact ⟨rfl, rfl⟩
      have hp := hnum u z (by cases hu <;> simp at ha1 ⊢) (by cases hu <;> simp at ha2 ⊢) (by cases hu <;> simp) (by cases hu <;> simp)
      cases neg
      · simp only [Bool.false_eq_true, if_false] at hop ⊢; subst hop; rw [hp.1]; simp [g1]
      · simp only [if_true] at hop ⊢; subst hop; rw [hp.2]; simp [g1]
  unfold binV at h
  split at h
  · cases hu; cases hz; exact plain rfl (shiftV_sound t (.inl rfl) h w)
  · cases hu; cases hz; exact plain rfl (shiftV_sound t (.inr rfl) h w)
  · split at h
    · rename_i hkj; subst hkj; cases hu; cases hz; exact plain rfl (intBin_sound t h w)
    · simp at h
  · cases hu with
    | str hx =>
      cases hz with
      | str hy =>
        refine plain rfl ?_
        have : ∀ p q, Go.binOp op t (.string p) (.string q) = Op.stringOp op p q := fun p q => by cases op <;> rfl
        rw [this]; exact strBin_sound hx hy h w
  · rename_i h1 h2 h3 h4
    refine cmp false rfl ?_ ?_ (by
      cases hq : eqV (eqK P .eql t x y) a b with
      | none => rw [hq] at h; simp at h
      | some r => rw [hq] at h; exact ⟨r, rfl, by simpa using h⟩)
    · rintro k n rfl
      cases b <;> first
        | (simp [eqV] at h; done)
        | exact absurd rfl (h3 _ _ _ _ rfl)
        | (revert h; cases eqK P .eql t x y <;> simp [eqV])
    · rintro l rfl
      revert h; cases eqK P .eql t x y <;> simp [eqV]
  · rename_i h1 h2 h3 h4 h5
    refine cmp true rfl ?_ ?_ (by
      cases hq : eqV (eqK P .neq t x y) a b with
      | none => rw [hq] at h; simp at h
      | some r => rw [hq] at h; exact ⟨r, rfl, by simpa using h⟩)
    · rintro k n rfl
      revert h; cases eqK P .neq t x y <;> simp [eqV]
    · rintro l rfl
      revert h; cases eqK P .neq t x y <;> simp [eqV]
  · simp at h
theorem unV_sound {op : UnOp} {a v : V} {u : Value} (h : unV op a = some v) (hu : VRel w0 ρ a u) (w : World) : ∃ r, (Op.unary op u).run P w = .ok r w ∧ VRel w0 ρ v r := by
  unfold unV at h
  split at h
  · simp only [Option.some.injEq] at h; subst h; cases hu; exact ⟨_, rfl, by rw [wrapA_eq]; exact .int _ _⟩
  · simp only [Option.some.injEq] at h; subst h; cases hu; exact ⟨_, rfl, .bool _⟩
  · cases hu
    simp only [intBin, wrapA_eq, Option.some.injEq] at h; subst h
    exact ⟨_, rfl, .int _ _⟩
  · simp at h
theorem max2_sound {a b c : V} {x y : Value} (h : max2V a b = some c) (hx : VRel w0 ρ a x) (hy : VRel w0 ρ b y) (w : World) : ∃ z, (Builtin.max2 x y).run P w = .ok z w ∧ VRel w0 ρ c z := by
  unfold max2V at h
  split at h
  · split at h
    · simp only [Option.some.injEq] at h; subst h; cases hx; cases hy; exact ⟨_, rfl, .int _ _⟩
    · simp at h
  · simp only [Option.some.injEq] at h; subst h
    obtain ⟨p, rfl, hp⟩ := hx.str_inv
    obtain ⟨q, rfl, hq⟩ := hy.str_inv
    refine ⟨.string (if Op.bytesLess p.toList q.toList then q else p), ?_, ?_⟩
    · simp only [Builtin.max2, Op.stringOp, Sem.run_bind, Sem.run_pure, Result.andThen_ok, asBool]
      cases Op.bytesLess p.toList q.toList <;> simp
    · rw [byteArray_toList, byteArray_toList, hp, hq]
      split
      · exact .str hq
      · exact .str hp
  · simp at h
theorem min2_sound {a b c : V} {x y : Value} (h : min2V a b = some c) (hx : VRel w0 ρ a x) (hy : VRel w0 ρ b y) (w : World) : ∃ z, (Builtin.min2 x y).run P w = .ok z w ∧ VRel w0 ρ c z := by
  unfold min2V at h
  split at h
  · split at h
    · simp only [Option.some.injEq] at h; subst h; cases hx; cases hy; exact ⟨_, rfl, .int _ _⟩
    · simp at h
  · simp only [Option.some.injEq] at h; subst h
    obtain ⟨p, rfl, hp⟩ := hx.str_inv
    obtain ⟨q, rfl, hq⟩ := hy.str_inv
    refine ⟨.string (if (Op.bytesLess p.toList q.toList || p.toList == q.toList) then p else q), ?_, ?_⟩
    · simp only [Builtin.min2, Op.stringOp, Sem.run_bind, Sem.run_pure, Result.andThen_ok, asBool]
      first | done | (cases (Op.bytesLess p.toList q.toList || p.toList == q.toList) <;> simp)
    · rw [byteArray_toList, byteArray_toList, hp, hq]
      split
      · exact .str hp
      · exact .str hq
  · simp at h
theorem foldV_sound {f : V → V → Option V} {g : Value → Value → Sem Value} (hf : ∀ {a b c x y}, f a b = some c → VRel w0 ρ a x → VRel w0 ρ b y → ∀ w : World, ∃ z, (g x y).run P w = .ok z w ∧ VRel w0 ρ c z) :
    ∀ {l : List V} {l' : List Value} {a c : V} {x : Value}, foldV f a l = some c → VRel w0 ρ a x → LRel w0 ρ l l' → ∀ w : World, ∃ z, (l'.foldlM g x).run P w = .ok z w ∧ VRel w0 ρ c z := by
  intro l
  induction l with
  | nil => intro l' a c x h hx hl w; rw [hl.inv_nil]; simp [foldV] at h; subst h; exact ⟨x, by simp, hx⟩
  | cons b l ih =>
    intro l' a c x h hx hl w
    obtain ⟨y, ys, rfl, hy, hys⟩ := hl.inv_cons
    simp only [foldV] at h
    cases hh : f a b with
    | none => simp [hh] at h
    | some d =>
      simp only [hh] at h
      obtain ⟨z, z1, z2⟩ := hf hh hx hy w
      obtain ⟨z', z3, z4⟩ := ih h z2 hys w
      exact ⟨z', by simp [List.foldlM_cons, z1, z3], z4⟩
theorem spread_isAgg {t : TypeId} (h : spread P t = some none) (w : World) : (isAgg t).run P w = .ok false w := by
  unfold spread at h
  split at h
  · split at h <;> simp at h
  · split at h <;> simp at h
  · rename_i d h1 h2 hu
    unfold isAgg
    rw [Sem.run_bind, run_underlying hu w]
    cases d <;> simp_all
  · simp at h
theorem spread_some {t : TypeId} {n : Nat} (h : spread P t = some (some n)) (w : World) : (isAgg t).run P w = .ok true w ∧ (sizeOf t).run P w = .ok n w := by
  unfold spread at h
  split at h
  · rename_i fs hu
    split at h <;> simp at h
    rename_i m hm; subst h
    exact ⟨by unfold isAgg; rw [Sem.run_bind, run_underlying hu w]; rfl, run_sizeO hm w⟩
  · rename_i k el hu
    split at h <;> simp at h
    rename_i m hm; subst h
    exact ⟨by unfold isAgg; rw [Sem.run_bind, run_underlying hu w]; rfl, run_sizeO hm w⟩
  · simp at h
  · simp at h
theorem part_sound {t : TypeId} {n : Option Nat} {cs : List V} {cs' : Array Value} {off : Nat} {v : V} (hn : spread P t = some n) (hr : LRel w0 ρ cs cs'.toList) (hv : loadRow n cs off = some v) (w : World) :
    ∃ x, (part t cs' off).run P w = .ok x w ∧ VRel w0 ρ v x := by
  cases n with
  | none =>
    simp only [loadRow] at hv
    obtain ⟨x, h1, h2⟩ := hr.get hv
    refine ⟨x, ?_, h2⟩
    have h1' : cs'[off]? = some x := by simpa using h1
    simp [part, spread_isAgg hn, h1']
  | some n =>
    simp only [loadRow] at hv
    cases hb : Nat.ble (off + n) cs.length with
    | false => simp [hb] at hv
    | true =>
      simp only [hb, cond_true, Option.some.injEq] at hv; subst hv
      obtain ⟨g1, g2⟩ := spread_some hn w
      refine ⟨.agg (cs'.extract off (off + n)), by simp [part, g1, g2], ?_⟩
      have hh := VRel.agg_of ((hr.drop off).take n)
      have : (List.take n (List.drop off cs'.toList)).toArray = cs'.extract off (off + n) := by
        apply Array.ext'
        simp [List.take_drop]
      rwa [this] at hh
theorem sliceStr_data (b : ByteArray) (l h : Nat) : (b.extract l h).data.toList = (b.data.toList.take h).drop l := by
  rw [ByteArray.data_extract]; simp [List.drop_take]
theorem str_get (b : ByteArray) (i : Nat) : b[i]? = b.data.toList[i]? := by
  rw [Array.getElem?_toList]
  by_cases h : i < b.size
  · rw [getElem?_pos b i h, getElem?_pos b.data i h]; rfl
  · rw [getElem?_neg b i h, getElem?_neg b.data i h]
theorem cb_s {b : Builtin} {ts : List TypeId} {xs : List Opd} {so : SOp} (h : cbuiltin P b ts xs = .s so) :
    (b = .len ∧ ∃ t ts' x xs', ts = t :: ts' ∧ xs = x :: xs' ∧ ((P.underlying t = some .string ∧ so = .len 0 x) ∨ ((∃ el, P.underlying t = some (.slice el)) ∧ so = .len 1 x) ∨ ((∃ k el, P.underlying t = some (.map k el)) ∧ so = .len 2 x))) ∨
    (b = .cap ∧ ∃ t ts' x xs', ts = t :: ts' ∧ xs = x :: xs' ∧ (∃ el, P.underlying t = some (.slice el)) ∧ so = .cap x) ∨ (b = .max ∧ so = .max xs) ∨ (b = .min ∧ so = .min xs) := by
  unfold cbuiltin at h
  split at h
  · rename_i t ts' x xs'
    split at h <;> cases h
    · exact .inl ⟨rfl, t, ts', x, xs', rfl, rfl, .inl ⟨by assumption, rfl⟩⟩
    · exact .inl ⟨rfl, t, ts', x, xs', rfl, rfl, .inr (.inl ⟨⟨_, by assumption⟩, rfl⟩)⟩
    · exact .inl ⟨rfl, t, ts', x, xs', rfl, rfl, .inr (.inr ⟨⟨_, _, by assumption⟩, rfl⟩)⟩
  · rename_i t ts' x xs'
    split at h <;> cases h
    exact .inr (.inl ⟨rfl, t, ts', x, xs', rfl, rfl, ⟨_, by assumption⟩, rfl⟩)
  · cases h; exact .inr (.inr (.inl ⟨rfl, rfl⟩))
  · cases h; exact .inr (.inr (.inr ⟨rfl, rfl⟩))
  · split at h
    · split at h
      · unfold cond at h; split at h <;> cases h
      · unfold cond at h; split at h <;> cases h
      · cases h
    · cases h
  · split at h
    · split at h <;> cases h
    · cases h
  · split at h
    · split at h <;> cases h
    · cases h
  · cases h
theorem opds_cons {l : List Operand} {o : Opd} {os : List Opd} (h : opds l = some (o :: os)) : ∃ x xs, l = x :: xs ∧ opd x = some o ∧ opds xs = some os := by
  cases l with
  | nil => simp [opds] at h
  | cons x xs =>
    simp only [opds] at h
    cases hx : opd x with
    | none => simp [hx] at h
    | some o' =>
      cases hxs : opds xs with
      | none => simp [hx, hxs] at h
      | some os' => simp [hx, hxs] at h; obtain ⟨rfl, rfl⟩ := h; exact ⟨x, xs, rfl, hx, hxs⟩
theorem Rel.row_room (h : Rel w0 ρ s w) {b r o lim : Nat} {cs : List V} (e : ρ b = some (r, o, lim)) (hs : s.row b = some cs) : o + cs.length ≤ lim := by
  have ho := h.ob b r o lim e
  unfold St.row at hs
  split at hs
  · rename_i cs' hg
    simp at hs; subst hs
    rw [hg] at ho
    obtain ⟨c, t, fr, h1, h2, h3, h4, h5⟩ := ho
    exact h3
  · simp at hs
theorem beq00 : Nat.beq 0 0 = true := rfl
theorem beq01 : Nat.beq 0 1 = false := rfl
theorem beq02 : Nat.beq 0 2 = false := rfl
theorem beq10 : Nat.beq 1 0 = false := rfl
theorem beq11 : Nat.beq 1 1 = true := rfl
theorem beq12 : Nat.beq 1 2 = false := rfl
theorem beq20 : Nat.beq 2 0 = false := rfl
theorem beq21 : Nat.beq 2 1 = false := rfl
theorem beq22 : Nat.beq 2 2 = true := rfl
theorem find_rel {w0 : World} {ρ : Ren} {n : Nat} : ∀ (a : List ME) (b : List MapEntry), a.length = b.length →
    (∀ i (h : i < a.length) (h' : i < b.length), VRel w0 ρ a[i].key b[i].key ∧ VRel w0 ρ a[i].val b[i].val ∧ a[i].born = b[i].born) → ∀ {e : ME}, a.find? (fun e => Nat.beq e.born n) = some e →
    ∃ e', b.find? (fun e => e.born == n) = some e' ∧ VRel w0 ρ e.key e'.key ∧ VRel w0 ρ e.val e'.val := by
  intro a
  induction a with
  | nil => intro b _ _ e h; simp at h
  | cons x a ih =>
    intro b hl hr e h
    cases b with
    | nil => simp at hl
    | cons y b =>
      have h0 := hr 0 (by simp) (by simp)
      simp only [List.getElem_cons_zero] at h0
      rw [List.find?_cons] at h ⊢
      have hb : Nat.beq x.born n = (y.born == n) := by
        rw [h0.2.2, Bool.eq_iff_iff, Nat.beq_eq, beq_iff_eq]
      rw [hb] at h
      cases hq : (y.born == n) with
      | true => rw [hq] at h; simp at h; subst h; exact ⟨y, rfl, h0.1, h0.2.1⟩
      | false =>
        rw [hq] at h
        exact ih b (by simpa using hl) (fun i h1 h2 => hr (i + 1) (by simpa using h1) (by simpa using h2)) h
theorem evS_sound {o : Oper} {so : SOp} {v : V} (hc : cop P o.op = .s so) (hv : evS env s so = some v) (hR : Rel w0 ρ s w) (H : ∀ x ∈ o.op.operands, OpdOK w0 ρ env e x) : Gives P w0 ρ w e o v := by
  obtain ⟨dst, op, type, pos, after, guard⟩ := o
  simp only at hc H
  cases op with
  | move x =>
    simp only [cop] at hc; split at hc <;> cases hc
    rename_i o ho
    exact ⟨e x, rfl, H x (by simp [Op.operands]) o v ho hv⟩
  | assign x =>
    simp only [cop] at hc; split at hc <;> cases hc
    rename_i o ho
    exact ⟨e x, rfl, H x (by simp [Op.operands]) o v ho hv⟩
  | pick c a b =>
    simp only [cop] at hc; split at hc <;> cases hc
    rename_i co ao bo hco hao hbo
    simp only [evS] at hv
    split at hv
    · rename_i hcv
      have h1 := H c (by simp [Op.operands]) co _ hco hcv
      refine ⟨e a, ?_, H a (by simp [Op.operands]) ao v hao hv⟩
      simp [execOp, h1.bool_inv, asBool]
    · rename_i hcv
      have h1 := H c (by simp [Op.operands]) co _ hco hcv
      refine ⟨e b, ?_, H b (by simp [Op.operands]) bo v hbo hv⟩
      simp [execOp, h1.bool_inv, asBool]
    · simp at hv
  | load t a =>
    simp only [cop] at hc; split at hc <;> cases hc
    rename_i n ao hn hao
    exact gives_of rfl (load_sound hn hao hv hR (H a (by simp [Op.operands])))
  | nilCheck x =>
    simp only [cop] at hc; split at hc <;> cases hc
    rename_i xo hxo
    simp only [evS] at hv
    split at hv <;> try (simp at hv; done)
    rename_i h1 h2 h3
    have hx := H x (by simp [Op.operands]) xo v hxo hv
    refine ⟨e x, ?_, hx⟩
    simp only [execOp]
    generalize e x = ex at hx
    cases hx <;> first | rfl | exact absurd hv h1 | exact absurd hv h2 | exact absurd hv h3
  | binOp op t x y yt =>
    simp only [cop] at hc; split at hc <;> cases hc
    rename_i a b ha hb
    simp only [evS] at hv
    split at hv <;> try (simp at hv; done)
    rename_i p q hp hq
    exact gives_of rfl (binV_sound hv (H x (by simp [Op.operands]) a p ha hp) (H y (by simp [Op.operands]) b q hb hq) w)
  | unOp op t x =>
    simp only [cop] at hc; split at hc <;> cases hc
    rename_i a ha
    simp only [evS] at hv
    split at hv <;> try (simp at hv; done)
    rename_i p hp
    exact gives_of rfl (unV_sound hv (H x (by simp [Op.operands]) a p ha hp) w)
  | convert src dst x =>
    simp only [cop] at hc
    split at hc
    · rename_i d k xo hs hd hxo
      cases hc
      simp only [evS] at hv
      split at hv <;> try (simp at hv; done)
      rename_i k' n hn
      simp only [Option.some.injEq] at hv; subst hv
      have hx := (H x (by simp [Op.operands]) xo _ hxo hn).int_inv
      refine gives_of rfl ⟨.int k (k.wrap n), ?_, by rw [wrapA_eq]; exact .int _ _⟩
      rw [hx]; simp [convert, run_underlying hs, run_underlying hd, Conv.intToInt]
    · rename_i xo hs hd hxo
      cases hc
      simp only [evS] at hv
      split at hv <;> try (simp at hv; done)
      rename_i b hb
      simp only [Option.some.injEq] at hv; subst hv
      have hx := H x (by simp [Op.operands]) xo _ hxo hb
      obtain ⟨p, hp, hp2⟩ := hx.str_inv
      refine gives_of rfl ⟨.string p, ?_, .str hp2⟩
      rw [hp]; simp [convert, run_underlying hs, run_underlying hd]
    · rename_i el xo hs hd hxo
      cases hu8 : isU8 P el with
      | false => simp [hu8] at hc
      | true =>
        simp only [hu8, cond_true, COp.s.injEq] at hc; subst hc
        have he : P.underlying el = some (.int .u8) := by unfold isU8 at hu8; split at hu8 <;> simp_all
        simp only [evS] at hv
        split at hv <;> try (simp at hv; done)
        rename_i u hu
        cases hsc : sliceCells s 1 u with
        | none => simp [hsc] at hv
        | some cs =>
          cases hbs : bytesOf cs with
          | none => simp [hsc, hbs] at hv
          | some bs =>
            simp only [hsc, hbs, Option.some.injEq] at hv; subst hv
            have hx := H x (by simp [Op.operands]) xo _ hxo hu
            obtain ⟨y, h1, h2⟩ := toStr_sound (P := P) hsc hbs hR hx
            refine gives_of rfl ⟨.string y, ?_, .str h2⟩
            have hsl : ∃ a l c, e x = .slice a l c := by
              rcases sliceCells_sound hsc hR hx with ⟨h, _⟩ | ⟨a, l, c, _, h, _⟩
              · exact ⟨_, _, _, h⟩
              · exact ⟨_, _, _, h⟩
            obtain ⟨a, l, c, hsl⟩ := hsl
            rw [hsl] at h1 ⊢
            rw [run_convert_bytes_string w src dst el a l c hs he hd]; exact h1
    · rename_i el xo hs hd hxo
      cases hu8 : isU8 P el <;> simp [hu8] at hc
    · cases hc
  | makeInterface t x =>
    simp only [cop] at hc; split at hc <;> cases hc
    rename_i d xo h1 hu hxo
    simp only [evS] at hv
    split at hv <;> try (simp at hv; done)
    rename_i p hp
    simp only [Option.some.injEq] at hv; subst hv
    refine gives_of rfl ⟨.iface t (e x), ?_, .iface (H x (by simp [Op.operands]) xo p hxo hp)⟩
    simp only [Instr.makeInterface, Sem.run_bind, run_underlying hu, Result.andThen_ok]
    cases d <;> simp_all
  | makeFunc fn first captured =>
    cases fn <;> simp only [cop] at hc <;> try (cases hc; done)
    rename_i f
    split at hc <;> cases hc
    rename_i a b ha hb
    simp only [evS] at hv
    split at hv <;> try (simp at hv; done)
    rename_i p q hp hq
    simp only [Option.some.injEq] at hv; subst hv
    have h1 := opds_rel ha hp fun x hx => H x (by simp [Op.operands]; exact .inl (by simpa using hx))
    have h2 := opds_rel hb hq fun x hx => H x (by simp [Op.operands]; exact .inr (by simpa using hx))
    refine gives_of rfl ⟨.func (.func f) (first.map e) (captured.map e), rfl, ?_⟩
    exact .func (by simpa using h1.1) (by simpa using h2.1) (fun i g1 g2 => by have := h1.2 i g1 (by simpa using g2); simpa [List.getElem_map] using this) (fun i g1 g2 => by have := h2.2 i g1 (by simpa using g2); simpa [List.getElem_map] using this)
  | build t parts =>
    simp only [cop] at hc
    split at hc <;> try (cases hc; done)
    rename_i fs hu
    split at hc <;> try (cases hc; done)
    rename_i z ps hz hps
    split at hc <;> cases hc
    rename_i l hl
    simp only [evS] at hv
    cases hf : fillV env z.cells l with
    | none => simp [hf] at hv
    | some out =>
      simp only [hf, Option.some.injEq] at hv; subst hv
      have := build_sound (P := P) (e := e) hu hz hps hl hf (fun p hp => H p.2 (by simp [Op.operands]; exact ⟨p.1, by simpa using hp⟩)) w
      exact gives_of rfl (by simpa using this)
  | slice t x lo hi mx =>
    simp only [cop] at hc
    have hx := H x (by simp [Op.operands])
    have hlo : ∀ y, lo = some y → OpdOK w0 ρ env e y := fun y hy => H y (by simp [Op.operands, hy])
    have hhi : ∀ y, hi = some y → OpdOK w0 ρ env e y := fun y hy => H y (by simp [Op.operands, hy])
    have hmx : ∀ y, mx = some y → OpdOK w0 ρ env e y := fun y hy => H y (by simp [Op.operands, hy])
    split at hc
    · rename_i xo lo' hi' hu hxo e1 e2 e3
      cases hc
      have hm : mx = none := by
        cases mx with
        | none => rfl
        | some y => simp only [opdO] at e3; split at e3 <;> simp at e3
      subst hm
      simp only [evS] at hv
      split at hv <;> try (simp at hv; done)
      rename_i b hb
      cases n2 : optNat env hi' b.length b.length with
      | none => simp [n2] at hv
      | some h =>
        cases n1 : optNat env lo' 0 h with
        | none => simp [n2, n1] at hv
        | some l =>
          simp only [n2, n1, Option.some.injEq] at hv; subst hv
          obtain ⟨p, hp, hp2⟩ := (hx xo _ hxo hb).str_inv
          have hsz : p.size = b.length := by rw [← hp2]; simp
          have hbd := run_sliceBounds_of (P := P) (isSlice := false) (len := b.length) (cap := b.length) (cap' := b.length) (m := b.length) e1 e2 (show opdO none = some none from rfl) (by simp) (by simp [optNat]) n2 n1 (Nat.le_refl _) hlo hhi (by simp) w
          refine gives_of rfl ⟨.string (p.extract l h), ?_, .str (by rw [sliceStr_data, hp2])⟩
          simp only [Option.map_none] at hbd
          simp only [Instr.sliceAt, Sem.run_bind, run_underlying hu, Result.andThen_ok, Instr.slice, hp, Option.map_none, Option.isSome_none, Bool.false_eq_true, if_false, hsz, hbd]
          rfl
    · rename_i el xo lo' hi' mx' hu hxo e1 e2 e3
      split at hc <;> try (cases hc; done)
      rename_i sz hsz
      have hmxe : mx'.isSome = mx.isSome := by
        cases mx with
        | none => simp [opdO] at e3; subst e3; rfl
        | some y => simp only [opdO] at e3; split at e3 <;> simp at e3; subst e3; rfl
      have hhie : hi'.isSome = hi.isSome := by
        cases hi with
        | none => simp [opdO] at e2; subst e2; rfl
        | some y => simp only [opdO] at e2; split at e2 <;> simp at e2; subst e2; rfl
      rw [hmxe, hhie] at hc
      cases hm : (mx.isSome && !hi.isSome) with
      | true => rw [hm] at hc; simp at hc
      | false =>
        rw [hm] at hc
        simp only [cond_false, COp.s.injEq] at hc; subst hc
        have hm' : mx.isSome = true → hi.isSome = true := fun h => by simpa [h] using hm
        have hrun : ∀ {l h m len cap' : Nat} {a : Option Addr}, (Instr.sliceBounds true len cap' (lo.map e) (hi.map e) (mx.map e)).run P w = .ok (l, h, m) w →
            (Instr.sliceAt t (.slice a len cap') (lo.map e) (hi.map e) (mx.map e)).run P w = .ok (.slice (if m = l then a else a.map (·.add (l * sz))) (h - l) (m - l)) w := fun {l h m len cap' a} hb => by
          simp only [Instr.sliceAt, Sem.run_bind, run_underlying hu, Result.andThen_ok, Instr.slice, hb, run_sizeO hsz]
          rfl
        simp only [evS] at hv
        split at hv
        · rename_i hxv
          cases n3 : optNat env mx' 0 0 with
          | none => simp [n3] at hv
          | some m =>
            cases n2 : optNat env hi' 0 m with
            | none => simp [n3, n2] at hv
            | some h =>
              cases n1 : optNat env lo' 0 h with
              | none => simp [n3, n2, n1] at hv
              | some l =>
                simp only [n3, n2, n1, Option.some.injEq] at hv; subst hv
                have hbd := run_sliceBounds_of (P := P) (isSlice := true) e1 e2 e3 hm' n3 n2 n1 (Nat.le_refl 0) hlo hhi hmx w
                have b3 := optNat_le (Nat.le_refl 0) n3
                have b2 : h ≤ 0 := by
                  have : h ≤ m := by
                    cases hi' with
                    | none => simp [optNat] at n2; omega
                    | some o => exact optNat_le (d := 0) (by omega) n2
                  omega
                have b1 := optNat_le (Nat.zero_le h) n1
                have hz := hx xo _ hxo hxv
                generalize hex : e x = ex at hz
                cases hz
                refine gives_of rfl ⟨.slice none 0 0, ?_, .nils⟩
                show (Instr.sliceAt t (e x) _ _ _).run P w = _
                rw [hex, hrun hbd]
                have hl0 : l = 0 := by omega
                have hh0 : h = 0 := by omega
                have hm0 : (if mx.isSome = true then m else 0) = 0 := by split <;> omega
                simp [hl0, hh0, hm0]
        · rename_i b off len cap sz' ex hxv
          cases n3 : optNat env mx' cap cap with
          | none => simp [n3] at hv
          | some m =>
            cases n2 : optNat env hi' len m with
            | none => simp [n3, n2] at hv
            | some h =>
              cases n1 : optNat env lo' 0 h with
              | none => simp [n3, n2, n1] at hv
              | some l =>
                simp only [n3, n2, n1] at hv
                cases hbq : Nat.beq sz sz' with
                | false => simp [hbq] at hv
                | true =>
                  have hszz : sz = sz' := Nat.eq_of_beq_eq_true hbq
                  subst hszz
                  simp only [hbq, cond_true] at hv
                  have hz := hx xo _ hxo hxv
                  generalize hex : e x = ex' at hz
                  cases hz with
                  | slice hρ h1 h2 h3 h4 =>
                    rename_i r o lim a cap'
                    have hbd := run_sliceBounds_of (P := P) (isSlice := true) e1 e2 e3 hm' n3 n2 n1 h1 hlo hhi hmx w
                    have b3 := optNat_le (Nat.le_refl cap) n3
                    have b1 := optNat_le (Nat.zero_le h) n1
                    have hm0 : mx.isSome = false → m = cap := fun hn => by
                      cases mx with
                      | some _ => simp at hn
                      | none => simp [opdO] at e3; subst e3; simp [optNat] at n3; exact n3.symm
                    have bh : h ≤ m := by
                      cases hi with
                      | none =>
                        simp [opdO] at e2; subst e2
                        simp [optNat] at n2
                        have : mx.isSome = false := by cases hq : mx.isSome with | false => rfl | true => have := hm' hq; simp at this
                        rw [hm0 this]; omega
                      | some y => 
                        simp only [opdO] at e2
                        split at e2 <;> simp at e2
                        subst e2
                        simp only [optNat] at n2
                        split at n2
                        · exact asNat_le n2
                        · simp at n2
                    refine gives_of rfl ⟨_, by show (Instr.sliceAt t (e x) _ _ _).run P w = _; rw [hex]; exact hrun hbd, ?_⟩
                    generalize hM : (if mx.isSome = true then m else cap') = M
                    have hMm : m ≤ M ∧ M ≤ cap' ∧ (ex = true ∨ mx.isSome = true → M = m) := by
                      subst hM
                      cases hq : mx.isSome with
                      | true => simp; omega
                      | false =>
                        have := hm0 hq
                        simp
                        refine ⟨by omega, fun hex => ?_⟩
                        rw [h2 hex, this]
                    have hsome : ∃ a', (if M = l then some a else Option.map (fun x => x.add (l * sz)) (some a)) = some a' ∧ (M - l = 0 ∨ (a' = ⟨r, o + (off + l * sz), none⟩ ∧ o + (off + l * sz) + (M - l) * sz ≤ lim)) := by
                      by_cases hml : M = l
                      · exact ⟨a, by rw [if_pos hml], .inl (by omega)⟩
                      · refine ⟨a.add (l * sz), by rw [if_neg hml]; rfl, ?_⟩
                        rcases h4 with h4 | ⟨rfl, h5⟩
                        · left; omega
                        · right
                          refine ⟨by rw [addr_add]; simp [Nat.add_assoc], ?_⟩
                          have : l * sz + (M - l) * sz ≤ cap' * sz := by rw [← Nat.add_mul]; exact Nat.mul_le_mul_right _ (by omega)
                          omega
                    obtain ⟨a', ha', hd⟩ := hsome
                    rw [ha']
                    cases hmz : (mx'.isSome && Nat.beq m 0) with
                    | true =>
                      simp only [hmz, cond_true, Option.some.injEq] at hv; subst hv
                      simp only [Bool.and_eq_true] at hmz
                      have hm00 : m = 0 := Nat.eq_of_beq_eq_true hmz.2
                      have hM0 := hMm.2.2 (.inr (by rw [← hmxe]; exact hmz.1))
                      have z1 : h - l = 0 := by omega
                      have z2 : M - l = 0 := by omega
                      rw [z1, z2]
                      exact .zslice
                    | false =>
                    simp only [hmz, cond_false, Option.some.injEq] at hv; subst hv
                    refine .slice hρ (by omega) (fun hx => ?_) (by omega) hd
                    have := hMm.2.2 (by
                      rw [hmxe] at hx
                      cases ex
                      · simp at hx; exact .inr hx
                      · exact .inl rfl)
                    omega
        · rename_i hxv
          cases n3 : optNat env mx' 0 0 with
          | none => simp [n3] at hv
          | some m =>
            cases n2 : optNat env hi' 0 m with
            | none => simp [n3, n2] at hv
            | some h =>
              cases n1 : optNat env lo' 0 h with
              | none => simp [n3, n2, n1] at hv
              | some l =>
                simp only [n3, n2, n1, Option.some.injEq] at hv; subst hv
                have hbd := run_sliceBounds_of (P := P) (isSlice := true) e1 e2 e3 hm' n3 n2 n1 (Nat.le_refl 0) hlo hhi hmx w
                have b3 := optNat_le (Nat.le_refl 0) n3
                have b2 : h ≤ 0 := by
                  have : h ≤ m := by
                    cases hi' with
                    | none => simp [optNat] at n2; omega
                    | some o => exact optNat_le (d := 0) (by omega) n2
                  omega
                have b1 := optNat_le (Nat.zero_le h) n1
                have hz := hx xo _ hxo hxv
                generalize hex : e x = ex at hz
                cases hz
                rename_i a
                refine gives_of rfl ⟨.slice (some a) 0 0, ?_, .zslice⟩
                show (Instr.sliceAt t (e x) _ _ _).run P w = _
                rw [hex, hrun hbd]
                have hl0 : l = 0 := by omega
                have hh0 : h = 0 := by omega
                have hm0 : (if mx.isSome = true then m else 0) = 0 := by split <;> omega
                simp [hl0, hh0, hm0]
        · rename_i row off len sz' hxv
          cases n3 : optNat env mx' len len with
          | none => simp [n3] at hv
          | some m =>
            cases n2 : optNat env hi' len m with
            | none => simp [n3, n2] at hv
            | some h =>
              cases n1 : optNat env lo' 0 h with
              | none => simp [n3, n2, n1] at hv
              | some l =>
                simp only [n3, n2, n1] at hv
                cases hbq : Nat.beq sz sz' with
                | false => simp [hbq] at hv
                | true =>
                  have hszz : sz = sz' := Nat.eq_of_beq_eq_true hbq
                  subst hszz
                  simp only [hbq, cond_true] at hv
                  have hz := hx xo _ hxo hxv
                  generalize hex : e x = ex' at hz
                  cases hz with
                  | cslice c hr hc hcv h3 h4 =>
                    rename_i r o a cap'
                    have hbd := run_sliceBounds_of (P := P) (isSlice := true) e1 e2 e3 hm' n3 n2 n1 h3 hlo hhi hmx w
                    have b3 := optNat_le (Nat.le_refl len) n3
                    have b1 := optNat_le (Nat.zero_le h) n1
                    have hm0 : mx.isSome = false → m = len := fun hn => by
                      cases mx with
                      | some _ => simp at hn
                      | none => simp [opdO] at e3; subst e3; simp [optNat] at n3; exact n3.symm
                    have bh : h ≤ m := by
                      cases hi with
                      | none =>
                        simp [opdO] at e2; subst e2
                        simp [optNat] at n2
                        have : mx.isSome = false := by cases hq : mx.isSome with | false => rfl | true => have := hm' hq; simp at this
                        rw [hm0 this]; omega
                      | some y => 
                        simp only [opdO] at e2
                        split at e2 <;> simp at e2
                        subst e2
                        simp only [optNat] at n2
                        split at n2
                        · exact asNat_le n2
                        · simp at n2
                    refine gives_of rfl ⟨_, by show (Instr.sliceAt t (e x) _ _ _).run P w = _; rw [hex]; exact hrun hbd, ?_⟩
                    generalize hM : (if mx.isSome = true then m else cap') = M
                    have hMm : m ≤ M ∧ M ≤ cap' ∧ (mx.isSome = true → M = m) := by
                      subst hM
                      cases hq : mx.isSome with
                      | true => simp; omega
                      | false =>
                        have := hm0 hq
                        simp; omega
                    have hsome : ∃ a', (if M = l then some a else Option.map (fun x => x.add (l * sz)) (some a)) = some a' ∧ (M - l = 0 ∨ a' = ⟨r, o + (off + l * sz), none⟩) := by
                      by_cases hml : M = l
                      · exact ⟨a, by rw [if_pos hml], .inl (by omega)⟩
                      · refine ⟨a.add (l * sz), by rw [if_neg hml]; rfl, ?_⟩
                        rcases h4 with h4 | rfl
                        · left; omega
                        · right; rw [addr_add]; simp [Nat.add_assoc]
                    obtain ⟨a', ha', hd⟩ := hsome
                    rw [ha']
                    cases hmz : (mx'.isSome && Nat.beq m 0) with
                    | true =>
                      simp only [hmz, cond_true, Option.some.injEq] at hv; subst hv
                      simp only [Bool.and_eq_true] at hmz
                      have hm00 : m = 0 := Nat.eq_of_beq_eq_true hmz.2
                      have hM0 := hMm.2.2 (by rw [← hmxe]; exact hmz.1)
                      have z1 : h - l = 0 := by omega
                      have z2 : M - l = 0 := by omega
                      rw [z1, z2]
                      exact .zslice
                    | false =>
                    simp only [hmz, cond_false, Option.some.injEq] at hv; subst hv
                    exact .cslice c hr hc hcv (by omega) hd
        · simp at hv
    · rename_i n el xo lo' hi' hu hxo e1 e2 e3
      split at hc <;> cases hc
      rename_i sz hsz
      have hm : mx = none := by
        cases mx with
        | none => rfl
        | some y => simp only [opdO] at e3; split at e3 <;> simp at e3
      subst hm
      simp only [evS] at hv
      split at hv <;> try (simp at hv; done)
      rename_i b off hb
      cases n2 : optNat env hi' n n with
      | none => simp [n2] at hv
      | some h =>
        cases n1 : optNat env lo' 0 h with
        | none => simp [n2, n1] at hv
        | some l =>
          simp only [n2, n1] at hv
          cases hs : s.row b with
          | none => simp [hs] at hv
          | some cs =>
            simp only [hs] at hv
            cases hbl : Nat.ble (off + n * sz) cs.length with
            | false => simp [hbl] at hv
            | true =>
              simp only [hbl, cond_true, Option.some.injEq] at hv; subst hv
              have hble := Nat.le_of_ble_eq_true hbl
              have hz := hx xo _ hxo hb
              generalize hex : e x = ex' at hz
              cases hz with
              | ptr hρ =>
                rename_i r o lim
                have hrow := hR.row_room hρ hs
                have hbd := run_sliceBounds_of (P := P) (isSlice := false) (len := n) (cap := n) (cap' := n) (m := n) e1 e2 (show opdO none = some none from rfl) (by simp) (by simp [optNat]) n2 n1 (Nat.le_refl _) hlo hhi (by simp) w
                have b2 := optNat_le (Nat.le_refl n) n2
                have b1 := optNat_le (Nat.zero_le h) n1
                simp only [Option.map_none, Option.isSome_none, Bool.false_eq_true, if_false] at hbd
                refine gives_of rfl ⟨.slice (some (if n = l then ⟨r, o + off, none⟩ else (⟨r, o + off, none⟩ : Addr).add (l * sz))) (h - l) (n - l), ?_, ?_⟩
                · simp only [Instr.sliceAt, Sem.run_bind, run_underlying hu, Result.andThen_ok, hex, Instr.sureAddr, Sem.run_pure, Option.map_none, hbd, run_sizeO hsz]
                · refine .slice hρ (Nat.le_refl _) (fun _ => rfl) (by omega) ?_
                  by_cases hml : n = l
                  · left; omega
                  · right
                    rw [if_neg hml, addr_add]
                    have : l * sz + (n - l) * sz = n * sz := by rw [← Nat.add_mul]; congr 1; omega
                    exact ⟨by simp [Nat.add_assoc], by omega⟩
    · cases hc
  | fieldAddr t x f =>
    simp only [cop] at hc
    split at hc <;> try (cases hc; done)
    rename_i fs xo hu hxo
    split at hc <;> try (cases hc; done)
    rename_i fd hfd
    split at hc <;> cases hc
    rename_i k hk
    simp only [evS] at hv
    have hx := H x (by simp [Op.operands]) xo
    have hrun : ∀ {r q : Nat}, e x = .pointer (some ⟨r, q, none⟩) → (Instr.fieldAt t (e x) f).run P w = .ok (.pointer (some ⟨r, q + fd.offset, none⟩)) w := fun {r q} hh => by
      simp [Instr.fieldAt, run_underlying hu, hfd, hh, Instr.sureAddr, fieldPlace, run_sizeO hk, addr_add]
    split at hv <;> simp only [Option.some.injEq, reduceCtorEq] at hv <;> subst hv
    · rename_i b o' hb
      have hz := hx _ hxo hb
      generalize hex : e x = ex at hz
      cases hz with
      | ptr hρ => exact gives_of rfl ⟨_, hrun hex, by rw [Nat.add_assoc]; exact .ptr hρ⟩
    · rename_i row o' hb
      have hz := hx _ hxo hb
      generalize hex : e x = ex at hz
      cases hz with
      | cptr c hr hc hcv => exact gives_of rfl ⟨_, hrun hex, by rw [Nat.add_assoc]; exact .cptr c hr hc hcv⟩
  | field t x f =>
    simp only [cop] at hc
    split at hc <;> try (cases hc; done)
    rename_i fs xo hu hxo
    split at hc <;> try (cases hc; done)
    rename_i fd hfd
    split at hc <;> cases hc
    rename_i n hn
    simp only [evS] at hv
    split at hv <;> try (simp at hv; done)
    rename_i cs hcs
    have hz := H x (by simp [Op.operands]) xo _ hxo hcs
    generalize hex : e x = ex at hz
    cases hz with
    | agg ha va =>
      obtain ⟨y, h1, h2⟩ := part_sound (P := P) hn (LRel.of_array ha va) hv w
      refine gives_of rfl ⟨y, ?_, h2⟩
      simp [Instr.field, run_underlying hu, hfd, hex, asAgg, h1]
  | indexAddr t x i =>
    simp only [cop] at hc
    have hx := H x (by simp [Op.operands])
    have hi := H i (by simp [Op.operands])
    split at hc
    · rename_i el xo io hu hxo hio
      split at hc <;> cases hc
      rename_i sz hsz
      simp only [evS] at hv
      split at hv
      · rename_i b off len cap z ex k n hb hn
        split at hv <;> try (simp at hv; done)
        rename_i hlt
        cases hbq : Nat.beq z sz with
        | false => simp [hbq] at hv
        | true =>
          have hzz : z = sz := Nat.eq_of_beq_eq_true hbq
          subst hzz
          simp only [hbq, cond_true, Option.some.injEq] at hv; subst hv
          have hz := hx xo _ hxo hb
          have hii := (hi io _ hio hn).int_inv
          generalize hex : e x = ex' at hz
          cases hz with
          | slice hρ h1 h2 h3 h4 =>
            rename_i r o lim a cap'
            rcases h4 with h4 | ⟨rfl, h5⟩
            · exfalso; omega
            · refine gives_of rfl ⟨.pointer (some ⟨r, o + (off + n.toNat * z), none⟩), ?_, .ptr hρ⟩
              simp [Instr.indexAt, hii, hex, asIntOf, run_underlying hu, hlt, run_sizeO hsz, addr_add, Nat.add_assoc]
      · rename_i row off len z k n hb hn
        split at hv <;> try (simp at hv; done)
        rename_i hlt
        cases hbq : Nat.beq z sz with
        | false => simp [hbq] at hv
        | true =>
          have hzz : z = sz := Nat.eq_of_beq_eq_true hbq
          subst hzz
          simp only [hbq, cond_true, Option.some.injEq] at hv; subst hv
          have hz := hx xo _ hxo hb
          have hii := (hi io _ hio hn).int_inv
          generalize hex : e x = ex' at hz
          cases hz with
          | cslice c hr hc hcv h3 h4 =>
            rename_i r o a cap'
            rcases h4 with h4 | rfl
            · exfalso; omega
            · refine gives_of rfl ⟨.pointer (some ⟨r, o + (off + n.toNat * z), none⟩), ?_, .cptr c hr hc hcv⟩
              simp [Instr.indexAt, hii, hex, asIntOf, run_underlying hu, hlt, run_sizeO hsz, addr_add, Nat.add_assoc]
      · simp at hv
    · rename_i len el xo io hu hxo hio
      split at hc <;> cases hc
      rename_i sz hsz
      simp only [evS] at hv
      have hrun : ∀ {r q : Nat} {k : IntKind} {n : Int}, e x = .pointer (some ⟨r, q, none⟩) → e i = .int k n → 0 ≤ n ∧ n < (len : Int) → (Instr.indexAt t (e x) (e i)).run P w = .ok (.pointer (some ⟨r, q + n.toNat * sz, none⟩)) w := fun {r q k n} g1 g2 g3 => by
        simp [Instr.indexAt, g1, g2, asIntOf, run_underlying hu, g3, run_sizeO hsz, addr_add, Instr.sureAddr]
      split at hv
      · rename_i b off k n hb hn
        split at hv <;> simp only [Option.some.injEq, reduceCtorEq] at hv
        rename_i hlt
        subst hv
        have hz := hx xo _ hxo hb
        have hii := (hi io _ hio hn).int_inv
        generalize hex : e x = ex' at hz
        cases hz with
        | ptr hρ => exact gives_of rfl ⟨_, hrun hex hii hlt, by rw [Nat.add_assoc]; exact .ptr hρ⟩
      · rename_i row off k n hb hn
        split at hv <;> simp only [Option.some.injEq, reduceCtorEq] at hv
        rename_i hlt
        subst hv
        have hz := hx xo _ hxo hb
        have hii := (hi io _ hio hn).int_inv
        generalize hex : e x = ex' at hz
        cases hz with
        | cptr c hr hc hcv => exact gives_of rfl ⟨_, hrun hex hii hlt, by rw [Nat.add_assoc]; exact .cptr c hr hc hcv⟩
      · simp at hv
    · cases hc
  | index t x i =>
    simp only [cop] at hc
    split at hc <;> cases hc
    rename_i xo io hu hxo hio
    simp only [evS] at hv
    split at hv <;> try (simp at hv; done)
    rename_i b k n hb hn
    split at hv <;> try (simp at hv; done)
    rename_i h0
    cases hg : b[n.toNat]? with
    | none => simp [hg] at hv
    | some c =>
      simp only [hg, Option.some.injEq] at hv; subst hv
      obtain ⟨p, hp, hp2⟩ := (H x (by simp [Op.operands]) xo _ hxo hb).str_inv
      have hii := (H i (by simp [Op.operands]) io _ hio hn).int_inv
      refine gives_of rfl ⟨.int .u8 c.toNat, ?_, .int _ _⟩
      have : p[n.toNat]? = some c := by rw [str_get, hp2, hg]
      simp [Instr.index, hii, hp, asIntOf, run_underlying hu, h0, this]
  | lookup t x i ok =>
    simp only [cop] at hc
    split at hc <;> try (cases hc; done)
    rename_i k el xo io hu hxo hio
    split at hc <;> cases hc
    rename_i z kk hz hkk
    simp only [evS] at hv
    split at hv <;> try (simp at hv; done)
    rename_i m kv hxv hiv
    exact gives_of rfl (lookup_sound hu hz hkk hR (H x (by simp [Op.operands]) xo m hxo hxv) (H i (by simp [Op.operands]) io kv hio hiv) hv)
  | entry x =>
    simp only [cop] at hc
    split at hc <;> cases hc
    rename_i xo hxo
    simp only [evS] at hv
    split at hv <;> try (simp at hv; done)
    rename_i b hb
    have hz := H x (by simp [Op.operands]) xo _ hxo hb
    generalize hex : e x = ex at hz
    cases hz with
    | ptr hρ =>
      rename_i r o lim
      unfold entryV at hv
      have ho := hR.ob b r o lim hρ
      cases hs : s.get b with
      | none => rw [hs] at hv; simp at hv
      | some ob =>
        rw [hs] at hv ho
        cases ob with
        | row cs => simp at hv
        | map es clock => simp at hv
        | dead => simp at hv
        | miter m since seen last =>
          obtain ⟨m', e1, e2, rfl⟩ := ho
          cases m with
          | none => simp at hv
          | some mm =>
            obtain ⟨r2, o2, lim2, hρ2, rfl⟩ := e2
            simp only at hv
            have ho2 := hR.ob mm r2 o2 lim2 hρ2
            cases hs2 : s.get mm with
            | none => rw [hs2] at hv; simp at hv
            | some ob2 =>
              rw [hs2] at hv ho2
              cases ob2 with
              | row cs => simp at hv
              | miter a b c d => simp at hv
              | dead => simp at hv
              | map es clock =>
                cases hl : seen.getLast? with
                | none => rw [hl] at hv; simp at hv
                | some n =>
                  rw [hl] at hv
                  simp only at hv
                  cases hq : Nat.beq clock last with
                  | false => simp [hq] at hv
                  | true =>
                    have hcl : clock = last := Nat.eq_of_beq_eq_true hq
                    subst hcl
                    simp only [hq, cond_true] at hv
                    obtain ⟨es', g1, g2, g3⟩ := ho2
                    cases hf : es.find? (fun e => Nat.beq e.born n) with
                    | none => rw [hf] at hv; simp at hv
                    | some en =>
                      rw [hf] at hv
                      simp only [Option.some.injEq] at hv; subst hv
                      obtain ⟨k1, k2, k3⟩ := find_rel (w0 := w0) (ρ := ρ) (n := n) es es'.toList (by simpa using g2) (fun i h1 h2 => by simpa using g3 i h1 (by simpa using h2)) hf
                      have hbk : seen.toArray.back? = some n := by rw [← Array.getLast?_toList]; exact hl
                      have hfind : es'.find? (fun e => e.born == n) = some k1 := by rw [← Array.find?_toList]; exact k2
                      refine gives_of rfl ⟨.tuple #[k1.key, k1.val], ?_, ?_⟩
                      · simp [hex, Instr.entry, getObj, Sem.run, e1, g1, hbk, hfind]
                      · simpa using VRel.tup_of (LRel.cons k3.1 (LRel.cons k3.2 .nil))
  | extract x i =>
    simp only [cop] at hc
    split at hc <;> cases hc
    rename_i xo hxo
    simp only [evS] at hv
    split at hv <;> try (simp at hv; done)
    rename_i vs hvs
    have hz := H x (by simp [Op.operands]) xo _ hxo hvs
    generalize hex : e x = ex at hz
    cases hz with
    | tup ha va =>
      rename_i vs'
      obtain ⟨y, h1, h2⟩ := (LRel.of_array ha va).get hv
      refine gives_of rfl ⟨y, ?_, h2⟩
      have h1' : vs'[i]? = some y := by simpa using h1
      simp [hex, Instr.extract, h1']
  | typeAssert x xt t ok =>
    cases ok <;> simp only [cop] at hc <;> try (cases hc; done)
    split at hc <;> cases hc
    rename_i d xo z h1 hu hxo hz
    obtain ⟨zx, hzr, hzv⟩ := run_zeroOf hz
    simp only [evS] at hv
    split at hv
    · rename_i hxv
      simp only [Option.some.injEq] at hv; subst hv
      have hx := H x (by simp [Op.operands]) xo _ hxo hxv
      generalize hex : e x = ex at hx
      cases hx
      refine gives_of rfl ⟨.tuple #[zx, .bool false], ?_, by simpa using VRel.tup_of (LRel.cons (hzv w0 ρ) (LRel.cons (.bool false) .nil))⟩
      simp only [hex, Instr.typeAssert, Sem.run_bind, run_underlying hu, Result.andThen_ok]
      cases d <;> first | exact absurd hu (h1 _) | simp [hzr]
    · rename_i u y hxv
      simp only [Option.some.injEq] at hv
      have hx := H x (by simp [Op.operands]) xo _ hxo hxv
      generalize hex : e x = ex at hx
      cases hx with
      | iface hy =>
        rename_i y'
        by_cases hut : u = t
        · rw [if_pos hut] at hv; subst hv
          refine gives_of rfl ⟨.tuple #[y', .bool true], ?_, by simpa using VRel.tup_of (LRel.cons hy (LRel.cons (.bool true) .nil))⟩
          simp only [hex, Instr.typeAssert, Sem.run_bind, run_underlying hu, Result.andThen_ok]
          cases d <;> first | exact absurd hu (h1 _) | simp [hut]
        · rw [if_neg hut] at hv; subst hv
          refine gives_of rfl ⟨.tuple #[zx, .bool false], ?_, by simpa using VRel.tup_of (LRel.cons (hzv w0 ρ) (LRel.cons (.bool false) .nil))⟩
          simp only [hex, Instr.typeAssert, Sem.run_bind, run_underlying hu, Result.andThen_ok]
          cases d <;> first | exact absurd hu (h1 _) | simp [hut, hzr]
    · simp at hv
  | call c =>
    simp only [cop] at hc
    split at hc <;> try first | (cases hc; done) | (split at hc <;> cases hc; done)
    rename_i b args hcal hargs
    have hHa : ∀ x ∈ c.args.toList, OpdOK w0 ρ env e x := fun x hx => H x (by simp [Op.operands, Call.operands]; exact .inr (by simpa using hx))
    have hres : ∀ {S : Sem Value} {r : V}, (∀ cs, builtin b c.argTypes type cs (c.args.map e) = (do pure (.value (← S)))) → (∃ x, S.run P w = .ok x w ∧ VRel w0 ρ r x) →
        Gives P w0 ρ w e { dst, op := .call c, type, pos, after, guard } r := fun {S r} hb ⟨x, h1, h2⟩ => by
      refine ⟨x, ?_, h2⟩
      simp only [execOp, resolve, hcal, Sem.run_bind, Sem.run_pure, Result.andThen_ok, invoke]
      rw [hb]; simp [h1]
    rcases cb_s hc with ⟨rfl, t, ts', xo, xs', ht, hx, hh⟩ | ⟨rfl, t, ts', xo, xs', ht, hx, ⟨el, hu⟩, rfl⟩ | ⟨rfl, rfl⟩ | ⟨rfl, rfl⟩
    · subst hx
      obtain ⟨x, xs, ha, hxo, _⟩ := opds_cons hargs
      have hX := hHa x (by rw [ha]; simp)
      have ht0 : c.argTypes[0]? = some t := by rw [← Array.getElem?_toList, ht]; rfl
      have hx0 : (c.args.map e)[0]? = some (e x) := by rw [← Array.getElem?_toList]; simp [ha]
      refine hres (fun _ => rfl) ?_
      have fin : ∀ {k : Nat}, evS env s (.len k xo) = some v → ∃ u n, xo.ev env = some u ∧ lenK s k u = some n ∧ v = .int .i64 (n : Nat) := fun {k} hh => by
        simp only [evS] at hh
        cases hxv : xo.ev env with
        | none => simp [hxv] at hh
        | some u =>
          cases hl : lenK s k u with
          | none => simp [hxv, hl] at hh
          | some n => simp only [hxv, hl, Option.some.injEq] at hh; exact ⟨u, n, rfl, hl, hh.symm⟩
      rcases hh with ⟨hu, rfl⟩ | ⟨⟨el, hu⟩, rfl⟩ | ⟨⟨k, el, hu⟩, rfl⟩
      · obtain ⟨u, n, h1, h2, rfl⟩ := fin hv
        have hr := hX xo u hxo h1
        generalize hex : e x = ex at hr hx0
        cases hr <;> simp [lenK, beq00, beq01, beq02, beq10, beq11, beq12, beq20, beq21, beq22] at h2
        rename_i p hp
        refine ⟨goInt p.size, by simp [Builtin.len_, ht0, hx0, run_underlying hu], ?_⟩
        have : p.size = n := by rw [← h2, ← hp]; simp
        rw [this]; exact .int _ _
      · obtain ⟨u, n, h1, h2, rfl⟩ := fin hv
        have hr := hX xo u hxo h1
        generalize hex : e x = ex at hr hx0
        cases hr <;> simp [lenK, beq00, beq01, beq02, beq10, beq11, beq12, beq20, beq21, beq22] at h2 <;> subst h2
        · exact ⟨goInt 0, by simp [Builtin.len_, ht0, hx0, run_underlying hu], .int _ _⟩
        · exact ⟨goInt 0, by simp [Builtin.len_, ht0, hx0, run_underlying hu], .int _ _⟩
        · exact ⟨_, by simp [Builtin.len_, ht0, hx0, run_underlying hu]; rfl, .int _ _⟩
        · exact ⟨_, by simp [Builtin.len_, ht0, hx0, run_underlying hu]; rfl, .int _ _⟩
      · obtain ⟨u, n, h1, h2, rfl⟩ := fin hv
        have hr := hX xo u hxo h1
        generalize hex : e x = ex at hr hx0
        cases hr <;> simp [lenK, beq00, beq01, beq02, beq10, beq11, beq12, beq20, beq21, beq22] at h2
        · subst h2; exact ⟨goInt 0, by simp [Builtin.len_, ht0, hx0, run_underlying hu], .int _ _⟩
        · rename_i m r o lim hρ
          cases hs : s.get m with
          | none => simp [hs] at h2
          | some ob =>
            cases ob <;> simp [hs] at h2
            rename_i es clock
            obtain ⟨es', g1, g2, g3⟩ := hR.map_at hρ hs
            refine ⟨goInt es'.size, by simp [Builtin.len_, ht0, hx0, run_underlying hu, run_getObj_map g1], ?_⟩
            rw [← g2, h2]; exact .int _ _
    · subst hx
      obtain ⟨x, xs, ha, hxo, _⟩ := opds_cons hargs
      have hX := hHa x (by rw [ha]; simp)
      have ht0 : c.argTypes[0]? = some t := by rw [← Array.getElem?_toList, ht]; rfl
      have hx0 : (c.args.map e)[0]? = some (e x) := by rw [← Array.getElem?_toList]; simp [ha]
      refine hres (fun _ => rfl) ?_
      simp only [evS] at hv
      split at hv <;> simp only [Option.some.injEq, reduceCtorEq] at hv <;> subst hv
      · rename_i h1
        have hr := hX xo _ hxo h1
        generalize hex : e x = ex at hr hx0
        cases hr
        exact ⟨goInt 0, by simp [Builtin.cap_, ht0, hx0, run_underlying hu], .int _ _⟩
      · rename_i h1
        have hr := hX xo _ hxo h1
        generalize hex : e x = ex at hr hx0
        cases hr
        exact ⟨goInt 0, by simp [Builtin.cap_, ht0, hx0, run_underlying hu], .int _ _⟩
      · rename_i h1
        have hr := hX xo _ hxo h1
        generalize hex : e x = ex at hr hx0
        cases hr with
        | slice hρ h1 h2 h3 h4 =>
          rename_i cap'
          refine ⟨goInt cap', by simp [Builtin.cap_, ht0, hx0, run_underlying hu], ?_⟩
          rw [h2 rfl]; exact .int _ _
    · simp only [evS] at hv
      split at hv <;> try (simp at hv; done)
      rename_i a l hl
      have hlr := opds_rel hargs hl hHa
      obtain ⟨y, ys, hy1, hy2, hy3⟩ := hlr.inv_cons
      obtain ⟨z, z1, z2⟩ := foldV_sound (P := P) max2_sound hv hy2 hy3 w
      exact hres (fun _ => rfl) ⟨z, by simp [Builtin.max_, hy1, z1], z2⟩
    · simp only [evS] at hv
      split at hv <;> try (simp at hv; done)
      rename_i a l hl
      have hlr := opds_rel hargs hl hHa
      obtain ⟨y, ys, hy1, hy2, hy3⟩ := hlr.inv_cons
      obtain ⟨z, z1, z2⟩ := foldV_sound (P := P) min2_sound hv hy2 hy3 w
      exact hres (fun _ => rfl) ⟨z, by simp [Builtin.min_, hy1, z1], z2⟩
  | makeMap t r => 
    simp only [cop] at hc
    split at hc <;> cases hc
  | makeSlice t l c =>
    simp only [cop] at hc
    split at hc <;> try (cases hc; done)
    split at hc <;> try (cases hc; done)
    rename_i sz bs z l c h1 h2 h3 h4 h5
    cases hq : (Nat.beq z.cells.length sz && Nat.ble 1 sz) <;> simp [hq] at hc
  | buildSlice t len parts =>
    simp only [cop] at hc
    split at hc <;> try (cases hc; done)
    split at hc <;> try (cases hc; done)
    rename_i sz z h1 h2
    cases hq : (Nat.ble (len * sz) 16777216 && Nat.beq z.cells.length sz && Nat.ble 1 sz) <;> simp only [hq, cond_true, cond_false, reduceCtorEq] at hc
    split at hc <;> cases hc
  | next x b => cases b <;> simp only [cop] at hc <;> (try split at hc) <;> cases hc
  | mapUpdate t m k x => simp only [cop] at hc; split at hc <;> (try split at hc) <;> cases hc
  | insert t m k x => simp only [cop] at hc; split at hc <;> (try split at hc) <;> cases hc
  | alloc t => simp only [cop] at hc; split at hc <;> cases hc
  | box t x => simp only [cop] at hc; split at hc <;> cases hc
  | store t a x => simp only [cop] at hc; split at hc <;> cases hc
  | range t x => simp only [cop] at hc; split at hc <;> cases hc
  | _ => simp [cop] at hc
end
end Go.RE
