/- Operations that make memory do what the evaluator says. -/
import Derived.Test.YtnepmmjhhcdniaaRe7
namespace Go.RE
set_option linter.unusedSimpArgs false
set_option linter.unusedVariables false
section
variable {P : Program} {w0 : World} {ρ : Ren} {s : St} {w : World} {env : PT V} {e : Operand → Value}

theorem ob_row {cs : List V} {xs : List Value} (h : LRel w0 ρ cs xs) (rest : List Value) (t : TypeId) (fr : Nat × Nat) (hf : ∀ j, j < xs.length + rest.length → ¬ (fr.1 ≤ j ∧ j < fr.2)) :
    ObRel w0 ρ 0 (xs.length + rest.length) (some (.row cs)) (some (.cells (xs ++ rest).toArray t fr)) := by
  refine ⟨_, t, fr, rfl, by simp, by rw [h.1]; omega, hf, fun i hi => ?_⟩
  obtain ⟨x, h1, h2⟩ := h.get (List.getElem?_eq_getElem hi)
  refine ⟨x, ?_, h2⟩
  have hl := h.1
  simp only [Nat.zero_add, List.getElem?_toArray]
  rw [List.getElem?_append_left (by omega)]; exact h1

theorem ob_row0 {cs : List V} {A : Array Value} (h : LRel w0 ρ cs A.toList) (t : TypeId) : ObRel w0 ρ 0 A.size (some (.row cs)) (some (.cells A t (0, 0))) := by
  have := ob_row h [] t (0, 0) (by simp)
  simpa using this

theorem repZero_length (z : List V) : ∀ n, (repZero z n).length = n * z.length := by
  intro n
  induction n with
  | zero => simp [repZero]
  | succ n ih => simp [repZero, ih, Nat.add_mul, Nat.add_comm]

theorem repZero_get (z : List V) : ∀ (n j : Nat), j < n * z.length → (repZero z n)[j]? = z[j % z.length]? := by
  intro n
  induction n with
  | zero => intro j h; simp at h
  | succ n ih =>
    intro j h
    simp only [repZero]
    by_cases hj : j < z.length
    · rw [List.getElem?_append_left hj, Nat.mod_eq_of_lt hj]
    · rw [List.getElem?_append_right (by omega), ih _ (by rw [Nat.add_mul, Nat.one_mul] at h; omega)]
      congr 1
      exact (Nat.mod_eq_sub_mod (by omega)).symm

theorem rep_rel {z : List V} {zx : Array Value} (h : LRel w0 ρ z zx.toList) (n : Nat) (g : Array Value) (hg : 0 < n * z.length → g = zx) :
    LRel w0 ρ (repZero z n) ((Array.range (n * z.length)).map (fun j => g[j % g.size]!)).toList := by
  have hl : z.length = zx.size := by simpa using h.1
  refine LRel.of_get (by simp [repZero_length]) fun j v hv => ?_
  have hj : j < n * z.length := by
    have := (List.getElem?_eq_some_iff.1 hv).1
    rwa [repZero_length] at this
  have hg' := hg (by omega)
  subst hg'
  rw [repZero_get _ _ _ hj] at hv
  obtain ⟨x, h1, h2⟩ := h.get hv
  refine ⟨x, ?_, h2⟩
  have hpos : 0 < z.length := by
    rcases Nat.eq_zero_or_pos z.length with h0 | h0
    · rw [h0] at hj; simp at hj
    · exact h0
  have hm : j % g.size < g.size := Nat.mod_lt _ (by omega)
  simp only [Array.toList_map, Array.toList_range, List.getElem?_map, List.getElem?_range hj, Option.map_some]
  rw [Array.getElem?_toList, hl] at h1
  rw [getElem!_pos g _ hm]
  rw [getElem?_pos g _ hm] at h1
  exact h1

/-- What making comes to. -/
def Makes (P : Program) (w0 : World) (ρ : Ren) (w : World) (e : Operand → Value) (o : Oper) (ob : Ob) (f : Nat → V) : Prop :=
  ∃ obj lim w' x, (execOp e o).run P w = .ok (.value x) w' ∧ w'.heap = w.heap.push obj ∧ w'.os = w.os ∧ w'.output = w.output ∧ ObRel w0 ρ 0 lim (some ob) (some obj) ∧
    ∀ ρ' n, Ren.le ρ ρ' → ρ' n = some (w.heap.size, 0, lim) → VRel w0 ρ' (f n) x

theorem makes_of {o : Oper} {ob : Ob} {f : Nat → V} {S : Sem Value} (he : execOp e o = (do pure (.value (← S)))) {obj : Obj} {lim : Nat} {w' : World} {x : Value} (h : S.run P w = .ok x w')
    (h1 : w'.heap = w.heap.push obj) (h2 : w'.os = w.os) (h3 : w'.output = w.output) (h4 : ObRel w0 ρ 0 lim (some ob) (some obj))
    (h5 : ∀ ρ' n, Ren.le ρ ρ' → ρ' n = some (w.heap.size, 0, lim) → VRel w0 ρ' (f n) x) : Makes P w0 ρ w e o ob f :=
  ⟨obj, lim, w', x, by rw [he]; simp [h], h1, h2, h3, h4, h5⟩

theorem mul_toNat (a b : Nat) : ((a : Int)).toNat * b = a * b := by simp

theorem wrap_small {n : Nat} (h : n ≤ big) : IntKind.i64.wrap (n : Int) = n := by
  apply wrap_in
  · simp only [IntKind.signed, IntKind.bits, if_true]; omega
  · simp only [IntKind.signed, IntKind.bits, if_true]; unfold big at h; omega

theorem cb_m {b : Builtin} {ts : List TypeId} {xs : List Opd} {mo : MOp} : cbuiltin P b ts xs ≠ .m mo := by
  intro h
  unfold cbuiltin at h
  split at h
  · split at h <;> cases h
  · split at h <;> cases h
  · cases h
  · cases h
  · split at h
    · split at h
      · unfold cond at h; split at h <;> cases h
      · unfold cond at h; split at h <;> cases h
      · cases h
    · cases h
  · split at h
    · split at h <;> cases h
    · cases h
  · split at h
    · split at h <;> cases h
    · cases h
  · cases h

theorem modify_push (h : Array Obj) (x : Obj) (f : Obj → Obj) : (h.push x).modify h.size f = h.push (f x) := by
  apply Array.ext_getElem?
  intro i
  rw [Array.getElem?_modify, Array.getElem?_push, Array.getElem?_push]
  by_cases hi : i = h.size
  · subst hi; simp
  · rw [if_neg (fun hh => hi hh.symm), if_neg hi, if_neg hi]

theorem byteCells_rel (p : ByteArray) : LRel w0 ρ (p.data.toList.map byteCell) (p.data.map (fun b => Value.int .u8 b.toNat)).toList :=
  ⟨by simp, fun i h1 h2 => by simp only [List.getElem_map, byteCell, Array.toList_map]; exact .int _ _⟩

theorem toBytes_sound {src dst el : TypeId} {x : Operand} {p : ByteArray} {b : List UInt8} (hs : P.underlying src = some .string) (hd : P.underlying dst = some (.slice el)) (he : P.underlying el = some (.int .u8))
    (hp : e x = .string p) (hp2 : p.data.toList = b) {dstT : Option Tmp} {type : TypeId} {pos : String} {after : Array Edge} {guard : Option (Nat × Bool)} (w : World) :
    Makes P w0 ρ w e { dst := dstT, op := .convert src dst x, type, pos, after, guard } (.row (b.map byteCell)) (fun n => .slice n 0 b.length b.length 1 false) := by
  have hsz : p.size = b.length := by rw [← hp2]; simp
  let c := grownCap w p.size 0 el
  have hc : p.size ≤ c := grownCap_ge w p.size 0 el
  let C : Array Value := p.data.map (fun b => Value.int .u8 b.toNat) ++ Array.replicate (c - p.size) (.int .u8 0)
  have hCs : C.size = c := by simp [C]; have : p.data.size = p.size := rfl; omega
  have hrow := ob_row (byteCells_rel (w0 := w0) (ρ := ρ) p) (List.replicate (c - p.size) (.int .u8 0)) el (C.size, C.size + 1) (fun j hj => by
    simp at hj; have : p.data.size = p.size := rfl; omega)
  have hC : ((p.data.map (fun b => Value.int .u8 b.toNat)).toList ++ List.replicate (c - p.size) (Value.int .u8 0)).toArray = C := by apply Array.ext'; simp [C]
  have hlim : (p.data.map (fun b => Value.int .u8 b.toNat)).toList.length + (List.replicate (c - p.size) (Value.int .u8 0)).length = C.size := by simp [C]
  rw [hC, hlim, hp2] at hrow
  refine makes_of rfl (S := convert src dst (e x)) (w' := { w.drew with heap := w.heap.push (.cells C el (C.size, C.size + 1)) }) (x := .slice (some ⟨w.heap.size, 0, none⟩) p.size c) ?_ rfl rfl rfl hrow
    fun ρ' n hl hn => by rw [← hsz]; exact .slice hn hc (fun h => by simp at h) (Nat.le_refl _) (.inr ⟨by simp, by simp [hCs]⟩)
  have h1 : (convert src dst (e x)).run P w = (Conv.stringToBytes el p).run P w := by
    rw [hp]; simp [convert, run_underlying hs, run_underlying hd, run_underlying he]
  rw [h1]
  unfold Conv.stringToBytes
  simp only [Sem.run_bind, run_choose, Question.forced, Bool.false_eq_true, if_false, Result.andThen_ok, newRow, run_newObj, Sem.run_pure, markStringish, run_shape]
  have hC2 : Array.map (fun b => Value.int .u8 (b.toNat : Int)) p.data ++ Array.replicate (Question.cut (Question.appendCap p.size 0 el) (w.tape w.drawn (Question.appendCap p.size 0 el)) - p.size) (Value.int .u8 0) = C := rfl
  rw [hC2]
  have hshape : ({ heap := w.heap.push (Obj.cells C el), tape := w.tape, drawn := w.drawn + 1, os := w.os, output := w.output } : World).shape? w.heap.size = some (el, C.size) := by
    simp [World.shape?]
  simp only [hshape, Sem.run_bind, run_freeze, Result.andThen_ok, Sem.run_pure]
  unfold World.freeze
  rw [if_neg (by simp)]
  simp only []
  rw [modify_push]
  simp
  exact ⟨rfl, rfl, rfl⟩

set_option maxHeartbeats 1000000 in
theorem evM_sound {o : Oper} {mo : MOp} {ob : Ob} {f : Nat → V} (hc : cop P o.op = .m mo) (hv : evM env mo = some (ob, f)) (H : ∀ x ∈ o.op.operands, OpdOK w0 ρ env e x) (w : World) : Makes P w0 ρ w e o ob f := by
  obtain ⟨dst, op, type, pos, after, guard⟩ := o
  simp only at hc H
  cases op with
  | alloc t =>
    simp only [cop] at hc; split at hc <;> cases hc
    rename_i z hz
    simp only [evM, Option.some.injEq, Prod.mk.injEq] at hv; obtain ⟨rfl, rfl⟩ := hv
    obtain ⟨zx, hzr, hzv⟩ := run_zeroOf hz
    exact makes_of rfl (S := Instr.alloc t true (.tuple #[])) (w' := w.alloc (.cells zx.cells t)) (x := .pointer (some ⟨w.heap.size, 0, none⟩)) (by simp [Instr.alloc, hzr, newVar, newRow]) rfl rfl rfl
      (ob_row0 (hzv w0 ρ).cells t) fun ρ' n hl hn => by simpa using VRel.ptr (off := 0) hn
  | box t x =>
    simp only [cop] at hc; split at hc <;> cases hc
    rename_i xo hxo
    simp only [evM] at hv
    split at hv <;> simp only [Option.some.injEq, Prod.mk.injEq, reduceCtorEq] at hv
    rename_i u hu
    obtain ⟨rfl, rfl⟩ := hv
    have hx := H x (by simp [Op.operands]) xo u hxo hu
    exact makes_of rfl (S := Instr.box t (e x)) (w' := w.alloc (.cells (e x).cells t)) (x := .pointer (some ⟨w.heap.size, 0, none⟩)) (by simp [Instr.box, newVar, newRow]) rfl rfl rfl
      (ob_row0 hx.cells t) fun ρ' n hl hn => by simpa using VRel.ptr (off := 0) hn
  | buildSlice t len parts =>
    simp only [cop] at hc
    split at hc <;> try (cases hc; done)
    rename_i el hel
    split at hc <;> try (cases hc; done)
    rename_i sz z hsz hz
    cases hq : (Nat.ble (len * sz) 16777216 && Nat.beq z.cells.length sz && Nat.ble 1 sz) with
    | false => simp [hq] at hc
    | true =>
      simp only [hq, cond_true] at hc
      split at hc <;> cases hc
      rename_i l hl
      simp only [Bool.and_eq_true] at hq
      have q1 := Nat.le_of_ble_eq_true hq.1.1
      have q2 := Nat.eq_of_beq_eq_true hq.1.2
      have q3 := Nat.le_of_ble_eq_true hq.2
      simp only [evM] at hv
      split at hv <;> simp only [Option.some.injEq, Prod.mk.injEq, reduceCtorEq] at hv
      rename_i cs hcs
      obtain ⟨rfl, rfl⟩ := hv
      obtain ⟨zx, hzr, hzv⟩ := run_zeroOf hz
      have hu : P.underlying t = some (.slice el) := by unfold okSlice at hel; split at hel <;> simp_all
      have hrep : ∃ g : Array Value, ((len * sz = 0 ∧ g = #[]) ∨ (len * sz ≠ 0 ∧ g = zx.cells)) ∧
          LRel w0 ρ (repZero z.cells len) ((Array.range (len * sz)).map (fun j => g[j % g.size]!)).toList := by
        by_cases h0 : len * sz = 0
        · refine ⟨#[], .inl ⟨h0, rfl⟩, ?_⟩
          have := rep_rel (hzv w0 ρ).cells len #[] (fun h => by rw [q2] at h; omega)
          rwa [q2] at this
        · refine ⟨zx.cells, .inr ⟨h0, rfl⟩, ?_⟩
          have := rep_rel (hzv w0 ρ).cells len zx.cells (fun _ => rfl)
          rwa [q2] at this
      obtain ⟨g, hg1, hg2⟩ := hrep
      obtain ⟨out, f1, f2⟩ := fill_sound (e := e) (cells' := (Array.range (len * sz)).map (fun j => g[j % g.size]!)) hl hcs hg2 (fun p hp => H p.2 (by simp [Op.operands]; exact ⟨p.1, by simpa using hp⟩))
      have hol : out.size = len * sz := by
        have h1 := f2.1
        have h2 : cs.length = len * sz := by
          have : ∀ {ps : List (Nat × Nat × Opd)} {a b : List V}, fillV env a ps = some b → b.length = a.length := by
            intro ps
            induction ps with
            | nil => intro a b h; simp [fillV] at h; rw [h]
            | cons p ps ih =>
              intro a b h
              obtain ⟨p1, p2, p3⟩ := p
              simp only [fillV] at h
              split at h <;> try (simp at h; done)
              rename_i v _
              cases hb : (Nat.beq v.cells.length p2 && Nat.ble (p1 + v.cells.length) a.length) with
              | false => simp [hb] at h
              | true =>
                simp only [hb, cond_true] at h
                simp only [Bool.and_eq_true] at hb
                rw [ih h, spl_size _ _ _ (Nat.le_of_ble_eq_true hb.2)]
          rw [this hcs, repZero_length, q2]
        simp at h1; omega
      refine makes_of rfl (S := Instr.buildSlice t len (parts.map fun p => (p.1, e p.2))) (w' := w.alloc (.cells out el)) (x := .slice (some ⟨w.heap.size, 0, none⟩) len len) ?_ rfl rfl rfl
        (ob_row0 f2 el) fun ρ' n hl hn => .slice hn (Nat.le_refl _) (fun _ => rfl) (Nat.le_refl _) (.inr ⟨by simp, by simp [hol]⟩)
      unfold Instr.buildSlice
      simp only [Sem.run_bind, run_underlying hu, Result.andThen_ok, run_sizeO hsz]
      rw [if_neg (by omega)]
      have hfill : Instr.fill (fun i => some (i * sz, sz)) ((Array.range (len * sz)).map (fun j => g[j % g.size]!)) (parts.map fun p => (p.1, e p.2)).toList = some out := by simpa using f1
      rcases hg1 with ⟨h0, rfl⟩ | ⟨h0, rfl⟩
      · rw [if_pos h0]
        simp only [Sem.run_bind, Sem.run_pure, Result.andThen_ok, hfill]
        simp [newRow]
      · rw [if_neg h0]
        simp only [Sem.run_bind, Sem.run_pure, Result.andThen_ok, hzr, hfill]
        simp [newRow]
  | makeMap t r =>
    simp only [cop] at hc
    split at hc <;> cases hc <;> simp only [evM, Option.some.injEq, Prod.mk.injEq] at hv <;> obtain ⟨rfl, rfl⟩ := hv
    · exact makes_of (S := Instr.makeMap t none) rfl (lim := 0) (w' := w.alloc (.map #[] 0)) (x := .map (some w.heap.size)) (by simp [Instr.makeMap]) rfl rfl rfl ⟨#[], rfl, rfl, fun i h => by simp at h⟩ fun ρ' n hl hn => .map hn
    · rename_i k n hu
      have hx := (H (.const (.int k n)) (by simp [Op.operands]) (.c (.int k n)) (.int k n) rfl rfl).int_inv
      exact makes_of (S := Instr.makeMap t (some (e (.const (.int k n))))) rfl (lim := 0) (w' := w.alloc (.map #[] 0)) (x := .map (some w.heap.size)) (by simp [Instr.makeMap, run_underlying hu, hx, asInt, asIntOf]) rfl rfl rfl ⟨#[], rfl, rfl, fun i h => by simp at h⟩ fun ρ' n hl hn => .map hn
  | makeSlice t l c =>
    simp only [cop] at hc
    split at hc <;> try (cases hc; done)
    rename_i el hel
    split at hc <;> try (cases hc; done)
    rename_i sz bs z lo co hsz hbs hz hlo hco
    cases hq : (Nat.beq z.cells.length sz && Nat.ble 1 sz) with
    | false => simp [hq] at hc
    | true =>
      simp only [hq, cond_true, COp.m.injEq] at hc; subst hc
      simp only [Bool.and_eq_true] at hq
      have q2 := Nat.eq_of_beq_eq_true hq.1
      simp only [evM] at hv
      split at hv <;> try (simp at hv; done)
      rename_i lv cv hlv hcv
      cases hcn : asNat cv big with
      | none => simp [hcn] at hv
      | some cn =>
        cases hln : asNat lv cn with
        | none => simp [hcn, hln] at hv
        | some ln =>
          simp only [hcn, hln] at hv
          cases hb : Nat.ble (cn * bs) big with
          | false => simp [hb] at hv
          | true =>
            simp only [hb, cond_true, Option.some.injEq, Prod.mk.injEq] at hv; obtain ⟨rfl, rfl⟩ := hv
            have hb' := Nat.le_of_ble_eq_true hb
            obtain ⟨k1, m1, rfl, a1, a2, a3⟩ := asNat_inv hcn
            obtain ⟨k2, m2, rfl, b1, b2, b3⟩ := asNat_inv hln
            have hx1 := (H c (by simp [Op.operands]) co _ hco hcv).int_inv
            have hx2 := (H l (by simp [Op.operands]) lo _ hlo hlv).int_inv
            obtain ⟨zx, hzr, hzv⟩ := run_zeroOf hz
            have hu : P.underlying t = some (.slice el) := by unfold okSlice at hel; split at hel <;> simp_all
            have hm1 : m1 = (cn : Int) := by omega
            have hm2 : m2 = (ln : Int) := by omega
            subst hm1; subst hm2
            have hcb : cn ≤ big := by omega
            have hlb : ln ≤ big := by omega
            obtain ⟨ii, hii, hib⟩ : ∃ i, P.info? el = some i ∧ i.bytes = bs := by
              unfold bytesO at hbs; split at hbs <;> simp at hbs
              rename_i i hi; exact ⟨i, hi, hbs⟩
            have hrep : ∃ g : Array Value, ((cn * sz = 0 ∧ g = #[]) ∨ (cn * sz ≠ 0 ∧ g = zx.cells)) ∧
                LRel w0 ρ (repZero z.cells cn) ((Array.range (cn * sz)).map (fun j => g[j % g.size]!)).toList := by
              by_cases h0 : cn * sz = 0
              · refine ⟨#[], .inl ⟨h0, rfl⟩, ?_⟩
                have := rep_rel (hzv w0 ρ).cells cn #[] (fun h => by rw [q2] at h; omega)
                rwa [q2] at this
              · refine ⟨zx.cells, .inr ⟨h0, rfl⟩, ?_⟩
                have := rep_rel (hzv w0 ρ).cells cn zx.cells (fun _ => rfl)
                rwa [q2] at this
            obtain ⟨g, hg1, hg2⟩ := hrep
            have hbi : ((bs : Int)) * (cn : Int) ≤ (big : Int) := by rw [Int.mul_comm]; exact_mod_cast hb'
            have hbig : (big : Int) < 2 ^ 48 := by unfold big; omega
            refine makes_of rfl (S := Instr.makeSlice t (e l) (e c)) (w' := w.alloc (.cells ((Array.range (cn * sz)).map (fun j => g[j % g.size]!)) el)) (x := .slice (some ⟨w.heap.size, 0, none⟩) ln cn) ?_ rfl rfl rfl
              (ob_row0 hg2 el) fun ρ' n hl hn => .slice hn (Nat.le_refl _) (fun _ => rfl) (by omega) (.inr ⟨by simp, by simp⟩)
            unfold Instr.makeSlice
            simp only [Sem.run_bind, run_underlying hu, Result.andThen_ok, hx1, hx2, asInt, asIntOf, Sem.run_pure, typeInfo, run_program, hii, hib, wrap_small hcb, wrap_small hlb]
            rw [if_neg (by
              simp only [Bool.or_eq_true, decide_eq_true_eq, not_or]
              refine ⟨⟨⟨?_, ?_⟩, ?_⟩, ?_⟩ <;> omega)]
            simp only [Sem.run_bind, run_askRoom, Result.andThen_ok, run_sizeO hsz, Int.toNat_natCast]
            rcases hg1 with ⟨h0, rfl⟩ | ⟨h0, rfl⟩
            · rw [if_pos h0]; simp [newRow]
            · rw [if_neg h0]; simp [newRow, hzr]
  | convert src dst x =>
    simp only [cop] at hc
    split at hc <;> try (cases hc; done)
    · rename_i el xo hs hd hxo
      cases hu8 : isU8 P el <;> simp [hu8] at hc
    · rename_i el xo hs hd hxo
      cases hu8 : isU8 P el with
      | false => simp [hu8] at hc
      | true =>
        simp only [hu8, cond_true, COp.m.injEq] at hc; subst hc
        have he : P.underlying el = some (.int .u8) := by unfold isU8 at hu8; split at hu8 <;> simp_all
        simp only [evM] at hv
        split at hv <;> simp only [Option.some.injEq, Prod.mk.injEq, reduceCtorEq] at hv
        rename_i b hb
        obtain ⟨rfl, rfl⟩ := hv
        obtain ⟨p, hp, hp2⟩ := (H x (by simp [Op.operands]) xo _ hxo hb).str_inv
        exact toBytes_sound hs hd he hp hp2 w
  | move x => simp only [cop] at hc; split at hc <;> cases hc
  | assign x => simp only [cop] at hc; split at hc <;> cases hc
  | pick c a b => simp only [cop] at hc; split at hc <;> cases hc
  | build t parts =>
    simp only [cop] at hc
    split at hc <;> try (cases hc; done)
    split at hc <;> try (cases hc; done)
    split at hc <;> cases hc
  | load t a => simp only [cop] at hc; split at hc <;> cases hc
  | store t a x => simp only [cop] at hc; split at hc <;> cases hc
  | nilCheck x => simp only [cop] at hc; split at hc <;> cases hc
  | binOp op t x y yt => simp only [cop] at hc; split at hc <;> cases hc
  | unOp op t x => simp only [cop] at hc; split at hc <;> cases hc
  | makeInterface t x => simp only [cop] at hc; split at hc <;> cases hc
  | makeFunc fn first captured =>
    cases fn <;> simp only [cop] at hc <;> try (cases hc; done)
    split at hc <;> cases hc
  | slice t x lo hi mx =>
    simp only [cop] at hc
    split at hc <;> try (cases hc; done)
    · split at hc <;> try (cases hc; done)
      rename_i lo' hi' mx' _ _ _ _ _ _ sz hsz
      cases hq : (mx'.isSome && !hi'.isSome) <;> rw [hq] at hc <;> cases hc
    · split at hc <;> cases hc
  | fieldAddr t x f =>
    simp only [cop] at hc
    split at hc <;> try (cases hc; done)
    split at hc <;> try (cases hc; done)
    split at hc <;> cases hc
  | field t x f =>
    simp only [cop] at hc
    split at hc <;> try (cases hc; done)
    split at hc <;> try (cases hc; done)
    split at hc <;> cases hc
  | indexAddr t x i =>
    simp only [cop] at hc
    split at hc <;> try (cases hc; done)
    · split at hc <;> cases hc
    · split at hc <;> cases hc
  | index t x i => simp only [cop] at hc; split at hc <;> cases hc
  | lookup t x i ok =>
    simp only [cop] at hc
    split at hc <;> try (cases hc; done)
    split at hc <;> cases hc
  | extract x i => simp only [cop] at hc; split at hc <;> cases hc
  | typeAssert x xt t ok =>
    cases ok <;> simp only [cop] at hc <;> try (cases hc; done)
    split at hc <;> cases hc
  | call c =>
    simp only [cop] at hc
    split at hc
    · split at hc <;> cases hc
    · exact absurd hc cb_m
    · split at hc <;> cases hc
    · cases hc
  | next x b => cases b <;> simp only [cop] at hc <;> (try split at hc) <;> cases hc
  | mapUpdate t m k x => simp only [cop] at hc; split at hc <;> (try split at hc) <;> cases hc
  | insert t m k x => simp only [cop] at hc; split at hc <;> (try split at hc) <;> cases hc
  | range t x => simp only [cop] at hc; split at hc <;> cases hc
  | _ => simp [cop] at hc
end
end Go.RE
