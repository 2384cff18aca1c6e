/- What the second evaluator answers, every run of the model answers. -/
import Derived.Test.YtigkmaeaoaejiaaGreatDoorPart21
import Derived.Test.YtigkmaeaoaejiaaGreatDoorPart22
import Derived.Test.YtigkmaeaoaejiaaGreatDoorCards
import Derived.Test.YtigkmaeaoaejiaaGreatDoorTie
import Derived.WalkKit
import Derived.ProofKit
import Derived.OpenShut
import Derived.ChangeOld
import Derived.Below
import Derived.Deep.DeepHandedRow
import Derived.Lib.LaidTab
import Derived.LaidHandle
import Derived.Stop.Joined
import Derived.Test.YtigkmaeaoaejiaaGreatDoorPart14
set_option linter.unusedVariables false
set_option linter.unusedSimpArgs false
set_option linter.constructorNameAsVariable false
namespace Go.RE
open Go.Proofs.YtigkmaeaoaejiaaGreatDoor
theorem sort_sound (W : World) : PSound Go.Proofs.Tryz.prog W 90 1 pSort :=
  psort_sound ⟨_, _, Go.Proofs.Tryz.func90, rfl, rfl⟩ (fun blk off cap ss w h1 h2 h3 => Go.Proofs.Tryz.slices_Sort_string blk off cap ss w h1 h2 h3) (fun p cap w => Go.Proofs.Tryz.slices_Sort_string_none p cap w) W
theorem ok_none : Ok ⟨([] : List Uo).length, fun i => i, images (fun i => i) (fun _ => none) ([] : List Uo).length, fun _ => none, noSt, fun i => ([] : List Uo)[i]? = some .gone⟩ (fun i => i) (fun _ => none) (fun _ => none) ⟨[], [], 0⟩ .e noSt :=
  ⟨fun t u hu => by simp [look] at hu, fun i o ho => by simp at ho, (fun b r hb => by cases hb), (fun g I hI => by cases hI), fun n _ => by simp [noSt, St.get], fun i j hi => by simp at hi, (fun g g' I I' hI => by cases hI), fun i g I hi => by simp at hi, fun i hi => by simp at hi,
    (fun g I hI => by cases hI), fun i hi => by simp at hi, rfl, (fun i off I hI => by cases hI), Nat.le_refl _, fun i hi => rfl, fun b r hb => hb, Nat.le_refl _, fun b hb _ => ⟨rfl, fun i hi => by simp at hi, (fun g I hI => by cases hI), fun r hr => hr⟩, fun i hi => by simp at hi⟩
theorem law_ve {W : World} (hg : ErrTy W) {f : Nat} {us : List U} {vs : List V} {args : Array Value} {h' : List Uo} {fl' : Nat} (hrun : gF vTab meths muts prims f us [] 0 = some (.bool true, h', fl')) (hu : LUall us vs) (hl : LRel W noRen vs args.toList) :
    Calls Go.Proofs.Tryz.prog f args W fun e W' => e = .returned (.bool true) ∧ Kept W W' := by
  obtain ⟨N, hN⟩ := gF_ok (C := reTab) tabs f us [] 0 _ h' fl' hrun (fun i => i) (fun _ => none) (fun _ => none) noSt vs ok_none ⟨Nat.le_refl _, fun i o ho => by simp at ho⟩ (fun _ => rfl) (hu _ _)
  have h2 : callP reTab meths N f vs noSt fun v _ => v = .bool true := evF_mono (Nat.le_refl _) (fun v st' hh => by
    obtain ⟨_, σ', Z', ω', _, _, hr⟩ := hh
    cases hr
    rfl) hN
  refine (law_calls (csound hg (sort_sound W)) msound mixed hl h2).mono fun e W' h => ?_
  obtain ⟨⟨x, ρ', rfl, hx⟩, hk⟩ := h
  cases hx
  exact ⟨rfl, hk⟩
end Go.RE
namespace Go.RE
open Go.Proofs
section
variable {H : Type} {enc : TypeId × Value → H} {w : World} {bk : DataW H → Nat} {B : Nat}
theorem OpU.imp {P : Program} {t : TypeId} {S S' : List U → Prop} (h : OpU enc P w bk B t S) (hs : ∀ us, S us → S' us) : OpU enc P w bk B t S' := fun fuel cs x hx hb => by
  obtain ⟨vs, us, h1, h2, h3⟩ := h fuel cs x hx hb
  exact ⟨vs, us, h1, hs us h2, h3⟩
theorem rows_map {α : Type} {f : α → List U} {S : List U → Prop} {D : α → Prop} (h : ∀ r, S r → ∃ a, r = f a ∧ D a) : ∀ {rows : List (List U)}, (∀ r ∈ rows, S r) → ∃ l : List α, rows = l.map f ∧ ∀ a ∈ l, D a := by
  intro rows
  induction rows with
  | nil => intro _; exact ⟨[], rfl, fun a ha => by cases ha⟩
  | cons r rows ih =>
    intro hr
    obtain ⟨a, rfl, ha⟩ := h r (hr r List.mem_cons_self)
    obtain ⟨l, rfl, hl⟩ := ih fun x hx => hr x (List.mem_cons_of_mem _ hx)
    exact ⟨a :: l, rfl, fun x hx => by
      rcases List.mem_cons.1 hx with rfl | hx
      · exact ha
      · exact hl x hx⟩
theorem opBytes (hk : BkOk bk) : OpU enc Tryz.prog w bk B 37 fun us => ∃ d : By, us = [.sl 1 (bytesU d)] ∧ d.length ≤ B := by
  refine (opU_slice hk Tryz.underlying37 (c := 1) (by kernel_rfl) (by omega) (opU_int Tryz.underlying5)).imp fun us h => ?_
  obtain ⟨rows, rfl, h1, h2, h3⟩ := h
  obtain ⟨d, rfl, _⟩ := rows_map (f := byteU) (D := fun _ => True) (S := fun r => ∃ n, r = [U.int .u8 n] ∧ (Lit.int IntKind.u8 n).wf = true) (fun r hr => by
    obtain ⟨n, rfl, hn⟩ := hr
    have hb : 0 ≤ n ∧ n < 256 := by
      simp [Lit.wf, IntKind.min, IntKind.max, IntKind.bits, IntKind.signed] at hn
      omega
    refine ⟨UInt8.ofNat n.toNat, ?_, trivial⟩
    have : ((UInt8.ofNat n.toNat).toNat : Int) = n := by
      have e1 : (UInt8.ofNat n.toNat).toNat = n.toNat % 256 := UInt8.toNat_ofNat'
      rw [e1]
      omega
    simp only [byteU, this]) fun r hr => (h1 r hr).1
  exact ⟨d, rfl, by simpa [bytesU] using h2⟩
theorem opPair (hk : BkOk bk) : OpU enc Tryz.prog w bk B 115 fun us => ∃ p : Pr, us = pairC p ∧ p.1.length ≤ B ∧ p.2.length ≤ B := by
  refine (opU_struct hk Tryz.underlying115 (Ss := [_, _]) (by kernel_rfl) ⟨opU_string hk Tryz.underlying9, opBytes hk, trivial⟩).imp fun us h => ?_
  obtain ⟨a, b, rfl, ⟨k, rfl, hk'⟩, a2, b2, rfl, ⟨d, rfl, hd⟩, rfl⟩ := h
  exact ⟨(k, d), rfl, hk', hd⟩
theorem opPairs (hk : BkOk bk) : OpU enc Tryz.prog w bk B 22 fun us => ∃ l : List Pr, us = [.sl 2 (l.map pairC)] ∧ (∀ p ∈ l, p.1.length ≤ B ∧ p.2.length ≤ B) ∧ l.length ≤ B ∧ l.length ≤ maxLen := by
  refine (opU_slice hk Tryz.underlying22 (c := 2) (by kernel_rfl) (by omega) (opPair hk)).imp fun us h => ?_
  obtain ⟨rows, rfl, h1, h2, h3⟩ := h
  obtain ⟨l, rfl, hl⟩ := rows_map (f := pairC) (D := fun p => p.1.length ≤ B ∧ p.2.length ≤ B) (S := fun us => ∃ p : Pr, us = pairC p ∧ p.1.length ≤ B ∧ p.2.length ≤ B) (fun r hr => hr) fun r hr => (h1 r hr).1
  exact ⟨l, rfl, hl, by simpa using h2, by simpa using h3⟩
end
end Go.RE
namespace Go.Proofs.YtigkmaeaoaejiaaGreatDoor.Ends
open Go.ChangeShapes Go.WideShapes Go.ChangeAt Go.RowKit Go.RE
theorem own : ownKnob Tryz.prog.godebug = Option.none := by kernel_rfl
theorem laidOut : laidOutB Tryz.prog = true := by kernel_rfl
theorem et : Tryz.prog.globalNamed "errors.errorType" = some 0 := by kernel_rfl
theorem rt : (Tryz.prog.cutTypes.find? (·.1 == "internal/reflectlite.rtype")).map (·.2) = some 330 := by kernel_rfl
theorem oneRow : ((List.range 388).filter fun t => Tryz.prog.rowNamed t [101, 114, 114, 111, 114]) = [39] := by kernel_rfl
theorem sizeT : Tryz.prog.types.size = 388 := by kernel_rfl
theorem errTy {W : World} (h : laidMetH Tryz.prog [("errors.errorType", Rows.laid_errors_errorType)] W) : ErrTy W := by
  have h' : laidMet Tryz.prog [] W ∧ handlesMet Tryz.prog [("errors.errorType", Rows.laid_errors_errorType)] W := h
  obtain ⟨name, u, ty, e1, e2, e3, e4, e5⟩ := h'.2 _ (List.mem_singleton.2 rfl)
  have en : name = [101, 114, 114, 111, 114] := (Option.some.inj e1).symm
  subst en
  obtain rfl := Option.some.inj (rt.symm.trans e2)
  have hm : ty ∈ (List.range 388).filter fun t => Tryz.prog.rowNamed t [101, 114, 114, 111, 114] := List.mem_filter.2 ⟨List.mem_range.2 (by rw [← sizeT]; exact e3), e4⟩
  rw [oneRow] at hm
  obtain rfl := List.mem_singleton.1 hm
  have hh : typeHandle Tryz.prog 39 = .pointer (some ⟨1, 39, Option.none⟩) := by kernel_rfl
  rw [hh] at e5
  simpa using World.var?_cell et e5 0
noncomputable def laidWorld (os : Os) : World :=
  let w0 := World.holding Tryz.prog os ⟨#[], #[], []⟩
  { w0 with heap := w0.heap.modify 0 fun
      | .cells _ t frozen => .cells #[.iface 330 (.agg #[.pointer (some ⟨1, 39, Option.none⟩)])] t frozen
      | o => o }
theorem bkOk {H : Type} : BkOk (Rows.uptoBulk (H := H)) := by
  have part : ∀ (l : List (DataW H)) d, d ∈ l → Rows.uptoBulk d ≤ Rows.uptoBulkAll l := by
    intro l
    induction l with
    | nil => intro d h; cases h
    | cons x r ih =>
      intro d h
      simp only [Rows.uptoBulkAll]
      rcases List.mem_cons.1 h with rfl | h
      · omega
      · have := ih d h; omega
  have one : ∀ d : DataW H, 1 ≤ Rows.uptoBulk d := by
    intro d
    cases d with
    | lit l => cases l <;> simp [Rows.uptoBulk]
    | _ => simp [Rows.uptoBulk]
  have len : ∀ l : List (DataW H), l.length ≤ Rows.uptoBulkAll l := by
    intro l
    induction l with
    | nil => simp
    | cons x r ih => have := one x; simp only [Rows.uptoBulkAll, List.length_cons]; omega
  refine ⟨fun b => by simp [Rows.uptoBulk], fun es sp => ?_, fun es sp d hd => ?_, fun ps d hd => ?_⟩
  · have := len es; simp only [Rows.uptoBulk]; omega
  · have := part es d hd; simp only [Rows.uptoBulk]; omega
  · have := part ps d hd; simp only [Rows.uptoBulk]; omega
theorem bulk_of {H : Type} {l : List (DataW H)} (hk : Rows.uptoSmall H l = true) : Rows.uptoBulkAll l ≤ 1048576 := of_decide_eq_true hk
end Go.Proofs.YtigkmaeaoaejiaaGreatDoor.Ends
namespace Go.Proofs.YtigkmaeaoaejiaaGreatDoor.NoneDone
open Go.ChangeShapes Go.WideShapes Go.ChangeAt Go.RowKit Go.RE Go.Proofs.YtigkmaeaoaejiaaGreatDoor.Ends
theorem laid_met (os : Os) : laidMetH Tryz.prog Rows.cacheNoneUptoRow.laid ((laidWorld os).forCall (fun _ _ => 0) ⟨#[], #[.agg #[.int .i64 0, .int .u8 0, .string ⟨#[]⟩, .string ⟨#[]⟩, .string ⟨#[]⟩, .string ⟨#[]⟩, .int .u64 0, .int .u64 0, .int .u64 0, .int .i64 0, .slice Option.none 0 0, .string ⟨#[]⟩, .int .u64 0, .int .i64 0, .string ⟨#[]⟩, .int .u64 0, .int .i64 0, .int .u64 0, .int .i64 0, .int .i64 0, .string ⟨#[]⟩, .string ⟨#[]⟩, .int .u64 0, .string ⟨#[]⟩, .int .i64 0, .int .i64 0, .string ⟨#[]⟩], .slice Option.none 0 0, .string ⟨#[]⟩], []⟩).memory :=
  laidMetH_of_parts (laidMet_nil _ _) (by kernel_rfl)
theorem reads (os : Os) {H : Type} (enc : TypeId × Value → H) : ∃ places, DataW.whole enc Tryz.prog ((laidWorld os).forCall (fun _ _ => 0) ⟨#[], #[.agg #[.int .i64 0, .int .u8 0, .string ⟨#[]⟩, .string ⟨#[]⟩, .string ⟨#[]⟩, .string ⟨#[]⟩, .int .u64 0, .int .u64 0, .int .u64 0, .int .i64 0, .slice Option.none 0 0, .string ⟨#[]⟩, .int .u64 0, .int .i64 0, .string ⟨#[]⟩, .int .u64 0, .int .i64 0, .int .u64 0, .int .i64 0, .int .i64 0, .string ⟨#[]⟩, .string ⟨#[]⟩, .int .u64 0, .string ⟨#[]⟩, .int .i64 0, .int .i64 0, .string ⟨#[]⟩], .slice Option.none 0 0, .string ⟨#[]⟩], []⟩).memory Tryz.f10.params.toList Rows.cacheNoneSpec.vars false #[Value.agg #[.int .i64 0, .int .u8 0, .string ⟨#[]⟩, .string ⟨#[]⟩, .string ⟨#[]⟩, .string ⟨#[]⟩, .int .u64 0, .int .u64 0, .int .u64 0, .int .i64 0, .slice Option.none 0 0, .string ⟨#[]⟩, .int .u64 0, .int .i64 0, .string ⟨#[]⟩, .int .u64 0, .int .i64 0, .int .u64 0, .int .i64 0, .int .i64 0, .string ⟨#[]⟩, .string ⟨#[]⟩, .int .u64 0, .string ⟨#[]⟩, .int .i64 0, .int .i64 0, .string ⟨#[]⟩], .slice Option.none 0 0, .string ⟨#[]⟩].toList 8 = some ([.agg [.lit (.int .i64 0), .agg [.lit (.int .u8 0), .lit (.string []), .lit (.string []), .lit (.string []), .lit (.string []), .lit (.int .u64 0), .lit (.int .u64 0), .lit (.int .u64 0)], .lit (.int .i64 0), .nil, .agg [.lit (.string []), .lit (.int .u64 0), .lit (.int .i64 0), .lit (.string []), .lit (.int .u64 0)], .agg [.lit (.int .i64 0), .lit (.int .u64 0), .lit (.int .i64 0)], .agg [.lit (.int .i64 0), .lit (.string []), .lit (.string []), .lit (.int .u64 0)], .agg [.lit (.string []), .agg [.lit (.int .i64 0), .lit (.int .i64 0), .lit (.string [])]]], .nil, .lit (.string [])], [], places) :=
  ⟨[], by kernel_rfl⟩
theorem u64_nat {n : Int} (h : (Lit.int IntKind.u64 n).wf = true) : ∃ m : Nat, n = (m : Int) ∧ m < 18446744073709551616 := by
  have hb : 0 ≤ n ∧ n < 18446744073709551616 := by
    simp [Lit.wf, IntKind.min, IntKind.max, IntKind.bits, IntKind.signed] at h
    omega
  exact ⟨n.toNat, by omega, by omega⟩
section
variable {H : Type} {enc : TypeId × Value → H} {w : World} {B : Nat}
theorem opRef : OpU enc Tryz.prog w Rows.uptoBulk B 75 fun us => ∃ r : Rf, us = refC r ∧ r.name.length ≤ B ∧ r.key.length ≤ B ∧ r.id.length ≤ B ∧ r.inst.length ≤ B := by
  refine (opU_struct bkOk Tryz.underlying75 (Ss := [_, _, _, _, _, _, _, _]) (by kernel_rfl) ⟨opU_int Tryz.underlying5, opU_string bkOk Tryz.underlying9, opU_string bkOk Tryz.underlying9, opU_string bkOk Tryz.underlying9, opU_string bkOk Tryz.underlying9, opU_int Tryz.underlying73, opU_int Tryz.underlying73, opU_int Tryz.underlying73, trivial⟩).imp fun us h => ?_
  obtain ⟨_, _, rfl, ⟨k, rfl, hk⟩, _, _, rfl, ⟨s1, rfl, l1⟩, _, _, rfl, ⟨s2, rfl, l2⟩, _, _, rfl, ⟨s3, rfl, l3⟩, _, _, rfl, ⟨s4, rfl, l4⟩, _, _, rfl, ⟨n1, rfl, _⟩, _, _, rfl, ⟨n2, rfl, _⟩, _, _, rfl, ⟨n3, rfl, _⟩, rfl⟩ := h
  have hb : 0 ≤ k ∧ k < 256 := by
    simp [Lit.wf, IntKind.min, IntKind.max, IntKind.bits, IntKind.signed] at hk
    omega
  refine ⟨⟨Go.RE.byteOf k, s1, s2, s3, s4, n1, n2, n3⟩, ?_, l1, l2, l3, l4⟩
  simp [refC, Go.RE.byteOf_eq hb.1 hb.2]
theorem opIn : OpU enc Tryz.prog w Rows.uptoBulk B 77 fun us => ∃ x : In, us = inC x ∧ x.d.length ≤ B ∧ x.c.length ≤ B ∧ x.v < 18446744073709551616 ∧ x.nx < 18446744073709551616 := by
  refine (opU_struct bkOk Tryz.underlying77 (Ss := [_, _, _, _, _]) (by kernel_rfl) ⟨opU_string bkOk Tryz.underlying9, opU_int Tryz.underlying73, opU_int Tryz.underlying3, opU_string bkOk Tryz.underlying9, opU_int Tryz.underlying73, trivial⟩).imp fun us h => ?_
  obtain ⟨_, _, rfl, ⟨s1, rfl, l1⟩, _, _, rfl, ⟨n1, rfl, w1⟩, _, _, rfl, ⟨n2, rfl, _⟩, _, _, rfl, ⟨s2, rfl, l2⟩, _, _, rfl, ⟨n3, rfl, w3⟩, rfl⟩ := h
  obtain ⟨m1, rfl, b1⟩ := u64_nat w1
  obtain ⟨m3, rfl, b3⟩ := u64_nat w3
  exact ⟨⟨s1, m1, n2, s2, m3⟩, rfl, l1, l2, b1, b3⟩
theorem opTk : OpU enc Tryz.prog w Rows.uptoBulk B 79 fun us => ∃ x : Tk, us = tkC x ∧ x.sc < 18446744073709551616 := by
  refine (opU_struct bkOk Tryz.underlying79 (Ss := [_, _, _]) (by kernel_rfl) ⟨opU_int Tryz.underlying3, opU_int Tryz.underlying73, opU_int Tryz.underlying3, trivial⟩).imp fun us h => ?_
  obtain ⟨_, _, rfl, ⟨n1, rfl, _⟩, _, _, rfl, ⟨n2, rfl, w2⟩, _, _, rfl, ⟨n3, rfl, _⟩, rfl⟩ := h
  obtain ⟨m2, rfl, b2⟩ := u64_nat w2
  exact ⟨⟨n1, m2, n3⟩, rfl, b2⟩
theorem opAr : OpU enc Tryz.prog w Rows.uptoBulk B 81 fun us => ∃ x : Ar, us = armC x ∧ x.name.length ≤ B ∧ x.key.length ≤ B := by
  refine (opU_struct bkOk Tryz.underlying81 (Ss := [_, _, _, _]) (by kernel_rfl) ⟨opU_int Tryz.underlying3, opU_string bkOk Tryz.underlying9, opU_string bkOk Tryz.underlying9, opU_int Tryz.underlying73, trivial⟩).imp fun us h => ?_
  obtain ⟨_, _, rfl, ⟨n1, rfl, _⟩, _, _, rfl, ⟨s1, rfl, l1⟩, _, _, rfl, ⟨s2, rfl, l2⟩, _, _, rfl, ⟨n2, rfl, _⟩, rfl⟩ := h
  exact ⟨⟨n1, s1, s2, n2⟩, rfl, l1, l2⟩
theorem opVal : OpU enc Tryz.prog w Rows.uptoBulk B 83 fun us => ∃ (k n : Int) (s : By), us = [.int .i64 k, .int .i64 n, .str s] ∧ s.length ≤ B := by
  refine (opU_struct bkOk Tryz.underlying83 (Ss := [_, _, _]) (by kernel_rfl) ⟨opU_int Tryz.underlying3, opU_int Tryz.underlying2, opU_string bkOk Tryz.underlying9, trivial⟩).imp fun us h => ?_
  obtain ⟨_, _, rfl, ⟨n1, rfl, _⟩, _, _, rfl, ⟨n2, rfl, _⟩, _, _, rfl, ⟨s1, rfl, l1⟩, rfl⟩ := h
  exact ⟨n1, n2, s1, rfl, l1⟩
theorem opVr : OpU enc Tryz.prog w Rows.uptoBulk B 85 fun us => ∃ x : Vr, us = varC x ∧ x.name.length ≤ B ∧ x.s.length ≤ B := by
  refine (opU_struct bkOk Tryz.underlying85 (Ss := [_, _]) (by kernel_rfl) ⟨opU_string bkOk Tryz.underlying9, opVal, trivial⟩).imp fun us h => ?_
  obtain ⟨_, _, rfl, ⟨s1, rfl, l1⟩, _, _, rfl, ⟨k, n, s, rfl, l2⟩, rfl⟩ := h
  exact ⟨⟨s1, k, n, s⟩, rfl, l1, l2⟩
theorem opOpn : OpU enc Tryz.prog w Rows.uptoBulk 1048576 87 fun us => ∃ o : Opn, us = opnC o ∧ OpS o ∧ o.x.v < 18446744073709551616 ∧ o.x.nx < 18446744073709551616 ∧ o.t.sc < 18446744073709551616 := by
  refine (opU_struct bkOk Tryz.underlying87 (Ss := [_, _, _, _, _, _, _, _]) (by kernel_rfl) ⟨opU_int Tryz.underlying3, opRef, opU_int Tryz.underlying3, opBytes bkOk, opIn, opTk, opAr, opVr, trivial⟩).imp fun us h => ?_
  obtain ⟨_, _, rfl, ⟨d, rfl, _⟩, _, _, rfl, ⟨r, rfl, r1, r2, r3, r4⟩, _, _, rfl, ⟨n, rfl, _⟩, _, _, rfl, ⟨b, rfl, hb⟩, _, _, rfl, ⟨x, rfl, x1, x2, x3, x4⟩, _, _, rfl, ⟨t, rfl, t1⟩, _, _, rfl, ⟨a, rfl, a1, a2⟩, _, _, rfl, ⟨v, rfl, v1, v2⟩, rfl⟩ := h
  exact ⟨⟨d, r, n, b, x, t, a, v⟩, by simp [opnC], ⟨r1, r2, r3, r4, hb, x1, x2, a1, a2, v1, v2⟩, x3, x4, t1⟩
end
theorem law10 {M : Nat → String → Option Nat} {Q : Mut} {Pm : Nat → Option (List U → List Uo → Nat → Option (U × List Uo × Nat))} (hp : NoPm Pm) (hq : NoQ Q) (hs : Q 90 = some sortQ) (hc : Pm 49 = some cloneP) (ha : Pm 97 = some asP) (hm : M 58 "Get" = some 28) (o : Opn) (l : List Pr) (key : By) (hB : l.length ≤ 9223372036854775807)
    (hz : OpS o) (hv : o.x.v < 18446744073709551616) (hx : o.x.nx < 18446744073709551616) (hsc : o.t.sc < 18446744073709551616) :
    gF vTab M Q Pm 10 [.agg (opnC o), .sl 2 (l.map pairC), .str key] [] 0 = some (.bool true, [], 0) := t10 hp hq hs hc ha (t11 hp hq hc ha hm) o l key hB hz hv hx hsc
theorem walk {H : Type} {enc : TypeId × Value → H} {W : World} {a0 : Array Value} {v1 : Value} {s2 : ByteArray} {d0 d1 d2 : DataW H} {p0 p1 p2 : List MemPlace} (hL : laidMetH Tryz.prog Rows.cacheNoneUptoRow.laid W) (hc1 : v1.cells.toList = [v1])
    (h0 : DataW.Trod enc Tryz.prog W 0 (fun _ => true) true 87 (.agg a0) d0 p0) (h1 : DataW.Trod enc Tryz.prog W 0 (fun _ => true) true 22 v1 d1 p1) (h2 : DataW.Trod enc Tryz.prog W 0 (fun _ => true) true 9 (.string s2) d2 p2)
    (b0 : Rows.uptoBulk d0 ≤ 1048576) (b1 : Rows.uptoBulk d1 ≤ 1048576) (b2 : Rows.uptoBulk d2 ≤ 1048576) :
    Calls Tryz.prog 10 #[.agg a0, v1, .string s2] W fun e W' => e = .returned (.bool true) ∧ Kept W W' := by
  obtain ⟨f0, k0⟩ := h0
  obtain ⟨f1, k1⟩ := h1
  obtain ⟨f2, k2⟩ := h2
  obtain ⟨vs0, us0, l0, ⟨o, rfl, hz, hv, hx, hsc⟩, u0⟩ := opOpn f0 _ _ k0 b0
  obtain ⟨vs1, us1, l1, ⟨l, rfl, hl, _, hll⟩, u1⟩ := opPairs bkOk f1 _ _ k1 b1
  obtain ⟨vs2, us2, l2, ⟨key, rfl, hk⟩, u2⟩ := opU_string bkOk Tryz.underlying9 f2 _ _ k2 b2
  rw [hc1] at l1
  have la : LRel W noRen [.agg vs0] [.agg a0] := LRel.cons (.agg (by simpa [Value.cells] using l0.1) (fun i h h' => l0.2 i h (by simpa [Value.cells] using h'))) .nil
  have ua : LUall [.agg (opnC o)] [.agg vs0] := LUall.one fun σ Z => .agg (u0 σ Z).1 (u0 σ Z).2
  have hl4 : LRel W noRen ([.agg vs0] ++ (vs1 ++ vs2)) (#[.agg a0, v1, .string s2] : Array Value).toList := la.append (l1.append l2)
  exact law_ve (errTy hL) (law10 (M := meths) (Q := muts) (Pm := prims) noPm noQ rfl rfl rfl rfl o l key hll hz hv hx hsc) (ua.append (u1.append u2)) hl4
set_option maxRecDepth 100000 in
theorem lifted (os : Os) (started : os.Started) (H : Type) (enc : TypeId × Value → H) (F : Stop.Interp) :
    ReturnsInHanded {} Tryz.checked os 10 .any ((Rows.OpenSpec.upto Rows.cacheNoneSpec).preRow enc Tryz.prog Tryz.f10 Rows.cacheNoneUptoRow.domain false Rows.cacheNoneUptoRow.laid) (((Rows.OpenSpec.upto Rows.cacheNoneSpec).at F).post enc Tryz.prog Tryz.f10 false true false false) := by
  obtain ⟨places, hx⟩ := reads os enc
  refine returnsInHanded_of_row (C := Tryz.checked) (s := Rows.OpenSpec.upto Rows.cacheNoneSpec) own started (by kernel_rfl) Tryz.func10
    (witness_row_at (enc := enc) (C := Tryz.checked) false (laidWorld os) #[.agg #[.int .i64 0, .int .u8 0, .string ⟨#[]⟩, .string ⟨#[]⟩, .string ⟨#[]⟩, .string ⟨#[]⟩, .int .u64 0, .int .u64 0, .int .u64 0, .int .i64 0, .slice Option.none 0 0, .string ⟨#[]⟩, .int .u64 0, .int .i64 0, .string ⟨#[]⟩, .int .u64 0, .int .i64 0, .int .u64 0, .int .i64 0, .int .i64 0, .string ⟨#[]⟩, .string ⟨#[]⟩, .int .u64 0, .string ⟨#[]⟩, .int .i64 0, .int .i64 0, .string ⟨#[]⟩], .slice Option.none 0 0, .string ⟨#[]⟩] rfl (by kernel_rfl) (by kernel_rfl) (by kernel_rfl)
      (OpenSpec.preRow_of_cond 8 hx (by kernel_rfl) (fun k hk => by cases hk; kernel_rfl) (by kernel_rfl) (laid_met os))) ?_
  intro W base args ds gs before hval0 hW _ hcond _ hL _ _
  have hb := bulk_of (hcond _ rfl)
  have hval : ∀ (j : Nat) t v, Tryz.f10.params[j]? = some t → args[j]? = some v → Value.okWide Tryz.prog W .any base t v := hval0
  have hW' := hW
  obtain ⟨p, q, hA0, hV, rfl, hfz, hnd⟩ := hW
  have hA : DataW.TrodAll enc Tryz.prog W 0 (fun _ => true) true Tryz.f10.params.toList args.toList ds p := hA0
  rw [Tryz.params10] at hA hval
  obtain ⟨v0, vs0, d0, ds0, p0, q0, hargs, rfl, rfl, h0, r0⟩ := trodAll_cons hA
  obtain ⟨v1, vs1, d1, ds1, p1, q1, rfl, rfl, rfl, h1, r1⟩ := trodAll_cons r0
  obtain ⟨v2, vs2, d2, ds2, p2, q2, rfl, rfl, rfl, h2, r2⟩ := trodAll_cons r1
  obtain ⟨rfl, rfl, rfl⟩ := trodAll_nil r2
  obtain rfl : args = #[v0, v1, v2] := by cases args; simp_all
  obtain ⟨rfl, rfl⟩ := trodVars_none hV
  obtain ⟨a0, rfl, _⟩ := okWide_struct Tryz.underlying87 (hval 0 87 v0 rfl rfl)
  obtain ⟨a1, len1, cap1, rfl⟩ := okWide_slice Tryz.underlying22 (hval 1 22 v1 rfl rfl)
  obtain ⟨s2, rfl⟩ := okWide_string Tryz.underlying9 (hval 2 9 v2 rfl rfl)
  have k0 := h0
  have lt0 : ∀ x ∈ p0, x.block < W.heap.size := by obtain ⟨m, hm⟩ := k0; exact DataW.trod_lt m _ _ _ hm
  have k1 := h1
  have lt1 : ∀ x ∈ p1, x.block < W.heap.size := by obtain ⟨m, hm⟩ := k1; exact DataW.trod_lt m _ _ _ hm
  have k2 := h2
  have lt2 : ∀ x ∈ p2, x.block < W.heap.size := by obtain ⟨m, hm⟩ := k2; exact DataW.trod_lt m _ _ _ hm
  clear hA0 hval0
  simp only [List.append_nil, Rows.uptoBulkAll] at hb
  refine (walk hL (by simp [Value.cells]) h0 h1 h2 (by omega) (by omega) (by omega)).mono fun e W' ⟨he, bel⟩ => ?_
  subst he
  exact ⟨_, rfl, _, _, _, [], _, [], hW', trodAll_mk1 (shut_bool Tryz.underlying4 _), (trodAll_cons_mk (Kept.trod laidOut (by kernel_rfl) (of_decide_eq_true (by kernel_rfl)) k0 bel lt0) (trodAll_cons_mk (Kept.trod laidOut (by kernel_rfl) (of_decide_eq_true (by kernel_rfl)) k1 bel lt1) (trodAll_cons_mk (Kept.trod laidOut (by kernel_rfl) (of_decide_eq_true (by kernel_rfl)) k2 bel lt2) trodAll_mk0))), rfl, bel.frame _, fun h => by cases h⟩
end Go.Proofs.YtigkmaeaoaejiaaGreatDoor.NoneDone
