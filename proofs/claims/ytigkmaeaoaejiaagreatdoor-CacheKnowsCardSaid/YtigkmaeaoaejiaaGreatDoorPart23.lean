/- What the second evaluator answers, every run of the model answers. -/
import Derived.Test.YtigkmaeaoaejiaaGreatDoorPart21
import Derived.Test.YtigkmaeaoaejiaaGreatDoorPart22
import Derived.Test.YtigkmaeaoaejiaaGreatDoorCards
import Derived.Test.YtigkmaeaoaejiaaGreatDoorTie
import Derived.WalkKit
import Derived.ProofKit
import Derived.OpenShut
import Derived.ChangeOld
import Derived.Below
import Derived.Deep.DeepHandedRow
import Derived.Lib.LaidTab
import Derived.LaidHandle
import Derived.Stop.Joined
set_option linter.unusedVariables false
set_option linter.unusedSimpArgs false
set_option linter.constructorNameAsVariable false
namespace Go.RE
open Go.Proofs.YtigkmaeaoaejiaaGreatDoor
theorem sort_sound (W : World) : PSound Go.Proofs.Tryz.prog W 90 1 pSort :=
  psort_sound ⟨_, _, Go.Proofs.Tryz.func90, rfl, rfl⟩ (fun blk off cap ss w h1 h2 h3 => Go.Proofs.Tryz.slices_Sort_string blk off cap ss w h1 h2 h3) (fun p cap w => Go.Proofs.Tryz.slices_Sort_string_none p cap w) W
theorem ok_none : Ok ⟨([] : List Uo).length, fun i => i, images (fun i => i) (fun _ => none) ([] : List Uo).length, fun _ => none, noSt, fun i => ([] : List Uo)[i]? = some .gone⟩ (fun i => i) (fun _ => none) (fun _ => none) ⟨[], [], 0⟩ .e noSt :=
  ⟨fun t u hu => by simp [look] at hu, fun i o ho => by simp at ho, (fun b r hb => by cases hb), (fun g I hI => by cases hI), fun n _ => by simp [noSt, St.get], fun i j hi => by simp at hi, (fun g g' I I' hI => by cases hI), fun i g I hi => by simp at hi, fun i hi => by simp at hi,
    (fun g I hI => by cases hI), fun i hi => by simp at hi, rfl, (fun i off I hI => by cases hI), Nat.le_refl _, fun i hi => rfl, fun b r hb => hb, Nat.le_refl _, fun b hb _ => ⟨rfl, fun i hi => by simp at hi, (fun g I hI => by cases hI), fun r hr => hr⟩, fun i hi => by simp at hi⟩
theorem law_ve {W : World} (hg : ErrTy W) {f : Nat} {us : List U} {vs : List V} {args : Array Value} {h' : List Uo} {fl' : Nat} (hrun : gF vTab meths muts prims f us [] 0 = some (.bool true, h', fl')) (hu : LUall us vs) (hl : LRel W noRen vs args.toList) :
    Calls Go.Proofs.Tryz.prog f args W fun e W' => e = .returned (.bool true) ∧ Kept W W' := by
  obtain ⟨N, hN⟩ := gF_ok (C := reTab) tabs f us [] 0 _ h' fl' hrun (fun i => i) (fun _ => none) (fun _ => none) noSt vs ok_none ⟨Nat.le_refl _, fun i o ho => by simp at ho⟩ (fun _ => rfl) (hu _ _)
  have h2 : callP reTab meths N f vs noSt fun v _ => v = .bool true := evF_mono (Nat.le_refl _) (fun v st' hh => by
    obtain ⟨_, σ', Z', ω', _, _, hr⟩ := hh
    cases hr
    rfl) hN
  refine (law_calls (csound hg (sort_sound W)) msound mixed hl h2).mono fun e W' h => ?_
  obtain ⟨⟨x, ρ', rfl, hx⟩, hk⟩ := h
  cases hx
  exact ⟨rfl, hk⟩
end Go.RE
namespace Go.RE
open Go.Proofs
section
variable {H : Type} {enc : TypeId × Value → H} {w : World} {bk : DataW H → Nat} {B : Nat}
theorem OpU.imp {P : Program} {t : TypeId} {S S' : List U → Prop} (h : OpU enc P w bk B t S) (hs : ∀ us, S us → S' us) : OpU enc P w bk B t S' := fun fuel cs x hx hb => by
  obtain ⟨vs, us, h1, h2, h3⟩ := h fuel cs x hx hb
  exact ⟨vs, us, h1, hs us h2, h3⟩
theorem rows_map {α : Type} {f : α → List U} {S : List U → Prop} {D : α → Prop} (h : ∀ r, S r → ∃ a, r = f a ∧ D a) : ∀ {rows : List (List U)}, (∀ r ∈ rows, S r) → ∃ l : List α, rows = l.map f ∧ ∀ a ∈ l, D a := by
  intro rows
  induction rows with
  | nil => intro _; exact ⟨[], rfl, fun a ha => by cases ha⟩
  | cons r rows ih =>
    intro hr
    obtain ⟨a, rfl, ha⟩ := h r (hr r List.mem_cons_self)
    obtain ⟨l, rfl, hl⟩ := ih fun x hx => hr x (List.mem_cons_of_mem _ hx)
    exact ⟨a :: l, rfl, fun x hx => by
      rcases List.mem_cons.1 hx with rfl | hx
      · exact ha
      · exact hl x hx⟩
theorem opBytes (hk : BkOk bk) : OpU enc Tryz.prog w bk B 37 fun us => ∃ d : By, us = [.sl 1 (bytesU d)] ∧ d.length ≤ B := by
  refine (opU_slice hk Tryz.underlying37 (c := 1) (by kernel_rfl) (by omega) (opU_int Tryz.underlying5)).imp fun us h => ?_
  obtain ⟨rows, rfl, h1, h2, h3⟩ := h
  obtain ⟨d, rfl, _⟩ := rows_map (f := byteU) (D := fun _ => True) (S := fun r => ∃ n, r = [U.int .u8 n] ∧ (Lit.int IntKind.u8 n).wf = true) (fun r hr => by
    obtain ⟨n, rfl, hn⟩ := hr
    have hb : 0 ≤ n ∧ n < 256 := by
      simp [Lit.wf, IntKind.min, IntKind.max, IntKind.bits, IntKind.signed] at hn
      omega
    refine ⟨UInt8.ofNat n.toNat, ?_, trivial⟩
    have : ((UInt8.ofNat n.toNat).toNat : Int) = n := by
      have e1 : (UInt8.ofNat n.toNat).toNat = n.toNat % 256 := UInt8.toNat_ofNat'
      rw [e1]
      omega
    simp only [byteU, this]) fun r hr => (h1 r hr).1
  exact ⟨d, rfl, by simpa [bytesU] using h2⟩
theorem opPair (hk : BkOk bk) : OpU enc Tryz.prog w bk B 115 fun us => ∃ p : Pr, us = pairC p ∧ p.1.length ≤ B ∧ p.2.length ≤ B := by
  refine (opU_struct hk Tryz.underlying115 (Ss := [_, _]) (by kernel_rfl) ⟨opU_string hk Tryz.underlying9, opBytes hk, trivial⟩).imp fun us h => ?_
  obtain ⟨a, b, rfl, ⟨k, rfl, hk'⟩, a2, b2, rfl, ⟨d, rfl, hd⟩, rfl⟩ := h
  exact ⟨(k, d), rfl, hk', hd⟩
theorem opPairs (hk : BkOk bk) : OpU enc Tryz.prog w bk B 22 fun us => ∃ l : List Pr, us = [.sl 2 (l.map pairC)] ∧ (∀ p ∈ l, p.1.length ≤ B ∧ p.2.length ≤ B) ∧ l.length ≤ B ∧ l.length ≤ maxLen := by
  refine (opU_slice hk Tryz.underlying22 (c := 2) (by kernel_rfl) (by omega) (opPair hk)).imp fun us h => ?_
  obtain ⟨rows, rfl, h1, h2, h3⟩ := h
  obtain ⟨l, rfl, hl⟩ := rows_map (f := pairC) (D := fun p => p.1.length ≤ B ∧ p.2.length ≤ B) (S := fun us => ∃ p : Pr, us = pairC p ∧ p.1.length ≤ B ∧ p.2.length ≤ B) (fun r hr => hr) fun r hr => (h1 r hr).1
  exact ⟨l, rfl, hl, by simpa using h2, by simpa using h3⟩
theorem opNeed (hk : BkOk bk) : OpU enc Tryz.prog w bk B 45 fun us => ∃ s : Spn, us = [.str s.1, .str s.2] := by
  refine (opU_struct hk Tryz.underlying45 (Ss := [_, _]) (by kernel_rfl) ⟨opU_string hk Tryz.underlying9, opU_string hk Tryz.underlying9, trivial⟩).imp fun us h => ?_
  obtain ⟨a, b, rfl, ⟨k, rfl, _⟩, a2, b2, rfl, ⟨d, rfl, _⟩, rfl⟩ := h
  exact ⟨(k, d), rfl⟩
end
end Go.RE
namespace Go.Proofs.YtigkmaeaoaejiaaGreatDoor.Ends
open Go.ChangeShapes Go.WideShapes Go.ChangeAt Go.RowKit Go.RE
theorem own : ownKnob Tryz.prog.godebug = Option.none := by kernel_rfl
theorem laidOut : laidOutB Tryz.prog = true := by kernel_rfl
theorem et : Tryz.prog.globalNamed "errors.errorType" = some 0 := by kernel_rfl
theorem rt : (Tryz.prog.cutTypes.find? (·.1 == "internal/reflectlite.rtype")).map (·.2) = some 330 := by kernel_rfl
theorem oneRow : ((List.range 388).filter fun t => Tryz.prog.rowNamed t [101, 114, 114, 111, 114]) = [39] := by kernel_rfl
theorem sizeT : Tryz.prog.types.size = 388 := by kernel_rfl
theorem errTy {W : World} (h : laidMetH Tryz.prog [("errors.errorType", Rows.laid_errors_errorType)] W) : ErrTy W := by
  have h' : laidMet Tryz.prog [] W ∧ handlesMet Tryz.prog [("errors.errorType", Rows.laid_errors_errorType)] W := h
  obtain ⟨name, u, ty, e1, e2, e3, e4, e5⟩ := h'.2 _ (List.mem_singleton.2 rfl)
  have en : name = [101, 114, 114, 111, 114] := (Option.some.inj e1).symm
  subst en
  obtain rfl := Option.some.inj (rt.symm.trans e2)
  have hm : ty ∈ (List.range 388).filter fun t => Tryz.prog.rowNamed t [101, 114, 114, 111, 114] := List.mem_filter.2 ⟨List.mem_range.2 (by rw [← sizeT]; exact e3), e4⟩
  rw [oneRow] at hm
  obtain rfl := List.mem_singleton.1 hm
  have hh : typeHandle Tryz.prog 39 = .pointer (some ⟨1, 39, Option.none⟩) := by kernel_rfl
  rw [hh] at e5
  simpa using World.var?_cell et e5 0
noncomputable def laidWorld (os : Os) : World :=
  let w0 := World.holding Tryz.prog os ⟨#[], #[], []⟩
  { w0 with heap := w0.heap.modify 0 fun
      | .cells _ t frozen => .cells #[.iface 330 (.agg #[.pointer (some ⟨1, 39, Option.none⟩)])] t frozen
      | o => o }
theorem bkOk {H : Type} : BkOk (Rows.uptoBulk (H := H)) := by
  have part : ∀ (l : List (DataW H)) d, d ∈ l → Rows.uptoBulk d ≤ Rows.uptoBulkAll l := by
    intro l
    induction l with
    | nil => intro d h; cases h
    | cons x r ih =>
      intro d h
      simp only [Rows.uptoBulkAll]
      rcases List.mem_cons.1 h with rfl | h
      · omega
      · have := ih d h; omega
  have one : ∀ d : DataW H, 1 ≤ Rows.uptoBulk d := by
    intro d
    cases d with
    | lit l => cases l <;> simp [Rows.uptoBulk]
    | _ => simp [Rows.uptoBulk]
  have len : ∀ l : List (DataW H), l.length ≤ Rows.uptoBulkAll l := by
    intro l
    induction l with
    | nil => simp
    | cons x r ih => have := one x; simp only [Rows.uptoBulkAll, List.length_cons]; omega
  refine ⟨fun b => by simp [Rows.uptoBulk], fun es sp => ?_, fun es sp d hd => ?_, fun ps d hd => ?_⟩
  · have := len es; simp only [Rows.uptoBulk]; omega
  · have := part es d hd; simp only [Rows.uptoBulk]; omega
  · have := part ps d hd; simp only [Rows.uptoBulk]; omega
end Go.Proofs.YtigkmaeaoaejiaaGreatDoor.Ends
