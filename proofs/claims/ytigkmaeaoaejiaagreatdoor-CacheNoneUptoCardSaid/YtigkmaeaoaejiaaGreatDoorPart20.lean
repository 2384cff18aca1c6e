/- errors.As in the model; its contract for the first evaluator. Printed by wip/x/genas5.py. -/
import Derived.Test.YtigkmaeaoaejiaaGreatDoorPart19
set_option linter.unusedVariables false
set_option linter.unusedSimpArgs false
namespace Go.Proofs.YtigkmaeaoaejiaaGreatDoor
open Go.RowKit Go.Extern.Stop Go.Stop Go.Extern Go.RE
set_option maxRecDepth 10000
abbrev ErrTy (w : World) : Prop := w.cell? ⟨0, 0, none⟩ = some (.iface 330 (.agg #[.pointer (some ⟨1, 39, none⟩)]))
theorem as_nil (t : Value) (w : World) : Calls Tryz.prog 97 #[.nilIface, t] w fun e w' => e = .returned (.bool false) ∧ w' = w := by
  go_enter Tryz.func97, Tryz.ntmps97
  go_wp2
  go_ret
  exact ⟨rfl, rfl⟩
def asW (tp tb to : Nat) (w : World) : World := (w.alloc (.cells #[.pointer (some ⟨tb, to, none⟩)] tp)).alloc (.cells #[.pointer (some ⟨1, tp, none⟩), .pointer (some ⟨w.heap.size, 0, none⟩), .int .u64 150] 257)
theorem asW_cell {tp tb to : Nat} {w : World} {a : Addr} {x : Value} (h : w.cell? a = some x) : (asW tp tb to w).cell? a = some x := by
  have hlt : a.block < w.heap.size := by
    rcases Nat.lt_or_ge a.block w.heap.size with h1 | h1
    · exact h1
    · simp [World.cell?, Array.getElem?_eq_none h1] at h
  unfold asW
  rw [World.cell?_alloc_lt _ _ _ (by simp; omega), World.cell?_alloc_lt _ _ _ hlt]; exact h
theorem asW_frozen {tp tb to : Nat} {w : World} {a : Addr} (h : a.block < w.heap.size) : (asW tp tb to w).frozen? a = w.frozen? a := by
  unfold asW
  rw [World.frozen?_alloc_old _ _ _ (by simp; omega), World.frozen?_alloc_old _ _ _ (Nat.ne_of_lt h)]
theorem asW_own {tp tb to : Nat} {w : World} : (asW tp tb to w).cell? ⟨w.heap.size, 0, none⟩ = some (.pointer (some ⟨tb, to, none⟩)) := by
  unfold asW
  rw [World.cell?_alloc_lt _ _ _ (by simp), World.cell?_alloc_at _ _ _ _ (by simp)]; rfl
set_option maxHeartbeats 4000000 in
theorem as_hit_45 {w0 : World} {ρ : RE.Ren} {s : St} {w : World} (hR : Rel w0 ρ s w) {n : Nat} {v v' : V} {x : Value} (hv : VRel w0 ρ v x) (hw : asWalkV s 45 n v = some (some v')) (hg : ErrTy w) (tb to : Nat) {o0 o1 : Value} (ht : w.cell? ⟨tb, to, none⟩ = some o0) (hf : w.frozen? ⟨tb, to, none⟩ = false) (ht1 : w.cell? ⟨tb, to + 1, none⟩ = some o1) (hf1 : w.frozen? ⟨tb, to + 1, none⟩ = false) :
    ∃ ys : List Value, LRel w0 ρ v'.cells ys ∧ Calls Tryz.prog 97 #[x, .iface 187 (.pointer (some ⟨tb, to, none⟩))] w fun ev w' => ev = .returned (.bool true) ∧ w' = finW 45 187 tb to w.heap.size (asW 187 tb to w) ys := by
  have htl : tb < w.heap.size := by
    rcases Nat.lt_or_ge tb w.heap.size with h1 | h1
    · exact h1
    · simp [World.cell?, Array.getElem?_eq_none h1] at ht
  obtain ⟨ys, k1, c160⟩ := as160_hit_45 (W := asW 187 tb to w) (rel_box (rel_box hR _) _) hv hw tb to w.heap.size asW_own (asW_cell ht) (asW_cell ht1) ((asW_frozen htl).trans hf) ((asW_frozen htl).trans hf1)
  refine ⟨ys, k1, ?_⟩
  obtain ⟨xt, xv, hxe⟩ : ∃ xt xv, x = .iface xt xv := by
    cases n with
    | zero => simp [asWalkV] at hw
    | succ n => cases v <;> simp [asWalkV] at hw; cases hv; exact ⟨_, _, rfl⟩
  subst hxe
  unfold asW at c160
  have h6 := xc157
  have h7 := xc158
  have h8 := xc159
  have h27 := xc255
  have h37 := xc268
  have h38 := xc269
  have f6 := Tryz.valueOfP187
  have f7 := Tryz.typeP187
  have mK := Tryz.methodKind
  have mE := Tryz.methodElem
  have mI := Tryz.methodImplements
  have kP := Tryz.kindP187
  have kE := Tryz.kindE45
  have eT := Tryz.elemTy187
  have iE := Tryz.implements45
  have n8 := Tryz.isNilP187 ⟨w.heap.size, 0, none⟩ ⟨tb, to, none⟩ ((w.alloc (.cells #[.pointer (some ⟨tb, to, none⟩)] 187)).alloc (.cells #[.pointer (some ⟨1, 187, none⟩), .pointer (some ⟨w.heap.size, 0, none⟩), .int .u64 150] 257)) (by simp)
  have hlt : 0 < w.heap.size := by
    rcases Nat.eq_zero_or_pos w.heap.size with h0 | h
    · simp [ErrTy, World.cell?, h0] at hg
    · exact h
  have hg2 : ((w.alloc (.cells #[.pointer (some ⟨tb, to, none⟩)] 187)).alloc (.cells #[.pointer (some ⟨1, 187, none⟩), .pointer (some ⟨w.heap.size, 0, none⟩), .int .u64 150] 257)).cell? ⟨0, 0, none⟩ = some (.iface 330 (.agg #[.pointer (some ⟨1, 39, none⟩)])) := by
    rw [World.cell?_alloc_lt _ _ ⟨0, 0, none⟩ (by simp), World.cell?_alloc_lt _ _ ⟨0, 0, none⟩ hlt]; exact hg
  go_enter Tryz.func97, Tryz.ntmps97
  go_wp2_with (go_at_call 160; refine c160.mono ?_; rintro e w' ⟨rfl, rfl⟩)
  go_ret
  exact ⟨rfl, rfl⟩
set_option maxHeartbeats 4000000 in
theorem as_stop_45 {w0 : World} {ρ : RE.Ren} {s : St} {w : World} (hR : Rel w0 ρ s w) {n : Nat} {v : V} {x : Value} (hv : VRel w0 ρ v x) (hw : asWalkV s 45 n v = some none) (hg : ErrTy w) (tb to : Nat)  :
    Calls Tryz.prog 97 #[x, .iface 187 (.pointer (some ⟨tb, to, none⟩))] w fun ev w' => ev = .returned (.bool false) ∧ w' = (asW 187 tb to w).alloc (boxO 187 w.heap.size) := by
  have c160 := as160_stop_45 (W := asW 187 tb to w) (rel_box (rel_box hR _) _) hv hw tb to w.heap.size
  obtain ⟨xt, xv, hxe⟩ : ∃ xt xv, x = .iface xt xv := by
    cases n with
    | zero => simp [asWalkV] at hw
    | succ n => cases v <;> simp [asWalkV] at hw; cases hv; exact ⟨_, _, rfl⟩
  subst hxe
  unfold asW at c160
  have h6 := xc157
  have h7 := xc158
  have h8 := xc159
  have h27 := xc255
  have h37 := xc268
  have h38 := xc269
  have f6 := Tryz.valueOfP187
  have f7 := Tryz.typeP187
  have mK := Tryz.methodKind
  have mE := Tryz.methodElem
  have mI := Tryz.methodImplements
  have kP := Tryz.kindP187
  have kE := Tryz.kindE45
  have eT := Tryz.elemTy187
  have iE := Tryz.implements45
  have n8 := Tryz.isNilP187 ⟨w.heap.size, 0, none⟩ ⟨tb, to, none⟩ ((w.alloc (.cells #[.pointer (some ⟨tb, to, none⟩)] 187)).alloc (.cells #[.pointer (some ⟨1, 187, none⟩), .pointer (some ⟨w.heap.size, 0, none⟩), .int .u64 150] 257)) (by simp)
  have hlt : 0 < w.heap.size := by
    rcases Nat.eq_zero_or_pos w.heap.size with h0 | h
    · simp [ErrTy, World.cell?, h0] at hg
    · exact h
  have hg2 : ((w.alloc (.cells #[.pointer (some ⟨tb, to, none⟩)] 187)).alloc (.cells #[.pointer (some ⟨1, 187, none⟩), .pointer (some ⟨w.heap.size, 0, none⟩), .int .u64 150] 257)).cell? ⟨0, 0, none⟩ = some (.iface 330 (.agg #[.pointer (some ⟨1, 39, none⟩)])) := by
    rw [World.cell?_alloc_lt _ _ ⟨0, 0, none⟩ (by simp), World.cell?_alloc_lt _ _ ⟨0, 0, none⟩ hlt]; exact hg
  go_enter Tryz.func97, Tryz.ntmps97
  go_wp2_with (go_at_call 160; refine c160.mono ?_; rintro e w' ⟨rfl, rfl⟩)
  go_ret
  exact ⟨rfl, rfl⟩
set_option maxHeartbeats 4000000 in
theorem as_hit_43 {w0 : World} {ρ : RE.Ren} {s : St} {w : World} (hR : Rel w0 ρ s w) {n : Nat} {v v' : V} {x : Value} (hv : VRel w0 ρ v x) (hw : asWalkV s 43 n v = some (some v')) (hg : ErrTy w) (tb to : Nat) {o0 : Value} (ht : w.cell? ⟨tb, to, none⟩ = some o0) (hf : w.frozen? ⟨tb, to, none⟩ = false) :
    ∃ ys : List Value, LRel w0 ρ v'.cells ys ∧ Calls Tryz.prog 97 #[x, .iface 197 (.pointer (some ⟨tb, to, none⟩))] w fun ev w' => ev = .returned (.bool true) ∧ w' = finW 43 197 tb to w.heap.size (asW 197 tb to w) ys := by
  have htl : tb < w.heap.size := by
    rcases Nat.lt_or_ge tb w.heap.size with h1 | h1
    · exact h1
    · simp [World.cell?, Array.getElem?_eq_none h1] at ht
  obtain ⟨ys, k1, c160⟩ := as160_hit_43 (W := asW 197 tb to w) (rel_box (rel_box hR _) _) hv hw tb to w.heap.size asW_own (asW_cell ht) ((asW_frozen htl).trans hf)
  refine ⟨ys, k1, ?_⟩
  obtain ⟨xt, xv, hxe⟩ : ∃ xt xv, x = .iface xt xv := by
    cases n with
    | zero => simp [asWalkV] at hw
    | succ n => cases v <;> simp [asWalkV] at hw; cases hv; exact ⟨_, _, rfl⟩
  subst hxe
  unfold asW at c160
  have h6 := xc157
  have h7 := xc158
  have h8 := xc159
  have h27 := xc255
  have h37 := xc268
  have h38 := xc269
  have f6 := Tryz.valueOfP197
  have f7 := Tryz.typeP197
  have mK := Tryz.methodKind
  have mE := Tryz.methodElem
  have mI := Tryz.methodImplements
  have kP := Tryz.kindP197
  have kE := Tryz.kindE43
  have eT := Tryz.elemTy197
  have iE := Tryz.implements43
  have n8 := Tryz.isNilP197 ⟨w.heap.size, 0, none⟩ ⟨tb, to, none⟩ ((w.alloc (.cells #[.pointer (some ⟨tb, to, none⟩)] 197)).alloc (.cells #[.pointer (some ⟨1, 197, none⟩), .pointer (some ⟨w.heap.size, 0, none⟩), .int .u64 150] 257)) (by simp)
  have hlt : 0 < w.heap.size := by
    rcases Nat.eq_zero_or_pos w.heap.size with h0 | h
    · simp [ErrTy, World.cell?, h0] at hg
    · exact h
  have hg2 : ((w.alloc (.cells #[.pointer (some ⟨tb, to, none⟩)] 197)).alloc (.cells #[.pointer (some ⟨1, 197, none⟩), .pointer (some ⟨w.heap.size, 0, none⟩), .int .u64 150] 257)).cell? ⟨0, 0, none⟩ = some (.iface 330 (.agg #[.pointer (some ⟨1, 39, none⟩)])) := by
    rw [World.cell?_alloc_lt _ _ ⟨0, 0, none⟩ (by simp), World.cell?_alloc_lt _ _ ⟨0, 0, none⟩ hlt]; exact hg
  go_enter Tryz.func97, Tryz.ntmps97
  go_wp2_with (go_at_call 160; refine c160.mono ?_; rintro e w' ⟨rfl, rfl⟩)
  go_ret
  exact ⟨rfl, rfl⟩
set_option maxHeartbeats 4000000 in
theorem as_stop_43 {w0 : World} {ρ : RE.Ren} {s : St} {w : World} (hR : Rel w0 ρ s w) {n : Nat} {v : V} {x : Value} (hv : VRel w0 ρ v x) (hw : asWalkV s 43 n v = some none) (hg : ErrTy w) (tb to : Nat)  :
    Calls Tryz.prog 97 #[x, .iface 197 (.pointer (some ⟨tb, to, none⟩))] w fun ev w' => ev = .returned (.bool false) ∧ w' = (asW 197 tb to w).alloc (boxO 197 w.heap.size) := by
  have c160 := as160_stop_43 (W := asW 197 tb to w) (rel_box (rel_box hR _) _) hv hw tb to w.heap.size
  obtain ⟨xt, xv, hxe⟩ : ∃ xt xv, x = .iface xt xv := by
    cases n with
    | zero => simp [asWalkV] at hw
    | succ n => cases v <;> simp [asWalkV] at hw; cases hv; exact ⟨_, _, rfl⟩
  subst hxe
  unfold asW at c160
  have h6 := xc157
  have h7 := xc158
  have h8 := xc159
  have h27 := xc255
  have h37 := xc268
  have h38 := xc269
  have f6 := Tryz.valueOfP197
  have f7 := Tryz.typeP197
  have mK := Tryz.methodKind
  have mE := Tryz.methodElem
  have mI := Tryz.methodImplements
  have kP := Tryz.kindP197
  have kE := Tryz.kindE43
  have eT := Tryz.elemTy197
  have iE := Tryz.implements43
  have n8 := Tryz.isNilP197 ⟨w.heap.size, 0, none⟩ ⟨tb, to, none⟩ ((w.alloc (.cells #[.pointer (some ⟨tb, to, none⟩)] 197)).alloc (.cells #[.pointer (some ⟨1, 197, none⟩), .pointer (some ⟨w.heap.size, 0, none⟩), .int .u64 150] 257)) (by simp)
  have hlt : 0 < w.heap.size := by
    rcases Nat.eq_zero_or_pos w.heap.size with h0 | h
    · simp [ErrTy, World.cell?, h0] at hg
    · exact h
  have hg2 : ((w.alloc (.cells #[.pointer (some ⟨tb, to, none⟩)] 197)).alloc (.cells #[.pointer (some ⟨1, 197, none⟩), .pointer (some ⟨w.heap.size, 0, none⟩), .int .u64 150] 257)).cell? ⟨0, 0, none⟩ = some (.iface 330 (.agg #[.pointer (some ⟨1, 39, none⟩)])) := by
    rw [World.cell?_alloc_lt _ _ ⟨0, 0, none⟩ (by simp), World.cell?_alloc_lt _ _ ⟨0, 0, none⟩ hlt]; exact hg
  go_enter Tryz.func97, Tryz.ntmps97
  go_wp2_with (go_at_call 160; refine c160.mono ?_; rintro e w' ⟨rfl, rfl⟩)
  go_ret
  exact ⟨rfl, rfl⟩
set_option maxHeartbeats 4000000 in
theorem as_hit_191 {w0 : World} {ρ : RE.Ren} {s : St} {w : World} (hR : Rel w0 ρ s w) {n : Nat} {v v' : V} {x : Value} (hv : VRel w0 ρ v x) (hw : asWalkV s 191 n v = some (some v')) (hg : ErrTy w) (tb to : Nat) {o0 : Value} (ht : w.cell? ⟨tb, to, none⟩ = some o0) (hf : w.frozen? ⟨tb, to, none⟩ = false) :
    ∃ ys : List Value, LRel w0 ρ v'.cells ys ∧ Calls Tryz.prog 97 #[x, .iface 192 (.pointer (some ⟨tb, to, none⟩))] w fun ev w' => ev = .returned (.bool true) ∧ w' = finW 191 192 tb to w.heap.size (asW 192 tb to w) ys := by
  have htl : tb < w.heap.size := by
    rcases Nat.lt_or_ge tb w.heap.size with h1 | h1
    · exact h1
    · simp [World.cell?, Array.getElem?_eq_none h1] at ht
  obtain ⟨ys, k1, c160⟩ := as160_hit_191 (W := asW 192 tb to w) (rel_box (rel_box hR _) _) hv hw tb to w.heap.size asW_own (asW_cell ht) ((asW_frozen htl).trans hf)
  refine ⟨ys, k1, ?_⟩
  obtain ⟨xt, xv, hxe⟩ : ∃ xt xv, x = .iface xt xv := by
    cases n with
    | zero => simp [asWalkV] at hw
    | succ n => cases v <;> simp [asWalkV] at hw; cases hv; exact ⟨_, _, rfl⟩
  subst hxe
  unfold asW at c160
  have h6 := xc157
  have h7 := xc158
  have h8 := xc159
  have h27 := xc255
  have h37 := xc268
  have h38 := xc269
  have f6 := Tryz.valueOfP192
  have f7 := Tryz.typeP192
  have mK := Tryz.methodKind
  have mE := Tryz.methodElem
  have mI := Tryz.methodImplements
  have kP := Tryz.kindP192
  have kE := Tryz.kindE191
  have eT := Tryz.elemTy192
  have iE := Tryz.implements191
  have n8 := Tryz.isNilP192 ⟨w.heap.size, 0, none⟩ ⟨tb, to, none⟩ ((w.alloc (.cells #[.pointer (some ⟨tb, to, none⟩)] 192)).alloc (.cells #[.pointer (some ⟨1, 192, none⟩), .pointer (some ⟨w.heap.size, 0, none⟩), .int .u64 150] 257)) (by simp)
  have hlt : 0 < w.heap.size := by
    rcases Nat.eq_zero_or_pos w.heap.size with h0 | h
    · simp [ErrTy, World.cell?, h0] at hg
    · exact h
  have hg2 : ((w.alloc (.cells #[.pointer (some ⟨tb, to, none⟩)] 192)).alloc (.cells #[.pointer (some ⟨1, 192, none⟩), .pointer (some ⟨w.heap.size, 0, none⟩), .int .u64 150] 257)).cell? ⟨0, 0, none⟩ = some (.iface 330 (.agg #[.pointer (some ⟨1, 39, none⟩)])) := by
    rw [World.cell?_alloc_lt _ _ ⟨0, 0, none⟩ (by simp), World.cell?_alloc_lt _ _ ⟨0, 0, none⟩ hlt]; exact hg
  go_enter Tryz.func97, Tryz.ntmps97
  go_wp2_with (go_at_call 160; refine c160.mono ?_; rintro e w' ⟨rfl, rfl⟩)
  go_ret
  exact ⟨rfl, rfl⟩
set_option maxHeartbeats 4000000 in
theorem as_stop_191 {w0 : World} {ρ : RE.Ren} {s : St} {w : World} (hR : Rel w0 ρ s w) {n : Nat} {v : V} {x : Value} (hv : VRel w0 ρ v x) (hw : asWalkV s 191 n v = some none) (hg : ErrTy w) (tb to : Nat)  :
    Calls Tryz.prog 97 #[x, .iface 192 (.pointer (some ⟨tb, to, none⟩))] w fun ev w' => ev = .returned (.bool false) ∧ w' = (asW 192 tb to w).alloc (boxO 192 w.heap.size) := by
  have c160 := as160_stop_191 (W := asW 192 tb to w) (rel_box (rel_box hR _) _) hv hw tb to w.heap.size
  obtain ⟨xt, xv, hxe⟩ : ∃ xt xv, x = .iface xt xv := by
    cases n with
    | zero => simp [asWalkV] at hw
    | succ n => cases v <;> simp [asWalkV] at hw; cases hv; exact ⟨_, _, rfl⟩
  subst hxe
  unfold asW at c160
  have h6 := xc157
  have h7 := xc158
  have h8 := xc159
  have h27 := xc255
  have h37 := xc268
  have h38 := xc269
  have f6 := Tryz.valueOfP192
  have f7 := Tryz.typeP192
  have mK := Tryz.methodKind
  have mE := Tryz.methodElem
  have mI := Tryz.methodImplements
  have kP := Tryz.kindP192
  have kE := Tryz.kindE191
  have eT := Tryz.elemTy192
  have iE := Tryz.implements191
  have n8 := Tryz.isNilP192 ⟨w.heap.size, 0, none⟩ ⟨tb, to, none⟩ ((w.alloc (.cells #[.pointer (some ⟨tb, to, none⟩)] 192)).alloc (.cells #[.pointer (some ⟨1, 192, none⟩), .pointer (some ⟨w.heap.size, 0, none⟩), .int .u64 150] 257)) (by simp)
  have hlt : 0 < w.heap.size := by
    rcases Nat.eq_zero_or_pos w.heap.size with h0 | h
    · simp [ErrTy, World.cell?, h0] at hg
    · exact h
  have hg2 : ((w.alloc (.cells #[.pointer (some ⟨tb, to, none⟩)] 192)).alloc (.cells #[.pointer (some ⟨1, 192, none⟩), .pointer (some ⟨w.heap.size, 0, none⟩), .int .u64 150] 257)).cell? ⟨0, 0, none⟩ = some (.iface 330 (.agg #[.pointer (some ⟨1, 39, none⟩)])) := by
    rw [World.cell?_alloc_lt _ _ ⟨0, 0, none⟩ (by simp), World.cell?_alloc_lt _ _ ⟨0, 0, none⟩ hlt]; exact hg
  go_enter Tryz.func97, Tryz.ntmps97
  go_wp2_with (go_at_call 160; refine c160.mono ?_; rintro e w' ⟨rfl, rfl⟩)
  go_ret
  exact ⟨rfl, rfl⟩
end Go.Proofs.YtigkmaeaoaejiaaGreatDoor
