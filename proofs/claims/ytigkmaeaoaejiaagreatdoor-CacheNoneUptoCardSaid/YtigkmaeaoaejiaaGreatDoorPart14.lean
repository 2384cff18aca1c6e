/- Contracts: whatever is done with a cache that no call made. -/
import Derived.Test.YtigkmaeaoaejiaaGreatDoorPart13
set_option linter.unusedVariables false
set_option linter.unusedSimpArgs false
namespace Go.RE
variable {M : Nat → String → Option Nat} {Q : Mut} {Pm : Nat → Option (List U → List Uo → Nat → Option (U × List Uo × Nat))}
structure Opn where
  dd : Int
  r : Rf
  n : Int
  data : By
  x : In
  t : Tk
  a : Ar
  v : Vr
def opnC (o : Opn) : List U := [.int .i64 o.dd] ++ refC o.r ++ [.int .i64 o.n, .sl 1 (bytesU o.data)] ++ inC o.x ++ tkC o.t ++ armC o.a ++ varC o.v
def toldM (k : UInt8) : List U := [.sl 1 [], .bool false, .sl 9 [], .int .u64 0] ++ zInst ++ zTok ++ zArm ++ zVal ++ plM k
theorem at_n1 (h l : List Uo) (n : Nat) : (h ++ l)[h.length + n]? = l[n]? := by rw [List.getElem?_append_right (by omega), Nat.add_sub_cancel_left]
theorem at_n2 (h l : List Uo) (n m : Nat) : (h ++ l)[h.length + n + m]? = l[n + m]? := by rw [Nat.add_assoc]; exact at_n1 h l (n + m)
theorem set_n1 (h l : List Uo) (n : Nat) (x : Uo) : (h ++ l).set (h.length + n) x = h ++ l.set n x := by rw [List.set_append_right _ _ (by omega), Nat.add_sub_cancel_left]
theorem cut_n {fl : Nat} {h : List Uo} (hf : fl ≤ h.length) (n : Nat) (l : List Uo) : cut (h.length + n) fl (h ++ l) = h ++ l.take n := by
  unfold cut
  rw [Nat.max_eq_left (by omega), List.take_append, List.take_of_length_le (by omega), Nat.add_sub_cancel_left]
def oAt (h : List Uo) (p : Nat) : Option Uo := h[p]?
theorem oAt_1 (h l : List Uo) (n : Nat) : oAt (h ++ l) (h.length + n) = l[n]? := at_n1 h l n
theorem oAt_2 (h l : List Uo) (n m : Nat) : oAt (h ++ l) (h.length + n + m) = l[n + m]? := at_n2 h l n m
theorem t31_o (hp : NoPm Pm) (hq : NoQ Q) (ha : Pm 97 = some asP) (k : UInt8) (fl : Nat) (h : List Uo) (p : Nat) (hi : oAt h p = some (fltO k)) (hf : fl ≤ h.length) : gF vTab M Q Pm 31 [.iface 191 (.ptr p 0)] h fl = some (.agg (plM k), h, fl) := t31_m k h fl p hp hq ha hi hf
attribute [local simp] opnC refC inC tkC armC varC rInst rTok rArm rVar toldM plM zInst zTok zArm zVal fltO v35_body v35_0 v35_1 v35_2 v35_3 v35_4 v35_5 v35_7 v35_9 v35_11 v35_13 v35_15 v35_17 v35_19 v35_21 v35_23 v35_25 v35_27 v35_29 v35_31 v35_33 v35_34 oAt_1 oAt_2 at_n1 at_n2 set_n1
theorem t35_0 (hp : NoPm Pm) (hq : NoQ Q) (ha : Pm 97 = some asP) (o : Opn) (ho : o.dd = 0) {c : U} {h : List Uo} {fl : Nat} (hc : NoC c h fl) : gF vTab M Q Pm 35 [c, .agg (opnC o)] h fl = some (.agg (toldM o.r.k), h, fl) := by
  refine gF_of (fn := v35) (hp 35 (by decide) (by decide)) rfl rfl ?_
  rcases hc with ⟨rfl, rfl, rfl⟩ | ⟨i, rfl, hi, hf⟩
  · have c31 := fun h p hi => t31_m (M := M) (o.r.k) h 0 p hp hq ha hi
    have h1 := t64_m (M := M) hp hq o.r noC_nil
    simp at h1 c31
    simp [v35_6, ho, hq, h1, c31, cut]
  · have c31 := fun h p => t31_o (M := M) hp hq ha (o.r.k) fl h p
    have h1 := fun X Y Z => t64_m (M := M) hp hq o.r (noC_app hi hf [X, Y, Z, .row (refC o.r)])
    have hle : ∀ n, fl ≤ h.length + n := fun n => by omega
    simp at h1 c31
    simp [v35_6, ho, hq, h1, c31, cut_n hf, cut0 hf, lt1 hi, hle]
theorem t35_1 (hp : NoPm Pm) (hq : NoQ Q) (ha : Pm 97 = some asP) (o : Opn) (ho : o.dd = 1) {c : U} {h : List Uo} {fl : Nat} (hc : NoC c h fl) : gF vTab M Q Pm 35 [c, .agg (opnC o)] h fl = some (.agg (toldM o.r.k), h, fl) := by
  refine gF_of (fn := v35) (hp 35 (by decide) (by decide)) rfl rfl ?_
  rcases hc with ⟨rfl, rfl, rfl⟩ | ⟨i, rfl, hi, hf⟩
  · have c31 := fun h p hi => t31_m (M := M) (o.r.k) h 0 p hp hq ha hi
    have h1 := t65_m (M := M) hp hq o.r o.n noC_nil
    simp at h1 c31
    simp [v35_8, ho, hq, h1, c31, cut]
  · have c31 := fun h p => t31_o (M := M) hp hq ha (o.r.k) fl h p
    have h1 := fun X Y Z => t65_m (M := M) hp hq o.r o.n (noC_app hi hf [X, Y, Z, .row (refC o.r)])
    have hle : ∀ n, fl ≤ h.length + n := fun n => by omega
    simp at h1 c31
    simp [v35_8, ho, hq, h1, c31, cut_n hf, cut0 hf, lt1 hi, hle]
theorem t35_2 (hp : NoPm Pm) (hq : NoQ Q) (ha : Pm 97 = some asP) (o : Opn) (ho : o.dd = 2) {c : U} {h : List Uo} {fl : Nat} (hc : NoC c h fl) : gF vTab M Q Pm 35 [c, .agg (opnC o)] h fl = some (.agg (toldM o.r.k), h, fl) := by
  refine gF_of (fn := v35) (hp 35 (by decide) (by decide)) rfl rfl ?_
  rcases hc with ⟨rfl, rfl, rfl⟩ | ⟨i, rfl, hi, hf⟩
  · have c31 := fun h p hi => t31_m (M := M) (o.r.k) h 0 p hp hq ha hi
    have h1 := t66_m (M := M) hp hq o.r o.data noC_nil
    simp at h1 c31
    simp [v35_10, ho, hq, h1, c31, cut]
  · have c31 := fun h p => t31_o (M := M) hp hq ha (o.r.k) fl h p
    have h1 := fun X Y Z => t66_m (M := M) hp hq o.r o.data (noC_app hi hf [X, Y, Z, .row (refC o.r)])
    have hle : ∀ n, fl ≤ h.length + n := fun n => by omega
    simp at h1 c31
    simp [v35_10, ho, hq, h1, c31, cut_n hf, cut0 hf, lt1 hi, hle]
theorem t35_3 (hp : NoPm Pm) (hq : NoQ Q) (ha : Pm 97 = some asP) (o : Opn) (ho : o.dd = 3) {c : U} {h : List Uo} {fl : Nat} (hc : NoC c h fl) : gF vTab M Q Pm 35 [c, .agg (opnC o)] h fl = some (.agg (toldM o.r.k), h, fl) := by
  refine gF_of (fn := v35) (hp 35 (by decide) (by decide)) rfl rfl ?_
  rcases hc with ⟨rfl, rfl, rfl⟩ | ⟨i, rfl, hi, hf⟩
  · have c31 := fun h p hi => t31_m (M := M) (o.r.k) h 0 p hp hq ha hi
    have h1 := t67_m (M := M) hp hq o.r noC_nil
    simp at h1 c31
    simp [v35_12, ho, hq, h1, c31, cut]
  · have c31 := fun h p => t31_o (M := M) hp hq ha (o.r.k) fl h p
    have h1 := fun X Y Z => t67_m (M := M) hp hq o.r (noC_app hi hf [X, Y, Z, .row (refC o.r)])
    have hle : ∀ n, fl ≤ h.length + n := fun n => by omega
    simp at h1 c31
    simp [v35_12, ho, hq, h1, c31, cut_n hf, cut0 hf, lt1 hi, hle]
theorem t35_4 (hp : NoPm Pm) (hq : NoQ Q) (ha : Pm 97 = some asP) (o : Opn) (ho : o.dd = 4) {c : U} {h : List Uo} {fl : Nat} (hc : NoC c h fl) : gF vTab M Q Pm 35 [c, .agg (opnC o)] h fl = some (.agg (toldM o.r.k), h, fl) := by
  refine gF_of (fn := v35) (hp 35 (by decide) (by decide)) rfl rfl ?_
  rcases hc with ⟨rfl, rfl, rfl⟩ | ⟨i, rfl, hi, hf⟩
  · have c31 := fun h p hi => t31_m (M := M) (o.r.k) h 0 p hp hq ha hi
    have h1 := t68_m (M := M) hp hq o.r noC_nil
    simp at h1 c31
    simp [v35_14, ho, hq, h1, c31, cut]
  · have c31 := fun h p => t31_o (M := M) hp hq ha (o.r.k) fl h p
    have h1 := fun X Y Z => t68_m (M := M) hp hq o.r (noC_app hi hf [X, Y, Z, .row (refC o.r)])
    have hle : ∀ n, fl ≤ h.length + n := fun n => by omega
    simp at h1 c31
    simp [v35_14, ho, hq, h1, c31, cut_n hf, cut0 hf, lt1 hi, hle]
theorem t35_5 (hp : NoPm Pm) (hq : NoQ Q) (ha : Pm 97 = some asP) (o : Opn) (ho : o.dd = 5) {c : U} {h : List Uo} {fl : Nat} (hc : NoC c h fl) : gF vTab M Q Pm 35 [c, .agg (opnC o)] h fl = some (.agg (toldM 105), h, fl) := by
  refine gF_of (fn := v35) (hp 35 (by decide) (by decide)) rfl rfl ?_
  rcases hc with ⟨rfl, rfl, rfl⟩ | ⟨i, rfl, hi, hf⟩
  · have c31 := fun h p hi => t31_m (M := M) (105) h 0 p hp hq ha hi
    have h1 := t42_m (M := M) hp hq o.r.inst noC_nil
    simp at h1 c31
    simp [v35_16, ho, hq, h1, c31, cut]
  · have c31 := fun h p => t31_o (M := M) hp hq ha (105) fl h p
    have h1 := fun X Y Z => t42_m (M := M) hp hq o.r.inst (noC_app hi hf [X, Y, Z, .row (refC o.r)])
    have hle : ∀ n, fl ≤ h.length + n := fun n => by omega
    simp at h1 c31
    simp [v35_16, ho, hq, h1, c31, cut_n hf, cut0 hf, lt1 hi, hle]
theorem t35_6 (hp : NoPm Pm) (hq : NoQ Q) (ha : Pm 97 = some asP) (o : Opn) (ho : o.dd = 6) {c : U} {h : List Uo} {fl : Nat} (hc : NoC c h fl) : gF vTab M Q Pm 35 [c, .agg (opnC o)] h fl = some (.agg (toldM 116), h, fl) := by
  refine gF_of (fn := v35) (hp 35 (by decide) (by decide)) rfl rfl ?_
  rcases hc with ⟨rfl, rfl, rfl⟩ | ⟨i, rfl, hi, hf⟩
  · have c31 := fun h p hi => t31_m (M := M) (116) h 0 p hp hq ha hi
    have h1 := t69_m (M := M) hp hq o.r.inst o.r.tok noC_nil
    simp at h1 c31
    simp [v35_18, ho, hq, h1, c31, cut]
  · have c31 := fun h p => t31_o (M := M) hp hq ha (116) fl h p
    have h1 := fun X Y Z => t69_m (M := M) hp hq o.r.inst o.r.tok (noC_app hi hf [X, Y, Z, .row (refC o.r)])
    have hle : ∀ n, fl ≤ h.length + n := fun n => by omega
    simp at h1 c31
    simp [v35_18, ho, hq, h1, c31, cut_n hf, cut0 hf, lt1 hi, hle]
theorem t35_7 (hp : NoPm Pm) (hq : NoQ Q) (ha : Pm 97 = some asP) (o : Opn) (ho : o.dd = 7) {c : U} {h : List Uo} {fl : Nat} (hc : NoC c h fl) : gF vTab M Q Pm 35 [c, .agg (opnC o)] h fl = some (.agg (toldM 97), h, fl) := by
  refine gF_of (fn := v35) (hp 35 (by decide) (by decide)) rfl rfl ?_
  rcases hc with ⟨rfl, rfl, rfl⟩ | ⟨i, rfl, hi, hf⟩
  · have c31 := fun h p hi => t31_m (M := M) (97) h 0 p hp hq ha hi
    have h1 := t70_m (M := M) hp hq o.r.inst o.r.tok o.r.node noC_nil
    simp at h1 c31
    simp [v35_20, ho, hq, h1, c31, cut]
  · have c31 := fun h p => t31_o (M := M) hp hq ha (97) fl h p
    have h1 := fun X Y Z => t70_m (M := M) hp hq o.r.inst o.r.tok o.r.node (noC_app hi hf [X, Y, Z, .row (refC o.r)])
    have hle : ∀ n, fl ≤ h.length + n := fun n => by omega
    simp at h1 c31
    simp [v35_20, ho, hq, h1, c31, cut_n hf, cut0 hf, lt1 hi, hle]
theorem t35_8 (hp : NoPm Pm) (hq : NoQ Q) (ha : Pm 97 = some asP) (o : Opn) (ho : o.dd = 8) {c : U} {h : List Uo} {fl : Nat} (hc : NoC c h fl) : gF vTab M Q Pm 35 [c, .agg (opnC o)] h fl = some (.agg (toldM 118), h, fl) := by
  refine gF_of (fn := v35) (hp 35 (by decide) (by decide)) rfl rfl ?_
  rcases hc with ⟨rfl, rfl, rfl⟩ | ⟨i, rfl, hi, hf⟩
  · have c31 := fun h p hi => t31_m (M := M) (118) h 0 p hp hq ha hi
    have h1 := t71_m (M := M) hp hq o.r.inst o.r.name noC_nil
    simp at h1 c31
    simp [v35_22, ho, hq, h1, c31, cut]
  · have c31 := fun h p => t31_o (M := M) hp hq ha (118) fl h p
    have h1 := fun X Y Z => t71_m (M := M) hp hq o.r.inst o.r.name (noC_app hi hf [X, Y, Z, .row (refC o.r)])
    have hle : ∀ n, fl ≤ h.length + n := fun n => by omega
    simp at h1 c31
    simp [v35_22, ho, hq, h1, c31, cut_n hf, cut0 hf, lt1 hi, hle]
theorem t35_9 (hp : NoPm Pm) (hq : NoQ Q) (ha : Pm 97 = some asP) (o : Opn) (ho : o.dd = 9) (hd : o.x.d.length < 10000000) (hcl : o.x.c.length < 10000000) (hv : o.x.v < 18446744073709551616) (hx : o.x.nx < 18446744073709551616) {c : U} {h : List Uo} {fl : Nat} (hc : NoC c h fl) : gF vTab M Q Pm 35 [c, .agg (opnC o)] h fl = some (.agg (toldM 105), h, fl) := by
  refine gF_of (fn := v35) (hp 35 (by decide) (by decide)) rfl rfl ?_
  rcases hc with ⟨rfl, rfl, rfl⟩ | ⟨i, rfl, hi, hf⟩
  · have c31 := fun h p hi => t31_m (M := M) (105) h 0 p hp hq ha hi
    have h1 := t72_m (M := M) hp hq o.r.inst o.x hd hcl hv hx noC_nil
    simp at h1 c31
    simp [v35_24, ho, hq, h1, c31, cut]
  · have c31 := fun h p => t31_o (M := M) hp hq ha (105) fl h p
    have h1 := fun X Y Z => t72_m (M := M) hp hq o.r.inst o.x hd hcl hv hx (noC_app hi hf [X, Y, Z, .row (refC o.r)])
    have hle : ∀ n, fl ≤ h.length + n := fun n => by omega
    simp at h1 c31
    simp [v35_24, ho, hq, h1, c31, cut_n hf, cut0 hf, lt1 hi, hle]
theorem t35_10 (hp : NoPm Pm) (hq : NoQ Q) (ha : Pm 97 = some asP) (o : Opn) (ho : o.dd = 10) (hs : o.t.sc < 18446744073709551616) {c : U} {h : List Uo} {fl : Nat} (hc : NoC c h fl) : gF vTab M Q Pm 35 [c, .agg (opnC o)] h fl = some (.agg (toldM 116), h, fl) := by
  refine gF_of (fn := v35) (hp 35 (by decide) (by decide)) rfl rfl ?_
  rcases hc with ⟨rfl, rfl, rfl⟩ | ⟨i, rfl, hi, hf⟩
  · have c31 := fun h p hi => t31_m (M := M) (116) h 0 p hp hq ha hi
    have h1 := t73_m (M := M) hp hq o.r.inst o.r.tok o.t hs noC_nil
    simp at h1 c31
    simp [v35_26, ho, hq, h1, c31, cut]
  · have c31 := fun h p => t31_o (M := M) hp hq ha (116) fl h p
    have h1 := fun X Y Z => t73_m (M := M) hp hq o.r.inst o.r.tok o.t hs (noC_app hi hf [X, Y, Z, .row (refC o.r)])
    have hle : ∀ n, fl ≤ h.length + n := fun n => by omega
    simp at h1 c31
    simp [v35_26, ho, hq, h1, c31, cut_n hf, cut0 hf, lt1 hi, hle]
theorem t35_11 (hp : NoPm Pm) (hq : NoQ Q) (ha : Pm 97 = some asP) (o : Opn) (ho : o.dd = 11) {c : U} {h : List Uo} {fl : Nat} (hc : NoC c h fl) : gF vTab M Q Pm 35 [c, .agg (opnC o)] h fl = some (.agg (toldM 118), h, fl) := by
  refine gF_of (fn := v35) (hp 35 (by decide) (by decide)) rfl rfl ?_
  rcases hc with ⟨rfl, rfl, rfl⟩ | ⟨i, rfl, hi, hf⟩
  · have c31 := fun h p hi => t31_m (M := M) (118) h 0 p hp hq ha hi
    have h1 := t74_m (M := M) hp hq o.r.inst o.v noC_nil
    simp at h1 c31
    simp [v35_28, ho, hq, h1, c31, cut]
  · have c31 := fun h p => t31_o (M := M) hp hq ha (118) fl h p
    have h1 := fun X Y Z => t74_m (M := M) hp hq o.r.inst o.v (noC_app hi hf [X, Y, Z, .row (refC o.r)])
    have hle : ∀ n, fl ≤ h.length + n := fun n => by omega
    simp at h1 c31
    simp [v35_28, ho, hq, h1, c31, cut_n hf, cut0 hf, lt1 hi, hle]
theorem t35_12 (hp : NoPm Pm) (hq : NoQ Q) (ha : Pm 97 = some asP) (o : Opn) (ho : o.dd = 12) {c : U} {h : List Uo} {fl : Nat} (hc : NoC c h fl) : gF vTab M Q Pm 35 [c, .agg (opnC o)] h fl = some (.agg (toldM 97), h, fl) := by
  refine gF_of (fn := v35) (hp 35 (by decide) (by decide)) rfl rfl ?_
  rcases hc with ⟨rfl, rfl, rfl⟩ | ⟨i, rfl, hi, hf⟩
  · have c31 := fun h p hi => t31_m (M := M) (97) h 0 p hp hq ha hi
    have h1 := t75_m (M := M) hp hq o.r.inst o.r.tok o.r.node o.a noC_nil
    simp at h1 c31
    simp [v35_30, ho, hq, h1, c31, cut]
  · have c31 := fun h p => t31_o (M := M) hp hq ha (97) fl h p
    have h1 := fun X Y Z => t75_m (M := M) hp hq o.r.inst o.r.tok o.r.node o.a (noC_app hi hf [X, Y, Z, .row (refC o.r)])
    have hle : ∀ n, fl ≤ h.length + n := fun n => by omega
    simp at h1 c31
    simp [v35_30, ho, hq, h1, c31, cut_n hf, cut0 hf, lt1 hi, hle]
theorem t35_13 (hp : NoPm Pm) (hq : NoQ Q) (ha : Pm 97 = some asP) (o : Opn) (ho : o.dd = 13) {c : U} {h : List Uo} {fl : Nat} (hc : NoC c h fl) : gF vTab M Q Pm 35 [c, .agg (opnC o)] h fl = some (.agg (toldM 97), h, fl) := by
  refine gF_of (fn := v35) (hp 35 (by decide) (by decide)) rfl rfl ?_
  rcases hc with ⟨rfl, rfl, rfl⟩ | ⟨i, rfl, hi, hf⟩
  · have c31 := fun h p hi => t31_m (M := M) (97) h 0 p hp hq ha hi
    have h1 := t76_m (M := M) hp hq o.r.inst o.r.tok o.r.node noC_nil
    simp at h1 c31
    simp [v35_32, ho, hq, h1, c31, cut]
  · have c31 := fun h p => t31_o (M := M) hp hq ha (97) fl h p
    have h1 := fun X Y Z => t76_m (M := M) hp hq o.r.inst o.r.tok o.r.node (noC_app hi hf [X, Y, Z, .row (refC o.r)])
    have hle : ∀ n, fl ≤ h.length + n := fun n => by omega
    simp at h1 c31
    simp [v35_32, ho, hq, h1, c31, cut_n hf, cut0 hf, lt1 hi, hle]
end Go.RE
namespace Go.RE
variable {M : Nat → String → Option Nat} {Q : Mut} {Pm : Nat → Option (List U → List Uo → Nat → Option (U × List Uo × Nat))}
theorem t17_m (hp : NoPm Pm) (u : U) : gF vTab M Q Pm 17 [.nilp, u] [] 0 = some (.tup [], [], 0) := by
  refine gF_of (fn := v17) (hp 17 (by decide) (by decide)) rfl rfl ?_
  simp [v17_body, v17_0]
theorem t26_m (hp : NoPm Pm) (a b : By) (u : U) : gF vTab M Q Pm 26 [.nilp, .agg [.str a, .str b], u] [] 0 = some (.tup [], [], 0) := by
  refine gF_of (fn := v26) (hp 26 (by decide) (by decide)) rfl rfl ?_
  simp [v26_body, v26_0, v26_1, cut]
theorem t19_m (hp : NoPm Pm) (k : By) : gF vTab M Q Pm 19 [.nilp, .str k] [] 0 = some (.tup [.sl 1 [], .bool false, .nili], [], 0) := by
  refine gF_of (fn := v19) (hp 19 (by decide) (by decide)) rfl rfl ?_
  simp [v19_body, v19_0, v19_1, v19_2]
theorem t101_m (hp : NoPm Pm) (hs : Q 90 = some sortQ) : gF vTab M Q Pm 101 [.nilp] [] 0 = some (.own .r 1 [], [], 0) := by
  refine gF_of (fn := v101) (hp 101 (by decide) (by decide)) rfl rfl ?_
  have hq := fun s d => callQ_some (F := gF vTab M Q Pm) s d 90 (.t 3) 1 [] [] [] (q := sortQ) rfl
  simp [v101_body, v101_0, v101_1, v101_2, v101_8, v101_9, hs, hq, cut]
theorem t28_m (hp : NoPm Pm) (hq : NoQ Q) (k : By) : gF vTab M Q Pm 28 [.nilp, .str k] [] 0 = some (.tup [.sl 1 [], .bool false, .iface 45 (.agg [.str k, .str k])], [], 0) := by
  refine gF_of (fn := v28) (hp 28 (by decide) (by decide)) rfl rfl ?_
  simp [v28_body, v28_0, v28_1, v28_2, hq, t60 hp]
theorem t38_m (hp : NoPm Pm) (hq : NoQ Q) : gF vTab M Q Pm 38 [.nilp] [] 0 = some (.own .r 3 [], [], 0) := by
  refine gF_of (fn := v38) (hp 38 (by decide) (by decide)) rfl rfl ?_
  simp [v38_body, v38_0, v38_1, v38_2]
theorem t38_z (hp : NoPm Pm) (hs : Q 90 = some sortQ) {i : Nat} {h : List Uo} {fl : Nat} (hi : h[i]? = some (.row [.nili, .nilm])) (hf : fl ≤ h.length) : gF vTab M Q Pm 38 [.ptr i 0] h fl = some (.own .r 3 [], h, fl) := by
  refine gF_of (fn := v38) (hp 38 (by decide) (by decide)) rfl rfl ?_
  have hq := fun s d => callQ_some (F := gF vTab M Q Pm) s d 90 (.t 3) 1 [] [] [] (q := sortQ) rfl
  simp [v38_body, v38_0, v38_1, v38_3, v38_4, at_old hi, hi, lt1 hi, cut1 hf]
  rw [gL_round v38_b8.eq_1]
  simp [v38_5, nextU, cut1 hf, cut0 hf, lt1 hi]
  simp [v38_9, v38_10, v38_11, hs, hq, cut0 hf, cut1 hf, lt1 hi]
  rw [gL_round v38_b16.eq_1]
  simp [v38_12, v38_17, cut0 hf, cut1 hf, lt1 hi]
theorem t46_m (hp : NoPm Pm) (hq : NoQ Q) (hs : Q 90 = some sortQ) (a b : By) : gF vTab M Q Pm 46 [.nilp, .agg [.str a, .str b]] [] 0 = some (.own .r 2 [], [], 0) := by
  refine gF_of (fn := v46) (hp 46 (by decide) (by decide)) rfl rfl ?_
  simp [v46_body, v46_0, v46_1, v46_2, hq, t101_m hp hs]
  rw [gL_round v46_b8.eq_1]
  simp [v46_3, v46_9, cut]
theorem t21_m (hp : NoPm Pm) (hq : NoQ Q) (hs : Q 90 = some sortQ) (a b : By) : gF vTab M Q Pm 21 [.nilp, .str a, .str b] [] 0 = some (.tup [.sl 2 [], .nili], [], 0) := by
  refine gF_of (fn := v21) (hp 21 (by decide) (by decide)) rfl rfl ?_
  simp [v21_body, v21_0, v21_1, hq, t46_m hp hq hs]
theorem t15_m (hp : NoPm Pm) (hq : NoQ Q) (hs : Q 90 = some sortQ) : gF vTab M Q Pm 15 [.nilp] [] 0 = some (.own .r 2 [], [], 0) := by
  refine gF_of (fn := v15) (hp 15 (by decide) (by decide)) rfl rfl ?_
  simp [v15_body, v15_0, v15_1, hq, t46_m hp hq hs]
end Go.RE
namespace Go.RE
variable {M : Nat → String → Option Nat} {Q : Mut} {Pm : Nat → Option (List U → List Uo → Nat → Option (U × List Uo × Nat))}
theorem wrap_int {x : Int} (h0 : 0 ≤ x) (h1 : x ≤ 9223372036854775807) : wrapA .i64 x = x := by
  obtain ⟨n, rfl⟩ := Int.eq_ofNat_of_zero_le h0
  exact wrap_nat (by omega)
def sumO (o : Opn) : Nat := o.r.name.length + o.r.key.length + o.r.id.length + o.r.inst.length + o.data.length + o.x.d.length + o.x.c.length + o.a.name.length + o.a.key.length + o.v.name.length + o.v.s.length
def few1 (o : Opn) : Bool := decide (sumO o ≤ 1000)
def fewO (l : List Opn) : Bool := l.all few1 && decide (l.length ≤ 60)
structure OpS (o : Opn) : Prop where
  l0 : o.r.name.length ≤ 1048576
  l1 : o.r.key.length ≤ 1048576
  l2 : o.r.id.length ≤ 1048576
  l3 : o.r.inst.length ≤ 1048576
  l4 : o.data.length ≤ 1048576
  l5 : o.x.d.length ≤ 1048576
  l6 : o.x.c.length ≤ 1048576
  l7 : o.a.name.length ≤ 1048576
  l8 : o.a.key.length ≤ 1048576
  l9 : o.v.name.length ≤ 1048576
  l10 : o.v.s.length ≤ 1048576
theorem t32_a (l : List Opn) (hl : l.length < small) (hs : ∀ o ∈ l, OpS o) : ∀ (j q : Nat), q + j = l.length →
    gL vTab M Q Pm v32 0 v32_b8 0 ⟨[(8, .int .i64 (q : Int)), (6, .sl 27 (l.map opnC)), (0, .sl 27 (l.map opnC)), (7, .int .i64 (l.length : Int))], [], 0⟩ (seqK vTab M Q Pm v32 (.seq (.region v32_9) .ret) (kE 0 v32 (.bool ((l.drop q).all few1 && decide (l.length ≤ 60)), [], 0))) := by
  intro j
  induction j with
  | zero =>
    intro q hij
    have h1 : ¬ ((q : Int) < (l.length : Int)) := by omega
    have h2 : l.drop q = [] := List.drop_of_length_le (by omega)
    rw [gL_round v32_b8.eq_1, h2]
    simp [v32_2, h1, v32_9]
    omega
  | succ j ih =>
    intro q hij
    have h1 : ((q : Int) < (l.length : Int)) := by omega
    have hi1 : q < l.length := by omega
    have e1 : (l.map opnC)[q]? = some (opnC l[q]) := by simp [hi1]
    have e3 : wrapA .i64 ((q : Int) + 1) = ((q + 1 : Nat) : Int) := wrap_succ (by unfold small at hl; omega)
    have d1 : l.drop q = l[q] :: l.drop (q + 1) := List.drop_eq_getElem_cons hi1
    have ih' := ih (q + 1) (by omega)
    have ho := hs _ (List.getElem_mem hi1)
    rw [gL_round v32_b8.eq_1, d1, List.all_cons]
    generalize l[q] = o at *
    obtain ⟨p0, p1, p2, p3, p4, p5, p6, p7, p8, p9, p10⟩ := ho
    have w1 : wrapA .i64 ((o.r.name.length : Int) + (o.r.key.length : Int)) = (o.r.name.length : Int) + (o.r.key.length : Int) := wrap_int (by omega) (by omega)
    have w2 : wrapA .i64 ((o.r.name.length : Int) + (o.r.key.length : Int) + (o.r.id.length : Int)) = (o.r.name.length : Int) + (o.r.key.length : Int) + (o.r.id.length : Int) := wrap_int (by omega) (by omega)
    have w3 : wrapA .i64 ((o.r.name.length : Int) + (o.r.key.length : Int) + (o.r.id.length : Int) + (o.r.inst.length : Int)) = (o.r.name.length : Int) + (o.r.key.length : Int) + (o.r.id.length : Int) + (o.r.inst.length : Int) := wrap_int (by omega) (by omega)
    have w4 : wrapA .i64 ((o.r.name.length : Int) + (o.r.key.length : Int) + (o.r.id.length : Int) + (o.r.inst.length : Int) + (o.data.length : Int)) = (o.r.name.length : Int) + (o.r.key.length : Int) + (o.r.id.length : Int) + (o.r.inst.length : Int) + (o.data.length : Int) := wrap_int (by omega) (by omega)
    have w5 : wrapA .i64 ((o.r.name.length : Int) + (o.r.key.length : Int) + (o.r.id.length : Int) + (o.r.inst.length : Int) + (o.data.length : Int) + (o.x.d.length : Int)) = (o.r.name.length : Int) + (o.r.key.length : Int) + (o.r.id.length : Int) + (o.r.inst.length : Int) + (o.data.length : Int) + (o.x.d.length : Int) := wrap_int (by omega) (by omega)
    have w6 : wrapA .i64 ((o.r.name.length : Int) + (o.r.key.length : Int) + (o.r.id.length : Int) + (o.r.inst.length : Int) + (o.data.length : Int) + (o.x.d.length : Int) + (o.x.c.length : Int)) = (o.r.name.length : Int) + (o.r.key.length : Int) + (o.r.id.length : Int) + (o.r.inst.length : Int) + (o.data.length : Int) + (o.x.d.length : Int) + (o.x.c.length : Int) := wrap_int (by omega) (by omega)
    have w7 : wrapA .i64 ((o.r.name.length : Int) + (o.r.key.length : Int) + (o.r.id.length : Int) + (o.r.inst.length : Int) + (o.data.length : Int) + (o.x.d.length : Int) + (o.x.c.length : Int) + (o.a.name.length : Int)) = (o.r.name.length : Int) + (o.r.key.length : Int) + (o.r.id.length : Int) + (o.r.inst.length : Int) + (o.data.length : Int) + (o.x.d.length : Int) + (o.x.c.length : Int) + (o.a.name.length : Int) := wrap_int (by omega) (by omega)
    have w8 : wrapA .i64 ((o.r.name.length : Int) + (o.r.key.length : Int) + (o.r.id.length : Int) + (o.r.inst.length : Int) + (o.data.length : Int) + (o.x.d.length : Int) + (o.x.c.length : Int) + (o.a.name.length : Int) + (o.a.key.length : Int)) = (o.r.name.length : Int) + (o.r.key.length : Int) + (o.r.id.length : Int) + (o.r.inst.length : Int) + (o.data.length : Int) + (o.x.d.length : Int) + (o.x.c.length : Int) + (o.a.name.length : Int) + (o.a.key.length : Int) := wrap_int (by omega) (by omega)
    have w9 : wrapA .i64 ((o.r.name.length : Int) + (o.r.key.length : Int) + (o.r.id.length : Int) + (o.r.inst.length : Int) + (o.data.length : Int) + (o.x.d.length : Int) + (o.x.c.length : Int) + (o.a.name.length : Int) + (o.a.key.length : Int) + (o.v.name.length : Int)) = (o.r.name.length : Int) + (o.r.key.length : Int) + (o.r.id.length : Int) + (o.r.inst.length : Int) + (o.data.length : Int) + (o.x.d.length : Int) + (o.x.c.length : Int) + (o.a.name.length : Int) + (o.a.key.length : Int) + (o.v.name.length : Int) := wrap_int (by omega) (by omega)
    have w10 : wrapA .i64 ((o.r.name.length : Int) + (o.r.key.length : Int) + (o.r.id.length : Int) + (o.r.inst.length : Int) + (o.data.length : Int) + (o.x.d.length : Int) + (o.x.c.length : Int) + (o.a.name.length : Int) + (o.a.key.length : Int) + (o.v.name.length : Int) + (o.v.s.length : Int)) = (o.r.name.length : Int) + (o.r.key.length : Int) + (o.r.id.length : Int) + (o.r.inst.length : Int) + (o.data.length : Int) + (o.x.d.length : Int) + (o.x.c.length : Int) + (o.a.name.length : Int) + (o.a.key.length : Int) + (o.v.name.length : Int) + (o.v.s.length : Int) := wrap_int (by omega) (by omega)
    have hs' : few1 o = decide (sumO o ≤ 1000) := rfl
    rw [hs']
    by_cases hk : sumO o ≤ 1000
    · have hk' : ¬ (1000 : Int) < (o.r.name.length : Int) + (o.r.key.length : Int) + (o.r.id.length : Int) + (o.r.inst.length : Int) + (o.data.length : Int) + (o.x.d.length : Int) + (o.x.c.length : Int) + (o.a.name.length : Int) + (o.a.key.length : Int) + (o.v.name.length : Int) + (o.v.s.length : Int) := by unfold sumO at hk; omega
      simp at ih'
      simp only [opnC, refC, inC, tkC, armC, varC, List.cons_append, List.nil_append] at e1
      simp [v32_2, v32_3, v32_4, v32_5, v32_7, h1, iaV_sl e1, w1, w2, w3, w4, w5, w6, w7, w8, w9, w10, hk, hk', e3]
      exact ih'
    · have hk' : (1000 : Int) < (o.r.name.length : Int) + (o.r.key.length : Int) + (o.r.id.length : Int) + (o.r.inst.length : Int) + (o.data.length : Int) + (o.x.d.length : Int) + (o.x.c.length : Int) + (o.a.name.length : Int) + (o.a.key.length : Int) + (o.v.name.length : Int) + (o.v.s.length : Int) := by unfold sumO at hk; omega
      simp only [opnC, refC, inC, tkC, armC, varC, List.cons_append, List.nil_append] at e1
      simp [v32_2, v32_3, v32_4, v32_5, v32_6, h1, iaV_sl e1, w1, w2, w3, w4, w5, w6, w7, w8, w9, w10, hk, hk']
theorem t32 (hp : NoPm Pm) (l : List Opn) (hl : l.length < small) (hs : ∀ o ∈ l, OpS o) : gF vTab M Q Pm 32 [.sl 27 (l.map opnC)] [] 0 = some (.bool (fewO l), [], 0) := by
  refine gF_of (fn := v32) (hp 32 (by decide) (by decide)) rfl rfl ?_
  simp [v32_body, v32_0, v32_1]
  have := t32_a (M := M) (Q := Q) (Pm := Pm) l hl hs l.length 0 (by omega)
  simpa [fewO] using this
end Go.RE
namespace Go.RE
variable {M : Nat → String → Option Nat} {Q : Mut} {Pm : Nat → Option (List U → List Uo → Nat → Option (U × List Uo × Nat))}
theorem t35_all (hp : NoPm Pm) (hq : NoQ Q) (ha : Pm 97 = some asP) (o : Opn) (h0 : 0 ≤ o.dd) (h1 : o.dd ≤ 13) (hz : OpS o) (hv : o.x.v < 18446744073709551616) (hx : o.x.nx < 18446744073709551616) (hs : o.t.sc < 18446744073709551616) :
    ∃ k, ∀ (c : U) (h : List Uo) (fl : Nat), NoC c h fl → gF vTab M Q Pm 35 [c, .agg (opnC o)] h fl = some (.agg (toldM k), h, fl) := by
  have hd : o.x.d.length < 10000000 := by have := hz.l5; omega
  have hcl : o.x.c.length < 10000000 := by have := hz.l6; omega
  have hc : o.dd = 0 ∨ o.dd = 1 ∨ o.dd = 2 ∨ o.dd = 3 ∨ o.dd = 4 ∨ o.dd = 5 ∨ o.dd = 6 ∨ o.dd = 7 ∨ o.dd = 8 ∨ o.dd = 9 ∨ o.dd = 10 ∨ o.dd = 11 ∨ o.dd = 12 ∨ o.dd = 13 := by omega
  rcases hc with e | e | e | e | e | e | e | e | e | e | e | e | e | e
  · exact ⟨_, fun c h fl hc => t35_0 hp hq ha o e hc⟩
  · exact ⟨_, fun c h fl hc => t35_1 hp hq ha o e hc⟩
  · exact ⟨_, fun c h fl hc => t35_2 hp hq ha o e hc⟩
  · exact ⟨_, fun c h fl hc => t35_3 hp hq ha o e hc⟩
  · exact ⟨_, fun c h fl hc => t35_4 hp hq ha o e hc⟩
  · exact ⟨_, fun c h fl hc => t35_5 hp hq ha o e hc⟩
  · exact ⟨_, fun c h fl hc => t35_6 hp hq ha o e hc⟩
  · exact ⟨_, fun c h fl hc => t35_7 hp hq ha o e hc⟩
  · exact ⟨_, fun c h fl hc => t35_8 hp hq ha o e hc⟩
  · exact ⟨_, fun c h fl hc => t35_9 hp hq ha o e hd hcl hv hx hc⟩
  · exact ⟨_, fun c h fl hc => t35_10 hp hq ha o e hs hc⟩
  · exact ⟨_, fun c h fl hc => t35_11 hp hq ha o e hc⟩
  · exact ⟨_, fun c h fl hc => t35_12 hp hq ha o e hc⟩
  · exact ⟨_, fun c h fl hc => t35_13 hp hq ha o e hc⟩
set_option maxRecDepth 20000 in
theorem t10 (hp : NoPm Pm) (hq : NoQ Q) (hs : Q 90 = some sortQ) (hc : Pm 49 = some cloneP) (ha : Pm 97 = some asP) (hlive : gF vTab M Q Pm 11 [] [] 0 = some (.bool true, [], 0)) (o : Opn) (l : List Pr) (key : By) (hB : l.length ≤ 9223372036854775807)
    (hz : OpS o) (hv : o.x.v < 18446744073709551616) (hx : o.x.nx < 18446744073709551616) (hsc : o.t.sc < 18446744073709551616) :
    gF vTab M Q Pm 10 [.agg (opnC o), .sl 2 (l.map pairC), .str key] [] 0 = some (.bool true, [], 0) := by
  refine gF_of (fn := v10) (hp 10 (by decide) (by decide)) rfl rfl ?_
  have c32 := t32 (M := M) (Q := Q) (Pm := Pm) hp [o] (by simp [small]) (fun x hx => by simp at hx; subst hx; exact hz)
  have c12 := t12 (M := M) (Q := Q) (Pm := Pm) (hp 12 (by decide) (by decide)) l hB
  have un : opnC o = [.int .i64 o.dd, .int .u8 o.r.k.toNat, .str o.r.name, .str o.r.key, .str o.r.id, .str o.r.inst, .int .u64 o.r.tok, .int .u64 o.r.node, .int .u64 o.r.at_, .int .i64 o.n, .sl 1 (bytesU o.data), .str o.x.d, .int .u64 (o.x.v : Int), .int .i64 o.x.st, .str o.x.c, .int .u64 (o.x.nx : Int), .int .i64 o.t.node, .int .u64 (o.t.sc : Int), .int .i64 o.t.fl, .int .i64 o.a.kind, .str o.a.name, .str o.a.key, .int .u64 o.a.due, .str o.v.name, .int .i64 o.v.kind, .int .i64 o.v.n, .str o.v.s] := rfl
  rw [List.map_cons, List.map_nil, un] at c32
  rw [un]
  rcases bool_two (fewO [o]) with f1 | f1
  · rw [f1] at c32
    simp [v10_body, v10_0, v10_1, v10_2, hq, hlive, c32]
  · rw [f1] at c32
    rcases bool_two (fewL l) with f2 | f2
    · rw [f2] at c12
      simp [v10_body, v10_0, v10_1, v10_2, hq, hlive, c32, c12]
    · rw [f2] at c12
      by_cases w2 : key.length ≤ 300
      · have w2' : ¬ (300 : Int) < (key.length : Int) := by omega
        have c41 := t41_n (M := M) hp hq ha (key, key)
        simp only at c41
        by_cases a1 : o.dd < 0
        · skip
          obtain ⟨k, c35⟩ := t35_all (M := M) hp hq ha ({ o with dd := 0 }) (by simp) (by simp) ⟨hz.l0, hz.l1, hz.l2, hz.l3, hz.l4, hz.l5, hz.l6, hz.l7, hz.l8, hz.l9, hz.l10⟩ hv hx hsc
          have d1 := c35 .nilp [] 0 noC_nil
          have d2 := fun X Y Z => c35 (.ptr 1 0) [X, .row [.nili, .nilm], Y, Z] 0 (.inr ⟨1, rfl, rfl, by simp⟩)
          simp [opnC, refC, inC, tkC, armC, varC, toldM, zInst, zTok, zArm, zVal, plM] at d1 d2
          simp [v10_body, v10_0, v10_1, v10_3, v10_4, v10_5, v10_6, hq, hlive, c32, c12, w2', a1]
          simp [gC_drw v10_7h, v10_7s, hq, d1, d2, Nat.testBit_eq_decide_div_mod_eq]
          simp [v10_8, v10_9, v10_10, v10_11, v10_12, v10_13, v10_14, hq, t17_m hp, t26_m hp, t19_m hp, t21_m hp hq hs, t28_m hp hq]
          simp [v10_15, v10_16, hq, c41, t38_m hp hq, t38_z hp hs, t15_m hp hq hs]
        · by_cases a2 : 13 < o.dd
          · skip
            obtain ⟨k, c35⟩ := t35_all (M := M) hp hq ha ({ o with dd := 0 }) (by simp) (by simp) ⟨hz.l0, hz.l1, hz.l2, hz.l3, hz.l4, hz.l5, hz.l6, hz.l7, hz.l8, hz.l9, hz.l10⟩ hv hx hsc
            have d1 := c35 .nilp [] 0 noC_nil
            have d2 := fun X Y Z => c35 (.ptr 1 0) [X, .row [.nili, .nilm], Y, Z] 0 (.inr ⟨1, rfl, rfl, by simp⟩)
            simp [opnC, refC, inC, tkC, armC, varC, toldM, zInst, zTok, zArm, zVal, plM] at d1 d2
            simp [v10_body, v10_0, v10_1, v10_3, v10_4, v10_5, v10_6, hq, hlive, c32, c12, w2', a1, a2]
            simp [gC_drw v10_7h, v10_7s, hq, d1, d2, Nat.testBit_eq_decide_div_mod_eq]
            simp [v10_8, v10_9, v10_10, v10_11, v10_12, v10_13, v10_14, hq, t17_m hp, t26_m hp, t19_m hp, t21_m hp hq hs, t28_m hp hq]
            simp [v10_15, v10_16, hq, c41, t38_m hp hq, t38_z hp hs, t15_m hp hq hs]
          · skip
            obtain ⟨k, c35⟩ := t35_all (M := M) hp hq ha (o) (by omega) (by omega) hz hv hx hsc
            have d1 := c35 .nilp [] 0 noC_nil
            have d2 := fun X Y Z => c35 (.ptr 1 0) [X, .row [.nili, .nilm], Y, Z] 0 (.inr ⟨1, rfl, rfl, by simp⟩)
            simp [opnC, refC, inC, tkC, armC, varC, toldM, zInst, zTok, zArm, zVal, plM] at d1 d2
            simp [v10_body, v10_0, v10_1, v10_3, v10_4, v10_5, hq, hlive, c32, c12, w2', a1, a2]
            simp [gC_drw v10_7h, v10_7s, hq, d1, d2, Nat.testBit_eq_decide_div_mod_eq]
            simp [v10_8, v10_9, v10_10, v10_11, v10_12, v10_13, v10_14, hq, t17_m hp, t26_m hp, t19_m hp, t21_m hp hq hs, t28_m hp hq]
            simp [v10_15, v10_16, hq, c41, t38_m hp hq, t38_z hp hs, t15_m hp hq hs]
      · have w2' : (300 : Int) < (key.length : Int) := by omega
        simp [v10_body, v10_0, v10_1, v10_2, hq, hlive, c32, c12, w2']
end Go.RE
