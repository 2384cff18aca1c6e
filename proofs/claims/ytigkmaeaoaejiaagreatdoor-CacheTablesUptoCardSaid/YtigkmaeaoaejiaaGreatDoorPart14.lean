/- Rules for rewriting: indexes of strings and arrays, parts of strings, calls by name, least and greatest, copies. -/
import Derived.Test.YtigkmaeaoaejiaaGreatDoorPart13
set_option linter.unusedVariables false
set_option linter.unusedSimpArgs false
section
namespace Go.RE
def ixN (s : Vs) (b : List UInt8) (n : Int) : Option (U × Vs) := if 0 ≤ n then (match b[n.toNat]? with | some c => some (.int .u8 c.toNat, s) | none => none) else none
def ixO (s : Vs) : Option U → Option U → Option (U × Vs)
  | some (.str b), some (.int _ n) => ixN s b n
  | _, _ => none
@[simp] theorem ixO_some (s : Vs) (b : List UInt8) (k : IntKind) (n : Int) : ixO s (some (.str b)) (some (.int k n)) = ixN s b n := rfl
@[simp] theorem opS_index (d : Nat) (s : Vs) (x i : Opd) : opS d s (.index x i) = ixO s (evO s.e x) (evO s.e i) := by
  simp only [opS]
  cases evO s.e x with
  | none => rfl
  | some v =>
    cases v with
    | str b =>
      cases evO s.e i with
      | none => rfl
      | some w => cases w <;> rfl
    | _ => rfl
theorem ixN_at {s : Vs} {b : List UInt8} {i : Nat} {c : UInt8} (h : b[i]? = some c) : ixN s b (i : Int) = some (.int .u8 c.toNat, s) := by
  unfold ixN
  rw [if_pos (Int.natCast_nonneg i), Int.toNat_natCast, h]
def ssS (s : Vs) (b : List UInt8) (h : Nat) : Option Nat → Option (U × Vs)
  | some l => some (.str ((b.take h).drop l), s)
  | none => none
@[simp] theorem ssS_some (s : Vs) (b : List UInt8) (h l : Nat) : ssS s b h (some l) = some (.str ((b.take h).drop l), s) := rfl
def ssH (s : Vs) (lo : Option Opd) (b : List UInt8) : Option Nat → Option (U × Vs)
  | some h => ssS s b h (optNatU s.e lo 0 h)
  | none => none
@[simp] theorem ssH_some (s : Vs) (lo : Option Opd) (b : List UInt8) (h : Nat) : ssH s lo b (some h) = ssS s b h (optNatU s.e lo 0 h) := rfl
def ssV (s : Vs) (lo hi : Option Opd) : U → Option (U × Vs)
  | .str b => ssH s lo b (optNatU s.e hi b.length b.length)
  | _ => none
@[simp] theorem ssV_str (s : Vs) (lo hi : Option Opd) (b : List UInt8) : ssV s lo hi (.str b) = ssH s lo b (optNatU s.e hi b.length b.length) := rfl
@[simp] theorem opS_sliceStr (d : Nat) (s : Vs) (x : Opd) (lo hi : Option Opd) : opS d s (.sliceStr x lo hi) = (evO s.e x).bind (ssV s lo hi) := by
  simp only [opS]
  cases evO s.e x with
  | none => rfl
  | some v =>
    cases v with
    | str b =>
      simp only [Option.bind, ssV, ssH]
      cases optNatU s.e hi b.length b.length with
      | none => rfl
      | some h => simp only; cases optNatU s.e lo 0 h <;> rfl
    | _ => rfl
@[simp] theorem optNatU_none (e : Env) (d m : Nat) : optNatU e none d m = some d := rfl
def onV (most : Nat) : Option U → Option Nat
  | some v => asNatU v most
  | none => none
@[simp] theorem onV_some (most : Nat) (v : U) : onV most (some v) = asNatU v most := rfl
@[simp] theorem optNatU_some (e : Env) (x : Opd) (d m : Nat) : optNatU e (some x) d m = onV m (evO e x) := by
  simp only [optNatU]; cases evO e x <;> rfl
def iaA (s : Vs) (len w : Nat) : Option U → Option U → Option (U × Vs)
  | some (.ptr j off), some (.int _ n) => if 0 ≤ n ∧ n < (len : Int) then some (.ptr j (off + n.toNat * w), s) else none
  | some (.cptr row off), some (.int _ n) => if 0 ≤ n ∧ n < (len : Int) then some (.cptr row (off + n.toNat * w), s) else none
  | _, _ => none
@[simp] theorem iaA_ptr (s : Vs) (len w j off : Nat) (k : IntKind) (n : Int) : iaA s len w (some (.ptr j off)) (some (.int k n)) = if 0 ≤ n ∧ n < (len : Int) then some (.ptr j (off + n.toNat * w), s) else none := rfl
@[simp] theorem iaA_cptr (s : Vs) (len w off : Nat) (row : List U) (k : IntKind) (n : Int) : iaA s len w (some (.cptr row off)) (some (.int k n)) = if 0 ≤ n ∧ n < (len : Int) then some (.cptr row (off + n.toNat * w), s) else none := rfl
@[simp] theorem opS_indexArr (d : Nat) (s : Vs) (len w : Nat) (x i : Opd) : opS d s (.indexArr len w x i) = iaA s len w (evO s.e x) (evO s.e i) := by
  simp only [opS]
  cases evO s.e x with
  | none => rfl
  | some v =>
    cases v <;> (first | rfl | (cases evO s.e i with
      | none => rfl
      | some y => cases y <;> rfl))
def mxO (f : U → U → Option U) (s : Vs) : Option (List U) → Option (U × Vs)
  | some (v :: vs) => pairV s (foldU f v vs)
  | _ => none
@[simp] theorem mxO_some (f : U → U → Option U) (s : Vs) (v : U) (vs : List U) : mxO f s (some (v :: vs)) = pairV s (foldU f v vs) := rfl
@[simp] theorem opS_max (d : Nat) (s : Vs) (xs : List Opd) : opS d s (.max xs) = mxO (liftV2 max2V) s (evOs s.e xs) := by
  simp only [opS]
  cases evOs s.e xs with
  | none => rfl
  | some l =>
    cases l with
    | nil => rfl
    | cons v vs => simp only [mxO]; cases foldU (liftV2 max2V) v vs <;> rfl
@[simp] theorem opS_min (d : Nat) (s : Vs) (xs : List Opd) : opS d s (.min xs) = mxO (liftV2 min2V) s (evOs s.e xs) := by
  simp only [opS]
  cases evOs s.e xs with
  | none => rfl
  | some l =>
    cases l with
    | nil => rfl
    | cons v vs => simp only [mxO]; cases foldU (liftV2 min2V) v vs <;> rfl
def fdO (f : U → U → Option U) (r : List U) : Option U → Option U
  | some c => foldU f c r
  | none => none
@[simp] theorem fdO_some (f : U → U → Option U) (r : List U) (c : U) : fdO f r (some c) = foldU f c r := rfl
@[simp] theorem foldU_nil (f : U → U → Option U) (a : U) : foldU f a [] = some a := rfl
@[simp] theorem foldU_cons (f : U → U → Option U) (a b : U) (r : List U) : foldU f a (b :: r) = fdO f r (f a b) := by
  simp only [foldU]; cases f a b <;> rfl
def asV (t : Nat) (z : U) (s : Vs) : U → Option (U × Vs)
  | .nili => some (.tup [z, .bool false], s)
  | .iface u v => some (if u = t then .tup [v, .bool true] else .tup [z, .bool false], s)
  | _ => none
@[simp] theorem asV_nili (t : Nat) (z : U) (s : Vs) : asV t z s .nili = some (.tup [z, .bool false], s) := rfl
@[simp] theorem asV_iface (t u : Nat) (z v : U) (s : Vs) : asV t z s (.iface u v) = some (if u = t then .tup [v, .bool true] else .tup [z, .bool false], s) := rfl
def asO (t : Nat) (s : Vs) : Option U → Option U → Option (U × Vs)
  | some z, some x => asV t z s x
  | _, _ => none
@[simp] theorem asO_some (t : Nat) (s : Vs) (z x : U) : asO t s (some z) (some x) = asV t z s x := rfl
@[simp] theorem opS_assertTo (d : Nat) (s : Vs) (t : Nat) (z : V) (x : Opd) : opS d s (.assertTo t z x) = asO t s z.toP (evO s.e x) := by
  simp only [opS]
  cases z.toP with
  | none => rfl
  | some z =>
    cases evO s.e x with
    | none => rfl
    | some v => cases v <;> rfl
section
variable {M : Nat → String → Option Nat} {Q : Mut} {F : FU}
def inM (F : FU) (s : Vs) (d : Nat) (args : List U) : Option Nat → Option (U × Vs)
  | some f => callU F d f args s
  | none => none
@[simp] theorem inM_some (s : Vs) (d f : Nat) (args : List U) : inM F s d args (some f) = callU F d f args s := rfl
def inO (M : Nat → String → Option Nat) (F : FU) (s : Vs) (d : Nat) (name : String) : Option U → Option (List U) → Option (U × Vs)
  | some (.iface t v), some vs => inM F s d (v :: vs) (M t name)
  | _, _ => none
@[simp] theorem inO_some (s : Vs) (d : Nat) (name : String) (t : Nat) (v : U) (vs : List U) : inO M F s d name (some (.iface t v)) (some vs) = inM F s d (v :: vs) (M t name) := rfl
@[simp] theorem opC_invoke (s : Vs) (dst : Option Nat) (name : String) (x : Opd) (args : List Opd) : opC M Q F s dst (.invoke name x args) = inO M F s (dst.getD 0) name (evO s.e x) (evOs s.e args) := by
  simp only [opC]
  cases evO s.e x with
  | none => rfl
  | some v =>
    cases v with
    | iface t v =>
      cases evOs s.e args with
      | none => rfl
      | some vs => simp only [inO, inM]; cases M t name <;> rfl
    | _ => rfl
end
@[simp] theorem iaV_ownI (s : Vs) (w w' : Nat) (g : Tg) (xs : List (List U)) (k : IntKind) (n : Int) : iaV s w (some (.own g w' xs)) (some (.int k n)) = if 0 ≤ n ∧ n < (xs.length : Int) then (bif Nat.beq w' w then some (.optr g n.toNat 0, s) else none) else none := rfl
@[simp] theorem toP_int (k : IntKind) (n : Int) : (V.int k n).toP = some (.int k n) := rfl
@[simp] theorem toP_bool (b : Bool) : (V.bool b).toP = some (.bool b) := rfl
@[simp] theorem toP_str (b : List UInt8) : (V.str b).toP = some (.str b) := rfl
@[simp] theorem toP_nilp : V.nilp.toP = some .nilp := rfl
@[simp] theorem toP_nili : V.nili.toP = some .nili := rfl
@[simp] theorem toP_cs0 (w : Nat) : (V.cslice [] 0 0 w).toP = some (.sl w []) := rfl
@[simp] theorem toP_agg (cs : List V) : (V.agg cs).toP = bif (V.toUs cs).all U.cellok then some (.agg (V.toUs cs)) else none := by
  simp only [V.toP, V.toU]
  cases (V.toUs cs).all U.cellok <;> rfl
def fqO (neg : Bool) : Option Bool → Option U
  | some b => some (.bool (b != neg))
  | none => none
@[simp] theorem fqO_some (neg b : Bool) : fqO neg (some b) = some (.bool (b != neg)) := rfl
@[simp] theorem binU_eql_agg (ks : List (Nat × EqK)) (a b : List U) : binU .eql (.flat ks) (.agg a) (.agg b) = fqO false (flatEqU ks a b) := by
  have : binU .eql (.flat ks) (.agg a) (.agg b) = (match flatEqU ks a b with | some r => some (.bool r) | none => none) := rfl
  rw [this]; cases flatEqU ks a b with
  | none => rfl
  | some r => cases r <;> rfl
@[simp] theorem binU_neq_agg (ks : List (Nat × EqK)) (a b : List U) : binU .neq (.flat ks) (.agg a) (.agg b) = fqO true (flatEqU ks a b) := by
  have : binU .neq (.flat ks) (.agg a) (.agg b) = (match flatEqU ks a b with | some r => some (.bool (!r)) | none => none) := rfl
  rw [this]; cases flatEqU ks a b with
  | none => rfl
  | some r => cases r <;> rfl
@[simp] theorem flatEqU_nil (a b : List U) : flatEqU [] a b = some true := rfl
def fqA (a : Bool) : Option Bool → Option Bool
  | some b => some (a && b)
  | none => bif a then none else some false
@[simp] theorem fqA_some (a b : Bool) : fqA a (some b) = some (a && b) := rfl
def fqP (r : List (Nat × EqK)) (xs ys : List U) : Option Bool → Option Bool
  | some a => fqA a (flatEqU r xs ys)
  | none => none
@[simp] theorem fqP_some (r : List (Nat × EqK)) (xs ys : List U) (a : Bool) : fqP r xs ys (some a) = fqA a (flatEqU r xs ys) := rfl
def fqC (k : EqK) (r : List (Nat × EqK)) (xs ys : List U) : Option U → Option U → Option Bool
  | some a, some b => fqP r xs ys (plainEqU k a b)
  | _, _ => none
@[simp] theorem fqC_some (k : EqK) (r : List (Nat × EqK)) (xs ys : List U) (a b : U) : fqC k r xs ys (some a) (some b) = fqP r xs ys (plainEqU k a b) := rfl
@[simp] theorem flatEqU_cons (o : Nat) (k : EqK) (r : List (Nat × EqK)) (xs ys : List U) : flatEqU ((o, k) :: r) xs ys = fqC k r xs ys xs[o]? ys[o]? := by
  simp only [flatEqU]
  cases xs[o]? with
  | none => rfl
  | some a =>
    cases ys[o]? with
    | none => rfl
    | some b =>
      simp only [fqC]
      cases plainEqU k a b with
      | none => rfl
      | some c =>
        cases c with
        | true => simp only [fqP]; cases flatEqU r xs ys with
          | none => rfl
          | some d => rfl
        | false => simp only [fqP]; cases flatEqU r xs ys <;> rfl
@[simp] theorem plainEqU_int (j : IntKind) (a b : Int) : plainEqU .int (.int j a) (.int j b) = some (a == b) := by simp [plainEqU, U.toV, plainEq]
@[simp] theorem plainEqU_str (a b : List UInt8) : plainEqU .str (.str a) (.str b) = some (a == b) := rfl
@[simp] theorem plainEqU_bool (a b : Bool) : plainEqU .bool (.bool a) (.bool b) = some (a == b) := rfl
def tbV (d : Nat) (s : Vs) : U → Option (U × Vs)
  | .str b => some (.own (.t d) 1 (bytesU b), s.kill (.t d))
  | _ => none
@[simp] theorem tbV_str (d : Nat) (s : Vs) (b : List UInt8) : tbV d s (.str b) = some (.own (.t d) 1 (bytesU b), s.kill (.t d)) := rfl
@[simp] theorem opM_toBytes (d : Nat) (s : Vs) (x : Opd) : opM d s (.toBytes x) = (evO s.e x).bind (tbV d s) := by
  simp only [opM]
  cases evO s.e x with
  | none => rfl
  | some v => cases v <;> rfl
end Go.RE
end
section
namespace Go.RE
variable {M : Nat → String → Option Nat} {Q : Mut} {Pm : Nat → Option (List U → List Uo → Nat → Option (U × List Uo × Nat))}
theorem t107_0 (hp : NoPm Pm) : gF vTab M Q Pm 107 [.int .i64 0] [] 0 = some (.nili, [], 0) := by
  refine gF_of (fn := v107) (hp 107 (by decide) (by decide)) rfl rfl ?_
  simp [v107_body, v107_0, v107_1, v107_2]
theorem t167_0 (hp : NoPm Pm) (p : By) : gF vTab M Q Pm 167 [.str p, .nili] [] 0 = some (.nili, [], 0) := by
  refine gF_of (fn := v167) (hp 167 (by decide) (by decide)) rfl rfl ?_
  simp [v167_body, v167_0, v167_1, v167_2]
theorem t167 (hp : NoPm Pm) (p : By) (t : Nat) (v : U) (hv : v.low 0 = true) : gF vTab M Q Pm 167 [.str p, .iface t v] [] 0 = some (.iface 191 (.ptr 0 0), [.row [.str p, .iface t v]], 0) := by
  refine gF_of (fn := v167) (hp 167 (by decide) (by decide)) rfl rfl ?_
  simp [v167_body, v167_0, v167_1, v167_3, hv]
theorem strV_own (s : Vs) (g : Tg) (xs : List (List U)) : strV s (.own g 1 xs) = (unbytes xs).bind fun bs => some (.str bs, s) := by simp [strV, rowsOf]
theorem unbytes_nil : unbytes [] = some [] := rfl
theorem unbytes_cons (b : UInt8) (r : List (List U)) : unbytes ([.int .u8 b.toNat] :: r) = (unbytes r).bind fun bs => some (b :: bs) := by
  simp only [unbytes, byteOfU]
  have : UInt8.ofNat (b.toNat : Int).toNat = b := by simp
  rw [this]
  cases unbytes r <;> rfl
theorem t106_0 (hp : NoPm Pm) (hq : NoQ Q) (b : UInt8) : gF vTab M Q Pm 106 [.int .u8 b.toNat, .nili] [] 0 = some (.nili, [], 0) := by
  refine gF_of (fn := v106) (hp 106 (by decide) (by decide)) rfl rfl ?_
  simp [v106_body, v106_0, v106_1, hq, t167_0 hp, strV_own, unbytes_nil, unbytes_cons]
theorem t99 (hp : NoPm Pm) (s : By) : gF vTab M Q Pm 99 [.str s] [] 0 = some (.agg [.int .u8 105, .str [], .str [], .str [], .str s, .int .u64 0, .int .u64 0, .int .u64 0], [], 0) := by
  refine gF_of (fn := v99) (hp 99 (by decide) (by decide)) rfl rfl ?_
  simp [v99_body, v99_0, v99_1]
theorem t171_i (hp : NoPm Pm) : gF vTab M Q Pm 171 [.int .u8 105] [] 0 = some (.tup [.str [105], .bool true], [], 0) := by
  refine gF_of (fn := v171) (hp 171 (by decide) (by decide)) rfl rfl ?_
  simp [v171_body, v171_0, v171_1, v171_2, v171_3, v171_4, v171_5, v171_6, v171_7, v171_8, v171_9, v171_10, v171_11, v171_12, v171_13, v171_14, v171_23]
def escB1 (b : UInt8) : By := if b = 0 then [0, 255] else [b]
def escP (s : By) : By := s.flatMap escB1
def keyB (k : UInt8) (l : List By) : By := k :: l.flatMap fun s => escP s ++ [0, 1]
theorem bytes_app (a b : By) : bytesU (a ++ b) = bytesU a ++ bytesU b := by simp [bytesU]
attribute [simp] bytes_len
theorem bytes_cons (a : UInt8) (r : By) : bytesU (a :: r) = [.int .u8 a.toNat] :: bytesU r := rfl
theorem bytes_nil : bytesU [] = [] := rfl
theorem escB1_len (b : UInt8) : (escB1 b).length ≤ 2 := by unfold escB1; split <;> simp
theorem fewB {n : Nat} (h : n < small) : n + 1 ≤ big ∧ n + 2 ≤ big := by unfold small at h; unfold big; omega
theorem u8_zero (b : UInt8) : ((b.toNat : Int) == 0) = decide (b = 0) := by
  cases h : decide (b = 0) with
  | true => have := of_decide_eq_true h; subst this; rfl
  | false =>
    have hb := of_decide_eq_false h
    rw [beq_eq_false_iff_ne]
    intro hh
    apply hb
    exact UInt8.toNat_inj.1 (by simpa using hh)
theorem t227_a (s : By) (ps : List (List U)) (n' i' : Int) (K : Ex → Vs → Prop) (hl : s.length < small) : ∀ (j i : Nat) (acc : By), i + j = s.length → acc.length + 2 * j < small →
    K .normal ⟨[(11, .sl 1 ps), (12, .int .i64 n'), (13, .int .i64 i'), (5, .own (.t 5) 1 (bytesU (acc ++ escP (s.drop i))))], [], 0⟩ →
    gL vTab M Q Pm v227 2 v227_b12 0 ⟨[(19, .int .i64 (i : Int)), (7, .str s), (5, .own (.t 5) 1 (bytesU acc)), (11, .sl 1 ps), (12, .int .i64 n'), (13, .int .i64 i'), (18, .int .i64 (s.length : Int))], [], 0⟩ K := by
  intro j
  induction j with
  | zero =>
    intro i acc hi ho hK
    have h1 : ¬ ((i : Int) < (s.length : Int)) := by omega
    have h2 : s.drop i = [] := List.drop_of_length_le (by omega)
    rw [h2] at hK
    rw [gL_round v227_b12e]
    simp [v227_6, h1, escP] at hK ⊢
    exact hK
  | succ j ih =>
    intro i acc hi ho hK
    have h1 : ((i : Int) < (s.length : Int)) := by omega
    have hi1 : i < s.length := by omega
    have e1 : s[i]? = some s[i] := by simp [hi1]
    have e3 : wrapA .i64 ((i : Int) + 1) = ((i + 1 : Nat) : Int) := wrap_succ (by unfold small at hl; omega)
    have d1 : s.drop i = s[i] :: s.drop (i + 1) := List.drop_eq_getElem_cons hi1
    obtain ⟨f1, f2⟩ := fewB (n := acc.length) (by omega)
    rw [d1] at hK
    rw [gL_round v227_b12e]
    generalize s[i] = b at *
    cases hb : decide (b = 0) with
    | true =>
      have := of_decide_eq_true hb; subst this
      have ih' := ih (i + 1) (acc ++ [0, 255]) (by omega) (by simp; omega)
      simp [escP, escB1, bytes_app, bytes_cons, bytes_nil] at hK ih'
      simp [v227_6, v227_7, v227_8, v227_9, v227_10, v227_11, h1, ixN_at e1, e3, f1, f2]
      exact ih' hK
    | false =>
      have hb' := of_decide_eq_false hb
      have ih' := ih (i + 1) (acc ++ [b]) (by omega) (by simp; omega)
      simp [escP, escB1, bytes_app, hb', bytes_cons, bytes_nil] at hK ih'
      simp [v227_6, v227_7, v227_8, v227_9, v227_11, h1, ixN_at e1, e3, f1, f2, u8_zero, hb']
      exact ih' hK
theorem keyB_snoc (k : UInt8) (l : List By) (s : By) : keyB k (l ++ [s]) = keyB k l ++ escP s ++ [0, 1] := by simp [keyB]
theorem keyB_split (k : UInt8) (a b : List By) (s : By) : (keyB k a).length ≤ (keyB k (a ++ s :: b)).length ∧ s.length ≤ ((a ++ s :: b).map List.length).sum := by
  constructor
  · simp [keyB]
  · simp; omega
theorem escP_len (s : By) : (escP s).length ≤ 2 * s.length := by
  unfold escP
  induction s with
  | nil => simp
  | cons b r ih => have := escB1_len b; simp at ih ⊢; omega
theorem t227_b (k : UInt8) (l : List By) (hl : l.length < small) (K : Ex → Vs → Prop) : ∀ (j i : Nat), i + j = l.length → (∀ s ∈ l, s.length < small) →
    (keyB k l).length + 2 * (l.map List.length).sum < small →
    K .normal ⟨[(5, .own (.t 5) 1 (bytesU (keyB k l)))], [], 0⟩ →
    gL vTab M Q Pm v227 0 v227_b15 0 ⟨[(5, .own (.t 5) 1 (bytesU (keyB k (l.take i)))), (13, .int .i64 (i : Int)), (11, .sl 1 (l.map fun s => [.str s])), (12, .int .i64 (l.length : Int))], [], 0⟩ K := by
  intro j
  induction j with
  | zero =>
    intro i hi hs hb hK
    have h1 : ¬ ((i : Int) < (l.length : Int)) := by omega
    have h2 : l.take i = l := List.take_of_length_le (by omega)
    rw [gL_round v227_b15e, h2]
    simp [v227_3, h1] at hK ⊢
    exact hK
  | succ j ih =>
    intro i hi hs hb hK
    have h1 : ((i : Int) < (l.length : Int)) := by omega
    have hi1 : i < l.length := by omega
    have e1 : (l.map fun s => [U.str s])[i]? = some [.str l[i]] := by simp [hi1]
    have e3 : wrapA .i64 ((i : Int) + 1) = ((i + 1 : Nat) : Int) := wrap_succ (by unfold small at hl; omega)
    have ih' := ih (i + 1) (by omega) hs hb hK
    have d2 : l.take (i + 1) = l.take i ++ [l[i]] := by simp
    have hlen : (keyB k (l.take i)).length + 2 * l[i].length < small := by
      have a1 : l.take i ++ l[i] :: l.drop (i + 1) = l := by rw [← List.drop_eq_getElem_cons hi1, List.take_append_drop]
      have a2 := keyB_split k (l.take i) (l.drop (i + 1)) l[i]
      rw [a1] at a2
      omega
    have hlen2 : (keyB k (l.take i)).length + (escP l[i]).length + 2 ≤ big := by
      have := escP_len l[i]
      unfold small at hlen; unfold big; omega
    have hin := t227_a (M := M) (Q := Q) (Pm := Pm) l[i] (l.map fun s => [.str s]) (l.length : Int) (i : Int)
    rw [d2, keyB_snoc] at ih'
    rw [gL_round v227_b15e]
    simp [v227_3, v227_4, v227_5, h1, iaV_sl e1]
    refine hin _ (hs _ (List.getElem_mem hi1)) l[i].length 0 _ (by omega) (by omega) ?_
    simp only [List.drop_zero]
    simp [bytes_app, bytes_cons, bytes_nil] at ih'
    simp [v227_13, v227_14, e3, bytes_app, bytes_cons, bytes_nil, hlen2]
    exact ih'
theorem t227 (hp : NoPm Pm) (k : UInt8) (l : List By) (hl : l.length < small) (hs : ∀ s ∈ l, s.length < small) (hb : (keyB k l).length + 2 * (l.map List.length).sum < small) :
    gF vTab M Q Pm 227 [.int .u8 k.toNat, .sl 1 (l.map fun s => [.str s])] [] 0 = some (.str (keyB k l), [], 0) := by
  refine gF_of (fn := v227) (hp 227 (by decide) (by decide)) rfl rfl ?_
  have h := t227_b (M := M) (Q := Q) (Pm := Pm) k l hl (seqK vTab M Q Pm v227 (.seq (.region v227_16) .ret) (kE 0 v227 (.str (keyB k l), [], 0))) l.length 0 (by omega) hs hb (by simp [v227_16])
  simp [keyB, bytes_cons, bytes_nil] at h
  simp [v227_body, v227_0, v227_1, v227_2]
  exact h
@[simp] theorem cut_same (h : List Uo) (fl : Nat) : cut h.length fl h = h := by unfold cut; exact List.take_of_length_le (Nat.le_max_left _ _)
theorem t172_i (hp : NoPm Pm) (h : List Uo) (fl i : Nat) (hi : i < h.length) : gF vTab M Q Pm 172 [.ptr i 0, .int .u8 105] h fl = some (.ptr i 4, h, fl) := by
  refine gF_of (fn := v172) (hp 172 (by decide) (by decide)) rfl rfl ?_
  have hi' : decide (i < h.length) = true := decide_eq_true hi
  simp [v172_body, v172_0, v172_1, v172_2, v172_4, v172_6, v172_8, v172_9, hi']
theorem wrap1 : wrapA .i64 1 = 1 := by decide
theorem t168_i (hp : NoPm Pm) (hq : NoQ Q) (s : By) : gF vTab M Q Pm 168 [.agg [.int .u8 105, .str [], .str [], .str [], .str s, .int .u64 0, .int .u64 0, .int .u64 0]] [] 0 =
    some (.tup [.sl 1 [[.str s]], .agg [.int .u8 105, .str [], .str [], .str [], .str [], .int .u64 0, .int .u64 0, .int .u64 0], .int .i64 0], [], 0) := by
  refine gF_of (fn := v168) (hp 168 (by decide) (by decide)) rfl rfl ?_
  simp [v168_body, v168_0, v168_1, hq, t171_i hp, v168_2, v168_4, v168_5]
  rw [gL_round v168_b16e]
  have h172 := t172_i (M := M) (Q := Q) hp [.row [.int .u8 105, .str [], .str [], .str [], .str s, .int .u64 0, .int .u64 0, .int .u64 0], .row [.int .u8 0, .str [], .str [], .str [], .str [], .int .u64 0, .int .u64 0, .int .u64 0]] 0 0 (by simp)
  simp [v168_6, v168_7, v168_8, ixN, hq, h172, v168_9, v168_10, v168_11, v168_15, big]
  rw [gL_round v168_b16e]
  simp [v168_6, gC_drw v168_17h, v168_17s, wrap1]
abbrev refI (s : By) : U := .agg [.int .u8 105, .str [], .str [], .str [], .str s, .int .u64 0, .int .u64 0, .int .u64 0]
theorem t166_i (hp : NoPm Pm) (hq : NoQ Q) (s : By) (hs : s.length < 1000) : gF vTab M Q Pm 166 [refI s] [] 0 = some (.tup [.str (keyB 105 [s]), .int .i64 0], [], 0) := by
  refine gF_of (fn := v166) (hp 166 (by decide) (by decide)) rfl rfl ?_
  have hl := escP_len s
  have h227 := t227 (M := M) (Q := Q) (Pm := Pm) hp 105 [s] (by unfold small; simp) (by unfold small; simp; omega) (by unfold small; simp [keyB]; omega)
  simp at h227
  simp [v166_body, v166_0, v166_1, hq, t168_i hp hq, v166_2, v166_4, v166_6, h227]
theorem t104 (hp : NoPm Pm) (hq : NoQ Q) (s : Spn) (k : By) (h : List Uo) (fl i : Nat) (hf : fl ≤ h.length) (hi : h[i]? = some (.row [.str k])) : gF vTab M Q Pm 104 [.agg (spC s), .ptr i 0] h fl = some (.bool (has s.1 s.2 k), h, fl) := by
  refine gF_of (fn := v104) (hp 104 (by decide) (by decide)) rfl rfl ?_
  have hlt := (List.getElem?_eq_some_iff.1 hi).1
  have e1 := at_old (l := [Uo.row [.str s.1, .str s.2]]) hi
  simp [v104_body, v104_0, v104_1, spC, hq, e1, t58 (hp 58 (by decide) (by decide)), cut0 hf]
def idxB (l : List Spn) (k : By) (i : Nat) : Int := match l with
  | [] => -1
  | s :: r => if has s.1 s.2 k = true then (i : Int) else idxB r k (i + 1)
theorem idxB_any : ∀ (l : List Spn) (k : By) (i : Nat), decide (0 ≤ idxB l k i) = inB l k := by
  intro l
  induction l with
  | nil => intro k i; rfl
  | cons s r ih =>
    intro k i
    have h1 : inB (s :: r) k = (has s.1 s.2 k || inB r k) := rfl
    have h2 : idxB (s :: r) k i = if has s.1 s.2 k = true then (i : Int) else idxB r k (i + 1) := rfl
    rw [h1, h2]
    by_cases hk : has s.1 s.2 k = true
    · rw [if_pos hk, hk]; simp
    · rw [if_neg hk, ih k (i + 1)]; simp at hk; rw [hk]; rfl
theorem t165_a (hp : NoPm Pm) (hq : NoQ Q) (l : List Spn) (k : By) (hl : l.length < small) (h : List Uo) (fl p : Nat) (hf : fl ≤ h.length) (hi : h[p]? = some (.row [.str k])) : ∀ (j i : Nat), i + j = l.length →
    gL vTab M Q Pm v165 0 v165_b7 h.length ⟨[(8, .int .i64 (i : Int)), (0, .sl 2 (l.map spC)), (1, .func 104 [] [.ptr p 0]), (7, .int .i64 (l.length : Int))], h, fl⟩ (seqK vTab M Q Pm v165 (.seq (.region v165_8) .ret) (kE h.length v165 (.int .i64 (idxB (l.drop i) k i), h, fl))) := by
  have hlt := (List.getElem?_eq_some_iff.1 hi).1
  have hlt' : decide (p < h.length) = true := decide_eq_true hlt
  intro j
  induction j with
  | zero =>
    intro i hij
    have h1 : ¬ ((i : Int) < (l.length : Int)) := by omega
    have h2 : l.drop i = [] := List.drop_of_length_le (by omega)
    rw [gL_round v165_b7e, h2]
    simp [v165_2, h1, v165_8, idxB]
  | succ j ih =>
    intro i hij
    have h1 : ((i : Int) < (l.length : Int)) := by omega
    have hi1 : i < l.length := by omega
    have e1 : (l.map spC)[i]? = some (spC l[i]) := by simp [hi1]
    have e3 : wrapA .i64 ((i : Int) + 1) = ((i + 1 : Nat) : Int) := wrap_succ (by unfold small at hl; omega)
    have d1 : l.drop i = l[i] :: l.drop (i + 1) := List.drop_eq_getElem_cons hi1
    have ih' := ih (i + 1) (by omega)
    have c104 := t104 (M := M) hp hq l[i] k h fl p hf hi
    rw [gL_round v165_b7e, d1]
    cases hk : has l[i].1 l[i].2 k with
    | true =>
      rw [hk] at c104
      simp [spC] at c104
      simp [v165_2, v165_3, v165_4, v165_5, h1, iaV_sl e1, spC, hq, c104, idxB, hk, hlt']
    | false =>
      rw [hk] at c104
      simp [spC] at c104
      simp [v165_8] at ih'
      simp [v165_2, v165_3, v165_4, v165_6, h1, iaV_sl e1, spC, hq, c104, idxB, hk, hlt', e3, v165_8]
      exact ih'
theorem t165 (hp : NoPm Pm) (hq : NoQ Q) (l : List Spn) (k : By) (hl : l.length < small) (h : List Uo) (fl p : Nat) (hf : fl ≤ h.length) (hi : h[p]? = some (.row [.str k])) :
    gF vTab M Q Pm 165 [.sl 2 (l.map spC), .func 104 [] [.ptr p 0]] h fl = some (.int .i64 (idxB l k 0), h, fl) := by
  refine gF_of (fn := v165) (hp 165 (by decide) (by decide)) rfl rfl ?_
  have h1 := t165_a (M := M) hp hq l k hl h fl p hf hi l.length 0 (by omega)
  have hlt' : decide (p < h.length) = true := decide_eq_true (List.getElem?_eq_some_iff.1 hi).1
  simp only [List.drop_zero] at h1
  simp [v165_body, v165_0, v165_1, hlt']
  exact h1
theorem t103 (hp : NoPm Pm) (hq : NoQ Q) (l : List Spn) (k : By) (hl : l.length < small) (h : List Uo) (fl p : Nat) (hf : fl ≤ h.length) (hi : h[p]? = some (.row [.str k])) :
    gF vTab M Q Pm 103 [.sl 2 (l.map spC), .func 104 [] [.ptr p 0]] h fl = some (.bool (inB l k), h, fl) := by
  refine gF_of (fn := v103) (hp 103 (by decide) (by decide)) rfl rfl ?_
  have hlt' : decide (p < h.length) = true := decide_eq_true (List.getElem?_eq_some_iff.1 hi).1
  simp [v103_body, v103_0, v103_1, hq, hlt', t165 hp hq l k hl h fl p hf hi]
  exact idxB_any l k 0
theorem t59 (hp : NoPm Pm) (hq : NoQ Q) (l : List Spn) (k : By) (hl : l.length < small) : gF vTab M Q Pm 59 [.sl 2 (l.map spC), .str k] [] 0 = some (.bool (inB l k), [], 0) := by
  refine gF_of (fn := v59) (hp 59 (by decide) (by decide)) rfl rfl ?_
  simp [v59_body, v59_0, v59_1, hq, t103 hp hq l k hl [.row [.str k]] 0 0 (by simp) rfl]
theorem t60 (hp : NoPm Pm) (lo hi : By) : gF vTab M Q Pm 60 [.str lo, .str hi] [] 0 = some (.iface 45 (.agg [.str lo, .str hi]), [], 0) := by
  refine gF_of (fn := v60) (hp 60 (by decide) (by decide)) rfl rfl ?_
  simp [v60_body, v60_0, v60_1]
def liveH : List Uo := [.map [] 0, .row [.map 0], .map [] 0, .row [.ptr 1 0, .map 2, .nl 2], .map [] 0, .row [.iface 58 (.ptr 3 0), .map 4]]
theorem t25 (hp : NoPm Pm) (hq : NoQ Q) (hc : Pm 49 = some cloneP) : gF vTab M Q Pm 25 [] [] 0 = some (.ptr 3 0, [.map [] 0, .row [.map 0], .map [] 0, .row [.ptr 1 0, .map 2, .nl 2]], 0) := by
  refine gF_of (fn := v25) (hp 25 (by decide) (by decide)) rfl rfl ?_
  have h44 := t44 (M := M) hp hq hc [] (by decide) (fun p hp => by cases hp)
  simp [tabO] at h44
  simp [v25_body, v25_0, v25_1, hq, h44, shiftO_map]
theorem t33 (hp : NoPm Pm) : gF vTab M Q Pm 33 [.iface 58 (.ptr 3 0)] [.map [] 0, .row [.map 0], .map [] 0, .row [.ptr 1 0, .map 2, .nl 2]] 0 = some (.ptr 5 0, liveH, 0) := by
  refine gF_of (fn := v33) (hp 33 (by decide) (by decide)) rfl rfl ?_
  simp [v33_body, v33_0, v33_1, v33_3, liveH]
def zI : Uo := .row [.str [], .int .u64 0, .int .i64 0, .str [], .int .u64 0]
def rI (s : By) : Uo := .row [.int .u8 105, .str [], .str [], .str [], .str s, .int .u64 0, .int .u64 0, .int .u64 0]
def liveX (s : By) : List Uo := [.map [] 0, .row [.map 0], .map [] 0, .row [.ptr 1 0, .map 2, .nl 2], .map [] 0, .row [.iface 58 (.ptr 3 0), .map 4], zI, rI s, zI, zI, rI s]
def liveY (s : By) : List Uo := [.map [] 0, .row [.map 0], .map [] 0, .row [.ptr 1 0, .map 2, .nl 2], .map [] 0, .row [.iface 58 (.ptr 3 0), .map 4], zI, rI s, zI, zI, rI s, .row [.bool false, .sl 1 []]]
def liveZ (s k : By) : List Uo := [.map [] 0, .row [.map 0], .map [] 0, .row [.ptr 1 0, .map 2, .nl 2], .map [] 0, .row [.iface 58 (.ptr 3 0), .map 4], zI, rI s, zI, zI, rI s, .row [.bool false, .sl 1 []], .row [.str [105], .iface 45 (.agg [.str k, .str k])]]
theorem t105_i (hp : NoPm Pm) (hq : NoQ Q) (s : By) (hs : s.length < 1000) : gF vTab M Q Pm 105 [.ptr 5 0, refI s] (liveX s) 0 = some (.tup [.str (keyB 105 [s]), .nili], liveX s, 0) := by
  refine gF_of (fn := v105) (hp 105 (by decide) (by decide)) rfl rfl ?_
  have h106 := t106_0 (M := M) (Q := Q) (Pm := Pm) hp hq 105
  simp at h106
  simp [v105_body, v105_0, v105_1, v105_3, liveX, zI, rI, hq, t166_i hp hq s hs, gC_drw v105_4h, v105_4s, t107_0 hp, h106, Nat.testBit_eq_decide_div_mod_eq]
  rfl
theorem t28_i (hp : NoPm Pm) (hq : NoQ Q) (s k : By) : gF vTab M Q Pm 28 [.ptr 3 0, .str k] (liveY s) 0 = some (.tup [.sl 1 [], .bool false, .iface 45 (.agg [.str k, .str k])], liveY s, 0) := by
  refine gF_of (fn := v28) (hp 28 (by decide) (by decide)) rfl rfl ?_
  have h59 := t59 (M := M) (Q := Q) (Pm := Pm) hp hq [] k (by decide)
  simp [inB] at h59
  simp [v28_body, v28_0, v28_1, v28_2, liveY, zI, rI, hq, h59, t60 hp, lookupU, findU, plainKeyU, U.toV, plainKey]
  rfl
theorem t106_n (hp : NoPm Pm) (hq : NoQ Q) (b : UInt8) (k : By) : gF vTab M Q Pm 106 [.int .u8 b.toNat, .iface 45 (.agg [.str k, .str k])] [] 0 = some (.iface 191 (.ptr 0 0), [.row [.str [b], .iface 45 (.agg [.str k, .str k])]], 0) := by
  refine gF_of (fn := v106) (hp 106 (by decide) (by decide)) rfl rfl ?_
  simp [v106_body, v106_0, v106_1, hq, strV_own, unbytes_nil, unbytes_cons, t167 hp [b] 45 (.agg [.str k, .str k]) (by simp)]
theorem t64_i (hp : NoPm Pm) (hq : NoQ Q) (hm : M 58 "Get" = some 28) (s : By) (hs : s.length < 1000) : gF vTab M Q Pm 64 [.ptr 5 0, refI s] [.map [] 0, .row [.map 0], .map [] 0, .row [.ptr 1 0, .map 2, .nl 2], .map [] 0, .row [.iface 58 (.ptr 3 0), .map 4], zI, rI s, zI, zI] 0 =
    some (.tup [.sl 1 [], .bool false, .iface 191 (.ptr 12 0)], liveZ s (keyB 105 [s]), 0) := by
  refine gF_of (fn := v64) (hp 64 (by decide) (by decide)) rfl rfl ?_
  have h105 := t105_i (M := M) hp hq s hs
  have h28 := t28_i (M := M) hp hq s (keyB 105 [s])
  have h106 := t106_n (M := M) hp hq 105 (keyB 105 [s])
  simp [liveX, liveY, zI, rI] at h105 h28 h106
  generalize keyB 105 [s] = k at *
  simp [v64_body, v64_0, v64_1, v64_2, v64_4, v64_5, v64_7, v64_8, v64_9, liveZ, zI, rI, hq, hm, h105, h28, h106, lookupU, findU, plainKeyU, U.toV, plainKey]
theorem t98_i (hp : NoPm Pm) (hq : NoQ Q) (hm : M 58 "Get" = some 28) (s : By) (hs : s.length < 1000) : gF vTab M Q Pm 98 [.ptr 5 0, refI s, .func 100 [] []] [.map [] 0, .row [.map 0], .map [] 0, .row [.ptr 1 0, .map 2, .nl 2], .map [] 0, .row [.iface 58 (.ptr 3 0), .map 4], zI] 0 =
    some (.tup [.agg [.str [], .int .u64 0, .int .i64 0, .str [], .int .u64 0], .bool false, .iface 191 (.ptr 12 0)], liveZ s (keyB 105 [s]), 0) := by
  refine gF_of (fn := v98) (hp 98 (by decide) (by decide)) rfl rfl ?_
  have h64 := t64_i (M := M) hp hq hm s hs
  simp [liveZ, zI, rI] at h64
  generalize keyB 105 [s] = k at *
  simp [v98_body, v98_0, v98_1, v98_2, v98_3, v98_4, liveZ, zI, rI, hq, h64]
theorem t42_i (hp : NoPm Pm) (hq : NoQ Q) (hm : M 58 "Get" = some 28) (s : By) (hs : s.length < 1000) : gF vTab M Q Pm 42 [.ptr 5 0, .str s] liveH 0 =
    some (.tup [.agg [.str [], .int .u64 0, .int .i64 0, .str [], .int .u64 0], .bool false, .iface 191 (.ptr 12 0)], liveZ s (keyB 105 [s]), 0) := by
  refine gF_of (fn := v42) (hp 42 (by decide) (by decide)) rfl rfl ?_
  have h98 := t98_i (M := M) hp hq hm s hs
  simp [liveZ, zI, rI] at h98
  generalize keyB 105 [s] = k at *
  simp [v42_body, v42_0, v42_1, liveZ, zI, rI, liveH, hq, t99 hp, h98]
def asShU : Nat → U → Bool
  | 45, .agg [.str _, .str _] => true
  | 43, .int .i64 _ => true
  | 191, .ptr _ _ => true
  | _, _ => false
def asWalk (h : List Uo) (tt : Nat) : Nat → U → Option (Option U)
  | 0, _ => none
  | n + 1, .iface t v => bif Nat.beq t tt then (bif asShU tt v then some (some v) else none) else
    bif Nat.beq t 43 || Nat.beq t 45 then some none else
    bif Nat.beq t 191 then (match v with
      | .ptr i 0 => (match h[i]? with
        | some (.row [.str _, .nili]) => some none
        | some (.row [.str _, .iface t' v']) => asWalk h tt n (.iface t' v')
        | _ => none)
      | _ => none) else none
  | _ + 1, _ => none
def asG (h : List Uo) (tt n : Nat) : Option Uo → Option (Option U)
  | some (.row [.str _, .nili]) => some none
  | some (.row [.str _, .iface t' v']) => asWalk h tt n (.iface t' v')
  | _ => none
section
variable {h : List Uo} {n : Nat} {v : U} {p : By} {t i : Nat}
@[simp] theorem asG_nil {tt : Nat} : asG h tt n (some (.row [.str p, .nili])) = some none := rfl
@[simp] theorem asG_if {tt : Nat} : asG h tt n (some (.row [.str p, .iface t v])) = asWalk h tt n (.iface t v) := rfl
@[simp] theorem asWalk_ff {o : Nat} : asWalk h 191 (n + 1) (.iface 191 (.ptr i o)) = some (some (.ptr i o)) := rfl
@[simp] theorem asWalk_nn {q : By} : asWalk h 45 (n + 1) (.iface 45 (.agg [.str p, .str q])) = some (some (.agg [.str p, .str q])) := rfl
@[simp] theorem asWalk_ee {k : Int} : asWalk h 43 (n + 1) (.iface 43 (.int .i64 k)) = some (some (.int .i64 k)) := rfl
@[simp] theorem asWalk_fn : asWalk h 191 (n + 1) (.iface 45 v) = some none := rfl
@[simp] theorem asWalk_fe : asWalk h 191 (n + 1) (.iface 43 v) = some none := rfl
@[simp] theorem asWalk_ne : asWalk h 45 (n + 1) (.iface 43 v) = some none := rfl
@[simp] theorem asWalk_en : asWalk h 43 (n + 1) (.iface 45 v) = some none := rfl
@[simp] theorem asWalk_nf : asWalk h 45 (n + 1) (.iface 191 (.ptr i 0)) = asG h 45 n h[i]? := rfl
@[simp] theorem asWalk_ef : asWalk h 43 (n + 1) (.iface 191 (.ptr i 0)) = asG h 43 n h[i]? := rfl
end
def asElem : Nat → Option Nat
  | 187 => some 45
  | 192 => some 191
  | 197 => some 43
  | _ => none
@[simp] theorem asElem_n : asElem 187 = some 45 := rfl
@[simp] theorem asElem_f : asElem 192 = some 191 := rfl
@[simp] theorem asElem_e : asElem 197 = some 43 := rfl
def asSet (h : List Uo) (fl j : Nat) (cs : List U) : Option (Option U) → Option (U × List Uo × Nat)
  | some none => some (.bool false, h, fl)
  | some (some v) => bif Nat.beq v.cells.length cs.length && v.cells.all U.cellok then some (.bool true, h.set j (.row v.cells), bif v.low (j + 1) then fl else h.length) else none
  | none => none
@[simp] theorem asSet_no (h : List Uo) (fl j : Nat) (cs : List U) : asSet h fl j cs (some none) = some (.bool false, h, fl) := rfl
@[simp] theorem asSet_some (h : List Uo) (fl j : Nat) (cs : List U) (v : U) : asSet h fl j cs (some (some v)) = bif Nat.beq v.cells.length cs.length && v.cells.all U.cellok then some (.bool true, h.set j (.row v.cells), bif v.low (j + 1) then fl else h.length) else none := rfl
def asT (h : List Uo) (fl j : Nat) (e : U) : Option Uo → Option Nat → Option (U × List Uo × Nat)
  | some (.row cs), some tt => asSet h fl j cs (asWalk h tt 64 e)
  | _, _ => none
@[simp] theorem asT_some (h : List Uo) (fl j : Nat) (e : U) (cs : List U) (tt : Nat) : asT h fl j e (some (.row cs)) (some tt) = asSet h fl j cs (asWalk h tt (63 + 1) e) := rfl
def asP : List U → List Uo → Nat → Option (U × List Uo × Nat)
  | [.nili, .iface _ _], h, fl => some (.bool false, h, fl)
  | [.iface t v, .iface tp (.ptr j 0)], h, fl => asT h fl j (.iface t v) h[j]? (asElem tp)
  | _, _, _ => none
@[simp] theorem asP_nil (t : Nat) (v : U) (h : List Uo) (fl : Nat) : asP [.nili, .iface t v] h fl = some (.bool false, h, fl) := rfl
@[simp] theorem asP_if (t tp j : Nat) (v : U) (h : List Uo) (fl : Nat) : asP [.iface t v, .iface tp (.ptr j 0)] h fl = asT h fl j (.iface t v) h[j]? (asElem tp) := rfl
theorem t97 (ha : Pm 97 = some asP) (us : List U) (h : List Uo) (fl : Nat) : gF vTab M Q Pm 97 us h fl = asP us h fl := by rw [gF_prim ha]
theorem t41_i (hp : NoPm Pm) (hq : NoQ Q) (ha : Pm 97 = some asP) (s k : By) (X : Uo) : gF vTab M Q Pm 41 [.iface 191 (.ptr 12 0)] (liveZ s k ++ [X]) 0 = some (.tup [.agg [.str k, .str k], .bool true], liveZ s k ++ [X], 0) := by
  refine gF_of (fn := v41) (hp 41 (by decide) (by decide)) rfl rfl ?_
  simp [v41_body, v41_0, v41_1, v41_2, v41_3, liveZ, zI, rI, hq, t97 ha]
  rfl
theorem t43_i (hp : NoPm Pm) (hq : NoQ Q) (ha : Pm 97 = some asP) (s k : By) (X Y : Uo) : gF vTab M Q Pm 43 [.iface 191 (.ptr 12 0)] (liveZ s k ++ [X, Y]) 0 = some (.own .r 1 [[.str [105]]], liveZ s k ++ [X, Y], 0) := by
  refine gF_of (fn := v43) (hp 43 (by decide) (by decide)) rfl rfl ?_
  simp [v43_body, v43_0, v43_1, v43_2, liveZ, zI, rI]
  rw [gL_round v43_b6e]
  simp [v43_3, v43_4, v43_5, hq, t97 ha, big, cut]
  rw [gL_round v43_b6e]
  simp [v43_3, v43_7, hq, t97 ha, cut]
theorem t11 (hp : NoPm Pm) (hq : NoQ Q) (hc : Pm 49 = some cloneP) (ha : Pm 97 = some asP) (hm : M 58 "Get" = some 28) : gF vTab M Q Pm 11 [] [] 0 = some (.bool true, [], 0) := by
  refine gF_of (fn := v11) (hp 11 (by decide) (by decide)) rfl rfl ?_
  have h42 := t42_i (M := M) (Q := Q) (Pm := Pm) hp hq hm [97] (by decide)
  have hk : keyB 105 [[97]] = [105, 97, 0, 1] := by decide
  rw [hk] at h42
  have h33 := t33 (M := M) (Q := Q) (Pm := Pm) hp
  have h41 := t41_i (M := M) hp hq ha [97] [105, 97, 0, 1] zI
  have h43 := t43_i (M := M) hp hq ha [97] [105, 97, 0, 1] zI (.row [.str [105, 97, 0, 1], .str [105, 97, 0, 1]])
  simp [liveZ, zI, rI, liveH] at h42 h33 h41 h43
  simp [v11_body, v11_0, v11_1, v11_2, v11_4, v11_5, v11_6, v11_7, hq, t25 hp hq hc, h33, h42, h41, h43, liveH, shiftO_map]
end Go.RE
end
section
namespace Go.RE
variable {M : Nat → String → Option Nat} {Q : Mut} {Pm : Nat → Option (List U → List Uo → Nat → Option (U × List Uo × Nat))}
theorem law3 (hp : NoPm Pm) (hq : NoQ Q) (hs : Q 90 = some sortQ) (hc : Pm 49 = some cloneP) (ha : Pm 97 = some asP) (hm : M 58 "Get" = some 28) (l : List Pr) (w : List Wr) (key hi : By)
    (hl : l.length ≤ 1048576) (hw : w.length ≤ 1048576) (hld : ∀ p ∈ l, p.2.length ≤ 1048576) (hwk : ∀ x ∈ w, x.1.length ≤ 1048576) (hwd : ∀ x ∈ w, x.2.2.length ≤ 1048576) :
    gF vTab M Q Pm 3 [.sl 2 (l.map pairC), .sl 3 (w.map wrC), .str key, .str hi] [] 0 = some (.bool true, [], 0) := by
  have r0 := rl_pairs l ([], 0) [] rl_nil
  have r1 := rl_writes w _ _ r0
  have hP : pairsL l = l.foldl putL [] := rfl
  have d0 : ∀ p ∈ l, p.2.length < small := fun p h => by have := hld p h; unfold small; omega
  have d1 : ∀ x ∈ w, x.2.2.length < small := fun x h => by have := hwd x h; unfold small; omega
  obtain ⟨k0, n0⟩ := tab_pairs l ([], 0) d0 tab_nil
  obtain ⟨k1, n1⟩ := tab_writes w _ d1 k0
  have m0 := pairs_len l []
  have m1 := apply_len w (l.foldl putL [])
  simp only [List.length_nil] at n0 m0
  exact t3 hp hq hs hc (t11 hp hq hc ha hm) l w key hi (by omega) (fun _ => by unfold small; omega) (by unfold small; omega) d0 d1 _ _ rfl rfl (pairsL l) _ rfl rfl k0 k1 (by unfold small; omega) (by unfold small; omega) (by rw [hP]; unfold small; omega) (by rw [hP]; unfold small; omega)
    (fun _ x h => by have := hwk x h; unfold small; omega) (all_eq r0) (all_eq r1) (data_eq r1 key) (some_eq r1 key) (scan_eq r1 key hi)
end Go.RE
end
