/- A deterministic evaluator (in continuation form) for the code of a program: values, heap, compiled code. No theorem here speaks of the model yet. -/
import GoSem.Step
import Derived.Calls
import Derived.Orders
import Derived.Laws.World
import Derived.Laws.Cells
set_option linter.unusedVariables false
set_option linter.unusedSimpArgs false
namespace Go.RE
inductive PT (α : Type) where
  | e
  | n (v : Option α) (l r : PT α)
deriving Inhabited
namespace PT
variable {α : Type}
def get : PT α → Nat → Option α
  | .e, _ => none
  | .n v l r, k => match k with
    | 0 => v
    | j + 1 => bif Nat.beq (j % 2) 0 then l.get (j / 2) else r.get (j / 2)
def putF : Nat → PT α → Nat → Option α → PT α
  | 0, t, _, _ => t
  | f + 1, t, k, x => match t with
    | .e => (match k with
      | 0 => .n x .e .e
      | j + 1 => bif Nat.beq (j % 2) 0 then .n none (putF f .e (j / 2) x) .e else .n none .e (putF f .e (j / 2) x))
    | .n v l r => (match k with
      | 0 => .n x l r
      | j + 1 => bif Nat.beq (j % 2) 0 then .n v (putF f l (j / 2) x) r else .n v l (putF f r (j / 2) x))
def set (t : PT α) (k : Nat) (x : α) : PT α := putF (k + 1) t k (some x)
theorem get_putF (f : Nat) : ∀ (t : PT α) (k : Nat) (x : Option α) (j : Nat), k < f → (putF f t k x).get j = if j = k then x else t.get j := by
  induction f with
  | zero => intro t k x j h; omega
  | succ f ih =>
    intro t k x j h
    cases t with
    | e =>
      cases k with
      | zero =>
        cases j with
        | zero => simp [putF, get]
        | succ j => simp only [putF, get]; cases Nat.beq (j % 2) 0 <;> simp [get]
      | succ k =>
        simp only [putF]
        have hk : k / 2 < f := by omega
        cases hb : Nat.beq (k % 2) 0 with
        | true =>
          simp only [cond_true]
          cases j with
          | zero => simp [get]
          | succ j =>
            simp only [get]
            cases hc : Nat.beq (j % 2) 0 with
            | true =>
              simp only [cond_true]
              rw [ih _ _ _ _ hk]
              have h1 : k % 2 = 0 := Nat.eq_of_beq_eq_true hb
              have h2 : j % 2 = 0 := Nat.eq_of_beq_eq_true hc
              by_cases hj : j = k
              · subst hj; simp
              · rw [if_neg (by omega), if_neg (by omega)]; simp [get]
            | false =>
              have h1 : k % 2 = 0 := Nat.eq_of_beq_eq_true hb
              have h2 : ¬ j % 2 = 0 := by intro h; rw [h] at hc; simp at hc
              rw [if_neg (by intro h; apply h2; have : j = k := by omega
                             rw [this]; exact h1)]
              simp [get]
        | false =>
          simp only [cond_false]
          cases j with
          | zero => simp [get]
          | succ j =>
            simp only [get]
            cases hc : Nat.beq (j % 2) 0 with
            | false =>
              simp only [cond_false]
              rw [ih _ _ _ _ hk]
              have h1 : ¬ k % 2 = 0 := by intro h; rw [h] at hb; simp at hb
              have h2 : ¬ j % 2 = 0 := by intro h; rw [h] at hc; simp at hc
              by_cases hj : j = k
              · subst hj; simp
              · rw [if_neg (by omega), if_neg (by omega)]; simp [get]
            | true =>
              have h1 : ¬ k % 2 = 0 := by intro h; rw [h] at hb; simp at hb
              have h2 : j % 2 = 0 := Nat.eq_of_beq_eq_true hc
              rw [if_neg (by intro h; apply h1; have : j = k := by omega
                             rw [← this]; exact h2)]
              simp [get]
    | n v l r =>
      cases k with
      | zero =>
        cases j with
        | zero => simp [putF, get]
        | succ j => simp [putF, get]
      | succ k =>
        simp only [putF]
        have hk : k / 2 < f := by omega
        cases hb : Nat.beq (k % 2) 0 with
        | true =>
          simp only [cond_true]
          cases j with
          | zero => simp [get]
          | succ j =>
            simp only [get]
            cases hc : Nat.beq (j % 2) 0 with
            | true =>
              simp only [cond_true]
              rw [ih _ _ _ _ hk]
              have h1 : k % 2 = 0 := Nat.eq_of_beq_eq_true hb
              have h2 : j % 2 = 0 := Nat.eq_of_beq_eq_true hc
              by_cases hj : j = k
              · subst hj; simp
              · rw [if_neg (by omega), if_neg (by omega)]
            | false =>
              have h1 : k % 2 = 0 := Nat.eq_of_beq_eq_true hb
              have h2 : ¬ j % 2 = 0 := by intro h; rw [h] at hc; simp at hc
              rw [if_neg (by intro h; apply h2; have : j = k := by omega
                             rw [this]; exact h1)]
              simp
        | false =>
          simp only [cond_false]
          cases j with
          | zero => simp [get]
          | succ j =>
            simp only [get]
            cases hc : Nat.beq (j % 2) 0 with
            | false =>
              simp only [cond_false]
              rw [ih _ _ _ _ hk]
              have h1 : ¬ k % 2 = 0 := by intro h; rw [h] at hb; simp at hb
              have h2 : ¬ j % 2 = 0 := by intro h; rw [h] at hc; simp at hc
              by_cases hj : j = k
              · subst hj; simp
              · rw [if_neg (by omega), if_neg (by omega)]
            | true =>
              have h1 : ¬ k % 2 = 0 := by intro h; rw [h] at hb; simp at hb
              have h2 : j % 2 = 0 := Nat.eq_of_beq_eq_true hc
              rw [if_neg (by intro h; apply h1; have : j = k := by omega
                             rw [← this]; exact h2)]
              simp
theorem get_set (t : PT α) (k : Nat) (x : α) (j : Nat) : (t.set k x).get j = if j = k then some x else t.get j :=
  get_putF (k + 1) t k (some x) j (Nat.lt_succ_self k)
@[simp] theorem get_e (k : Nat) : (PT.e : PT α).get k = none := by cases k <;> rfl
end PT
inductive V where
  | bool (b : Bool)
  | int (k : IntKind) (n : Int)
  | str (s : List UInt8)
  | nilp
  | ptr (b off : Nat)
  | cptr (row : List V) (off : Nat)
  | nils
  | zslice
  | slice (b off len cap sz : Nat) (exact : Bool)
  | cslice (row : List V) (off len sz : Nat)
  | nilm
  | map (b : Nat)
  | nilf
  | func (f : Nat) (first captured : List V)
  | nili
  | iface (t : Nat) (v : V)
  | agg (cs : List V)
  | tup (vs : List V)
deriving Inhabited
def V.one : V → Bool
  | .agg _ => false
  | .tup _ => false
  | _ => true
def V.cells : V → List V
  | .agg cs => cs
  | v => [v]
mutual
def V.beq : V → V → Bool
  | .bool a, .bool b => a == b
  | .int j a, .int k b => decide (j = k) && decide (a = b)
  | .str a, .str b => a == b
  | .nilp, .nilp => true
  | .ptr a b, .ptr c d => Nat.beq a c && Nat.beq b d
  | .cptr a b, .cptr c d => V.beqL a c && Nat.beq b d
  | .nils, .nils => true
  | .zslice, .zslice => true
  | .slice a b c d e f, .slice a' b' c' d' e' f' => Nat.beq a a' && Nat.beq b b' && Nat.beq c c' && Nat.beq d d' && Nat.beq e e' && (f == f')
  | .cslice a b c d, .cslice a' b' c' d' => V.beqL a a' && Nat.beq b b' && Nat.beq c c' && Nat.beq d d'
  | .nilm, .nilm => true
  | .map a, .map b => Nat.beq a b
  | .nilf, .nilf => true
  | .func f a b, .func g c d => Nat.beq f g && V.beqL a c && V.beqL b d
  | .nili, .nili => true
  | .iface t v, .iface u w => Nat.beq t u && V.beq v w
  | .agg a, .agg b => V.beqL a b
  | .tup a, .tup b => V.beqL a b
  | _, _ => false
def V.beqL : List V → List V → Bool
  | [], [] => true
  | a :: as, b :: bs => V.beq a b && V.beqL as bs
  | _, _ => false
end
mutual
theorem V.eq_of_beq : ∀ {a b : V}, V.beq a b = true → a = b
  | .bool a, b, h => by cases b <;> simp_all [V.beq]
  | .int j a, b, h => by cases b <;> simp_all [V.beq]
  | .str a, b, h => by cases b <;> simp_all [V.beq]
  | .nilp, b, h => by cases b <;> simp_all [V.beq]
  | .ptr a c, b, h => by cases b <;> simp_all [V.beq]
  | .cptr a c, b, h => by
    cases b <;> simp [V.beq] at h
    obtain ⟨h1, h2⟩ := h
    rw [V.eq_of_beqL h1, h2]
  | .nils, b, h => by cases b <;> simp_all [V.beq]
  | .zslice, b, h => by cases b <;> simp_all [V.beq]
  | .slice a1 a2 a3 a4 a5 a6, b, h => by cases b <;> simp_all [V.beq]
  | .cslice a c d e, b, h => by
    cases b <;> simp [V.beq] at h
    obtain ⟨⟨⟨h1, h2⟩, h3⟩, h4⟩ := h
    rw [V.eq_of_beqL h1, h2, h3, h4]
  | .nilm, b, h => by cases b <;> simp_all [V.beq]
  | .map a, b, h => by cases b <;> simp_all [V.beq]
  | .nilf, b, h => by cases b <;> simp_all [V.beq]
  | .func f a c, b, h => by
    cases b <;> simp [V.beq] at h
    obtain ⟨⟨h1, h2⟩, h3⟩ := h
    rw [V.eq_of_beqL h2, V.eq_of_beqL h3, h1]
  | .nili, b, h => by cases b <;> simp_all [V.beq]
  | .iface t v, b, h => by
    cases b <;> simp [V.beq] at h
    obtain ⟨h1, h2⟩ := h
    rw [V.eq_of_beq h2, h1]
  | .agg a, b, h => by
    cases b <;> simp [V.beq] at h
    rw [V.eq_of_beqL h]
  | .tup a, b, h => by
    cases b <;> simp [V.beq] at h
    rw [V.eq_of_beqL h]
theorem V.eq_of_beqL : ∀ {a b : List V}, V.beqL a b = true → a = b
  | [], [], _ => rfl
  | [], _ :: _, h => by simp [V.beqL] at h
  | _ :: _, [], h => by simp [V.beqL] at h
  | a :: as, b :: bs, h => by
    simp [V.beqL] at h
    rw [V.eq_of_beq h.1, V.eq_of_beqL h.2]
end
structure ME where
  key : V
  val : V
  born : Nat
deriving Inhabited
inductive Ob where
  | row (cs : List V)
  | map (es : List ME) (clock : Nat)
  | miter (m : Option Nat) (since : Nat) (seen : List Nat) (stepped : Nat)
  | dead
deriving Inhabited
structure St where
  h : PT Ob
  next : Nat
deriving Inhabited
def St.get (s : St) (n : Nat) : Option Ob := s.h.get n
def St.put (s : St) (n : Nat) (o : Ob) : St := { s with h := s.h.set n o }
def St.alloc (s : St) (o : Ob) : St := { h := s.h.set s.next o, next := s.next + 1 }
def St.row (s : St) (n : Nat) : Option (List V) :=
  match s.get n with
  | some (.row cs) => some cs
  | _ => none
class Ans (R : Type) where
  fail : R
  all : Nat → (Nat → R) → R
  chk : V → V → R → R
instance : Ans Prop where
  fail := False
  all n f := ∀ i, i < n → f i
  chk a b r := a = b ∧ r
instance : Ans Bool where
  fail := false
  all n f := (List.range n).all f
  chk a b r := bif V.beq a b then r else false
inductive Opd where
  | t (n : Nat)
  | c (v : V)
deriving Inhabited
inductive EqK where
  | bool | int | str
  | nilp | nils | nilm | nilf   -- compared with nil (or both nil)
  | iface (guard : Bool)        -- guard: two nils are not told
  | flat (ks : List (Nat × EqK)) -- a struct, cell by cell, of bool, int, str
  | no
deriving Inhabited
inductive SOp where
  | mov (x : Opd)
  | pick (c a b : Opd)
  | load (n : Option Nat) (x : Opd)
  | nilCheck (x : Opd)
  | bin (op : BinOp) (ek : EqK) (x y : Opd)
  | un (op : UnOp) (x : Opd)
  | convInt (k : IntKind) (x : Opd)
  | convId (x : Opd)
  | toStr (x : Opd)
  | mkIface (t : Nat) (x : Opd)
  | mkFunc (f : Nat) (first captured : List Opd)
  | build (zero : List V) (parts : List (Nat × Nat × Opd))
  | sliceStr (x : Opd) (lo hi : Option Opd)
  | slice (sz : Nat) (x : Opd) (lo hi mx : Option Opd)
  | sliceArr (n sz : Nat) (x : Opd) (lo hi : Option Opd)
  | fieldAddr (off : Nat) (x : Opd)
  | field (off : Nat) (n : Option Nat) (x : Opd)
  | indexAddr (sz : Nat) (x i : Opd)
  | indexArr (len sz : Nat) (x i : Opd)
  | index (x i : Opd)
  | lookup (kk : EqK) (zero : V) (ok : Bool) (x i : Opd)
  | extract (i : Nat) (x : Opd)
  | len (k : Nat) (x : Opd)          -- 0: of a string, 1: of a slice, 2: of a map
  | cap (x : Opd)
  | max (xs : List Opd)
  | min (xs : List Opd)
  | assertTo (t : Nat) (zero : V) (x : Opd)       -- x.(T), v, ok; T concrete
  | entry (x : Opd)                               -- a map iterator's entry
deriving Inhabited
inductive MOp where
  | alloc (zero : List V)
  | box (x : Opd)
  | buildSlice (sz len : Nat) (zero : List V) (parts : List (Nat × Nat × Opd))
  | makeMap
  | makeSlice (sz bytes : Nat) (zero : List V) (len cap : Opd)
  | toBytes (x : Opd)
deriving Inhabited
inductive HOp where
  | store (n : Nat) (a x : Opd)
  | mapUpdate (kk : EqK) (m k x : Opd)
  | delete (kk : EqK) (m k : Opd)
  | append (sz bytes : Nat) (str : Bool) (s x : Opd)     -- str: a string's bytes come
  | copy (sz : Nat) (str : Bool) (d s : Opd)
  | clear (sz : Nat) (zero : List V) (x : Opd)
  | range (x : Opd)
deriving Inhabited
inductive COp where
  | s (o : SOp)
  | m (o : MOp)
  | h (o : HOp)
  | call (f : Opd) (args : List Opd)
  | invoke (name : String) (x : Opd) (args : List Opd)
  | next (x : Opd)
  | bad
deriving Inhabited
structure COper where
  dst : Option Nat
  op : COp
  guard : Option (Nat × Bool)     -- a temporary, and what it must hold
  preds : Nat                      -- all that must run before, as bits
deriving Inhabited
inductive CCode where
  | skip
  | region (ops : List COper)
  | draw (ops : List COper)
  | seq (a b : CCode)
  | cond (c : Opd) (a b : CCode)
  | block (id : Nat) (b : CCode)
  | loop (b : CCode)
  | exit (id : Nat)
  | ret
  | bad
  | prim (n : Nat) (p : List V → St → Option (V × St))     -- what a call comes to, by a contract
deriving Inhabited
inductive CRes where
  | t (n : Nat)
  | cell (a : Nat) (n : Option Nat)
deriving Inhabited
structure CFunc where
  ntmps : Nat
  results : List CRes
  body : CCode
deriving Inhabited
inductive Ex where
  | normal
  | exit (id : Nat)
  | ret
deriving Inhabited
end Go.RE
namespace Go.RE
def Opd.ev (env : PT V) : Opd → Option V
  | .t n => env.get n
  | .c v => some v
def evL (env : PT V) : List Opd → Option (List V)
  | [] => some []
  | x :: xs => match x.ev env with
    | some v => (match evL env xs with | some vs => some (v :: vs) | none => none)
    | none => none
def kmax : IntKind → Nat
  | .i8 => 127 | .i16 => 32767 | .i32 => 2147483647 | .i64 => 9223372036854775807
  | .u8 => 255 | .u16 => 65535 | .u32 => 4294967295 | .u64 => 18446744073709551615
def wrapA (k : IntKind) (n : Int) : Int :=
  match n with
  | .ofNat m => bif Nat.ble m (kmax k) then .ofNat m else k.wrap (.ofNat m)
  | .negSucc m => bif k.signed && Nat.ble m (kmax k) then .negSucc m else k.wrap (.negSucc m)
def intBin (op : BinOp) (k : IntKind) (a b : Int) : Option V :=
  match op with
  | .add => some (.int k (wrapA k (a + b)))
  | .sub => some (.int k (wrapA k (a - b)))
  | .mul => some (.int k (wrapA k (a * b)))
  | .quo => if b = 0 then none else some (.int k (wrapA k (a.tdiv b)))
  | .rem => if b = 0 then none else some (.int k (a.tmod b))
  | .and => some (.int k (wrapA k (BitVec.ofInt k.bits a &&& BitVec.ofInt k.bits b).toNat))
  | .or => some (.int k (wrapA k (BitVec.ofInt k.bits a ||| BitVec.ofInt k.bits b).toNat))
  | .xor => some (.int k (wrapA k (BitVec.ofInt k.bits a ^^^ BitVec.ofInt k.bits b).toNat))
  | .andNot => some (.int k (wrapA k (BitVec.ofInt k.bits a &&& ~~~BitVec.ofInt k.bits b).toNat))
  | .eql => some (.bool (a == b))
  | .neq => some (.bool (a != b))
  | .lss => some (.bool (decide (a < b)))
  | .leq => some (.bool (decide (a ≤ b)))
  | .gtr => some (.bool (decide (a > b)))
  | .geq => some (.bool (decide (a ≥ b)))
  | _ => none
def shiftV (op : BinOp) (k : IntKind) (a b : Int) : Option V :=
  if b < 0 then none else
  match op with
  | .shl => some (.int k (wrapA k (a * 2 ^ (min b.toNat k.bits))))
  | .shr => some (.int k (a.fdiv (2 ^ (min b.toNat k.bits))))
  | _ => none
def big : Nat := 1099511627776
def strBin (op : BinOp) (a b : List UInt8) : Option V :=
  match op with
  | .add => bif Nat.ble (a.length + b.length) big then some (.str (a ++ b)) else none
  | .eql => some (.bool (a == b))
  | .neq => some (.bool (!(a == b)))
  | .lss => some (.bool (Op.bytesLess a b))
  | .leq => some (.bool (Op.bytesLess a b || a == b))
  | .gtr => some (.bool (!(Op.bytesLess a b || a == b)))
  | .geq => some (.bool (!Op.bytesLess a b))
  | _ => none
def plainEq : EqK → V → V → Option Bool
  | .bool, .bool a, .bool b => some (a == b)
  | .int, .int j a, .int k b => if j = k then some (a == b) else none
  | .str, .str a, .str b => some (a == b)
  | _, _, _ => none
def flatEq : List (Nat × EqK) → List V → List V → Option Bool
  | [], _, _ => some true
  | (o, k) :: r, xs, ys => match xs[o]?, ys[o]? with
    | some a, some b => (match plainEq k a b with
      | some true => flatEq r xs ys
      | some false => some false
      | none => none)
    | _, _ => none
def eqV (ek : EqK) (a b : V) : Option Bool :=
  match ek, a, b with
  | .bool, .bool x, .bool y => some (x == y)
  | .nilp, .nilp, .nilp => some true
  | .nilp, .nilp, .ptr _ _ => some false
  | .nilp, .nilp, .cptr _ _ => some false
  | .nilp, .ptr _ _, .nilp => some false
  | .nilp, .cptr _ _, .nilp => some false
  | .nils, .nils, .nils => some true
  | .nils, .nils, .slice .. => some false
  | .nils, .nils, .cslice .. => some false
  | .nils, .nils, .zslice => some false
  | .nils, .zslice, .nils => some false
  | .nils, .slice .., .nils => some false
  | .nils, .cslice .., .nils => some false
  | .nilm, .nilm, .nilm => some true
  | .nilm, .nilm, .map _ => some false
  | .nilm, .map _, .nilm => some false
  | .nilf, .nilf, .nilf => some true
  | .nilf, .nilf, .func .. => some false
  | .nilf, .func .., .nilf => some false
  | .iface false, .nili, .nili => some true
  | .iface _, .nili, .iface _ _ => some false
  | .iface _, .iface _ _, .nili => some false
  | .flat ks, .agg xs, .agg ys => flatEq ks xs ys
  | _, _, _ => none
def binV (op : BinOp) (ek : EqK) (a b : V) : Option V :=
  match op, a, b with
  | .shl, .int k x, .int _ y => shiftV .shl k x y
  | .shr, .int k x, .int _ y => shiftV .shr k x y
  | op, .int k x, .int j y => if k = j then intBin op k x y else none
  | op, .str x, .str y => strBin op x y
  | .eql, a, b => (match eqV ek a b with | some r => some (.bool r) | none => none)
  | .neq, a, b => (match eqV ek a b with | some r => some (.bool (!r)) | none => none)
  | _, _, _ => none
def unV (op : UnOp) (a : V) : Option V :=
  match op, a with
  | .neg, .int k n => some (.int k (wrapA k (0 - n)))
  | .not, .bool b => some (.bool (!b))
  | .xor, .int k n => intBin .xor k (if k.signed then -1 else k.max) n
  | _, _ => none
def loadRow (n : Option Nat) (cs : List V) (off : Nat) : Option V :=
  match n with
  | none => cs[off]?
  | some n => bif Nat.ble (off + n) cs.length then some (.agg ((cs.drop off).take n)) else none
def spl (cs : List V) (off : Nat) (vs : List V) : List V := cs.take off ++ vs ++ cs.drop (off + vs.length)
def fillV (env : PT V) (cells : List V) : List (Nat × Nat × Opd) → Option (List V)
  | [] => some cells
  | (off, size, x) :: rest => match x.ev env with
    | some v => bif Nat.beq v.cells.length size && Nat.ble (off + v.cells.length) cells.length then fillV env (spl cells off v.cells) rest else none
    | none => none
def asNat (v : V) (most : Nat) : Option Nat :=
  match v with
  | .int _ n => if 0 ≤ n ∧ n ≤ (most : Int) then some n.toNat else none
  | _ => none
def optNat (env : PT V) (x : Option Opd) (dflt most : Nat) : Option Nat :=
  match x with
  | none => some dflt
  | some x => match x.ev env with
    | some v => asNat v most
    | none => none
def byteCell (b : UInt8) : V := .int .u8 b.toNat
def bytesOf : List V → Option (List UInt8)
  | [] => some []
  | .int .u8 n :: r => (match bytesOf r with | some bs => some (UInt8.ofNat n.toNat :: bs) | none => none)
  | _ :: _ => none
def sliceCells (s : St) (w : Nat) : V → Option (List V)
  | .nils => some []
  | .zslice => some []
  | .slice b off len _ sz _ => match s.row b with
    | some cs => bif Nat.beq sz w && Nat.ble (off + len * sz) cs.length then some ((cs.drop off).take (len * sz)) else none
    | none => none
  | .cslice row off len sz => bif Nat.beq sz w && Nat.ble (off + len * sz) row.length then some ((row.drop off).take (len * sz)) else none
  | _ => none
def srcCells (s : St) (w : Nat) (str : Bool) (x : V) : Option (List V) :=
  match str, x with
  | true, .str b => bif Nat.beq w 1 then some (b.map byteCell) else none
  | false, x => sliceCells s w x
  | _, _ => none
def lenV : V → Option Nat
  | .nils => some 0
  | .zslice => some 0
  | .slice _ _ len _ _ _ => some len
  | .cslice _ _ len _ => some len
  | .str b => some b.length
  | _ => none
def lenK (s : St) (k : Nat) : V → Option Nat
  | .str b => bif Nat.beq k 0 then some b.length else none
  | .nils => bif Nat.beq k 1 then some 0 else none
  | .zslice => bif Nat.beq k 1 then some 0 else none
  | .slice _ _ len _ _ _ => bif Nat.beq k 1 then some len else none
  | .cslice _ _ len _ => bif Nat.beq k 1 then some len else none
  | .nilm => bif Nat.beq k 2 then some 0 else none
  | .map m => bif Nat.beq k 2 then (match s.get m with
    | some (.map es _) => some es.length
    | _ => none) else none
  | _ => none
def findE (kk : EqK) (k : V) : List ME → Nat → Option (Option (Nat × V))
  | [], _ => some none
  | e :: es, i => match plainEq kk k e.key with
    | some true => some (some (i, e.val))
    | some false => findE kk k es (i + 1)
    | none => none
def plainKey : EqK → V → Bool
  | .bool, .bool _ => true
  | .int, .int _ _ => true
  | .str, .str _ => true
  | _, _ => false
def max2V : V → V → Option V
  | .int k x, .int j y => if k = j then some (.int k (if y > x then y else x)) else none
  | .str x, .str y => some (.str (if Op.bytesLess x y then y else x))
  | _, _ => none
def min2V : V → V → Option V
  | .int k x, .int j y => if k = j then some (.int k (if y < x then y else x)) else none
  | .str x, .str y => some (.str (if Op.bytesLess x y || x == y then x else y))
  | _, _ => none
def foldV (f : V → V → Option V) : V → List V → Option V
  | a, [] => some a
  | a, b :: r => match f a b with
    | some c => foldV f c r
    | none => none
def lookupV (s : St) (kk : EqK) (zero : V) (ok : Bool) (m k : V) : Option V :=
  match m with
  | .nilm => bif plainKey kk k then some (if ok then .tup [zero, .bool false] else zero) else none
  | .map m => (match s.get m with
    | some (.map es _) => bif plainKey kk k then (match findE kk k es 0 with
      | some (some (_, v)) => some (if ok then .tup [v, .bool true] else v)
      | some none => some (if ok then .tup [zero, .bool false] else zero)
      | none => none) else none
    | _ => none)
  | _ => none
def entryV (s : St) (b : Nat) : Option V :=
  match s.get b with
  | some (.miter (some m) _ seen last) => (match s.get m, seen.getLast? with
    | some (.map es clock), some n => bif Nat.beq clock last then (match es.find? (fun e => Nat.beq e.born n) with
      | some e => some (.tup [e.key, e.val])
      | none => none) else none
    | _, _ => none)
  | _ => none
def evS (env : PT V) (s : St) : SOp → Option V
  | .entry x => match x.ev env with
    | some (.ptr b 0) => entryV s b
    | _ => none
  | .mov x => x.ev env
  | .pick c a b => match c.ev env with
    | some (.bool true) => a.ev env
    | some (.bool false) => b.ev env
    | _ => none
  | .load n x => match x.ev env with
    | some (.ptr b off) => (match s.row b with | some cs => loadRow n cs off | none => none)
    | some (.cptr row off) => loadRow n row off
    | _ => none
  | .nilCheck x => match x.ev env with
    | some .nilp => none
    | some .nili => none
    | some .nilf => none
    | v => v
  | .bin op ek x y => match x.ev env, y.ev env with
    | some a, some b => binV op ek a b
    | _, _ => none
  | .un op x => match x.ev env with
    | some a => unV op a
    | none => none
  | .convInt k x => match x.ev env with
    | some (.int _ n) => some (.int k (wrapA k n))
    | _ => none
  | .convId x => match x.ev env with
    | some (.str b) => some (.str b)
    | _ => none
  | .toStr x => match x.ev env with
    | some v => (match sliceCells s 1 v with
      | some cs => (match bytesOf cs with | some bs => some (.str bs) | none => none)
      | none => none)
    | none => none
  | .mkIface t x => match x.ev env with
    | some v => some (.iface t v)
    | none => none
  | .mkFunc f first captured => match evL env first, evL env captured with
    | some a, some b => some (.func f a b)
    | _, _ => none
  | .build zero parts => match fillV env zero parts with
    | some cs => some (.agg cs)
    | none => none
  | .sliceStr x lo hi => match x.ev env with
    | some (.str b) => (match optNat env hi b.length b.length with
      | some h => (match optNat env lo 0 h with
        | some l => some (.str ((b.take h).drop l))
        | none => none)
      | none => none)
    | _ => none
  | .slice w x lo hi mx => match x.ev env with
    | some .nils => (match optNat env mx 0 0 with
      | some m => (match optNat env hi 0 m with
        | some h => (match optNat env lo 0 h with
          | some _ => some .nils
          | none => none)
        | none => none)
      | none => none)
    | some (.slice b off len cap sz ex) => (match optNat env mx cap cap with
      | some m => (match optNat env hi len m with
        | some h => (match optNat env lo 0 h with
          | some l => bif Nat.beq w sz then (bif mx.isSome && Nat.beq m 0 then some .zslice else some (.slice b (off + l * sz) (h - l) (m - l) sz (ex || mx.isSome))) else none
          | none => none)
        | none => none)
      | none => none)
    | some .zslice => (match optNat env mx 0 0 with
      | some m => (match optNat env hi 0 m with
        | some h => (match optNat env lo 0 h with
          | some _ => some .zslice
          | none => none)
        | none => none)
      | none => none)
    | some (.cslice row off len sz) => (match optNat env mx len len with
      | some m => (match optNat env hi len m with
        | some h => (match optNat env lo 0 h with
          | some l => bif Nat.beq w sz then (bif mx.isSome && Nat.beq m 0 then some .zslice else some (.cslice row (off + l * sz) (h - l) sz)) else none
          | none => none)
        | none => none)
      | none => none)
    | _ => none
  | .sliceArr n sz x lo hi => match x.ev env with
    | some (.ptr b off) => (match optNat env hi n n with
      | some h => (match optNat env lo 0 h with
        | some l => (match s.row b with
          | some cs => bif Nat.ble (off + n * sz) cs.length then some (.slice b (off + l * sz) (h - l) (n - l) sz true) else none
          | none => none)
        | none => none)
      | none => none)
    | _ => none
  | .fieldAddr off x => match x.ev env with
    | some (.ptr b o) => some (.ptr b (o + off))
    | some (.cptr row o) => some (.cptr row (o + off))
    | _ => none
  | .field off n x => match x.ev env with
    | some (.agg cs) => loadRow n cs off
    | _ => none
  | .indexAddr sz x i => match x.ev env, i.ev env with
    | some (.slice b off len _ z _), some (.int _ n) => if 0 ≤ n ∧ n < (len : Int) then (bif Nat.beq z sz then some (.ptr b (off + n.toNat * sz)) else none) else none
    | some (.cslice row off len z), some (.int _ n) => if 0 ≤ n ∧ n < (len : Int) then (bif Nat.beq z sz then some (.cptr row (off + n.toNat * sz)) else none) else none
    | _, _ => none
  | .indexArr len sz x i => match x.ev env, i.ev env with
    | some (.ptr b off), some (.int _ n) => if 0 ≤ n ∧ n < (len : Int) then some (.ptr b (off + n.toNat * sz)) else none
    | some (.cptr row off), some (.int _ n) => if 0 ≤ n ∧ n < (len : Int) then some (.cptr row (off + n.toNat * sz)) else none
    | _, _ => none
  | .index x i => match x.ev env, i.ev env with
    | some (.str b), some (.int _ n) => if 0 ≤ n then (match b[n.toNat]? with | some c => some (.int .u8 c.toNat) | none => none) else none
    | _, _ => none
  | .lookup kk zero ok x i => match x.ev env, i.ev env with
    | some m, some k => lookupV s kk zero ok m k
    | _, _ => none
  | .extract i x => match x.ev env with
    | some (.tup vs) => vs[i]?
    | _ => none
  | .len k x => match x.ev env with
    | some v => (match lenK s k v with | some n => some (.int .i64 n) | none => none)
    | none => none
  | .cap x => match x.ev env with
    | some .nils => some (.int .i64 0)
    | some .zslice => some (.int .i64 0)
    | some (.slice _ _ _ cap _ true) => some (.int .i64 cap)
    | _ => none
  | .max xs => match evL env xs with
    | some (v :: vs) => foldV max2V v vs
    | _ => none
  | .min xs => match evL env xs with
    | some (v :: vs) => foldV min2V v vs
    | _ => none
  | .assertTo t zero x => match x.ev env with
    | some .nili => some (.tup [zero, .bool false])
    | some (.iface u v) => some (if u = t then .tup [v, .bool true] else .tup [zero, .bool false])
    | _ => none
def St.write (s : St) (b off : Nat) (vs : List V) : Option St :=
  match s.row b with
  | some cs => bif Nat.ble (off + vs.length) cs.length && vs.all V.one then some (s.put b (.row (spl cs off vs))) else none
  | none => none
def modME (i : Nat) (f : ME → ME) : List ME → List ME
  | [] => []
  | e :: es => match i with
    | 0 => f e :: es
    | j + 1 => e :: modME j f es
def eraseME (i : Nat) : List ME → List ME
  | [] => []
  | e :: es => match i with
    | 0 => es
    | j + 1 => e :: eraseME j es
def repZero (zero : List V) : Nat → List V
  | 0 => []
  | n + 1 => zero ++ repZero zero n
def appendV (s : St) (sz bytes : Nat) (str : Bool) (a x : V) : Option (V × St) :=
  match srcCells s sz str x, lenV x with
  | some new, some k =>
    bif new.all V.one then
    (match a with
    | .nils =>
      bif Nat.beq k 0 then some (.nils, s) else
      bif Nat.ble (k * bytes) big && Nat.ble k big then some (.slice s.next 0 k k sz false, s.alloc (.row new)) else none
    | .zslice =>
      bif Nat.beq k 0 then some (.zslice, s) else
      bif Nat.ble (k * bytes) big && Nat.ble k big then some (.slice s.next 0 k k sz false, s.alloc (.row new)) else none
    | .cslice row off len z => bif Nat.beq k 0 then some (.cslice row off len z, s) else none
    | .slice b off len cap z ex =>
      bif Nat.beq z sz && Nat.ble ((len + k) * bytes) big && Nat.ble (len + k) big then
        (bif Nat.ble (len + k) cap then
          (bif Nat.beq k 0 then some (.slice b off len cap z ex, s) else
          (match s.write b (off + len * sz) new with
          | some s' => some (.slice b off (len + k) cap z ex, s')
          | none => none))
        else
          (match sliceCells s sz (.slice b off len cap z ex) with
          | some old =>
            let s0 := bif ex then s else s.put b .dead
            some (.slice s.next 0 (len + k) (len + k) sz false, s0.alloc (.row (old ++ new)))
          | none => none))
      else none
    | _ => none)
    else none
  | _, _ => none
def copyV (s : St) (sz : Nat) (str : Bool) (d x : V) : Option (V × St) :=
  match srcCells s sz str x, lenV x with
  | some cs, some k =>
    (match d with
    | .nils => some (.int .i64 0, s)
    | .zslice => some (.int .i64 0, s)
    | .slice b off len _ z _ => bif Nat.beq z sz then
        (match s.write b off (cs.take ((min k len) * sz)) with
        | some s' => some (.int .i64 (min k len : Nat), s')
        | none => none)
      else none
    | _ => none)
  | _, _ => none
def evM (env : PT V) : MOp → Option (Ob × (Nat → V))
  | .alloc zero => some (.row zero, fun n => .ptr n 0)
  | .box x => match x.ev env with
    | some v => some (.row v.cells, fun n => .ptr n 0)
    | none => none
  | .buildSlice sz len zero parts => match fillV env (repZero zero len) parts with
    | some cs => some (.row cs, fun n => .slice n 0 len len sz true)
    | none => none
  | .makeMap => some (.map [] 0, fun n => .map n)
  | .makeSlice sz bytes zero len cap => match len.ev env, cap.ev env with
    | some l, some c => (match asNat c big with
      | some c => (match asNat l c with
        | some l => bif Nat.ble (c * bytes) big then some (.row (repZero zero c), fun n => .slice n 0 l c sz true) else none
        | none => none)
      | none => none)
    | _, _ => none
  | .toBytes x => match x.ev env with
    | some (.str b) => some (.row (b.map byteCell), fun n => .slice n 0 b.length b.length 1 false)
    | _ => none
def evH (env : PT V) (s : St) : HOp → Option (V × St)
  | .store n a x => match a.ev env, x.ev env with
    | some (.ptr b off), some v => bif Nat.beq v.cells.length n then (match s.write b off v.cells with | some s' => some (.tup [], s') | none => none) else none
    | _, _ => none
  | .mapUpdate kk m k x => match m.ev env, k.ev env, x.ev env with
    | some (.map m), some k, some v => (match s.get m with
      | some (.map es clock) => bif plainKey kk k then (match findE kk k es 0 with
        | some (some (i, _)) => some (.tup [], s.put m (.map (modME i (fun e => { e with key := k, val := v }) es) clock))
        | some none => some (.tup [], s.put m (.map (es ++ [{ key := k, val := v, born := clock }]) (clock + 1)))
        | none => none) else none
      | _ => none)
    | _, _, _ => none
  | .delete kk m k => match m.ev env, k.ev env with
    | some .nilm, some k => bif plainKey kk k then some (.tup [], s) else none
    | some (.map m), some k => (match s.get m with
      | some (.map es clock) => bif plainKey kk k then (match findE kk k es 0 with
        | some (some (i, _)) => some (.tup [], s.put m (.map (eraseME i es) clock))
        | some none => some (.tup [], s)
        | none => none) else none
      | _ => none)
    | _, _ => none
  | .append sz bytes str a x => match a.ev env, x.ev env with
    | some a, some x => appendV s sz bytes str a x
    | _, _ => none
  | .copy sz str d x => match d.ev env, x.ev env with
    | some d, some x => copyV s sz str d x
    | _, _ => none
  | .clear _ _ _ => none
  | .range x => match x.ev env with
    | some .nilm => some (.ptr s.next 0, s.alloc (.miter none 0 [] 0))
    | some (.map m) => (match s.get m with
      | some (.map _ clock) => some (.ptr s.next 0, s.alloc (.miter (some m) clock [] clock))
      | _ => none)
    | _ => none
section
variable {R : Type} [Ans R]
def mapCands (es : List ME) (since : Nat) (seen : List Nat) : List (Option ME) :=
  let left := es.filter fun e => !seen.contains e.born
  let old := left.filter fun e => Nat.blt e.born since
  let new := left.filter fun e => Nat.ble since e.born
  (bif old.isEmpty then [none] else []) ++ (old ++ new).map some
def evNext (s : St) (b : Nat) (k : V → St → R) : R :=
  match s.get b with
  | some (.miter none _ _ _) => k (.tup [.bool false]) s
  | some (.miter (some m) since seen last) => (match s.get m with
    | some (.map es clock) =>
      bif !seen.isEmpty && !es.isEmpty && es.all (fun e => Nat.ble last e.born) then Ans.fail else
      Ans.all (mapCands es since seen).length fun i => match (mapCands es since seen)[i]? with
        | some (some e) => k (.tup [.bool true, e.key, e.val]) (s.put b (.miter (some m) since (seen ++ [e.born]) clock))
        | some none => k (.tup [.bool false]) s
        | none => Ans.fail
    | _ => Ans.fail)
  | _ => Ans.fail
def evOp (M : Nat → String → Option Nat) (F : Nat → List V → St → (V → St → R) → R) (env : PT V) (s : St) (o : COp) (k : V → St → R) : R :=
  match o with
  | .s o => (match evS env s o with | some v => k v s | none => Ans.fail)
  | .m o => (match evM env o with | some (ob, f) => k (f s.next) (s.alloc ob) | none => Ans.fail)
  | .h o => (match evH env s o with | some (v, s') => k v s' | none => Ans.fail)
  | .call f args => (match f.ev env, evL env args with
    | some (.func f first captured), some vs => F f (first ++ vs ++ captured) s k
    | _, _ => Ans.fail)
  | .invoke name x args => (match x.ev env, evL env args with
    | some (.iface t v), some vs => (match M t name with
      | some f => F f (v :: vs) s k
      | none => Ans.fail)
    | _, _ => Ans.fail)
  | .next x => (match x.ev env with
    | some (.ptr b 0) => evNext s b k
    | _ => Ans.fail)
  | .bad => Ans.fail
def guardEv (g : Option (Nat × Bool)) (env : PT V) : Option Bool :=
  match g with
  | none => some true
  | some (t, want) => match env.get t with
    | some (.bool b) => some (b == want)
    | some _ => some false
    | none => none
def putD (dst : Option Nat) (v : V) (env : PT V) : PT V :=
  match dst with
  | some d => env.set d v
  | none => env
def evSeq (M : Nat → String → Option Nat) (F : Nat → List V → St → (V → St → R) → R) : List COper → PT V → St → (PT V → St → R) → R
  | [], env, s, k => k env s
  | o :: r, env, s, k => match guardEv o.guard env with
    | some true => evOp M F env s o.op fun v s' => evSeq M F r (putD o.dst v env) s' k
    | some false => evSeq M F r (putD o.dst (.tup []) env) s k
    | none => Ans.fail
def COper.small (o : COper) : Bool := match o.op with | .s _ => true | .m _ => true | _ => false
def within (a b : Nat) : Bool := Nat.beq (Nat.land a b) a
abbrev Recs := List (Nat × SOp × PT V × V)
def absorb : List (Nat × COper) → Nat → PT V → St → List (Nat × COper) → Recs → Option (List (Nat × COper) × Nat × PT V × St × Recs)
  | [], done, env, s, left, recs => some (left.reverse, done, env, s, recs)
  | (i, o) :: r, done, env, s, left, recs =>
    bif o.small && within o.preds done then
      (match guardEv o.guard env with
      | some true => (match o.op with
        | .s op => (match evS env s op with
          | some v => absorb r (Nat.lor done (2 ^ i)) (putD o.dst v env) s left ((i, op, env, v) :: recs)
          | none => none)
        | .m op => (match evM env op with
          | some (ob, f) => absorb r (Nat.lor done (2 ^ i)) (putD o.dst (f s.next) env) (s.alloc ob) left recs
          | none => none)
        | _ => none)
      | some false => absorb r (Nat.lor done (2 ^ i)) (putD o.dst (.tup []) env) s left recs
      | none => none)
    else absorb r done env s ((i, o) :: left) recs
def splitBig : List (Nat × COper) → List (Nat × COper) → Option (Nat × COper × List (Nat × COper))
  | _, [] => none
  | pre, (i, o) :: r => bif o.small then splitBig ((i, o) :: pre) r else some (i, o, pre.reverse ++ r)
def recheck (s : St) (preds : Nat) : Recs → R → R
  | [], r => r
  | (i, op, env, v) :: rest, r =>
    bif Nat.testBit preds i then recheck s preds rest r
    else match evS env s op with
      | some u => Ans.chk u v (recheck s preds rest r)
      | none => Ans.fail
def keepRecs (preds : Nat) (l : Recs) : Recs := l.filter fun x => !Nat.testBit preds x.1
def evDraw (M : Nat → String → Option Nat) (F : Nat → List V → St → (V → St → R) → R) : Nat → List (Nat × COper) → Nat → PT V → St → Recs → (PT V → St → R) → R
  | 0, _, _, _, _, _, _ => Ans.fail
  | n + 1, todo, done, env, s, recs, k =>
    match absorb todo done env s [] recs with
    | none => Ans.fail
    | some (todo, done, env, s, recs) =>
      match splitBig [] todo with
      | none => (match todo with | [] => k env s | _ => Ans.fail)
      | some (i, o, rest) =>
        bif within o.preds done && rest.all (fun x => x.2.small || Nat.testBit x.2.preds i) then
          (match guardEv o.guard env with
          | some true => evOp M F env s o.op fun v s' => recheck s' o.preds recs
              (evDraw M F n rest (Nat.lor done (2 ^ i)) (putD o.dst v env) s' (keepRecs o.preds recs) k)
          | some false => evDraw M F n rest (Nat.lor done (2 ^ i)) (putD o.dst (.tup []) env) s recs k
          | none => Ans.fail)
        else Ans.fail
def numbered : List COper → Nat → List (Nat × COper)
  | [], _ => []
  | o :: r, i => (i, o) :: numbered r (i + 1)
def firsts (env : PT V) : Nat → List V → Option (List V)
  | 0, acc => some acc
  | n + 1, acc => match env.get n with
    | some v => firsts env n (v :: acc)
    | none => none
def initEnv : List V → Nat → PT V → PT V
  | [], _, env => env
  | v :: vs, i, env => initEnv vs (i + 1) (env.set i v)
def resV (env : PT V) (s : St) : CRes → Option V
  | .t n => env.get n
  | .cell a n => match env.get a with
    | some (.ptr b off) => (match s.row b with | some cs => loadRow n cs off | none => none)
    | _ => none
def resL (env : PT V) (s : St) : List CRes → Option (List V)
  | [] => some []
  | r :: rs => match resV env s r with
    | some v => (match resL env s rs with | some vs => some (v :: vs) | none => none)
    | none => none
def resAll (env : PT V) (s : St) (rs : List CRes) : Option V :=
  match resL env s rs with
  | some [v] => some v
  | some vs => some (.tup vs)
  | none => none
def evC (C : Nat → Option CFunc) (M : Nat → String → Option Nat) : Nat → CCode → PT V → St → (Ex → PT V → St → R) → R
  | 0, _, _, _, _ => Ans.fail
  | n + 1, c, env, s, k =>
    let F : Nat → List V → St → (V → St → R) → R := fun f args s k => match C f with
      | none => Ans.fail
      | some fn =>
        bif Nat.ble args.length fn.ntmps then
          evC C M n fn.body (initEnv args 0 .e) s fun e env s => match e with
            | .exit _ => Ans.fail
            | _ => (match resAll env s fn.results with | some v => k v s | none => Ans.fail)
        else Ans.fail
    match c with
    | .skip => k .normal env s
    | .region ops => evSeq M F ops env s fun env s => k .normal env s
    | .draw ops => evDraw M F (ops.length + 1) (numbered ops 0) 0 env s [] fun env s => k .normal env s
    | .seq a b => evC C M n a env s fun e env s => match e with
      | .normal => evC C M n b env s k
      | .exit i => k (.exit i) env s
      | .ret => k .ret env s
    | .cond x a b => (match x.ev env with
      | some (.bool true) => evC C M n a env s k
      | some (.bool false) => evC C M n b env s k
      | _ => Ans.fail)
    | .block id b => evC C M n b env s fun e env s => match e with
      | .normal => k .normal env s
      | .exit i => bif Nat.beq i id then k .normal env s else k (.exit i) env s
      | .ret => k .ret env s
    | .loop b => evC C M n b env s fun e env s => match e with
      | .normal => evC C M n (.loop b) env s k
      | .exit i => k (.exit i) env s
      | .ret => k .ret env s
    | .exit i => k (.exit i) env s
    | .ret => k .ret env s
    | .bad => Ans.fail
    | .prim m p => (match firsts env m [] with
      | some vs => (match p vs s with
        | some (v, s) => k .ret (env.set 0 v) s
        | none => Ans.fail)
      | none => Ans.fail)
def evF (C : Nat → Option CFunc) (M : Nat → String → Option Nat) (n f : Nat) (args : List V) (s : St) (k : V → St → R) : R :=
  match C f with
  | none => Ans.fail
  | some fn =>
    bif Nat.ble args.length fn.ntmps then
      evC C M n fn.body (initEnv args 0 .e) s fun e env s => match e with
        | .exit _ => Ans.fail
        | _ => (match resAll env s fn.results with | some v => k v s | none => Ans.fail)
    else Ans.fail
end
end Go.RE
namespace Go.RE
def ofValue0 : Value → Option V
  | .bool b => some (.bool b)
  | .int k n => some (.int k n)
  | .string s => some (.str s.data.toList)
  | .pointer none => some .nilp
  | .slice none 0 0 => some .nils
  | .map none => some .nilm
  | .nilFunc => some .nilf
  | .nilIface => some .nili
  | _ => none
def ofL (f : Value → Option V) : List Value → Option (List V)
  | [] => some []
  | x :: xs => match f x with
    | some v => (match ofL f xs with | some vs => some (v :: vs) | none => none)
    | none => none
def ofValue : Value → Option V
  | .agg cs => (match ofL ofValue0 cs.toList with | some l => some (.agg l) | none => none)
  | .iface t v => (match ofValue0 v with | some x => some (.iface t x) | none => none)
  | v => ofValue0 v
def opd : Operand → Option Opd
  | .tmp t => some (.t t)
  | .const v => (match ofValue v with | some x => some (.c x) | none => none)
  | .func f => some (.c (.func f [] []))
  | .global _ => none
def opds : List Operand → Option (List Opd)
  | [] => some []
  | x :: xs => match opd x with
    | some v => (match opds xs with | some vs => some (v :: vs) | none => none)
    | none => none
def opdO : Option Operand → Option (Option Opd)
  | none => some none
  | some x => match opd x with
    | some v => some (some v)
    | none => none
section
variable (P : Program)
def zeroOf (t : TypeId) : Option V := match P.info? t with
  | some i => (match i.zero with | some v => ofValue v | none => none)
  | none => none
def sizeO (t : TypeId) : Option Nat := match P.info? t with
  | some i => some i.size
  | none => none
def bytesO (t : TypeId) : Option Nat := match P.info? t with
  | some i => some i.bytes
  | none => none
def spread (t : TypeId) : Option (Option Nat) := match P.underlying t with
  | some (.struct _) => (match sizeO P t with | some n => some (some n) | none => none)
  | some (.array _ _) => (match sizeO P t with | some n => some (some n) | none => none)
  | some _ => some none
  | none => none
def isConstOperand : Operand → Bool
  | .const _ => true
  | _ => false
def flatK : List Field → Option (List (Nat × EqK))
  | [] => some []
  | f :: fs => bif f.name == "_" then none else
    match P.underlying f.type, flatK fs with
    | some .bool, some r => some ((f.offset, .bool) :: r)
    | some (.int _), some r => some ((f.offset, .int) :: r)
    | some .string, some r => some ((f.offset, .str) :: r)
    | _, _ => none
def eqK (op : BinOp) (t : TypeId) (x y : Operand) : EqK :=
  match op with
  | .eql | .neq =>
    (match P.underlying t with
    | some .bool => .bool
    | some (.int _) => .int
    | some .string => .str
    | some (.pointer _) => .nilp
    | some (.slice _) => .nils
    | some (.map _ _) => .nilm
    | some (.func _ _ _) => .nilf
    | some (.interface _) => .iface (!(isConstOperand x || isConstOperand y))
    | some (.struct fs) => (match flatK P fs.toList with
      | some ks => bif P.stoodInHeld t || P.eqGuardType P.depth t then .no else .flat ks
      | none => .no)
    | _ => .no)
  | _ => .no
def places : List Field → Option (List (Nat × Nat))
  | [] => some []
  | f :: fs => match sizeO P f.type, places fs with
    | some n, some r => some ((f.offset, n) :: r)
    | _, _ => none
def partsBy (place : Nat → Option (Nat × Nat)) : List (Nat × Operand) → Option (List (Nat × Nat × Opd))
  | [] => some []
  | (i, x) :: r => match place i, opd x, partsBy place r with
    | some (o, n), some x, some r => some ((o, n, x) :: r)
    | _, _, _ => none
def basicKey (t : TypeId) : Option EqK := match P.underlying t with
  | some .bool => some .bool
  | some (.int _) => some .int
  | some .string => some .str
  | _ => none
def isU8 (t : TypeId) : Bool := match P.underlying t with
  | some (.int .u8) => true
  | _ => false
def okSlice (t : TypeId) : Option TypeId := match P.underlying t with
  | some (.slice e) => some e
  | _ => none
def cbuiltin (b : Builtin) (argTypes : List TypeId) (args : List Opd) : COp :=
  match b, argTypes, args with
  | .len, t :: _, x :: _ => (match P.underlying t with
    | some .string => .s (.len 0 x)
    | some (.slice _) => .s (.len 1 x)
    | some (.map _ _) => .s (.len 2 x)
    | _ => .bad)
  | .cap, t :: _, x :: _ => (match P.underlying t with
    | some (.slice _) => .s (.cap x)
    | _ => .bad)
  | .max, _, xs => .s (.max xs)
  | .min, _, xs => .s (.min xs)
  | .append, [t, u], [a, x] => (match okSlice P t, P.underlying u with
    | some e, some ud => (match ud, sizeO P e, bytesO P e, zeroOf P e with
      | .slice _, some sz, some bs, some z => bif Nat.beq z.cells.length sz then .h (.append sz bs false a x) else .bad
      | .string, some sz, some bs, some z => bif Nat.beq z.cells.length sz then .h (.append sz bs true a x) else .bad
      | _, _, _, _ => .bad)
    | _, _ => .bad)
  | .copy, [t, u], [d, x] => (match okSlice P t, P.underlying u with
    | some e, some ud => (match ud, sizeO P e with
      | .slice _, some sz => .h (.copy sz false d x)
      | .string, some sz => .h (.copy sz true d x)
      | _, _ => .bad)
    | _, _ => .bad)
  | .delete, t :: _, [m, k] => (match P.underlying t with
    | some (.map kt _) => (match basicKey P kt with | some kk => .h (.delete kk m k) | none => .bad)
    | _ => .bad)
  | _, _, _ => .bad
def cop (o : Op) : COp :=
  match o with
  | .move x | .assign x => (match opd x with | some x => .s (.mov x) | none => .bad)
  | .pick c a b => (match opd c, opd a, opd b with | some c, some a, some b => .s (.pick c a b) | _, _, _ => .bad)
  | .alloc e => (match zeroOf P e with | some z => .m (.alloc z.cells) | none => .bad)
  | .box _ x => (match opd x with | some x => .m (.box x) | none => .bad)
  | .build t parts => (match P.underlying t with
    | some (.struct fs) => (match zeroOf P t, places P fs.toList with
      | some z, some ps => (match partsBy (fun i => ps[i]?) parts.toList with
        | some l => .s (.build z.cells l)
        | none => .bad)
      | _, _ => .bad)
    | _ => .bad)
  | .buildSlice t len parts => (match okSlice P t with
    | some e => (match sizeO P e, zeroOf P e with
      | some sz, some z => bif Nat.ble (len * sz) 16777216 && Nat.beq z.cells.length sz && Nat.ble 1 sz then
          (match partsBy (fun i => some (i * sz, sz)) parts.toList with
          | some l => .m (.buildSlice sz len z.cells l)
          | none => .bad)
        else .bad
      | _, _ => .bad)
    | none => .bad)
  | .load t a => (match spread P t, opd a with | some n, some a => .s (.load n a) | _, _ => .bad)
  | .store t a x => (match sizeO P t, opd a, opd x with | some n, some a, some x => .h (.store n a x) | _, _, _ => .bad)
  | .nilCheck x => (match opd x with | some x => .s (.nilCheck x) | none => .bad)
  | .binOp op t x y _ => (match opd x, opd y with | some a, some b => .s (.bin op (eqK P op t x y) a b) | _, _ => .bad)
  | .unOp op _ x => (match opd x with | some x => .s (.un op x) | none => .bad)
  | .convert src dst x => (match P.underlying src, P.underlying dst, opd x with
    | some _, some (.int k), some x => .s (.convInt k x)
    | some .string, some .string, some x => .s (.convId x)
    | some (.slice e), some .string, some x => bif isU8 P e then .s (.toStr x) else .bad
    | some .string, some (.slice e), some x => bif isU8 P e then .m (.toBytes x) else .bad
    | _, _, _ => .bad)
  | .makeInterface t x => (match P.underlying t, opd x with
    | some (.interface _), _ => .bad
    | some _, some x => .s (.mkIface t x)
    | _, _ => .bad)
  | .makeFunc (.func f) first captured => (match opds first.toList, opds captured.toList with
    | some a, some b => .s (.mkFunc f a b)
    | _, _ => .bad)
  | .makeMap t r => (match P.underlying t, r with
    | some (.map _ _), none => .m .makeMap
    | some (.map _ _), some (.const (.int _ _)) => .m .makeMap
    | _, _ => .bad)
  | .makeSlice t l c => (match okSlice P t with
    | some e => (match sizeO P e, bytesO P e, zeroOf P e, opd l, opd c with
      | some sz, some bs, some z, some l, some c => bif Nat.beq z.cells.length sz && Nat.ble 1 sz then .m (.makeSlice sz bs z.cells l c) else .bad
      | _, _, _, _, _ => .bad)
    | none => .bad)
  | .slice t x lo hi mx => (match P.underlying t, opd x, opdO lo, opdO hi, opdO mx with
    | some .string, some x, some lo, some hi, some none => .s (.sliceStr x lo hi)
    | some (.slice e), some x, some lo, some hi, some mx => (match sizeO P e with
      | some sz => bif mx.isSome && !hi.isSome then .bad else .s (.slice sz x lo hi mx)
      | none => .bad)
    | some (.array n e), some x, some lo, some hi, some none => (match sizeO P e with
      | some sz => .s (.sliceArr n sz x lo hi)
      | none => .bad)
    | _, _, _, _, _ => .bad)
  | .fieldAddr t x f => (match P.underlying t, opd x with
    | some (.struct fs), some x => (match fs[f]? with
      | some f => (match sizeO P f.type with
        | some (_ + 1) => .s (.fieldAddr f.offset x)
        | _ => .bad)
      | none => .bad)
    | _, _ => .bad)
  | .field t x f => (match P.underlying t, opd x with
    | some (.struct fs), some x => (match fs[f]? with
      | some f => (match spread P f.type with
        | some n => .s (.field f.offset n x)
        | none => .bad)
      | none => .bad)
    | _, _ => .bad)
  | .indexAddr t x i => (match P.underlying t, opd x, opd i with
    | some (.slice e), some x, some i => (match sizeO P e with | some sz => .s (.indexAddr sz x i) | none => .bad)
    | some (.array n e), some x, some i => (match sizeO P e with | some sz => .s (.indexArr n sz x i) | none => .bad)
    | _, _, _ => .bad)
  | .index t x i => (match P.underlying t, opd x, opd i with
    | some .string, some x, some i => .s (.index x i)
    | _, _, _ => .bad)
  | .lookup t x i ok => (match P.underlying t, opd x, opd i with
    | some (.map k e), some x, some i => (match zeroOf P e, basicKey P k with
      | some z, some kk => .s (.lookup kk z ok x i)
      | _, _ => .bad)
    | _, _, _ => .bad)
  | .mapUpdate t m k x | .insert t m k x => (match P.underlying t, opd m, opd k, opd x with
    | some (.map kt _), some m, some k, some x => (match basicKey P kt with | some kk => .h (.mapUpdate kk m k x) | none => .bad)
    | _, _, _, _ => .bad)
  | .extract x i => (match opd x with | some x => .s (.extract i x) | none => .bad)
  | .typeAssert x _ t true => (match P.underlying t, opd x, zeroOf P t with
    | some (.interface _), _, _ => .bad
    | some _, some x, some z => .s (.assertTo t z x)
    | _, _, _ => .bad)
  | .range t x => (match P.underlying t, opd x with
    | some (.map _ _), some x => .h (.range x)
    | _, _ => .bad)
  | .entry x => (match opd x with | some x => .s (.entry x) | none => .bad)
  | .next x false => (match opd x with | some x => .next x | none => .bad)
  | .call c => (match c.callee, opds c.args.toList with
    | .value f, some args => (match opd f with | some f => .call f args | none => .bad)
    | .builtin b, some args => cbuiltin P b c.argTypes.toList args
    | .invoke r m, some args => (match opd r with | some r => .invoke m r args | none => .bad)
    | _, none => .bad)
  | _ => .bad
def predsOf (acc : List Nat) (o : Oper) : Nat :=
  o.after.toList.foldl (fun s e => bif Region.binds .any e then Nat.lor (Nat.lor s (2 ^ e.on)) (acc.getD e.on 0) else s) 0
def guardOf (ops : List Oper) (o : Oper) : Option (Option (Nat × Bool)) :=
  match o.guard with
  | none => some none
  | some (j, want) => match ops[j]? with
    | some p => (match p.dst with | some d => some (some (d, want)) | none => none)
    | none => none
def cops (n : Nat) (all : List Oper) : List Oper → List Nat → Option (List COper)
  | [], _ => some []
  | o :: r, acc =>
    match guardOf all o, cops n all r (acc ++ [predsOf acc o]) with
    | some g, some l =>
      bif (match o.dst with | some d => Nat.blt d n | none => true) then some ({ dst := o.dst, op := cop P o.op, guard := g, preds := predsOf acc o } :: l) else none
    | _, _ => none
def tmpsIn (o : Oper) (all : List Oper) : List Nat :=
  (o.op.operands.toList.filterMap fun | .tmp t => some t | _ => none) ++
  (match o.guard with
   | some (g, _) => ((all[g]?).bind (·.dst)).toList
   | none => [])
def drawOk (all : List Oper) (cs : List COper) : Bool :=
  (List.range all.length).all fun i =>
    (match all[i]?, cs[i]? with
    | some o, some _ =>
      o.after.toList.all (fun e => !Region.binds .any e || Nat.blt e.on i) &&
      (List.range all.length).all (fun j => Nat.beq i j ||
        (match all[j]?, cs[j]? with
        | some p, some d =>
          (match p.dst with
          | none => true
          | some t =>
            (match o.dst with | some u => !Nat.beq t u | none => true) &&
            (!(tmpsIn o all).elem t || Nat.testBit ((cs.getD i default).preds) j || Nat.testBit d.preds i))
        | _, _ => true))
    | _, _ => false)
def ccode (n : Nat) : Code → CCode
  | .skip => .skip
  | .region _ ops draw => (match cops P n ops.toList ops.toList [] with
    | some l => bif draw then (bif drawOk ops.toList l then .draw l else .bad) else .region l
    | none => .bad)
  | .seq a b => .seq (ccode n a) (ccode n b)
  | .cond c a b => (match opd c with | some c => .cond c (ccode n a) (ccode n b) | none => .bad)
  | .block id b => .block id (ccode n b)
  | .loop b => .loop (ccode n b)
  | .exit id => .exit id
  | .ret => .ret
  | .scope b => .seq (ccode n b) .skip
  | .label _ => .skip
  | _ => .bad
def cress : List ResultVar → Option (List CRes)
  | [] => some []
  | .tmp t :: r => (match cress r with | some l => some (.t t :: l) | none => none)
  | .cell a t :: r => (match spread P t, cress r with | some n, some l => some (.cell a n :: l) | _, _ => none)
def cfun (f : Nat) : Option CFunc :=
  match P.funcs[f]? with
  | none => none
  | some fn => match fn.body with
    | none => none
    | some b => bif fn.name == "runtime.NumGoroutine" then none else
      match cress P fn.results.toList with
      | some rs => some { ntmps := fn.ntmps, results := rs, body := ccode P fn.ntmps b }
      | none => none
def methodOf (t : Nat) (name : String) : Option Nat :=
  match P.info? t with
  | none => none
  | some i => match i.methods.find? (·.name == name) with
    | none => none
    | some m => bif m.path.isEmpty then (match m.func, P.underlying t with
      | some (f, true), some (.pointer _) => some f
      | some (_, false), some (.pointer _) => none
      | some (f, false), some _ => some f
      | _, _ => none) else none
end
end Go.RE
namespace Go.RE
abbrev Ren := Nat → Option (Nat × Nat × Nat)
def Ren.le (ρ ρ' : Ren) : Prop := ∀ n x, ρ n = some x → ρ' n = some x
inductive VRel (w0 : World) (ρ : Ren) : V → Value → Prop
  | bool (b : Bool) : VRel w0 ρ (.bool b) (.bool b)
  | int (k : IntKind) (n : Int) : VRel w0 ρ (.int k n) (.int k n)
  | str {l : List UInt8} {s : ByteArray} (h : s.data.toList = l) : VRel w0 ρ (.str l) (.string s)
  | nilp : VRel w0 ρ .nilp (.pointer none)
  | ptr {b off r o lim : Nat} (h : ρ b = some (r, o, lim)) : VRel w0 ρ (.ptr b off) (.pointer (some ⟨r, o + off, none⟩))
  | cptr {row : List V} {off r o : Nat} (c : Nat → Value) (hr : row ≠ [] → r < w0.heap.size) (hc : ∀ i, i < row.length → w0.cell? ⟨r, o + i, none⟩ = some (c i))
      (hv : ∀ i (h : i < row.length), VRel w0 ρ row[i] (c i)) : VRel w0 ρ (.cptr row off) (.pointer (some ⟨r, o + off, none⟩))
  | nils : VRel w0 ρ .nils (.slice none 0 0)
  | zslice {a : Addr} : VRel w0 ρ .zslice (.slice (some a) 0 0)
  | slice {b off len cap sz : Nat} {ex : Bool} {r o lim : Nat} {a : Addr} {cap' : Nat} (h : ρ b = some (r, o, lim)) (h1 : cap ≤ cap') (h2 : ex = true → cap' = cap)
      (h3 : len ≤ cap) (h4 : cap' = 0 ∨ (a = ⟨r, o + off, none⟩ ∧ o + off + cap' * sz ≤ lim)) : VRel w0 ρ (.slice b off len cap sz ex) (.slice (some a) len cap')
  | cslice {row : List V} {off len sz r o : Nat} {a : Addr} {cap' : Nat} (c : Nat → Value) (hr : row ≠ [] → r < w0.heap.size) (hc : ∀ i, i < row.length → w0.cell? ⟨r, o + i, none⟩ = some (c i))
      (hv : ∀ i (h : i < row.length), VRel w0 ρ row[i] (c i)) (h3 : len ≤ cap') (h4 : cap' = 0 ∨ a = ⟨r, o + off, none⟩) : VRel w0 ρ (.cslice row off len sz) (.slice (some a) len cap')
  | nilm : VRel w0 ρ .nilm (.map none)
  | map {b r o lim : Nat} (h : ρ b = some (r, o, lim)) : VRel w0 ρ (.map b) (.map (some r))
  | nilf : VRel w0 ρ .nilf .nilFunc
  | func {f : Nat} {a b : List V} {a' b' : Array Value} (ha : a.length = a'.size) (hb : b.length = b'.size)
      (va : ∀ i (h : i < a.length) (h' : i < a'.size), VRel w0 ρ a[i] a'[i]) (vb : ∀ i (h : i < b.length) (h' : i < b'.size), VRel w0 ρ b[i] b'[i]) : VRel w0 ρ (.func f a b) (.func (.func f) a' b')
  | nili : VRel w0 ρ .nili .nilIface
  | iface {t : Nat} {v : V} {v' : Value} (h : VRel w0 ρ v v') : VRel w0 ρ (.iface t v) (.iface t v')
  | agg {a : List V} {a' : Array Value} (ha : a.length = a'.size) (va : ∀ i (h : i < a.length) (h' : i < a'.size), VRel w0 ρ a[i] a'[i]) : VRel w0 ρ (.agg a) (.agg a')
  | tup {a : List V} {a' : Array Value} (ha : a.length = a'.size) (va : ∀ i (h : i < a.length) (h' : i < a'.size), VRel w0 ρ a[i] a'[i]) : VRel w0 ρ (.tup a) (.tuple a')
theorem VRel.mono {w0 : World} {ρ ρ' : Ren} (hρ : ρ.le ρ') {v : V} {x : Value} (h : VRel w0 ρ v x) : VRel w0 ρ' v x := by
  induction h with
  | bool b => exact .bool b
  | int k n => exact .int k n
  | str h => exact .str h
  | nilp => exact .nilp
  | ptr h => exact .ptr (hρ _ _ h)
  | cptr c hr hc _ ih => exact .cptr c hr hc ih
  | nils => exact .nils
  | zslice => exact .zslice
  | slice h h1 h2 h3 h4 => exact .slice (hρ _ _ h) h1 h2 h3 h4
  | cslice c hr hc _ h3 h4 ih => exact .cslice c hr hc ih h3 h4
  | nilm => exact .nilm
  | map h => exact .map (hρ _ _ h)
  | nilf => exact .nilf
  | func ha hb _ _ iha ihb => exact .func ha hb iha ihb
  | nili => exact .nili
  | iface _ ih => exact .iface ih
  | agg ha _ ih => exact .agg ha ih
  | tup ha _ ih => exact .tup ha ih
def LRel (w0 : World) (ρ : Ren) (a : List V) (b : List Value) : Prop := a.length = b.length ∧ ∀ i (h : i < a.length) (h' : i < b.length), VRel w0 ρ a[i] b[i]
theorem LRel.mono {w0 : World} {ρ ρ' : Ren} (hρ : ρ.le ρ') {a : List V} {b : List Value} (h : LRel w0 ρ a b) : LRel w0 ρ' a b :=
  ⟨h.1, fun i h1 h2 => (h.2 i h1 h2).mono hρ⟩
theorem LRel.nil {w0 : World} {ρ : Ren} : LRel w0 ρ [] [] := ⟨rfl, fun i h => by simp at h⟩
theorem LRel.cons {w0 : World} {ρ : Ren} {a : V} {b : Value} {as : List V} {bs : List Value} (h : VRel w0 ρ a b) (hs : LRel w0 ρ as bs) : LRel w0 ρ (a :: as) (b :: bs) :=
  ⟨by simp [hs.1], fun i h1 h2 => by
    cases i with
    | zero => simpa using h
    | succ i => simpa using hs.2 i (by simpa using h1) (by simpa using h2)⟩
theorem LRel.append {w0 : World} {ρ : Ren} {a c : List V} {b d : List Value} (h : LRel w0 ρ a b) (hs : LRel w0 ρ c d) : LRel w0 ρ (a ++ c) (b ++ d) :=
  ⟨by simp [h.1, hs.1], fun i h1 h2 => by
    have e := h.1
    by_cases hi : i < a.length
    · rw [List.getElem_append_left hi, List.getElem_append_left (by omega)]; exact h.2 i hi (by omega)
    · simp only [List.length_append] at h1 h2
      rw [List.getElem_append_right (by omega), List.getElem_append_right (by omega)]
      have := hs.2 (i - a.length) (by omega) (by omega)
      simpa [e] using this⟩
theorem LRel.take {w0 : World} {ρ : Ren} {a : List V} {b : List Value} (n : Nat) (h : LRel w0 ρ a b) : LRel w0 ρ (a.take n) (b.take n) :=
  ⟨by simp [h.1], fun i h1 h2 => by
    simp only [List.length_take] at h1 h2
    simpa using h.2 i (by omega) (by omega)⟩
theorem LRel.drop {w0 : World} {ρ : Ren} {a : List V} {b : List Value} (n : Nat) (h : LRel w0 ρ a b) : LRel w0 ρ (a.drop n) (b.drop n) :=
  ⟨by simp [h.1], fun i h1 h2 => by
    simp only [List.length_drop] at h1 h2
    simpa using h.2 (n + i) (by omega) (by omega)⟩
theorem LRel.of_array {w0 : World} {ρ : Ren} {a : List V} {b : Array Value} (h : a.length = b.size) (hv : ∀ i (h : i < a.length) (h' : i < b.size), VRel w0 ρ a[i] b[i]) : LRel w0 ρ a b.toList :=
  ⟨by simpa using h, fun i h1 h2 => by simpa using hv i h1 (by simpa using h2)⟩
theorem LRel.get {w0 : World} {ρ : Ren} {a : List V} {b : List Value} (h : LRel w0 ρ a b) {i : Nat} {v : V} (hv : a[i]? = some v) : ∃ x, b[i]? = some x ∧ VRel w0 ρ v x := by
  obtain ⟨hi, rfl⟩ := List.getElem?_eq_some_iff.1 hv
  exact ⟨b[i]'(h.1 ▸ hi), List.getElem?_eq_getElem _, h.2 i hi (h.1 ▸ hi)⟩
theorem LRel.inv_nil {w0 : World} {ρ : Ren} {b : List Value} (h : LRel w0 ρ [] b) : b = [] := by
  have := h.1; simp at this; exact List.eq_nil_of_length_eq_zero this.symm
theorem LRel.inv_cons {w0 : World} {ρ : Ren} {a : V} {as : List V} {b : List Value} (h : LRel w0 ρ (a :: as) b) : ∃ x xs, b = x :: xs ∧ VRel w0 ρ a x ∧ LRel w0 ρ as xs := by
  cases b with
  | nil => have := h.1; simp at this
  | cons x xs =>
    refine ⟨x, xs, rfl, ?_, ?_, fun i h1 h2 => ?_⟩
    · exact h.2 0 (by simp) (by simp)
    · have := h.1; simpa using this
    · exact h.2 (i + 1) (by simpa using h1) (by simpa using h2)
theorem VRel.agg_of {w0 : World} {ρ : Ren} {a : List V} {b : List Value} (h : LRel w0 ρ a b) : VRel w0 ρ (.agg a) (.agg b.toArray) :=
  .agg (by simpa using h.1) fun i h1 h2 => by simpa using h.2 i h1 (by simpa using h2)
theorem VRel.tup_of {w0 : World} {ρ : Ren} {a : List V} {b : List Value} (h : LRel w0 ρ a b) : VRel w0 ρ (.tup a) (.tuple b.toArray) :=
  .tup (by simpa using h.1) fun i h1 h2 => by simpa using h.2 i h1 (by simpa using h2)
theorem VRel.cells {w0 : World} {ρ : Ren} {v : V} {x : Value} (h : VRel w0 ρ v x) : LRel w0 ρ v.cells x.cells.toList := by
  cases h with
  | agg ha va => exact LRel.of_array ha va
  | bool b => exact LRel.cons (.bool b) .nil
  | int k n => exact LRel.cons (.int k n) .nil
  | str h => exact LRel.cons (.str h) .nil
  | nilp => exact LRel.cons .nilp .nil
  | ptr h => exact LRel.cons (.ptr h) .nil
  | cptr c hr hc hv => exact LRel.cons (.cptr c hr hc hv) .nil
  | nils => exact LRel.cons .nils .nil
  | zslice => exact LRel.cons .zslice .nil
  | slice h h1 h2 h3 h4 => exact LRel.cons (.slice h h1 h2 h3 h4) .nil
  | cslice c hr hc hv h3 h4 => exact LRel.cons (.cslice c hr hc hv h3 h4) .nil
  | nilm => exact LRel.cons .nilm .nil
  | map h => exact LRel.cons (.map h) .nil
  | nilf => exact LRel.cons .nilf .nil
  | func ha hb va vb => exact LRel.cons (.func ha hb va vb) .nil
  | nili => exact LRel.cons .nili .nil
  | iface h => exact LRel.cons (.iface h) .nil
  | tup ha va => exact LRel.cons (.tup ha va) .nil
theorem VRel.one {w0 : World} {ρ : Ren} {v : V} {x : Value} (h : VRel w0 ρ v x) (h1 : v.one = true) : (∀ c, x ≠ .agg c) ∧ (∀ c, x ≠ .tuple c) := by
  cases h <;> simp [V.one] at h1 ⊢
def ObRel (w0 : World) (ρ : Ren) (o lim : Nat) : Option Ob → Option Obj → Prop
  | some (.row cs), x => ∃ c t fr, x = some (.cells c t fr) ∧ c.size = lim ∧ o + cs.length ≤ lim ∧ (∀ j, j < lim → ¬ (fr.1 ≤ j ∧ j < fr.2)) ∧
      ∀ i (h : i < cs.length), ∃ v, c[o + i]? = some v ∧ VRel w0 ρ cs[i] v
  | some (.map es clock), x => ∃ es', x = some (.map es' clock) ∧ es.length = es'.size ∧
      ∀ i (h : i < es.length) (h' : i < es'.size), VRel w0 ρ es[i].key es'[i].key ∧ VRel w0 ρ es[i].val es'[i].val ∧ es[i].born = es'[i].born
  | some (.miter m since seen stepped), x => ∃ m', x = some (.mapIter m' since seen.toArray stepped) ∧
      (match m with | none => m' = none | some n => ∃ r o lim, ρ n = some (r, o, lim) ∧ m' = some r) ∧ o = 0
  | some .dead, _ => True
  | none, _ => True
def live : Option Ob → Prop
  | some .dead => False
  | none => False
  | _ => True
theorem ObRel.mono {w0 : World} {ρ ρ' : Ren} (hρ : ρ.le ρ') {o lim : Nat} {ob : Option Ob} {x : Option Obj} (h : ObRel w0 ρ o lim ob x) : ObRel w0 ρ' o lim ob x := by
  cases ob with
  | none => trivial
  | some ob =>
    cases ob with
    | dead => trivial
    | row cs =>
      obtain ⟨c, t, fr, e1, e2, e3, e4, e5⟩ := h
      exact ⟨c, t, fr, e1, e2, e3, e4, fun i hi => let ⟨v, a, b⟩ := e5 i hi; ⟨v, a, b.mono hρ⟩⟩
    | map es clock =>
      obtain ⟨es', e1, e2, e3⟩ := h
      exact ⟨es', e1, e2, fun i h1 h2 => ⟨(e3 i h1 h2).1.mono hρ, (e3 i h1 h2).2.1.mono hρ, (e3 i h1 h2).2.2⟩⟩
    | miter m since seen stepped =>
      obtain ⟨m', e1, e2, e3⟩ := h
      refine ⟨m', e1, ?_, e3⟩
      cases m with
      | none => exact e2
      | some n => obtain ⟨r, o, lim, a, b⟩ := e2; exact ⟨r, o, lim, hρ _ _ a, b⟩
structure Rel (w0 : World) (ρ : Ren) (s : St) (w : World) : Prop where
  old : ∀ r, r < w0.heap.size → w.heap[r]? = w0.heap[r]?
  size : w0.heap.size ≤ w.heap.size
  os : w.os = w0.os
  output : w.output = w0.output
  dom : ∀ n r o lim, ρ n = some (r, o, lim) → n < s.next ∧ w0.heap.size ≤ r ∧ r < w.heap.size
  fresh : ∀ n, s.next ≤ n → s.get n = none
  ob : ∀ n r o lim, ρ n = some (r, o, lim) → ObRel w0 ρ o lim (s.get n) w.heap[r]?
  inj : ∀ n m r o lim o' lim', ρ n = some (r, o, lim) → ρ m = some (r, o', lim') → live (s.get n) → live (s.get m) → n = m
structure Stp (ρ : Ren) (s : St) (w : World) (ρ' : Ren) (s' : St) (w' : World) : Prop where
  next : s.next ≤ s'.next
  ren : ρ.le ρ'
  new : ∀ n x, ρ n = none → ρ' n = some x → s.next ≤ n
  wsize : w.heap.size ≤ w'.heap.size
  sk : ∀ n, n < s.next → ρ n = none → s'.get n = s.get n
  wk : ∀ r, r < w.heap.size → (∀ n x, ρ n = some x → x.1 ≠ r) → w'.heap[r]? = w.heap[r]? ∧ ∀ n x, ρ' n = some x → x.1 ≠ r
theorem Ren.le_refl (ρ : Ren) : ρ.le ρ := fun _ _ h => h
theorem Ren.le_trans {a b c : Ren} (h : a.le b) (h' : b.le c) : a.le c := fun n x e => h' n x (h n x e)
theorem Stp.refl (ρ : Ren) (s : St) (w : World) : Stp ρ s w ρ s w :=
  ⟨Nat.le_refl _, Ren.le_refl ρ, fun n x h h' => by rw [h] at h'; simp at h', Nat.le_refl _, fun _ _ _ => rfl, fun _ _ h => ⟨rfl, h⟩⟩
theorem Stp.trans {ρ ρ' ρ'' : Ren} {s s' s'' : St} {w w' w'' : World} (h : Stp ρ s w ρ' s' w') (h' : Stp ρ' s' w' ρ'' s'' w'') : Stp ρ s w ρ'' s'' w'' where
  next := Nat.le_trans h.next h'.next
  ren := Ren.le_trans h.ren h'.ren
  new n x e e' := by
    cases hm : ρ' n with
    | none => exact Nat.le_trans h.next (h'.new n x hm e')
    | some y => exact h.new n y e hm
  wsize := Nat.le_trans h.wsize h'.wsize
  sk n hn e := by
    have hm : ρ' n = none := by
      cases hm : ρ' n with
      | none => rfl
      | some y => have := h.new n y e hm; omega
    rw [h'.sk n (Nat.lt_of_lt_of_le hn h.next) hm, h.sk n hn e]
  wk r hr e := by
    obtain ⟨a, b⟩ := h.wk r hr e
    obtain ⟨c, d⟩ := h'.wk r (Nat.lt_of_lt_of_le hr h.wsize) b
    exact ⟨c.trans a, d⟩
theorem Rel.same {w0 : World} {ρ : Ren} {s : St} {w w' : World} (h : Rel w0 ρ s w) (hh : w'.heap = w.heap) (ho : w'.os = w.os) (hp : w'.output = w.output) : Rel w0 ρ s w' where
  old r hr := by rw [hh]; exact h.old r hr
  size := by rw [hh]; exact h.size
  os := ho.trans h.os
  output := hp.trans h.output
  dom n r o lim e := by rw [hh]; exact h.dom n r o lim e
  fresh := h.fresh
  ob n r o lim e := by rw [hh]; exact h.ob n r o lim e
  inj := h.inj
theorem Stp.same {ρ : Ren} {s : St} {w w' : World} (hh : w'.heap = w.heap) : Stp ρ s w ρ s w' :=
  ⟨Nat.le_refl _, Ren.le_refl ρ, fun n x h h' => by rw [h] at h'; simp at h', by rw [hh]; exact Nat.le_refl _, fun _ _ _ => rfl, fun _ _ h => ⟨by rw [hh], h⟩⟩
theorem St.get_put (s : St) (n : Nat) (o : Ob) (m : Nat) : (s.put n o).get m = if m = n then some o else s.get m := PT.get_set _ _ _ _
theorem St.get_alloc (s : St) (o : Ob) (m : Nat) : (s.alloc o).get m = if m = s.next then some o else s.get m := PT.get_set _ _ _ _
def Ren.add (ρ : Ren) (n : Nat) (x : Nat × Nat × Nat) : Ren := fun m => if m = n then some x else ρ m
theorem Ren.le_add {ρ : Ren} {n : Nat} (x : Nat × Nat × Nat) (h : ρ n = none) : ρ.le (ρ.add n x) := fun m y e => by
  unfold Ren.add
  by_cases hm : m = n
  · subst hm; rw [h] at e; simp at e
  · rw [if_neg hm]; exact e
theorem Ren.add_same (ρ : Ren) (n : Nat) (x : Nat × Nat × Nat) : (ρ.add n x) n = some x := by simp [Ren.add]
theorem Rel.realize {w0 : World} {ρ : Ren} {s : St} {w : World} (h : Rel w0 ρ s w) {n : Nat} {ob : Ob} {obj : Obj} {lim : Nat} (hn : n < s.next) (hρ : ρ n = none) (hs : s.get n = some ob)
    (ho : ObRel w0 ρ 0 lim (some ob) (some obj)) : Rel w0 (ρ.add n (w.heap.size, 0, lim)) s (w.alloc obj) := by
  have hle := Ren.le_add (ρ := ρ) (n := n) (w.heap.size, 0, lim) hρ
  have hold : ∀ r, r < w.heap.size → (w.alloc obj).heap[r]? = w.heap[r]? := fun r hr => by
    show (w.heap.push obj)[r]? = _
    rw [Array.getElem?_push, if_neg (Nat.ne_of_lt hr)]
  have hnew : (w.alloc obj).heap[w.heap.size]? = some obj := by
    show (w.heap.push obj)[w.heap.size]? = _
    simp
  refine ⟨fun r hr => ?_, ?_, h.os, h.output, fun m r o l e => ?_, h.fresh, fun m r o l e => ?_, fun m k r o l o' l' e e' lm lk => ?_⟩
  · rw [hold r (Nat.lt_of_lt_of_le hr h.size)]; exact h.old r hr
  · have := h.size; simp; omega
  · unfold Ren.add at e
    by_cases hm : m = n
    · rw [if_pos hm] at e; simp at e; obtain ⟨rfl, rfl, rfl⟩ := e
      refine ⟨by omega, h.size, by simp⟩
    · rw [if_neg hm] at e; have := h.dom m r o l e; simp; omega
  · unfold Ren.add at e
    by_cases hm : m = n
    · rw [if_pos hm] at e; simp at e; obtain ⟨rfl, rfl, rfl⟩ := e
      subst hm
      rw [hs, hnew]; exact ho.mono hle
    · rw [if_neg hm] at e
      rw [hold r (h.dom m r o l e).2.2]
      exact (h.ob m r o l e).mono hle
  · unfold Ren.add at e e'
    by_cases hm : m = n
    · by_cases hk : k = n
      · omega
      · rw [if_pos hm] at e; rw [if_neg hk] at e'; simp at e
        have := (h.dom k r o' l' e').2.2; omega
    · by_cases hk : k = n
      · rw [if_pos hk] at e'; rw [if_neg hm] at e; simp at e'
        have := (h.dom m r o l e).2.2; omega
      · rw [if_neg hm] at e; rw [if_neg hk] at e'
        exact h.inj m k r o l o' l' e e' lm lk
theorem wk_alloc {ρ : Ren} {w : World} {n : Nat} {obj : Obj} {lim : Nat} :
    (∀ r, r < w.heap.size → (∀ n x, ρ n = some x → x.1 ≠ r) → (w.alloc obj).heap[r]? = w.heap[r]? ∧ ∀ m x, (ρ.add n (w.heap.size, 0, lim)) m = some x → x.1 ≠ r) := by
  intro r hr e
  refine ⟨?_, fun m x hm => ?_⟩
  · show (w.heap.push obj)[r]? = _
    rw [Array.getElem?_push, if_neg (Nat.ne_of_lt hr)]
  · unfold Ren.add at hm
    by_cases h : m = n
    · rw [if_pos h] at hm; simp at hm; subst hm; simp; omega
    · rw [if_neg h] at hm; exact e m x hm
theorem Rel.fresh_alloc {w0 : World} {ρ : Ren} {s : St} {w : World} (h : Rel w0 ρ s w) (ob : Ob) : Rel w0 ρ (s.alloc ob) w where
  old := h.old
  size := h.size
  os := h.os
  output := h.output
  dom n r o lim e := by have := h.dom n r o lim e; exact ⟨Nat.lt_succ_of_lt this.1, this.2⟩
  fresh n hn := by
    have hn' : s.next + 1 ≤ n := hn
    rw [St.get_alloc, if_neg (by omega)]; exact h.fresh n (by omega)
  ob n r o lim e := by
    have := h.dom n r o lim e
    rw [St.get_alloc, if_neg (by omega)]; exact h.ob n r o lim e
  inj n m r o lim o' lim' e e' ln lm := by
    have h1 := h.dom n r o lim e
    have h2 := h.dom m r o' lim' e'
    rw [St.get_alloc, if_neg (by omega)] at ln lm
    exact h.inj n m r o lim o' lim' e e' ln lm
theorem Rel.unnamed {w0 : World} {ρ : Ren} {s : St} {w : World} (h : Rel w0 ρ s w) {n : Nat} (hn : s.next ≤ n) : ρ n = none := by
  cases e : ρ n with
  | none => rfl
  | some x => obtain ⟨r, o, lim⟩ := x; have := (h.dom n r o lim e).1; omega
theorem Rel.alloc {w0 : World} {ρ : Ren} {s : St} {w : World} (h : Rel w0 ρ s w) {ob : Ob} {obj : Obj} {lim : Nat} (ho : ObRel w0 ρ 0 lim (some ob) (some obj)) :
    Rel w0 (ρ.add s.next (w.heap.size, 0, lim)) (s.alloc ob) (w.alloc obj) ∧ Stp ρ s w (ρ.add s.next (w.heap.size, 0, lim)) (s.alloc ob) (w.alloc obj) := by
  have hρ := h.unnamed (Nat.le_refl s.next)
  refine ⟨(h.fresh_alloc ob).realize (Nat.lt_succ_self _) hρ (by rw [St.get_alloc, if_pos rfl]) ho, Nat.le_succ _, Ren.le_add _ hρ, fun n x e e' => ?_, by simp, fun n hn e => ?_, wk_alloc⟩
  · unfold Ren.add at e'
    by_cases hm : n = s.next
    · omega
    · rw [if_neg hm] at e'; rw [e] at e'; simp at e'
  · rw [St.get_alloc, if_neg (by omega)]
theorem Rel.put {w0 : World} {ρ : Ren} {s : St} {w : World} (h : Rel w0 ρ s w) {n r o lim : Nat} (e : ρ n = some (r, o, lim)) (hl : live (s.get n)) {ob : Ob} {obj : Obj}
    (ho : ObRel w0 ρ o lim (some ob) (some obj)) : Rel w0 ρ (s.put n ob) { w with heap := w.heap.setIfInBounds r obj } ∧ Stp ρ s w ρ (s.put n ob) { w with heap := w.heap.setIfInBounds r obj } := by
  have hd := h.dom n r o lim e
  refine ⟨⟨fun k hk => ?_, ?_, h.os, h.output, fun m r' o' l' e' => ?_, fun m hm => ?_, fun m r' o' l' e' => ?_, fun m k r' o' l' o'' l'' e' e'' lm lk => ?_⟩,
    Nat.le_refl _, Ren.le_refl _, fun m x a b => by rw [a] at b; simp at b, by simp, fun m hm e' => ?_, fun k hk hx => ⟨?_, hx⟩⟩
  · show (w.heap.setIfInBounds r obj)[k]? = _
    rw [Array.getElem?_setIfInBounds_ne (by omega)]; exact h.old k hk
  · simpa using h.size
  · have := h.dom m r' o' l' e'; simpa [St.put] using this
  · have hm' : s.next ≤ m := hm
    rw [St.get_put, if_neg (by omega)]; exact h.fresh m hm'
  · show ObRel w0 ρ o' l' _ (w.heap.setIfInBounds r obj)[r']?
    rw [St.get_put]
    by_cases hm : m = n
    · subst hm
      rw [e] at e'; simp at e'; obtain ⟨rfl, rfl, rfl⟩ := e'
      rw [if_pos rfl, Array.getElem?_setIfInBounds_self_of_lt hd.2.2]; exact ho
    · rw [if_neg hm]
      by_cases hr : r' = r
      · subst hr
        by_cases lm : live (s.get m)
        · exact absurd (h.inj m n r' o' l' o lim e' e lm hl) hm
        · cases hob : s.get m with
          | none => trivial
          | some x => cases x <;> first | trivial | (rw [hob] at lm; exact absurd trivial lm)
      · rw [Array.getElem?_setIfInBounds_ne (fun x => hr x.symm)]; exact h.ob m r' o' l' e'
  · have key : ∀ x, live ((s.put n ob).get x) → x ≠ n → live (s.get x) := fun x hx hne => by rw [St.get_put, if_neg hne] at hx; exact hx
    by_cases hm : m = n
    · by_cases hk : k = n
      · omega
      · subst hm
        exact h.inj m k r' o' l' o'' l'' e' e'' hl (key k lk hk)
    · by_cases hk : k = n
      · subst hk
        exact h.inj m k r' o' l' o'' l'' e' e'' (key m lm hm) hl
      · exact h.inj m k r' o' l' o'' l'' e' e'' (key m lm hm) (key k lk hk)
  · rw [St.get_put, if_neg (fun x => by subst x; rw [e] at e'; simp at e')]
  · show (w.heap.setIfInBounds r obj)[k]? = _
    rw [Array.getElem?_setIfInBounds_ne (fun x => hx n (r, o, lim) e x)]
theorem Rel.kill {w0 : World} {ρ : Ren} {s : St} {w : World} (h : Rel w0 ρ s w) {n r o lim : Nat} (e : ρ n = some (r, o, lim)) :
    Rel w0 ρ (s.put n .dead) w ∧ Stp ρ s w ρ (s.put n .dead) w := by
  have hd := h.dom n r o lim e
  have key : ∀ x, live ((s.put n .dead).get x) → live (s.get x) := fun x hx => by
    rw [St.get_put] at hx
    by_cases hne : x = n
    · rw [if_pos hne] at hx; exact hx.elim
    · rw [if_neg hne] at hx; exact hx
  refine ⟨⟨h.old, h.size, h.os, h.output, h.dom, fun m hm => ?_, fun m r' o' l' e' => ?_, fun m k r' o' l' o'' l'' e' e'' lm lk => h.inj m k r' o' l' o'' l'' e' e'' (key m lm) (key k lk)⟩,
    Nat.le_refl _, Ren.le_refl _, fun m x a b => by rw [a] at b; simp at b, Nat.le_refl _, fun m hm e' => ?_, fun k hk hx => ⟨rfl, hx⟩⟩
  · have hm' : s.next ≤ m := hm
    rw [St.get_put, if_neg (by omega)]; exact h.fresh m hm'
  · rw [St.get_put]
    by_cases hm : m = n
    · rw [if_pos hm]; trivial
    · rw [if_neg hm]; exact h.ob m r' o' l' e'
  · rw [St.get_put, if_neg (fun x => by subst x; rw [e] at e'; simp at e')]
theorem Rel.grow {w0 : World} {ρ : Ren} {s : St} {w : World} (h : Rel w0 ρ s w) {n r o lim : Nat} (e : ρ n = some (r, o, lim)) (hl : live (s.get n)) {ob : Ob} {obj : Obj} {o' : Nat}
    (ho : ObRel w0 ρ o' lim (some ob) (some obj)) :
    Rel w0 (ρ.add s.next (r, o', lim)) ((s.put n .dead).alloc ob) { w with heap := w.heap.setIfInBounds r obj } ∧
    Stp ρ s w (ρ.add s.next (r, o', lim)) ((s.put n .dead).alloc ob) { w with heap := w.heap.setIfInBounds r obj } := by
  have hd := h.dom n r o lim e
  have hρ := h.unnamed (Nat.le_refl s.next)
  have hle := Ren.le_add (ρ := ρ) (n := s.next) (r, o', lim) hρ
  have hget : ∀ m, ((s.put n .dead).alloc ob).get m = if m = s.next then some ob else if m = n then some .dead else s.get m := fun m => by
    rw [St.get_alloc, St.get_put]; rfl
  have hlv : ∀ x, x ≠ s.next → live (((s.put n .dead).alloc ob).get x) → x ≠ n ∧ live (s.get x) := fun x hne hx => by
    rw [hget, if_neg hne] at hx
    by_cases hn : x = n
    · rw [if_pos hn] at hx; exact hx.elim
    · rw [if_neg hn] at hx; exact ⟨hn, hx⟩
  have hsplit : ∀ m x, (ρ.add s.next (r, o', lim)) m = some x → (m = s.next ∧ x = (r, o', lim)) ∨ (m ≠ s.next ∧ ρ m = some x) := fun m x hx => by
    unfold Ren.add at hx
    by_cases hm : m = s.next
    · rw [if_pos hm] at hx; simp at hx; exact .inl ⟨hm, hx.symm⟩
    · rw [if_neg hm] at hx; exact .inr ⟨hm, hx⟩
  refine ⟨⟨fun k hk => ?_, ?_, h.os, h.output, fun m r' o'' l' e' => ?_, fun m hm => ?_, fun m r' o'' l' e' => ?_, fun m k r' p l' p' l'' e' e'' lm lk => ?_⟩,
    Nat.le_succ _, hle, fun m x a b => ?_, by simp, fun m hm e' => ?_, fun k hk hx => ⟨?_, fun m x hm => ?_⟩⟩
  · show (w.heap.setIfInBounds r obj)[k]? = _
    rw [Array.getElem?_setIfInBounds_ne (by omega)]; exact h.old k hk
  · simpa using h.size
  · show m < s.next + 1 ∧ _
    rcases hsplit m _ e' with ⟨h1, h2⟩ | ⟨h1, h2⟩
    · simp at h2; obtain ⟨rfl, rfl, rfl⟩ := h2
      simp; omega
    · have := h.dom m r' o'' l' h2; simp; omega
  · have hm' : s.next + 1 ≤ m := hm
    rw [hget, if_neg (by omega), if_neg (by omega)]; exact h.fresh m (by omega)
  · show ObRel w0 _ o'' l' _ (w.heap.setIfInBounds r obj)[r']?
    rcases hsplit m _ e' with ⟨h1, h2⟩ | ⟨h1, h2⟩
    · simp at h2; obtain ⟨rfl, rfl, rfl⟩ := h2
      rw [hget, if_pos h1, Array.getElem?_setIfInBounds_self_of_lt hd.2.2]; exact ho.mono hle
    · rw [hget, if_neg h1]
      by_cases hm : m = n
      · rw [if_pos hm]; trivial
      · rw [if_neg hm]
        by_cases hr : r' = r
        · subst hr
          by_cases lm : live (s.get m)
          · exact absurd (h.inj m n r' o'' l' o lim h2 e lm hl) hm
          · cases hob : s.get m with
            | none => trivial
            | some x => cases x <;> first | trivial | (rw [hob] at lm; exact absurd trivial lm)
        · rw [Array.getElem?_setIfInBounds_ne (fun x => hr x.symm)]; exact (h.ob m r' o'' l' h2).mono hle
  · rcases hsplit m _ e' with ⟨h1, h2⟩ | ⟨h1, h2⟩
    · rcases hsplit k _ e'' with ⟨h3, h4⟩ | ⟨h3, h4⟩
      · omega
      · simp at h2; obtain ⟨rfl, rfl, rfl⟩ := h2
        obtain ⟨a, b⟩ := hlv k h3 lk
        exact absurd (h.inj k n r' p' l'' o _ h4 e b hl) a
    · rcases hsplit k _ e'' with ⟨h3, h4⟩ | ⟨h3, h4⟩
      · simp at h4; obtain ⟨rfl, rfl, rfl⟩ := h4
        obtain ⟨a, b⟩ := hlv m h1 lm
        exact absurd (h.inj m n r' p l' o _ h2 e b hl) a
      · exact h.inj m k r' p l' p' l'' h2 h4 (hlv m h1 lm).2 (hlv k h3 lk).2
  · rcases hsplit m _ b with ⟨h1, h2⟩ | ⟨h1, h2⟩
    · omega
    · rw [a] at h2; simp at h2
  · rw [hget, if_neg (by omega), if_neg (fun x => by subst x; rw [e] at e'; simp at e')]
  · show (w.heap.setIfInBounds r obj)[k]? = _
    rw [Array.getElem?_setIfInBounds_ne (fun x => hx n (r, o, lim) e x)]
  · rcases hsplit m _ hm with ⟨h1, h2⟩ | ⟨h1, h2⟩
    · subst h2; exact hx n (r, o, lim) e
    · exact hx m x h2
end Go.RE
