/- A deterministic evaluator (in continuation form) for the code of a program: values, heap, compiled code. No theorem here speaks of the model yet. -/
import GoSem.Step
import Derived.Calls
import Derived.Orders
namespace Go.RE
set_option linter.unusedSimpArgs false
set_option linter.unusedVariables false

/- ## A tree keyed by numbers -/
inductive PT (α : Type) where
  | e
  | n (v : Option α) (l r : PT α)
deriving Inhabited

namespace PT
variable {α : Type}

def get : PT α → Nat → Option α
  | .e, _ => none
  | .n v l r, k => match k with
    | 0 => v
    | j + 1 => bif Nat.beq (j % 2) 0 then l.get (j / 2) else r.get (j / 2)

def putF : Nat → PT α → Nat → Option α → PT α
  | 0, t, _, _ => t
  | f + 1, t, k, x => match t with
    | .e => (match k with
      | 0 => .n x .e .e
      | j + 1 => bif Nat.beq (j % 2) 0 then .n none (putF f .e (j / 2) x) .e else .n none .e (putF f .e (j / 2) x))
    | .n v l r => (match k with
      | 0 => .n x l r
      | j + 1 => bif Nat.beq (j % 2) 0 then .n v (putF f l (j / 2) x) r else .n v l (putF f r (j / 2) x))

def set (t : PT α) (k : Nat) (x : α) : PT α := putF (k + 1) t k (some x)

theorem get_putF (f : Nat) : ∀ (t : PT α) (k : Nat) (x : Option α) (j : Nat), k < f → (putF f t k x).get j = if j = k then x else t.get j := by
  induction f with
  | zero => intro t k x j h; omega
  | succ f ih =>
    intro t k x j h
    cases t with
    | e =>
      cases k with
      | zero =>
        cases j with
        | zero => simp [putF, get]
        | succ j => simp only [putF, get]; cases Nat.beq (j % 2) 0 <;> simp [get]
      | succ k =>
        simp only [putF]
        have hk : k / 2 < f := by omega
        cases hb : Nat.beq (k % 2) 0 with
        | true =>
          simp only [cond_true]
          cases j with
          | zero => simp [get]
          | succ j =>
            simp only [get]
            cases hc : Nat.beq (j % 2) 0 with
            | true =>
              simp only [cond_true]
              rw [ih _ _ _ _ hk]
              have h1 : k % 2 = 0 := Nat.eq_of_beq_eq_true hb
              have h2 : j % 2 = 0 := Nat.eq_of_beq_eq_true hc
              by_cases hj : j = k
              · subst hj; simp
              · rw [if_neg (by omega), if_neg (by omega)]; simp [get]
            | false =>
              have h1 : k % 2 = 0 := Nat.eq_of_beq_eq_true hb
              have h2 : ¬ j % 2 = 0 := by intro h; rw [h] at hc; simp at hc
              rw [if_neg (by intro h; apply h2; have : j = k := by omega
                             rw [this]; exact h1)]
              simp [get]
        | false =>
          simp only [cond_false]
          cases j with
          | zero => simp [get]
          | succ j =>
            simp only [get]
            cases hc : Nat.beq (j % 2) 0 with
            | false =>
              simp only [cond_false]
              rw [ih _ _ _ _ hk]
              have h1 : ¬ k % 2 = 0 := by intro h; rw [h] at hb; simp at hb
              have h2 : ¬ j % 2 = 0 := by intro h; rw [h] at hc; simp at hc
              by_cases hj : j = k
              · subst hj; simp
              · rw [if_neg (by omega), if_neg (by omega)]; simp [get]
            | true =>
              have h1 : ¬ k % 2 = 0 := by intro h; rw [h] at hb; simp at hb
              have h2 : j % 2 = 0 := Nat.eq_of_beq_eq_true hc
              rw [if_neg (by intro h; apply h1; have : j = k := by omega
                             rw [← this]; exact h2)]
              simp [get]
    | n v l r =>
      cases k with
      | zero =>
        cases j with
        | zero => simp [putF, get]
        | succ j => simp [putF, get]
      | succ k =>
        simp only [putF]
        have hk : k / 2 < f := by omega
        cases hb : Nat.beq (k % 2) 0 with
        | true =>
          simp only [cond_true]
          cases j with
          | zero => simp [get]
          | succ j =>
            simp only [get]
            cases hc : Nat.beq (j % 2) 0 with
            | true =>
              simp only [cond_true]
              rw [ih _ _ _ _ hk]
              have h1 : k % 2 = 0 := Nat.eq_of_beq_eq_true hb
              have h2 : j % 2 = 0 := Nat.eq_of_beq_eq_true hc
              by_cases hj : j = k
              · subst hj; simp
              · rw [if_neg (by omega), if_neg (by omega)]
            | false =>
              have h1 : k % 2 = 0 := Nat.eq_of_beq_eq_true hb
              have h2 : ¬ j % 2 = 0 := by intro h; rw [h] at hc; simp at hc
              rw [if_neg (by intro h; apply h2; have : j = k := by omega
                             rw [this]; exact h1)]
              simp
        | false =>
          simp only [cond_false]
          cases j with
          | zero => simp [get]
          | succ j =>
            simp only [get]
            cases hc : Nat.beq (j % 2) 0 with
            | false =>
              simp only [cond_false]
              rw [ih _ _ _ _ hk]
              have h1 : ¬ k % 2 = 0 := by intro h; rw [h] at hb; simp at hb
              have h2 : ¬ j % 2 = 0 := by intro h; rw [h] at hc; simp at hc
              by_cases hj : j = k
              · subst hj; simp
              · rw [if_neg (by omega), if_neg (by omega)]
            | true =>
              have h1 : ¬ k % 2 = 0 := by intro h; rw [h] at hb; simp at hb
              have h2 : j % 2 = 0 := Nat.eq_of_beq_eq_true hc
              rw [if_neg (by intro h; apply h1; have : j = k := by omega
                             rw [← this]; exact h2)]
              simp

theorem get_set (t : PT α) (k : Nat) (x : α) (j : Nat) : (t.set k x).get j = if j = k then some x else t.get j :=
  get_putF (k + 1) t k (some x) j (Nat.lt_succ_self k)
@[simp] theorem get_e (k : Nat) : (PT.e : PT α).get k = none := by cases k <;> rfl
end PT

/- ## Values -/
inductive V where
  | bool (b : Bool)
  | int (k : IntKind) (n : Int)
  | str (s : List UInt8)
  | nilp
  | ptr (b off : Nat)
  | cptr (row : List V) (off : Nat)
  | nils
  | slice (b off len cap sz : Nat) (exact : Bool)
  | cslice (row : List V) (off len sz : Nat)
  | nilm
  | map (b : Nat)
  | nilf
  | func (f : Nat) (first captured : List V)
  | nili
  | iface (t : Nat) (v : V)
  | agg (cs : List V)
  | tup (vs : List V)
deriving Inhabited

/-- A value of one cell. -/
def V.one : V → Bool
  | .agg _ => false
  | .tup _ => false
  | _ => true

def V.cells : V → List V
  | .agg cs => cs
  | v => [v]

mutual
def V.beq : V → V → Bool
  | .bool a, .bool b => a == b
  | .int j a, .int k b => decide (j = k) && decide (a = b)
  | .str a, .str b => a == b
  | .nilp, .nilp => true
  | .ptr a b, .ptr c d => Nat.beq a c && Nat.beq b d
  | .cptr a b, .cptr c d => V.beqL a c && Nat.beq b d
  | .nils, .nils => true
  | .slice a b c d e f, .slice a' b' c' d' e' f' => Nat.beq a a' && Nat.beq b b' && Nat.beq c c' && Nat.beq d d' && Nat.beq e e' && (f == f')
  | .cslice a b c d, .cslice a' b' c' d' => V.beqL a a' && Nat.beq b b' && Nat.beq c c' && Nat.beq d d'
  | .nilm, .nilm => true
  | .map a, .map b => Nat.beq a b
  | .nilf, .nilf => true
  | .func f a b, .func g c d => Nat.beq f g && V.beqL a c && V.beqL b d
  | .nili, .nili => true
  | .iface t v, .iface u w => Nat.beq t u && V.beq v w
  | .agg a, .agg b => V.beqL a b
  | .tup a, .tup b => V.beqL a b
  | _, _ => false
def V.beqL : List V → List V → Bool
  | [], [] => true
  | a :: as, b :: bs => V.beq a b && V.beqL as bs
  | _, _ => false
end

mutual
theorem V.eq_of_beq : ∀ {a b : V}, V.beq a b = true → a = b
  | .bool a, b, h => by cases b <;> simp_all [V.beq]
  | .int j a, b, h => by cases b <;> simp_all [V.beq]
  | .str a, b, h => by cases b <;> simp_all [V.beq]
  | .nilp, b, h => by cases b <;> simp_all [V.beq]
  | .ptr a c, b, h => by cases b <;> simp_all [V.beq]
  | .cptr a c, b, h => by
    cases b <;> simp [V.beq] at h
    obtain ⟨h1, h2⟩ := h
    rw [V.eq_of_beqL h1, h2]
  | .nils, b, h => by cases b <;> simp_all [V.beq]
  | .slice a1 a2 a3 a4 a5 a6, b, h => by cases b <;> simp_all [V.beq]
  | .cslice a c d e, b, h => by
    cases b <;> simp [V.beq] at h
    obtain ⟨⟨⟨h1, h2⟩, h3⟩, h4⟩ := h
    rw [V.eq_of_beqL h1, h2, h3, h4]
  | .nilm, b, h => by cases b <;> simp_all [V.beq]
  | .map a, b, h => by cases b <;> simp_all [V.beq]
  | .nilf, b, h => by cases b <;> simp_all [V.beq]
  | .func f a c, b, h => by
    cases b <;> simp [V.beq] at h
    obtain ⟨⟨h1, h2⟩, h3⟩ := h
    rw [V.eq_of_beqL h2, V.eq_of_beqL h3, h1]
  | .nili, b, h => by cases b <;> simp_all [V.beq]
  | .iface t v, b, h => by
    cases b <;> simp [V.beq] at h
    obtain ⟨h1, h2⟩ := h
    rw [V.eq_of_beq h2, h1]
  | .agg a, b, h => by
    cases b <;> simp [V.beq] at h
    rw [V.eq_of_beqL h]
  | .tup a, b, h => by
    cases b <;> simp [V.beq] at h
    rw [V.eq_of_beqL h]
theorem V.eq_of_beqL : ∀ {a b : List V}, V.beqL a b = true → a = b
  | [], [], _ => rfl
  | [], _ :: _, h => by simp [V.beqL] at h
  | _ :: _, [], h => by simp [V.beqL] at h
  | a :: as, b :: bs, h => by
    simp [V.beqL] at h
    rw [V.eq_of_beq h.1, V.eq_of_beqL h.2]
end

/- ## The heap -/
structure ME where
  key : V
  val : V
  born : Nat
deriving Inhabited

inductive Ob where
  | row (cs : List V)
  | map (es : List ME) (clock : Nat)
  | miter (m : Option Nat) (since : Nat) (seen : List Nat) (stepped : Nat)
  | dead
deriving Inhabited

structure St where
  h : PT Ob
  next : Nat
deriving Inhabited

def St.get (s : St) (n : Nat) : Option Ob := s.h.get n
def St.put (s : St) (n : Nat) (o : Ob) : St := { s with h := s.h.set n o }
def St.alloc (s : St) (o : Ob) : St := { h := s.h.set s.next o, next := s.next + 1 }
def St.row (s : St) (n : Nat) : Option (List V) :=
  match s.get n with
  | some (.row cs) => some cs
  | _ => none

/- ## Answers -/
class Ans (R : Type) where
  fail : R
  all : Nat → (Nat → R) → R
  chk : V → V → R → R

instance : Ans Prop where
  fail := False
  all n f := ∀ i, i < n → f i
  chk a b r := a = b ∧ r

instance : Ans Bool where
  fail := false
  all n f := (List.range n).all f
  chk a b r := bif V.beq a b then r else false

/- ## Code -/
inductive Opd where
  | t (n : Nat)
  | c (v : V)
deriving Inhabited

inductive EqK where
  | bool | int | str
  | nilp | nils | nilm | nilf   -- compared with nil (or both nil)
  | iface (guard : Bool)        -- guard: two nils are not told
  | flat (ks : List (Nat × EqK)) -- a struct, cell by cell, of bool, int, str
  | no
deriving Inhabited

/-- Operations that neither write nor make memory. -/
inductive SOp where
  | mov (x : Opd)
  | pick (c a b : Opd)
  | load (n : Option Nat) (x : Opd)
  | nilCheck (x : Opd)
  | bin (op : BinOp) (ek : EqK) (x y : Opd)
  | un (op : UnOp) (x : Opd)
  | convInt (k : IntKind) (x : Opd)
  | convId (x : Opd)
  | toStr (x : Opd)
  | mkIface (t : Nat) (x : Opd)
  | mkFunc (f : Nat) (first captured : List Opd)
  | build (zero : List V) (parts : List (Nat × Nat × Opd))
  | sliceStr (x : Opd) (lo hi : Option Opd)
  | slice (sz : Nat) (x : Opd) (lo hi mx : Option Opd)
  | sliceArr (n sz : Nat) (x : Opd) (lo hi : Option Opd)
  | fieldAddr (off : Nat) (x : Opd)
  | field (off : Nat) (n : Option Nat) (x : Opd)
  | indexAddr (sz : Nat) (x i : Opd)
  | indexArr (len sz : Nat) (x i : Opd)
  | index (x i : Opd)
  | lookup (kk : EqK) (zero : V) (ok : Bool) (x i : Opd)
  | extract (i : Nat) (x : Opd)
  | len (k : Nat) (x : Opd)          -- 0: of a string, 1: of a slice, 2: of a map
  | cap (x : Opd)
  | max (xs : List Opd)
  | min (xs : List Opd)
  | assertTo (t : Nat) (zero : V) (x : Opd)       -- x.(T), v, ok; T concrete
deriving Inhabited

/-- Operations that make memory, whatever memory holds. -/
inductive MOp where
  | alloc (zero : List V)
  | box (x : Opd)
  | buildSlice (sz len : Nat) (zero : List V) (parts : List (Nat × Nat × Opd))
  | makeMap
  | makeSlice (sz bytes : Nat) (zero : List V) (len cap : Opd)
  | toBytes (x : Opd)
deriving Inhabited

/-- Operations that write memory, or make it out of what memory holds. -/
inductive HOp where
  | store (n : Nat) (a x : Opd)
  | mapUpdate (kk : EqK) (m k x : Opd)
  | delete (kk : EqK) (m k : Opd)
  | append (sz bytes : Nat) (str : Bool) (s x : Opd)     -- str: a string's bytes come
  | copy (sz : Nat) (str : Bool) (d s : Opd)
  | clear (sz : Nat) (zero : List V) (x : Opd)
  | range (x : Opd)
deriving Inhabited

inductive COp where
  | s (o : SOp)
  | m (o : MOp)
  | h (o : HOp)
  | call (f : Opd) (args : List Opd)
  | invoke (name : String) (x : Opd) (args : List Opd)
  | next (x : Opd)
  | bad
deriving Inhabited

structure COper where
  dst : Option Nat
  op : COp
  guard : Option (Nat × Bool)     -- a temporary, and what it must hold
  preds : Nat                      -- all that must run before, as bits
deriving Inhabited

inductive CCode where
  | skip
  | region (ops : List COper)
  | draw (ops : List COper)
  | seq (a b : CCode)
  | cond (c : Opd) (a b : CCode)
  | block (id : Nat) (b : CCode)
  | loop (b : CCode)
  | exit (id : Nat)
  | ret
  | bad
deriving Inhabited

inductive CRes where
  | t (n : Nat)
  | cell (a : Nat) (n : Option Nat)
deriving Inhabited

structure CFunc where
  ntmps : Nat
  results : List CRes
  body : CCode
deriving Inhabited

inductive Ex where
  | normal
  | exit (id : Nat)
  | ret
deriving Inhabited

end Go.RE
