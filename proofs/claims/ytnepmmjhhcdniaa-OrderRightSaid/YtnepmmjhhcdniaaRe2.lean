/- The evaluator: operations, regions, code, calls. -/
import Derived.Test.YtnepmmjhhcdniaaRe1
namespace Go.RE

def Opd.ev (env : PT V) : Opd → Option V
  | .t n => env.get n
  | .c v => some v

def evL (env : PT V) : List Opd → Option (List V)
  | [] => some []
  | x :: xs => match x.ev env with
    | some v => (match evL env xs with | some vs => some (v :: vs) | none => none)
    | none => none

/- ## Numbers -/
def kmax : IntKind → Nat
  | .i8 => 127 | .i16 => 32767 | .i32 => 2147483647 | .i64 => 9223372036854775807
  | .u8 => 255 | .u16 => 65535 | .u32 => 4294967295 | .u64 => 18446744073709551615

def wrapA (k : IntKind) (n : Int) : Int :=
  match n with
  | .ofNat m => bif Nat.ble m (kmax k) then .ofNat m else k.wrap (.ofNat m)
  | .negSucc m => bif k.signed && Nat.ble m (kmax k) then .negSucc m else k.wrap (.negSucc m)

def intBin (op : BinOp) (k : IntKind) (a b : Int) : Option V :=
  match op with
  | .add => some (.int k (wrapA k (a + b)))
  | .sub => some (.int k (wrapA k (a - b)))
  | .mul => some (.int k (wrapA k (a * b)))
  | .quo => if b = 0 then none else some (.int k (wrapA k (a.tdiv b)))
  | .rem => if b = 0 then none else some (.int k (a.tmod b))
  | .and => some (.int k (wrapA k (BitVec.ofInt k.bits a &&& BitVec.ofInt k.bits b).toNat))
  | .or => some (.int k (wrapA k (BitVec.ofInt k.bits a ||| BitVec.ofInt k.bits b).toNat))
  | .xor => some (.int k (wrapA k (BitVec.ofInt k.bits a ^^^ BitVec.ofInt k.bits b).toNat))
  | .andNot => some (.int k (wrapA k (BitVec.ofInt k.bits a &&& ~~~BitVec.ofInt k.bits b).toNat))
  | .eql => some (.bool (a == b))
  | .neq => some (.bool (a != b))
  | .lss => some (.bool (decide (a < b)))
  | .leq => some (.bool (decide (a ≤ b)))
  | .gtr => some (.bool (decide (a > b)))
  | .geq => some (.bool (decide (a ≥ b)))
  | _ => none

def shiftV (op : BinOp) (k : IntKind) (a b : Int) : Option V :=
  if b < 0 then none else
  match op with
  | .shl => some (.int k (wrapA k (a * 2 ^ (min b.toNat k.bits))))
  | .shr => some (.int k (a.fdiv (2 ^ (min b.toNat k.bits))))
  | _ => none

def big : Nat := 1099511627776

def strBin (op : BinOp) (a b : List UInt8) : Option V :=
  match op with
  | .add => bif Nat.ble (a.length + b.length) big then some (.str (a ++ b)) else none
  | .eql => some (.bool (a == b))
  | .neq => some (.bool (!(a == b)))
  | .lss => some (.bool (Op.bytesLess a b))
  | .leq => some (.bool (Op.bytesLess a b || a == b))
  | .gtr => some (.bool (!(Op.bytesLess a b || a == b)))
  | .geq => some (.bool (!Op.bytesLess a b))
  | _ => none

/-- Two values of one cell, told apart by what they hold alone. -/
def plainEq : EqK → V → V → Option Bool
  | .bool, .bool a, .bool b => some (a == b)
  | .int, .int j a, .int k b => if j = k then some (a == b) else none
  | .str, .str a, .str b => some (a == b)
  | _, _, _ => none

def flatEq : List (Nat × EqK) → List V → List V → Option Bool
  | [], _, _ => some true
  | (o, k) :: r, xs, ys => match xs[o]?, ys[o]? with
    | some a, some b => (match plainEq k a b with
      | some true => flatEq r xs ys
      | some false => some false
      | none => none)
    | _, _ => none

def eqV (ek : EqK) (a b : V) : Option Bool :=
  match ek, a, b with
  | .bool, .bool x, .bool y => some (x == y)
  | .nilp, .nilp, .nilp => some true
  | .nilp, .nilp, .ptr _ _ => some false
  | .nilp, .nilp, .cptr _ _ => some false
  | .nilp, .ptr _ _, .nilp => some false
  | .nilp, .cptr _ _, .nilp => some false
  | .nils, .nils, .nils => some true
  | .nils, .nils, .slice .. => some false
  | .nils, .nils, .cslice .. => some false
  | .nils, .slice .., .nils => some false
  | .nils, .cslice .., .nils => some false
  | .nilm, .nilm, .nilm => some true
  | .nilm, .nilm, .map _ => some false
  | .nilm, .map _, .nilm => some false
  | .nilf, .nilf, .nilf => some true
  | .nilf, .nilf, .func .. => some false
  | .nilf, .func .., .nilf => some false
  | .iface false, .nili, .nili => some true
  | .iface _, .nili, .iface _ _ => some false
  | .iface _, .iface _ _, .nili => some false
  | .flat ks, .agg xs, .agg ys => flatEq ks xs ys
  | _, _, _ => none

def binV (op : BinOp) (ek : EqK) (a b : V) : Option V :=
  match op, a, b with
  | .shl, .int k x, .int _ y => shiftV .shl k x y
  | .shr, .int k x, .int _ y => shiftV .shr k x y
  | op, .int k x, .int j y => if k = j then intBin op k x y else none
  | op, .str x, .str y => strBin op x y
  | .eql, a, b => (match eqV ek a b with | some r => some (.bool r) | none => none)
  | .neq, a, b => (match eqV ek a b with | some r => some (.bool (!r)) | none => none)
  | _, _, _ => none

def unV (op : UnOp) (a : V) : Option V :=
  match op, a with
  | .neg, .int k n => some (.int k (wrapA k (0 - n)))
  | .not, .bool b => some (.bool (!b))
  | .xor, .int k n => intBin .xor k (if k.signed then -1 else k.max) n
  | _, _ => none

/- ## Cells -/
def loadRow (n : Option Nat) (cs : List V) (off : Nat) : Option V :=
  match n with
  | none => cs[off]?
  | some n => bif Nat.ble (off + n) cs.length then some (.agg ((cs.drop off).take n)) else none

def spl (cs : List V) (off : Nat) (vs : List V) : List V := cs.take off ++ vs ++ cs.drop (off + vs.length)

def fillV (env : PT V) (cells : List V) : List (Nat × Nat × Opd) → Option (List V)
  | [] => some cells
  | (off, size, x) :: rest => match x.ev env with
    | some v => bif Nat.beq v.cells.length size && Nat.ble (off + v.cells.length) cells.length then fillV env (spl cells off v.cells) rest else none
    | none => none

def asNat (v : V) (most : Nat) : Option Nat :=
  match v with
  | .int _ n => if 0 ≤ n ∧ n ≤ (most : Int) then some n.toNat else none
  | _ => none

def optNat (env : PT V) (x : Option Opd) (dflt most : Nat) : Option Nat :=
  match x with
  | none => some dflt
  | some x => match x.ev env with
    | some v => asNat v most
    | none => none

def byteCell (b : UInt8) : V := .int .u8 b.toNat

def bytesOf : List V → Option (List UInt8)
  | [] => some []
  | .int .u8 n :: r => (match bytesOf r with | some bs => some (UInt8.ofNat n.toNat :: bs) | none => none)
  | _ :: _ => none

/-- The cells that a slice shows, its elements of so many cells each; a string shows its bytes. -/
def sliceCells (s : St) (w : Nat) : V → Option (List V)
  | .nils => some []
  | .slice b off len _ sz _ => match s.row b with
    | some cs => bif Nat.beq sz w && Nat.ble (off + len * sz) cs.length then some ((cs.drop off).take (len * sz)) else none
    | none => none
  | .cslice row off len sz => bif Nat.beq sz w && Nat.ble (off + len * sz) row.length then some ((row.drop off).take (len * sz)) else none
  | _ => none

/-- What is appended, or copied: the cells of a slice, or a string's bytes. -/
def srcCells (s : St) (w : Nat) (str : Bool) (x : V) : Option (List V) :=
  match str, x with
  | true, .str b => bif Nat.beq w 1 then some (b.map byteCell) else none
  | false, x => sliceCells s w x
  | _, _ => none

def lenV : V → Option Nat
  | .nils => some 0
  | .slice _ _ len _ _ _ => some len
  | .cslice _ _ len _ => some len
  | .str b => some b.length
  | _ => none

def lenK (s : St) (k : Nat) : V → Option Nat
  | .str b => bif Nat.beq k 0 then some b.length else none
  | .nils => bif Nat.beq k 1 then some 0 else none
  | .slice _ _ len _ _ _ => bif Nat.beq k 1 then some len else none
  | .cslice _ _ len _ => bif Nat.beq k 1 then some len else none
  | .nilm => bif Nat.beq k 2 then some 0 else none
  | .map m => bif Nat.beq k 2 then (match s.get m with
    | some (.map es _) => some es.length
    | _ => none) else none
  | _ => none

def findE (kk : EqK) (k : V) : List ME → Nat → Option (Option (Nat × V))
  | [], _ => some none
  | e :: es, i => match plainEq kk k e.key with
    | some true => some (some (i, e.val))
    | some false => findE kk k es (i + 1)
    | none => none

def plainKey : EqK → V → Bool
  | .bool, .bool _ => true
  | .int, .int _ _ => true
  | .str, .str _ => true
  | _, _ => false

def max2V : V → V → Option V
  | .int k x, .int j y => if k = j then some (.int k (if y > x then y else x)) else none
  | .str x, .str y => some (.str (if Op.bytesLess x y then y else x))
  | _, _ => none
def min2V : V → V → Option V
  | .int k x, .int j y => if k = j then some (.int k (if y < x then y else x)) else none
  | .str x, .str y => some (.str (if Op.bytesLess x y || x == y then x else y))
  | _, _ => none
def foldV (f : V → V → Option V) : V → List V → Option V
  | a, [] => some a
  | a, b :: r => match f a b with
    | some c => foldV f c r
    | none => none

def lookupV (s : St) (kk : EqK) (zero : V) (ok : Bool) (m k : V) : Option V :=
  match m with
  | .nilm => bif plainKey kk k then some (if ok then .tup [zero, .bool false] else zero) else none
  | .map m => (match s.get m with
    | some (.map es _) => bif plainKey kk k then (match findE kk k es 0 with
      | some (some (_, v)) => some (if ok then .tup [v, .bool true] else v)
      | some none => some (if ok then .tup [zero, .bool false] else zero)
      | none => none) else none
    | _ => none)
  | _ => none

def evS (env : PT V) (s : St) : SOp → Option V
  | .mov x => x.ev env
  | .pick c a b => match c.ev env with
    | some (.bool true) => a.ev env
    | some (.bool false) => b.ev env
    | _ => none
  | .load n x => match x.ev env with
    | some (.ptr b off) => (match s.row b with | some cs => loadRow n cs off | none => none)
    | some (.cptr row off) => loadRow n row off
    | _ => none
  | .nilCheck x => match x.ev env with
    | some .nilp => none
    | some .nili => none
    | some .nilf => none
    | v => v
  | .bin op ek x y => match x.ev env, y.ev env with
    | some a, some b => binV op ek a b
    | _, _ => none
  | .un op x => match x.ev env with
    | some a => unV op a
    | none => none
  | .convInt k x => match x.ev env with
    | some (.int _ n) => some (.int k (wrapA k n))
    | _ => none
  | .convId x => match x.ev env with
    | some (.str b) => some (.str b)
    | _ => none
  | .toStr x => match x.ev env with
    | some v => (match sliceCells s 1 v with
      | some cs => (match bytesOf cs with | some bs => some (.str bs) | none => none)
      | none => none)
    | none => none
  | .mkIface t x => match x.ev env with
    | some v => some (.iface t v)
    | none => none
  | .mkFunc f first captured => match evL env first, evL env captured with
    | some a, some b => some (.func f a b)
    | _, _ => none
  | .build zero parts => match fillV env zero parts with
    | some cs => some (.agg cs)
    | none => none
  | .sliceStr x lo hi => match x.ev env with
    | some (.str b) => (match optNat env hi b.length b.length with
      | some h => (match optNat env lo 0 h with
        | some l => some (.str ((b.take h).drop l))
        | none => none)
      | none => none)
    | _ => none
  | .slice w x lo hi mx => match x.ev env with
    | some .nils => (match optNat env mx 0 0 with
      | some m => (match optNat env hi 0 m with
        | some h => (match optNat env lo 0 h with
          | some _ => some .nils
          | none => none)
        | none => none)
      | none => none)
    | some (.slice b off len cap sz ex) => (match optNat env mx cap cap with
      | some m => (match optNat env hi len m with
        | some h => (match optNat env lo 0 h with
          | some l => bif Nat.beq w sz then some (.slice b (off + l * sz) (h - l) (m - l) sz (ex || mx.isSome)) else none
          | none => none)
        | none => none)
      | none => none)
    | some (.cslice row off len sz) => (match mx, optNat env hi len len with
      | none, some h => (match optNat env lo 0 h with
        | some l => bif Nat.beq w sz then some (.cslice row (off + l * sz) (h - l) sz) else none
        | none => none)
      | _, _ => none)
    | _ => none
  | .sliceArr n sz x lo hi => match x.ev env with
    | some (.ptr b off) => (match optNat env hi n n with
      | some h => (match optNat env lo 0 h with
        | some l => (match s.row b with
          | some cs => bif Nat.ble (off + n * sz) cs.length then some (.slice b (off + l * sz) (h - l) (n - l) sz true) else none
          | none => none)
        | none => none)
      | none => none)
    | _ => none
  | .fieldAddr off x => match x.ev env with
    | some (.ptr b o) => some (.ptr b (o + off))
    | some (.cptr row o) => some (.cptr row (o + off))
    | _ => none
  | .field off n x => match x.ev env with
    | some (.agg cs) => loadRow n cs off
    | _ => none
  | .indexAddr sz x i => match x.ev env, i.ev env with
    | some (.slice b off len _ z _), some (.int _ n) => if 0 ≤ n ∧ n < (len : Int) then (bif Nat.beq z sz then some (.ptr b (off + n.toNat * sz)) else none) else none
    | some (.cslice row off len z), some (.int _ n) => if 0 ≤ n ∧ n < (len : Int) then (bif Nat.beq z sz then some (.cptr row (off + n.toNat * sz)) else none) else none
    | _, _ => none
  | .indexArr len sz x i => match x.ev env, i.ev env with
    | some (.ptr b off), some (.int _ n) => if 0 ≤ n ∧ n < (len : Int) then some (.ptr b (off + n.toNat * sz)) else none
    | some (.cptr row off), some (.int _ n) => if 0 ≤ n ∧ n < (len : Int) then some (.cptr row (off + n.toNat * sz)) else none
    | _, _ => none
  | .index x i => match x.ev env, i.ev env with
    | some (.str b), some (.int _ n) => if 0 ≤ n then (match b[n.toNat]? with | some c => some (.int .u8 c.toNat) | none => none) else none
    | _, _ => none
  | .lookup kk zero ok x i => match x.ev env, i.ev env with
    | some m, some k => lookupV s kk zero ok m k
    | _, _ => none
  | .extract i x => match x.ev env with
    | some (.tup vs) => vs[i]?
    | _ => none
  | .len k x => match x.ev env with
    | some v => (match lenK s k v with | some n => some (.int .i64 n) | none => none)
    | none => none
  | .cap x => match x.ev env with
    | some .nils => some (.int .i64 0)
    | some (.slice _ _ _ cap _ true) => some (.int .i64 cap)
    | _ => none
  | .max xs => match evL env xs with
    | some (v :: vs) => foldV max2V v vs
    | _ => none
  | .min xs => match evL env xs with
    | some (v :: vs) => foldV min2V v vs
    | _ => none
  | .assertTo t zero x => match x.ev env with
    | some .nili => some (.tup [zero, .bool false])
    | some (.iface u v) => some (if u = t then .tup [v, .bool true] else .tup [zero, .bool false])
    | _ => none

/-- Writes cells into a row. -/
def St.write (s : St) (b off : Nat) (vs : List V) : Option St :=
  match s.row b with
  | some cs => bif Nat.ble (off + vs.length) cs.length && vs.all V.one then some (s.put b (.row (spl cs off vs))) else none
  | none => none

def modME (i : Nat) (f : ME → ME) : List ME → List ME
  | [] => []
  | e :: es => match i with
    | 0 => f e :: es
    | j + 1 => e :: modME j f es
def eraseME (i : Nat) : List ME → List ME
  | [] => []
  | e :: es => match i with
    | 0 => es
    | j + 1 => e :: eraseME j es

def repZero (zero : List V) : Nat → List V
  | 0 => []
  | n + 1 => zero ++ repZero zero n

def appendV (s : St) (sz bytes : Nat) (str : Bool) (a x : V) : Option (V × St) :=
  match srcCells s sz str x, lenV x with
  | some new, some k =>
    bif new.all V.one then
    (match a with
    | .nils =>
      bif Nat.beq k 0 then some (.nils, s) else
      bif Nat.ble (k * bytes) big && Nat.ble k big then some (.slice s.next 0 k k sz false, s.alloc (.row new)) else none
    | .cslice row off len z => bif Nat.beq k 0 then some (.cslice row off len z, s) else none
    | .slice b off len cap z ex =>
      bif Nat.beq z sz && Nat.ble ((len + k) * bytes) big && Nat.ble (len + k) big then
        (bif Nat.ble (len + k) cap then
          (bif Nat.beq k 0 then some (.slice b off len cap z ex, s) else
          (match s.write b (off + len * sz) new with
          | some s' => some (.slice b off (len + k) cap z ex, s')
          | none => none))
        else
          (match sliceCells s sz (.slice b off len cap z ex) with
          | some old =>
            let s0 := bif ex then s else s.put b .dead
            some (.slice s.next 0 (len + k) (len + k) sz false, s0.alloc (.row (old ++ new)))
          | none => none))
      else none
    | _ => none)
    else none
  | _, _ => none

def copyV (s : St) (sz : Nat) (str : Bool) (d x : V) : Option (V × St) :=
  match srcCells s sz str x, lenV x with
  | some cs, some k =>
    (match d with
    | .nils => some (.int .i64 0, s)
    | .slice b off len _ z _ => bif Nat.beq z sz then
        (match s.write b off (cs.take ((min k len) * sz)) with
        | some s' => some (.int .i64 (min k len : Nat), s')
        | none => none)
      else none
    | _ => none)
  | _, _ => none

/-- What is made, and what stands for it, by its name. -/
def evM (env : PT V) : MOp → Option (Ob × (Nat → V))
  | .alloc zero => some (.row zero, fun n => .ptr n 0)
  | .box x => match x.ev env with
    | some v => some (.row v.cells, fun n => .ptr n 0)
    | none => none
  | .buildSlice sz len zero parts => match fillV env (repZero zero len) parts with
    | some cs => some (.row cs, fun n => .slice n 0 len len sz true)
    | none => none
  | .makeMap => some (.map [] 0, fun n => .map n)
  | .makeSlice sz bytes zero len cap => match len.ev env, cap.ev env with
    | some l, some c => (match asNat c big with
      | some c => (match asNat l c with
        | some l => bif Nat.ble (c * bytes) big then some (.row (repZero zero c), fun n => .slice n 0 l c sz true) else none
        | none => none)
      | none => none)
    | _, _ => none
  | .toBytes x => match x.ev env with
    | some (.str b) => some (.row (b.map byteCell), fun n => .slice n 0 b.length b.length 1 false)
    | _ => none

def evH (env : PT V) (s : St) : HOp → Option (V × St)
  | .store n a x => match a.ev env, x.ev env with
    | some (.ptr b off), some v => bif Nat.beq v.cells.length n then (match s.write b off v.cells with | some s' => some (.tup [], s') | none => none) else none
    | _, _ => none
  | .mapUpdate kk m k x => match m.ev env, k.ev env, x.ev env with
    | some (.map m), some k, some v => (match s.get m with
      | some (.map es clock) => bif plainKey kk k then (match findE kk k es 0 with
        | some (some (i, _)) => some (.tup [], s.put m (.map (modME i (fun e => { e with key := k, val := v }) es) clock))
        | some none => some (.tup [], s.put m (.map (es ++ [{ key := k, val := v, born := clock }]) (clock + 1)))
        | none => none) else none
      | _ => none)
    | _, _, _ => none
  | .delete kk m k => match m.ev env, k.ev env with
    | some .nilm, some k => bif plainKey kk k then some (.tup [], s) else none
    | some (.map m), some k => (match s.get m with
      | some (.map es clock) => bif plainKey kk k then (match findE kk k es 0 with
        | some (some (i, _)) => some (.tup [], s.put m (.map (eraseME i es) clock))
        | some none => some (.tup [], s)
        | none => none) else none
      | _ => none)
    | _, _ => none
  | .append sz bytes str a x => match a.ev env, x.ev env with
    | some a, some x => appendV s sz bytes str a x
    | _, _ => none
  | .copy sz str d x => match d.ev env, x.ev env with
    | some d, some x => copyV s sz str d x
    | _, _ => none
  | .clear _ _ _ => none
  | .range x => match x.ev env with
    | some .nilm => some (.ptr s.next 0, s.alloc (.miter none 0 [] 0))
    | some (.map m) => (match s.get m with
      | some (.map _ clock) => some (.ptr s.next 0, s.alloc (.miter (some m) clock [] clock))
      | _ => none)
    | _ => none

section
variable {R : Type} [Ans R]

def mapCands (es : List ME) (since : Nat) (seen : List Nat) : List (Option ME) :=
  let left := es.filter fun e => !seen.contains e.born
  let old := left.filter fun e => Nat.blt e.born since
  let new := left.filter fun e => Nat.ble since e.born
  (bif old.isEmpty then [none] else []) ++ (old ++ new).map some

/-- A step of a range over a map: whichever comes next. -/
def evNext (s : St) (b : Nat) (k : V → St → R) : R :=
  match s.get b with
  | some (.miter none _ _ _) => k (.tup [.bool false]) s
  | some (.miter (some m) since seen last) => (match s.get m with
    | some (.map es clock) =>
      bif !seen.isEmpty && !es.isEmpty && es.all (fun e => Nat.ble last e.born) then Ans.fail else
      Ans.all (mapCands es since seen).length fun i => match (mapCands es since seen)[i]? with
        | some (some e) => k (.tup [.bool true, e.key, e.val]) (s.put b (.miter (some m) since (seen ++ [e.born]) clock))
        | some none => k (.tup [.bool false]) s
        | none => Ans.fail
    | _ => Ans.fail)
  | _ => Ans.fail

def evOp (M : Nat → String → Option Nat) (F : Nat → List V → St → (V → St → R) → R) (env : PT V) (s : St) (o : COp) (k : V → St → R) : R :=
  match o with
  | .s o => (match evS env s o with | some v => k v s | none => Ans.fail)
  | .m o => (match evM env o with | some (ob, f) => k (f s.next) (s.alloc ob) | none => Ans.fail)
  | .h o => (match evH env s o with | some (v, s') => k v s' | none => Ans.fail)
  | .call f args => (match f.ev env, evL env args with
    | some (.func f first captured), some vs => F f (first ++ vs ++ captured) s k
    | _, _ => Ans.fail)
  | .invoke name x args => (match x.ev env, evL env args with
    | some (.iface t v), some vs => (match M t name with
      | some f => F f (v :: vs) s k
      | none => Ans.fail)
    | _, _ => Ans.fail)
  | .next _ => Ans.fail
  | .bad => Ans.fail

def guardEv (g : Option (Nat × Bool)) (env : PT V) : Option Bool :=
  match g with
  | none => some true
  | some (t, want) => match env.get t with
    | some (.bool b) => some (b == want)
    | some _ => some false
    | none => none

def putD (dst : Option Nat) (v : V) (env : PT V) : PT V :=
  match dst with
  | some d => env.set d v
  | none => env

/-- A region in the order of its text. -/
def evSeq (M : Nat → String → Option Nat) (F : Nat → List V → St → (V → St → R) → R) : List COper → PT V → St → (PT V → St → R) → R
  | [], env, s, k => k env s
  | o :: r, env, s, k => match guardEv o.guard env with
    | some true => evOp M F env s o.op fun v s' => evSeq M F r (putD o.dst v env) s' k
    | some false => evSeq M F r (putD o.dst (.tup []) env) s k
    | none => Ans.fail

def COper.small (o : COper) : Bool := match o.op with | .s _ => true | .m _ => true | _ => false

def within (a b : Nat) : Bool := Nat.beq (Nat.land a b) a

abbrev Recs := List (Nat × SOp × PT V × V)

/-- Takes all small operations whose predecessors are done: what is left, what is done, the temporaries, memory, and what must be looked at again. -/
def absorb : List (Nat × COper) → Nat → PT V → St → List (Nat × COper) → Recs → Option (List (Nat × COper) × Nat × PT V × St × Recs)
  | [], done, env, s, left, recs => some (left.reverse, done, env, s, recs)
  | (i, o) :: r, done, env, s, left, recs =>
    bif o.small && within o.preds done then
      (match guardEv o.guard env with
      | some true => (match o.op with
        | .s op => (match evS env s op with
          | some v => absorb r (Nat.lor done (2 ^ i)) (putD o.dst v env) s left ((i, op, env, v) :: recs)
          | none => none)
        | .m op => (match evM env op with
          | some (ob, f) => absorb r (Nat.lor done (2 ^ i)) (putD o.dst (f s.next) env) (s.alloc ob) left recs
          | none => none)
        | _ => none)
      | some false => absorb r (Nat.lor done (2 ^ i)) (putD o.dst (.tup []) env) s left recs
      | none => none)
    else absorb r done env s ((i, o) :: left) recs

def splitBig : List (Nat × COper) → List (Nat × COper) → Option (Nat × COper × List (Nat × COper))
  | _, [] => none
  | pre, (i, o) :: r => bif o.small then splitBig ((i, o) :: pre) r else some (i, o, pre.reverse ++ r)

def recheck (s : St) (preds : Nat) : Recs → R → R
  | [], r => r
  | (i, op, env, v) :: rest, r =>
    bif Nat.testBit preds i then recheck s preds rest r
    else match evS env s op with
      | some u => Ans.chk u v (recheck s preds rest r)
      | none => Ans.fail

def keepRecs (preds : Nat) (l : Recs) : Recs := l.filter fun x => !Nat.testBit preds x.1

/-- A region whose order is open: what is small is taken as soon as it may be, and must be the same as long as it might still come; what is not comes in one order. -/
def evDraw (M : Nat → String → Option Nat) (F : Nat → List V → St → (V → St → R) → R) : Nat → List (Nat × COper) → Nat → PT V → St → Recs → (PT V → St → R) → R
  | 0, _, _, _, _, _, _ => Ans.fail
  | n + 1, todo, done, env, s, recs, k =>
    match absorb todo done env s [] recs with
    | none => Ans.fail
    | some (todo, done, env, s, recs) =>
      match splitBig [] todo with
      | none => (match todo with | [] => k env s | _ => Ans.fail)
      | some (i, o, rest) =>
        bif within o.preds done && rest.all (fun x => x.2.small || Nat.testBit x.2.preds i) then
          (match guardEv o.guard env with
          | some true => evOp M F env s o.op fun v s' => recheck s' o.preds recs
              (evDraw M F n rest (Nat.lor done (2 ^ i)) (putD o.dst v env) s' (keepRecs o.preds recs) k)
          | some false => evDraw M F n rest (Nat.lor done (2 ^ i)) (putD o.dst (.tup []) env) s recs k
          | none => Ans.fail)
        else Ans.fail

def numbered : List COper → Nat → List (Nat × COper)
  | [], _ => []
  | o :: r, i => (i, o) :: numbered r (i + 1)

def initEnv : List V → Nat → PT V → PT V
  | [], _, env => env
  | v :: vs, i, env => initEnv vs (i + 1) (env.set i v)

def resV (env : PT V) (s : St) : CRes → Option V
  | .t n => env.get n
  | .cell a n => match env.get a with
    | some (.ptr b off) => (match s.row b with | some cs => loadRow n cs off | none => none)
    | _ => none
def resL (env : PT V) (s : St) : List CRes → Option (List V)
  | [] => some []
  | r :: rs => match resV env s r with
    | some v => (match resL env s rs with | some vs => some (v :: vs) | none => none)
    | none => none
def resAll (env : PT V) (s : St) (rs : List CRes) : Option V :=
  match resL env s rs with
  | some [v] => some v
  | some vs => some (.tup vs)
  | none => none

/-- The code of a function, at some fuel. -/
def evC (C : Nat → Option CFunc) (M : Nat → String → Option Nat) : Nat → CCode → PT V → St → (Ex → PT V → St → R) → R
  | 0, _, _, _, _ => Ans.fail
  | n + 1, c, env, s, k =>
    let F : Nat → List V → St → (V → St → R) → R := fun f args s k => match C f with
      | none => Ans.fail
      | some fn =>
        bif Nat.ble args.length fn.ntmps then
          evC C M n fn.body (initEnv args 0 .e) s fun e env s => match e with
            | .exit _ => Ans.fail
            | _ => (match resAll env s fn.results with | some v => k v s | none => Ans.fail)
        else Ans.fail
    match c with
    | .skip => k .normal env s
    | .region ops => evSeq M F ops env s fun env s => k .normal env s
    | .draw ops => evDraw M F (ops.length + 1) (numbered ops 0) 0 env s [] fun env s => k .normal env s
    | .seq a b => evC C M n a env s fun e env s => match e with
      | .normal => evC C M n b env s k
      | .exit i => k (.exit i) env s
      | .ret => k .ret env s
    | .cond x a b => (match x.ev env with
      | some (.bool true) => evC C M n a env s k
      | some (.bool false) => evC C M n b env s k
      | _ => Ans.fail)
    | .block id b => evC C M n b env s fun e env s => match e with
      | .normal => k .normal env s
      | .exit i => bif Nat.beq i id then k .normal env s else k (.exit i) env s
      | .ret => k .ret env s
    | .loop b => evC C M n b env s fun e env s => match e with
      | .normal => evC C M n (.loop b) env s k
      | .exit i => k (.exit i) env s
      | .ret => k .ret env s
    | .exit i => k (.exit i) env s
    | .ret => k .ret env s
    | .bad => Ans.fail

/-- A call. -/
def evF (C : Nat → Option CFunc) (M : Nat → String → Option Nat) (n f : Nat) (args : List V) (s : St) (k : V → St → R) : R :=
  match C f with
  | none => Ans.fail
  | some fn =>
    bif Nat.ble args.length fn.ntmps then
      evC C M n fn.body (initEnv args 0 .e) s fun e env s => match e with
        | .exit _ => Ans.fail
        | _ => (match resAll env s fn.results with | some v => k v s | none => Ans.fail)
    else Ans.fail
end
end Go.RE
