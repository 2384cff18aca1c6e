/- From the code of a program to the code that the evaluator runs. -/
import Derived.Test.YtnepmmjhhcdniaaRe2
namespace Go.RE

def ofValue0 : Value → Option V
  | .bool b => some (.bool b)
  | .int k n => some (.int k n)
  | .string s => some (.str s.data.toList)
  | .pointer none => some .nilp
  | .slice none 0 0 => some .nils
  | .map none => some .nilm
  | .nilFunc => some .nilf
  | .nilIface => some .nili
  | _ => none

def ofL (f : Value → Option V) : List Value → Option (List V)
  | [] => some []
  | x :: xs => match f x with
    | some v => (match ofL f xs with | some vs => some (v :: vs) | none => none)
    | none => none

def ofValue : Value → Option V
  | .agg cs => (match ofL ofValue0 cs.toList with | some l => some (.agg l) | none => none)
  | .iface t v => (match ofValue0 v with | some x => some (.iface t x) | none => none)
  | v => ofValue0 v

def opd : Operand → Option Opd
  | .tmp t => some (.t t)
  | .const v => (match ofValue v with | some x => some (.c x) | none => none)
  | .func f => some (.c (.func f [] []))
  | .global _ => none

def opds : List Operand → Option (List Opd)
  | [] => some []
  | x :: xs => match opd x with
    | some v => (match opds xs with | some vs => some (v :: vs) | none => none)
    | none => none

def opdO : Option Operand → Option (Option Opd)
  | none => some none
  | some x => match opd x with
    | some v => some (some v)
    | none => none

section
variable (P : Program)

def zeroOf (t : TypeId) : Option V := match P.info? t with
  | some i => (match i.zero with | some v => ofValue v | none => none)
  | none => none

def sizeO (t : TypeId) : Option Nat := match P.info? t with
  | some i => some i.size
  | none => none

def bytesO (t : TypeId) : Option Nat := match P.info? t with
  | some i => some i.bytes
  | none => none

/-- How a value of this type lies in memory: one cell, or so many. -/
def spread (t : TypeId) : Option (Option Nat) := match P.underlying t with
  | some (.struct _) => (match sizeO P t with | some n => some (some n) | none => none)
  | some (.array _ _) => (match sizeO P t with | some n => some (some n) | none => none)
  | some _ => some none
  | none => none

def isConstOperand : Operand → Bool
  | .const _ => true
  | _ => false

def flatK : List Field → Option (List (Nat × EqK))
  | [] => some []
  | f :: fs => bif f.name == "_" then none else
    match P.underlying f.type, flatK fs with
    | some .bool, some r => some ((f.offset, .bool) :: r)
    | some (.int _), some r => some ((f.offset, .int) :: r)
    | some .string, some r => some ((f.offset, .str) :: r)
    | _, _ => none

def eqK (op : BinOp) (t : TypeId) (x y : Operand) : EqK :=
  match op with
  | .eql | .neq =>
    (match P.underlying t with
    | some .bool => .bool
    | some (.int _) => .int
    | some .string => .str
    | some (.pointer _) => .nilp
    | some (.slice _) => .nils
    | some (.map _ _) => .nilm
    | some (.func _ _ _) => .nilf
    | some (.interface _) => .iface (!(isConstOperand x || isConstOperand y))
    | some (.struct fs) => (match flatK P fs.toList with
      | some ks => bif P.stoodInHeld t || P.eqGuardType P.depth t then .no else .flat ks
      | none => .no)
    | _ => .no)
  | _ => .no

def places : List Field → Option (List (Nat × Nat))
  | [] => some []
  | f :: fs => match sizeO P f.type, places fs with
    | some n, some r => some ((f.offset, n) :: r)
    | _, _ => none

def partsBy (place : Nat → Option (Nat × Nat)) : List (Nat × Operand) → Option (List (Nat × Nat × Opd))
  | [] => some []
  | (i, x) :: r => match place i, opd x, partsBy place r with
    | some (o, n), some x, some r => some ((o, n, x) :: r)
    | _, _, _ => none

def basicKey (t : TypeId) : Option EqK := match P.underlying t with
  | some .bool => some .bool
  | some (.int _) => some .int
  | some .string => some .str
  | _ => none

def isU8 (t : TypeId) : Bool := match P.underlying t with
  | some (.int .u8) => true
  | _ => false

def okSlice (t : TypeId) : Option TypeId := match P.underlying t with
  | some (.slice e) => some e
  | _ => none

def cbuiltin (b : Builtin) (argTypes : List TypeId) (args : List Opd) : COp :=
  match b, argTypes, args with
  | .len, t :: _, x :: _ => (match P.underlying t with
    | some .string => .s (.len 0 x)
    | some (.slice _) => .s (.len 1 x)
    | some (.map _ _) => .s (.len 2 x)
    | _ => .bad)
  | .cap, t :: _, x :: _ => (match P.underlying t with
    | some (.slice _) => .s (.cap x)
    | _ => .bad)
  | .max, _, xs => .s (.max xs)
  | .min, _, xs => .s (.min xs)
  | .append, [t, u], [a, x] => (match okSlice P t, P.underlying u with
    | some e, some ud => (match ud, sizeO P e, bytesO P e, zeroOf P e with
      | .slice _, some sz, some bs, some z => bif Nat.beq z.cells.length sz then .h (.append sz bs false a x) else .bad
      | .string, some sz, some bs, some z => bif Nat.beq z.cells.length sz then .h (.append sz bs true a x) else .bad
      | _, _, _, _ => .bad)
    | _, _ => .bad)
  | .copy, [t, u], [d, x] => (match okSlice P t, P.underlying u with
    | some e, some ud => (match ud, sizeO P e with
      | .slice _, some sz => .h (.copy sz false d x)
      | .string, some sz => .h (.copy sz true d x)
      | _, _ => .bad)
    | _, _ => .bad)
  | .delete, t :: _, [m, k] => (match P.underlying t with
    | some (.map kt _) => (match basicKey P kt with | some kk => .h (.delete kk m k) | none => .bad)
    | _ => .bad)
  | _, _, _ => .bad

def cop (o : Op) : COp :=
  match o with
  | .move x | .assign x => (match opd x with | some x => .s (.mov x) | none => .bad)
  | .pick c a b => (match opd c, opd a, opd b with | some c, some a, some b => .s (.pick c a b) | _, _, _ => .bad)
  | .alloc e => (match zeroOf P e with | some z => .m (.alloc z.cells) | none => .bad)
  | .box _ x => (match opd x with | some x => .m (.box x) | none => .bad)
  | .build t parts => (match P.underlying t with
    | some (.struct fs) => (match zeroOf P t, places P fs.toList with
      | some z, some ps => (match partsBy (fun i => ps[i]?) parts.toList with
        | some l => .s (.build z.cells l)
        | none => .bad)
      | _, _ => .bad)
    | _ => .bad)
  | .buildSlice t len parts => (match okSlice P t with
    | some e => (match sizeO P e, zeroOf P e with
      | some sz, some z => bif Nat.ble (len * sz) 16777216 && Nat.beq z.cells.length sz && Nat.ble 1 sz then
          (match partsBy (fun i => some (i * sz, sz)) parts.toList with
          | some l => .m (.buildSlice sz len z.cells l)
          | none => .bad)
        else .bad
      | _, _ => .bad)
    | none => .bad)
  | .load t a => (match spread P t, opd a with | some n, some a => .s (.load n a) | _, _ => .bad)
  | .store t a x => (match sizeO P t, opd a, opd x with | some n, some a, some x => .h (.store n a x) | _, _, _ => .bad)
  | .nilCheck x => (match opd x with | some x => .s (.nilCheck x) | none => .bad)
  | .binOp op t x y _ => (match opd x, opd y with | some a, some b => .s (.bin op (eqK P op t x y) a b) | _, _ => .bad)
  | .unOp op _ x => (match opd x with | some x => .s (.un op x) | none => .bad)
  | .convert src dst x => (match P.underlying src, P.underlying dst, opd x with
    | some _, some (.int k), some x => .s (.convInt k x)
    | some .string, some .string, some x => .s (.convId x)
    | some (.slice e), some .string, some x => bif isU8 P e then .s (.toStr x) else .bad
    | some .string, some (.slice e), some x => bif isU8 P e then .m (.toBytes x) else .bad
    | _, _, _ => .bad)
  | .makeInterface t x => (match P.underlying t, opd x with
    | some (.interface _), _ => .bad
    | some _, some x => .s (.mkIface t x)
    | _, _ => .bad)
  | .makeFunc (.func f) first captured => (match opds first.toList, opds captured.toList with
    | some a, some b => .s (.mkFunc f a b)
    | _, _ => .bad)
  | .makeMap t r => (match P.underlying t, r with
    | some (.map _ _), none => .m .makeMap
    | some (.map _ _), some (.const (.int _ _)) => .m .makeMap
    | _, _ => .bad)
  | .makeSlice t l c => (match okSlice P t with
    | some e => (match sizeO P e, bytesO P e, zeroOf P e, opd l, opd c with
      | some sz, some bs, some z, some l, some c => bif Nat.beq z.cells.length sz && Nat.ble 1 sz then .m (.makeSlice sz bs z.cells l c) else .bad
      | _, _, _, _, _ => .bad)
    | none => .bad)
  | .slice t x lo hi mx => (match P.underlying t, opd x, opdO lo, opdO hi, opdO mx with
    | some .string, some x, some lo, some hi, some none => .s (.sliceStr x lo hi)
    | some (.slice e), some x, some lo, some hi, some mx => (match sizeO P e with
      | some sz => bif mx.isSome && !hi.isSome then .bad else .s (.slice sz x lo hi mx)
      | none => .bad)
    | some (.array n e), some x, some lo, some hi, some none => (match sizeO P e with
      | some sz => .s (.sliceArr n sz x lo hi)
      | none => .bad)
    | _, _, _, _, _ => .bad)
  | .fieldAddr t x f => (match P.underlying t, opd x with
    | some (.struct fs), some x => (match fs[f]? with
      | some f => (match sizeO P f.type with
        | some (_ + 1) => .s (.fieldAddr f.offset x)
        | _ => .bad)
      | none => .bad)
    | _, _ => .bad)
  | .field t x f => (match P.underlying t, opd x with
    | some (.struct fs), some x => (match fs[f]? with
      | some f => (match spread P f.type with
        | some n => .s (.field f.offset n x)
        | none => .bad)
      | none => .bad)
    | _, _ => .bad)
  | .indexAddr t x i => (match P.underlying t, opd x, opd i with
    | some (.slice e), some x, some i => (match sizeO P e with | some sz => .s (.indexAddr sz x i) | none => .bad)
    | some (.array n e), some x, some i => (match sizeO P e with | some sz => .s (.indexArr n sz x i) | none => .bad)
    | _, _, _ => .bad)
  | .index t x i => (match P.underlying t, opd x, opd i with
    | some .string, some x, some i => .s (.index x i)
    | _, _, _ => .bad)
  | .lookup t x i ok => (match P.underlying t, opd x, opd i with
    | some (.map k e), some x, some i => (match zeroOf P e, basicKey P k with
      | some z, some kk => .s (.lookup kk z ok x i)
      | _, _ => .bad)
    | _, _, _ => .bad)
  | .mapUpdate t m k x | .insert t m k x => (match P.underlying t, opd m, opd k, opd x with
    | some (.map kt _), some m, some k, some x => (match basicKey P kt with | some kk => .h (.mapUpdate kk m k x) | none => .bad)
    | _, _, _, _ => .bad)
  | .extract x i => (match opd x with | some x => .s (.extract i x) | none => .bad)
  | .typeAssert x _ t true => (match P.underlying t, opd x, zeroOf P t with
    | some (.interface _), _, _ => .bad
    | some _, some x, some z => .s (.assertTo t z x)
    | _, _, _ => .bad)
  | .range t x => (match P.underlying t, opd x with
    | some (.map _ _), some x => .h (.range x)
    | _, _ => .bad)
  | .next x false => (match opd x with | some x => .next x | none => .bad)
  | .call c => (match c.callee, opds c.args.toList with
    | .value f, some args => (match opd f with | some f => .call f args | none => .bad)
    | .builtin b, some args => cbuiltin P b c.argTypes.toList args
    | .invoke r m, some args => (match opd r with | some r => .invoke m r args | none => .bad)
    | _, none => .bad)
  | _ => .bad

/-- All that must run before an operation, as bits; 'acc': those of the operations ahead of it. -/
def predsOf (acc : List Nat) (o : Oper) : Nat :=
  o.after.toList.foldl (fun s e => bif Region.binds .any e then Nat.lor (Nat.lor s (2 ^ e.on)) (acc.getD e.on 0) else s) 0

def guardOf (ops : List Oper) (o : Oper) : Option (Option (Nat × Bool)) :=
  match o.guard with
  | none => some none
  | some (j, want) => match ops[j]? with
    | some p => (match p.dst with | some d => some (some (d, want)) | none => none)
    | none => none

def cops (n : Nat) (all : List Oper) : List Oper → List Nat → Option (List COper)
  | [], _ => some []
  | o :: r, acc =>
    match guardOf all o, cops n all r (acc ++ [predsOf acc o]) with
    | some g, some l =>
      bif (match o.dst with | some d => Nat.blt d n | none => true) then some ({ dst := o.dst, op := cop P o.op, guard := g, preds := predsOf acc o } :: l) else none
    | _, _ => none

def tmpsIn (o : Oper) (all : List Oper) : List Nat :=
  (o.op.operands.toList.filterMap fun | .tmp t => some t | _ => none) ++
  (match o.guard with
   | some (g, _) => ((all[g]?).bind (·.dst)).toList
   | none => [])

/-- No two operations write one temporary; who reads what another one writes comes on a sure side of it; what must come before stands before. -/
def drawOk (all : List Oper) (cs : List COper) : Bool :=
  (List.range all.length).all fun i =>
    (match all[i]?, cs[i]? with
    | some o, some _ =>
      o.after.toList.all (fun e => !Region.binds .any e || Nat.blt e.on i) &&
      (List.range all.length).all (fun j => Nat.beq i j ||
        (match all[j]?, cs[j]? with
        | some p, some d =>
          (match p.dst with
          | none => true
          | some t =>
            (match o.dst with | some u => !Nat.beq t u | none => true) &&
            (!(tmpsIn o all).elem t || Nat.testBit ((cs.getD i default).preds) j || Nat.testBit d.preds i))
        | _, _ => true))
    | _, _ => false)

def ccode (n : Nat) : Code → CCode
  | .skip => .skip
  | .region _ ops draw => (match cops P n ops.toList ops.toList [] with
    | some l => bif draw then (bif drawOk ops.toList l then .draw l else .bad) else .region l
    | none => .bad)
  | .seq a b => .seq (ccode n a) (ccode n b)
  | .cond c a b => (match opd c with | some c => .cond c (ccode n a) (ccode n b) | none => .bad)
  | .block id b => .block id (ccode n b)
  | .loop b => .loop (ccode n b)
  | .exit id => .exit id
  | .ret => .ret
  | .scope b => .seq (ccode n b) .skip
  | .label _ => .skip
  | _ => .bad

def cress : List ResultVar → Option (List CRes)
  | [] => some []
  | .tmp t :: r => (match cress r with | some l => some (.t t :: l) | none => none)
  | .cell a t :: r => (match spread P t, cress r with | some n, some l => some (.cell a n :: l) | _, _ => none)

def cfun (f : Nat) : Option CFunc :=
  match P.funcs[f]? with
  | none => none
  | some fn => match fn.body with
    | none => none
    | some b => bif fn.name == "runtime.NumGoroutine" then none else
      match cress P fn.results.toList with
      | some rs => some { ntmps := fn.ntmps, results := rs, body := ccode P fn.ntmps b }
      | none => none

/-- Which function a method is, of a type that has it by itself. -/
def methodOf (t : Nat) (name : String) : Option Nat :=
  match P.info? t with
  | none => none
  | some i => match i.methods.find? (·.name == name) with
    | none => none
    | some m => bif m.path.isEmpty then (match m.func, P.underlying t with
      | some (f, true), some (.pointer _) => some f
      | some (_, false), some (.pointer _) => none
      | some (f, false), some _ => some f
      | _, _ => none) else none
end
end Go.RE
