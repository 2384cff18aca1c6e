/- A deterministic evaluator (in continuation form) for the code of a program: values, heap, compiled code. No theorem here speaks of the model yet. -/
import GoSem.Step
import Derived.Calls
import Derived.Orders
import Derived.Laws.World
import Derived.Laws.Cells
import Derived.Deep.AppendSrc
import Derived.Laws.BytesString
import Derived.Laws.StructEq
set_option linter.unusedVariables false
set_option linter.unusedSimpArgs false
namespace Go.RE
abbrev ay:= @Option.some.injEq
abbrev aO:= @Prod.mk.injEq
abbrev cz:= @List.getElem?_eq_some_iff
abbrev bS:= @Nat.eq_of_beq_eq_true
abbrev aM:= @Nat.le_refl
abbrev dm:= @List.getElem?_eq_getElem
abbrev cm:= @Bool.and_eq_true
abbrev hY:= @Nat.testBit_eq_decide_div_mod_eq
abbrev gf:= @List.getElem?_append_right
abbrev gD:= @List.getElem?_append_left
abbrev ja:= @Nat.le_of_ble_eq_true
abbrev ki:= @List.mem_cons_of_mem
abbrev gZ:= @List.getElem?_set
abbrev pQ:= @List.eq_nil_of_length_eq_zero
abbrev k7:= @List.mem_cons_self
abbrev pI:= @List.take_of_length_le
abbrev mF:= @Bool.false_eq_true
abbrev tD:= @Nat.ble_eq_true_of_le
abbrev o7:= @Nat.mul_le_mul_right
abbrev oC:= @List.length_append
abbrev ow:= @List.append_assoc
abbrev o4:= @Nat.lt_of_lt_of_le
abbrev o3:= @List.getElem?_take
abbrev zo:= @Array.getElem?_eq_none
abbrev s9:= @Nat.add_sub_cancel_left
abbrev tN:= @List.drop_of_length_le
abbrev vT:= @List.drop_eq_getElem_cons
abbrev vS:= @Array.getElem?_eq_getElem
abbrev oE:= @Nat.le_max_left
abbrev fh:= @List.mem_map
abbrev ic:= @List.mem_append
abbrev eB:= @List.mem_cons
abbrev x9:= @Array.getD_eq_getD_getElem?
abbrev BI:= @Array.getElem?_setIfInBounds
abbrev jC:= @Nat.ble_eq
abbrev kN:= @Nat.zero_le
abbrev td:= @List.getElem?_drop
abbrev nX:= @Nat.beq_refl
abbrev B8:= @List.mem_of_find?_eq_some
abbrev qd:= @List.all_eq_true
inductive PT(α:Type) where
 |e
 |n (v:Option α) (l r:PT α)
deriving Inhabited
namespace PT
variable{α:Type}
def get:PT α→Nat→Option α
 | .e,_=>none
 | .n v l r,k=>match k with
  |0=>v
  |j+1=>bif Nat.beq (j % 2) 0 then l.get (j / 2)else r.get (j / 2)
def x8:Nat→PT α→Nat→Option α→PT α
 |0,t,_,_=>t
 |f+1,t,k,x=>match t with
  | .e=>(match k with
   |0=> .n x .e .e
   |j+1=>bif Nat.beq (j % 2) 0 then .n none (x8 f .e (j / 2) x) .e else .n none .e (x8 f .e (j / 2) x))
  | .n v l r=>(match k with
   |0=> .n x l r
   |j+1=>bif Nat.beq (j % 2) 0 then .n v (x8 f l (j / 2) x) r else .n v l (x8 f r (j / 2) x))
def set(t:PT α)(k:Nat)(x:α):PT α:=x8 (k+1) t k (some x)
theorem Vd(f:Nat):∀ (t:PT α) (k:Nat) (x:Option α) (j:Nat),k<f→(x8 f t k x).get j=if j=k then x else t.get j:=by
 induction f with
 |zero=>intro t k x j h;omega
 |succ f ih=>
  intro t k x j h;cases t with
  |e=>
   cases k with
   |zero=>
    cases j with
    |zero=>simp[x8,get]
    |succ j=>simp only[x8,get];cases Nat.beq (j % 2) 0<;>simp[get]
   |succ k=>
    simp only[x8];have hk:k / 2<f:=by omega
    cases hb:Nat.beq (k % 2) 0 with
    |true=>
     simp only[cond_true];cases j with
     |zero=>simp[get]
     |succ j=>
      simp only[get];cases hc:Nat.beq (j % 2) 0 with
      |true=>
       simp only[cond_true];rw[ih _ _ _ _ hk];have h1:k % 2=0:=bS hb;have h2:j % 2=0:=bS hc;by_cases hj:j=k
       ·subst hj;simp
       ·rw[if_neg (by omega),if_neg (by omega)];simp[get]
      |false=>
       have h1:k % 2=0:=bS hb;have h2:¬j % 2=0:=by intro h;rw[h]at hc;simp at hc
       rw[if_neg (by intro h;apply h2;have:j=k:=(by omega);rw[this];exact h1)];simp[get]
    |false=>
     simp only[cond_false];cases j with
     |zero=>simp[get]
     |succ j=>
      simp only[get];cases hc:Nat.beq (j % 2) 0 with
      |false=>
       simp only[cond_false];rw[ih _ _ _ _ hk];have h1:¬k % 2=0:=by intro h;rw[h]at hb;simp at hb
       have h2:¬j % 2=0:=by intro h;rw[h]at hc;simp at hc
       by_cases hj:j=k
       ·subst hj;simp
       ·rw[if_neg (by omega),if_neg (by omega)];simp[get]
      |true=>
       have h1:¬k % 2=0:=by intro h;rw[h]at hb;simp at hb
       have h2:j % 2=0:=bS hc;rw[if_neg (by intro h;apply h1;have:j=k:=(by omega);rw[←this];exact h2)];simp[get]
  |n v l r=>
   cases k with
   |zero=>
    cases j with
    |zero=>simp[x8,get]
    |succ j=>simp[x8,get]
   |succ k=>
    simp only[x8];have hk:k / 2<f:=by omega
    cases hb:Nat.beq (k % 2) 0 with
    |true=>
     simp only[cond_true];cases j with
     |zero=>simp[get]
     |succ j=>
      simp only[get];cases hc:Nat.beq (j % 2) 0 with
      |true=>
       simp only[cond_true];rw[ih _ _ _ _ hk];have h1:k % 2=0:=bS hb;have h2:j % 2=0:=bS hc;by_cases hj:j=k
       ·subst hj;simp
       ·rw[if_neg (by omega),if_neg (by omega)]
      |false=>
       have h1:k % 2=0:=bS hb;have h2:¬j % 2=0:=by intro h;rw[h]at hc;simp at hc
       rw[if_neg (by intro h;apply h2;have:j=k:=(by omega);rw[this];exact h1)];simp
    |false=>
     simp only[cond_false];cases j with
     |zero=>simp[get]
     |succ j=>
      simp only[get];cases hc:Nat.beq (j % 2) 0 with
      |false=>
       simp only[cond_false];rw[ih _ _ _ _ hk];have h1:¬k % 2=0:=by intro h;rw[h]at hb;simp at hb
       have h2:¬j % 2=0:=by intro h;rw[h]at hc;simp at hc
       by_cases hj:j=k
       ·subst hj;simp
       ·rw[if_neg (by omega),if_neg (by omega)]
      |true=>
       have h1:¬k % 2=0:=by intro h;rw[h]at hb;simp at hb
       have h2:j % 2=0:=bS hc;rw[if_neg (by intro h;apply h1;have:j=k:=(by omega);rw[←this];exact h2)];simp
theorem iW(t:PT α)(k:Nat)(x:α)(j:Nat):(t.set k x).get j=if j=k then some x else t.get j:=
 Vd (k+1) t k (some x) j (Nat.lt_succ_self k)
@[simp] theorem qaY(k:Nat):(PT.e:PT α).get k=none:=by cases k<;>rfl
end PT
inductive V where
 |bool (b:Bool)
 |int (k:IntKind) (n:Int)
 |str (s:List UInt8)
 |aT
 |ptr (b off:Nat)
 |dI (row:List V) (off:Nat)
 |bu
 |bQ
 |slice (b off len cap sz:Nat) (exact:Bool)
 |aj (row:List V) (off len sz:Nat)
 |bK
 |map (b:Nat)
 |cZ
 |func (f:Nat) (first captured:List V)
 |aK
 |iface (t:Nat) (v:V)
 |agg (cs:List V)
 |aP (vs:List V)
deriving Inhabited
def V.one:V→Bool
 | .agg _=>false
 | .aP _=>false
 |_=>true
def V.cells:V→List V
 | .agg cs=>cs
 |v=>[v]
mutual
def V.beq:V→V→Bool
 | .bool a,.bool b=>a==b
 | .int j a,.int k b=>decide (j=k)&&decide (a=b)
 | .str a,.str b=>a==b
 | .aT,.aT=>true
 | .ptr a b,.ptr c d=>Nat.beq a c&&Nat.beq b d
 | .dI a b,.dI c d=>V.AF a c&&Nat.beq b d
 | .bu,.bu=>true
 | .bQ,.bQ=>true
 | .slice a b c d e f,.slice a' b' c' d' e' f' =>Nat.beq a a' &&Nat.beq b b' &&Nat.beq c c' &&Nat.beq d d' &&Nat.beq e e' &&(f==f')
 | .aj a b c d,.aj a' b' c' d' =>V.AF a a' &&Nat.beq b b' &&Nat.beq c c' &&Nat.beq d d'
 | .bK,.bK=>true
 | .map a,.map b=>Nat.beq a b
 | .cZ,.cZ=>true
 | .func f a b,.func g c d=>Nat.beq f g&&V.AF a c&&V.AF b d
 | .aK,.aK=>true
 | .iface t v,.iface u w=>Nat.beq t u&&V.beq v w
 | .agg a,.agg b=>V.AF a b
 | .aP a,.aP b=>V.AF a b
 |_,_=>false
def V.AF:List V→List V→Bool
 |[],[]=>true
 |a::as,b::bs=>V.beq a b&&V.AF as bs
 |_,_=>false
end
mutual
theorem V.eq_of_beq:∀ {a b:V},V.beq a b=true→a=b
 | .bool a,b,h=>by cases b<;>simp_all [V.beq]
 | .int j a,b,h=>by cases b<;>simp_all [V.beq]
 | .str a,b,h=>by cases b<;>simp_all [V.beq]
 | .aT,b,h=>by cases b<;>simp_all [V.beq]
 | .ptr a c,b,h=>by cases b<;>simp_all [V.beq]
 | .dI a c,b,h=>by
  cases b<;>simp[V.beq]at h;obtain⟨h1,h2⟩:=h;rw[V.j6 h1,h2]
 | .bu,b,h=>by cases b<;>simp_all [V.beq]
 | .bQ,b,h=>by cases b<;>simp_all [V.beq]
 | .slice a1 a2 a3 a4 a5 a6,b,h=>by cases b<;>simp_all [V.beq]
 | .aj a c d e,b,h=>by
  cases b<;>simp[V.beq]at h;obtain⟨⟨⟨h1,h2⟩,h3⟩,h4⟩:=h;rw[V.j6 h1,h2,h3,h4]
 | .bK,b,h=>by cases b<;>simp_all [V.beq]
 | .map a,b,h=>by cases b<;>simp_all [V.beq]
 | .cZ,b,h=>by cases b<;>simp_all [V.beq]
 | .func f a c,b,h=>by
  cases b<;>simp[V.beq]at h;obtain⟨⟨h1,h2⟩,h3⟩:=h;rw[V.j6 h2,V.j6 h3,h1]
 | .aK,b,h=>by cases b<;>simp_all [V.beq]
 | .iface t v,b,h=>by
  cases b<;>simp[V.beq]at h;obtain⟨h1,h2⟩:=h;rw[V.eq_of_beq h2,h1]
 | .agg a,b,h=>by
  cases b<;>simp[V.beq]at h;rw[V.j6 h]
 | .aP a,b,h=>by
  cases b<;>simp[V.beq]at h;rw[V.j6 h]
theorem V.j6:∀ {a b:List V},V.AF a b=true→a=b
 |[],[],_=>rfl
 |[],_::_,h=>by simp[V.AF]at h
 |_::_,[],h=>by simp[V.AF]at h
 |a::as,b::bs,h=>by
  simp[V.AF]at h;rw[V.eq_of_beq h.1,V.j6 h.2]
end
structure ME where
 key:V
 val:V
 born:Nat
deriving Inhabited
inductive Ob where
 |row (cs:List V)
 |map (es:List ME) (clock:Nat)
 |fS (m:Option Nat) (since:Nat) (seen:List Nat) (stepped:Nat)
 |dead
deriving Inhabited
structure St where
 h:PT Ob
 next:Nat
deriving Inhabited
def St.get(s:St)(n:Nat):Option Ob:=s.h.get n
def St.put(s:St)(n:Nat)(o:Ob):St:={s with h:=s.h.set n o}
def St.alloc(s:St)(o:Ob):St:={h:=s.h.set s.next o,next:=s.next+1}
def St.row(s:St)(n:Nat):Option (List V):=
 match s.get n with
 |some (.row cs)=>some cs
 |_=>none
class jm(R:Type) where
 fail:R
 all:Nat→(Nat→R)→R
 chk:V→V→R→R
instance:jm Prop where
 fail:=False
 all n f:=∀ i,i<n→f i
 chk a b r:=a=b∧r
instance:jm Bool where
 fail:=false
 all n f:=(List.range n).all f
 chk a b r:=bif V.beq a b then r else false
inductive bB where
 |t (n:Nat)
 |c (v:V)
deriving Inhabited
inductive fD where
 |bool|int|str
 |aT|bu|bK|cZ -- compared with nil (or both nil)
 |iface (guard:Bool) -- guard:two bu are not told
 |flat (ks:List (Nat×fD)) -- a struct,cell by cell,of bool,int,str
 |no
deriving Inhabited
inductive ga where
 |aJ (x:bB)
 |pick (c a b:bB)
 |load (n:Option Nat) (x:bB)
 |nilCheck (x:bB)
 |bin (op:BinOp) (ek:fD) (x y:bB)
 |un (op:UnOp) (x:bB)
 |bI (k:IntKind) (x:bB)
 |tF (x:bB)
 |toStr (x:bB)
 |fm (t:Nat) (x:bB)
 |lP (f:Nat) (first captured:List bB)
 |build (zero:List V) (parts:List (Nat×Nat×bB))
 |jJ (x:bB) (lo hi:Option bB)
 |slice (sz:Nat) (x:bB) (lo hi mx:Option bB)
 |ir (n sz:Nat) (x:bB) (lo hi:Option bB)
 |fieldAddr (off:Nat) (x:bB)
 |field (off:Nat) (n:Option Nat) (x:bB)
 |indexAddr (sz:Nat) (x i:bB)
 |kM (len sz:Nat) (x i:bB)
 |index (x i:bB)
 |lookup (kk:fD) (zero:V) (ok:Bool) (x i:bB)
 |extract (i:Nat) (x:bB)
 |len (k:Nat) (x:bB) -- 0:of a string,1:of a slice,2:of a map
 |cap (x:bB)
 |max (xs:List bB)
 |min (xs:List bB)
 |oz (t:Nat) (zero:V) (x:bB) -- x.(T),v,ok;T concrete
 |entry (x:bB) -- a map iterator's entry
deriving Inhabited
inductive Gb where
 |alloc (zero:List V)
 |box (x:bB)
 |buildSlice (sz len:Nat) (zero:List V) (parts:List (Nat×Nat×bB))
 |makeMap
 |makeSlice (sz bytes:Nat) (zero:List V) (len cap:bB)
 |qs (x:bB)
deriving Inhabited
inductive xL where
 |store (n:Nat) (a x:bB)
 |mapUpdate (kk:fD) (m k x:bB)
 |delete (kk:fD) (m k:bB)
 |append (sz bytes:Nat) (str:Bool) (s x:bB) -- str:a string's bytes come
 |copy (sz:Nat) (str:Bool) (d s:bB)
 |clear (sz:Nat) (zero:List V) (x:bB)
 |range (x:bB)
deriving Inhabited
inductive lH where
 |s (o:ga)
 |m (o:Gb)
 |h (o:xL)
 |call (f:bB) (args:List bB)
 |invoke (name:String) (x:bB) (args:List bB)
 |next (x:bB)
 |bad
deriving Inhabited
structure aH where
 dst:Option Nat
 op:lH
 guard:Option (Nat×Bool) -- a temporary,and what it must hold
 aS:Nat -- all that must run before,as bits
deriving Inhabited
inductive ag where
 |skip
 |region (ops:List aH)
 |draw (ops:List aH)
 |seq (a b:ag)
 |cond (c:bB) (a b:ag)
 |block (id:Nat) (b:ag)
 |loop (b:ag)
 |exit (id:Nat)
 |ret
 |bad
 |uh (n:Nat) (p:List V→St→Option (V×St)) -- what a call comes to,by a contract
deriving Inhabited
inductive uH where
 |t (n:Nat)
 |cell (a:Nat) (n:Option Nat)
deriving Inhabited
structure dW where
 ntmps:Nat
 results:List uH
 body:ag
deriving Inhabited
inductive Ex where
 |normal
 |exit (id:Nat)
 |ret
deriving Inhabited
end Go.RE
namespace Go.RE
def bB.ev(env:PT V):bB→Option V
 | .t n=>env.get n
 | .c v=>some v
def KQ(env:PT V):List bB→Option (List V)
 |[]=>some []
 |x::xs=>match x.ev env with
  |some v=>(match KQ env xs with|some vs=>some (v::vs)|none=>none)
  |none=>none
def HB:IntKind→Nat
 | .i8=>127| .i16=>32767| .i32=>2147483647| .i64=>9223372036854775807
 | .u8=>255| .u16=>65535| .u32=>4294967295| .u64=>18446744073709551615
def aD(k:IntKind)(n:Int):Int:=
 match n with
 | .ofNat m=>bif Nat.ble m (HB k)then .ofNat m else k.wrap (.ofNat m)
 | .negSucc m=>bif k.signed&&Nat.ble m (HB k)then .negSucc m else k.wrap (.negSucc m)
def kW(op:BinOp)(k:IntKind)(a b:Int):Option V:=
 match op with
 | .add=>some (.int k (aD k (a+b)))
 | .sub=>some (.int k (aD k (a - b)))
 | .mul=>some (.int k (aD k (a*b)))
 | .quo=>if b=0 then none else some (.int k (aD k (a.tdiv b)))
 | .rem=>if b=0 then none else some (.int k (a.tmod b))
 | .and=>some (.int k (aD k (BitVec.ofInt k.bits a&&&BitVec.ofInt k.bits b).toNat))
 | .or=>some (.int k (aD k (BitVec.ofInt k.bits a|||BitVec.ofInt k.bits b).toNat))
 | .xor=>some (.int k (aD k (BitVec.ofInt k.bits a ^^^ BitVec.ofInt k.bits b).toNat))
 | .andNot=>some (.int k (aD k (BitVec.ofInt k.bits a&&& ~~~BitVec.ofInt k.bits b).toNat))
 | .eql=>some (.bool (a==b))
 | .neq=>some (.bool (a !=b))
 | .lss=>some (.bool (decide (a<b)))
 | .leq=>some (.bool (decide (a≤b)))
 | .gtr=>some (.bool (decide (a>b)))
 | .geq=>some (.bool (decide (a≥b)))
 |_=>none
def xw(op:BinOp)(k:IntKind)(a b:Int):Option V:=
 if b<0 then none else
 match op with
 | .shl=>some (.int k (aD k (a*2 ^ (min b.toNat k.bits))))
 | .shr=>some (.int k (a.fdiv (2 ^ (min b.toNat k.bits))))
 |_=>none
def aW:Nat:=1099511627776
def mL(op:BinOp)(a b:List UInt8):Option V:=
 match op with
 | .add=>bif Nat.ble (a.length+b.length) aW then some (.str (a++b))else none
 | .eql=>some (.bool (a==b))
 | .neq=>some (.bool (!(a==b)))
 | .lss=>some (.bool (Op.bytesLess a b))
 | .leq=>some (.bool (Op.bytesLess a b||a==b))
 | .gtr=>some (.bool (!(Op.bytesLess a b||a==b)))
 | .geq=>some (.bool (!Op.bytesLess a b))
 |_=>none
def jN:fD→V→V→Option Bool
 | .bool,.bool a,.bool b=>some (a==b)
 | .int,.int j a,.int k b=>if j=k then some (a==b)else none
 | .str,.str a,.str b=>some (a==b)
 |_,_,_=>none
def rO:List (Nat×fD)→List V→List V→Option Bool
 |[],_,_=>some true
 |(o,k)::r,xs,ys=>match xs[o]?,ys[o]? with
  |some a,some b=>(match jN k a b with
   |some true=>rO r xs ys
   |some false=>some false
   |none=>none)
  |_,_=>none
def Ga(ek:fD)(a b:V):Option Bool:=
 match ek,a,b with
 | .bool,.bool x,.bool y=>some (x==y)
 | .aT,.aT,.aT=>some true
 | .aT,.aT,.ptr _ _=>some false
 | .aT,.aT,.dI _ _=>some false
 | .aT,.ptr _ _,.aT=>some false
 | .aT,.dI _ _,.aT=>some false
 | .bu,.bu,.bu=>some true
 | .bu,.bu,.slice .. =>some false
 | .bu,.bu,.aj .. =>some false
 | .bu,.bu,.bQ=>some false
 | .bu,.bQ,.bu=>some false
 | .bu,.slice ..,.bu=>some false
 | .bu,.aj ..,.bu=>some false
 | .bK,.bK,.bK=>some true
 | .bK,.bK,.map _=>some false
 | .bK,.map _,.bK=>some false
 | .cZ,.cZ,.cZ=>some true
 | .cZ,.cZ,.func .. =>some false
 | .cZ,.func ..,.cZ=>some false
 | .iface false,.aK,.aK=>some true
 | .iface _,.aK,.iface _ _=>some false
 | .iface _,.iface _ _,.aK=>some false
 | .flat ks,.agg xs,.agg ys=>rO ks xs ys
 |_,_,_=>none
def cU(op:BinOp)(ek:fD)(a b:V):Option V:=
 match op,a,b with
 | .shl,.int k x,.int _ y=>xw .shl k x y
 | .shr,.int k x,.int _ y=>xw .shr k x y
 |op,.int k x,.int j y=>if k=j then kW op k x y else none
 |op,.str x,.str y=>mL op x y
 | .eql,a,b=>(match Ga ek a b with|some r=>some (.bool r)|none=>none)
 | .neq,a,b=>(match Ga ek a b with|some r=>some (.bool (!r))|none=>none)
 |_,_,_=>none
def unV(op:UnOp)(a:V):Option V:=
 match op,a with
 | .neg,.int k n=>some (.int k (aD k (0 - n)))
 | .not,.bool b=>some (.bool (!b))
 | .xor,.int k n=>kW .xor k (if k.signed then -1 else k.max) n
 |_,_=>none
def ei(n:Option Nat)(cs:List V)(off:Nat):Option V:=
 match n with
 |none=>cs[off]?
 |some n=>bif Nat.ble (off+n) cs.length then some (.agg ((cs.drop off).take n))else none
def kT(cs:List V)(off:Nat)(vs:List V):List V:=cs.take off++vs++cs.drop (off+vs.length)
def pY(env:PT V)(cells:List V):List (Nat×Nat×bB)→Option (List V)
 |[]=>some cells
 |(off,size,x)::rest=>match x.ev env with
  |some v=>bif Nat.beq v.cells.length size&&Nat.ble (off+v.cells.length) cells.length then pY env (kT cells off v.cells) rest else none
  |none=>none
def asNat(v:V)(most:Nat):Option Nat:=
 match v with
 | .int _ n=>if 0≤n∧n≤(most:Int)then some n.toNat else none
 |_=>none
def aF(env:PT V)(x:Option bB)(dflt most:Nat):Option Nat:=
 match x with
 |none=>some dflt
 |some x=>match x.ev env with
  |some v=>asNat v most
  |none=>none
def iM(b:UInt8):V:=.int .u8 b.toNat
def bytesOf:List V→Option (List UInt8)
 |[]=>some []
 | .int .u8 n::r=>(match bytesOf r with|some bs=>some (UInt8.ofNat n.toNat::bs)|none=>none)
 |_::_=>none
def bx(s:St)(w:Nat):V→Option (List V)
 | .bu=>some []
 | .bQ=>some []
 | .slice b off len _ sz _=>match s.row b with
  |some cs=>bif Nat.beq sz w&&Nat.ble (off+len*sz) cs.length then some ((cs.drop off).take (len*sz))else none
  |none=>none
 | .aj row off len sz=>bif Nat.beq sz w&&Nat.ble (off+len*sz) row.length then some ((row.drop off).take (len*sz))else none
 |_=>none
def iG(s:St)(w:Nat)(str:Bool)(x:V):Option (List V):=
 match str,x with
 |true,.str b=>bif Nat.beq w 1 then some (b.map iM)else none
 |false,x=>bx s w x
 |_,_=>none
def tT:V→Option Nat
 | .bu=>some 0
 | .bQ=>some 0
 | .slice _ _ len _ _ _=>some len
 | .aj _ _ len _=>some len
 | .str b=>some b.length
 |_=>none
def ov(s:St)(k:Nat):V→Option Nat
 | .str b=>bif Nat.beq k 0 then some b.length else none
 | .bu=>bif Nat.beq k 1 then some 0 else none
 | .bQ=>bif Nat.beq k 1 then some 0 else none
 | .slice _ _ len _ _ _=>bif Nat.beq k 1 then some len else none
 | .aj _ _ len _=>bif Nat.beq k 1 then some len else none
 | .bK=>bif Nat.beq k 2 then some 0 else none
 | .map m=>bif Nat.beq k 2 then(match s.get m with
  |some (.map es _)=>some es.length
  |_=>none)else none
 |_=>none
def nM(kk:fD)(k:V):List ME→Nat→Option (Option (Nat×V))
 |[],_=>some none
 |e::es,i=>match jN kk k e.key with
  |some true=>some (some (i,e.val))
  |some false=>nM kk k es (i+1)
  |none=>none
def plainKey:fD→V→Bool
 | .bool,.bool _=>true
 | .int,.int _ _=>true
 | .str,.str _=>true
 |_,_=>false
def Av:V→V→Option V
 | .int k x,.int j y=>if k=j then some (.int k (if y>x then y else x))else none
 | .str x,.str y=>some (.str (if Op.bytesLess x y then y else x))
 |_,_=>none
def zA:V→V→Option V
 | .int k x,.int j y=>if k=j then some (.int k (if y<x then y else x))else none
 | .str x,.str y=>some (.str (if Op.bytesLess x y||x==y then x else y))
 |_,_=>none
def xR(f:V→V→Option V):V→List V→Option V
 |a,[]=>some a
 |a,b::r=>match f a b with
  |some c=>xR f c r
  |none=>none
def qu(s:St)(kk:fD)(zero:V)(ok:Bool)(m k:V):Option V:=
 match m with
 | .bK=>bif plainKey kk k then some (if ok then .aP [zero,.bool false]else zero)else none
 | .map m=>(match s.get m with
  |some (.map es _)=>bif plainKey kk k then(match nM kk k es 0 with
   |some (some (_,v))=>some (if ok then .aP [v,.bool true]else v)
   |some none=>some (if ok then .aP [zero,.bool false]else zero)
   |none=>none)else none
  |_=>none)
 |_=>none
def zf(s:St)(b:Nat):Option V:=
 match s.get b with
 |some (.fS (some m) _ seen last)=>(match s.get m,seen.getLast? with
  |some (.map es clock),some n=>bif Nat.beq clock last then(match es.find? (fun e=>Nat.beq e.born n)with
   |some e=>some (.aP [e.key,e.val])
   |none=>none)else none
  |_,_=>none)
 |_=>none
def cX(env:PT V)(s:St):ga→Option V
 | .entry x=>match x.ev env with
  |some (.ptr b 0)=>zf s b
  |_=>none
 | .aJ x=>x.ev env
 | .pick c a b=>match c.ev env with
  |some (.bool true)=>a.ev env
  |some (.bool false)=>b.ev env
  |_=>none
 | .load n x=>match x.ev env with
  |some (.ptr b off)=>(match s.row b with|some cs=>ei n cs off|none=>none)
  |some (.dI row off)=>ei n row off
  |_=>none
 | .nilCheck x=>match x.ev env with
  |some .aT=>none
  |some .aK=>none
  |some .cZ=>none
  |v=>v
 | .bin op ek x y=>match x.ev env,y.ev env with
  |some a,some b=>cU op ek a b
  |_,_=>none
 | .un op x=>match x.ev env with
  |some a=>unV op a
  |none=>none
 | .bI k x=>match x.ev env with
  |some (.int _ n)=>some (.int k (aD k n))
  |_=>none
 | .tF x=>match x.ev env with
  |some (.str b)=>some (.str b)
  |_=>none
 | .toStr x=>match x.ev env with
  |some v=>(match bx s 1 v with
   |some cs=>(match bytesOf cs with|some bs=>some (.str bs)|none=>none)
   |none=>none)
  |none=>none
 | .fm t x=>match x.ev env with
  |some v=>some (.iface t v)
  |none=>none
 | .lP f first captured=>match KQ env first,KQ env captured with
  |some a,some b=>some (.func f a b)
  |_,_=>none
 | .build zero parts=>match pY env zero parts with
  |some cs=>some (.agg cs)
  |none=>none
 | .jJ x lo hi=>match x.ev env with
  |some (.str b)=>(match aF env hi b.length b.length with
   |some h=>(match aF env lo 0 h with
    |some l=>some (.str ((b.take h).drop l))
    |none=>none)
   |none=>none)
  |_=>none
 | .slice w x lo hi mx=>match x.ev env with
  |some .bu=>(match aF env mx 0 0 with
   |some m=>(match aF env hi 0 m with
    |some h=>(match aF env lo 0 h with
     |some _=>some .bu
     |none=>none)
    |none=>none)
   |none=>none)
  |some (.slice b off len cap sz ex)=>(match aF env mx cap cap with
   |some m=>(match aF env hi len m with
    |some h=>(match aF env lo 0 h with
     |some l=>bif Nat.beq w sz then(bif mx.isSome&&Nat.beq m 0 then some .bQ else some (.slice b (off+l*sz) (h - l) (m - l) sz (ex||mx.isSome)))else none
     |none=>none)
    |none=>none)
   |none=>none)
  |some .bQ=>(match aF env mx 0 0 with
   |some m=>(match aF env hi 0 m with
    |some h=>(match aF env lo 0 h with
     |some _=>some .bQ
     |none=>none)
    |none=>none)
   |none=>none)
  |some (.aj row off len sz)=>(match aF env mx len len with
   |some m=>(match aF env hi len m with
    |some h=>(match aF env lo 0 h with
     |some l=>bif Nat.beq w sz then(bif mx.isSome&&Nat.beq m 0 then some .bQ else some (.aj row (off+l*sz) (h - l) sz))else none
     |none=>none)
    |none=>none)
   |none=>none)
  |_=>none
 | .ir n sz x lo hi=>match x.ev env with
  |some (.ptr b off)=>(match aF env hi n n with
   |some h=>(match aF env lo 0 h with
    |some l=>(match s.row b with
     |some cs=>bif Nat.ble (off+n*sz) cs.length then some (.slice b (off+l*sz) (h - l) (n - l) sz true)else none
     |none=>none)
    |none=>none)
   |none=>none)
  |_=>none
 | .fieldAddr off x=>match x.ev env with
  |some (.ptr b o)=>some (.ptr b (o+off))
  |some (.dI row o)=>some (.dI row (o+off))
  |_=>none
 | .field off n x=>match x.ev env with
  |some (.agg cs)=>ei n cs off
  |_=>none
 | .indexAddr sz x i=>match x.ev env,i.ev env with
  |some (.slice b off len _ z _),some (.int _ n)=>if 0≤n∧n<(len:Int)then(bif Nat.beq z sz then some (.ptr b (off+n.toNat*sz))else none)else none
  |some (.aj row off len z),some (.int _ n)=>if 0≤n∧n<(len:Int)then(bif Nat.beq z sz then some (.dI row (off+n.toNat*sz))else none)else none
  |_,_=>none
 | .kM len sz x i=>match x.ev env,i.ev env with
  |some (.ptr b off),some (.int _ n)=>if 0≤n∧n<(len:Int)then some (.ptr b (off+n.toNat*sz))else none
  |some (.dI row off),some (.int _ n)=>if 0≤n∧n<(len:Int)then some (.dI row (off+n.toNat*sz))else none
  |_,_=>none
 | .index x i=>match x.ev env,i.ev env with
  |some (.str b),some (.int _ n)=>if 0≤n then(match b[n.toNat]? with|some c=>some (.int .u8 c.toNat)|none=>none)else none
  |_,_=>none
 | .lookup kk zero ok x i=>match x.ev env,i.ev env with
  |some m,some k=>qu s kk zero ok m k
  |_,_=>none
 | .extract i x=>match x.ev env with
  |some (.aP vs)=>vs[i]?
  |_=>none
 | .len k x=>match x.ev env with
  |some v=>(match ov s k v with|some n=>some (.int .i64 n)|none=>none)
  |none=>none
 | .cap x=>match x.ev env with
  |some .bu=>some (.int .i64 0)
  |some .bQ=>some (.int .i64 0)
  |some (.slice _ _ _ cap _ true)=>some (.int .i64 cap)
  |_=>none
 | .max xs=>match KQ env xs with
  |some (v::vs)=>xR Av v vs
  |_=>none
 | .min xs=>match KQ env xs with
  |some (v::vs)=>xR zA v vs
  |_=>none
 | .oz t zero x=>match x.ev env with
  |some .aK=>some (.aP [zero,.bool false])
  |some (.iface u v)=>some (if u=t then .aP [v,.bool true]else .aP [zero,.bool false])
  |_=>none
def St.write(s:St)(b off:Nat)(vs:List V):Option St:=
 match s.row b with
 |some cs=>bif Nat.ble (off+vs.length) cs.length&&vs.all V.one then some (s.put b (.row (kT cs off vs)))else none
 |none=>none
def mc(i:Nat)(f:ME→ME):List ME→List ME
 |[]=>[]
 |e::es=>match i with
  |0=>f e::es
  |j+1=>e::mc j f es
def gP(i:Nat):List ME→List ME
 |[]=>[]
 |e::es=>match i with
  |0=>es
  |j+1=>e::gP j es
def dP(zero:List V):Nat→List V
 |0=>[]
 |n+1=>zero++dP zero n
def qp(s:St)(sz bytes:Nat)(str:Bool)(a x:V):Option (V×St):=
 match iG s sz str x,tT x with
 |some new,some k=>
  bif new.all V.one then
  (match a with
  | .bu=>
   bif Nat.beq k 0 then some (.bu,s)else
   bif Nat.ble (k*bytes) aW&&Nat.ble k aW then some (.slice s.next 0 k k sz false,s.alloc (.row new))else none
  | .bQ=>
   bif Nat.beq k 0 then some (.bQ,s)else
   bif Nat.ble (k*bytes) aW&&Nat.ble k aW then some (.slice s.next 0 k k sz false,s.alloc (.row new))else none
  | .aj row off len z=>bif Nat.beq k 0 then some (.aj row off len z,s)else none
  | .slice b off len cap z ex=>
   bif Nat.beq z sz&&Nat.ble ((len+k)*bytes) aW&&Nat.ble (len+k) aW then
    (bif Nat.ble (len+k) cap then
     (bif Nat.beq k 0 then some (.slice b off len cap z ex,s)else
     (match s.write b (off+len*sz) new with
     |some s' =>some (.slice b off (len+k) cap z ex,s')
     |none=>none))
    else
     (match bx s sz (.slice b off len cap z ex)with
     |some old=>
      let s0:=bif ex then s else s.put b .dead
      some (.slice s.next 0 (len+k) (len+k) sz false,s0.alloc (.row (old++new)))
     |none=>none))
   else none
  |_=>none)
  else none
 |_,_=>none
def copyV(s:St)(sz:Nat)(str:Bool)(d x:V):Option (V×St):=
 match iG s sz str x,tT x with
 |some cs,some k=>
  (match d with
  | .bu=>some (.int .i64 0,s)
  | .bQ=>some (.int .i64 0,s)
  | .slice b off len _ z _=>bif Nat.beq z sz then
    (match s.write b off (cs.take ((min k len)*sz))with
    |some s' =>some (.int .i64 (min k len:Nat),s')
    |none=>none)
   else none
  |_=>none)
 |_,_=>none
def Ai(env:PT V):Gb→Option (Ob×(Nat→V))
 | .alloc zero=>some (.row zero,fun n=> .ptr n 0)
 | .box x=>match x.ev env with
  |some v=>some (.row v.cells,fun n=> .ptr n 0)
  |none=>none
 | .buildSlice sz len zero parts=>match pY env (dP zero len) parts with
  |some cs=>some (.row cs,fun n=> .slice n 0 len len sz true)
  |none=>none
 | .makeMap=>some (.map [] 0,fun n=> .map n)
 | .makeSlice sz bytes zero len cap=>match len.ev env,cap.ev env with
  |some l,some c=>(match asNat c aW with
   |some c=>(match asNat l c with
    |some l=>bif Nat.ble (c*bytes) aW then some (.row (dP zero c),fun n=> .slice n 0 l c sz true)else none
    |none=>none)
   |none=>none)
  |_,_=>none
 | .qs x=>match x.ev env with
  |some (.str b)=>some (.row (b.map iM),fun n=> .slice n 0 b.length b.length 1 false)
  |_=>none
def xV(env:PT V)(s:St):xL→Option (V×St)
 | .store n a x=>match a.ev env,x.ev env with
  |some (.ptr b off),some v=>bif Nat.beq v.cells.length n then(match s.write b off v.cells with|some s' =>some (.aP [],s')|none=>none)else none
  |_,_=>none
 | .mapUpdate kk m k x=>match m.ev env,k.ev env,x.ev env with
  |some (.map m),some k,some v=>(match s.get m with
   |some (.map es clock)=>bif plainKey kk k then(match nM kk k es 0 with
    |some (some (i,_))=>some (.aP [],s.put m (.map (mc i (fun e=>{e with key:=k,val:=v}) es) clock))
    |some none=>some (.aP [],s.put m (.map (es++[{key:=k,val:=v,born:=clock}]) (clock+1)))
    |none=>none)else none
   |_=>none)
  |_,_,_=>none
 | .delete kk m k=>match m.ev env,k.ev env with
  |some .bK,some k=>bif plainKey kk k then some (.aP [],s)else none
  |some (.map m),some k=>(match s.get m with
   |some (.map es clock)=>bif plainKey kk k then(match nM kk k es 0 with
    |some (some (i,_))=>some (.aP [],s.put m (.map (gP i es) clock))
    |some none=>some (.aP [],s)
    |none=>none)else none
   |_=>none)
  |_,_=>none
 | .append sz bytes str a x=>match a.ev env,x.ev env with
  |some a,some x=>qp s sz bytes str a x
  |_,_=>none
 | .copy sz str d x=>match d.ev env,x.ev env with
  |some d,some x=>copyV s sz str d x
  |_,_=>none
 | .clear _ _ _=>none
 | .range x=>match x.ev env with
  |some .bK=>some (.ptr s.next 0,s.alloc (.fS none 0 [] 0))
  |some (.map m)=>(match s.get m with
   |some (.map _ clock)=>some (.ptr s.next 0,s.alloc (.fS (some m) clock [] clock))
   |_=>none)
  |_=>none
section
variable{R:Type}[jm R]
def dz(es:List ME)(since:Nat)(seen:List Nat):List (Option ME):=
 let left:=es.filter fun e=> !seen.contains e.born;let old:=left.filter fun e=>Nat.blt e.born since;let new:=left.filter fun e=>Nat.ble since e.born
 (bif old.isEmpty then[none]else[])++(old++new).map some
def qD(s:St)(b:Nat)(k:V→St→R):R:=
 match s.get b with
 |some (.fS none _ _ _)=>k (.aP [.bool false]) s
 |some (.fS (some m) since seen last)=>(match s.get m with
  |some (.map es clock)=>
   bif !seen.isEmpty&& !es.isEmpty&&es.all (fun e=>Nat.ble last e.born)then jm.fail else
   jm.all (dz es since seen).length fun i=>match(dz es since seen)[i]? with
    |some (some e)=>k (.aP [.bool true,e.key,e.val]) (s.put b (.fS (some m) since (seen++[e.born]) clock))
    |some none=>k (.aP [.bool false]) s
    |none=>jm.fail
  |_=>jm.fail)
 |_=>jm.fail
def dw(M:Nat→String→Option Nat)(F:Nat→List V→St→(V→St→R)→R)(env:PT V)(s:St)(o:lH)(k:V→St→R):R:=
 match o with
 | .s o=>(match cX env s o with|some v=>k v s|none=>jm.fail)
 | .m o=>(match Ai env o with|some (ob,f)=>k (f s.next) (s.alloc ob)|none=>jm.fail)
 | .h o=>(match xV env s o with|some (v,s')=>k v s' |none=>jm.fail)
 | .call f args=>(match f.ev env,KQ env args with
  |some (.func f first captured),some vs=>F f (first++vs++captured) s k
  |_,_=>jm.fail)
 | .invoke name x args=>(match x.ev env,KQ env args with
  |some (.iface t v),some vs=>(match M t name with
   |some f=>F f (v::vs) s k
   |none=>jm.fail)
  |_,_=>jm.fail)
 | .next x=>(match x.ev env with
  |some (.ptr b 0)=>qD s b k
  |_=>jm.fail)
 | .bad=>jm.fail
def bZ(g:Option (Nat×Bool))(env:PT V):Option Bool:=
 match g with
 |none=>some true
 |some (t,want)=>match env.get t with
  |some (.bool b)=>some (b==want)
  |some _=>some false
  |none=>none
def fB(dst:Option Nat)(v:V)(env:PT V):PT V:=
 match dst with
 |some d=>env.set d v
 |none=>env
def eR(M:Nat→String→Option Nat)(F:Nat→List V→St→(V→St→R)→R):List aH→PT V→St→(PT V→St→R)→R
 |[],env,s,k=>k env s
 |o::r,env,s,k=>match bZ o.guard env with
  |some true=>dw M F env s o.op fun v s' =>eR M F r (fB o.dst v env) s' k
  |some false=>eR M F r (fB o.dst (.aP []) env) s k
  |none=>jm.fail
def aH.small(o:aH):Bool:=match o.op with| .s _=>true| .m _=>true|_=>false
def within(a b:Nat):Bool:=Nat.beq (Nat.land a b) a
abbrev fH:=List (Nat×ga×PT V×V)
def jT:List (Nat×aH)→Nat→PT V→St→List (Nat×aH)→fH→Option (List (Nat×aH)×Nat×PT V×St×fH)
 |[],done,env,s,left,recs=>some (left.reverse,done,env,s,recs)
 |(i,o)::r,done,env,s,left,recs=>
  bif o.small&&within o.aS done then
   (match bZ o.guard env with
   |some true=>(match o.op with
    | .s op=>(match cX env s op with
     |some v=>jT r (Nat.lor done (2 ^ i)) (fB o.dst v env) s left ((i,op,env,v)::recs)
     |none=>none)
    | .m op=>(match Ai env op with
     |some (ob,f)=>jT r (Nat.lor done (2 ^ i)) (fB o.dst (f s.next) env) (s.alloc ob) left recs
     |none=>none)
    |_=>none)
   |some false=>jT r (Nat.lor done (2 ^ i)) (fB o.dst (.aP []) env) s left recs
   |none=>none)
  else jT r done env s ((i,o)::left) recs
def dU:List (Nat×aH)→List (Nat×aH)→Option (Nat×aH×List (Nat×aH))
 |_,[]=>none
 |pre,(i,o)::r=>bif o.small then dU ((i,o)::pre) r else some (i,o,pre.reverse++r)
def recheck(s:St)(aS:Nat):fH→R→R
 |[],r=>r
 |(i,op,env,v)::rest,r=>
  bif Nat.testBit aS i then recheck s aS rest r
  else match cX env s op with
   |some u=>jm.chk u v (recheck s aS rest r)
   |none=>jm.fail
def de(aS:Nat)(l:fH):fH:=l.filter fun x=> !Nat.testBit aS x.1
def eM(M:Nat→String→Option Nat)(F:Nat→List V→St→(V→St→R)→R):Nat→List (Nat×aH)→Nat→PT V→St→fH→(PT V→St→R)→R
 |0,_,_,_,_,_,_=>jm.fail
 |n+1,todo,done,env,s,recs,k=>
  match jT todo done env s [] recs with
  |none=>jm.fail
  |some (todo,done,env,s,recs)=>
   match dU [] todo with
   |none=>(match todo with|[]=>k env s|_=>jm.fail)
   |some (i,o,rest)=>
    bif within o.aS done&&rest.all (fun x=>x.2.small||Nat.testBit x.2.aS i)then
     (match bZ o.guard env with
     |some true=>dw M F env s o.op fun v s' =>recheck s' o.aS recs
       (eM M F n rest (Nat.lor done (2 ^ i)) (fB o.dst v env) s' (de o.aS recs) k)
     |some false=>eM M F n rest (Nat.lor done (2 ^ i)) (fB o.dst (.aP []) env) s recs k
     |none=>jm.fail)
    else jm.fail
def aC:List aH→Nat→List (Nat×aH)
 |[],_=>[]
 |o::r,i=>(i,o)::aC r (i+1)
def firsts(env:PT V):Nat→List V→Option (List V)
 |0,acc=>some acc
 |n+1,acc=>match env.get n with
  |some v=>firsts env n (v::acc)
  |none=>none
def cT:List V→Nat→PT V→PT V
 |[],_,env=>env
 |v::vs,i,env=>cT vs (i+1) (env.set i v)
def Eb(env:PT V)(s:St):uH→Option V
 | .t n=>env.get n
 | .cell a n=>match env.get a with
  |some (.ptr b off)=>(match s.row b with|some cs=>ei n cs off|none=>none)
  |_=>none
def uT(env:PT V)(s:St):List uH→Option (List V)
 |[]=>some []
 |r::rs=>match Eb env s r with
  |some v=>(match uT env s rs with|some vs=>some (v::vs)|none=>none)
  |none=>none
def cV(env:PT V)(s:St)(rs:List uH):Option V:=
 match uT env s rs with
 |some [v]=>some v
 |some vs=>some (.aP vs)
 |none=>none
def fR(C:Nat→Option dW)(M:Nat→String→Option Nat):Nat→ag→PT V→St→(Ex→PT V→St→R)→R
 |0,_,_,_,_=>jm.fail
 |n+1,c,env,s,k=>
  let F:Nat→List V→St→(V→St→R)→R:=fun f args s k=>match C f with
   |none=>jm.fail
   |some fn=>
    bif Nat.ble args.length fn.ntmps then
     fR C M n fn.body (cT args 0 .e) s fun e env s=>match e with
      | .exit _=>jm.fail
      |_=>(match cV env s fn.results with|some v=>k v s|none=>jm.fail)
    else jm.fail
  match c with
  | .skip=>k .normal env s
  | .region ops=>eR M F ops env s fun env s=>k .normal env s
  | .draw ops=>eM M F (ops.length+1) (aC ops 0) 0 env s [] fun env s=>k .normal env s
  | .seq a b=>fR C M n a env s fun e env s=>match e with
   | .normal=>fR C M n b env s k
   | .exit i=>k (.exit i) env s
   | .ret=>k .ret env s
  | .cond x a b=>(match x.ev env with
   |some (.bool true)=>fR C M n a env s k
   |some (.bool false)=>fR C M n b env s k
   |_=>jm.fail)
  | .block id b=>fR C M n b env s fun e env s=>match e with
   | .normal=>k .normal env s
   | .exit i=>bif Nat.beq i id then k .normal env s else k (.exit i) env s
   | .ret=>k .ret env s
  | .loop b=>fR C M n b env s fun e env s=>match e with
   | .normal=>fR C M n (.loop b) env s k
   | .exit i=>k (.exit i) env s
   | .ret=>k .ret env s
  | .exit i=>k (.exit i) env s
  | .ret=>k .ret env s
  | .bad=>jm.fail
  | .uh m p=>(match firsts env m []with
   |some vs=>(match p vs s with
    |some (v,s)=>k .ret (env.set 0 v) s
    |none=>jm.fail)
   |none=>jm.fail)
def evF(C:Nat→Option dW)(M:Nat→String→Option Nat)(n f:Nat)(args:List V)(s:St)(k:V→St→R):R:=
 match C f with
 |none=>jm.fail
 |some fn=>
  bif Nat.ble args.length fn.ntmps then
   fR C M n fn.body (cT args 0 .e) s fun e env s=>match e with
    | .exit _=>jm.fail
    |_=>(match cV env s fn.results with|some v=>k v s|none=>jm.fail)
  else jm.fail
end
end Go.RE
namespace Go.RE
def rU:Value→Option V
 | .bool b=>some (.bool b)
 | .int k n=>some (.int k n)
 | .string s=>some (.str s.data.toList)
 | .pointer none=>some .aT
 | .slice none 0 0=>some .bu
 | .map none=>some .bK
 | .nilFunc=>some .cZ
 | .nilIface=>some .aK
 |_=>none
def ofL(f:Value→Option V):List Value→Option (List V)
 |[]=>some []
 |x::xs=>match f x with
  |some v=>(match ofL f xs with|some vs=>some (v::vs)|none=>none)
  |none=>none
def ofValue:Value→Option V
 | .agg cs=>(match ofL rU cs.toList with|some l=>some (.agg l)|none=>none)
 | .iface t v=>(match rU v with|some x=>some (.iface t x)|none=>none)
 |v=>rU v
def cO:Operand→Option bB
 | .tmp t=>some (.t t)
 | .const v=>(match ofValue v with|some x=>some (.c x)|none=>none)
 | .func f=>some (.c (.func f [] []))
 | .global _=>none
def nI:List Operand→Option (List bB)
 |[]=>some []
 |x::xs=>match cO x with
  |some v=>(match nI xs with|some vs=>some (v::vs)|none=>none)
  |none=>none
def oe:Option Operand→Option (Option bB)
 |none=>some none
 |some x=>match cO x with
  |some v=>some (some v)
  |none=>none
section
variable(P:Program)
def zeroOf(t:TypeId):Option V:=match P.info? t with
 |some i=>(match i.zero with|some v=>ofValue v|none=>none)
 |none=>none
def iy(t:TypeId):Option Nat:=match P.info? t with
 |some i=>some i.size
 |none=>none
def wI(t:TypeId):Option Nat:=match P.info? t with
 |some i=>some i.bytes
 |none=>none
def spread(t:TypeId):Option (Option Nat):=match P.underlying t with
 |some (.struct _)=>(match iy P t with|some n=>some (some n)|none=>none)
 |some (.array _ _)=>(match iy P t with|some n=>some (some n)|none=>none)
 |some _=>some none
 |none=>none
def dA:Operand→Bool
 | .const _=>true
 |_=>false
def uy:List Field→Option (List (Nat×fD))
 |[]=>some []
 |f::fs=>bif f.name== "_" then none else
  match P.underlying f.type,uy fs with
  |some .bool,some r=>some ((f.offset,.bool)::r)
  |some (.int _),some r=>some ((f.offset,.int)::r)
  |some .string,some r=>some ((f.offset,.str)::r)
  |_,_=>none
def Qp(op:BinOp)(t:TypeId)(x y:Operand):fD:=
 match op with
 | .eql| .neq=>
  (match P.underlying t with
  |some .bool=> .bool
  |some (.int _)=> .int
  |some .string=> .str
  |some (.pointer _)=> .aT
  |some (.slice _)=> .bu
  |some (.map _ _)=> .bK
  |some (.func _ _ _)=> .cZ
  |some (.interface _)=> .iface (!(dA x||dA y))
  |some (.struct fs)=>(match uy P fs.toList with
   |some ks=>bif P.stoodInHeld t||P.eqGuardType P.depth t then .no else .flat ks
   |none=> .no)
  |_=> .no)
 |_=> .no
def places:List Field→Option (List (Nat×Nat))
 |[]=>some []
 |f::fs=>match iy P f.type,places fs with
  |some n,some r=>some ((f.offset,n)::r)
  |_,_=>none
def oL(place:Nat→Option (Nat×Nat)):List (Nat×Operand)→Option (List (Nat×Nat×bB))
 |[]=>some []
 |(i,x)::r=>match place i,cO x,oL place r with
  |some (o,n),some x,some r=>some ((o,n,x)::r)
  |_,_,_=>none
def mh(t:TypeId):Option fD:=match P.underlying t with
 |some .bool=>some .bool
 |some (.int _)=>some .int
 |some .string=>some .str
 |_=>none
def Gn(t:TypeId):Bool:=match P.underlying t with
 |some (.int .u8)=>true
 |_=>false
def oQ(t:TypeId):Option TypeId:=match P.underlying t with
 |some (.slice e)=>some e
 |_=>none
def kZ(b:Builtin)(argTypes:List TypeId)(args:List bB):lH:=
 match b,argTypes,args with
 | .len,t::_,x::_=>(match P.underlying t with
  |some .string=> .s (.len 0 x)
  |some (.slice _)=> .s (.len 1 x)
  |some (.map _ _)=> .s (.len 2 x)
  |_=> .bad)
 | .cap,t::_,x::_=>(match P.underlying t with
  |some (.slice _)=> .s (.cap x)
  |_=> .bad)
 | .max,_,xs=> .s (.max xs)
 | .min,_,xs=> .s (.min xs)
 | .append,[t,u],[a,x]=>(match oQ P t,P.underlying u with
  |some e,some ud=>(match ud,iy P e,wI P e,zeroOf P e with
   | .slice _,some sz,some bs,some z=>bif Nat.beq z.cells.length sz then .h (.append sz bs false a x)else .bad
   | .string,some sz,some bs,some z=>bif Nat.beq z.cells.length sz then .h (.append sz bs true a x)else .bad
   |_,_,_,_=> .bad)
  |_,_=> .bad)
 | .copy,[t,u],[d,x]=>(match oQ P t,P.underlying u with
  |some e,some ud=>(match ud,iy P e with
   | .slice _,some sz=> .h (.copy sz false d x)
   | .string,some sz=> .h (.copy sz true d x)
   |_,_=> .bad)
  |_,_=> .bad)
 | .delete,t::_,[m,k]=>(match P.underlying t with
  |some (.map kt _)=>(match mh P kt with|some kk=> .h (.delete kk m k)|none=> .bad)
  |_=> .bad)
 |_,_,_=> .bad
def cop(o:Op):lH:=
 match o with
 | .move x| .assign x=>(match cO x with|some x=> .s (.aJ x)|none=> .bad)
 | .pick c a b=>(match cO c,cO a,cO b with|some c,some a,some b=> .s (.pick c a b)|_,_,_=> .bad)
 | .alloc e=>(match zeroOf P e with|some z=> .m (.alloc z.cells)|none=> .bad)
 | .box _ x=>(match cO x with|some x=> .m (.box x)|none=> .bad)
 | .build t parts=>(match P.underlying t with
  |some (.struct fs)=>(match zeroOf P t,places P fs.toList with
   |some z,some ps=>(match oL (fun i=>ps[i]?) parts.toList with
    |some l=> .s (.build z.cells l)
    |none=> .bad)
   |_,_=> .bad)
  |_=> .bad)
 | .buildSlice t len parts=>(match oQ P t with
  |some e=>(match iy P e,zeroOf P e with
   |some sz,some z=>bif Nat.ble (len*sz) 16777216&&Nat.beq z.cells.length sz&&Nat.ble 1 sz then
     (match oL (fun i=>some (i*sz,sz)) parts.toList with
     |some l=> .m (.buildSlice sz len z.cells l)
     |none=> .bad)
    else .bad
   |_,_=> .bad)
  |none=> .bad)
 | .load t a=>(match spread P t,cO a with|some n,some a=> .s (.load n a)|_,_=> .bad)
 | .store t a x=>(match iy P t,cO a,cO x with|some n,some a,some x=> .h (.store n a x)|_,_,_=> .bad)
 | .nilCheck x=>(match cO x with|some x=> .s (.nilCheck x)|none=> .bad)
 | .binOp op t x y _=>(match cO x,cO y with|some a,some b=> .s (.bin op (Qp P op t x y) a b)|_,_=> .bad)
 | .unOp op _ x=>(match cO x with|some x=> .s (.un op x)|none=> .bad)
 | .convert src dst x=>(match P.underlying src,P.underlying dst,cO x with
  |some _,some (.int k),some x=> .s (.bI k x)
  |some .string,some .string,some x=> .s (.tF x)
  |some (.slice e),some .string,some x=>bif Gn P e then .s (.toStr x)else .bad
  |some .string,some (.slice e),some x=>bif Gn P e then .m (.qs x)else .bad
  |_,_,_=> .bad)
 | .makeInterface t x=>(match P.underlying t,cO x with
  |some (.interface _),_=> .bad
  |some _,some x=> .s (.fm t x)
  |_,_=> .bad)
 | .makeFunc (.func f) first captured=>(match nI first.toList,nI captured.toList with
  |some a,some b=> .s (.lP f a b)
  |_,_=> .bad)
 | .makeMap t r=>(match P.underlying t,r with
  |some (.map _ _),none=> .m .makeMap
  |some (.map _ _),some (.const (.int _ _))=> .m .makeMap
  |_,_=> .bad)
 | .makeSlice t l c=>(match oQ P t with
  |some e=>(match iy P e,wI P e,zeroOf P e,cO l,cO c with
   |some sz,some bs,some z,some l,some c=>bif Nat.beq z.cells.length sz&&Nat.ble 1 sz then .m (.makeSlice sz bs z.cells l c)else .bad
   |_,_,_,_,_=> .bad)
  |none=> .bad)
 | .slice t x lo hi mx=>(match P.underlying t,cO x,oe lo,oe hi,oe mx with
  |some .string,some x,some lo,some hi,some none=> .s (.jJ x lo hi)
  |some (.slice e),some x,some lo,some hi,some mx=>(match iy P e with
   |some sz=>bif mx.isSome&& !hi.isSome then .bad else .s (.slice sz x lo hi mx)
   |none=> .bad)
  |some (.array n e),some x,some lo,some hi,some none=>(match iy P e with
   |some sz=> .s (.ir n sz x lo hi)
   |none=> .bad)
  |_,_,_,_,_=> .bad)
 | .fieldAddr t x f=>(match P.underlying t,cO x with
  |some (.struct fs),some x=>(match fs[f]? with
   |some f=>(match iy P f.type with
    |some (_+1)=> .s (.fieldAddr f.offset x)
    |_=> .bad)
   |none=> .bad)
  |_,_=> .bad)
 | .field t x f=>(match P.underlying t,cO x with
  |some (.struct fs),some x=>(match fs[f]? with
   |some f=>(match spread P f.type with
    |some n=> .s (.field f.offset n x)
    |none=> .bad)
   |none=> .bad)
  |_,_=> .bad)
 | .indexAddr t x i=>(match P.underlying t,cO x,cO i with
  |some (.slice e),some x,some i=>(match iy P e with|some sz=> .s (.indexAddr sz x i)|none=> .bad)
  |some (.array n e),some x,some i=>(match iy P e with|some sz=> .s (.kM n sz x i)|none=> .bad)
  |_,_,_=> .bad)
 | .index t x i=>(match P.underlying t,cO x,cO i with
  |some .string,some x,some i=> .s (.index x i)
  |_,_,_=> .bad)
 | .lookup t x i ok=>(match P.underlying t,cO x,cO i with
  |some (.map k e),some x,some i=>(match zeroOf P e,mh P k with
   |some z,some kk=> .s (.lookup kk z ok x i)
   |_,_=> .bad)
  |_,_,_=> .bad)
 | .mapUpdate t m k x| .insert t m k x=>(match P.underlying t,cO m,cO k,cO x with
  |some (.map kt _),some m,some k,some x=>(match mh P kt with|some kk=> .h (.mapUpdate kk m k x)|none=> .bad)
  |_,_,_,_=> .bad)
 | .extract x i=>(match cO x with|some x=> .s (.extract i x)|none=> .bad)
 | .typeAssert x _ t true=>(match P.underlying t,cO x,zeroOf P t with
  |some (.interface _),_,_=> .bad
  |some _,some x,some z=> .s (.oz t z x)
  |_,_,_=> .bad)
 | .range t x=>(match P.underlying t,cO x with
  |some (.map _ _),some x=> .h (.range x)
  |_,_=> .bad)
 | .entry x=>(match cO x with|some x=> .s (.entry x)|none=> .bad)
 | .next x false=>(match cO x with|some x=> .next x|none=> .bad)
 | .call c=>(match c.callee,nI c.args.toList with
  | .value f,some args=>(match cO f with|some f=> .call f args|none=> .bad)
  | .builtin b,some args=>kZ P b c.argTypes.toList args
  | .invoke r m,some args=>(match cO r with|some r=> .invoke m r args|none=> .bad)
  |_,none=> .bad)
 |_=> .bad
def oM(acc:List Nat)(o:Oper):Nat:=
 o.after.toList.foldl (fun s e=>bif Region.binds .any e then Nat.lor (Nat.lor s (2 ^ e.on)) (acc.getD e.on 0)else s) 0
def guardOf(ops:List Oper)(o:Oper):Option (Option (Nat×Bool)):=
 match o.guard with
 |none=>some none
 |some (j,want)=>match ops[j]? with
  |some p=>(match p.dst with|some d=>some (some (d,want))|none=>none)
  |none=>none
def xZ(n:Nat)(all:List Oper):List Oper→List Nat→Option (List aH)
 |[],_=>some []
 |o::r,acc=>
  match guardOf all o,xZ n all r (acc++[oM acc o])with
  |some g,some l=>
   bif(match o.dst with|some d=>Nat.blt d n|none=>true)then some ({dst:=o.dst,op:=cop P o.op,guard:=g,aS:=oM acc o}::l)else none
  |_,_=>none
def om(o:Oper)(all:List Oper):List Nat:=
 (o.op.operands.toList.filterMap fun| .tmp t=>some t|_=>none)++
 (match o.guard with
  |some (g,_)=>((all[g]?).bind (·.dst)).toList
  |none=>[])
def zL(all:List Oper)(cs:List aH):Bool:=
 (List.range all.length).all fun i=>
  (match all[i]?,cs[i]? with
  |some o,some _=>
   o.after.toList.all (fun e=> !Region.binds .any e||Nat.blt e.on i)&&
   (List.range all.length).all (fun j=>Nat.beq i j||
    (match all[j]?,cs[j]? with
    |some p,some d=>
     (match p.dst with
     |none=>true
     |some t=>
      (match o.dst with|some u=> !Nat.beq t u|none=>true)&&
      (!(om o all).elem t||Nat.testBit ((cs.getD i default).aS) j||Nat.testBit d.aS i))
    |_,_=>true))
  |_,_=>false)
def iN(n:Nat):Code→ag
 | .skip=> .skip
 | .region _ ops draw=>(match xZ P n ops.toList ops.toList []with
  |some l=>bif draw then(bif zL ops.toList l then .draw l else .bad)else .region l
  |none=> .bad)
 | .seq a b=> .seq (iN n a) (iN n b)
 | .cond c a b=>(match cO c with|some c=> .cond c (iN n a) (iN n b)|none=> .bad)
 | .block id b=> .block id (iN n b)
 | .loop b=> .loop (iN n b)
 | .exit id=> .exit id
 | .ret=> .ret
 | .scope b=> .seq (iN n b) .skip
 | .label _=> .skip
 |_=> .bad
def rj:List ResultVar→Option (List uH)
 |[]=>some []
 | .tmp t::r=>(match rj r with|some l=>some (.t t::l)|none=>none)
 | .cell a t::r=>(match spread P t,rj r with|some n,some l=>some (.cell a n::l)|_,_=>none)
def qgJ(f:Nat):Option dW:=
 match P.funcs[f]? with
 |none=>none
 |some fn=>match fn.body with
  |none=>none
  |some b=>bif fn.name== "runtime.NumGoroutine" then none else
   match rj P fn.results.toList with
   |some rs=>some {ntmps:=fn.ntmps,results:=rs,body:=iN P fn.ntmps b}
   |none=>none
def methodOf(t:Nat)(name:String):Option Nat:=
 match P.info? t with
 |none=>none
 |some i=>match i.methods.find? (·.name==name)with
  |none=>none
  |some m=>bif m.path.isEmpty then(match m.func,P.underlying t with
   |some (f,true),some (.pointer _)=>some f
   |some (_,false),some (.pointer _)=>none
   |some (f,false),some _=>some f
   |_,_=>none)else none
end
end Go.RE
namespace Go.RE
abbrev Ren:=Nat→Option (Nat×Nat×Nat)
def Ren.le(ρ ρ' :Ren):Prop:=∀ n x,ρ n=some x→ρ' n=some x
inductive aE(w0:World)(ρ:Ren):V→Value→Prop
 |bool (b:Bool):aE w0 ρ (.bool b) (.bool b)
 |int (k:IntKind) (n:Int):aE w0 ρ (.int k n) (.int k n)
 |str {l:List UInt8} {s:ByteArray} (h:s.data.toList=l):aE w0 ρ (.str l) (.string s)
 |aT:aE w0 ρ .aT (.pointer none)
 |ptr {b off r o lim:Nat} (h:ρ b=some (r,o,lim)):aE w0 ρ (.ptr b off) (.pointer (some ⟨r,o+off,none⟩))
 |dI {row:List V} {off r o:Nat} (c:Nat→Value) (hr:row≠[]→r<w0.heap.size) (hc:∀ i,i<row.length→w0.cell? ⟨r,o+i,none⟩=some (c i))
   (hv:∀ i (h:i<row.length),aE w0 ρ row[i] (c i)):aE w0 ρ (.dI row off) (.pointer (some ⟨r,o+off,none⟩))
 |bu:aE w0 ρ .bu (.slice none 0 0)
 |bQ {a:Addr}:aE w0 ρ .bQ (.slice (some a) 0 0)
 |slice {b off len cap sz:Nat} {ex:Bool} {r o lim:Nat} {a:Addr} {cap' :Nat} (h:ρ b=some (r,o,lim)) (h1:cap≤cap') (h2:ex=true→cap' =cap)
   (h3:len≤cap) (h4:cap' =0∨(a=⟨r,o+off,none⟩∧o+off+cap'*sz≤lim)):aE w0 ρ (.slice b off len cap sz ex) (.slice (some a) len cap')
 |aj {row:List V} {off len sz r o:Nat} {a:Addr} {cap' :Nat} (c:Nat→Value) (hr:row≠[]→r<w0.heap.size) (hc:∀ i,i<row.length→w0.cell? ⟨r,o+i,none⟩=some (c i))
   (hv:∀ i (h:i<row.length),aE w0 ρ row[i] (c i)) (h3:len≤cap') (h4:cap' =0∨a=⟨r,o+off,none⟩):aE w0 ρ (.aj row off len sz) (.slice (some a) len cap')
 |bK:aE w0 ρ .bK (.map none)
 |map {b r o lim:Nat} (h:ρ b=some (r,o,lim)):aE w0 ρ (.map b) (.map (some r))
 |cZ:aE w0 ρ .cZ .nilFunc
 |func {f:Nat} {a b:List V} {a' b' :Array Value} (ha:a.length=a'.size) (hb:b.length=b'.size)
   (va:∀ i (h:i<a.length) (h' :i<a'.size),aE w0 ρ a[i] a'[i]) (vb:∀ i (h:i<b.length) (h' :i<b'.size),aE w0 ρ b[i] b'[i]):aE w0 ρ (.func f a b) (.func (.func f) a' b')
 |aK:aE w0 ρ .aK .nilIface
 |iface {t:Nat} {v:V} {v' :Value} (h:aE w0 ρ v v'):aE w0 ρ (.iface t v) (.iface t v')
 |agg {a:List V} {a' :Array Value} (ha:a.length=a'.size) (va:∀ i (h:i<a.length) (h' :i<a'.size),aE w0 ρ a[i] a'[i]):aE w0 ρ (.agg a) (.agg a')
 |aP {a:List V} {a' :Array Value} (ha:a.length=a'.size) (va:∀ i (h:i<a.length) (h' :i<a'.size),aE w0 ρ a[i] a'[i]):aE w0 ρ (.aP a) (.tuple a')
theorem aE.mono{w0:World}{ρ ρ' :Ren}(hρ:ρ.le ρ'){v:V}{x:Value}(h:aE w0 ρ v x):aE w0 ρ' v x:=by
 induction h with
 |bool b=>exact .bool b
 |int k n=>exact .int k n
 |str h=>exact .str h
 |aT=>exact .aT
 |ptr h=>exact .ptr (hρ _ _ h)
 |dI c hr hc _ ih=>exact .dI c hr hc ih
 |bu=>exact .bu
 |bQ=>exact .bQ
 |slice h h1 h2 h3 h4=>exact .slice (hρ _ _ h) h1 h2 h3 h4
 |aj c hr hc _ h3 h4 ih=>exact .aj c hr hc ih h3 h4
 |bK=>exact .bK
 |map h=>exact .map (hρ _ _ h)
 |cZ=>exact .cZ
 |func ha hb _ _ iha ihb=>exact .func ha hb iha ihb
 |aK=>exact .aK
 |iface _ ih=>exact .iface ih
 |agg ha _ ih=>exact .agg ha ih
 |aP ha _ ih=>exact .aP ha ih
def aX(w0:World)(ρ:Ren)(a:List V)(b:List Value):Prop:=a.length=b.length∧∀ i (h:i<a.length) (h' :i<b.length),aE w0 ρ a[i] b[i]
theorem aX.nil{w0:World}{ρ:Ren}:aX w0 ρ [] []:=⟨rfl,fun i h=>by simp at h⟩
theorem aX.cons{w0:World}{ρ:Ren}{a:V}{b:Value}{as:List V}{bs:List Value}(h:aE w0 ρ a b)(hs:aX w0 ρ as bs):aX w0 ρ (a::as) (b::bs):=
 ⟨by simp[hs.1],fun i h1 h2=>by
  cases i with
  |zero=>simpa using h
  |succ i=>simpa using hs.2 i (by simpa using h1) (by simpa using h2)⟩
theorem aX.append{w0:World}{ρ:Ren}{a c:List V}{b d:List Value}(h:aX w0 ρ a b)(hs:aX w0 ρ c d):aX w0 ρ (a++c) (b++d):=
 ⟨by simp[h.1,hs.1],fun i h1 h2=>by
  have e:=h.1;by_cases hi:i<a.length
  ·rw[List.getElem_append_left hi,List.getElem_append_left (by omega)];exact h.2 i hi (by omega)
  ·simp only[oC]at h1 h2;rw[List.getElem_append_right (by omega),List.getElem_append_right (by omega)];have:=hs.2 (i - a.length) (by omega) (by omega);simpa[e]using this⟩
theorem aX.take{w0:World}{ρ:Ren}{a:List V}{b:List Value}(n:Nat)(h:aX w0 ρ a b):aX w0 ρ (a.take n) (b.take n):=
 ⟨by simp[h.1],fun i h1 h2=>by
  simp only[List.length_take]at h1 h2;simpa using h.2 i (by omega) (by omega)⟩
theorem aX.drop{w0:World}{ρ:Ren}{a:List V}{b:List Value}(n:Nat)(h:aX w0 ρ a b):aX w0 ρ (a.drop n) (b.drop n):=
 ⟨by simp[h.1],fun i h1 h2=>by
  simp only[List.length_drop]at h1 h2;simpa using h.2 (n+i) (by omega) (by omega)⟩
theorem aX.of_array{w0:World}{ρ:Ren}{a:List V}{b:Array Value}(h:a.length=b.size)(hv:∀ i (h:i<a.length) (h' :i<b.size),aE w0 ρ a[i] b[i]):aX w0 ρ a b.toList:=
 ⟨by simpa using h,fun i h1 h2=>by simpa using hv i h1 (by simpa using h2)⟩
theorem aX.get{w0:World}{ρ:Ren}{a:List V}{b:List Value}(h:aX w0 ρ a b){i:Nat}{v:V}(hv:a[i]? =some v):∃ x,b[i]? =some x∧aE w0 ρ v x:=by
 obtain⟨hi,rfl⟩:=cz.1 hv;exact⟨b[i]'(h.1▸hi),dm _,h.2 i hi (h.1▸hi)⟩
theorem aX.eF{w0:World}{ρ:Ren}{b:List Value}(h:aX w0 ρ [] b):b=[]:=by
 have:=h.1;simp at this;exact pQ this.symm
theorem aX.cq{w0:World}{ρ:Ren}{a:V}{as:List V}{b:List Value}(h:aX w0 ρ (a::as) b):∃ x xs,b=x::xs∧aE w0 ρ a x∧aX w0 ρ as xs:=by
 cases b with
 |nil=>have:=h.1;simp at this
 |cons x xs=>
  refine⟨x,xs,rfl,?_,?_,fun i h1 h2=> ?_⟩
  ·exact h.2 0 (by simp) (by simp)
  ·have:=h.1;simpa using this
  ·exact h.2 (i+1) (by simpa using h1) (by simpa using h2)
theorem aE.DF{w0:World}{ρ:Ren}{a:List V}{b:List Value}(h:aX w0 ρ a b):aE w0 ρ (.agg a) (.agg b.toArray):=
 .agg (by simpa using h.1) fun i h1 h2=>by simpa using h.2 i h1 (by simpa using h2)
theorem aE.lC{w0:World}{ρ:Ren}{a:List V}{b:List Value}(h:aX w0 ρ a b):aE w0 ρ (.aP a) (.tuple b.toArray):=
 .aP (by simpa using h.1) fun i h1 h2=>by simpa using h.2 i h1 (by simpa using h2)
theorem aE.cells{w0:World}{ρ:Ren}{v:V}{x:Value}(h:aE w0 ρ v x):aX w0 ρ v.cells x.cells.toList:=by
 cases h with
 |agg ha va=>exact aX.of_array ha va
 |bool b=>exact aX.cons (.bool b) .nil
 |int k n=>exact aX.cons (.int k n) .nil
 |str h=>exact aX.cons (.str h) .nil
 |aT=>exact aX.cons .aT .nil
 |ptr h=>exact aX.cons (.ptr h) .nil
 |dI c hr hc hv=>exact aX.cons (.dI c hr hc hv) .nil
 |bu=>exact aX.cons .bu .nil
 |bQ=>exact aX.cons .bQ .nil
 |slice h h1 h2 h3 h4=>exact aX.cons (.slice h h1 h2 h3 h4) .nil
 |aj c hr hc hv h3 h4=>exact aX.cons (.aj c hr hc hv h3 h4) .nil
 |bK=>exact aX.cons .bK .nil
 |map h=>exact aX.cons (.map h) .nil
 |cZ=>exact aX.cons .cZ .nil
 |func ha hb va vb=>exact aX.cons (.func ha hb va vb) .nil
 |aK=>exact aX.cons .aK .nil
 |iface h=>exact aX.cons (.iface h) .nil
 |aP ha va=>exact aX.cons (.aP ha va) .nil
theorem aE.one{w0:World}{ρ:Ren}{v:V}{x:Value}(h:aE w0 ρ v x)(h1:v.one=true):(∀ c,x≠.agg c)∧(∀ c,x≠.tuple c):=by
 cases h<;>simp[V.one]at h1⊢
def kO(w0:World)(ρ:Ren)(o lim:Nat):Option Ob→Option Obj→Prop
 |some (.row cs),x=>∃ c t fr,x=some (.cells c t fr)∧c.size=lim∧o+cs.length≤lim∧(∀ j,j<lim→¬(fr.1≤j∧j<fr.2))∧
   ∀ i (h:i<cs.length),∃ v,c[o+i]? =some v∧aE w0 ρ cs[i] v
 |some (.map es clock),x=>∃ es',x=some (.map es' clock)∧es.length=es'.size∧
   ∀ i (h:i<es.length) (h' :i<es'.size),aE w0 ρ es[i].key es'[i].key∧aE w0 ρ es[i].val es'[i].val∧es[i].born=es'[i].born
 |some (.fS m since seen stepped),x=>∃ m',x=some (.mapIter m' since seen.toArray stepped)∧
   (match m with|none=>m' =none|some n=>∃ r o lim,ρ n=some (r,o,lim)∧m' =some r)∧o=0
 |some .dead,_=>True
 |none,_=>True
def live:Option Ob→Prop
 |some .dead=>False
 |none=>False
 |_=>True
theorem kO.mono{w0:World}{ρ ρ' :Ren}(hρ:ρ.le ρ'){o lim:Nat}{ob:Option Ob}{x:Option Obj}(h:kO w0 ρ o lim ob x):kO w0 ρ' o lim ob x:=by
 cases ob with
 |none=>trivial
 |some ob=>
  cases ob with
  |dead=>trivial
  |row cs=>
   obtain⟨c,t,fr,e1,e2,e3,e4,e5⟩:=h;exact⟨c,t,fr,e1,e2,e3,e4,fun i hi=>let⟨v,a,b⟩:=e5 i hi;⟨v,a,b.mono hρ⟩⟩
  |map es clock=>
   obtain⟨es',e1,e2,e3⟩:=h;exact⟨es',e1,e2,fun i h1 h2=>⟨(e3 i h1 h2).1.mono hρ,(e3 i h1 h2).2.1.mono hρ,(e3 i h1 h2).2.2⟩⟩
  |fS m since seen stepped=>
   obtain⟨m',e1,e2,e3⟩:=h;refine⟨m',e1,?_,e3⟩;cases m with
   |none=>exact e2
   |some n=>obtain⟨r,o,lim,a,b⟩:=e2;exact⟨r,o,lim,hρ _ _ a,b⟩
structure Rel(w0:World)(ρ:Ren)(s:St)(w:World):Prop where
 old:∀ r,r<w0.heap.size→w.heap[r]? =w0.heap[r]?
 size:w0.heap.size≤w.heap.size
 os:w.os=w0.os
 output:w.output=w0.output
 dom:∀ n r o lim,ρ n=some (r,o,lim)→n<s.next∧w0.heap.size≤r∧r<w.heap.size
 fresh:∀ n,s.next≤n→s.get n=none
 ob:∀ n r o lim,ρ n=some (r,o,lim)→kO w0 ρ o lim (s.get n) w.heap[r]?
 inj:∀ n m r o lim o' lim',ρ n=some (r,o,lim)→ρ m=some (r,o',lim')→live (s.get n)→live (s.get m)→n=m
structure kK(ρ:Ren)(s:St)(w:World)(ρ' :Ren)(s' :St)(w' :World):Prop where
 next:s.next≤s'.next
 ren:ρ.le ρ'
 new:∀ n x,ρ n=none→ρ' n=some x→s.next≤n
 A5:w.heap.size≤w'.heap.size
 sk:∀ n,n<s.next→ρ n=none→s'.get n=s.get n
 wk:∀ r,r<w.heap.size→(∀ n x,ρ n=some x→x.1≠r)→w'.heap[r]? =w.heap[r]?∧∀ n x,ρ' n=some x→x.1≠r
theorem Ren.le_refl(ρ:Ren):ρ.le ρ:=fun _ _ h=>h
theorem Ren.le_trans{a b c:Ren}(h:a.le b)(h' :b.le c):a.le c:=fun n x e=>h' n x (h n x e)
theorem kK.refl(ρ:Ren)(s:St)(w:World):kK ρ s w ρ s w:=
 ⟨aM _,Ren.le_refl ρ,fun n x h h' =>by rw[h]at h';simp at h',aM _,fun _ _ _=>rfl,fun _ _ h=>⟨rfl,h⟩⟩
theorem kK.trans{ρ ρ' ρ'' :Ren}{s s' s'' :St}{w w' w'' :World}(h:kK ρ s w ρ' s' w')(h' :kK ρ' s' w' ρ'' s'' w''):kK ρ s w ρ'' s'' w'' where
 next:=Nat.le_trans h.next h'.next
 ren:=Ren.le_trans h.ren h'.ren
 new n x e e' :=by
  cases hm:ρ' n with
  |none=>exact Nat.le_trans h.next (h'.new n x hm e')
  |some y=>exact h.new n y e hm
 A5:=Nat.le_trans h.A5 h'.A5
 sk n hn e:=by
  have hm:ρ' n=none:=by
   cases hm:ρ' n with
   |none=>rfl
   |some y=>have:=h.new n y e hm;omega
  rw[h'.sk n (o4 hn h.next) hm,h.sk n hn e]
 wk r hr e:=by
  obtain⟨a,b⟩:=h.wk r hr e;obtain⟨c,d⟩:=h'.wk r (o4 hr h.A5) b;exact⟨c.trans a,d⟩
theorem Rel.same{w0:World}{ρ:Ren}{s:St}{w w' :World}(h:Rel w0 ρ s w)(hh:w'.heap=w.heap)(ho:w'.os=w.os)(hp:w'.output=w.output):Rel w0 ρ s w' where
 old r hr:=by rw[hh];exact h.old r hr
 size:=by rw[hh];exact h.size
 os:=ho.trans h.os
 output:=hp.trans h.output
 dom n r o lim e:=by rw[hh];exact h.dom n r o lim e
 fresh:=h.fresh
 ob n r o lim e:=by rw[hh];exact h.ob n r o lim e
 inj:=h.inj
theorem kK.same{ρ:Ren}{s:St}{w w' :World}(hh:w'.heap=w.heap):kK ρ s w ρ s w' :=
 ⟨aM _,Ren.le_refl ρ,fun n x h h' =>by rw[h]at h';simp at h',by rw[hh];exact aM _,fun _ _ _=>rfl,fun _ _ h=>⟨by rw[hh],h⟩⟩
theorem St.eE(s:St)(n:Nat)(o:Ob)(m:Nat):(s.put n o).get m=if m=n then some o else s.get m:=PT.iW _ _ _ _
theorem St.dG(s:St)(o:Ob)(m:Nat):(s.alloc o).get m=if m=s.next then some o else s.get m:=PT.iW _ _ _ _
def Ren.add(ρ:Ren)(n:Nat)(x:Nat×Nat×Nat):Ren:=fun m=>if m=n then some x else ρ m
theorem Ren.zR{ρ:Ren}{n:Nat}(x:Nat×Nat×Nat)(h:ρ n=none):ρ.le (ρ.add n x):=fun m y e=>by
 unfold Ren.add;by_cases hm:m=n
 ·subst hm;rw[h]at e;simp at e
 ·rw[if_neg hm];exact e
theorem Ren.add_same(ρ:Ren)(n:Nat)(x:Nat×Nat×Nat):(ρ.add n x) n=some x:=by simp[Ren.add]
theorem Rel.realize{w0:World}{ρ:Ren}{s:St}{w:World}(h:Rel w0 ρ s w){n:Nat}{ob:Ob}{obj:Obj}{lim:Nat}(hn:n<s.next)(hρ:ρ n=none)(hs:s.get n=some ob)
  (ho:kO w0 ρ 0 lim (some ob) (some obj)):Rel w0 (ρ.add n (w.heap.size,0,lim)) s (w.alloc obj):=by
 have hle:=Ren.zR (ρ:=ρ) (n:=n) (w.heap.size,0,lim) hρ;have hold:∀ r,r<w.heap.size→(w.alloc obj).heap[r]? =w.heap[r]? :=fun r hr=>by
  show(w.heap.push obj)[r]? =_;rw[Array.getElem?_push,if_neg (Nat.ne_of_lt hr)]
 have hnew:(w.alloc obj).heap[w.heap.size]? =some obj:=by
  show(w.heap.push obj)[w.heap.size]? =_;simp
 refine⟨fun r hr=> ?_,?_,h.os,h.output,fun m r o l e=> ?_,h.fresh,fun m r o l e=> ?_,fun m k r o l o' l' e e' lm lk=> ?_⟩
 ·rw[hold r (o4 hr h.size)];exact h.old r hr
 ·have:=h.size;simp;omega
 ·unfold Ren.add at e;by_cases hm:m=n
  ·rw[if_pos hm]at e;simp at e;obtain⟨rfl,rfl,rfl⟩:=e;refine⟨by omega,h.size,by simp⟩
  ·rw[if_neg hm]at e;have:=h.dom m r o l e;simp;omega
 ·unfold Ren.add at e;by_cases hm:m=n
  ·rw[if_pos hm]at e;simp at e;obtain⟨rfl,rfl,rfl⟩:=e;subst hm;rw[hs,hnew];exact ho.mono hle
  ·rw[if_neg hm]at e;rw[hold r (h.dom m r o l e).2.2];exact(h.ob m r o l e).mono hle
 ·unfold Ren.add at e e';by_cases hm:m=n
  ·by_cases hk:k=n
   ·omega
   ·rw[if_pos hm]at e;rw[if_neg hk]at e';simp at e;have:=(h.dom k r o' l' e').2.2;omega
  ·by_cases hk:k=n
   ·rw[if_pos hk]at e';rw[if_neg hm]at e;simp at e';have:=(h.dom m r o l e).2.2;omega
   ·rw[if_neg hm]at e;rw[if_neg hk]at e';exact h.inj m k r o l o' l' e e' lm lk
theorem G0{ρ:Ren}{w:World}{n:Nat}{obj:Obj}{lim:Nat}:
  (∀ r,r<w.heap.size→(∀ n x,ρ n=some x→x.1≠r)→(w.alloc obj).heap[r]? =w.heap[r]?∧∀ m x,(ρ.add n (w.heap.size,0,lim)) m=some x→x.1≠r):=by
 intro r hr e;refine⟨?_,fun m x hm=> ?_⟩
 ·show(w.heap.push obj)[r]? =_;rw[Array.getElem?_push,if_neg (Nat.ne_of_lt hr)]
 ·unfold Ren.add at hm;by_cases h:m=n
  ·rw[if_pos h]at hm;simp at hm;subst hm;simp;omega
  ·rw[if_neg h]at hm;exact e m x hm
theorem Rel.oU{w0:World}{ρ:Ren}{s:St}{w:World}(h:Rel w0 ρ s w)(ob:Ob):Rel w0 ρ (s.alloc ob) w where
 old:=h.old
 size:=h.size
 os:=h.os
 output:=h.output
 dom n r o lim e:=by have:=h.dom n r o lim e;exact⟨Nat.lt_succ_of_lt this.1,this.2⟩
 fresh n hn:=by
  have hn' :s.next+1≤n:=hn
  rw[St.dG,if_neg (by omega)];exact h.fresh n (by omega)
 ob n r o lim e:=by
  have:=h.dom n r o lim e;rw[St.dG,if_neg (by omega)];exact h.ob n r o lim e
 inj n m r o lim o' lim' e e' ln lm:=by
  have h1:=h.dom n r o lim e;have h2:=h.dom m r o' lim' e';rw[St.dG,if_neg (by omega)]at ln lm;exact h.inj n m r o lim o' lim' e e' ln lm
theorem Rel.unnamed{w0:World}{ρ:Ren}{s:St}{w:World}(h:Rel w0 ρ s w){n:Nat}(hn:s.next≤n):ρ n=none:=by
 cases e:ρ n with
 |none=>rfl
 |some x=>obtain⟨r,o,lim⟩:=x;have:=(h.dom n r o lim e).1;omega
theorem Rel.alloc{w0:World}{ρ:Ren}{s:St}{w:World}(h:Rel w0 ρ s w){ob:Ob}{obj:Obj}{lim:Nat}(ho:kO w0 ρ 0 lim (some ob) (some obj)):
  Rel w0 (ρ.add s.next (w.heap.size,0,lim)) (s.alloc ob) (w.alloc obj)∧kK ρ s w (ρ.add s.next (w.heap.size,0,lim)) (s.alloc ob) (w.alloc obj):=by
 have hρ:=h.unnamed (aM s.next);refine⟨(h.oU ob).realize (Nat.lt_succ_self _) hρ (by rw[St.dG,if_pos rfl]) ho,Nat.le_succ _,Ren.zR _ hρ,fun n x e e' => ?_,by simp,fun n hn e=> ?_,G0⟩
 ·unfold Ren.add at e';by_cases hm:n=s.next
  ·omega
  ·rw[if_neg hm]at e';rw[e]at e';simp at e'
 ·rw[St.dG,if_neg (by omega)]
theorem Rel.put{w0:World}{ρ:Ren}{s:St}{w:World}(h:Rel w0 ρ s w){n r o lim:Nat}(e:ρ n=some (r,o,lim))(hl:live (s.get n)){ob:Ob}{obj:Obj}
  (ho:kO w0 ρ o lim (some ob) (some obj)):Rel w0 ρ (s.put n ob) {w with heap:=w.heap.setIfInBounds r obj}∧kK ρ s w ρ (s.put n ob) {w with heap:=w.heap.setIfInBounds r obj}:=by
 have hd:=h.dom n r o lim e;refine⟨⟨fun k hk=> ?_,?_,h.os,h.output,fun m r' o' l' e' => ?_,fun m hm=> ?_,fun m r' o' l' e' => ?_,fun m k r' o' l' o'' l'' e' e'' lm lk=> ?_⟩,aM _,Ren.le_refl _,fun m x a b=>by rw[a]at b;simp at b,by simp,fun m hm e' => ?_,fun k hk hx=>⟨?_,hx⟩⟩
 ·show(w.heap.setIfInBounds r obj)[k]? =_;rw[Array.getElem?_setIfInBounds_ne (by omega)];exact h.old k hk
 ·simpa using h.size
 ·have:=h.dom m r' o' l' e';simpa[St.put]using this
 ·have hm' :s.next≤m:=hm
  rw[St.eE,if_neg (by omega)];exact h.fresh m hm'
 ·show kO w0 ρ o' l' _ (w.heap.setIfInBounds r obj)[r']?;rw[St.eE];by_cases hm:m=n
  ·subst hm;rw[e]at e';simp at e';obtain⟨rfl,rfl,rfl⟩:=e';rw[if_pos rfl,Array.getElem?_setIfInBounds_self_of_lt hd.2.2];exact ho
  ·rw[if_neg hm];by_cases hr:r' =r
   ·subst hr;by_cases lm:live (s.get m)
    ·exact absurd (h.inj m n r' o' l' o lim e' e lm hl) hm
    ·cases hob:s.get m with
     |none=>trivial
     |some x=>cases x<;>first|trivial|(rw[hob]at lm;exact absurd trivial lm)
   ·rw[Array.getElem?_setIfInBounds_ne (fun x=>hr x.symm)];exact h.ob m r' o' l' e'
 ·have key:∀ x,live ((s.put n ob).get x)→x≠n→live (s.get x):=fun x hx hne=>by rw[St.eE,if_neg hne]at hx;exact hx
  by_cases hm:m=n
  ·by_cases hk:k=n
   ·omega
   ·subst hm;exact h.inj m k r' o' l' o'' l'' e' e'' hl (key k lk hk)
  ·by_cases hk:k=n
   ·subst hk;exact h.inj m k r' o' l' o'' l'' e' e'' (key m lm hm) hl
   ·exact h.inj m k r' o' l' o'' l'' e' e'' (key m lm hm) (key k lk hk)
 ·rw[St.eE,if_neg (fun x=>by subst x;rw[e]at e';simp at e')]
 ·show(w.heap.setIfInBounds r obj)[k]? =_;rw[Array.getElem?_setIfInBounds_ne (fun x=>hx n (r,o,lim) e x)]
theorem Rel.kill{w0:World}{ρ:Ren}{s:St}{w:World}(h:Rel w0 ρ s w){n r o lim:Nat}(e:ρ n=some (r,o,lim)):
  Rel w0 ρ (s.put n .dead) w∧kK ρ s w ρ (s.put n .dead) w:=by
 have hd:=h.dom n r o lim e;have key:∀ x,live ((s.put n .dead).get x)→live (s.get x):=fun x hx=>by
  rw[St.eE]at hx;by_cases hne:x=n
  ·rw[if_pos hne]at hx;exact hx.elim
  ·rw[if_neg hne]at hx;exact hx
 refine⟨⟨h.old,h.size,h.os,h.output,h.dom,fun m hm=> ?_,fun m r' o' l' e' => ?_,fun m k r' o' l' o'' l'' e' e'' lm lk=>h.inj m k r' o' l' o'' l'' e' e'' (key m lm) (key k lk)⟩,aM _,Ren.le_refl _,fun m x a b=>by rw[a]at b;simp at b,aM _,fun m hm e' => ?_,fun k hk hx=>⟨rfl,hx⟩⟩
 ·have hm' :s.next≤m:=hm
  rw[St.eE,if_neg (by omega)];exact h.fresh m hm'
 ·rw[St.eE];by_cases hm:m=n
  ·rw[if_pos hm];trivial
  ·rw[if_neg hm];exact h.ob m r' o' l' e'
 ·rw[St.eE,if_neg (fun x=>by subst x;rw[e]at e';simp at e')]
theorem Rel.grow{w0:World}{ρ:Ren}{s:St}{w:World}(h:Rel w0 ρ s w){n r o lim:Nat}(e:ρ n=some (r,o,lim))(hl:live (s.get n)){ob:Ob}{obj:Obj}{o' :Nat}
  (ho:kO w0 ρ o' lim (some ob) (some obj)):
  Rel w0 (ρ.add s.next (r,o',lim)) ((s.put n .dead).alloc ob) {w with heap:=w.heap.setIfInBounds r obj}∧
  kK ρ s w (ρ.add s.next (r,o',lim)) ((s.put n .dead).alloc ob) {w with heap:=w.heap.setIfInBounds r obj}:=by
 have hd:=h.dom n r o lim e;have hρ:=h.unnamed (aM s.next);have hle:=Ren.zR (ρ:=ρ) (n:=s.next) (r,o',lim) hρ;have hget:∀ m,((s.put n .dead).alloc ob).get m=if m=s.next then some ob else if m=n then some .dead else s.get m:=fun m=>by
  rw[St.dG,St.eE];rfl
 have hlv:∀ x,x≠s.next→live (((s.put n .dead).alloc ob).get x)→x≠n∧live (s.get x):=fun x hne hx=>by
  rw[hget,if_neg hne]at hx;by_cases hn:x=n
  ·rw[if_pos hn]at hx;exact hx.elim
  ·rw[if_neg hn]at hx;exact⟨hn,hx⟩
 have hsplit:∀ m x,(ρ.add s.next (r,o',lim)) m=some x→(m=s.next∧x=(r,o',lim))∨(m≠s.next∧ρ m=some x):=fun m x hx=>by
  unfold Ren.add at hx;by_cases hm:m=s.next
  ·rw[if_pos hm]at hx;simp at hx;exact .inl ⟨hm,hx.symm⟩
  ·rw[if_neg hm]at hx;exact .inr ⟨hm,hx⟩
 refine⟨⟨fun k hk=> ?_,?_,h.os,h.output,fun m r' o'' l' e' => ?_,fun m hm=> ?_,fun m r' o'' l' e' => ?_,fun m k r' p l' p' l'' e' e'' lm lk=> ?_⟩,Nat.le_succ _,hle,fun m x a b=> ?_,by simp,fun m hm e' => ?_,fun k hk hx=>⟨?_,fun m x hm=> ?_⟩⟩
 ·show(w.heap.setIfInBounds r obj)[k]? =_;rw[Array.getElem?_setIfInBounds_ne (by omega)];exact h.old k hk
 ·simpa using h.size
 ·show m<s.next+1∧_
  rcases hsplit m _ e' with⟨h1,h2⟩|⟨h1,h2⟩
  ·simp at h2;obtain⟨rfl,rfl,rfl⟩:=h2;simp;omega
  ·have:=h.dom m r' o'' l' h2;simp;omega
 ·have hm' :s.next+1≤m:=hm
  rw[hget,if_neg (by omega),if_neg (by omega)];exact h.fresh m (by omega)
 ·show kO w0 _ o'' l' _ (w.heap.setIfInBounds r obj)[r']?;rcases hsplit m _ e' with⟨h1,h2⟩|⟨h1,h2⟩
  ·simp at h2;obtain⟨rfl,rfl,rfl⟩:=h2;rw[hget,if_pos h1,Array.getElem?_setIfInBounds_self_of_lt hd.2.2];exact ho.mono hle
  ·rw[hget,if_neg h1];by_cases hm:m=n
   ·rw[if_pos hm];trivial
   ·rw[if_neg hm];by_cases hr:r' =r
    ·subst hr;by_cases lm:live (s.get m)
     ·exact absurd (h.inj m n r' o'' l' o lim h2 e lm hl) hm
     ·cases hob:s.get m with
      |none=>trivial
      |some x=>cases x<;>first|trivial|(rw[hob]at lm;exact absurd trivial lm)
    ·rw[Array.getElem?_setIfInBounds_ne (fun x=>hr x.symm)];exact(h.ob m r' o'' l' h2).mono hle
 ·rcases hsplit m _ e' with⟨h1,h2⟩|⟨h1,h2⟩
  ·rcases hsplit k _ e'' with⟨h3,h4⟩|⟨h3,h4⟩
   ·omega
   ·simp at h2;obtain⟨rfl,rfl,rfl⟩:=h2;obtain⟨a,b⟩:=hlv k h3 lk;exact absurd (h.inj k n r' p' l'' o _ h4 e b hl) a
  ·rcases hsplit k _ e'' with⟨h3,h4⟩|⟨h3,h4⟩
   ·simp at h4;obtain⟨rfl,rfl,rfl⟩:=h4;obtain⟨a,b⟩:=hlv m h1 lm;exact absurd (h.inj m n r' p l' o _ h2 e b hl) a
   ·exact h.inj m k r' p l' p' l'' h2 h4 (hlv m h1 lm).2 (hlv k h3 lk).2
 ·rcases hsplit m _ b with⟨h1,h2⟩|⟨h1,h2⟩
  ·omega
  ·rw[a]at h2;simp at h2
 ·rw[hget,if_neg (by omega),if_neg (fun x=>by subst x;rw[e]at e';simp at e')]
 ·show(w.heap.setIfInBounds r obj)[k]? =_;rw[Array.getElem?_setIfInBounds_ne (fun x=>hx n (r,o,lim) e x)]
 ·rcases hsplit m _ hm with⟨h1,h2⟩|⟨h1,h2⟩
  ·subst h2;exact hx n (r,o,lim) e
  ·exact hx m x h2
end Go.RE
namespace Go.RE
def Qf:TypeDesc→Bool
 | .struct _=>true
 | .array _ _=>true
 |_=>false
theorem iL(r o n:Nat):(⟨r,o,none⟩:Addr).add n=⟨r,o+n,none⟩:=by
 unfold Addr.add;split<;>simp_all
section
variable{P:Program}{w0:World}{ρ:Ren}{s:St}{w:World}{env:PT V}{e:Operand→Value}
def kV(w0:World)(ρ:Ren)(env:PT V)(e:Operand→Value)(x:Operand):Prop:=∀ o v,cO x=some o→o.ev env=some v→aE w0 ρ v (e x)
theorem qF{x:Value}{v:V}(h:rU x=some v):aE w0 ρ v x:=by
 unfold rU at h;split at h<;>simp at h<;>subst h
 ·exact .bool _
 ·exact .int _ _
 ·exact .str rfl
 ·exact .aT
 ·exact .bu
 ·exact .bK
 ·exact .cZ
 ·exact .aK
theorem Yy{f:Value→Option V}(hf:∀ x v,f x=some v→aE w0 ρ v x):∀ {l:List Value} {vs:List V},ofL f l=some vs→aX w0 ρ vs l:=by
 intro l
 induction l with
 |nil=>intro vs h;simp[ofL]at h;subst h;exact .nil
 |cons x xs ih=>
  intro vs h;simp only[ofL]at h;cases hx:f x with
  |none=>simp[hx]at h
  |some v=>
   cases hxs:ofL f xs with
   |none=>simp[hx,hxs]at h
   |some us=>simp[hx,hxs]at h;subst h;exact .cons (hf _ _ hx) (ih hxs)
theorem rS{x:Value}{v:V}(h:ofValue x=some v):aE w0 ρ v x:=by
 unfold ofValue at h;split at h
 ·split at h
  ·rename_i cs l hl;simp at h;subst h;have:=Yy (w0:=w0) (ρ:=ρ) (fun _ _=>qF) hl;simpa using aE.DF this
  ·simp at h
 ·split at h
  ·rename_i y hy;simp at h;subst h;exact .iface (qF hy)
  ·simp at h
 ·exact qF h
theorem CB{v:Value}{o:bB}(h:cO (.const v)=some o):∃ x,o=.c x∧aE w0 ρ x v:=by
 simp only[cO]at h;split at h
 ·rename_i x hx;simp at h;exact⟨x,h.symm,rS hx⟩
 ·simp at h
theorem pK:∀ {l:List Operand} {os:List bB} {vs:List V},nI l=some os→KQ env os=some vs→(∀ x∈l,kV w0 ρ env e x)→aX w0 ρ vs (l.map e):=by
 intro l
 induction l with
 |nil=>intro os vs h h' _;simp[nI]at h;subst h;simp[KQ]at h';subst h';exact .nil
 |cons x xs ih=>
  intro os vs h h' H;simp only[nI]at h;cases hx:cO x with
  |none=>simp[hx]at h
  |some o=>
   cases hxs:nI xs with
   |none=>simp[hx,hxs]at h
   |some os' =>
    simp[hx,hxs]at h;subst h;simp only[KQ]at h';cases hv:o.ev env with
    |none=>simp[hv]at h'
    |some v=>
     cases hvs:KQ env os' with
     |none=>simp[hv,hvs]at h'
     |some us=>
      simp[hv,hvs]at h';subst h';exact .cons (H x (by simp) o v hx hv) (ih hxs hvs fun y hy=>H y (by simp[hy]))
theorem dg{t:TypeId}{n:Nat}(h:iy P t=some n)(w:World):(sizeOf t).run P w=.ok n w:=by
 unfold iy at h;split at h
 ·rename_i i hi;simp at h;simp[sizeOf,typeInfo,hi,h]
 ·simp at h
theorem lR{t:TypeId}{z:V}(h:zeroOf P t=some z):∃ x,(∀ w:World,(zeroValue t).run P w=.ok x w)∧∀ w0 ρ,aE w0 ρ z x:=by
 unfold zeroOf at h;split at h
 ·rename_i i hi;split at h
  ·rename_i x hx;exact⟨x,fun w=>by simp[zeroValue,typeInfo,hi,hx],fun w0 ρ=>rS h⟩
  ·simp at h
 ·simp at h
theorem DI{t:TypeId}{n:Nat}(h:iy P t=some n):∃ i,P.info? t=some i∧i.size=n:=by
 unfold iy at h;split at h
 ·rename_i i hi;simp at h;exact⟨i,hi,h⟩
 ·simp at h
def Cells(w0:World)(ρ:Ren)(w:World)(cs:List V)(r o:Nat):Prop:=∀ i v,cs[i]? =some v→∃ x,w.cell? ⟨r,o+i,none⟩=some x∧aE w0 ρ v x
theorem Rel.cells(h:Rel w0 ρ s w){b r o lim:Nat}{cs:List V}(e:ρ b=some (r,o,lim))(hs:s.row b=some cs):Cells w0 ρ w cs r o:=by
 have ho:=h.ob b r o lim e;unfold St.row at hs;split at hs
 ·rename_i cs' hg;simp at hs;subst hs;rw[hg]at ho;obtain⟨c,t,fr,h1,h2,h3,h4,h5⟩:=ho;intro i v hv;obtain⟨hi,rfl⟩:=cz.1 hv;obtain⟨x,hx,hr⟩:=h5 i hi;exact⟨x,by simp[World.cell?,h1,hx],hr⟩
 ·simp at hs
theorem Rel.VX(h:Rel w0 ρ s w){row:List V}{r o:Nat}{c:Nat→Value}(hr:row≠[]→r<w0.heap.size)(hc:∀ i,i<row.length→w0.cell? ⟨r,o+i,none⟩=some (c i))
  (hv:∀ i (h:i<row.length),aE w0 ρ row[i] (c i)):Cells w0 ρ w row r o:=by
 intro i v he;obtain⟨hi,rfl⟩:=cz.1 he;refine⟨c i,?_,hv i hi⟩;have:=hc i hi;unfold World.cell? at this⊢;rw[h.old r (hr (fun e=>by subst e;simp at hi))];exact this
theorem Cells.list{cs:List V}{r o:Nat}(h:Cells w0 ρ w cs r o)(off n:Nat)(hn:off+n≤cs.length):
  ∃ xs:List Value,xs.length=n∧(∀ j x,xs[j]? =some x→w.cell? ⟨r,o+off+j,none⟩=some x)∧aX w0 ρ ((cs.drop off).take n) xs:=by
 have key:∀ i,i<n→∃ x,w.cell? ⟨r,o+off+i,none⟩=some x∧aE w0 ρ (cs[off+i]?.getD .aT) x:=fun i hi=>by
  obtain⟨x,a,b⟩:=h (off+i) (cs[off+i]'(by omega)) (dm _);refine⟨x,by rw[Nat.add_assoc];exact a,?_⟩;rw[dm (by omega)];exact b
 refine⟨(List.range n).map fun i=>(w.cell? ⟨r,o+off+i,none⟩).getD undef,by simp,fun j x hj=> ?_,?_,fun i h1 h2=> ?_⟩
 ·simp only[List.getElem?_map]at hj;by_cases hjn:j<n
  ·rw[List.getElem?_range hjn]at hj;obtain⟨y,hy,_⟩:=key j hjn;simp[hy]at hj;rw[hy,hj]
  ·rw[List.getElem?_eq_none (by simp;omega)]at hj;simp at hj
 ·simp;omega
 ·simp at h1 h2;obtain⟨x,hx,hr⟩:=key i h2;simp only[List.getElem_map,List.getElem_range,hx,Option.getD_some,List.getElem_take,List.getElem_drop];rw[dm (by omega)]at hr;exact hr
theorem xk{cs:List V}{r o:Nat}(h:Cells w0 ρ w cs r o)(off n:Nat)(hn:off+n≤cs.length):
  ∃ xs:List Value,(loadCells ⟨r,o+off,none⟩ n).run P w=.ok xs.toArray w∧aX w0 ρ ((cs.drop off).take n) xs:=by
 obtain⟨xs,hl,hc,hr⟩:=h.list off n hn;refine⟨xs,?_,hr⟩;have:=run_loadCells_list (P:=P) w ⟨r,o+off,none⟩ xs (fun j v hv=>by rw[iL];exact hc j v hv);rwa[hl]at this
theorem nF{cs:List V}{r o:Nat}(h:Cells w0 ρ w cs r o){t:TypeId}{n:Option Nat}(hn:spread P t=some n){off:Nat}{v:V}(hv:ei n cs off=some v):
  ∃ x,(loadVar t ⟨r,o+off,none⟩).run P w=.ok x w∧aE w0 ρ v x:=by
 unfold spread at hn;have agg:∀ {d:TypeDesc},P.underlying t=some d→Qf d=true→∀ m,iy P t=some m→n=some m→
   ∃ x,(loadVar t ⟨r,o+off,none⟩).run P w=.ok x w∧aE w0 ρ v x:=fun {d} hu hd m hm hnm=>by
  subst hnm;simp only[ei]at hv;cases hb:Nat.ble (off+m) cs.length with
  |false=>simp[hb]at hv
  |true=>
   simp[hb]at hv;subst hv;obtain⟨xs,hx,hr⟩:=xk (P:=P) h off m (ja hb);refine⟨.agg xs.toArray,?_,aE.DF hr⟩;have hagg:(isAgg t).run P w=.ok true w:=by
    unfold isAgg;rw[Sem.run_bind,run_underlying hu w];cases d<;>simp_all [Qf]
   simp[loadVar,hagg,dg hm,hx]
 split at hn
 ·rename_i fs hu;split at hn
  ·rename_i m hm;simp at hn;exact agg hu rfl m hm hn.symm
  ·simp at hn
 ·rename_i k el hu;split at hn
  ·rename_i m hm;simp at hn;exact agg hu rfl m hm hn.symm
  ·simp at hn
 ·rename_i d h1 h2 hu;simp at hn;subst hn;simp only[ei]at hv;obtain⟨x,hx,hr⟩:=h off v hv;refine⟨x,?_,hr⟩;have hagg:(isAgg t).run P w=.ok false w:=by
   unfold isAgg;rw[Sem.run_bind,run_underlying hu w];cases d<;>simp_all [Qf]
  simp[loadVar,hagg,hx]
 ·simp at hn
theorem pM{v:V}{most n:Nat}(h:asNat v most=some n):∃ k m,v=.int k m∧0≤m∧m≤(most:Int)∧m.toNat=n:=by
 unfold asNat at h;split at h
 ·rename_i k m;split at h
  ·rename_i hh;simp at h;exact⟨k,m,rfl,hh.1,hh.2,h⟩
  ·simp at h
 ·simp at h
theorem aE.fN{k:IntKind}{n:Int}{x:Value}(h:aE w0 ρ (.int k n) x):x=.int k n:=by cases h;rfl
theorem run_sliceBound{v:V}{x:Value}{y n:Nat}(c:BoundsCode)(h:asNat v y=some n)(hx:aE w0 ρ v x)(w:World):
  (Instr.sliceBound x y c).run P w=.ok n w:=by
 obtain⟨k,m,rfl,h1,h2,h3⟩:=pM h;rw[hx.fN];simp[Instr.sliceBound,asIntOf,h1,h2,h3]
theorem mZ(k:IntKind)(n:Int)(h0:(if k.signed then -(2:Int)^(k.bits-1)else 0)≤n)(h1:n<(if k.signed then(2:Int)^(k.bits-1)else(2:Int)^k.bits)):k.wrap n=n:=by
 unfold IntKind.wrap;cases k<;>simp only[IntKind.signed,IntKind.bits,Bool.true_and,Bool.false_and,if_true,if_false,mF]at h0 h1⊢ <;>first
  |omega
  |(split
    ·rename_i hh;have hh' :=of_decide_eq_true hh;omega
    ·rename_i hh;have hh' :=of_decide_eq_false (Bool.eq_false_iff.2 hh);omega)
theorem gy(k:IntKind)(n:Int):aD k n=k.wrap n:=by
 unfold aD;cases n with
 |ofNat m=>
  simp only[];cases h:Nat.ble m (HB k)with
  |false=>rfl
  |true=>
   have:=ja h;simp only[cond_true];rw[mZ]
   ·cases k<;>simp only[IntKind.signed,IntKind.bits,if_true,if_false,mF]<;>show _≤(m:Int)<;>omega
   ·cases k<;>simp only[HB]at this<;>simp only[IntKind.signed,IntKind.bits,if_true,if_false,mF]<;>show(m:Int)<_<;>omega
 |negSucc m=>
  simp only[];cases h:k.signed&&Nat.ble m (HB k)with
  |false=>rfl
  |true=>
   rw[cm]at h;have:=ja h.2;have hs:=h.1;simp only[cond_true];rw[mZ]
   ·cases k<;>simp only[IntKind.signed,mF]at hs<;>simp only[HB]at this<;>simp only[IntKind.signed,IntKind.bits,if_true]<;>omega
   ·cases k<;>simp only[IntKind.signed,mF]at hs<;>simp only[IntKind.signed,IntKind.bits,if_true]<;>omega
theorem cu(b:ByteArray):b.toList=b.data.toList:=by
 have key:∀ (n i:Nat) (r:List UInt8),b.size - i=n→ByteArray.toList.loop b i r=r.reverse++b.data.toList.drop i:=by
  intro n
  induction n with
  |zero=>
   intro i r h;rw[ByteArray.toList.loop,if_neg (by omega),List.drop_eq_nil_of_le (by show b.data.toList.length≤i;simp;have:b.size=b.data.size:=rfl;omega)];simp
  |succ n ih=>
   intro i r h;have hi:i<b.size:=by omega
   have hi' :i<b.data.toList.length:=by simpa using hi
   rw[ByteArray.toList.loop,if_pos hi,ih (i+1) _ (by omega),vT hi'];have hg:b.get! i=b.data.toList[i]:=by
    show b.data[i]! =_;have h2:i<b.data.size:=hi;rw[getElem!_pos b.data i h2];simp
   simp[hg]
 have:=key b.size 0 [] (by omega);simpa[ByteArray.toList]using this
theorem Ef{op:BinOp}{k:IntKind}{a b:Int}{v:V}(t:TypeId)(h:kW op k a b=some v)(w:World):
  ∃ x,(Go.binOp op t (.int k a) (.int k b)).run P w=.ok x w∧aE w0 ρ v x:=by
 cases op<;>simp only[kW,gy]at h<;>try (simp at h;done)
 case quo=>
  split at h
  ·simp at h
  ·rename_i hb;simp at h;subst h;exact⟨_,by simp[Go.binOp,Op.intDiv,hb],.int _ _⟩
 case rem=>
  split at h
  ·simp at h
  ·rename_i hb;simp at h;subst h;exact⟨_,by simp[Go.binOp,Op.intDiv,hb],.int _ _⟩
 all_goals (simp only[ay]at h;subst h;refine⟨_,?_,by first|exact .int _ _|exact .bool _⟩;simp only[Go.binOp,ne_eq,not_true_eq_false,if_false];rfl)
theorem uR{op:BinOp}{k j:IntKind}{a b:Int}{v:V}(t:TypeId)(ho:op=.shl∨op=.shr)(h:xw op k a b=some v)(w:World):
  ∃ x,(Go.binOp op t (.int k a) (.int j b)).run P w=.ok x w∧aE w0 ρ v x:=by
 rcases ho with rfl|rfl<;>simp only[xw,gy]at h<;>split at h<;>simp only[reduceCtorEq,ay]at h<;>rename_i hb<;>subst h
 ·exact⟨_,by simp only[Go.binOp,Op.shift,hb,if_false,Sem.run_pure],.int _ _⟩
 ·exact⟨_,by simp only[Go.binOp,Op.shift,hb,if_false,Sem.run_pure],.int _ _⟩
theorem EE{op:BinOp}{a b:List UInt8}{x y:ByteArray}{v:V}(hx:x.data.toList=a)(hy:y.data.toList=b)(h:mL op a b=some v)(w:World):
  ∃ z,(Op.stringOp op x y).run P w=.ok z w∧aE w0 ρ v z:=by
 have ex:x.toList=a:=(cu x).trans hx;have ey:y.toList=b:=(cu y).trans hy;have sx:x.size=a.length:=by rw[←hx];simp
 have sy:y.size=b.length:=by rw[←hy];simp
 cases op<;>simp only[mL]at h<;>try (simp at h;done)
 case add=>
  cases hb:Nat.ble (a.length+b.length) aW with
  |false=>simp[hb]at h
  |true=>
   have hb' :=ja hb;simp only[hb,cond_true,ay]at h;subst h;refine⟨.string (x++y),?_,.str (by rw[←hx,←hy];simp)⟩;have:¬((x.size+y.size:Nat):Int)>IntKind.i64.max:=by
    rw[sx,sy];unfold aW at hb';simp[IntKind.max,IntKind.bits];omega
   simp only[Op.stringOp];rw[if_neg this];rfl
 all_goals (simp only[ay]at h;subst h;refine⟨_,?_,.bool _⟩;simp only[Op.stringOp,ex,ey];rfl)
theorem aE.gB{b:Bool}{x:Value}(h:aE w0 ρ (.bool b) x):x=.bool b:=by cases h;rfl
theorem aE.gd{l:List UInt8}{x:Value}(h:aE w0 ρ (.str l) x):∃ s,x=.string s∧s.data.toList=l:=by cases h;exact⟨_,rfl,by assumption⟩
def rC(P:Program)(t:TypeId):fD→Prop
 | .bool=>P.underlying t=some .bool
 | .int=>∃ j,P.underlying t=some (.int j)
 | .str=>P.underlying t=some .string
 |_=>False
theorem oY{k:fD}{a b:V}{r:Bool}(h:jN k a b=some r):
  (∃ x y,k=.bool∧a=.bool x∧b=.bool y∧r=(x==y))∨(∃ j x y,k=.int∧a=.int j x∧b=.int j y∧r=(x==y))∨(∃ x y,k=.str∧a=.str x∧b=.str y∧r=(x==y)):=by
 unfold jN at h;split at h
 ·simp only[ay]at h;exact .inl ⟨_,_,rfl,rfl,rfl,h.symm⟩
 ·split at h
  ·rename_i hjk;simp only[ay]at h;subst hjk;exact .inr (.inl ⟨_,_,_,rfl,rfl,rfl,h.symm⟩)
  ·simp at h
 ·simp only[ay]at h;exact .inr (.inr ⟨_,_,rfl,rfl,rfl,h.symm⟩)
 ·simp at h
theorem Ct{k:fD}{a b:V}{x y:Value}{r:Bool}(h:jN k a b=some r)(hx:aE w0 ρ a x)(hy:aE w0 ρ b y){t:TypeId}
  (ht:rC P t k) (d:Nat) (w:World):(Op.equalIn (d+1) t x y).run P w=.ok r w:=by
 rcases oY h with⟨p,q,rfl,rfl,rfl,rfl⟩|⟨j,p,q,rfl,rfl,rfl,rfl⟩|⟨p,q,rfl,rfl,rfl,rfl⟩
 ·rw[hx.gB,hy.gB];exact run_equalIn_bool' w d t _ _ ht
 ·rw[hx.fN,hy.fN];obtain⟨j',hj'⟩:=ht;exact run_equalIn_int w d t _ _ _ _ hj'
 ·obtain⟨p,rfl,hp⟩:=hx.gd;obtain⟨q,rfl,hq⟩:=hy.gd;rw[run_equalIn_string w d t _ _ ht,cu,cu,hp,hq]
theorem JJ{f:Field}{fs:List Field}{ks:List (Nat×fD)}(h:uy P (f::fs)=some ks):
  ∃ k r,ks=(f.offset,k)::r∧uy P fs=some r∧f.name≠ "_" ∧(∃ d,P.underlying f.type=some d∧Qf d=false)∧rC P f.type k:=by
 simp only[uy]at h;cases hn:f.name== "_" with
 |true=>simp[hn]at h
 |false=>
  have hn' :f.name≠ "_" :=by simpa using hn
  simp only[hn,cond_false]at h;cases hr:uy P fs with
  |none=>rw[hr]at h;split at h<;>simp_all
  |some r=>
   rw[hr]at h;split at h<;>simp only[ay,reduceCtorEq]at h
   ·rename_i hu he;cases he;exact⟨.bool,r,h.symm,rfl,hn',⟨_,hu,rfl⟩,hu⟩
   ·rename_i j hu he;cases he;exact⟨.int,r,h.symm,rfl,hn',⟨_,hu,rfl⟩,⟨_,hu⟩⟩
   ·rename_i hu he;cases he;exact⟨.str,r,h.symm,rfl,hn',⟨_,hu,rfl⟩,hu⟩
theorem ug{t:TypeId}{d:TypeDesc}(hu:P.underlying t=some d)(hd:Qf d=false){cs:Array Value}{off:Nat}{x:Value}
  (hx:cs[off]? =some x) (w:World):(part t cs off).run P w=.ok x w:=by
 have hagg:(isAgg t).run P w=.ok false w:=by
  unfold isAgg;rw[Sem.run_bind,run_underlying hu w];cases d<;>simp_all [Qf]
 simp[part,hagg,hx]
theorem F0{xs' ys' :Array Value}{xs ys:List V}(hx:aX w0 ρ xs xs'.toList)(hy:aX w0 ρ ys ys'.toList)(d:Nat)(w:World):
  ∀ {fs:List Field} {ks:List (Nat×fD)} {r:Bool},uy P fs=some ks→rO ks xs ys=some r→(Op.eqFields (d+1) xs' ys' fs).run P w=.ok r w:=by
 intro fs
 induction fs with
 |nil=>
  intro ks r h h';simp[uy]at h;subst h;simp[rO]at h';subst h';simp[Op.eqFields]
 |cons f fs ih=>
  intro ks r h h';obtain⟨k,rest,rfl,hr,hn,⟨dd,hu,hdd⟩,hk⟩:=JJ h;simp only[rO]at h';cases ha:xs[f.offset]? with
  |none=>simp[ha]at h'
  |some a=>
   cases hb:ys[f.offset]? with
   |none=>simp[ha,hb]at h'
   |some b=>
    simp only[ha,hb]at h';obtain⟨x,hx1,hx2⟩:=hx.get ha;obtain⟨y,hy1,hy2⟩:=hy.get hb;have px:=ug (P:=P) hu hdd (cs:=xs') (off:=f.offset) (x:=x) (by simpa using hx1) w;have py:=ug (P:=P) hu hdd (cs:=ys') (off:=f.offset) (x:=y) (by simpa using hy1) w;cases he:jN k a b with
    |none=>simp[he]at h'
    |some q=>
     have hq:=Ct he hx2 hy2 hk d w;simp only[Op.eqFields,if_pos hn,Sem.run_bind,px,py,hq,Result.andThen_ok];cases q with
     |true=>simp only[he]at h';simpa using ih hr h'
     |false=>simp[he]at h';subst h';simp
def P9(P:Program)(t:TypeId)(x y:Operand):fD→Prop
 | .bool=>P.underlying t=some .bool
 | .int=>∃ j,P.underlying t=some (.int j)
 | .str=>P.underlying t=some .string
 | .aT=>∃ el,P.underlying t=some (.pointer el)
 | .bu=>∃ el,P.underlying t=some (.slice el)
 | .bK=>∃ a b,P.underlying t=some (.map a b)
 | .cZ=>∃ a b c,P.underlying t=some (.func a b c)
 | .iface g=>(∃ ms,P.underlying t=some (.interface ms))∧g= !(dA x||dA y)
 | .flat ks=>∃ fs,P.underlying t=some (.struct fs)∧uy P fs.toList=some ks∧P.stoodInHeld t=false∧P.eqGuardType P.depth t=false
 | .no=>True
theorem qdO(op:BinOp)(t:TypeId)(x y:Operand):P9 P t x y (Qp P op t x y):=by
 have key:P9 P t x y (Qp P .eql t x y):=by
  simp only[Qp];split
  ·assumption
  ·exact⟨_,by assumption⟩
  ·assumption
  ·exact⟨_,by assumption⟩
  ·exact⟨_,by assumption⟩
  ·exact⟨_,_,by assumption⟩
  ·exact⟨_,_,_,by assumption⟩
  ·exact⟨⟨_,by assumption⟩,rfl⟩
  ·rename_i fs hu;split
   ·rename_i ks hks;cases hs:P.stoodInHeld t with
    |true=>simp[P9]
    |false=>
     cases hg:P.eqGuardType P.depth t with
     |true=>simp[P9]
     |false=>exact⟨fs,hu,hks,hs,hg⟩
   ·trivial
  ·trivial
 cases op<;>first|exact key|trivial
theorem vN{t el:TypeId}(h:P.underlying t=some (.pointer el))(d:Nat)(w:World)(a:Addr):
  (Op.equalIn (d+1) t (.pointer none) (.pointer none)).run P w=.ok true w∧(Op.equalIn (d+1) t (.pointer none) (.pointer (some a))).run P w=.ok false w∧
  (Op.equalIn (d+1) t (.pointer (some a)) (.pointer none)).run P w=.ok false w:=by
 refine⟨?_,?_,?_⟩<;>(unfold Op.equalIn;rw[Sem.run_bind,run_underlying h];rfl)
theorem qh{t el:TypeId}(h:P.underlying t=some (.slice el))(d:Nat)(w:World)(a:Addr)(l c:Nat):
  (Op.equalIn (d+1) t (.slice none 0 0) (.slice none 0 0)).run P w=.ok true w∧(Op.equalIn (d+1) t (.slice none 0 0) (.slice (some a) l c)).run P w=.ok false w∧
  (Op.equalIn (d+1) t (.slice (some a) l c) (.slice none 0 0)).run P w=.ok false w:=by
 refine⟨?_,?_,?_⟩<;>(unfold Op.equalIn;rw[Sem.run_bind,run_underlying h];rfl)
theorem FJ{t k el:TypeId}(h:P.underlying t=some (.map k el))(d:Nat)(w:World)(a:Nat):
  (Op.equalIn (d+1) t (.map none) (.map none)).run P w=.ok true w∧(Op.equalIn (d+1) t (.map none) (.map (some a))).run P w=.ok false w∧
  (Op.equalIn (d+1) t (.map (some a)) (.map none)).run P w=.ok false w:=by
 refine⟨?_,?_,?_⟩<;>(unfold Op.equalIn;rw[Sem.run_bind,run_underlying h];rfl)
theorem D9{t:TypeId}{p q:Array TypeId}{b:Bool}(h:P.underlying t=some (.func p q b))(d:Nat)(w:World)(f:Fn)(x y:Array Value):
  (Op.equalIn (d+1) t .nilFunc .nilFunc).run P w=.ok true w∧(Op.equalIn (d+1) t .nilFunc (.func f x y)).run P w=.ok false w∧
  (Op.equalIn (d+1) t (.func f x y) .nilFunc).run P w=.ok false w:=by
 refine⟨?_,?_,?_⟩<;>(unfold Op.equalIn;rw[Sem.run_bind,run_underlying h];rfl)
theorem Fj{t:TypeId}{ms:Array (String×TypeId)}(h:P.underlying t=some (.interface ms))(d:Nat)(w:World)(u:TypeId)(x:Value):
  (Op.equalIn (d+1) t .nilIface .nilIface).run P w=.ok true w∧(Op.equalIn (d+1) t .nilIface (.iface u x)).run P w=.ok false w∧
  (Op.equalIn (d+1) t (.iface u x) .nilIface).run P w=.ok false w:=by
 refine⟨?_,?_,?_⟩<;>(unfold Op.equalIn;rw[Sem.run_bind,run_underlying h];rfl)
def wj:Value→Value→Bool
 | .nilIface,.nilIface=>false
 | .agg _,.agg _=>false
 |_,_=>true
theorem aZ{op:BinOp}{t:TypeId}{x y:Operand}{u v:Value}(h:wj u v=true)(w:World):(eqGuard op t x y u v).run P w=.ok () w:=by
 cases op<;>first
  |rfl
  |(unfold eqGuard
    simp only[Bool.not_true,mF,if_false];split<;>first|(simp[wj]at h;done)|rfl)
theorem II(d:Nat){op:BinOp}{ek:fD}{t:TypeId}{x y:Operand}{a b:V}{r:Bool}{u v:Value}(hk:P9 P t x y ek)(h:Ga ek a b=some r)(hu:aE w0 ρ a u)(hv:aE w0 ρ b v)(w:World):
  (Op.equalIn (d+2) t u v).run P w=.ok r w∧(eqGuard op t x y u v).run P w=.ok () w:=by
 unfold Ga at h;split at h
 ·simp only[ay]at h;subst h;rw[hu.gB,hv.gB];exact⟨run_equalIn_bool' w _ t _ _ hk,aZ rfl w⟩
 ·simp only[ay]at h;subst h;obtain⟨el,hk⟩:=hk;cases hu;cases hv;exact⟨(vN hk _ w ⟨0,0,none⟩).1,aZ rfl w⟩
 ·simp only[ay]at h;subst h;obtain⟨el,hk⟩:=hk;cases hu;cases hv;exact⟨(vN hk _ w _).2.1,aZ rfl w⟩
 ·simp only[ay]at h;subst h;obtain⟨el,hk⟩:=hk;cases hu;cases hv;exact⟨(vN hk _ w _).2.1,aZ rfl w⟩
 ·simp only[ay]at h;subst h;obtain⟨el,hk⟩:=hk;cases hu;cases hv;exact⟨(vN hk _ w _).2.2,aZ rfl w⟩
 ·simp only[ay]at h;subst h;obtain⟨el,hk⟩:=hk;cases hu;cases hv;exact⟨(vN hk _ w _).2.2,aZ rfl w⟩
 ·simp only[ay]at h;subst h;obtain⟨el,hk⟩:=hk;cases hu;cases hv;exact⟨(qh hk _ w ⟨0,0,none⟩ 0 0).1,aZ rfl w⟩
 ·simp only[ay]at h;subst h;obtain⟨el,hk⟩:=hk;cases hu;cases hv;exact⟨(qh hk _ w _ _ _).2.1,aZ rfl w⟩
 ·simp only[ay]at h;subst h;obtain⟨el,hk⟩:=hk;cases hu;cases hv;exact⟨(qh hk _ w _ _ _).2.1,aZ rfl w⟩
 ·simp only[ay]at h;subst h;obtain⟨el,hk⟩:=hk;cases hu;cases hv;exact⟨(qh hk _ w _ _ _).2.1,aZ rfl w⟩
 ·simp only[ay]at h;subst h;obtain⟨el,hk⟩:=hk;cases hu;cases hv;exact⟨(qh hk _ w _ _ _).2.2,aZ rfl w⟩
 ·simp only[ay]at h;subst h;obtain⟨el,hk⟩:=hk;cases hu;cases hv;exact⟨(qh hk _ w _ _ _).2.2,aZ rfl w⟩
 ·simp only[ay]at h;subst h;obtain⟨el,hk⟩:=hk;cases hu;cases hv;exact⟨(qh hk _ w _ _ _).2.2,aZ rfl w⟩
 ·simp only[ay]at h;subst h;obtain⟨k,el,hk⟩:=hk;cases hu;cases hv;exact⟨(FJ hk _ w 0).1,aZ rfl w⟩
 ·simp only[ay]at h;subst h;obtain⟨k,el,hk⟩:=hk;cases hu;cases hv;exact⟨(FJ hk _ w _).2.1,aZ rfl w⟩
 ·simp only[ay]at h;subst h;obtain⟨k,el,hk⟩:=hk;cases hu;cases hv;exact⟨(FJ hk _ w _).2.2,aZ rfl w⟩
 ·simp only[ay]at h;subst h;obtain⟨p,q,bb,hk⟩:=hk;cases hu;cases hv;exact⟨(D9 hk _ w (.func 0) #[] #[]).1,aZ rfl w⟩
 ·simp only[ay]at h;subst h;obtain⟨p,q,bb,hk⟩:=hk;cases hu;cases hv;exact⟨(D9 hk _ w _ _ _).2.1,aZ rfl w⟩
 ·simp only[ay]at h;subst h;obtain⟨p,q,bb,hk⟩:=hk;cases hu;cases hv;exact⟨(D9 hk _ w _ _ _).2.2,aZ rfl w⟩
 ·obtain⟨⟨ms,hk⟩,hg⟩:=hk;simp only[ay]at h;subst h;cases hu;cases hv;refine⟨(Fj hk _ w 0 .nilFunc).1,?_⟩;have hg' :dA x=true∨dA y=true:=by
   cases hx:dA x
   ·rw[hx]at hg;right;simpa using hg.symm
   ·exact .inl rfl
  cases op<;>first
   |rfl
   |(unfold eqGuard
     simp only[Bool.not_true,mF,if_false];rw[if_pos]
     ·rfl
     ·rcases hg' with hg' |hg'
      ·cases x<;>simp[dA]at hg'⊢
      ·cases y<;>simp[dA]at hg'⊢)
 ·obtain⟨⟨ms,hk⟩,hg⟩:=hk;simp only[ay]at h;subst h;cases hu;cases hv;exact⟨(Fj hk _ w _ _).2.1,aZ rfl w⟩
 ·obtain⟨⟨ms,hk⟩,hg⟩:=hk;simp only[ay]at h;subst h;cases hu;cases hv;exact⟨(Fj hk _ w _ _).2.2,aZ rfl w⟩
 ·obtain⟨fs,hk,hks,hs,hg⟩:=hk;cases hu with
  |agg ha va=>
   cases hv with
   |agg hb vb=>
    refine⟨?_,run_eqGuard_agg w op t x y _ _ hg⟩;have hf:P.fieldsOf t=fs:=by simp[Program.fieldsOf,hk]
    rw[run_equalIn_struct (P:=P) w (d+1) t _ _ (by rw[hf];exact hk) hs,hf];exact F0 (aX.of_array ha va) (aX.of_array hb vb) d w hks h
 ·simp at h
theorem PX{op:BinOp}{ek:fD}{t:TypeId}{x y:Operand}{a b:V}{r:Bool}{u v:Value}(hk:P9 P t x y ek)(h:Ga ek a b=some r)(hu:aE w0 ρ a u)(hv:aE w0 ρ b v)(w:World):
  (Op.equal t u v).run P w=.ok r w∧(eqGuard op t x y u v).run P w=.ok () w:=II 9998 hk h hu hv w
end
end Go.RE
